import Derived.Test.YtadagifjonbmjaaGreatDoorKq0
import Derived.Test.YtadagifjonbmjaaGreatDoorProg
set_option linter.all false
set_option maxHeartbeats 2000000
namespace Go.CP
open Go.Proofs
abbrev ic [LG] [HK] (K : Ctx) (p : List Nat) := Runs K 13 21 none (aG p (aq Tryz.f13))
abbrev ct [LG] [HK] (K : Ctx) (p : List Nat) := Runs K 17 72 none (aG p (aq Tryz.f17))
abbrev nV [LG] [HK] (K : Ctx) (p : List Nat) := Runs K 19 27 none (aG p (aq Tryz.f19))
abbrev jy [LG] [HK] (K : Ctx) (p : List Nat) := Runs K 23 27 none (aG p (aq Tryz.f23))
abbrev eS [LG] [HK] (K : Ctx) (p : List Nat) := Runs K 24 46 none (aG p (aq Tryz.f24))
abbrev dM [LG] [HK] (K : Ctx) (p : List Nat) := Runs K 57 45 none (aG p (aq Tryz.f57))
abbrev nW [LG] [HK] (K : Ctx) (p : List Nat) := Runs K 58 23 none (aG p (aq Tryz.f58))
abbrev nX [LG] [HK] (K : Ctx) (p : List Nat) := Runs K 60 27 none (aG p (aq Tryz.f60))
abbrev Po [LG] [HK] (K : Ctx) (p : List Nat) := Runs K 68 9 none (aG p (aq Tryz.f68))
abbrev jm [LG] [HK] (K : Ctx) (p : List Nat) := Runs K 106 24 none (aG p (aq Tryz.f106))
abbrev kH [LG] [HK] (K : Ctx) (p : List Nat) := Runs K 107 19 none (aG p (aq Tryz.f107))
abbrev Ic [LG] [HK] (K : Ctx) (p : List Nat) := Runs K 111 9 none (aG p (aq Tryz.f111))
abbrev Ie [LG] [HK] (K : Ctx) (p : List Nat) := Runs K 112 8 none (aG p (aq Tryz.f112))
abbrev ir [LG] [HK] (K : Ctx) (p : List Nat) := Runs K 140 19 none (aG p (aq Tryz.f140))
variable [LG] [HK] {K : Ctx} {s : Fr} {h : Hp} (hk : ∀ o, HK.keep o = false)
include hk
theorem yz : ic K [0] s h .normal (W s 4 ff) h :=
 rg (Ra (v := ff) rfl rfl rfl (RunL.nil))
theorem FD {v0 r8 v1 r10 : CV} (i0 : s.at 0 = v0) (i1 : s.at 1 = v1) (o8 : aj h v0 (ae K.P 22) = some r8) (o10 : ab K.P .gtr 3 r8 v1 = some r10) : ic K [1, 0, 0] s h .normal (W4 s 7 v0 8 r8 9 v1 10 r10) h :=
 rg (Rm rfl rfl i0 (R1 (v := r8) rfl (aH rfl rfl rfl rfl rfl o8) (Rm rfl rfl i1 (Rb rfl rfl rfl rfl o10 (RunL.nil)))))
theorem Pp : ic K [1, 0, 1, 0, 0] s h .normal (W s 4 tt) h :=
 rg (Ra (v := tt) rfl rfl rfl (RunL.nil))
theorem Pq {v0 r12 : CV} (i0 : s.at 0 = v0) (o12 : aj h v0 (ae K.P 22) = some r12) : ic K [1, 1, 0, 0] s h .normal (W (W (W s 11 v0) 12 r12) 13 n0) h :=
 rg (Rm rfl rfl i0 (R1 (v := r12) rfl (aH rfl rfl rfl rfl rfl o12) (Rm (v := n0) rfl rfl rfl (RunL.nil))))
theorem yA {v13 v12 r14 : CV} (i13 : s.at 13 = v13) (i12 : s.at 12 = v12) (o14 : ab K.P .lss 3 v13 v12 = some r14) : ic K [1, 1, 0, 1, 0, 0, 0] s h .normal (W s 14 r14) h :=
 rg (Rb rfl rfl i13 i12 o14 (RunL.nil))
theorem FE {v11 v13 r15 r16 : CV} (i11 : s.at 11 = v11) (i13 : s.at 13 = v13) (o15 : af v11 v13 (ae K.P 22) = some r15) (o16 : al h r15 (ar K.P 46) = some r16) : ic K [1, 1, 0, 1, 0, 0, 1, 1, 0, 0, 0] s h .normal (W (W (W s 15 r15) 16 r16) 6 r16) h :=
 rg (R1 (v := r15) rfl (ba rfl i11 i13 o15) (R1 (v := r16) rfl (aI rfl rfl o16) (Ra (v := r16) rfl rfl rfl (RunL.nil))))
theorem FG {v6 r18 r19 : CV} (i6 : s.at 6 = v6) (o18 : aj h v6 (ae K.P 46) = some r18) (o19 : ab K.P .gtr 3 r18 (.nu .i64 12) = some r19) : ic K [1, 1, 0, 1, 0, 0, 1, 1, 0, 0, 1, 0] s h .normal (W (W (W s 17 v6) 18 r18) 19 r19) h :=
 rg (Rm rfl rfl i6 (R1 (v := r18) rfl (aH rfl rfl rfl rfl rfl o18) (Rb rfl rfl rfl rfl o19 (RunL.nil))))
theorem Pr : ic K [1, 1, 0, 1, 0, 0, 1, 1, 0, 0, 1, 1, 0, 0] s h .normal (W s 4 tt) h :=
 rg (Ra (v := tt) rfl rfl rfl (RunL.nil))
theorem Ps {v13 r20 : CV} (i13 : s.at 13 = v13) (o20 : ab K.P .add 3 v13 (.nu .i64 1) = some r20) : ic K [1, 1, 0, 1, 0, 0, 1, 1, 1] s h .normal (W (W s 20 r20) 13 r20) h :=
 rg (Rb rfl rfl i13 rfl o20 (Rm (v := r20) rfl rfl rfl (RunL.nil)))
theorem Pt : ic K [1, 1, 1, 0] s h .normal (W s 4 ff) h :=
 rg (Ra (v := ff) rfl rfl rfl (RunL.nil))
theorem yB : ct K [0] s h .normal (W s 2 n0) h :=
 rg (Ra (v := n0) rfl rfl rfl (RunL.nil))
theorem FH {v0 r8 r9 : CV} (i0 : s.at 0 = v0) (o8 : aj h v0 (ae K.P 26) = some r8) (o9 : ab K.P .gtr 3 r8 (.nu .i64 1024) = some r9) : ct K [1, 0, 0] s h .normal (W (W (W s 7 v0) 8 r8) 9 r9) h :=
 rg (Rm rfl rfl i0 (R1 (v := r8) rfl (aH rfl rfl rfl rfl rfl o8) (Rb rfl rfl rfl rfl o9 (RunL.nil))))
theorem Pu : ct K [1, 0, 1, 0, 0] s h .normal (W s 2 (.nu .i64 3)) h :=
 rg (Ra (v := (.nu .i64 3)) rfl rfl rfl (RunL.nil))
theorem FI : ct K [1, 1, 0, 0] s h .normal (W s 3 n0) h :=
 rg (Ra (v := n0) rfl rfl rfl (RunL.nil))
theorem FJ {v3 v0 r12 r13 : CV} (i3 : s.at 3 = v3) (i0 : s.at 0 = v0) (o12 : aj h v0 (ae K.P 26) = some r12) (o13 : ab K.P .lss 3 v3 r12 = some r13) : ct K [1, 1, 0, 1, 0, 0, 0, 0] s h .normal (W4 s 10 v3 11 v0 12 r12 13 r13) h :=
 rg (Rm rfl rfl i3 (Rm rfl rfl i0 (R1 (v := r12) rfl (aH rfl rfl rfl rfl rfl o12) (Rb rfl rfl rfl rfl o13 (RunL.nil)))))
theorem FK {v0 v3 r18 r19 r20 : CV} {g1 : Hp} (i0 : s.at 0 = v0) (i3 : s.at 3 = v3) (o18 : af v0 v3 (ae K.P 26) = some r18) (o19 : al h r18 (ar K.P 45) = some r19) (pg1 : K.prim 57 [r19] = none) (wg1 : Comes K 57 [r19] h r20 g1) : ct K [1, 1, 0, 1, 0, 0, 1, 0, 0, 0, 0] s h .normal (W (W (W4 s 16 v0 17 v3 18 r18 19 r19) 20 r20) 4 r20) g1 :=
 rg (Rm rfl rfl i0 (Rm rfl rfl i3 (R1 (v := r18) rfl (ba rfl rfl rfl o18) (R1 (v := r19) rfl (aI rfl rfl o19) (RunL.call (v := r20) rfl rfl rfl rfl rfl pg1 wg1 (Ra (v := r20) rfl rfl rfl (RunL.nil)))))))
theorem FL {v4 r22 : CV} (i4 : s.at 4 = v4) (o22 : ab K.P .neq 29 v4 n0 = some r22) : ct K [1, 1, 0, 1, 0, 0, 1, 0, 0, 0, 1, 0] s h .normal (W (W s 21 v4) 22 r22) h :=
 rg (Rm rfl rfl i4 (Rb rfl rfl rfl rfl o22 (RunL.nil)))
theorem Pv {v4 : CV} (i4 : s.at 4 = v4) : ct K [1, 1, 0, 1, 0, 0, 1, 0, 0, 0, 1, 1, 0, 0] s h .normal (W (W s 23 v4) 2 v4) h :=
 rg (Rm rfl rfl i4 (Ra (v := v4) rfl rfl rfl (RunL.nil)))
theorem yC {v3 v0 r29 r30 r33 r34 r35 r36 r37 r38 : CV} {g1 : Hp} (hp : K.plan 17 9 = some [.o 0 [],.o 1 [],.o 2 [],.t 3,.t 4,.t 5,.t 6,.t 7,.o 8 [7, 6, 5, 4, 3],.o 9 [7, 6, 5, 4, 3],.o 10 [6, 5, 4, 3],.o 11 [6, 5, 4, 3],.o 12 [],.o 13 [],.o 14 []]) (i3 : s.at 3 = v3) (i0 : s.at 0 = v0) (o25 : ab K.P .gtr 3 v3 n0 = some tt) (o29 : af v0 v3 (ae K.P 26) = some r29) (o30 : al h r29 (ar K.P 45) = some r30) (q30 : ceq r30 r30 = true) (o33 : ab K.P .sub 3 v3 (.nu .i64 1) = some r33) (o34 : af v0 r33 (ae K.P 26) = some r34) (o35 : al h r34 (ar K.P 45) = some r35) (pg1 : K.prim 38 [r30, r35] = none) (wg1 : Comes K 38 [r30, r35] h r36 g1) (o37 : ab K.P .eql 3 r36 n0 = some r37) (o38 : ap r37 ff tt = some r38) : ct K [1, 1, 0, 1, 0, 0, 1, 0, 0, 1, 0, 0] s h .normal (W (W (W (W4 (W8 s 24 v3 25 tt 26 tt 27 v0 28 v3 29 r29 30 r30 31 v0) 32 v3 33 r33 34 r34 35 r35) 36 r36) 37 r37) 38 r38) g1 :=
 Runs.drawn hp (RunP.only (v := v3) rfl rfl (Q1.e (aQ rfl i3)) rfl (RunP.only (v := tt) rfl rfl (Q1.e (cn rfl rfl rfl o25)) rfl (RunP.only (v := tt) rfl rfl (Q1.e (aQ rfl rfl)) rfl (RunP.q (v := v0) rfl rfl (aQ rfl i0) (RunP.q (v := v3) rfl rfl (aQ rfl i3) (RunP.q (v := r29) rfl rfl (ba rfl rfl rfl o29) (RunP.q (v := r30) rfl rfl (aI rfl rfl o30) (RunP.q (v := v0) rfl rfl (aQ rfl i0) (RunP.only (v := v3) rfl rfl (Q1.e (aQ rfl i3)) (by simp (decide := true) only [bF, bA, qX, ev, Fr.putO, aK, reduceIte, Nat.reduceEqDiff, List.filter_cons, List.filter_nil, List.any_cons, List.any_nil, List.all_cons, List.all_nil, List.getElem_toArray, List.getElem_cons_succ, List.getElem_cons_zero, Option.map_some, Option.map_none, aP, aY, Bool.and_true, Bool.true_and, Bool.and_self, i3, i0, o25, o29, o30, q30]) (RunP.only (v := r33) rfl rfl (Q1.e (cn rfl rfl rfl o33)) (by simp (decide := true) only [bF, bA, qX, ev, Fr.putO, aK, reduceIte, Nat.reduceEqDiff, List.filter_cons, List.filter_nil, List.any_cons, List.any_nil, List.all_cons, List.all_nil, List.getElem_toArray, List.getElem_cons_succ, List.getElem_cons_zero, Option.map_some, Option.map_none, aP, aY, Bool.and_true, Bool.true_and, Bool.and_self, i3, i0, o25, o29, o30, q30, o33]) (RunP.only (v := r34) rfl rfl (Q1.e (ba rfl rfl rfl o34)) (by simp (decide := true) only [bF, bA, qX, ev, Fr.putO, aK, reduceIte, Nat.reduceEqDiff, List.filter_cons, List.filter_nil, List.any_cons, List.any_nil, List.all_cons, List.all_nil, List.getElem_toArray, List.getElem_cons_succ, List.getElem_cons_zero, Option.map_some, Option.map_none, aP, aY, Bool.and_true, Bool.true_and, Bool.and_self, i3, i0, o25, o29, o30, q30, o33, o34]) (RunP.only (v := r35) rfl rfl (Q1.e (aI rfl rfl o35)) (by simp (decide := true) only [bF, bA, qX, ev, Fr.putO, aK, reduceIte, Nat.reduceEqDiff, List.filter_cons, List.filter_nil, List.any_cons, List.any_nil, List.all_cons, List.all_nil, List.getElem_toArray, List.getElem_cons_succ, List.getElem_cons_zero, Option.map_some, Option.map_none, aP, aY, Bool.and_true, Bool.true_and, Bool.and_self, i3, i0, o25, o29, o30, q30, o33, o34, o35]) (RunP.call (v := r36) rfl rfl rfl rfl rfl rfl pg1 wg1 rfl (RunP.only (v := r37) rfl rfl (Q1.e (cn rfl rfl rfl o37)) rfl (RunP.only (v := r38) rfl rfl (Q1.e (aL rfl rfl rfl rfl o38)) rfl (RunP.nil))))))))))))))))
theorem If {v3 r38 : CV} (hp : K.plan 17 9 = some [.o 0 [],.o 1 [],.o 2 [],.t 3,.t 4,.t 5,.t 6,.t 7,.o 8 [7, 6, 5, 4, 3],.o 9 [7, 6, 5, 4, 3],.o 10 [6, 5, 4, 3],.o 11 [6, 5, 4, 3],.o 12 [],.o 13 [],.o 14 []]) (i3 : s.at 3 = v3) (o25 : ab K.P .gtr 3 v3 n0 = some ff) (o38 : ap .skp ff ff = some r38) : ct K [1, 1, 0, 1, 0, 0, 1, 0, 0, 1, 0, 0] s h .normal (W (W (W (W4 (W8 s 24 v3 25 ff 26 ff 27 .skp 28 .skp 29 .skp 30 .skp 31 .skp) 32 .skp 33 .skp 34 .skp 35 .skp) 36 .skp) 37 .skp) 38 r38) h :=
 Runs.drawn hp (RunP.only (v := v3) rfl rfl (Q1.e (aQ rfl i3)) rfl (RunP.only (v := ff) rfl rfl (Q1.e (cn rfl rfl rfl o25)) rfl (RunP.only (v := ff) rfl rfl (Q1.e (aQ rfl rfl)) rfl (bu rfl rfl (bu rfl rfl (bu rfl rfl (bu rfl rfl (bu rfl rfl (bv rfl rfl (bv rfl rfl (bv rfl rfl (bv rfl rfl (bv rfl rfl (bv rfl rfl (RunP.only (v := r38) rfl rfl (Q1.e (aL rfl rfl rfl rfl o38)) rfl (RunP.nil))))))))))))))))
theorem LF : ct K [1, 1, 0, 1, 0, 0, 1, 0, 0, 1, 0, 1, 0, 0] s h .normal (W s 2 (.nu .i64 5)) h :=
 rg (Ra (v := (.nu .i64 5)) rfl rfl rfl (RunL.nil))
theorem vO {v3 v0 r44 r45 r48 r49 r50 r51 r52 r53 : CV} {g1 : Hp} (hp : K.plan 17 11 = some [.o 0 [],.o 1 [],.o 2 [],.t 3,.t 4,.t 5,.t 6,.t 7,.o 8 [7, 6, 5, 4, 3],.o 9 [7, 6, 5, 4, 3],.o 10 [6, 5, 4, 3],.o 11 [6, 5, 4, 3],.o 12 [],.o 13 [],.o 14 []]) (i3 : s.at 3 = v3) (i0 : s.at 0 = v0) (o40 : ab K.P .gtr 3 v3 n0 = some tt) (o44 : af v0 v3 (ae K.P 26) = some r44) (o45 : al h r44 (ar K.P 45) = some r45) (q45 : ceq r45 r45 = true) (o48 : ab K.P .sub 3 v3 (.nu .i64 1) = some r48) (o49 : af v0 r48 (ae K.P 26) = some r49) (o50 : al h r49 (ar K.P 45) = some r50) (pg1 : K.prim 38 [r45, r50] = none) (wg1 : Comes K 38 [r45, r50] h r51 g1) (o52 : ab K.P .lss 3 r51 n0 = some r52) (o53 : ap r52 ff tt = some r53) : ct K [1, 1, 0, 1, 0, 0, 1, 0, 0, 1, 1, 0, 0] s h .normal (W (W (W (W4 (W8 s 39 v3 40 tt 41 tt 42 v0 43 v3 44 r44 45 r45 46 v0) 47 v3 48 r48 49 r49 50 r50) 51 r51) 52 r52) 53 r53) g1 :=
 Runs.drawn hp (RunP.only (v := v3) rfl rfl (Q1.e (aQ rfl i3)) rfl (RunP.only (v := tt) rfl rfl (Q1.e (cn rfl rfl rfl o40)) rfl (RunP.only (v := tt) rfl rfl (Q1.e (aQ rfl rfl)) rfl (RunP.q (v := v0) rfl rfl (aQ rfl i0) (RunP.q (v := v3) rfl rfl (aQ rfl i3) (RunP.q (v := r44) rfl rfl (ba rfl rfl rfl o44) (RunP.q (v := r45) rfl rfl (aI rfl rfl o45) (RunP.q (v := v0) rfl rfl (aQ rfl i0) (RunP.only (v := v3) rfl rfl (Q1.e (aQ rfl i3)) (by simp (decide := true) only [bF, bA, qX, ev, Fr.putO, aK, reduceIte, Nat.reduceEqDiff, List.filter_cons, List.filter_nil, List.any_cons, List.any_nil, List.all_cons, List.all_nil, List.getElem_toArray, List.getElem_cons_succ, List.getElem_cons_zero, Option.map_some, Option.map_none, aP, aY, Bool.and_true, Bool.true_and, Bool.and_self, i3, i0, o40, o44, o45, q45]) (RunP.only (v := r48) rfl rfl (Q1.e (cn rfl rfl rfl o48)) (by simp (decide := true) only [bF, bA, qX, ev, Fr.putO, aK, reduceIte, Nat.reduceEqDiff, List.filter_cons, List.filter_nil, List.any_cons, List.any_nil, List.all_cons, List.all_nil, List.getElem_toArray, List.getElem_cons_succ, List.getElem_cons_zero, Option.map_some, Option.map_none, aP, aY, Bool.and_true, Bool.true_and, Bool.and_self, i3, i0, o40, o44, o45, q45, o48]) (RunP.only (v := r49) rfl rfl (Q1.e (ba rfl rfl rfl o49)) (by simp (decide := true) only [bF, bA, qX, ev, Fr.putO, aK, reduceIte, Nat.reduceEqDiff, List.filter_cons, List.filter_nil, List.any_cons, List.any_nil, List.all_cons, List.all_nil, List.getElem_toArray, List.getElem_cons_succ, List.getElem_cons_zero, Option.map_some, Option.map_none, aP, aY, Bool.and_true, Bool.true_and, Bool.and_self, i3, i0, o40, o44, o45, q45, o48, o49]) (RunP.only (v := r50) rfl rfl (Q1.e (aI rfl rfl o50)) (by simp (decide := true) only [bF, bA, qX, ev, Fr.putO, aK, reduceIte, Nat.reduceEqDiff, List.filter_cons, List.filter_nil, List.any_cons, List.any_nil, List.all_cons, List.all_nil, List.getElem_toArray, List.getElem_cons_succ, List.getElem_cons_zero, Option.map_some, Option.map_none, aP, aY, Bool.and_true, Bool.true_and, Bool.and_self, i3, i0, o40, o44, o45, q45, o48, o49, o50]) (RunP.call (v := r51) rfl rfl rfl rfl rfl rfl pg1 wg1 rfl (RunP.only (v := r52) rfl rfl (Q1.e (cn rfl rfl rfl o52)) rfl (RunP.only (v := r53) rfl rfl (Q1.e (aL rfl rfl rfl rfl o53)) rfl (RunP.nil))))))))))))))))
theorem FM {v3 r53 : CV} (hp : K.plan 17 11 = some [.o 0 [],.o 1 [],.o 2 [],.t 3,.t 4,.t 5,.t 6,.t 7,.o 8 [7, 6, 5, 4, 3],.o 9 [7, 6, 5, 4, 3],.o 10 [6, 5, 4, 3],.o 11 [6, 5, 4, 3],.o 12 [],.o 13 [],.o 14 []]) (i3 : s.at 3 = v3) (o40 : ab K.P .gtr 3 v3 n0 = some ff) (o53 : ap .skp ff ff = some r53) : ct K [1, 1, 0, 1, 0, 0, 1, 0, 0, 1, 1, 0, 0] s h .normal (W (W (W (W4 (W8 s 39 v3 40 ff 41 ff 42 .skp 43 .skp 44 .skp 45 .skp 46 .skp) 47 .skp 48 .skp 49 .skp 50 .skp) 51 .skp) 52 .skp) 53 r53) h :=
 Runs.drawn hp (RunP.only (v := v3) rfl rfl (Q1.e (aQ rfl i3)) rfl (RunP.only (v := ff) rfl rfl (Q1.e (cn rfl rfl rfl o40)) rfl (RunP.only (v := ff) rfl rfl (Q1.e (aQ rfl rfl)) rfl (bu rfl rfl (bu rfl rfl (bu rfl rfl (bu rfl rfl (bu rfl rfl (bv rfl rfl (bv rfl rfl (bv rfl rfl (bv rfl rfl (bv rfl rfl (bv rfl rfl (RunP.only (v := r53) rfl rfl (Q1.e (aL rfl rfl rfl rfl o53)) rfl (RunP.nil))))))))))))))))
theorem LH : ct K [1, 1, 0, 1, 0, 0, 1, 0, 0, 1, 1, 0, 1, 0, 0] s h .normal (W s 2 (.nu .i64 6)) h :=
 rg (Ra (v := (.nu .i64 6)) rfl rfl rfl (RunL.nil))
theorem LI {v0 v3 r56 r57 r58 : CV} {g1 : Hp} (i0 : s.at 0 = v0) (i3 : s.at 3 = v3) (o56 : af v0 v3 (ae K.P 26) = some r56) (o57 : al h r56 (ar K.P 45) = some r57) (pg1 : K.prim 58 [r57] = none) (wg1 : Comes K 58 [r57] h r58 g1) : ct K [1, 1, 0, 1, 0, 0, 1, 0, 0, 1, 1, 1, 0] s h .normal (W (W (W4 s 54 v0 55 v3 56 r56 57 r57) 58 r58) 5 r58) g1 :=
 rg (Rm rfl rfl i0 (Rm rfl rfl i3 (R1 (v := r56) rfl (ba rfl rfl rfl o56) (R1 (v := r57) rfl (aI rfl rfl o57) (RunL.call (v := r58) rfl rfl rfl rfl rfl pg1 wg1 (Ra (v := r58) rfl rfl rfl (RunL.nil)))))))
theorem Bu : ct K [1, 1, 0, 1, 0, 0, 1, 0, 0, 1, 1, 1, 1, 0] s h .normal (W s 6 n0) h :=
 rg (Ra (v := n0) rfl rfl rfl (RunL.nil))
theorem uD {v6 v5 r61 r62 : CV} (i6 : s.at 6 = v6) (i5 : s.at 5 = v5) (o61 : aj h v5 (ae K.P 26) = some r61) (o62 : ab K.P .lss 3 v6 r61 = some r62) : ct K [1, 1, 0, 1, 0, 0, 1, 0, 0, 1, 1, 1, 1, 1, 0, 0, 0, 0] s h .normal (W4 s 59 v6 60 v5 61 r61 62 r62) h :=
 rg (Rm rfl rfl i6 (Rm rfl rfl i5 (R1 (v := r61) rfl (aH rfl rfl rfl rfl rfl o61) (Rb rfl rfl rfl rfl o62 (RunL.nil)))))
theorem Bw {v0 v5 v6 r68 r69 r70 r71 : CV} {g1 : Hp} (i0 : s.at 0 = v0) (i5 : s.at 5 = v5) (i6 : s.at 6 = v6) (o68 : af v5 v6 (ae K.P 26) = some r68) (o69 : al h r68 (ar K.P 45) = some r69) (pg1 : K.prim 28 [v0, r69] = none) (wg1 : Comes K 28 [v0, r69] h r70 g1) (o71 : ab K.P .lss 3 r70 n0 = some r71) : ct K [1, 1, 0, 1, 0, 0, 1, 0, 0, 1, 1, 1, 1, 1, 0, 0, 1, 0, 0, 0] s h .normal (W (W (W (W4 s 65 v0 66 v5 67 v6 68 r68) 69 r69) 70 r70) 71 r71) g1 :=
 rg (Rm rfl rfl i0 (Rm rfl rfl i5 (Rm rfl rfl i6 (R1 (v := r68) rfl (ba rfl rfl rfl o68) (R1 (v := r69) rfl (aI rfl rfl o69) (RunL.call (v := r70) rfl rfl rfl rfl rfl pg1 wg1 (Rb rfl rfl rfl rfl o71 (RunL.nil))))))))
theorem LJ : ct K [1, 1, 0, 1, 0, 0, 1, 0, 0, 1, 1, 1, 1, 1, 0, 0, 1, 0, 0, 1, 0, 0] s h .normal (W s 2 (.nu .i64 7)) h :=
 rg (Ra (v := (.nu .i64 7)) rfl rfl rfl (RunL.nil))
theorem LK {v6 r64 : CV} (i6 : s.at 6 = v6) (o64 : ab K.P .add 3 v6 (.nu .i64 1) = some r64) : ct K [1, 1, 0, 1, 0, 0, 1, 0, 0, 1, 1, 1, 1, 1, 0, 0, 1, 1] s h .normal (W (W (W s 63 v6) 64 r64) 6 r64) h :=
 rg (Rm rfl rfl i6 (Rb rfl rfl rfl rfl o64 (Ra (v := r64) rfl rfl rfl (RunL.nil))))
theorem Pw {v3 r15 : CV} (i3 : s.at 3 = v3) (o15 : ab K.P .add 3 v3 (.nu .i64 1) = some r15) : ct K [1, 1, 0, 1, 0, 0, 1, 1] s h .normal (W (W (W s 14 v3) 15 r15) 3 r15) h :=
 rg (Rm rfl rfl i3 (Rb rfl rfl rfl rfl o15 (Ra (v := r15) rfl rfl rfl (RunL.nil))))
theorem LL : ct K [1, 1, 1, 0] s h .normal (W s 2 n0) h :=
 rg (Ra (v := n0) rfl rfl rfl (RunL.nil))
theorem Px : nV K [0] s h .normal (W s 2 .nils) h :=
 rg (Ra (v := .nils) rfl rfl rfl (RunL.nil))
theorem Py : nV K [1, 0] s h .normal (W s 3 .nils) h :=
 rg (Ra (v := .nils) rfl rfl rfl (RunL.nil))
theorem Pz : nV K [1, 1, 0, 0] s h .normal (W s 4 n0) h :=
 rg (Ra (v := n0) rfl rfl rfl (RunL.nil))
theorem yD {v4 v0 r7 r8 : CV} (i4 : s.at 4 = v4) (i0 : s.at 0 = v0) (o7 : aj h v0 (ae K.P 26) = some r7) (o8 : ab K.P .lss 3 v4 r7 = some r8) : nV K [1, 1, 0, 1, 0, 0, 0, 0] s h .normal (W4 s 5 v4 6 v0 7 r7 8 r8) h :=
 rg (Rm rfl rfl i4 (Rm rfl rfl i0 (R1 (v := r7) rfl (aH rfl rfl rfl rfl rfl o7) (Rb rfl rfl rfl rfl o8 (RunL.nil)))))
theorem FN {v0 v4 r14 r15 r16 r17 r18 : CV} {g1 : Hp} (i0 : s.at 0 = v0) (i4 : s.at 4 = v4) (o14 : af v0 v4 (ae K.P 26) = some r14) (o15 : al h r14 (ar K.P 45) = some r15) (pg1 : K.prim 60 [v0, r15] = none) (wg1 : Comes K 60 [v0, r15] h r16 g1) (o17 : aj g1 r16 (ae K.P 26) = some r17) (o18 : ab K.P .eql 3 r17 (.nu .i64 1) = some r18) : nV K [1, 1, 0, 1, 0, 0, 1, 0, 0, 0] s h .normal (W8 s 11 v0 12 v0 13 v4 14 r14 15 r15 16 r16 17 r17 18 r18) g1 :=
 rg (Rm rfl rfl i0 (Rm rfl rfl i0 (Rm rfl rfl i4 (R1 (v := r14) rfl (ba rfl rfl rfl o14) (R1 (v := r15) rfl (aI rfl rfl o15) (RunL.call (v := r16) rfl rfl rfl rfl rfl pg1 wg1 (R1 (v := r17) rfl (aH rfl rfl rfl rfl rfl o17) (Rb rfl rfl rfl rfl o18 (RunL.nil)))))))))
theorem PA {v3 v0 v4 r22 r23 r25 : CV} {F24 : Nat → CV} {B24 : HB} {g1 : Hp} (i3 : s.at 3 = v3) (i0 : s.at 0 = v0) (i4 : s.at 4 = v4) (o22 : af v0 v4 (ae K.P 26) = some r22) (o23 : al h r22 (ar K.P 45) = some r23) (o24 : aM 1 [(0, r23)] (ae K.P 26) = some (F24, B24)) (wg1 : aT (h.push B24) v3 (F24 (h).n) (ae K.P 26) (ae K.P 26) = some (r25, g1)) : nV K [1, 1, 0, 1, 0, 0, 1, 0, 0, 1, 0] s h .normal (W8 s 19 v3 20 v0 21 v4 22 r22 23 r23 24 (F24 (h).n) 25 r25 3 r25) g1 :=
 rg (Rm rfl rfl i3 (Rm rfl rfl i0 (Rm rfl rfl i4 (R1 (v := r22) rfl (ba rfl rfl rfl o22) (R1 (v := r23) rfl (aI rfl rfl o23) (RunL.op (v := (F24 (h).n)) rfl (bE rfl rfl o24) (RunL.op (v := r25) rfl (cj hk rfl rfl rfl rfl rfl rfl wg1) (Ra (v := r25) rfl rfl rfl (RunL.nil)))))))))
theorem FO {v4 r10 : CV} (i4 : s.at 4 = v4) (o10 : ab K.P .add 3 v4 (.nu .i64 1) = some r10) : nV K [1, 1, 0, 1, 0, 0, 1, 1] s h .normal (W (W (W s 9 v4) 10 r10) 4 r10) h :=
 rg (Rm rfl rfl i4 (Rb rfl rfl rfl rfl o10 (Ra (v := r10) rfl rfl rfl (RunL.nil))))
theorem PC {v3 : CV} (i3 : s.at 3 = v3) : nV K [1, 1, 1, 0] s h .normal (W (W s 26 v3) 2 v3) h :=
 rg (Rm rfl rfl i3 (Ra (v := v3) rfl rfl rfl (RunL.nil)))
theorem yE : jy K [0] s h .normal (W s 4 ff) h :=
 rg (Ra (v := ff) rfl rfl rfl (RunL.nil))
theorem FP {v0 r7 v1 r9 r10 : CV} (i0 : s.at 0 = v0) (i1 : s.at 1 = v1) (o7 : aj h v0 (ae K.P 22) = some r7) (o9 : aj h v1 (ae K.P 26) = some r9) (o10 : ab K.P .neq 3 r7 r9 = some r10) : jy K [1, 0, 0] s h .normal (W (W4 s 6 v0 7 r7 8 v1 9 r9) 10 r10) h :=
 rg (Rm rfl rfl i0 (R1 (v := r7) rfl (aH rfl rfl rfl rfl rfl o7) (Rm rfl rfl i1 (R1 (v := r9) rfl (aH rfl rfl rfl rfl rfl o9) (Rb rfl rfl rfl rfl o10 (RunL.nil))))))
theorem PE : jy K [1, 0, 1, 0, 0] s h .normal (W s 4 ff) h :=
 rg (Ra (v := ff) rfl rfl rfl (RunL.nil))
theorem FQ : jy K [1, 1, 0, 0] s h .normal (W s 5 n0) h :=
 rg (Ra (v := n0) rfl rfl rfl (RunL.nil))
theorem yF {v5 v0 r13 r14 : CV} (i5 : s.at 5 = v5) (i0 : s.at 0 = v0) (o13 : aj h v0 (ae K.P 22) = some r13) (o14 : ab K.P .lss 3 v5 r13 = some r14) : jy K [1, 1, 0, 1, 0, 0, 0, 0] s h .normal (W4 s 11 v5 12 v0 13 r13 14 r14) h :=
 rg (Rm rfl rfl i5 (Rm rfl rfl i0 (R1 (v := r13) rfl (aH rfl rfl rfl rfl rfl o13) (Rb rfl rfl rfl rfl o14 (RunL.nil)))))
theorem FR {v0 v5 r19 r20 v1 r23 r24 r25 r26 : CV} {g1 : Hp} (hp : K.plan 23 6 = some [.t 0,.t 1,.t 2,.t 3,.t 4,.o 5 [4, 3, 2, 1, 0],.o 6 [3, 2, 1, 0],.o 7 [3, 2, 1, 0],.o 8 [],.o 9 []]) (i0 : s.at 0 = v0) (i5 : s.at 5 = v5) (i1 : s.at 1 = v1) (o19 : af v0 v5 (ae K.P 22) = some r19) (o20 : al h r19 (ar K.P 46) = some r20) (q20 : ceq r20 r20 = true) (o23 : af v1 v5 (ae K.P 26) = some r23) (o24 : al h r23 (ar K.P 45) = some r24) (pg1 : K.prim 38 [r20, r24] = none) (wg1 : Comes K 38 [r20, r24] h r25 g1) (o26 : ab K.P .neq 3 r25 n0 = some r26) : jy K [1, 1, 0, 1, 0, 0, 1, 0, 0, 0] s h .normal (W (W (W8 s 17 v0 18 v5 19 r19 20 r20 21 v1 22 v5 23 r23 24 r24) 25 r25) 26 r26) g1 :=
 Runs.drawn hp (RunP.q (v := v0) rfl rfl (aQ rfl i0) (RunP.q (v := v5) rfl rfl (aQ rfl i5) (RunP.q (v := r19) rfl rfl (ba rfl rfl rfl o19) (RunP.q (v := r20) rfl rfl (aI rfl rfl o20) (RunP.q (v := v1) rfl rfl (aQ rfl i1) (RunP.only (v := v5) rfl rfl (Q1.e (aQ rfl i5)) (by simp (decide := true) only [bF, bA, qX, ev, Fr.putO, aK, reduceIte, Nat.reduceEqDiff, List.filter_cons, List.filter_nil, List.any_cons, List.any_nil, List.all_cons, List.all_nil, List.getElem_toArray, List.getElem_cons_succ, List.getElem_cons_zero, Option.map_some, Option.map_none, aP, aY, Bool.and_true, Bool.true_and, Bool.and_self, i0, i5, i1, o19, o20, q20]) (RunP.only (v := r23) rfl rfl (Q1.e (ba rfl rfl rfl o23)) (by simp (decide := true) only [bF, bA, qX, ev, Fr.putO, aK, reduceIte, Nat.reduceEqDiff, List.filter_cons, List.filter_nil, List.any_cons, List.any_nil, List.all_cons, List.all_nil, List.getElem_toArray, List.getElem_cons_succ, List.getElem_cons_zero, Option.map_some, Option.map_none, aP, aY, Bool.and_true, Bool.true_and, Bool.and_self, i0, i5, i1, o19, o20, q20, o23]) (RunP.only (v := r24) rfl rfl (Q1.e (aI rfl rfl o24)) (by simp (decide := true) only [bF, bA, qX, ev, Fr.putO, aK, reduceIte, Nat.reduceEqDiff, List.filter_cons, List.filter_nil, List.any_cons, List.any_nil, List.all_cons, List.all_nil, List.getElem_toArray, List.getElem_cons_succ, List.getElem_cons_zero, Option.map_some, Option.map_none, aP, aY, Bool.and_true, Bool.true_and, Bool.and_self, i0, i5, i1, o19, o20, q20, o23, o24]) (RunP.call (v := r25) rfl rfl rfl rfl rfl rfl pg1 wg1 rfl (RunP.only (v := r26) rfl rfl (Q1.e (cn rfl rfl rfl o26)) rfl (RunP.nil)))))))))))
theorem PF : jy K [1, 1, 0, 1, 0, 0, 1, 0, 0, 1, 0, 0] s h .normal (W s 4 ff) h :=
 rg (Ra (v := ff) rfl rfl rfl (RunL.nil))
theorem PG {v5 r16 : CV} (i5 : s.at 5 = v5) (o16 : ab K.P .add 3 v5 (.nu .i64 1) = some r16) : jy K [1, 1, 0, 1, 0, 0, 1, 1] s h .normal (W (W (W s 15 v5) 16 r16) 5 r16) h :=
 rg (Rm rfl rfl i5 (Rb rfl rfl rfl rfl o16 (Ra (v := r16) rfl rfl rfl (RunL.nil))))
theorem PH : jy K [1, 1, 1, 0] s h .normal (W s 4 tt) h :=
 rg (Ra (v := tt) rfl rfl rfl (RunL.nil))
theorem FS : eS K [0] s h .normal (W (W s 2 .nils) 3 n0) h :=
 rg (Ra (v := .nils) rfl rfl rfl (Ra (v := n0) rfl rfl rfl (RunL.nil)))
theorem FT {v0 r11 : CV} {g1 : Hp} (i0 : s.at 0 = v0) (pg1 : K.prim 26 [v0] = none) (wg1 : Comes K 26 [v0] h r11 g1) : eS K [1, 0, 0, 0] s h .normal (W (W (W s 10 v0) 11 r11) 4 r11) g1 :=
 rg (Rm rfl rfl i0 (RunL.call (v := r11) rfl rfl rfl rfl rfl pg1 wg1 (Ra (v := r11) rfl rfl rfl (RunL.nil))))
theorem FU {v4 r13 : CV} (i4 : s.at 4 = v4) (o13 : ab K.P .neq 29 v4 n0 = some r13) : eS K [1, 0, 0, 1, 0] s h .normal (W (W s 12 v4) 13 r13) h :=
 rg (Rm rfl rfl i4 (Rb rfl rfl rfl rfl o13 (RunL.nil)))
theorem PJ {v4 : CV} (i4 : s.at 4 = v4) : eS K [1, 0, 0, 1, 1, 0, 0] s h .normal (W (W (W s 14 v4) 2 .nils) 3 v4) h :=
 rg (Rm rfl rfl i4 (Ra (v := .nils) rfl rfl rfl (Ra (v := v4) rfl rfl rfl (RunL.nil))))
theorem PK : eS K [1, 0, 1, 0] s h .normal (W s 5 .nils) h :=
 rg (Ra (v := .nils) rfl rfl rfl (RunL.nil))
theorem PL {v0 r16 : CV} (i0 : s.at 0 = v0) (o16 : aj h v0 (ae K.P 22) = some r16) : eS K [1, 0, 1, 1, 1, 0, 0] s h .normal (W (W (W s 15 v0) 16 r16) 17 n0) h :=
 rg (Rm rfl rfl i0 (R1 (v := r16) rfl (aH rfl rfl rfl rfl rfl o16) (Rm (v := n0) rfl rfl rfl (RunL.nil))))
theorem FV {v17 v16 r18 : CV} (i17 : s.at 17 = v17) (i16 : s.at 16 = v16) (o18 : ab K.P .lss 3 v17 v16 = some r18) : eS K [1, 0, 1, 1, 1, 0, 1, 0, 0, 0] s h .normal (W s 18 r18) h :=
 rg (Rb rfl rfl i17 i16 o18 (RunL.nil))
theorem PM {v15 v17 r19 r20 : CV} (i15 : s.at 15 = v15) (i17 : s.at 17 = v17) (o19 : af v15 v17 (ae K.P 22) = some r19) (o20 : al h r19 (ar K.P 46) = some r20) : eS K [1, 0, 1, 1, 1, 0, 1, 0, 0, 1, 1, 0, 0, 0] s h .normal (W (W (W s 19 r19) 20 r20) 7 r20) h :=
 rg (R1 (v := r19) rfl (ba rfl i15 i17 o19) (R1 (v := r20) rfl (aI rfl rfl o20) (Ra (v := r20) rfl rfl rfl (RunL.nil))))
theorem PN {v0 r22 : CV} (i0 : s.at 0 = v0) (o22 : aj h v0 (ae K.P 22) = some r22) : eS K [1, 0, 1, 1, 1, 0, 1, 0, 0, 1, 1, 0, 0, 1, 0, 0] s h .normal (W (W (W s 21 v0) 22 r22) 23 n0) h :=
 rg (Rm rfl rfl i0 (R1 (v := r22) rfl (aH rfl rfl rfl rfl rfl o22) (Rm (v := n0) rfl rfl rfl (RunL.nil))))
theorem FW {v23 v22 r24 : CV} (i23 : s.at 23 = v23) (i22 : s.at 22 = v22) (o24 : ab K.P .lss 3 v23 v22 = some r24) : eS K [1, 0, 1, 1, 1, 0, 1, 0, 0, 1, 1, 0, 0, 1, 0, 1, 0, 0, 0] s h .normal (W s 24 r24) h :=
 rg (Rb rfl rfl i23 i22 o24 (RunL.nil))
theorem LM {v21 v23 r25 r26 : CV} (i21 : s.at 21 = v21) (i23 : s.at 23 = v23) (o25 : af v21 v23 (ae K.P 22) = some r25) (o26 : al h r25 (ar K.P 46) = some r26) : eS K [1, 0, 1, 1, 1, 0, 1, 0, 0, 1, 1, 0, 0, 1, 0, 1, 0, 0, 1, 1, 0, 0, 0] s h .normal (W (W (W s 25 r25) 26 r26) 9 r26) h :=
 rg (R1 (v := r25) rfl (ba rfl i21 i23 o25) (R1 (v := r26) rfl (aI rfl rfl o26) (Ra (v := r26) rfl rfl rfl (RunL.nil))))
theorem FX {v9 r28 v7 r30 r31 r36 r37 : CV} {g1 : Hp} (i9 : s.at 9 = v9) (i7 : s.at 7 = v7) (o28 : aj h v9 (ae K.P 46) = some r28) (o30 : aj h v7 (ae K.P 46) = some r30) (o31 : ab K.P .add 3 r30 (.nu .i64 1) = some r31) (o32 : ab K.P .eql 3 r28 r31 = some tt) (pg1 : K.prim 68 [v9, v7] = none) (wg1 : Comes K 68 [v9, v7] h r36 g1) (o37 : ap r36 ff tt = some r37) : eS K [1, 0, 1, 1, 1, 0, 1, 0, 0, 1, 1, 0, 0, 1, 0, 1, 0, 0, 1, 1, 0, 0, 1, 0] s h .normal (W (W (W (W8 s 27 v9 28 r28 29 v7 30 r30 31 r31 32 tt 33 tt 34 v9) 35 v7) 36 r36) 37 r37) g1 :=
 rg (Rm rfl rfl i9 (R1 (v := r28) rfl (aH rfl rfl rfl rfl rfl o28) (Rm rfl rfl i7 (R1 (v := r30) rfl (aH rfl rfl rfl rfl rfl o30) (Rb rfl rfl rfl rfl o31 (Rb rfl rfl rfl rfl o32 (Rm (v := tt) rfl rfl rfl (Rm rfl rfl i9 (Rm rfl rfl i7 (RunL.call (v := r36) rfl rfl rfl rfl rfl pg1 wg1 (R1 (v := r37) rfl (aL rfl rfl rfl rfl o37) (RunL.nil))))))))))))
theorem FY {v9 r28 v7 r30 r31 r37 : CV} (i9 : s.at 9 = v9) (i7 : s.at 7 = v7) (o28 : aj h v9 (ae K.P 46) = some r28) (o30 : aj h v7 (ae K.P 46) = some r30) (o31 : ab K.P .add 3 r30 (.nu .i64 1) = some r31) (o32 : ab K.P .eql 3 r28 r31 = some ff) (o37 : ap .skp ff ff = some r37) : eS K [1, 0, 1, 1, 1, 0, 1, 0, 0, 1, 1, 0, 0, 1, 0, 1, 0, 0, 1, 1, 0, 0, 1, 0] s h .normal (W (W (W (W8 s 27 v9 28 r28 29 v7 30 r30 31 r31 32 ff 33 ff 34 .skp) 35 .skp) 36 .skp) 37 r37) h :=
 rg (Rm rfl rfl i9 (R1 (v := r28) rfl (aH rfl rfl rfl rfl rfl o28) (Rm rfl rfl i7 (R1 (v := r30) rfl (aH rfl rfl rfl rfl rfl o30) (Rb rfl rfl rfl rfl o31 (Rb rfl rfl rfl rfl o32 (Rm (v := ff) rfl rfl rfl (RunL.pass rfl (RunL.pass rfl (RunL.pass rfl (R1 (v := r37) rfl (aL rfl rfl rfl rfl o37) (RunL.nil))))))))))))
theorem Bx {v23 r38 : CV} (i23 : s.at 23 = v23) (o38 : ab K.P .add 3 v23 (.nu .i64 1) = some r38) : eS K [1, 0, 1, 1, 1, 0, 1, 0, 0, 1, 1, 0, 0, 1, 0, 1, 0, 0, 1, 1, 1] s h .normal (W (W s 38 r38) 23 r38) h :=
 rg (Rb rfl rfl i23 rfl o38 (Rm (v := r38) rfl rfl rfl (RunL.nil)))
theorem LN {v5 v7 r41 r43 : CV} {F42 : Nat → CV} {B42 : HB} {g1 g2 : Hp} (i5 : s.at 5 = v5) (i7 : s.at 7 = v7) (pg1 : K.prim 69 [v7] = none) (wg1 : Comes K 69 [v7] h r41 g1) (o42 : aM 1 [(0, r41)] (ae K.P 22) = some (F42, B42)) (wg2 : aT (g1.push B42) v5 (F42 (g1).n) (ae K.P 22) (ae K.P 22) = some (r43, g2)) : eS K [1, 0, 1, 1, 1, 0, 1, 0, 0, 1, 1, 0, 0, 1, 1] s h .normal (W (W (W4 s 39 v5 40 v7 41 r41 42 (F42 (g1).n)) 43 r43) 5 r43) g2 :=
 rg (Rm rfl rfl i5 (Rm rfl rfl i7 (RunL.call (v := r41) rfl rfl rfl rfl rfl pg1 wg1 (RunL.op (v := (F42 (g1).n)) rfl (bE rfl rfl o42) (RunL.op (v := r43) rfl (cj hk rfl rfl rfl rfl rfl rfl wg2) (Ra (v := r43) rfl rfl rfl (RunL.nil)))))))
theorem By {v17 r44 : CV} (i17 : s.at 17 = v17) (o44 : ab K.P .add 3 v17 (.nu .i64 1) = some r44) : eS K [1, 0, 1, 1, 1, 0, 1, 0, 0, 1, 1, 1] s h .normal (W (W s 44 r44) 17 r44) h :=
 rg (Rb rfl rfl i17 rfl o44 (Rm (v := r44) rfl rfl rfl (RunL.nil)))
theorem LO {v5 : CV} (i5 : s.at 5 = v5) : eS K [1, 0, 1, 1, 1, 1, 0] s h .normal (W (W (W s 45 v5) 2 v5) 3 n0) h :=
 rg (Rm rfl rfl i5 (Ra (v := v5) rfl rfl rfl (Ra (v := n0) rfl rfl rfl (RunL.nil))))
theorem ph : dM K [0] s h .normal (W s 2 n0) h :=
 rg (Ra (v := n0) rfl rfl rfl (RunL.nil))
theorem FZ {v0 r6 r7 : CV} (i0 : s.at 0 = v0) (o6 : aj h v0 (ae K.P 45) = some r6) (o7 : ab K.P .eql 3 r6 n0 = some r7) : dM K [1, 0, 0] s h .normal (W (W (W s 5 v0) 6 r6) 7 r7) h :=
 rg (Rm rfl rfl i0 (R1 (v := r6) rfl (aH rfl rfl rfl rfl rfl o6) (Rb rfl rfl rfl rfl o7 (RunL.nil))))
theorem PO : dM K [1, 0, 1, 0, 0] s h .normal (W s 2 (.nu .i64 1)) h :=
 rg (Ra (v := (.nu .i64 1)) rfl rfl rfl (RunL.nil))
theorem F0 {v0 r9 r10 : CV} (i0 : s.at 0 = v0) (o9 : aj h v0 (ae K.P 45) = some r9) (o10 : ab K.P .gtr 3 r9 (.nu .i64 5) = some r10) : dM K [1, 1, 0, 0] s h .normal (W (W (W s 8 v0) 9 r9) 10 r10) h :=
 rg (Rm rfl rfl i0 (R1 (v := r9) rfl (aH rfl rfl rfl rfl rfl o9) (Rb rfl rfl rfl rfl o10 (RunL.nil))))
theorem PP : dM K [1, 1, 0, 1, 0, 0] s h .normal (W s 2 (.nu .i64 3)) h :=
 rg (Ra (v := (.nu .i64 3)) rfl rfl rfl (RunL.nil))
theorem PQ : dM K [1, 1, 1, 0, 0] s h .normal (W s 3 n0) h :=
 rg (Ra (v := n0) rfl rfl rfl (RunL.nil))
theorem tc {v3 v0 r13 r14 : CV} (i3 : s.at 3 = v3) (i0 : s.at 0 = v0) (o13 : aj h v0 (ae K.P 45) = some r13) (o14 : ab K.P .lss 3 v3 r13 = some r14) : dM K [1, 1, 1, 0, 1, 0, 0, 0, 0] s h .normal (W4 s 11 v3 12 v0 13 r13 14 r14) h :=
 rg (Rm rfl rfl i3 (Rm rfl rfl i0 (R1 (v := r13) rfl (aH rfl rfl rfl rfl rfl o13) (Rb rfl rfl rfl rfl o14 (RunL.nil)))))
theorem Ig {v0 v3 r19 r20 r28 : CV} (i0 : s.at 0 = v0) (i3 : s.at 3 = v3) (o19 : af v0 v3 (ae K.P 45) = some r19) (o20 : al h r19 (ar K.P 3) = some r20) (o21 : ab K.P .lss 3 r20 n0 = some tt) (o28 : ap tt .skp tt = some r28) : dM K [1, 1, 1, 0, 1, 0, 0, 1, 0, 0, 0] s h .normal (W4 (W8 s 17 v0 18 v3 19 r19 20 r20 21 tt 22 tt 23 .skp 24 .skp) 25 .skp 26 .skp 27 .skp 28 r28) h :=
 rg (Rm rfl rfl i0 (Rm rfl rfl i3 (R1 (v := r19) rfl (ba rfl rfl rfl o19) (R1 (v := r20) rfl (aI rfl rfl o20) (Rb rfl rfl rfl rfl o21 (Rm (v := tt) rfl rfl rfl (RunL.pass rfl (RunL.pass rfl (RunL.pass rfl (RunL.pass rfl (RunL.pass rfl (R1 (v := r28) rfl (aL rfl rfl rfl rfl o28) (RunL.nil)))))))))))))
theorem yG {v0 v3 r19 r20 r27 r28 : CV} (i0 : s.at 0 = v0) (i3 : s.at 3 = v3) (o19 : af v0 v3 (ae K.P 45) = some r19) (o20 : al h r19 (ar K.P 3) = some r20) (o21 : ab K.P .lss 3 r20 n0 = some ff) (o27 : ab K.P .geq 3 r20 (.nu .i64 64) = some r27) (o28 : ap tt r27 ff = some r28) : dM K [1, 1, 1, 0, 1, 0, 0, 1, 0, 0, 0] s h .normal (W4 (W8 s 17 v0 18 v3 19 r19 20 r20 21 ff 22 ff 23 v0 24 v3) 25 r19 26 r20 27 r27 28 r28) h :=
 rg (Rm rfl rfl i0 (Rm rfl rfl i3 (R1 (v := r19) rfl (ba rfl rfl rfl o19) (R1 (v := r20) rfl (aI rfl rfl o20) (Rb rfl rfl rfl rfl o21 (Rm (v := ff) rfl rfl rfl (Rm rfl rfl i0 (Rm rfl rfl i3 (R1 (v := r19) rfl (ba rfl rfl rfl o19) (R1 (v := r20) rfl (aI rfl rfl o20) (Rb rfl rfl rfl rfl o27 (R1 (v := r28) rfl (aL rfl rfl rfl rfl o28) (RunL.nil)))))))))))))
theorem F7 : dM K [1, 1, 1, 0, 1, 0, 0, 1, 0, 0, 1, 0, 0] s h .normal (W s 2 (.nu .i64 1)) h :=
 rg (Ra (v := (.nu .i64 1)) rfl rfl rfl (RunL.nil))
theorem PR {v3 r16 : CV} (i3 : s.at 3 = v3) (o16 : ab K.P .add 3 v3 (.nu .i64 1) = some r16) : dM K [1, 1, 1, 0, 1, 0, 0, 1, 1] s h .normal (W (W (W s 15 v3) 16 r16) 3 r16) h :=
 rg (Rm rfl rfl i3 (Rb rfl rfl rfl rfl o16 (Ra (v := r16) rfl rfl rfl (RunL.nil))))
theorem Bz : dM K [1, 1, 1, 1, 0, 0] s h .normal (W s 4 (.nu .i64 1)) h :=
 rg (Ra (v := (.nu .i64 1)) rfl rfl rfl (RunL.nil))
theorem uE {v4 v0 r31 r32 : CV} (i4 : s.at 4 = v4) (i0 : s.at 0 = v0) (o31 : aj h v0 (ae K.P 45) = some r31) (o32 : ab K.P .lss 3 v4 r31 = some r32) : dM K [1, 1, 1, 1, 0, 1, 0, 0, 0, 0] s h .normal (W4 s 29 v4 30 v0 31 r31 32 r32) h :=
 rg (Rm rfl rfl i4 (Rm rfl rfl i0 (R1 (v := r31) rfl (aH rfl rfl rfl rfl rfl o31) (Rb rfl rfl rfl rfl o32 (RunL.nil)))))
theorem BA {v0 v4 r37 r38 r41 r42 r43 r44 : CV} (hp : K.plan 57 13 = some [.t 0,.t 1,.t 2,.t 3,.t 4,.o 5 [4, 3, 2, 1, 0],.o 6 [4, 3, 2, 1, 0],.o 7 [3, 2, 1, 0],.o 8 [3, 2, 1, 0],.o 9 []]) (i0 : s.at 0 = v0) (i4 : s.at 4 = v4) (o37 : af v0 v4 (ae K.P 45) = some r37) (o38 : al h r37 (ar K.P 3) = some r38) (q38 : ceq r38 r38 = true) (o41 : ab K.P .sub 3 v4 (.nu .i64 1) = some r41) (o42 : af v0 r41 (ae K.P 45) = some r42) (o43 : al h r42 (ar K.P 3) = some r43) (o44 : ab K.P .leq 3 r38 r43 = some r44) : dM K [1, 1, 1, 1, 0, 1, 0, 0, 1, 0, 0, 0] s h .normal (W (W (W8 s 35 v0 36 v4 37 r37 38 r38 39 v0 40 v4 41 r41 42 r42) 43 r43) 44 r44) h :=
 Runs.drawn hp (RunP.q (v := v0) rfl rfl (aQ rfl i0) (RunP.q (v := v4) rfl rfl (aQ rfl i4) (RunP.q (v := r37) rfl rfl (ba rfl rfl rfl o37) (RunP.q (v := r38) rfl rfl (aI rfl rfl o38) (RunP.q (v := v0) rfl rfl (aQ rfl i0) (RunP.only (v := v4) rfl rfl (Q1.e (aQ rfl i4)) (by simp (decide := true) only [bF, bA, qX, ev, Fr.putO, aK, reduceIte, Nat.reduceEqDiff, List.filter_cons, List.filter_nil, List.any_cons, List.any_nil, List.all_cons, List.all_nil, List.getElem_toArray, List.getElem_cons_succ, List.getElem_cons_zero, Option.map_some, Option.map_none, aP, aY, Bool.and_true, Bool.true_and, Bool.and_self, i0, i4, o37, o38, q38]) (RunP.only (v := r41) rfl rfl (Q1.e (cn rfl rfl rfl o41)) (by simp (decide := true) only [bF, bA, qX, ev, Fr.putO, aK, reduceIte, Nat.reduceEqDiff, List.filter_cons, List.filter_nil, List.any_cons, List.any_nil, List.all_cons, List.all_nil, List.getElem_toArray, List.getElem_cons_succ, List.getElem_cons_zero, Option.map_some, Option.map_none, aP, aY, Bool.and_true, Bool.true_and, Bool.and_self, i0, i4, o37, o38, q38, o41]) (RunP.only (v := r42) rfl rfl (Q1.e (ba rfl rfl rfl o42)) (by simp (decide := true) only [bF, bA, qX, ev, Fr.putO, aK, reduceIte, Nat.reduceEqDiff, List.filter_cons, List.filter_nil, List.any_cons, List.any_nil, List.all_cons, List.all_nil, List.getElem_toArray, List.getElem_cons_succ, List.getElem_cons_zero, Option.map_some, Option.map_none, aP, aY, Bool.and_true, Bool.true_and, Bool.and_self, i0, i4, o37, o38, q38, o41, o42]) (RunP.only (v := r43) rfl rfl (Q1.e (aI rfl rfl o43)) (by simp (decide := true) only [bF, bA, qX, ev, Fr.putO, aK, reduceIte, Nat.reduceEqDiff, List.filter_cons, List.filter_nil, List.any_cons, List.any_nil, List.all_cons, List.all_nil, List.getElem_toArray, List.getElem_cons_succ, List.getElem_cons_zero, Option.map_some, Option.map_none, aP, aY, Bool.and_true, Bool.true_and, Bool.and_self, i0, i4, o37, o38, q38, o41, o42, o43]) (RunP.only (v := r44) rfl rfl (Q1.e (cn rfl rfl rfl o44)) rfl (RunP.nil)))))))))))
theorem LP : dM K [1, 1, 1, 1, 0, 1, 0, 0, 1, 0, 0, 1, 0, 0] s h .normal (W s 2 (.nu .i64 6)) h :=
 rg (Ra (v := (.nu .i64 6)) rfl rfl rfl (RunL.nil))
theorem LQ {v4 r34 : CV} (i4 : s.at 4 = v4) (o34 : ab K.P .add 3 v4 (.nu .i64 1) = some r34) : dM K [1, 1, 1, 1, 0, 1, 0, 0, 1, 1] s h .normal (W (W (W s 33 v4) 34 r34) 4 r34) h :=
 rg (Rm rfl rfl i4 (Rb rfl rfl rfl rfl o34 (Ra (v := r34) rfl rfl rfl (RunL.nil))))
theorem LR : dM K [1, 1, 1, 1, 1, 0] s h .normal (W s 2 n0) h :=
 rg (Ra (v := n0) rfl rfl rfl (RunL.nil))
theorem PS : nW K [0] s h .normal (W s 2 .nils) h :=
 rg (Ra (v := .nils) rfl rfl rfl (RunL.nil))
theorem PU : nW K [1, 0] s h .normal (W s 3 .nils) h :=
 rg (Ra (v := .nils) rfl rfl rfl (RunL.nil))
theorem PV : nW K [1, 1, 0, 0] s h .normal (W s 4 n0) h :=
 rg (Ra (v := n0) rfl rfl rfl (RunL.nil))
theorem yH {v0 r6 v4 r12 r13 : CV} (i0 : s.at 0 = v0) (i4 : s.at 4 = v4) (o6 : aj h v0 (ae K.P 45) = some r6) (o7 : ab K.P .gtr 3 r6 (.nu .i64 1) = some tt) (o12 : ab K.P .lss 3 v4 r6 = some r12) (o13 : ap r12 ff tt = some r13) : nW K [1, 1, 0, 1, 0, 0, 0, 0] s h .normal (W (W8 s 5 v0 6 r6 7 tt 8 tt 9 v4 10 v0 11 r6 12 r12) 13 r13) h :=
 rg (Rm rfl rfl i0 (R1 (v := r6) rfl (aH rfl rfl rfl rfl rfl o6) (Rb rfl rfl rfl rfl o7 (Rm (v := tt) rfl rfl rfl (Rm rfl rfl i4 (Rm rfl rfl i0 (R1 (v := r6) rfl (aH rfl rfl rfl rfl rfl o6) (Rb rfl rfl rfl rfl o12 (R1 (v := r13) rfl (aL rfl rfl rfl rfl o13) (RunL.nil))))))))))
theorem Ih {v0 r6 r13 : CV} (i0 : s.at 0 = v0) (o6 : aj h v0 (ae K.P 45) = some r6) (o7 : ab K.P .gtr 3 r6 (.nu .i64 1) = some ff) (o13 : ap .skp ff ff = some r13) : nW K [1, 1, 0, 1, 0, 0, 0, 0] s h .normal (W (W8 s 5 v0 6 r6 7 ff 8 ff 9 .skp 10 .skp 11 .skp 12 .skp) 13 r13) h :=
 rg (Rm rfl rfl i0 (R1 (v := r6) rfl (aH rfl rfl rfl rfl rfl o6) (Rb rfl rfl rfl rfl o7 (Rm (v := ff) rfl rfl rfl (RunL.pass rfl (RunL.pass rfl (RunL.pass rfl (RunL.pass rfl (R1 (v := r13) rfl (aL rfl rfl rfl rfl o13) (RunL.nil))))))))))
theorem PW {v3 v0 v4 r19 r21 : CV} {F20 : Nat → CV} {B20 : HB} {g1 g2 : Hp} (i3 : s.at 3 = v3) (i0 : s.at 0 = v0) (i4 : s.at 4 = v4) (pg1 : K.prim 106 [v0, v4] = none) (wg1 : Comes K 106 [v0, v4] h r19 g1) (o20 : aM 1 [(0, r19)] (ae K.P 26) = some (F20, B20)) (wg2 : aT (g1.push B20) v3 (F20 (g1).n) (ae K.P 26) (ae K.P 26) = some (r21, g2)) : nW K [1, 1, 0, 1, 0, 0, 1, 0, 0] s h .normal (W (W (W (W4 s 16 v3 17 v0 18 v4 19 r19) 20 (F20 (g1).n)) 21 r21) 3 r21) g2 :=
 rg (Rm rfl rfl i3 (Rm rfl rfl i0 (Rm rfl rfl i4 (RunL.call (v := r19) rfl rfl rfl rfl rfl pg1 wg1 (RunL.op (v := (F20 (g1).n)) rfl (bE rfl rfl o20) (RunL.op (v := r21) rfl (cj hk rfl rfl rfl rfl rfl rfl wg2) (Ra (v := r21) rfl rfl rfl (RunL.nil))))))))
theorem PX {v4 r15 : CV} (i4 : s.at 4 = v4) (o15 : ab K.P .add 3 v4 (.nu .i64 1) = some r15) : nW K [1, 1, 0, 1, 0, 0, 1, 1] s h .normal (W (W (W s 14 v4) 15 r15) 4 r15) h :=
 rg (Rm rfl rfl i4 (Rb rfl rfl rfl rfl o15 (Ra (v := r15) rfl rfl rfl (RunL.nil))))
theorem PZ {v3 : CV} (i3 : s.at 3 = v3) : nW K [1, 1, 1, 0] s h .normal (W (W s 22 v3) 2 v3) h :=
 rg (Rm rfl rfl i3 (Ra (v := v3) rfl rfl rfl (RunL.nil)))
theorem P0 : nX K [0] s h .normal (W s 4 .nils) h :=
 rg (Ra (v := .nils) rfl rfl rfl (RunL.nil))
theorem P1 : nX K [1, 0] s h .normal (W s 5 .nils) h :=
 rg (Ra (v := .nils) rfl rfl rfl (RunL.nil))
theorem P2 : nX K [1, 1, 0, 0] s h .normal (W s 6 n0) h :=
 rg (Ra (v := n0) rfl rfl rfl (RunL.nil))
theorem yI {v6 v0 r9 r10 : CV} (i6 : s.at 6 = v6) (i0 : s.at 0 = v0) (o9 : aj h v0 (ae K.P 26) = some r9) (o10 : ab K.P .lss 3 v6 r9 = some r10) : nX K [1, 1, 0, 1, 0, 0, 0, 0] s h .normal (W4 s 7 v6 8 v0 9 r9 10 r10) h :=
 rg (Rm rfl rfl i6 (Rm rfl rfl i0 (R1 (v := r9) rfl (aH rfl rfl rfl rfl rfl o9) (Rb rfl rfl rfl rfl o10 (RunL.nil)))))
theorem F9 {v0 v6 r15 r16 v1 r18 : CV} {g1 : Hp} (i0 : s.at 0 = v0) (i6 : s.at 6 = v6) (i1 : s.at 1 = v1) (o15 : af v0 v6 (ae K.P 26) = some r15) (o16 : al h r15 (ar K.P 45) = some r16) (pg1 : K.prim 107 [r16, v1] = none) (wg1 : Comes K 107 [r16, v1] h r18 g1) : nX K [1, 1, 0, 1, 0, 0, 1, 0, 0, 0] s h .normal (W (W (W4 s 13 v0 14 v6 15 r15 16 r16) 17 v1) 18 r18) g1 :=
 rg (Rm rfl rfl i0 (Rm rfl rfl i6 (R1 (v := r15) rfl (ba rfl rfl rfl o15) (R1 (v := r16) rfl (aI rfl rfl o16) (Rm rfl rfl i1 (RunL.call (v := r18) rfl rfl rfl rfl rfl pg1 wg1 (RunL.nil)))))))
theorem P3 {v5 v0 v6 r22 r23 r25 : CV} {F24 : Nat → CV} {B24 : HB} {g1 : Hp} (i5 : s.at 5 = v5) (i0 : s.at 0 = v0) (i6 : s.at 6 = v6) (o22 : af v0 v6 (ae K.P 26) = some r22) (o23 : al h r22 (ar K.P 45) = some r23) (o24 : aM 1 [(0, r23)] (ae K.P 26) = some (F24, B24)) (wg1 : aT (h.push B24) v5 (F24 (h).n) (ae K.P 26) (ae K.P 26) = some (r25, g1)) : nX K [1, 1, 0, 1, 0, 0, 1, 0, 0, 1, 0] s h .normal (W8 s 19 v5 20 v0 21 v6 22 r22 23 r23 24 (F24 (h).n) 25 r25 5 r25) g1 :=
 rg (Rm rfl rfl i5 (Rm rfl rfl i0 (Rm rfl rfl i6 (R1 (v := r22) rfl (ba rfl rfl rfl o22) (R1 (v := r23) rfl (aI rfl rfl o23) (RunL.op (v := (F24 (h).n)) rfl (bE rfl rfl o24) (RunL.op (v := r25) rfl (cj hk rfl rfl rfl rfl rfl rfl wg1) (Ra (v := r25) rfl rfl rfl (RunL.nil)))))))))
theorem Ga {v6 r12 : CV} (i6 : s.at 6 = v6) (o12 : ab K.P .add 3 v6 (.nu .i64 1) = some r12) : nX K [1, 1, 0, 1, 0, 0, 1, 1] s h .normal (W (W (W s 11 v6) 12 r12) 6 r12) h :=
 rg (Rm rfl rfl i6 (Rb rfl rfl rfl rfl o12 (Ra (v := r12) rfl rfl rfl (RunL.nil))))
theorem P4 {v5 : CV} (i5 : s.at 5 = v5) : nX K [1, 1, 1, 0] s h .normal (W (W s 26 v5) 4 v5) h :=
 rg (Rm rfl rfl i5 (Ra (v := v5) rfl rfl rfl (RunL.nil)))
theorem P5 {v0 : CV} {F2 : Nat → CV} {B2 : HB} (i0 : s.at 0 = v0) (o2 : fW 46 v0 (ar K.P 46) = some (F2, B2)) : Po K [0] s h .normal (W (W s 2 (F2 (h).n)) 4 ff) (h.push B2) :=
 rg (RunL.op (v := (F2 (h).n)) rfl (sm rfl i0 o2) (Ra (v := ff) rfl rfl rfl (RunL.nil)))
theorem P6 {v1 v2 r7 r8 : CV} {g1 : Hp} (i1 : s.at 1 = v1) (i2 : s.at 2 = v2) (pg1 : K.prim 111 [v1, (.fn 112 [v2])] = none) (wg1 : Comes K 111 [v1, (.fn 112 [v2])] h r7 g1) (o8 : dA .not r7 = some r8) : Po K [1, 0] s h .normal (W (W4 s 5 v1 6 (.fn 112 [v2]) 7 r7 8 r8) 4 r8) g1 :=
 rg (Rm rfl rfl i1 (R1 (v := (.fn 112 [v2])) rfl (DT rfl (by simp only [ev, Fr.putO, aK, reduceIte, Nat.reduceEqDiff, List.toList_toArray, List.map_cons, List.map_nil, Option.map_some, Option.map_none, i2]; try rfl)) (RunL.call (v := r7) rfl rfl rfl rfl rfl pg1 wg1 (R1 (v := r8) rfl (ku rfl rfl o8) (Ra (v := r8) rfl rfl rfl (RunL.nil))))))
theorem LS : jm K [0] s h .normal (W s 4 .nils) h :=
 rg (Ra (v := .nils) rfl rfl rfl (RunL.nil))
theorem LU : jm K [1, 0] s h .normal (W s 5 .nils) h :=
 rg (Ra (v := .nils) rfl rfl rfl (RunL.nil))
theorem LV : jm K [1, 1, 0, 0] s h .normal (W s 6 n0) h :=
 rg (Ra (v := n0) rfl rfl rfl (RunL.nil))
theorem uF {v6 v0 r9 r10 : CV} (i6 : s.at 6 = v6) (i0 : s.at 0 = v0) (o9 : aj h v0 (ae K.P 45) = some r9) (o10 : ab K.P .lss 3 v6 r9 = some r10) : jm K [1, 1, 0, 1, 0, 0, 0, 0] s h .normal (W4 s 7 v6 8 v0 9 r9 10 r10) h :=
 rg (Rm rfl rfl i6 (Rm rfl rfl i0 (R1 (v := r9) rfl (aH rfl rfl rfl rfl rfl o9) (Rb rfl rfl rfl rfl o10 (RunL.nil)))))
theorem BC {v6 v1 r15 : CV} (i6 : s.at 6 = v6) (i1 : s.at 1 = v1) (o15 : ab K.P .neq 3 v6 v1 = some r15) : jm K [1, 1, 0, 1, 0, 0, 1, 0, 0, 0] s h .normal (W (W (W s 13 v6) 14 v1) 15 r15) h :=
 rg (Rm rfl rfl i6 (Rm rfl rfl i1 (Rb rfl rfl rfl rfl o15 (RunL.nil))))
theorem LW {v5 v0 v6 r19 r20 r22 : CV} {F21 : Nat → CV} {B21 : HB} {g1 : Hp} (i5 : s.at 5 = v5) (i0 : s.at 0 = v0) (i6 : s.at 6 = v6) (o19 : af v0 v6 (ae K.P 45) = some r19) (o20 : al h r19 (ar K.P 3) = some r20) (o21 : aM 1 [(0, r20)] (ae K.P 45) = some (F21, B21)) (wg1 : aT (h.push B21) v5 (F21 (h).n) (ae K.P 45) (ae K.P 45) = some (r22, g1)) : jm K [1, 1, 0, 1, 0, 0, 1, 0, 0, 1, 0] s h .normal (W8 s 16 v5 17 v0 18 v6 19 r19 20 r20 21 (F21 (h).n) 22 r22 5 r22) g1 :=
 rg (Rm rfl rfl i5 (Rm rfl rfl i0 (Rm rfl rfl i6 (R1 (v := r19) rfl (ba rfl rfl rfl o19) (R1 (v := r20) rfl (aI rfl rfl o20) (RunL.op (v := (F21 (h).n)) rfl (bE rfl rfl o21) (RunL.op (v := r22) rfl (cj hk rfl rfl rfl rfl rfl rfl wg1) (Ra (v := r22) rfl rfl rfl (RunL.nil)))))))))
theorem BF {v6 r12 : CV} (i6 : s.at 6 = v6) (o12 : ab K.P .add 3 v6 (.nu .i64 1) = some r12) : jm K [1, 1, 0, 1, 0, 0, 1, 1] s h .normal (W (W (W s 11 v6) 12 r12) 6 r12) h :=
 rg (Rm rfl rfl i6 (Rb rfl rfl rfl rfl o12 (Ra (v := r12) rfl rfl rfl (RunL.nil))))
theorem LX {v5 : CV} (i5 : s.at 5 = v5) : jm K [1, 1, 1, 0] s h .normal (W (W s 23 v5) 4 v5) h :=
 rg (Rm rfl rfl i5 (Ra (v := v5) rfl rfl rfl (RunL.nil)))
theorem BG : kH K [0] s h .normal (W s 4 ff) h :=
 rg (Ra (v := ff) rfl rfl rfl (RunL.nil))
theorem BH : kH K [1, 0, 0] s h .normal (W s 5 n0) h :=
 rg (Ra (v := n0) rfl rfl rfl (RunL.nil))
theorem uG {v5 v1 r8 r9 : CV} (i5 : s.at 5 = v5) (i1 : s.at 1 = v1) (o8 : aj h v1 (ae K.P 45) = some r8) (o9 : ab K.P .lss 3 v5 r8 = some r9) : kH K [1, 0, 1, 0, 0, 0, 0] s h .normal (W4 s 6 v5 7 v1 8 r8 9 r9) h :=
 rg (Rm rfl rfl i5 (Rm rfl rfl i1 (R1 (v := r8) rfl (aH rfl rfl rfl rfl rfl o8) (Rb rfl rfl rfl rfl o9 (RunL.nil)))))
theorem BI {v0 v1 v5 r15 r16 r17 r18 : CV} {g1 : Hp} (i0 : s.at 0 = v0) (i1 : s.at 1 = v1) (i5 : s.at 5 = v5) (o15 : af v1 v5 (ae K.P 45) = some r15) (o16 : al h r15 (ar K.P 3) = some r16) (pg1 : K.prim 104 [v0, r16] = none) (wg1 : Comes K 104 [v0, r16] h r17 g1) (o18 : dA .not r17 = some r18) : kH K [1, 0, 1, 0, 0, 1, 0, 0, 0] s h .normal (W (W (W (W4 s 12 v0 13 v1 14 v5 15 r15) 16 r16) 17 r17) 18 r18) g1 :=
 rg (Rm rfl rfl i0 (Rm rfl rfl i1 (Rm rfl rfl i5 (R1 (v := r15) rfl (ba rfl rfl rfl o15) (R1 (v := r16) rfl (aI rfl rfl o16) (RunL.call (v := r17) rfl rfl rfl rfl rfl pg1 wg1 (R1 (v := r18) rfl (ku rfl rfl o18) (RunL.nil))))))))
theorem LY : kH K [1, 0, 1, 0, 0, 1, 0, 0, 1, 0, 0] s h .normal (W s 4 ff) h :=
 rg (Ra (v := ff) rfl rfl rfl (RunL.nil))
theorem LZ {v5 r11 : CV} (i5 : s.at 5 = v5) (o11 : ab K.P .add 3 v5 (.nu .i64 1) = some r11) : kH K [1, 0, 1, 0, 0, 1, 1] s h .normal (W (W (W s 10 v5) 11 r11) 5 r11) h :=
 rg (Rm rfl rfl i5 (Rb rfl rfl rfl rfl o11 (Ra (v := r11) rfl rfl rfl (RunL.nil))))
theorem L0 : kH K [1, 1, 0] s h .normal (W s 4 tt) h :=
 rg (Ra (v := tt) rfl rfl rfl (RunL.nil))
theorem L1 : Ic K [0] s h .normal (W s 4 ff) h :=
 rg (Ra (v := ff) rfl rfl rfl (RunL.nil))
theorem L3 {v0 v1 r7 r8 : CV} {g1 : Hp} (i0 : s.at 0 = v0) (i1 : s.at 1 = v1) (pg1 : K.prim 140 [v0, v1] = none) (wg1 : Comes K 140 [v0, v1] h r7 g1) (o8 : ab K.P .geq 3 r7 n0 = some r8) : Ic K [1, 0] s h .normal (W (W4 s 5 v0 6 v1 7 r7 8 r8) 4 r8) g1 :=
 rg (Rm rfl rfl i0 (Rm rfl rfl i1 (RunL.call (v := r7) rfl rfl rfl rfl rfl pg1 wg1 (Rb rfl rfl rfl rfl o8 (Ra (v := r8) rfl rfl rfl (RunL.nil))))))
theorem L4 : Ie K [0] s h .normal (W s 3 ff) h :=
 rg (Ra (v := ff) rfl rfl rfl (RunL.nil))
theorem L5 {v1 r4 v0 r6 r7 : CV} {g1 : Hp} (i1 : s.at 1 = v1) (i0 : s.at 0 = v0) (o4 : al h v1 (ar K.P 46) = some r4) (pg1 : K.prim 113 [r4, v0] = none) (wg1 : Comes K 113 [r4, v0] h r6 g1) (o7 : dA .not r6 = some r7) : Ie K [1, 0] s h .normal (W (W4 s 4 r4 5 v0 6 r6 7 r7) 3 r7) g1 :=
 rg (R1 (v := r4) rfl (aI rfl i1 o4) (Rm rfl rfl i0 (RunL.call (v := r6) rfl rfl rfl rfl rfl pg1 wg1 (R1 (v := r7) rfl (ku rfl rfl o7) (Ra (v := r7) rfl rfl rfl (RunL.nil))))))
theorem BJ : ir K [0] s h .normal (W s 4 n0) h :=
 rg (Ra (v := n0) rfl rfl rfl (RunL.nil))
theorem L6 {v0 r7 : CV} (i0 : s.at 0 = v0) (o7 : aj h v0 (ae K.P 46) = some r7) : ir K [1, 0, 0] s h .normal (W (W (W s 6 v0) 7 r7) 8 n0) h :=
 rg (Rm rfl rfl i0 (R1 (v := r7) rfl (aH rfl rfl rfl rfl rfl o7) (Rm (v := n0) rfl rfl rfl (RunL.nil))))
theorem uH {v8 v7 r9 : CV} (i8 : s.at 8 = v8) (i7 : s.at 7 = v7) (o9 : ab K.P .lss 3 v8 v7 = some r9) : ir K [1, 0, 1, 0, 0, 0] s h .normal (W s 9 r9) h :=
 rg (Rb rfl rfl i8 i7 o9 (RunL.nil))
theorem BK {v8 : CV} (i8 : s.at 8 = v8) : ir K [1, 0, 1, 0, 0, 1, 1, 0, 0, 0] s h .normal (W (W s 10 v8) 5 v8) h :=
 rg (Rm rfl rfl i8 (Ra (v := v8) rfl rfl rfl (RunL.nil)))
theorem BL {v1 v0 v5 r14 r15 r16 : CV} {g1 : Hp} {G16 : FuncId} {C16 : List CV} (i1 : s.at 1 = v1) (i0 : s.at 0 = v0) (i5 : s.at 5 = v5) (o14 : af v0 v5 (ae K.P 46) = some r14) (o15 : al h r14 (ar K.P 3) = some r15) (e16 : (v1 : CV) = .fn G16 C16) (pg1 : K.prim G16 ([r15] ++ C16) = none) (wg1 : Comes K G16 ([r15] ++ C16) h r16 g1) : ir K [1, 0, 1, 0, 0, 1, 1, 0, 0, 1, 0] s h .normal (W (W (W4 s 11 v1 12 v0 13 v5 14 r14) 15 r15) 16 r16) g1 :=
 rg (Rm rfl rfl i1 (Rm rfl rfl i0 (Rm rfl rfl i5 (R1 (v := r14) rfl (ba rfl rfl rfl o14) (R1 (v := r15) rfl (aI rfl rfl o15) (RunL.call (v := r16) rfl rfl rfl e16 rfl pg1 wg1 (RunL.nil)))))))
theorem L7 {v5 : CV} (i5 : s.at 5 = v5) : ir K [1, 0, 1, 0, 0, 1, 1, 0, 0, 1, 1, 0, 0] s h .normal (W (W s 17 v5) 4 v5) h :=
 rg (Rm rfl rfl i5 (Ra (v := v5) rfl rfl rfl (RunL.nil)))
theorem L8 {v8 r18 : CV} (i8 : s.at 8 = v8) (o18 : ab K.P .add 3 v8 (.nu .i64 1) = some r18) : ir K [1, 0, 1, 0, 0, 1, 1, 1] s h .normal (W (W s 18 r18) 8 r18) h :=
 rg (Rb rfl rfl i8 rfl o18 (Rm (v := r18) rfl rfl rfl (RunL.nil)))
theorem L9 : ir K [1, 1, 0] s h .normal (W s 4 (.nu .i64 (-1))) h :=
 rg (Ra (v := (.nu .i64 (-1))) rfl rfl rfl (RunL.nil))
end Go.CP
namespace Go.CP
open Go.Proofs
structure cz [LG] [HK] (K : Ctx) : Prop where
 p17_9 : K.plan 17 9 = some [.o 0 [],.o 1 [],.o 2 [],.t 3,.t 4,.t 5,.t 6,.t 7,.o 8 [7, 6, 5, 4, 3],.o 9 [7, 6, 5, 4, 3],.o 10 [6, 5, 4, 3],.o 11 [6, 5, 4, 3],.o 12 [],.o 13 [],.o 14 []]
 p17_11 : K.plan 17 11 = some [.o 0 [],.o 1 [],.o 2 [],.t 3,.t 4,.t 5,.t 6,.t 7,.o 8 [7, 6, 5, 4, 3],.o 9 [7, 6, 5, 4, 3],.o 10 [6, 5, 4, 3],.o 11 [6, 5, 4, 3],.o 12 [],.o 13 [],.o 14 []]
 p23_6 : K.plan 23 6 = some [.t 0,.t 1,.t 2,.t 3,.t 4,.o 5 [4, 3, 2, 1, 0],.o 6 [3, 2, 1, 0],.o 7 [3, 2, 1, 0],.o 8 [],.o 9 []]
 p57_13 : K.plan 57 13 = some [.t 0,.t 1,.t 2,.t 3,.t 4,.o 5 [4, 3, 2, 1, 0],.o 6 [4, 3, 2, 1, 0],.o 7 [3, 2, 1, 0],.o 8 [3, 2, 1, 0],.o 9 []]
variable [LG] [HK] {K : Ctx} {s : Fr} {h : Hp} (hk : ∀ o, HK.keep o = false) (pr : ∀ f args, K.prim f args = none) (Pl : cz K)
include hk pr Pl
theorem Gb {v0 r8 v1 : CV} (i0 : s.at 0 = v0) (i1 : s.at 1 = v1) (o8 : aj h v0 (ae K.P 22) = some r8) (o10 : ab K.P .gtr 3 r8 v1 = some tt) : ic K [1, 0] s h .ret (W (W4 s 7 v0 8 r8 9 v1 10 tt) 4 tt) h :=
 (sq (FD (h := h) (r10 := tt) hk i0 i1 o8 o10) (cT 10 rfl (sq (Pp (h := h) hk) Runs.ret)))
theorem Gc {v0 r8 v1 : CV} (i0 : s.at 0 = v0) (i1 : s.at 1 = v1) (o8 : aj h v0 (ae K.P 22) = some r8) (o10 : ab K.P .gtr 3 r8 v1 = some ff) : ic K [1, 0] s h .normal (W4 s 7 v0 8 r8 9 v1 10 ff) h :=
 (sq (FD (h := h) (r10 := ff) hk i0 i1 o8 o10) (cF 10 rfl sk))
theorem uI {v13 v12 v11 r15 r16 r18 : CV} (i13 : s.at 13 = v13) (i12 : s.at 12 = v12) (i11 : s.at 11 = v11) (o14 : ab K.P .lss 3 v13 v12 = some tt) (o15 : af v11 v13 (ae K.P 22) = some r15) (o16 : al h r15 (ar K.P 46) = some r16) (o18 : aj h r16 (ae K.P 46) = some r18) (o19 : ab K.P .gtr 3 r18 (.nu .i64 12) = some tt) : ic K [1, 1, 0, 1, 0, 0] s h .ret (W8 s 14 tt 15 r15 16 r16 6 r16 17 r16 18 r18 19 tt 4 tt) h :=
 (sq (yA (h := h) (r14 := tt) hk i13 i12 o14) (sq (cT 14 rfl sk) (sx (az (sq (FE (h := h) hk i11 i13 o15 o16) (sq (FG (h := h) (v6 := r16) (r19 := tt) hk rfl o18 o19) (cT 19 rfl (sq (Pr (h := h) hk) Runs.ret))))) (by simp))))
theorem uJ {v13 v12 v11 r15 r16 r18 r20 : CV} (i13 : s.at 13 = v13) (i12 : s.at 12 = v12) (i11 : s.at 11 = v11) (o14 : ab K.P .lss 3 v13 v12 = some tt) (o15 : af v11 v13 (ae K.P 22) = some r15) (o16 : al h r15 (ar K.P 46) = some r16) (o18 : aj h r16 (ae K.P 46) = some r18) (o19 : ab K.P .gtr 3 r18 (.nu .i64 12) = some ff) (o20 : ab K.P .add 3 v13 (.nu .i64 1) = some r20) : ic K [1, 1, 0, 1, 0, 0] s h .normal (W (W8 s 14 tt 15 r15 16 r16 6 r16 17 r16 18 r18 19 ff 20 r20) 13 r20) h :=
 (sq (yA (h := h) (r14 := tt) hk i13 i12 o14) (sq (cT 14 rfl sk) (sq (au (sq (FE (h := h) hk i11 i13 o15 o16) (sq (FG (h := h) (v6 := r16) (r19 := ff) hk rfl o18 o19) (cF 19 rfl sk)))) (Ps (h := h) hk i13 o20))))
theorem wP {v13 v12 : CV} (i13 : s.at 13 = v13) (i12 : s.at 12 = v12) (o14 : ab K.P .lss 3 v13 v12 = some ff) : ic K [1, 1, 0, 1, 0, 0] s h (.exit 0) (W s 14 ff) h :=
 (sq (yA (h := h) (r14 := ff) hk i13 i12 o14) (sx (cF 14 rfl Runs.exit) (by simp)))
theorem Ii : ic K [1, 1, 1] s h .ret (W s 4 ff) h :=
 (sq (Pt (h := h) hk) Runs.ret)
theorem Gd {v0 r8 : CV} (i0 : s.at 0 = v0) (o8 : aj h v0 (ae K.P 26) = some r8) (o9 : ab K.P .gtr 3 r8 (.nu .i64 1024) = some tt) : ct K [1, 0] s h .ret (W4 s 7 v0 8 r8 9 tt 2 (.nu .i64 3)) h :=
 (sq (FH (h := h) (r9 := tt) hk i0 o8 o9) (cT 9 rfl (sq (Pu (h := h) hk) Runs.ret)))
theorem Ge {v0 r8 : CV} (i0 : s.at 0 = v0) (o8 : aj h v0 (ae K.P 26) = some r8) (o9 : ab K.P .gtr 3 r8 (.nu .i64 1024) = some ff) : ct K [1, 0] s h .normal (W (W (W s 7 v0) 8 r8) 9 ff) h :=
 (sq (FH (h := h) (r9 := ff) hk i0 o8 o9) (cF 9 rfl sk))
theorem uK {v3 v0 r12 : CV} (i3 : s.at 3 = v3) (i0 : s.at 0 = v0) (o12 : aj h v0 (ae K.P 26) = some r12) (o13 : ab K.P .lss 3 v3 r12 = some tt) : ct K [1, 1, 0, 1, 0, 0, 0] s h .normal (W4 s 10 v3 11 v0 12 r12 13 tt) h :=
 (sq (FJ (h := h) (r13 := tt) hk i3 i0 o12 o13) (cT 13 rfl sk))
theorem uL {v3 v0 r12 : CV} (i3 : s.at 3 = v3) (i0 : s.at 0 = v0) (o12 : aj h v0 (ae K.P 26) = some r12) (o13 : ab K.P .lss 3 v3 r12 = some ff) : ct K [1, 1, 0, 1, 0, 0, 0] s h (.exit 0) (W4 s 10 v3 11 v0 12 r12 13 ff) h :=
 (sq (FJ (h := h) (r13 := ff) hk i3 i0 o12 o13) (cF 13 rfl Runs.exit))
theorem qr {v0 v3 r18 r19 r20 : CV} {g1 : Hp} (i0 : s.at 0 = v0) (i3 : s.at 3 = v3) (o18 : af v0 v3 (ae K.P 26) = some r18) (o19 : al h r18 (ar K.P 45) = some r19) (wg1 : Comes K 57 [r19] h r20 g1) (o22 : ab K.P .neq 29 r20 n0 = some tt) : ct K [1, 1, 0, 1, 0, 0, 1, 0, 0, 0] s h .ret (W (W (W8 s 16 v0 17 v3 18 r18 19 r19 20 r20 4 r20 21 r20 22 tt) 23 r20) 2 r20) g1 :=
 (sq (FK (h := h) hk i0 i3 o18 o19 (pr _ _) ‹_›) (sq (FL (h := g1) (v4 := r20) (r22 := tt) hk rfl o22) (cT 22 rfl (sq (Pv (h := g1) (v4 := r20) hk rfl) Runs.ret))))
theorem qt {v0 v3 r18 r19 r20 : CV} {g1 : Hp} (i0 : s.at 0 = v0) (i3 : s.at 3 = v3) (o18 : af v0 v3 (ae K.P 26) = some r18) (o19 : al h r18 (ar K.P 45) = some r19) (wg1 : Comes K 57 [r19] h r20 g1) (o22 : ab K.P .neq 29 r20 n0 = some ff) : ct K [1, 1, 0, 1, 0, 0, 1, 0, 0, 0] s h .normal (W8 s 16 v0 17 v3 18 r18 19 r19 20 r20 4 r20 21 r20 22 ff) g1 :=
 (sq (FK (h := h) hk i0 i3 o18 o19 (pr _ _) ‹_›) (sq (FL (h := g1) (v4 := r20) (r22 := ff) hk rfl o22) (cF 22 rfl sk)))
theorem oq {v3 v0 r29 r30 r33 r34 r35 r36 r37 : CV} {g1 : Hp} (i3 : s.at 3 = v3) (i0 : s.at 0 = v0) (o25 : ab K.P .gtr 3 v3 n0 = some tt) (o29 : af v0 v3 (ae K.P 26) = some r29) (o30 : al h r29 (ar K.P 45) = some r30) (q30 : ceq r30 r30 = true) (o33 : ab K.P .sub 3 v3 (.nu .i64 1) = some r33) (o34 : af v0 r33 (ae K.P 26) = some r34) (o35 : al h r34 (ar K.P 45) = some r35) (wg1 : Comes K 38 [r30, r35] h r36 g1) (o37 : ab K.P .eql 3 r36 n0 = some r37) (o38 : ap r37 ff tt = some tt) : ct K [1, 1, 0, 1, 0, 0, 1, 0, 0, 1, 0] s h .ret (W8 (W8 s 24 v3 25 tt 26 tt 27 v0 28 v3 29 r29 30 r30 31 v0) 32 v3 33 r33 34 r34 35 r35 36 r36 37 r37 38 tt 2 (.nu .i64 5)) g1 :=
 (sq (yC (h := h) (r38 := tt) hk Pl.p17_9 i3 i0 o25 o29 o30 q30 o33 o34 o35 (pr _ _) ‹_› o37 o38) (cT 38 rfl (sq (LF (h := g1) hk) Runs.ret)))
theorem ot {v3 v0 r29 r30 r33 r34 r35 r36 r37 : CV} {g1 : Hp} (i3 : s.at 3 = v3) (i0 : s.at 0 = v0) (o25 : ab K.P .gtr 3 v3 n0 = some tt) (o29 : af v0 v3 (ae K.P 26) = some r29) (o30 : al h r29 (ar K.P 45) = some r30) (q30 : ceq r30 r30 = true) (o33 : ab K.P .sub 3 v3 (.nu .i64 1) = some r33) (o34 : af v0 r33 (ae K.P 26) = some r34) (o35 : al h r34 (ar K.P 45) = some r35) (wg1 : Comes K 38 [r30, r35] h r36 g1) (o37 : ab K.P .eql 3 r36 n0 = some r37) (o38 : ap r37 ff tt = some ff) : ct K [1, 1, 0, 1, 0, 0, 1, 0, 0, 1, 0] s h .normal (W (W (W (W4 (W8 s 24 v3 25 tt 26 tt 27 v0 28 v3 29 r29 30 r30 31 v0) 32 v3 33 r33 34 r34 35 r35) 36 r36) 37 r37) 38 ff) g1 :=
 (sq (yC (h := h) (r38 := ff) hk Pl.p17_9 i3 i0 o25 o29 o30 q30 o33 o34 o35 (pr _ _) ‹_› o37 o38) (cF 38 rfl sk))
theorem ou {v3 : CV} (i3 : s.at 3 = v3) (o25 : ab K.P .gtr 3 v3 n0 = some ff) (o38 : ap .skp ff ff = some ff) : ct K [1, 1, 0, 1, 0, 0, 1, 0, 0, 1, 0] s h .normal (W (W (W (W4 (W8 s 24 v3 25 ff 26 ff 27 .skp 28 .skp 29 .skp 30 .skp 31 .skp) 32 .skp 33 .skp 34 .skp 35 .skp) 36 .skp) 37 .skp) 38 ff) h :=
 (sq (If (h := h) (r38 := ff) hk Pl.p17_9 i3 o25 o38) (cF 38 rfl sk))
theorem nB {v3 v0 r44 r45 r48 r49 r50 r51 r52 : CV} {g1 : Hp} (i3 : s.at 3 = v3) (i0 : s.at 0 = v0) (o40 : ab K.P .gtr 3 v3 n0 = some tt) (o44 : af v0 v3 (ae K.P 26) = some r44) (o45 : al h r44 (ar K.P 45) = some r45) (q45 : ceq r45 r45 = true) (o48 : ab K.P .sub 3 v3 (.nu .i64 1) = some r48) (o49 : af v0 r48 (ae K.P 26) = some r49) (o50 : al h r49 (ar K.P 45) = some r50) (wg1 : Comes K 38 [r45, r50] h r51 g1) (o52 : ab K.P .lss 3 r51 n0 = some r52) (o53 : ap r52 ff tt = some tt) : ct K [1, 1, 0, 1, 0, 0, 1, 0, 0, 1, 1, 0] s h .ret (W8 (W8 s 39 v3 40 tt 41 tt 42 v0 43 v3 44 r44 45 r45 46 v0) 47 v3 48 r48 49 r49 50 r50 51 r51 52 r52 53 tt 2 (.nu .i64 6)) g1 :=
 (sq (vO (h := h) (r53 := tt) hk Pl.p17_11 i3 i0 o40 o44 o45 q45 o48 o49 o50 (pr _ _) ‹_› o52 o53) (cT 53 rfl (sq (LH (h := g1) hk) Runs.ret)))
theorem nC {v3 v0 r44 r45 r48 r49 r50 r51 r52 : CV} {g1 : Hp} (i3 : s.at 3 = v3) (i0 : s.at 0 = v0) (o40 : ab K.P .gtr 3 v3 n0 = some tt) (o44 : af v0 v3 (ae K.P 26) = some r44) (o45 : al h r44 (ar K.P 45) = some r45) (q45 : ceq r45 r45 = true) (o48 : ab K.P .sub 3 v3 (.nu .i64 1) = some r48) (o49 : af v0 r48 (ae K.P 26) = some r49) (o50 : al h r49 (ar K.P 45) = some r50) (wg1 : Comes K 38 [r45, r50] h r51 g1) (o52 : ab K.P .lss 3 r51 n0 = some r52) (o53 : ap r52 ff tt = some ff) : ct K [1, 1, 0, 1, 0, 0, 1, 0, 0, 1, 1, 0] s h .normal (W (W (W (W4 (W8 s 39 v3 40 tt 41 tt 42 v0 43 v3 44 r44 45 r45 46 v0) 47 v3 48 r48 49 r49 50 r50) 51 r51) 52 r52) 53 ff) g1 :=
 (sq (vO (h := h) (r53 := ff) hk Pl.p17_11 i3 i0 o40 o44 o45 q45 o48 o49 o50 (pr _ _) ‹_› o52 o53) (cF 53 rfl sk))
theorem nD {v3 : CV} (i3 : s.at 3 = v3) (o40 : ab K.P .gtr 3 v3 n0 = some ff) (o53 : ap .skp ff ff = some ff) : ct K [1, 1, 0, 1, 0, 0, 1, 0, 0, 1, 1, 0] s h .normal (W (W (W (W4 (W8 s 39 v3 40 ff 41 ff 42 .skp 43 .skp 44 .skp 45 .skp 46 .skp) 47 .skp 48 .skp 49 .skp 50 .skp) 51 .skp) 52 .skp) 53 ff) h :=
 (sq (FM (h := h) (r53 := ff) hk Pl.p17_11 i3 o40 o53) (cF 53 rfl sk))
theorem kI {v6 v5 r61 v0 r68 r69 r70 : CV} {g1 : Hp} (i6 : s.at 6 = v6) (i5 : s.at 5 = v5) (i0 : s.at 0 = v0) (o61 : aj h v5 (ae K.P 26) = some r61) (o62 : ab K.P .lss 3 v6 r61 = some tt) (o68 : af v5 v6 (ae K.P 26) = some r68) (o69 : al h r68 (ar K.P 45) = some r69) (wg1 : Comes K 28 [v0, r69] h r70 g1) (o71 : ab K.P .lss 3 r70 n0 = some tt) : ct K [1, 1, 0, 1, 0, 0, 1, 0, 0, 1, 1, 1, 1, 1, 0, 0] s h .ret (W4 (W8 s 59 v6 60 v5 61 r61 62 tt 65 v0 66 v5 67 v6 68 r68) 69 r69 70 r70 71 tt 2 (.nu .i64 7)) g1 :=
 (sq (sq (uD (h := h) (r62 := tt) hk i6 i5 o61 o62) (cT 62 rfl sk)) (sx (az (sq (Bw (h := h) (r71 := tt) hk i0 i5 i6 o68 o69 (pr _ _) ‹_› o71) (cT 71 rfl (sq (LJ (h := g1) hk) Runs.ret)))) (by simp)))
theorem kJ {v6 v5 r61 v0 r68 r69 r70 r64 : CV} {g1 : Hp} (i6 : s.at 6 = v6) (i5 : s.at 5 = v5) (i0 : s.at 0 = v0) (o61 : aj h v5 (ae K.P 26) = some r61) (o62 : ab K.P .lss 3 v6 r61 = some tt) (o68 : af v5 v6 (ae K.P 26) = some r68) (o69 : al h r68 (ar K.P 45) = some r69) (wg1 : Comes K 28 [v0, r69] h r70 g1) (o71 : ab K.P .lss 3 r70 n0 = some ff) (o64 : ab K.P .add 3 v6 (.nu .i64 1) = some r64) : ct K [1, 1, 0, 1, 0, 0, 1, 0, 0, 1, 1, 1, 1, 1, 0, 0] s h .normal (W (W (W4 (W8 s 59 v6 60 v5 61 r61 62 tt 65 v0 66 v5 67 v6 68 r68) 69 r69 70 r70 71 ff 63 v6) 64 r64) 6 r64) g1 :=
 (sq (sq (uD (h := h) (r62 := tt) hk i6 i5 o61 o62) (cT 62 rfl sk)) (sq (au (sq (Bw (h := h) (r71 := ff) hk i0 i5 i6 o68 o69 (pr _ _) ‹_› o71) (cF 71 rfl sk))) (LK (h := g1) hk i6 o64)))
theorem ld {v6 v5 r61 : CV} (i6 : s.at 6 = v6) (i5 : s.at 5 = v5) (o61 : aj h v5 (ae K.P 26) = some r61) (o62 : ab K.P .lss 3 v6 r61 = some ff) : ct K [1, 1, 0, 1, 0, 0, 1, 0, 0, 1, 1, 1, 1, 1, 0, 0] s h (.exit 2) (W4 s 59 v6 60 v5 61 r61 62 ff) h :=
 (sx (sq (uD (h := h) (r62 := ff) hk i6 i5 o61 o62) (cF 62 rfl Runs.exit)) (by simp))
theorem Ij : ct K [1, 1, 1] s h .ret (W s 2 n0) h :=
 (sq (LL (h := h) hk) Runs.ret)
theorem uM {v4 v0 r7 r14 r15 r16 r17 v3 r23 r25 r10 : CV} {F24 : Nat → CV} {B24 : HB} {g1 g2 : Hp} (i4 : s.at 4 = v4) (i0 : s.at 0 = v0) (i3 : s.at 3 = v3) (o7 : aj h v0 (ae K.P 26) = some r7) (o8 : ab K.P .lss 3 v4 r7 = some tt) (o14 : af v0 v4 (ae K.P 26) = some r14) (o15 : al h r14 (ar K.P 45) = some r15) (wg1 : Comes K 60 [v0, r15] h r16 g1) (o17 : aj g1 r16 (ae K.P 26) = some r17) (o18 : ab K.P .eql 3 r17 (.nu .i64 1) = some tt) (o23 : al g1 r14 (ar K.P 45) = some r23) (o24 : aM 1 [(0, r23)] (ae K.P 26) = some (F24, B24)) (wg2 : aT (g1.push B24) v3 (F24 (g1).n) (ae K.P 26) (ae K.P 26) = some (r25, g2)) (o10 : ab K.P .add 3 v4 (.nu .i64 1) = some r10) : nV K [1, 1, 0, 1, 0, 0] s h .normal (W (W (W (W4 (W8 (W8 s 5 v4 6 v0 7 r7 8 tt 11 v0 12 v0 13 v4 14 r14) 15 r15 16 r16 17 r17 18 tt 19 v3 20 v0 21 v4 22 r14) 23 r23 24 (F24 (g1).n) 25 r25 3 r25) 9 v4) 10 r10) 4 r10) g2 :=
 (sq (sq (yD (h := h) (r8 := tt) hk i4 i0 o7 o8) (cT 8 rfl sk)) (sq (au (sq (FN (h := h) (r18 := tt) hk i0 i4 o14 o15 (pr _ _) ‹_› o17 o18) (cT 18 rfl (PA (h := g1) (r22 := r14) (g1 := g2) hk i3 i0 i4 ‹_› o23 o24 ‹_›)))) (FO (h := g2) hk i4 o10)))
theorem uN {v4 v0 r7 r14 r15 r16 r17 r10 : CV} {g1 : Hp} (i4 : s.at 4 = v4) (i0 : s.at 0 = v0) (o7 : aj h v0 (ae K.P 26) = some r7) (o8 : ab K.P .lss 3 v4 r7 = some tt) (o14 : af v0 v4 (ae K.P 26) = some r14) (o15 : al h r14 (ar K.P 45) = some r15) (wg1 : Comes K 60 [v0, r15] h r16 g1) (o17 : aj g1 r16 (ae K.P 26) = some r17) (o18 : ab K.P .eql 3 r17 (.nu .i64 1) = some ff) (o10 : ab K.P .add 3 v4 (.nu .i64 1) = some r10) : nV K [1, 1, 0, 1, 0, 0] s h .normal (W (W (W (W4 (W8 s 5 v4 6 v0 7 r7 8 tt 11 v0 12 v0 13 v4 14 r14) 15 r15 16 r16 17 r17 18 ff) 9 v4) 10 r10) 4 r10) g1 :=
 (sq (sq (yD (h := h) (r8 := tt) hk i4 i0 o7 o8) (cT 8 rfl sk)) (sq (au (sq (FN (h := h) (r18 := ff) hk i0 i4 o14 o15 (pr _ _) ‹_› o17 o18) (cF 18 rfl sk))) (FO (h := g1) hk i4 o10)))
theorem wQ {v4 v0 r7 : CV} (i4 : s.at 4 = v4) (i0 : s.at 0 = v0) (o7 : aj h v0 (ae K.P 26) = some r7) (o8 : ab K.P .lss 3 v4 r7 = some ff) : nV K [1, 1, 0, 1, 0, 0] s h (.exit 0) (W4 s 5 v4 6 v0 7 r7 8 ff) h :=
 (sx (sq (yD (h := h) (r8 := ff) hk i4 i0 o7 o8) (cF 8 rfl Runs.exit)) (by simp))
theorem Ik {v3 : CV} (i3 : s.at 3 = v3) : nV K [1, 1, 1] s h .ret (W (W s 26 v3) 2 v3) h :=
 (sq (PC (h := h) hk i3) Runs.ret)
theorem Gf {v0 r7 v1 r9 : CV} (i0 : s.at 0 = v0) (i1 : s.at 1 = v1) (o7 : aj h v0 (ae K.P 22) = some r7) (o9 : aj h v1 (ae K.P 26) = some r9) (o10 : ab K.P .neq 3 r7 r9 = some tt) : jy K [1, 0] s h .ret (W (W (W4 s 6 v0 7 r7 8 v1 9 r9) 10 tt) 4 ff) h :=
 (sq (FP (h := h) (r10 := tt) hk i0 i1 o7 o9 o10) (cT 10 rfl (sq (PE (h := h) hk) Runs.ret)))
theorem Gg {v0 r7 v1 r9 : CV} (i0 : s.at 0 = v0) (i1 : s.at 1 = v1) (o7 : aj h v0 (ae K.P 22) = some r7) (o9 : aj h v1 (ae K.P 26) = some r9) (o10 : ab K.P .neq 3 r7 r9 = some ff) : jy K [1, 0] s h .normal (W (W4 s 6 v0 7 r7 8 v1 9 r9) 10 ff) h :=
 (sq (FP (h := h) (r10 := ff) hk i0 i1 o7 o9 o10) (cF 10 rfl sk))
theorem uO {v5 v0 r13 r19 r20 v1 r23 r24 r25 : CV} {g1 : Hp} (i5 : s.at 5 = v5) (i0 : s.at 0 = v0) (i1 : s.at 1 = v1) (o13 : aj h v0 (ae K.P 22) = some r13) (o14 : ab K.P .lss 3 v5 r13 = some tt) (o19 : af v0 v5 (ae K.P 22) = some r19) (o20 : al h r19 (ar K.P 46) = some r20) (q20 : ceq r20 r20 = true) (o23 : af v1 v5 (ae K.P 26) = some r23) (o24 : al h r23 (ar K.P 45) = some r24) (wg1 : Comes K 38 [r20, r24] h r25 g1) (o26 : ab K.P .neq 3 r25 n0 = some tt) : jy K [1, 1, 0, 1, 0, 0] s h .ret (W (W (W (W4 (W8 s 11 v5 12 v0 13 r13 14 tt 17 v0 18 v5 19 r19 20 r20) 21 v1 22 v5 23 r23 24 r24) 25 r25) 26 tt) 4 ff) g1 :=
 (sq (sq (yF (h := h) (r14 := tt) hk i5 i0 o13 o14) (cT 14 rfl sk)) (sx (az (sq (FR (h := h) (r26 := tt) hk Pl.p23_6 i0 i5 i1 o19 o20 q20 o23 o24 (pr _ _) ‹_› o26) (cT 26 rfl (sq (PF (h := g1) hk) Runs.ret)))) (by simp)))
theorem uP {v5 v0 r13 r19 r20 v1 r23 r24 r25 r16 : CV} {g1 : Hp} (i5 : s.at 5 = v5) (i0 : s.at 0 = v0) (i1 : s.at 1 = v1) (o13 : aj h v0 (ae K.P 22) = some r13) (o14 : ab K.P .lss 3 v5 r13 = some tt) (o19 : af v0 v5 (ae K.P 22) = some r19) (o20 : al h r19 (ar K.P 46) = some r20) (q20 : ceq r20 r20 = true) (o23 : af v1 v5 (ae K.P 26) = some r23) (o24 : al h r23 (ar K.P 45) = some r24) (wg1 : Comes K 38 [r20, r24] h r25 g1) (o26 : ab K.P .neq 3 r25 n0 = some ff) (o16 : ab K.P .add 3 v5 (.nu .i64 1) = some r16) : jy K [1, 1, 0, 1, 0, 0] s h .normal (W (W8 (W8 s 11 v5 12 v0 13 r13 14 tt 17 v0 18 v5 19 r19 20 r20) 21 v1 22 v5 23 r23 24 r24 25 r25 26 ff 15 v5 16 r16) 5 r16) g1 :=
 (sq (sq (yF (h := h) (r14 := tt) hk i5 i0 o13 o14) (cT 14 rfl sk)) (sq (au (sq (FR (h := h) (r26 := ff) hk Pl.p23_6 i0 i5 i1 o19 o20 q20 o23 o24 (pr _ _) ‹_› o26) (cF 26 rfl sk))) (PG (h := g1) hk i5 o16)))
theorem wR {v5 v0 r13 : CV} (i5 : s.at 5 = v5) (i0 : s.at 0 = v0) (o13 : aj h v0 (ae K.P 22) = some r13) (o14 : ab K.P .lss 3 v5 r13 = some ff) : jy K [1, 1, 0, 1, 0, 0] s h (.exit 0) (W4 s 11 v5 12 v0 13 r13 14 ff) h :=
 (sx (sq (yF (h := h) (r14 := ff) hk i5 i0 o13 o14) (cF 14 rfl Runs.exit)) (by simp))
theorem Il : jy K [1, 1, 1] s h .ret (W s 4 tt) h :=
 (sq (PH (h := h) hk) Runs.ret)
theorem Gh {v0 r6 : CV} (i0 : s.at 0 = v0) (o6 : aj h v0 (ae K.P 45) = some r6) (o7 : ab K.P .eql 3 r6 n0 = some tt) : dM K [1, 0] s h .ret (W4 s 5 v0 6 r6 7 tt 2 (.nu .i64 1)) h :=
 (sq (FZ (h := h) (r7 := tt) hk i0 o6 o7) (cT 7 rfl (sq (PO (h := h) hk) Runs.ret)))
theorem vP {v0 r6 : CV} (i0 : s.at 0 = v0) (o6 : aj h v0 (ae K.P 45) = some r6) (o7 : ab K.P .eql 3 r6 n0 = some ff) : dM K [1, 0] s h .normal (W (W (W s 5 v0) 6 r6) 7 ff) h :=
 (sq (FZ (h := h) (r7 := ff) hk i0 o6 o7) (cF 7 rfl sk))
theorem CM {v0 r9 : CV} (i0 : s.at 0 = v0) (o9 : aj h v0 (ae K.P 45) = some r9) (o10 : ab K.P .gtr 3 r9 (.nu .i64 5) = some tt) : dM K [1, 1, 0] s h .ret (W4 s 8 v0 9 r9 10 tt 2 (.nu .i64 3)) h :=
 (sq (F0 (h := h) (r10 := tt) hk i0 o9 o10) (cT 10 rfl (sq (PP (h := h) hk) Runs.ret)))
theorem CN {v0 r9 : CV} (i0 : s.at 0 = v0) (o9 : aj h v0 (ae K.P 45) = some r9) (o10 : ab K.P .gtr 3 r9 (.nu .i64 5) = some ff) : dM K [1, 1, 0] s h .normal (W (W (W s 8 v0) 9 r9) 10 ff) h :=
 (sq (F0 (h := h) (r10 := ff) hk i0 o9 o10) (cF 10 rfl sk))
theorem q9 {v3 v0 r13 r19 r20 : CV} (i3 : s.at 3 = v3) (i0 : s.at 0 = v0) (o13 : aj h v0 (ae K.P 45) = some r13) (o14 : ab K.P .lss 3 v3 r13 = some tt) (o19 : af v0 v3 (ae K.P 45) = some r19) (o20 : al h r19 (ar K.P 3) = some r20) (o21 : ab K.P .lss 3 r20 n0 = some tt) (o28 : ap tt .skp tt = some tt) : dM K [1, 1, 1, 0, 1, 0, 0] s h .ret (W (W8 (W8 s 11 v3 12 v0 13 r13 14 tt 17 v0 18 v3 19 r19 20 r20) 21 tt 22 tt 23 .skp 24 .skp 25 .skp 26 .skp 27 .skp 28 tt) 2 (.nu .i64 1)) h :=
 (sq (sq (tc (h := h) (r14 := tt) hk i3 i0 o13 o14) (cT 14 rfl sk)) (sx (az (sq (Ig (h := h) (r28 := tt) hk i0 i3 o19 o20 o21 o28) (cT 28 rfl (sq (F7 (h := h) hk) Runs.ret)))) (by simp)))
theorem re {v3 v0 r13 r19 r20 r27 : CV} (i3 : s.at 3 = v3) (i0 : s.at 0 = v0) (o13 : aj h v0 (ae K.P 45) = some r13) (o14 : ab K.P .lss 3 v3 r13 = some tt) (o19 : af v0 v3 (ae K.P 45) = some r19) (o20 : al h r19 (ar K.P 3) = some r20) (o21 : ab K.P .lss 3 r20 n0 = some ff) (o27 : ab K.P .geq 3 r20 (.nu .i64 64) = some r27) (o28 : ap tt r27 ff = some tt) : dM K [1, 1, 1, 0, 1, 0, 0] s h .ret (W (W8 (W8 s 11 v3 12 v0 13 r13 14 tt 17 v0 18 v3 19 r19 20 r20) 21 ff 22 ff 23 v0 24 v3 25 r19 26 r20 27 r27 28 tt) 2 (.nu .i64 1)) h :=
 (sq (sq (tc (h := h) (r14 := tt) hk i3 i0 o13 o14) (cT 14 rfl sk)) (sx (az (sq (yG (h := h) (r28 := tt) hk i0 i3 o19 o20 o21 o27 o28) (cT 28 rfl (sq (F7 (h := h) hk) Runs.ret)))) (by simp)))
theorem rh {v3 v0 r13 r19 r20 r27 r16 : CV} (i3 : s.at 3 = v3) (i0 : s.at 0 = v0) (o13 : aj h v0 (ae K.P 45) = some r13) (o14 : ab K.P .lss 3 v3 r13 = some tt) (o19 : af v0 v3 (ae K.P 45) = some r19) (o20 : al h r19 (ar K.P 3) = some r20) (o21 : ab K.P .lss 3 r20 n0 = some ff) (o27 : ab K.P .geq 3 r20 (.nu .i64 64) = some r27) (o28 : ap tt r27 ff = some ff) (o16 : ab K.P .add 3 v3 (.nu .i64 1) = some r16) : dM K [1, 1, 1, 0, 1, 0, 0] s h .normal (W (W (W (W8 (W8 s 11 v3 12 v0 13 r13 14 tt 17 v0 18 v3 19 r19 20 r20) 21 ff 22 ff 23 v0 24 v3 25 r19 26 r20 27 r27 28 ff) 15 v3) 16 r16) 3 r16) h :=
 (sq (sq (tc (h := h) (r14 := tt) hk i3 i0 o13 o14) (cT 14 rfl sk)) (sq (au (sq (yG (h := h) (r28 := ff) hk i0 i3 o19 o20 o21 o27 o28) (cF 28 rfl sk))) (PR (h := h) hk i3 o16)))
theorem uQ {v3 v0 r13 : CV} (i3 : s.at 3 = v3) (i0 : s.at 0 = v0) (o13 : aj h v0 (ae K.P 45) = some r13) (o14 : ab K.P .lss 3 v3 r13 = some ff) : dM K [1, 1, 1, 0, 1, 0, 0] s h (.exit 0) (W4 s 11 v3 12 v0 13 r13 14 ff) h :=
 (sx (sq (tc (h := h) (r14 := ff) hk i3 i0 o13 o14) (cF 14 rfl Runs.exit)) (by simp))
theorem ri {v4 v0 r31 r37 r38 r41 r42 r43 : CV} (i4 : s.at 4 = v4) (i0 : s.at 0 = v0) (o31 : aj h v0 (ae K.P 45) = some r31) (o32 : ab K.P .lss 3 v4 r31 = some tt) (o37 : af v0 v4 (ae K.P 45) = some r37) (o38 : al h r37 (ar K.P 3) = some r38) (q38 : ceq r38 r38 = true) (o41 : ab K.P .sub 3 v4 (.nu .i64 1) = some r41) (o42 : af v0 r41 (ae K.P 45) = some r42) (o43 : al h r42 (ar K.P 3) = some r43) (o44 : ab K.P .leq 3 r38 r43 = some tt) : dM K [1, 1, 1, 1, 0, 1, 0, 0] s h .ret (W (W (W (W4 (W8 s 29 v4 30 v0 31 r31 32 tt 35 v0 36 v4 37 r37 38 r38) 39 v0 40 v4 41 r41 42 r42) 43 r43) 44 tt) 2 (.nu .i64 6)) h :=
 (sq (sq (uE (h := h) (r32 := tt) hk i4 i0 o31 o32) (cT 32 rfl sk)) (sx (az (sq (BA (h := h) (r44 := tt) hk Pl.p57_13 i0 i4 o37 o38 q38 o41 o42 o43 o44) (cT 44 rfl (sq (LP (h := h) hk) Runs.ret)))) (by simp)))
theorem rj {v4 v0 r31 r37 r38 r41 r42 r43 r34 : CV} (i4 : s.at 4 = v4) (i0 : s.at 0 = v0) (o31 : aj h v0 (ae K.P 45) = some r31) (o32 : ab K.P .lss 3 v4 r31 = some tt) (o37 : af v0 v4 (ae K.P 45) = some r37) (o38 : al h r37 (ar K.P 3) = some r38) (q38 : ceq r38 r38 = true) (o41 : ab K.P .sub 3 v4 (.nu .i64 1) = some r41) (o42 : af v0 r41 (ae K.P 45) = some r42) (o43 : al h r42 (ar K.P 3) = some r43) (o44 : ab K.P .leq 3 r38 r43 = some ff) (o34 : ab K.P .add 3 v4 (.nu .i64 1) = some r34) : dM K [1, 1, 1, 1, 0, 1, 0, 0] s h .normal (W (W8 (W8 s 29 v4 30 v0 31 r31 32 tt 35 v0 36 v4 37 r37 38 r38) 39 v0 40 v4 41 r41 42 r42 43 r43 44 ff 33 v4 34 r34) 4 r34) h :=
 (sq (sq (uE (h := h) (r32 := tt) hk i4 i0 o31 o32) (cT 32 rfl sk)) (sq (au (sq (BA (h := h) (r44 := ff) hk Pl.p57_13 i0 i4 o37 o38 q38 o41 o42 o43 o44) (cF 44 rfl sk))) (LQ (h := h) hk i4 o34)))
theorem td {v4 v0 r31 : CV} (i4 : s.at 4 = v4) (i0 : s.at 0 = v0) (o31 : aj h v0 (ae K.P 45) = some r31) (o32 : ab K.P .lss 3 v4 r31 = some ff) : dM K [1, 1, 1, 1, 0, 1, 0, 0] s h (.exit 2) (W4 s 29 v4 30 v0 31 r31 32 ff) h :=
 (sx (sq (uE (h := h) (r32 := ff) hk i4 i0 o31 o32) (cF 32 rfl Runs.exit)) (by simp))
theorem CO : dM K [1, 1, 1, 1, 1] s h .ret (W s 2 n0) h :=
 (sq (LR (h := h) hk) Runs.ret)
theorem uR {v0 r6 v4 r12 v3 r19 r21 r15 : CV} {F20 : Nat → CV} {B20 : HB} {g1 g2 : Hp} (i0 : s.at 0 = v0) (i4 : s.at 4 = v4) (i3 : s.at 3 = v3) (o6 : aj h v0 (ae K.P 45) = some r6) (o7 : ab K.P .gtr 3 r6 (.nu .i64 1) = some tt) (o12 : ab K.P .lss 3 v4 r6 = some r12) (o13 : ap r12 ff tt = some tt) (wg1 : Comes K 106 [v0, v4] h r19 g1) (o20 : aM 1 [(0, r19)] (ae K.P 26) = some (F20, B20)) (wg2 : aT (g1.push B20) v3 (F20 (g1).n) (ae K.P 26) (ae K.P 26) = some (r21, g2)) (o15 : ab K.P .add 3 v4 (.nu .i64 1) = some r15) : nW K [1, 1, 0, 1, 0, 0] s h .normal (W (W (W (W8 (W8 s 5 v0 6 r6 7 tt 8 tt 9 v4 10 v0 11 r6 12 r12) 13 tt 16 v3 17 v0 18 v4 19 r19 20 (F20 (g1).n) 21 r21 3 r21) 14 v4) 15 r15) 4 r15) g2 :=
 (sq (sq (yH (h := h) (r13 := tt) hk i0 i4 o6 o7 o12 o13) (cT 13 rfl sk)) (sq (au (PW (h := h) hk i3 i0 i4 (pr _ _) ‹_› o20 ‹_›)) (PX (h := g2) hk i4 o15)))
theorem uS {v0 r6 v4 r12 : CV} (i0 : s.at 0 = v0) (i4 : s.at 4 = v4) (o6 : aj h v0 (ae K.P 45) = some r6) (o7 : ab K.P .gtr 3 r6 (.nu .i64 1) = some tt) (o12 : ab K.P .lss 3 v4 r6 = some r12) (o13 : ap r12 ff tt = some ff) : nW K [1, 1, 0, 1, 0, 0] s h (.exit 0) (W (W8 s 5 v0 6 r6 7 tt 8 tt 9 v4 10 v0 11 r6 12 r12) 13 ff) h :=
 (sx (sq (yH (h := h) (r13 := ff) hk i0 i4 o6 o7 o12 o13) (cF 13 rfl Runs.exit)) (by simp))
theorem uT {v0 r6 : CV} (i0 : s.at 0 = v0) (o6 : aj h v0 (ae K.P 45) = some r6) (o7 : ab K.P .gtr 3 r6 (.nu .i64 1) = some ff) (o13 : ap .skp ff ff = some ff) : nW K [1, 1, 0, 1, 0, 0] s h (.exit 0) (W (W8 s 5 v0 6 r6 7 ff 8 ff 9 .skp 10 .skp 11 .skp 12 .skp) 13 ff) h :=
 (sx (sq (Ih (h := h) (r13 := ff) hk i0 o6 o7 o13) (cF 13 rfl Runs.exit)) (by simp))
theorem In {v3 : CV} (i3 : s.at 3 = v3) : nW K [1, 1, 1] s h .ret (W (W s 22 v3) 2 v3) h :=
 (sq (PZ (h := h) hk i3) Runs.ret)
theorem uU {v6 v0 r9 r15 r16 v1 v5 r23 r25 r12 : CV} {F24 : Nat → CV} {B24 : HB} {g1 g2 : Hp} (i6 : s.at 6 = v6) (i0 : s.at 0 = v0) (i1 : s.at 1 = v1) (i5 : s.at 5 = v5) (o9 : aj h v0 (ae K.P 26) = some r9) (o10 : ab K.P .lss 3 v6 r9 = some tt) (o15 : af v0 v6 (ae K.P 26) = some r15) (o16 : al h r15 (ar K.P 45) = some r16) (wg1 : Comes K 107 [r16, v1] h tt g1) (o23 : al g1 r15 (ar K.P 45) = some r23) (o24 : aM 1 [(0, r23)] (ae K.P 26) = some (F24, B24)) (wg2 : aT (g1.push B24) v5 (F24 (g1).n) (ae K.P 26) (ae K.P 26) = some (r25, g2)) (o12 : ab K.P .add 3 v6 (.nu .i64 1) = some r12) : nX K [1, 1, 0, 1, 0, 0] s h .normal (W (W4 (W8 (W8 s 7 v6 8 v0 9 r9 10 tt 13 v0 14 v6 15 r15 16 r16) 17 v1 18 tt 19 v5 20 v0 21 v6 22 r15 23 r23 24 (F24 (g1).n)) 25 r25 5 r25 11 v6 12 r12) 6 r12) g2 :=
 (sq (sq (yI (h := h) (r10 := tt) hk i6 i0 o9 o10) (cT 10 rfl sk)) (sq (au (sq (F9 (h := h) (r18 := tt) hk i0 i6 i1 o15 o16 (pr _ _) ‹_›) (cT 18 rfl (P3 (h := g1) (r22 := r15) (g1 := g2) hk i5 i0 i6 ‹_› o23 o24 ‹_›)))) (Ga (h := g2) hk i6 o12)))
theorem uV {v6 v0 r9 r15 r16 v1 r12 : CV} {g1 : Hp} (i6 : s.at 6 = v6) (i0 : s.at 0 = v0) (i1 : s.at 1 = v1) (o9 : aj h v0 (ae K.P 26) = some r9) (o10 : ab K.P .lss 3 v6 r9 = some tt) (o15 : af v0 v6 (ae K.P 26) = some r15) (o16 : al h r15 (ar K.P 45) = some r16) (wg1 : Comes K 107 [r16, v1] h ff g1) (o12 : ab K.P .add 3 v6 (.nu .i64 1) = some r12) : nX K [1, 1, 0, 1, 0, 0] s h .normal (W (W4 (W8 s 7 v6 8 v0 9 r9 10 tt 13 v0 14 v6 15 r15 16 r16) 17 v1 18 ff 11 v6 12 r12) 6 r12) g1 :=
 (sq (sq (yI (h := h) (r10 := tt) hk i6 i0 o9 o10) (cT 10 rfl sk)) (sq (au (sq (F9 (h := h) (r18 := ff) hk i0 i6 i1 o15 o16 (pr _ _) ‹_›) (cF 18 rfl sk))) (Ga (h := g1) hk i6 o12)))
theorem wS {v6 v0 r9 : CV} (i6 : s.at 6 = v6) (i0 : s.at 0 = v0) (o9 : aj h v0 (ae K.P 26) = some r9) (o10 : ab K.P .lss 3 v6 r9 = some ff) : nX K [1, 1, 0, 1, 0, 0] s h (.exit 0) (W4 s 7 v6 8 v0 9 r9 10 ff) h :=
 (sx (sq (yI (h := h) (r10 := ff) hk i6 i0 o9 o10) (cF 10 rfl Runs.exit)) (by simp))
theorem Io {v5 : CV} (i5 : s.at 5 = v5) : nX K [1, 1, 1] s h .ret (W (W s 26 v5) 4 v5) h :=
 (sq (P4 (h := h) hk i5) Runs.ret)
theorem QY {v0 v1 r7 r8 : CV} {F2 : Nat → CV} {B2 : HB} {g1 : Hp} (i0 : s.at 0 = v0) (i1 : s.at 1 = v1) (o2 : fW 46 v0 (ar K.P 46) = some (F2, B2)) (wg1 : Comes K 111 [v1, (.fn 112 [(F2 (h).n)])] (h.push B2) r7 g1) (o8 : dA .not r7 = some r8) : Po K [] s h .ret (W (W (W (W4 s 2 (F2 (h).n) 4 ff 5 v1 6 (.fn 112 [(F2 (h).n)])) 7 r7) 8 r8) 4 r8) g1 :=
 (sq (P5 (h := h) hk i0 o2) (sq (P6 (h := (h.push B2)) (v2 := (F2 (h).n)) hk i1 rfl (pr _ _) ‹_› o8) Runs.ret))
theorem tf {v6 v0 r9 v1 v5 r19 r20 r22 r12 : CV} {F21 : Nat → CV} {B21 : HB} {g1 : Hp} (i6 : s.at 6 = v6) (i0 : s.at 0 = v0) (i1 : s.at 1 = v1) (i5 : s.at 5 = v5) (o9 : aj h v0 (ae K.P 45) = some r9) (o10 : ab K.P .lss 3 v6 r9 = some tt) (o15 : ab K.P .neq 3 v6 v1 = some tt) (o19 : af v0 v6 (ae K.P 45) = some r19) (o20 : al h r19 (ar K.P 3) = some r20) (o21 : aM 1 [(0, r20)] (ae K.P 45) = some (F21, B21)) (wg1 : aT (h.push B21) v5 (F21 (h).n) (ae K.P 45) (ae K.P 45) = some (r22, g1)) (o12 : ab K.P .add 3 v6 (.nu .i64 1) = some r12) : jm K [1, 1, 0, 1, 0, 0] s h .normal (W (W (W8 (W8 s 7 v6 8 v0 9 r9 10 tt 13 v6 14 v1 15 tt 16 v5) 17 v0 18 v6 19 r19 20 r20 21 (F21 (h).n) 22 r22 5 r22 11 v6) 12 r12) 6 r12) g1 :=
 (sq (sq (uF (h := h) (r10 := tt) hk i6 i0 o9 o10) (cT 10 rfl sk)) (sq (au (sq (BC (h := h) (r15 := tt) hk i6 i1 o15) (cT 15 rfl (LW (h := h) hk i5 i0 i6 o19 o20 o21 ‹_›)))) (BF (h := g1) hk i6 o12)))
theorem tg {v6 v0 r9 v1 r12 : CV} (i6 : s.at 6 = v6) (i0 : s.at 0 = v0) (i1 : s.at 1 = v1) (o9 : aj h v0 (ae K.P 45) = some r9) (o10 : ab K.P .lss 3 v6 r9 = some tt) (o15 : ab K.P .neq 3 v6 v1 = some ff) (o12 : ab K.P .add 3 v6 (.nu .i64 1) = some r12) : jm K [1, 1, 0, 1, 0, 0] s h .normal (W (W (W8 s 7 v6 8 v0 9 r9 10 tt 13 v6 14 v1 15 ff 11 v6) 12 r12) 6 r12) h :=
 (sq (sq (uF (h := h) (r10 := tt) hk i6 i0 o9 o10) (cT 10 rfl sk)) (sq (au (sq (BC (h := h) (r15 := ff) hk i6 i1 o15) (cF 15 rfl sk))) (BF (h := h) hk i6 o12)))
theorem uW {v6 v0 r9 : CV} (i6 : s.at 6 = v6) (i0 : s.at 0 = v0) (o9 : aj h v0 (ae K.P 45) = some r9) (o10 : ab K.P .lss 3 v6 r9 = some ff) : jm K [1, 1, 0, 1, 0, 0] s h (.exit 0) (W4 s 7 v6 8 v0 9 r9 10 ff) h :=
 (sx (sq (uF (h := h) (r10 := ff) hk i6 i0 o9 o10) (cF 10 rfl Runs.exit)) (by simp))
theorem Gi {v5 : CV} (i5 : s.at 5 = v5) : jm K [1, 1, 1] s h .ret (W (W s 23 v5) 4 v5) h :=
 (sq (LX (h := h) hk i5) Runs.ret)
theorem uX {v5 v1 r8 v0 r15 r16 r17 : CV} {g1 : Hp} (i5 : s.at 5 = v5) (i1 : s.at 1 = v1) (i0 : s.at 0 = v0) (o8 : aj h v1 (ae K.P 45) = some r8) (o9 : ab K.P .lss 3 v5 r8 = some tt) (o15 : af v1 v5 (ae K.P 45) = some r15) (o16 : al h r15 (ar K.P 3) = some r16) (wg1 : Comes K 104 [v0, r16] h r17 g1) (o18 : dA .not r17 = some tt) : kH K [1, 0, 1, 0, 0] s h .ret (W4 (W8 s 6 v5 7 v1 8 r8 9 tt 12 v0 13 v1 14 v5 15 r15) 16 r16 17 r17 18 tt 4 ff) g1 :=
 (sq (sq (uG (h := h) (r9 := tt) hk i5 i1 o8 o9) (cT 9 rfl sk)) (sx (az (sq (BI (h := h) (r18 := tt) hk i0 i1 i5 o15 o16 (pr _ _) ‹_› o18) (cT 18 rfl (sq (LY (h := g1) hk) Runs.ret)))) (by simp)))
theorem uY {v5 v1 r8 v0 r15 r16 r17 r11 : CV} {g1 : Hp} (i5 : s.at 5 = v5) (i1 : s.at 1 = v1) (i0 : s.at 0 = v0) (o8 : aj h v1 (ae K.P 45) = some r8) (o9 : ab K.P .lss 3 v5 r8 = some tt) (o15 : af v1 v5 (ae K.P 45) = some r15) (o16 : al h r15 (ar K.P 3) = some r16) (wg1 : Comes K 104 [v0, r16] h r17 g1) (o18 : dA .not r17 = some ff) (o11 : ab K.P .add 3 v5 (.nu .i64 1) = some r11) : kH K [1, 0, 1, 0, 0] s h .normal (W (W (W4 (W8 s 6 v5 7 v1 8 r8 9 tt 12 v0 13 v1 14 v5 15 r15) 16 r16 17 r17 18 ff 10 v5) 11 r11) 5 r11) g1 :=
 (sq (sq (uG (h := h) (r9 := tt) hk i5 i1 o8 o9) (cT 9 rfl sk)) (sq (au (sq (BI (h := h) (r18 := ff) hk i0 i1 i5 o15 o16 (pr _ _) ‹_› o18) (cF 18 rfl sk))) (LZ (h := g1) hk i5 o11)))
theorem wT {v5 v1 r8 : CV} (i5 : s.at 5 = v5) (i1 : s.at 1 = v1) (o8 : aj h v1 (ae K.P 45) = some r8) (o9 : ab K.P .lss 3 v5 r8 = some ff) : kH K [1, 0, 1, 0, 0] s h (.exit 0) (W4 s 6 v5 7 v1 8 r8 9 ff) h :=
 (sx (sq (uG (h := h) (r9 := ff) hk i5 i1 o8 o9) (cF 9 rfl Runs.exit)) (by simp))
theorem Ip : kH K [1, 1] s h .ret (W s 4 tt) h :=
 (sq (L0 (h := h) hk) Runs.ret)
theorem P7 {v0 v1 r7 r8 : CV} {g1 : Hp} (i0 : s.at 0 = v0) (i1 : s.at 1 = v1) (wg1 : Comes K 140 [v0, v1] h r7 g1) (o8 : ab K.P .geq 3 r7 n0 = some r8) : Ic K [] s h .ret (W (W (W4 s 4 ff 5 v0 6 v1 7 r7) 8 r8) 4 r8) g1 :=
 (sq (L1 (h := h) hk) (sq (L3 (h := h) hk i0 i1 (pr _ _) ‹_› o8) Runs.ret))
theorem P8 {v1 r4 v0 r6 r7 : CV} {g1 : Hp} (i1 : s.at 1 = v1) (i0 : s.at 0 = v0) (o4 : al h v1 (ar K.P 46) = some r4) (wg1 : Comes K 113 [r4, v0] h r6 g1) (o7 : dA .not r6 = some r7) : Ie K [] s h .ret (W (W (W4 s 3 ff 4 r4 5 v0 6 r6) 7 r7) 3 r7) g1 :=
 (sq (L4 (h := h) hk) (sq (L5 (h := h) hk i1 i0 o4 (pr _ _) ‹_› o7) Runs.ret))
theorem uZ {v8 v7 v1 v0 r14 r15 : CV} {g1 : Hp} {G16 : FuncId} {C16 : List CV} (i8 : s.at 8 = v8) (i7 : s.at 7 = v7) (i1 : s.at 1 = v1) (i0 : s.at 0 = v0) (o9 : ab K.P .lss 3 v8 v7 = some tt) (o14 : af v0 v8 (ae K.P 46) = some r14) (o15 : al h r14 (ar K.P 3) = some r15) (e16 : (v1 : CV) = .fn G16 C16) (wg1 : Comes K G16 ([r15] ++ C16) h tt g1) : ir K [1, 0, 1, 0, 0] s h .ret (W (W (W (W8 s 9 tt 10 v8 5 v8 11 v1 12 v0 13 v8 14 r14 15 r15) 16 tt) 17 v8) 4 v8) g1 :=
 (sq (uH (h := h) (r9 := tt) hk i8 i7 o9) (sq (cT 9 rfl sk) (sx (az (sq (BK (h := h) hk i8) (sq (BL (h := h) (v5 := v8) (r16 := tt) (G16 := G16) (C16 := C16) hk i1 i0 rfl o14 o15 ‹_› (pr _ _) ‹_›) (cT 16 rfl (sq (L7 (h := g1) (v5 := v8) hk rfl) Runs.ret))))) (by simp))))
theorem u9 {v8 v7 v1 v0 r14 r15 r18 : CV} {g1 : Hp} {G16 : FuncId} {C16 : List CV} (i8 : s.at 8 = v8) (i7 : s.at 7 = v7) (i1 : s.at 1 = v1) (i0 : s.at 0 = v0) (o9 : ab K.P .lss 3 v8 v7 = some tt) (o14 : af v0 v8 (ae K.P 46) = some r14) (o15 : al h r14 (ar K.P 3) = some r15) (e16 : (v1 : CV) = .fn G16 C16) (wg1 : Comes K G16 ([r15] ++ C16) h ff g1) (o18 : ab K.P .add 3 v8 (.nu .i64 1) = some r18) : ir K [1, 0, 1, 0, 0] s h .normal (W (W (W (W8 s 9 tt 10 v8 5 v8 11 v1 12 v0 13 v8 14 r14 15 r15) 16 ff) 18 r18) 8 r18) g1 :=
 (sq (uH (h := h) (r9 := tt) hk i8 i7 o9) (sq (cT 9 rfl sk) (sq (au (sq (BK (h := h) hk i8) (sq (BL (h := h) (v5 := v8) (r16 := ff) (G16 := G16) (C16 := C16) hk i1 i0 rfl o14 o15 ‹_› (pr _ _) ‹_›) (cF 16 rfl sk)))) (L8 (h := g1) hk i8 o18))))
theorem wU {v8 v7 : CV} (i8 : s.at 8 = v8) (i7 : s.at 7 = v7) (o9 : ab K.P .lss 3 v8 v7 = some ff) : ir K [1, 0, 1, 0, 0] s h (.exit 0) (W s 9 ff) h :=
 (sq (uH (h := h) (r9 := ff) hk i8 i7 o9) (sx (cF 9 rfl Runs.exit) (by simp)))
theorem Iq : ir K [1, 1] s h .ret (W s 4 (.nu .i64 (-1))) h :=
 (sq (L9 (h := h) hk) Runs.ret)
end Go.CP
