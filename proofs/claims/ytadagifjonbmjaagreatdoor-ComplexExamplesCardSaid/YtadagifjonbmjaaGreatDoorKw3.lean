import Derived.Test.YtadagifjonbmjaaGreatDoorKq0
import Derived.Test.YtadagifjonbmjaaGreatDoorProg
set_option linter.all false
set_option maxHeartbeats 2000000
namespace Go.CP
open Go.Proofs
abbrev ja [LG] [HK] (K : Ctx) (p : List Nat) := Runs K 23 27 none (aD p (an Tryz.f23))
abbrev Kr [LG] [HK] (K : Ctx) (p : List Nat) := Runs K 29 11 none (aD p (an Tryz.f29))
abbrev Ks [LG] [HK] (K : Ctx) (p : List Nat) := Runs K 30 12 none (aD p (an Tryz.f30))
abbrev Kt [LG] [HK] (K : Ctx) (p : List Nat) := Runs K 68 9 none (aD p (an Tryz.f68))
abbrev Ku [LG] [HK] (K : Ctx) (p : List Nat) := Runs K 82 9 none (aD p (an Tryz.f82))
abbrev Kv [LG] [HK] (K : Ctx) (p : List Nat) := Runs K 83 7 none (aD p (an Tryz.f83))
abbrev Eb [LG] [HK] (K : Ctx) (p : List Nat) := Runs K 111 9 none (aD p (an Tryz.f111))
abbrev Ec [LG] [HK] (K : Ctx) (p : List Nat) := Runs K 112 8 none (aD p (an Tryz.f112))
abbrev hU [LG] [HK] (K : Ctx) (p : List Nat) := Runs K 140 19 none (aD p (an Tryz.f140))
variable [LG] [HK] {K : Ctx} {s : Fr} {h : Hp} (hk : ∀ o, HK.keep o = false)
include hk
theorem vO : ja K [0] s h .normal (W s 4 ff) h :=
 rg (Ra (v := ff) rfl rfl rfl (RunL.nil))
theorem BV {v0 r7 v1 r9 r10 : CV} (i0 : s.at 0 = v0) (i1 : s.at 1 = v1) (o7 : aB h v0 (ae K.P 22) = some r7) (o9 : aB h v1 (ae K.P 26) = some r9) (o10 : ac K.P .neq 3 r7 r9 = some r10) : ja K [1, 0, 0] s h .normal (W (W4 s 6 v0 7 r7 8 v1 9 r9) 10 r10) h :=
 rg (Rm rfl rfl i0 (R1 (v := r7) rfl (aN rfl rfl rfl rfl rfl o7) (Rm rfl rfl i1 (R1 (v := r9) rfl (aN rfl rfl rfl rfl rfl o9) (Rb rfl rfl rfl rfl o10 (RunL.nil))))))
theorem Kw : ja K [1, 0, 1, 0, 0] s h .normal (W s 4 ff) h :=
 rg (Ra (v := ff) rfl rfl rfl (RunL.nil))
theorem BW : ja K [1, 1, 0, 0] s h .normal (W s 5 n0) h :=
 rg (Ra (v := n0) rfl rfl rfl (RunL.nil))
theorem vP {v5 v0 r13 r14 : CV} (i5 : s.at 5 = v5) (i0 : s.at 0 = v0) (o13 : aB h v0 (ae K.P 22) = some r13) (o14 : ac K.P .lss 3 v5 r13 = some r14) : ja K [1, 1, 0, 1, 0, 0, 0, 0] s h .normal (W4 s 11 v5 12 v0 13 r13 14 r14) h :=
 rg (Rm rfl rfl i5 (Rm rfl rfl i0 (R1 (v := r13) rfl (aN rfl rfl rfl rfl rfl o13) (Rb rfl rfl rfl rfl o14 (RunL.nil)))))
theorem BX {v0 v5 r19 r20 v1 r23 r24 r25 r26 : CV} {g1 : Hp} (hp : K.plan 23 6 = some [.t 0,.t 1,.t 2,.t 3,.t 4,.o 5 [4, 3, 2, 1, 0],.o 6 [3, 2, 1, 0],.o 7 [3, 2, 1, 0],.o 8 [],.o 9 []]) (i0 : s.at 0 = v0) (i5 : s.at 5 = v5) (i1 : s.at 1 = v1) (o19 : ak v0 v5 (ae K.P 22) = some r19) (o20 : ao h r19 (au K.P 46) = some r20) (q20 : ceq r20 r20 = true) (o23 : ak v1 v5 (ae K.P 26) = some r23) (o24 : ao h r23 (au K.P 45) = some r24) (pg1 : K.prim 38 [r20, r24] = none) (wg1 : Comes K 38 [r20, r24] h r25 g1) (o26 : ac K.P .neq 3 r25 n0 = some r26) : ja K [1, 1, 0, 1, 0, 0, 1, 0, 0, 0] s h .normal (W (W (W8 s 17 v0 18 v5 19 r19 20 r20 21 v1 22 v5 23 r23 24 r24) 25 r25) 26 r26) g1 :=
 Runs.drawn hp (RunP.q (v := v0) rfl rfl (aY rfl i0) (RunP.q (v := v5) rfl rfl (aY rfl i5) (RunP.q (v := r19) rfl rfl (bV rfl rfl rfl o19) (RunP.q (v := r20) rfl rfl (aM rfl rfl o20) (RunP.q (v := v1) rfl rfl (aY rfl i1) (RunP.only (v := v5) rfl rfl (Q1.e (aY rfl i5)) (by simp (decide := true) only [bQ, bO, qX, ev, Fr.putO, aI, reduceIte, Nat.reduceEqDiff, List.filter_cons, List.filter_nil, List.any_cons, List.any_nil, List.all_cons, List.all_nil, List.getElem_toArray, List.getElem_cons_succ, List.getElem_cons_zero, Option.map_some, Option.map_none, aP, bh, Bool.and_true, Bool.true_and, Bool.and_self, i0, i5, i1, o19, o20, q20]) (RunP.only (v := r23) rfl rfl (Q1.e (bV rfl rfl rfl o23)) (by simp (decide := true) only [bQ, bO, qX, ev, Fr.putO, aI, reduceIte, Nat.reduceEqDiff, List.filter_cons, List.filter_nil, List.any_cons, List.any_nil, List.all_cons, List.all_nil, List.getElem_toArray, List.getElem_cons_succ, List.getElem_cons_zero, Option.map_some, Option.map_none, aP, bh, Bool.and_true, Bool.true_and, Bool.and_self, i0, i5, i1, o19, o20, q20, o23]) (RunP.only (v := r24) rfl rfl (Q1.e (aM rfl rfl o24)) (by simp (decide := true) only [bQ, bO, qX, ev, Fr.putO, aI, reduceIte, Nat.reduceEqDiff, List.filter_cons, List.filter_nil, List.any_cons, List.any_nil, List.all_cons, List.all_nil, List.getElem_toArray, List.getElem_cons_succ, List.getElem_cons_zero, Option.map_some, Option.map_none, aP, bh, Bool.and_true, Bool.true_and, Bool.and_self, i0, i5, i1, o19, o20, q20, o23, o24]) (RunP.call (v := r25) rfl rfl rfl rfl rfl rfl pg1 wg1 rfl (RunP.only (v := r26) rfl rfl (Q1.e (e9 rfl rfl rfl o26)) rfl (RunP.nil)))))))))))
theorem Kx : ja K [1, 1, 0, 1, 0, 0, 1, 0, 0, 1, 0, 0] s h .normal (W s 4 ff) h :=
 rg (Ra (v := ff) rfl rfl rfl (RunL.nil))
theorem Ky {v5 r16 : CV} (i5 : s.at 5 = v5) (o16 : ac K.P .add 3 v5 (.nu .i64 1) = some r16) : ja K [1, 1, 0, 1, 0, 0, 1, 1] s h .normal (W (W (W s 15 v5) 16 r16) 5 r16) h :=
 rg (Rm rfl rfl i5 (Rb rfl rfl rfl rfl o16 (Ra (v := r16) rfl rfl rfl (RunL.nil))))
theorem Kz : ja K [1, 1, 1, 0] s h .normal (W s 4 tt) h :=
 rg (Ra (v := tt) rfl rfl rfl (RunL.nil))
theorem KA {v1 : CV} {F3 : Nat → CV} {B3 : HB} (i1 : s.at 1 = v1) (o3 : cK 3 v1 (au K.P 3) = some (F3, B3)) : Kr K [0] s h .normal (W (W (W s 3 (F3 (h).n)) 4 .nils) 5 n0) (h.push B3) :=
 rg (RunL.op (v := (F3 (h).n)) rfl (ij rfl i1 o3) (Ra (v := .nils) rfl rfl rfl (Ra (v := n0) rfl rfl rfl (RunL.nil))))
theorem KB {v0 v3 r8 r9 r10 : CV} {g1 : Hp} (i0 : s.at 0 = v0) (i3 : s.at 3 = v3) (pg1 : K.prim 81 [v0, (.fn 82 [v3])] = none) (wg1 : Comes K 81 [v0, (.fn 82 [v3])] h r8 g1) (o9 : ar 0 r8 = some r9) (o10 : ar 1 r8 = some r10) : Kr K [1, 0] s h .normal (W (W (W (W4 s 6 v0 7 (.fn 82 [v3]) 8 r8 9 r9) 10 r10) 4 r9) 5 r10) g1 :=
 rg (Rm rfl rfl i0 (R1 (v := (.fn 82 [v3])) rfl (jS rfl (by simp only [ev, Fr.putO, aI, reduceIte, Nat.reduceEqDiff, List.toList_toArray, List.map_cons, List.map_nil, Option.map_some, Option.map_none, i3]; try rfl)) (RunL.call (v := r8) rfl rfl rfl rfl rfl pg1 wg1 (R1 (v := r9) rfl (aK rfl rfl o9) (R1 (v := r10) rfl (aK rfl rfl o10) (Ra (v := r9) rfl rfl rfl (Ra (v := r10) rfl rfl rfl (RunL.nil))))))))
theorem KC {v1 : CV} {F3 : Nat → CV} {B3 : HB} (i1 : s.at 1 = v1) (o3 : cK 46 v1 (au K.P 46) = some (F3, B3)) : Ks K [0] s h .normal (W (W (W s 3 (F3 (h).n)) 4 .nils) 5 n0) (h.push B3) :=
 rg (RunL.op (v := (F3 (h).n)) rfl (ij rfl i1 o3) (Ra (v := .nils) rfl rfl rfl (Ra (v := n0) rfl rfl rfl (RunL.nil))))
theorem KD {v0 v3 r7 r9 r10 r11 : CV} {g1 : Hp} (i0 : s.at 0 = v0) (i3 : s.at 3 = v3) (o7 : ao h v3 (au K.P 46) = some r7) (pg1 : K.prim 75 [v0, r7, (.fn 83 [v3])] = none) (wg1 : Comes K 75 [v0, r7, (.fn 83 [v3])] h r9 g1) (o10 : ar 0 r9 = some r10) (o11 : ar 1 r9 = some r11) : Ks K [1, 0] s h .normal (W8 s 6 v0 7 r7 8 (.fn 83 [v3]) 9 r9 10 r10 11 r11 4 r10 5 r11) g1 :=
 rg (Rm rfl rfl i0 (R1 (v := r7) rfl (aM rfl i3 o7) (R1 (v := (.fn 83 [v3])) rfl (jS rfl (by simp only [ev, Fr.putO, aI, reduceIte, Nat.reduceEqDiff, List.toList_toArray, List.map_cons, List.map_nil, Option.map_some, Option.map_none, i3]; try rfl)) (RunL.call (v := r9) rfl rfl rfl rfl rfl pg1 wg1 (R1 (v := r10) rfl (aK rfl rfl o10) (R1 (v := r11) rfl (aK rfl rfl o11) (Ra (v := r10) rfl rfl rfl (Ra (v := r11) rfl rfl rfl (RunL.nil)))))))))
theorem KE {v0 : CV} {F2 : Nat → CV} {B2 : HB} (i0 : s.at 0 = v0) (o2 : cK 46 v0 (au K.P 46) = some (F2, B2)) : Kt K [0] s h .normal (W (W s 2 (F2 (h).n)) 4 ff) (h.push B2) :=
 rg (RunL.op (v := (F2 (h).n)) rfl (ij rfl i0 o2) (Ra (v := ff) rfl rfl rfl (RunL.nil)))
theorem KF {v1 v2 r7 r8 : CV} {g1 : Hp} (i1 : s.at 1 = v1) (i2 : s.at 2 = v2) (pg1 : K.prim 111 [v1, (.fn 112 [v2])] = none) (wg1 : Comes K 111 [v1, (.fn 112 [v2])] h r7 g1) (o8 : ec .not r7 = some r8) : Kt K [1, 0] s h .normal (W (W4 s 5 v1 6 (.fn 112 [v2]) 7 r7 8 r8) 4 r8) g1 :=
 rg (Rm rfl rfl i1 (R1 (v := (.fn 112 [v2])) rfl (jS rfl (by simp only [ev, Fr.putO, aI, reduceIte, Nat.reduceEqDiff, List.toList_toArray, List.map_cons, List.map_nil, Option.map_some, Option.map_none, i2]; try rfl)) (RunL.call (v := r7) rfl rfl rfl rfl rfl pg1 wg1 (R1 (v := r8) rfl (jR rfl rfl o8) (Ra (v := r8) rfl rfl rfl (RunL.nil))))))
theorem KG : Ku K [0] s h .normal (W s 3 ff) h :=
 rg (Ra (v := ff) rfl rfl rfl (RunL.nil))
theorem KH {v0 r5 r6 v1 r7 r8 : CV} (i0 : s.at 0 = v0) (i1 : s.at 1 = v1) (o5 : aB h v0 (ae K.P 46) = some r5) (o6 : ac K.P .sub 3 r5 (.nu .i64 1) = some r6) (o7 : ao h v1 (au K.P 3) = some r7) (o8 : ac K.P .leq 3 r6 r7 = some r8) : Ku K [1, 0] s h .normal (W (W (W4 s 4 v0 5 r5 6 r6 7 r7) 8 r8) 3 r8) h :=
 rg (Rm rfl rfl i0 (R1 (v := r5) rfl (aN rfl rfl rfl rfl rfl o5) (Rb rfl rfl rfl rfl o6 (R1 (v := r7) rfl (aM rfl i1 o7) (Rb rfl rfl rfl rfl o8 (Ra (v := r8) rfl rfl rfl (RunL.nil)))))))
theorem KI : Kv K [0] s h .normal (W s 3 ff) h :=
 rg (Ra (v := ff) rfl rfl rfl (RunL.nil))
theorem KJ {v0 v1 r5 r6 : CV} {g1 : Hp} (i0 : s.at 0 = v0) (i1 : s.at 1 = v1) (o5 : ao h v1 (au K.P 46) = some r5) (pg1 : K.prim 68 [v0, r5] = none) (wg1 : Comes K 68 [v0, r5] h r6 g1) : Kv K [1, 0] s h .normal (W4 s 4 v0 5 r5 6 r6 3 r6) g1 :=
 rg (Rm rfl rfl i0 (R1 (v := r5) rfl (aM rfl i1 o5) (RunL.call (v := r6) rfl rfl rfl rfl rfl pg1 wg1 (Ra (v := r6) rfl rfl rfl (RunL.nil)))))
theorem H4 : Eb K [0] s h .normal (W s 4 ff) h :=
 rg (Ra (v := ff) rfl rfl rfl (RunL.nil))
theorem H5 {v0 v1 r7 r8 : CV} {g1 : Hp} (i0 : s.at 0 = v0) (i1 : s.at 1 = v1) (pg1 : K.prim 140 [v0, v1] = none) (wg1 : Comes K 140 [v0, v1] h r7 g1) (o8 : ac K.P .geq 3 r7 n0 = some r8) : Eb K [1, 0] s h .normal (W (W4 s 5 v0 6 v1 7 r7 8 r8) 4 r8) g1 :=
 rg (Rm rfl rfl i0 (Rm rfl rfl i1 (RunL.call (v := r7) rfl rfl rfl rfl rfl pg1 wg1 (Rb rfl rfl rfl rfl o8 (Ra (v := r8) rfl rfl rfl (RunL.nil))))))
theorem H6 : Ec K [0] s h .normal (W s 3 ff) h :=
 rg (Ra (v := ff) rfl rfl rfl (RunL.nil))
theorem H7 {v1 r4 v0 r6 r7 : CV} {g1 : Hp} (i1 : s.at 1 = v1) (i0 : s.at 0 = v0) (o4 : ao h v1 (au K.P 46) = some r4) (pg1 : K.prim 113 [r4, v0] = none) (wg1 : Comes K 113 [r4, v0] h r6 g1) (o7 : ec .not r6 = some r7) : Ec K [1, 0] s h .normal (W (W4 s 4 r4 5 v0 6 r6 7 r7) 3 r7) g1 :=
 rg (R1 (v := r4) rfl (aM rfl i1 o4) (Rm rfl rfl i0 (RunL.call (v := r6) rfl rfl rfl rfl rfl pg1 wg1 (R1 (v := r7) rfl (jR rfl rfl o7) (Ra (v := r7) rfl rfl rfl (RunL.nil))))))
theorem yj : hU K [0] s h .normal (W s 4 n0) h :=
 rg (Ra (v := n0) rfl rfl rfl (RunL.nil))
theorem H8 {v0 r7 : CV} (i0 : s.at 0 = v0) (o7 : aB h v0 (ae K.P 46) = some r7) : hU K [1, 0, 0] s h .normal (W (W (W s 6 v0) 7 r7) 8 n0) h :=
 rg (Rm rfl rfl i0 (R1 (v := r7) rfl (aN rfl rfl rfl rfl rfl o7) (Rm (v := n0) rfl rfl rfl (RunL.nil))))
theorem si {v8 v7 r9 : CV} (i8 : s.at 8 = v8) (i7 : s.at 7 = v7) (o9 : ac K.P .lss 3 v8 v7 = some r9) : hU K [1, 0, 1, 0, 0, 0] s h .normal (W s 9 r9) h :=
 rg (Rb rfl rfl i8 i7 o9 (RunL.nil))
theorem yk {v8 : CV} (i8 : s.at 8 = v8) : hU K [1, 0, 1, 0, 0, 1, 1, 0, 0, 0] s h .normal (W (W s 10 v8) 5 v8) h :=
 rg (Rm rfl rfl i8 (Ra (v := v8) rfl rfl rfl (RunL.nil)))
theorem ym {v1 v0 v5 r14 r15 r16 : CV} {g1 : Hp} {G16 : FuncId} {C16 : List CV} (i1 : s.at 1 = v1) (i0 : s.at 0 = v0) (i5 : s.at 5 = v5) (o14 : ak v0 v5 (ae K.P 46) = some r14) (o15 : ao h r14 (au K.P 3) = some r15) (e16 : (v1 : CV) = .fn G16 C16) (pg1 : K.prim G16 ([r15] ++ C16) = none) (wg1 : Comes K G16 ([r15] ++ C16) h r16 g1) : hU K [1, 0, 1, 0, 0, 1, 1, 0, 0, 1, 0] s h .normal (W (W (W4 s 11 v1 12 v0 13 v5 14 r14) 15 r15) 16 r16) g1 :=
 rg (Rm rfl rfl i1 (Rm rfl rfl i0 (Rm rfl rfl i5 (R1 (v := r14) rfl (bV rfl rfl rfl o14) (R1 (v := r15) rfl (aM rfl rfl o15) (RunL.call (v := r16) rfl rfl rfl e16 rfl pg1 wg1 (RunL.nil)))))))
theorem H9 {v5 : CV} (i5 : s.at 5 = v5) : hU K [1, 0, 1, 0, 0, 1, 1, 0, 0, 1, 1, 0, 0] s h .normal (W (W s 17 v5) 4 v5) h :=
 rg (Rm rfl rfl i5 (Ra (v := v5) rfl rfl rfl (RunL.nil)))
theorem Ia {v8 r18 : CV} (i8 : s.at 8 = v8) (o18 : ac K.P .add 3 v8 (.nu .i64 1) = some r18) : hU K [1, 0, 1, 0, 0, 1, 1, 1] s h .normal (W (W s 18 r18) 8 r18) h :=
 rg (Rb rfl rfl i8 rfl o18 (Rm (v := r18) rfl rfl rfl (RunL.nil)))
theorem Ib : hU K [1, 1, 0] s h .normal (W s 4 (.nu .i64 (-1))) h :=
 rg (Ra (v := (.nu .i64 (-1))) rfl rfl rfl (RunL.nil))
end Go.CP
namespace Go.CP
open Go.Proofs
structure eo [LG] [HK] (K : Ctx) : Prop where
 p23_6 : K.plan 23 6 = some [.t 0,.t 1,.t 2,.t 3,.t 4,.o 5 [4, 3, 2, 1, 0],.o 6 [3, 2, 1, 0],.o 7 [3, 2, 1, 0],.o 8 [],.o 9 []]
variable [LG] [HK] {K : Ctx} {s : Fr} {h : Hp} (hk : ∀ o, HK.keep o = false) (pr : ∀ f args, K.prim f args = none) (Pl : eo K)
include hk pr Pl
theorem BY {v0 r7 v1 r9 : CV} (i0 : s.at 0 = v0) (i1 : s.at 1 = v1) (o7 : aB h v0 (ae K.P 22) = some r7) (o9 : aB h v1 (ae K.P 26) = some r9) (o10 : ac K.P .neq 3 r7 r9 = some tt) : ja K [1, 0] s h .ret (W (W (W4 s 6 v0 7 r7 8 v1 9 r9) 10 tt) 4 ff) h :=
 (sq (BV (h := h) (r10 := tt) hk i0 i1 o7 o9 o10) (cT 10 rfl (sq (Kw (h := h) hk) Runs.ret)))
theorem BZ {v0 r7 v1 r9 : CV} (i0 : s.at 0 = v0) (i1 : s.at 1 = v1) (o7 : aB h v0 (ae K.P 22) = some r7) (o9 : aB h v1 (ae K.P 26) = some r9) (o10 : ac K.P .neq 3 r7 r9 = some ff) : ja K [1, 0] s h .normal (W (W4 s 6 v0 7 r7 8 v1 9 r9) 10 ff) h :=
 (sq (BV (h := h) (r10 := ff) hk i0 i1 o7 o9 o10) (cF 10 rfl sk))
theorem sj {v5 v0 r13 r19 r20 v1 r23 r24 r25 : CV} {g1 : Hp} (i5 : s.at 5 = v5) (i0 : s.at 0 = v0) (i1 : s.at 1 = v1) (o13 : aB h v0 (ae K.P 22) = some r13) (o14 : ac K.P .lss 3 v5 r13 = some tt) (o19 : ak v0 v5 (ae K.P 22) = some r19) (o20 : ao h r19 (au K.P 46) = some r20) (q20 : ceq r20 r20 = true) (o23 : ak v1 v5 (ae K.P 26) = some r23) (o24 : ao h r23 (au K.P 45) = some r24) (wg1 : Comes K 38 [r20, r24] h r25 g1) (o26 : ac K.P .neq 3 r25 n0 = some tt) : ja K [1, 1, 0, 1, 0, 0] s h .ret (W (W (W (W4 (W8 s 11 v5 12 v0 13 r13 14 tt 17 v0 18 v5 19 r19 20 r20) 21 v1 22 v5 23 r23 24 r24) 25 r25) 26 tt) 4 ff) g1 :=
 (sq (sq (vP (h := h) (r14 := tt) hk i5 i0 o13 o14) (cT 14 rfl sk)) (sx (aG (sq (BX (h := h) (r26 := tt) hk Pl.p23_6 i0 i5 i1 o19 o20 q20 o23 o24 (pr _ _) ‹_› o26) (cT 26 rfl (sq (Kx (h := g1) hk) Runs.ret)))) (by simp)))
theorem sm {v5 v0 r13 r19 r20 v1 r23 r24 r25 r16 : CV} {g1 : Hp} (i5 : s.at 5 = v5) (i0 : s.at 0 = v0) (i1 : s.at 1 = v1) (o13 : aB h v0 (ae K.P 22) = some r13) (o14 : ac K.P .lss 3 v5 r13 = some tt) (o19 : ak v0 v5 (ae K.P 22) = some r19) (o20 : ao h r19 (au K.P 46) = some r20) (q20 : ceq r20 r20 = true) (o23 : ak v1 v5 (ae K.P 26) = some r23) (o24 : ao h r23 (au K.P 45) = some r24) (wg1 : Comes K 38 [r20, r24] h r25 g1) (o26 : ac K.P .neq 3 r25 n0 = some ff) (o16 : ac K.P .add 3 v5 (.nu .i64 1) = some r16) : ja K [1, 1, 0, 1, 0, 0] s h .normal (W (W8 (W8 s 11 v5 12 v0 13 r13 14 tt 17 v0 18 v5 19 r19 20 r20) 21 v1 22 v5 23 r23 24 r24 25 r25 26 ff 15 v5 16 r16) 5 r16) g1 :=
 (sq (sq (vP (h := h) (r14 := tt) hk i5 i0 o13 o14) (cT 14 rfl sk)) (sq (aF (sq (BX (h := h) (r26 := ff) hk Pl.p23_6 i0 i5 i1 o19 o20 q20 o23 o24 (pr _ _) ‹_› o26) (cF 26 rfl sk))) (Ky (h := g1) hk i5 o16)))
theorem uv {v5 v0 r13 : CV} (i5 : s.at 5 = v5) (i0 : s.at 0 = v0) (o13 : aB h v0 (ae K.P 22) = some r13) (o14 : ac K.P .lss 3 v5 r13 = some ff) : ja K [1, 1, 0, 1, 0, 0] s h (.exit 0) (W4 s 11 v5 12 v0 13 r13 14 ff) h :=
 (sx (sq (vP (h := h) (r14 := ff) hk i5 i0 o13 o14) (cF 14 rfl Runs.exit)) (by simp))
theorem Ed : ja K [1, 1, 1] s h .ret (W s 4 tt) h :=
 (sq (Kz (h := h) hk) Runs.ret)
theorem LE {v1 v0 r8 r9 r10 : CV} {F3 : Nat → CV} {B3 : HB} {g1 : Hp} (i1 : s.at 1 = v1) (i0 : s.at 0 = v0) (o3 : cK 3 v1 (au K.P 3) = some (F3, B3)) (wg1 : Comes K 81 [v0, (.fn 82 [(F3 (h).n)])] (h.push B3) r8 g1) (o9 : ar 0 r8 = some r9) (o10 : ar 1 r8 = some r10) : Kr K [] s h .ret (W (W (W8 s 3 (F3 (h).n) 4 .nils 5 n0 6 v0 7 (.fn 82 [(F3 (h).n)]) 8 r8 9 r9 10 r10) 4 r9) 5 r10) g1 :=
 (sq (KA (h := h) hk i1 o3) (sq (KB (h := (h.push B3)) (v3 := (F3 (h).n)) hk i0 rfl (pr _ _) ‹_› o9 o10) Runs.ret))
theorem LF {v1 v0 r7 r9 r10 r11 : CV} {F3 : Nat → CV} {B3 : HB} {g1 : Hp} (i1 : s.at 1 = v1) (i0 : s.at 0 = v0) (o3 : cK 46 v1 (au K.P 46) = some (F3, B3)) (o7 : ao (h.push B3) (F3 (h).n) (au K.P 46) = some r7) (wg1 : Comes K 75 [v0, r7, (.fn 83 [(F3 (h).n)])] (h.push B3) r9 g1) (o10 : ar 0 r9 = some r10) (o11 : ar 1 r9 = some r11) : Ks K [] s h .ret (W (W (W (W8 s 3 (F3 (h).n) 4 .nils 5 n0 6 v0 7 r7 8 (.fn 83 [(F3 (h).n)]) 9 r9 10 r10) 11 r11) 4 r10) 5 r11) g1 :=
 (sq (KC (h := h) hk i1 o3) (sq (KD (h := (h.push B3)) (v3 := (F3 (h).n)) hk i0 rfl o7 (pr _ _) ‹_› o10 o11) Runs.ret))
theorem LH {v0 v1 r7 r8 : CV} {F2 : Nat → CV} {B2 : HB} {g1 : Hp} (i0 : s.at 0 = v0) (i1 : s.at 1 = v1) (o2 : cK 46 v0 (au K.P 46) = some (F2, B2)) (wg1 : Comes K 111 [v1, (.fn 112 [(F2 (h).n)])] (h.push B2) r7 g1) (o8 : ec .not r7 = some r8) : Kt K [] s h .ret (W (W (W (W4 s 2 (F2 (h).n) 4 ff 5 v1 6 (.fn 112 [(F2 (h).n)])) 7 r7) 8 r8) 4 r8) g1 :=
 (sq (KE (h := h) hk i0 o2) (sq (KF (h := (h.push B2)) (v2 := (F2 (h).n)) hk i1 rfl (pr _ _) ‹_› o8) Runs.ret))
theorem LI {v0 r5 r6 v1 r7 r8 : CV} (i0 : s.at 0 = v0) (i1 : s.at 1 = v1) (o5 : aB h v0 (ae K.P 46) = some r5) (o6 : ac K.P .sub 3 r5 (.nu .i64 1) = some r6) (o7 : ao h v1 (au K.P 3) = some r7) (o8 : ac K.P .leq 3 r6 r7 = some r8) : Ku K [] s h .ret (W (W (W (W4 s 3 ff 4 v0 5 r5 6 r6) 7 r7) 8 r8) 3 r8) h :=
 (sq (KG (h := h) hk) (sq (KH (h := h) hk i0 i1 o5 o6 o7 o8) Runs.ret))
theorem LJ {v0 v1 r5 r6 : CV} {g1 : Hp} (i0 : s.at 0 = v0) (i1 : s.at 1 = v1) (o5 : ao h v1 (au K.P 46) = some r5) (wg1 : Comes K 68 [v0, r5] h r6 g1) : Kv K [] s h .ret (W (W4 s 3 ff 4 v0 5 r5 6 r6) 3 r6) g1 :=
 (sq (KI (h := h) hk) (sq (KJ (h := h) hk i0 i1 o5 (pr _ _) ‹_›) Runs.ret))
theorem KK {v0 v1 r7 r8 : CV} {g1 : Hp} (i0 : s.at 0 = v0) (i1 : s.at 1 = v1) (wg1 : Comes K 140 [v0, v1] h r7 g1) (o8 : ac K.P .geq 3 r7 n0 = some r8) : Eb K [] s h .ret (W (W (W4 s 4 ff 5 v0 6 v1 7 r7) 8 r8) 4 r8) g1 :=
 (sq (H4 (h := h) hk) (sq (H5 (h := h) hk i0 i1 (pr _ _) ‹_› o8) Runs.ret))
theorem KL {v1 r4 v0 r6 r7 : CV} {g1 : Hp} (i1 : s.at 1 = v1) (i0 : s.at 0 = v0) (o4 : ao h v1 (au K.P 46) = some r4) (wg1 : Comes K 113 [r4, v0] h r6 g1) (o7 : ec .not r6 = some r7) : Ec K [] s h .ret (W (W (W4 s 3 ff 4 r4 5 v0 6 r6) 7 r7) 3 r7) g1 :=
 (sq (H6 (h := h) hk) (sq (H7 (h := h) hk i1 i0 o4 (pr _ _) ‹_› o7) Runs.ret))
theorem sn {v8 v7 v1 v0 r14 r15 : CV} {g1 : Hp} {G16 : FuncId} {C16 : List CV} (i8 : s.at 8 = v8) (i7 : s.at 7 = v7) (i1 : s.at 1 = v1) (i0 : s.at 0 = v0) (o9 : ac K.P .lss 3 v8 v7 = some tt) (o14 : ak v0 v8 (ae K.P 46) = some r14) (o15 : ao h r14 (au K.P 3) = some r15) (e16 : (v1 : CV) = .fn G16 C16) (wg1 : Comes K G16 ([r15] ++ C16) h tt g1) : hU K [1, 0, 1, 0, 0] s h .ret (W (W (W (W8 s 9 tt 10 v8 5 v8 11 v1 12 v0 13 v8 14 r14 15 r15) 16 tt) 17 v8) 4 v8) g1 :=
 (sq (si (h := h) (r9 := tt) hk i8 i7 o9) (sq (cT 9 rfl sk) (sx (aG (sq (yk (h := h) hk i8) (sq (ym (h := h) (v5 := v8) (r16 := tt) (G16 := G16) (C16 := C16) hk i1 i0 rfl o14 o15 ‹_› (pr _ _) ‹_›) (cT 16 rfl (sq (H9 (h := g1) (v5 := v8) hk rfl) Runs.ret))))) (by simp))))
theorem so {v8 v7 v1 v0 r14 r15 r18 : CV} {g1 : Hp} {G16 : FuncId} {C16 : List CV} (i8 : s.at 8 = v8) (i7 : s.at 7 = v7) (i1 : s.at 1 = v1) (i0 : s.at 0 = v0) (o9 : ac K.P .lss 3 v8 v7 = some tt) (o14 : ak v0 v8 (ae K.P 46) = some r14) (o15 : ao h r14 (au K.P 3) = some r15) (e16 : (v1 : CV) = .fn G16 C16) (wg1 : Comes K G16 ([r15] ++ C16) h ff g1) (o18 : ac K.P .add 3 v8 (.nu .i64 1) = some r18) : hU K [1, 0, 1, 0, 0] s h .normal (W (W (W (W8 s 9 tt 10 v8 5 v8 11 v1 12 v0 13 v8 14 r14 15 r15) 16 ff) 18 r18) 8 r18) g1 :=
 (sq (si (h := h) (r9 := tt) hk i8 i7 o9) (sq (cT 9 rfl sk) (sq (aF (sq (yk (h := h) hk i8) (sq (ym (h := h) (v5 := v8) (r16 := ff) (G16 := G16) (C16 := C16) hk i1 i0 rfl o14 o15 ‹_› (pr _ _) ‹_›) (cF 16 rfl sk)))) (Ia (h := g1) hk i8 o18))))
theorem uw {v8 v7 : CV} (i8 : s.at 8 = v8) (i7 : s.at 7 = v7) (o9 : ac K.P .lss 3 v8 v7 = some ff) : hU K [1, 0, 1, 0, 0] s h (.exit 0) (W s 9 ff) h :=
 (sq (si (h := h) (r9 := ff) hk i8 i7 o9) (sx (cF 9 rfl Runs.exit) (by simp)))
theorem Ee : hU K [1, 1] s h .ret (W s 4 (.nu .i64 (-1))) h :=
 (sq (Ib (h := h) hk) Runs.ret)
end Go.CP
