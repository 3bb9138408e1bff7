import Derived.Test.YtadagifjonbmjaaGreatDoorKq0
import Derived.Test.YtadagifjonbmjaaGreatDoorProg
set_option linter.all false
set_option maxHeartbeats 2000000
/- The regions of some functions, at whatever their slots hold. -/
namespace Go.CP
open Go.Proofs
abbrev X47 [LG] [HK] (K : Ctx) (p : List Nat) := Runs K 47 21 none (sub1 p (bodyOf Tryz.f47))
abbrev X94 [LG] [HK] (K : Ctx) (p : List Nat) := Runs K 94 13 none (sub1 p (bodyOf Tryz.f94))
abbrev X95 [LG] [HK] (K : Ctx) (p : List Nat) := Runs K 95 19 none (sub1 p (bodyOf Tryz.f95))
abbrev X97 [LG] [HK] (K : Ctx) (p : List Nat) := Runs K 97 9 none (sub1 p (bodyOf Tryz.f97))
variable [LG] [HK] {K : Ctx} {s : Fr} {h : Hp} (hk : ∀ o, HK.keep o = false)
include hk
theorem f47_r0 : X47 K [0] s h .normal (W (W s 4 .nils) 5 n0) h :=
  rg (Ra (v := .nils) rfl rfl rfl (Ra (v := n0) rfl rfl rfl (RunL.nil)))
theorem f47_r1 {v0 v1 r10 : CV} {g1 : Hp} (i0 : s.at 0 = v0) (i1 : s.at 1 = v1) (pg1 : K.prim 94 [v0, v1] = none) (wg1 : Comes K 94 [v0, v1] h r10 g1) : X47 K [1, 0, 0] s h .normal (W (W (W (W s 8 v0) 9 v1) 10 r10) 6 r10) g1 :=
  rg (Rm rfl rfl i0 (Rm rfl rfl i1 (RunL.call (v := r10) rfl rfl rfl rfl rfl pg1 wg1 (Ra (v := r10) rfl rfl rfl (RunL.nil)))))
theorem f47_r2 {v6 r12 : CV} (i6 : s.at 6 = v6) (o12 : bineq K.P .neq 29 v6 n0 = some r12) : X47 K [1, 0, 1, 0] s h .normal (W (W s 11 v6) 12 r12) h :=
  rg (Rm rfl rfl i6 (Rb rfl rfl rfl rfl o12 (RunL.nil)))
theorem f47_r3 {v6 : CV} (i6 : s.at 6 = v6) : X47 K [1, 0, 1, 1, 0, 0] s h .normal (W (W (W s 13 v6) 4 .nils) 5 v6) h :=
  rg (Rm rfl rfl i6 (Ra (v := .nils) rfl rfl rfl (Ra (v := v6) rfl rfl rfl (RunL.nil))))
theorem f47_r4 {v1 r15 : CV} {F7 : Nat → CV} {B7 : HB} {g1 g3 : Hp} (i1 : s.at 1 = v1) (pg1 : K.prim 95 [v1] = none) (wg1 : Comes K 95 [v1] h r15 g1) (o7 : lAlloc 100 (tzero K.P 100) = some (F7, B7)) (wg3 : wStore (g1.push B7) (F7 (g1).n) r15 (tsz K.P 100) = some (.undef, g3)) : X47 K [1, 1, 0] s h .normal (W (W (W s 14 v1) 15 r15) 7 (F7 (g1).n)) g3 :=
  rg (Rm rfl rfl i1 (RunL.call (v := r15) rfl rfl rfl rfl rfl pg1 wg1 (RunL.op (v := (F7 (g1).n)) rfl (L_alloc rfl o7) (RunL.op (v := .undef) rfl (W_store rfl rfl rfl wg3) (RunL.nil)))))
theorem f47_r5 {v0 v7 r18 r19 r20 : CV} {g1 : Hp} (i0 : s.at 0 = v0) (i7 : s.at 7 = v7) (pg1 : K.prim 81 [v0, (.fn 97 [v7])] = none) (wg1 : Comes K 81 [v0, (.fn 97 [v7])] h r18 g1) (o19 : qExtract 0 r18 = some r19) (o20 : qExtract 1 r18 = some r20) : X47 K [1, 1, 1, 0] s h .normal (W (W (W (W (W (W (W s 16 v0) 17 (.fn 97 [v7])) 18 r18) 19 r19) 20 r20) 4 r19) 5 r20) g1 :=
  rg (Rm rfl rfl i0 (R1 (v := (.fn 97 [v7])) rfl (Q_func rfl (by simp only [ev, Fr.putO, Fr.at_set, reduceIte, Nat.reduceEqDiff, List.toList_toArray, List.map_cons, List.map_nil, Option.map_some, Option.map_none, i7]; try rfl)) (RunL.call (v := r18) rfl rfl rfl rfl rfl pg1 wg1 (R1 (v := r19) rfl (Q_extract rfl rfl o19) (R1 (v := r20) rfl (Q_extract rfl rfl o20) (Ra (v := r19) rfl rfl rfl (Ra (v := r20) rfl rfl rfl (RunL.nil))))))))
theorem f94_r0 : X94 K [0] s h .normal (W s 4 n0) h :=
  rg (Ra (v := n0) rfl rfl rfl (RunL.nil))
theorem f94_r1 {v0 r7 : CV} {g1 : Hp} (i0 : s.at 0 = v0) (pg1 : K.prim 26 [v0] = none) (wg1 : Comes K 26 [v0] h r7 g1) : X94 K [1, 0, 0] s h .normal (W (W (W s 6 v0) 7 r7) 5 r7) g1 :=
  rg (Rm rfl rfl i0 (RunL.call (v := r7) rfl rfl rfl rfl rfl pg1 wg1 (Ra (v := r7) rfl rfl rfl (RunL.nil))))
theorem f94_r2 {v5 r9 : CV} (i5 : s.at 5 = v5) (o9 : bineq K.P .neq 29 v5 n0 = some r9) : X94 K [1, 0, 1, 0] s h .normal (W (W s 8 v5) 9 r9) h :=
  rg (Rm rfl rfl i5 (Rb rfl rfl rfl rfl o9 (RunL.nil)))
theorem f94_r3 {v5 : CV} (i5 : s.at 5 = v5) : X94 K [1, 0, 1, 1, 0, 0] s h .normal (W (W s 10 v5) 4 v5) h :=
  rg (Rm rfl rfl i5 (Ra (v := v5) rfl rfl rfl (RunL.nil)))
theorem f94_r4 {v1 r12 : CV} {g1 : Hp} (i1 : s.at 1 = v1) (pg1 : K.prim 26 [v1] = none) (wg1 : Comes K 26 [v1] h r12 g1) : X94 K [1, 1, 0] s h .normal (W (W (W s 11 v1) 12 r12) 4 r12) g1 :=
  rg (Rm rfl rfl i1 (RunL.call (v := r12) rfl rfl rfl rfl rfl pg1 wg1 (Ra (v := r12) rfl rfl rfl (RunL.nil))))
theorem f95_r0 : X95 K [0] s h .normal (W s 2 .nilm) h :=
  rg (Ra (v := .nilm) rfl rfl rfl (RunL.nil))
theorem f95_r1 : X95 K [1, 0] s h .normal (W (W s 6 (.mp (h).n)) 3 (.mp (h).n)) (h.push (.mp [])) :=
  rg (RunL.op (v := (.mp (h).n)) rfl (L_map rfl) (Ra (v := (.mp (h).n)) rfl rfl rfl (RunL.nil)))
theorem f95_r2 {v0 r8 : CV} (i0 : s.at 0 = v0) (o8 : qLen h v0 (tyk K.P 22) = some r8) : X95 K [1, 1, 0, 0] s h .normal (W (W (W s 7 v0) 8 r8) 9 n0) h :=
  rg (Rm rfl rfl i0 (R1 (v := r8) rfl (Q_len rfl rfl rfl rfl rfl o8) (Rm (v := n0) rfl rfl rfl (RunL.nil))))
theorem f95_r3 {v9 v8 r10 : CV} (i9 : s.at 9 = v9) (i8 : s.at 8 = v8) (o10 : bineq K.P .lss 3 v9 v8 = some r10) : X95 K [1, 1, 0, 1, 0, 0, 0] s h .normal (W s 10 r10) h :=
  rg (Rb rfl rfl i9 i8 o10 (RunL.nil))
theorem f95_r4 {v7 v9 r11 r12 : CV} (i7 : s.at 7 = v7) (i9 : s.at 9 = v9) (o11 : qIndexAddr v7 v9 (tyk K.P 22) = some r11) (o12 : qLoad h r11 (tsz K.P 46) = some r12) : X95 K [1, 1, 0, 1, 0, 0, 1, 1, 0, 0, 0] s h .normal (W (W (W s 11 r11) 12 r12) 5 r12) h :=
  rg (R1 (v := r11) rfl (Q_ia rfl i7 i9 o11) (R1 (v := r12) rfl (Q_load rfl rfl o12) (Ra (v := r12) rfl rfl rfl (RunL.nil))))
theorem f95_r5 {v3 v5 r15 : CV} {g1 g2 : Hp} (i3 : s.at 3 = v3) (i5 : s.at 5 = v5) (pg1 : K.prim 71 [v5] = none) (wg1 : Comes K 71 [v5] h r15 g1) (wg2 : wMap K.P g1 v3 r15 v5 (tyk K.P 100) = some (.undef, g2)) : X95 K [1, 1, 0, 1, 0, 0, 1, 1, 0, 0, 1] s h .normal (W (W (W (W s 13 v3) 14 v5) 15 r15) 16 v5) g2 :=
  rg (Rm rfl rfl i3 (Rm rfl rfl i5 (RunL.call (v := r15) rfl rfl rfl rfl rfl pg1 wg1 (Rm rfl rfl i5 (RunL.op (v := .undef) rfl (W_map rfl rfl rfl rfl wg2) (RunL.nil))))))
theorem f95_r6 {v9 r17 : CV} (i9 : s.at 9 = v9) (o17 : bineq K.P .add 3 v9 (.nu .i64 1) = some r17) : X95 K [1, 1, 0, 1, 0, 0, 1, 1, 1] s h .normal (W (W s 17 r17) 9 r17) h :=
  rg (Rb rfl rfl i9 rfl o17 (Rm (v := r17) rfl rfl rfl (RunL.nil)))
theorem f95_r7 {v3 : CV} (i3 : s.at 3 = v3) : X95 K [1, 1, 1, 0] s h .normal (W (W s 18 v3) 2 v3) h :=
  rg (Rm rfl rfl i3 (Ra (v := v3) rfl rfl rfl (RunL.nil)))
theorem f97_r0 : X97 K [0] s h .normal (W s 3 ff) h :=
  rg (Ra (v := ff) rfl rfl rfl (RunL.nil))
theorem f97_r1 {v1 r4 v0 r6 r7 r8 : CV} {g1 : Hp} (hp : K.plan 97 1 = some [.take 0, .only 1 [0], .only 2 [0], .only 3 [], .only 4 [], .only 5 []]) (i1 : s.at 1 = v1) (i0 : s.at 0 = v0) (o4 : qLoad h v1 (tsz K.P 100) = some r4) (q4 : ceq r4 r4 = true) (pg1 : K.prim 71 [v0] = none) (wg1 : Comes K 71 [v0] h r6 g1) (z4_2 : qLoad g1 v1 (tsz K.P 100) = some r4) (o7 : qLookup K.P g1 false r6 r4 (tyk K.P 100) = some r7) (o8 : bineq K.P .neq 46 r7 .nils = some r8) : X97 K [1, 0] s h .normal (W (W (W (W (W (W s 4 r4) 5 v0) 6 r6) 7 r7) 8 r8) 3 r8) g1 :=
  Runs.drawn hp (RunP.q (v := r4) rfl rfl (Q_load rfl i1 o4) (RunP.only (v := v0) rfl rfl (Q1.e (Q_move rfl i0)) (by simp (decide := true) only [pdOk, looks, qX, ev, Fr.putO, Fr.at_set, reduceIte, Nat.reduceEqDiff, List.filter_cons, List.filter_nil, List.any_cons, List.any_nil, List.all_cons, List.all_nil, List.getElem_toArray, List.getElem_cons_succ, List.getElem_cons_zero, Option.map_some, Option.map_none, ofValue_int, qSlice_V, Bool.and_true, Bool.true_and, Bool.and_self, i1, i0, o4, q4]) (RunP.call (v := r6) rfl rfl rfl rfl rfl rfl pg1 wg1 (by simp (decide := true) only [pdOk, looks, qX, ev, Fr.putO, Fr.at_set, reduceIte, Nat.reduceEqDiff, List.filter_cons, List.filter_nil, List.any_cons, List.any_nil, List.all_cons, List.all_nil, List.getElem_toArray, List.getElem_cons_succ, List.getElem_cons_zero, Option.map_some, Option.map_none, ofValue_int, qSlice_V, Bool.and_true, Bool.true_and, Bool.and_self, i1, i0, o4, q4, z4_2]) (RunP.only (v := r7) rfl rfl (Q1.e (Q_lookup rfl rfl rfl o7)) rfl (RunP.only (v := r8) rfl rfl (Q1.e (Q_bin rfl rfl rfl o8)) rfl (RunP.only (v := r8) rfl rfl (Q1.e (Q_assign rfl rfl)) rfl (RunP.nil)))))))
end Go.CP
namespace Go.CP
open Go.Proofs
structure PlansC [LG] [HK] (K : Ctx) : Prop where
  p91_5 : K.plan 91 5 = some [.take 0, .take 1, .take 2, .take 3, .only 4 [3, 2, 1, 0], .only 5 [2, 1, 0], .only 6 [], .only 7 []]
  p93_5 : K.plan 93 5 = some [.take 0, .take 1, .take 2, .take 3, .only 4 [3, 2, 1, 0], .only 5 [2, 1, 0], .only 6 [], .only 7 []]
  p97_1 : K.plan 97 1 = some [.take 0, .only 1 [0], .only 2 [0], .only 3 [], .only 4 [], .only 5 []]
variable [LG] [HK] {K : Ctx} {s : Fr} {h : Hp} (hk : ∀ o, HK.keep o = false) (pr : ∀ f args, K.prim f args = none) (Pl : PlansC K)
include hk pr Pl
theorem f47_b_T {v0 v1 r10 : CV} {g1 : Hp} (i0 : s.at 0 = v0) (i1 : s.at 1 = v1) (wg1 : Comes K 94 [v0, v1] h r10 g1) (o12 : bineq K.P .neq 29 r10 n0 = some tt) : X47 K [] s h .ret (W (W (W (W (W (W (W (W (W (W (W s 4 .nils) 5 n0) 8 v0) 9 v1) 10 r10) 6 r10) 11 r10) 12 tt) 13 r10) 4 .nils) 5 r10) g1 :=
  (sq (f47_r0 (h := h) hk) (sx (sq (f47_r1 (h := h) hk i0 i1 (pr _ _) ‹_›) (sq (f47_r2 (h := g1) (v6 := r10) (r12 := tt) hk rfl ‹_›) (cT 12 rfl (sq (f47_r3 (h := g1) (v6 := r10) hk rfl) Runs.ret)))) (by simp)))
theorem f47_b_F {v0 v1 r10 r15 r18 r19 r20 : CV} {F7 : Nat → CV} {B7 : HB} {g1 g2 g4 g5 : Hp} (i0 : s.at 0 = v0) (i1 : s.at 1 = v1) (wg1 : Comes K 94 [v0, v1] h r10 g1) (o12 : bineq K.P .neq 29 r10 n0 = some ff) (wg2 : Comes K 95 [v1] g1 r15 g2) (o7 : lAlloc 100 (tzero K.P 100) = some (F7, B7)) (wg4 : wStore (g2.push B7) (F7 (g2).n) r15 (tsz K.P 100) = some (.undef, g4)) (wg5 : Comes K 81 [v0, (.fn 97 [(F7 (g2).n)])] g4 r18 g5) (o19 : qExtract 0 r18 = some r19) (o20 : qExtract 1 r18 = some r20) : X47 K [] s h .ret (W (W (W (W (W (W (W (W (W (W (W (W (W (W (W (W (W (W s 4 .nils) 5 n0) 8 v0) 9 v1) 10 r10) 6 r10) 11 r10) 12 ff) 14 v1) 15 r15) 7 (F7 (g2).n)) 16 v0) 17 (.fn 97 [(F7 (g2).n)])) 18 r18) 19 r19) 20 r20) 4 r19) 5 r20) g5 :=
  (sq (f47_r0 (h := h) hk) (sq (sq (f47_r1 (h := h) hk i0 i1 (pr _ _) ‹_›) (sq (f47_r2 (h := g1) (v6 := r10) (r12 := ff) hk rfl ‹_›) (cF 12 rfl sk))) (sq (f47_r4 (h := g1) (g1 := g2) (g3 := g4) hk i1 (pr _ _) ‹_› ‹_› ‹_›) (sq (f47_r5 (h := g4) (v7 := (F7 (g2).n)) (g1 := g5) hk i0 rfl (pr _ _) ‹_› ‹_› ‹_›) Runs.ret))))
theorem f94_b_T {v0 r7 : CV} {g1 : Hp} (i0 : s.at 0 = v0) (wg1 : Comes K 26 [v0] h r7 g1) (o9 : bineq K.P .neq 29 r7 n0 = some tt) : X94 K [] s h .ret (W (W (W (W (W (W (W (W s 4 n0) 6 v0) 7 r7) 5 r7) 8 r7) 9 tt) 10 r7) 4 r7) g1 :=
  (sq (f94_r0 (h := h) hk) (sx (sq (f94_r1 (h := h) hk i0 (pr _ _) ‹_›) (sq (f94_r2 (h := g1) (v5 := r7) (r9 := tt) hk rfl ‹_›) (cT 9 rfl (sq (f94_r3 (h := g1) (v5 := r7) hk rfl) Runs.ret)))) (by simp)))
theorem f94_b_F {v0 r7 v1 r12 : CV} {g1 g2 : Hp} (i0 : s.at 0 = v0) (i1 : s.at 1 = v1) (wg1 : Comes K 26 [v0] h r7 g1) (o9 : bineq K.P .neq 29 r7 n0 = some ff) (wg2 : Comes K 26 [v1] g1 r12 g2) : X94 K [] s h .ret (W (W (W (W (W (W (W (W (W s 4 n0) 6 v0) 7 r7) 5 r7) 8 r7) 9 ff) 11 v1) 12 r12) 4 r12) g2 :=
  (sq (f94_r0 (h := h) hk) (sq (sq (f94_r1 (h := h) hk i0 (pr _ _) ‹_›) (sq (f94_r2 (h := g1) (v5 := r7) (r9 := ff) hk rfl ‹_›) (cF 9 rfl sk))) (sq (f94_r4 (h := g1) (g1 := g2) hk i1 (pr _ _) ‹_›) Runs.ret)))
theorem f95_b110100_T {v9 v8 v7 r11 r12 v3 r15 r17 : CV} {g1 g2 : Hp} (i9 : s.at 9 = v9) (i8 : s.at 8 = v8) (i7 : s.at 7 = v7) (i3 : s.at 3 = v3) (o10 : bineq K.P .lss 3 v9 v8 = some tt) (o11 : qIndexAddr v7 v9 (tyk K.P 22) = some r11) (o12 : qLoad h r11 (tsz K.P 46) = some r12) (wg1 : Comes K 71 [r12] h r15 g1) (wg2 : wMap K.P g1 v3 r15 r12 (tyk K.P 100) = some (.undef, g2)) (o17 : bineq K.P .add 3 v9 (.nu .i64 1) = some r17) : X95 K [1, 1, 0, 1, 0, 0] s h .normal (W (W (W (W (W (W (W (W (W (W s 10 tt) 11 r11) 12 r12) 5 r12) 13 v3) 14 r12) 15 r15) 16 r12) 17 r17) 9 r17) g2 :=
  (sq (f95_r3 (h := h) (r10 := tt) hk i9 i8 ‹_›) (sq (cT 10 rfl sk) (sq (Runs.blockN (sq (f95_r4 (h := h) hk i7 i9 ‹_› ‹_›) (f95_r5 (h := h) (v5 := r12) hk i3 rfl (pr _ _) ‹_› ‹_›))) (f95_r6 (h := g2) hk i9 ‹_›))))
theorem f95_b110100_F {v9 v8 : CV} (i9 : s.at 9 = v9) (i8 : s.at 8 = v8) (o10 : bineq K.P .lss 3 v9 v8 = some ff) : X95 K [1, 1, 0, 1, 0, 0] s h (.exit 0) (W s 10 ff) h :=
  (sq (f95_r3 (h := h) (r10 := ff) hk i9 i8 ‹_›) (sx (cF 10 rfl Runs.exit) (by simp)))
theorem f95_b111 {v3 : CV} (i3 : s.at 3 = v3) : X95 K [1, 1, 1] s h .ret (W (W s 18 v3) 2 v3) h :=
  (sq (f95_r7 (h := h) hk i3) Runs.ret)
theorem f97_b {v1 r4 v0 r6 r7 r8 : CV} {g1 : Hp} (i1 : s.at 1 = v1) (i0 : s.at 0 = v0) (o4 : qLoad h v1 (tsz K.P 100) = some r4) (q4 : ceq r4 r4 = true) (wg1 : Comes K 71 [v0] h r6 g1) (z4_2 : qLoad g1 v1 (tsz K.P 100) = some r4) (o7 : qLookup K.P g1 false r6 r4 (tyk K.P 100) = some r7) (o8 : bineq K.P .neq 46 r7 .nils = some r8) : X97 K [] s h .ret (W (W (W (W (W (W (W s 3 ff) 4 r4) 5 v0) 6 r6) 7 r7) 8 r8) 3 r8) g1 :=
  (sq (f97_r0 (h := h) hk) (sq (f97_r1 (h := h) hk Pl.p97_1 i1 i0 ‹_› ‹_› (pr _ _) ‹_› ‹_› ‹_› ‹_›) Runs.ret))
end Go.CP
namespace Go.CP
open Go.Proofs
variable [LG] [HK] {K : Ctx} {s : Fr} {h : Hp} (hk : ∀ o, HK.keep o = false)
include hk
end Go.CP
namespace Go.CP
open Go.Proofs
structure PlansN [LG] [HK] (K : Ctx) : Prop where
  p91_5 : K.plan 91 5 = some [.take 0, .take 1, .take 2, .take 3, .only 4 [3, 2, 1, 0], .only 5 [2, 1, 0], .only 6 [], .only 7 []]
  p93_5 : K.plan 93 5 = some [.take 0, .take 1, .take 2, .take 3, .only 4 [3, 2, 1, 0], .only 5 [2, 1, 0], .only 6 [], .only 7 []]
variable [LG] [HK] {K : Ctx} {s : Fr} {h : Hp} (hk : ∀ o, HK.keep o = false) (pr : ∀ f args, K.prim f args = none) (Pl : PlansN K)
include hk pr Pl
end Go.CP
