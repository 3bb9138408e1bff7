import Derived.Test.YtadagifjonbmjaaGreatDoorKl0
import Derived.Test.YtadagifjonbmjaaGreatDoorKw1
set_option linter.all false
set_option maxRecDepth 100000
namespace Go.CP
open Go.Proofs
variable [LG] [HK]
theorem vg {K : Ctx} {ops : Array Oper} {o : Oper} {l : List Stp} {i : Nat} {s s2 : Fr} {h h2 : Hp} {F : Nat → CV} {b : HB} (ho : ops[i]? = some o) (hw : bU ops o s = some true) (hl : bA K.P o (ev s) = some (F, b)) (rest : RunP K ops l [⟨i, o, false, F h.n, some (h.n, b)⟩] (Fr.putO s o.dst (F h.n)) (h.push b) s2 h2) : RunP K ops (.take i :: l) [] s h s2 h2 := nN ho hw hl rfl rest
theorem I4 {K : Ctx} {s : Fr} {h : Hp} (hk : ∀ o, HK.keep o = false) {v0 v1 r8 r9 r12 r13 r14 : CV} {F5 : Nat → CV} {B5 : HB} {g1 g2 : Hp} (hp : K.plan 117 1 = some [.t 0,.t 1,.t 2,.t 3,.t 5,.t 6,.t 7,.t 8,.o 4 [8, 7, 6, 5],.o 9 [],.o 10 []]) (i0 : s.at 0 = v0) (i1 : s.at 1 = v1) (o5 : aL 0 [] (ae K.P 46) = some (F5, B5)) (o8 : ba none (some v1) (h.push B5) v0 (ae K.P 46) = some r8) (o12 : ab K.P .add 3 v1 (.nu .i64 1) = some r12) (o13 : ba (some r12) none (h.push B5) v0 (ae K.P 46) = some r13) (q13 : ceq r13 r13 = true) (wg1 : aQ (h.push B5) (F5 h.n) r8 (ae K.P 46) (ae K.P 46) = some (r9, g1)) (z13 : ba (some r12) none g1 v0 (ae K.P 46) = some r13) (wg2 : aQ g1 r9 r13 (ae K.P 46) (ae K.P 46) = some (r14, g2)) :
  JL K [1, 0] s h .normal (T.set (T.set (T.set (T.set (T.set (T.set (T.set (T.set (T.set (T.set (T.set s 5 (F5 h.n)) 6 v0) 7 v1) 8 r8) 10 v0) 11 v1) 12 r12) 13 r13) 9 r9) 14 r14) 4 r14) g2 := by
 refine Runs.drawn hp ?_
 refine vg (F := F5) (b := B5) rfl rfl (by simp [bA, o5]) ?_
 refine RunP.q (v := v0) rfl rfl (aS rfl i0) ?_
 refine RunP.q (v := v1) rfl rfl (aS rfl i1) ?_
 refine RunP.q (v := r8) rfl rfl (fF (lv := none) (hv := some v1) rfl rfl rfl rfl o8) ?_
 refine RunP.q (v := v0) rfl rfl (aS rfl i0) ?_
 refine RunP.q (v := v1) rfl rfl (aS rfl i1) ?_
 refine RunP.q (v := r12) rfl rfl (eQ rfl rfl rfl o12) ?_
 refine RunP.q (v := r13) rfl rfl (fF (lv := some r12) (hv := none) rfl rfl rfl rfl o13) ?_
 refine RunP.only (v := r9) rfl rfl (cO hk rfl rfl rfl rfl rfl rfl wg1) (by simp (decide := true) only [bV, bS, qX, ev, Fr.putO, aI, reduceIte, Nat.reduceEqDiff, List.filter_cons, List.filter_nil, List.any_cons, List.any_nil, List.all_cons, List.all_nil, List.getElem_toArray, List.getElem_cons_succ, List.getElem_cons_zero, Option.map_some, Option.map_none, aV, bj, Bool.and_true, Bool.true_and, Bool.and_self, i0, i1, z13, q13]) ?_
 refine RunP.only (v := r14) rfl rfl (cO hk rfl rfl rfl rfl rfl rfl wg2) rfl ?_
 refine RunP.only (v := r14) rfl rfl (Q1.e (cY rfl rfl)) rfl ?_
 exact RunP.nil
theorem Row.blk {h : Hp} {x : CV} {cs : List CV} (r : Row h x cs) (hne : cs ≠ []) (ok : HpOk h) : ∃ k o n c, x = .sl k o n c ∧ k < h.n := by
 cases r with
 | nils => exact absurd rfl hne
 | sle => exact absurd rfl hne
 | none => exact absurd rfl hne
 | @some k o c cs hne' hs _ _ =>
  refine ⟨k, o, _, c, rfl, ?_⟩
  rcases Nat.lt_or_ge k h.n with hk | hk
  · exact hk
  · exact absurd (ok k hk) (gJ hs)
theorem yh {h h1 h2 : Hp} {x : CV} {cs : List CV} {lo hi : Option CV} {e by' : Nat} {z : List CV} (r : Row h x cs) (hne : cs ≠ []) (ok : HpOk h) (S1 : ∀ k, k < h.n → h1.get k = h.get k) (S2 : ∀ k, k < h.n → h2.get k = h.get k) : ba lo hi h1 x (.slice e 1 by' z) = ba lo hi h2 x (.slice e 1 by' z) := by
 obtain ⟨k, o, n, c, rfl, hk⟩ := r.blk hne ok
 have hg : h1.get k = h2.get k := by rw [S1 k hk, S2 k hk]
 have hq : ∀ a b, eb h1 1 k o c a b = eb h2 1 k o c a b := by
  intro a b
  cases a <;> cases b <;> simp only [eb, hg]
 simp only [ba, hq]
theorem Same.get' {h h' : Hp} (S : Same h.n h h') : ∀ k, k < h.n → h'.get k = h.get k := S.get
theorem zI {P : Program} {el b t : Nat} {h : Hp} {z0 : CV} (ht : ae P t = .slice el 1 b [z0]) : ∃ F B, aL 0 [] (ae P t) = some (F, B) ∧ New h.n (h.push B) el (F h.n) [] :=
 ⟨fun k => .sl k 0 0 0, .cells [] 0 el, by rw [ht]; rfl, .emp (Nat.le_refl _) (by simp) (by rw [ah, if_pos rfl])⟩
section
variable {K : Ctx} {h : Hp}
theorem Gp (H : Std K) {N : Nat} {h : Hp} {x y : CV} {a b : List Int} (ok : HpOk h) (hN : N ≤ h.n) (r : New N h 3 x (ak a)) (hy : Row h y (ak b)) (hb : a.length + b.length < 1099511627776) : ∃ x' h', aQ h x y (ae K.P 46) (ae K.P 46) = some (x', h') ∧ New N h' 3 x' (ak (a ++ b)) ∧ Same N h h' ∧ HpOk h' := by
 obtain ⟨x', h', h1, h2, h3, h4⟩ := r.app (z := [.nu .i64 0]) (t' := ae K.P 46) (bytes := 8) ok hN hy (hZ b) rfl ⟨_, _, _, by rw [H.hP]; exact t46⟩ (by simp only [ax]; omega) (by simp only [ax]; omega)
 refine ⟨x', h', by rw [← h1, H.hP, t46], ?_, h3, h4⟩
 have : ak (a ++ b) = ak a ++ ak b := by simp [ak]
 rw [this]; exact h2
theorem vh (H : Std K) (ok : HpOk h) {a : List Int} (h2 : 2 ≤ a.length) (hbig : a.length < 1099511627776) {i : Nat} (hi : i < a.length) {x : CV} (ha : Row h x (ak a)) :
  ∃ x' h', Comes K 117 [x, .nu .i64 (.ofNat i)] h x' h' ∧ Same h.n h h' ∧ HpOk h' ∧ Out h.n h' 3 x' (ak (a.eraseIdx i)) := by
 have hf : K.P.funcs[117]? = some Tryz.f117 := by rw [H.hP]; exact Tryz.func117
 have hne : a ≠ [] := by intro e; rw [e] at h2; simp at h2
 obtain ⟨F, B, b1, b2⟩ := zI (P := K.P) (t := 46) (h := h) (by rw [H.hP]; exact t46)
 have S0 : Same h.n h (h.push B) := Same.push (Nat.le_refl _) _
 have ha0 := ha.mono S0 ok (Nat.le_refl _)
 obtain ⟨y, y1, y2⟩ := oT H hne ha0 (lo := none) (hi := some (.nu .i64 (.ofNat i))) (i := 0) (j := i) rfl rfl (Nat.zero_le _) (by omega)
 obtain ⟨z, z1, z2⟩ := oT H hne ha0 (lo := some (.nu .i64 (.ofNat (i + 1)))) (hi := none) (i := i + 1) (j := a.length) rfl rfl (by omega) (Nat.le_refl _)
 rw [List.drop_zero, Nat.sub_zero] at y2
 rw [List.take_of_length_le (by simp)] at z2
 obtain ⟨x1, h1, c1, c2, c3, c4⟩ := Gp H (a := []) (ok.push B) S0.n b2 y2 (by simp; omega)
 have ha1 := ha.mono (S0.trans c3) ok (Nat.le_refl _)
 rw [List.nil_append] at c2
 obtain ⟨z', z1', z2'⟩ := oT H hne ha1 (lo := some (.nu .i64 (.ofNat (i + 1)))) (hi := none) (i := i + 1) (j := a.length) rfl rfl (by omega) (Nat.le_refl _)
 have hz : ba (some (.nu .i64 (.ofNat (i + 1)))) none h1 x (ae K.P 46) = some z := by
  rw [← z1, H.hP, t46]
  exact yh ha (fd hne) ok (S0.trans c3).get' S0.get'
 rw [z1'] at hz; cases hz
 rw [List.take_of_length_le (by simp)] at z2'
 obtain ⟨x2, h2', d1, d2, d3, d4⟩ := Gp H c4 (S0.trans c3).n c2 z2' (by simp; omega)
 have he : a.eraseIdx i = a.take i ++ a.drop (i + 1) := List.eraseIdx_eq_take_drop_succ _ _
 have hl : (a.eraseIdx i).length = a.length - 1 := by rw [List.length_eraseIdx]; simp [hi]
 refine ⟨x2, h2', ?_, (S0.trans c3).trans d3, d4, ?_⟩
 · exact H.go hf (Runs.seq (Hv H.hk) (Runs.seq (I4 H.hk H.pl.p117_1 rfl rfl b1 y1 (bI (by omega)) z1 z2.ceq c1 z1' d1) Runs.ret)) (.inr rfl) ((S0.trans c3).trans d3).n rfl rfl rfl
 · rw [he]
   exact d2.got (fd (by rw [← he]; intro e; rw [e] at hl; simp at hl; omega))
end
theorem L9 : ae Tryz.prog 103 = .arr 5 3 1 false [.nu .i64 0, .nu .i64 0, .nu .i64 0, .nu .i64 0, .nu .i64 0] := by kernel_rfl
theorem Fu : ar Tryz.prog 103 = some (5, true) := by kernel_rfl
theorem No : dh Tryz.prog 103 = some (.agg [.nu .i64 0, .nu .i64 0, .nu .i64 0, .nu .i64 0, .nu .i64 0]) := by kernel_rfl
def bT (a : List Int) : List (List Int) := if a.length = 1 then [] else (List.range a.length).map a.eraseIdx
def bp (a : List Int) : List CV := ak (a.map (· + 1)) ++ List.replicate (5 - a.length) (.nu .i64 0)
section
variable {K : Ctx} {h : Hp}
theorem yi (H : Std K) {h0 : Hp} (bW : HpOk h0) {a : List Int} (h2 : 2 ≤ a.length) (hbig : a.length < 1099511627776) {x : CV} (ha : Row h0 x (ak a)) : ∀ (m i : Nat) (s : Fr) (h : Hp) (o : CV) (cs : List CV), i + m = a.length → HpOk h → Same h0.n h0 h → Own h0.n h 46 o cs ((List.range i).map a.eraseIdx) → s.at 0 = x → s.at 2 = o → s.at 16 = .nu .i64 (.ofNat a.length) → s.at 17 = .nu .i64 (.ofNat i) → s.at ag = .undef →
  ∃ s' h' o' cs', fR K [1, 1, 0, 1, 0] s h (.exit 0) s' h' ∧ s'.at ag = .undef ∧ HpOk h' ∧ Same h0.n h0 h' ∧ s'.at 2 = o' ∧ Own h0.n h' 46 o' cs' ((List.range a.length).map a.eraseIdx) := by
 intro m
 induction m with
 | zero =>
  intro i s h o cs him ok S ho g0 g2 g16 g17 gs
  refine ⟨_, _, o, cs, aE (uX H.hk H.prim H.pl g17 g16 (aY (by omega))) (by simp), gs, ok, S, g2, ?_⟩
  rw [show a.length = i by omega]; exact ho
 | succ m ih =>
  intro i s h o cs him ok S ho g0 g2 g16 g17 gs
  have hi : i < a.length := by omega
  obtain ⟨y, h1, c1, c2, c3, c4⟩ := vh H ok h2 hbig hi (ha.mono S bW (Nat.le_refl _))
  have hl := ho.rows.length
  rw [List.length_map, List.length_range] at hl
  obtain ⟨F, B, x', h3, b1, b2, b3, b4, b5⟩ := Own.app (P := K.P) (t := 22) (by rw [H.hP]; exact t22) c3 (S.trans (c2.le S.n)).n (ho.mono c2 ok) (Row.off ho.out (Nat.le_refl _) c4) (by decide) (by omega)
  obtain ⟨s1, r1, k0, k2, k16, k17, ks⟩ : ∃ s1, fR K [1, 1, 0, 1, 0, 0] s h .normal s1 h3 ∧ s1.at 0 = x ∧ s1.at 2 = x' ∧ s1.at 16 = .nu .i64 (.ofNat a.length) ∧ s1.at 17 = .nu .i64 (.ofNat (i + 1)) ∧ s1.at ag = .undef :=
   ⟨_, uW H.hk H.prim H.pl g17 g16 g2 g0 (aM hi) c1 b1 b2 (bI (by omega)), g0, rfl, g16, rfl, gs⟩
  obtain ⟨s2, h4, o2, cs2, r2, e1, e2, e3, e4, e5⟩ := ih (i + 1) s1 h3 x' _ (by omega) b5 ((S.trans (c2.le S.n)).trans b4) (by rw [List.range_succ, List.map_append]; exact b3) k0 k2 k16 k17 ks
  exact ⟨s2, h4, o2, cs2, Runs.loop r1 r2, e1, e2, e3, e4, e5⟩
theorem xc (H : Std K) (ok : HpOk h) {a : List Int} (hok : OkS a) {x : CV} (ha : Row h x (ak a)) :
  ∃ x' cs' h', Comes K 73 [x] h (.tup [x', .nu .i64 0]) h' ∧ Same h.n h h' ∧ HpOk h' ∧ Own h.n h' 46 x' cs' (bT a) := by
 have hf : K.P.funcs[73]? = some Tryz.f73 := by rw [H.hP]; exact Tryz.func73
 have hle := hok.le
 have hlen := dM H ha
 rw [ax] at hlen
 have o12 := iW (P := K.P) (t := 3) (Int.ofNat a.length) 1
 by_cases h1 : a.length = 1
 · rw [jq (by simp [h1])] at o12
   refine ⟨.nils, [], h, ?_, Same.refl _ _, ok, by rw [bT, if_pos h1]; exact Own.nil⟩
   exact H.go hf (Runs.seq (wx H.hk) (aC (Ar H.hk H.prim H.pl rfl (lk H hok ha) rfl hlen o12 rfl) (by simp))) (.inr rfl) (Nat.le_refl _) rfl rfl rfl
 · rw [jr (by simp; omega)] at o12
   have h2 : 2 ≤ a.length := by
    have : a.length ≠ 0 := fun e => hok.ne (List.eq_nil_of_length_eq_zero e)
    omega
   obtain ⟨s1, r1, k0, k2, ks⟩ : ∃ s1, fR K [1, 0] (T.set (T.set (entry 0 [x]) 2 .nils) 3 (.nu .i64 0)) h .normal s1 h ∧ s1.at 0 = x ∧ s1.at 2 = .nils ∧ s1.at ag = .undef := ⟨_, As H.hk H.prim H.pl rfl (lk H hok ha) rfl hlen o12 rfl, rfl, rfl, rfl⟩
   obtain ⟨s2, r2, l0, l2, l16, l17, ls⟩ : ∃ s2, fR K [1, 1, 0, 0] s1 h .normal s2 h ∧ s2.at 0 = x ∧ s2.at 2 = .nils ∧ s2.at 16 = .nu .i64 (.ofNat a.length) ∧ s2.at 17 = .nu .i64 (.ofNat 0) ∧ s2.at ag = .undef := ⟨_, Kw H.hk k0 hlen, k0, k2, rfl, rfl, ks⟩
   obtain ⟨s3, h3, o3, cs3, r3, e1, e2, e3, e4, e5⟩ := yi H ok h2 (by omega) ha a.length 0 s2 h .nils [] (by omega) ok (Same.refl _ _) Own.nil l0 l2 l16 l17 ls
   refine ⟨o3, cs3, h3, ?_, e3, e2, by rw [bT, if_neg h1]; exact e5⟩
   exact H.go hf (Runs.seq (wx H.hk) (Runs.seq r1 (Runs.seq (Runs.seq r2 (aN r3)) (EO H.hk H.prim H.pl e4)))) (.inr rfl) e3.n e1 rfl rfl
theorem I5 (H : Std K) {h0 : Hp} (bW : HpOk h0) {a : List Int} (hle : a.length ≤ 5) (hr : ∀ v ∈ a, 0 ≤ v ∧ v < 64) {x : CV} (ha : Row h0 x (ak a)) {k : Nat} (hk : h0.n ≤ k) : ∀ (m i : Nat) (s : Fr) (h : Hp), i + m = a.length → HpOk h → Same h0.n h0 h → k < h.n → h.get k = .cells (ak ((a.take i).map (· + 1)) ++ List.replicate (5 - i) (.nu .i64 0)) 0 103 → s.at 2 = .ptr k 0 → s.at 5 = x → s.at 6 = .nu .i64 (.ofNat a.length) → s.at 7 = .nu .i64 (.ofNat i) → s.at ag = .undef →
  ∃ s' h', lH K [1, 0, 1, 0] s h (.exit 0) s' h' ∧ s'.at ag = .undef ∧ HpOk h' ∧ Same h0.n h0 h' ∧ k < h'.n ∧ s'.at 2 = .ptr k 0 ∧ h'.get k = .cells (bp a) 0 103 := by
 intro m
 induction m with
 | zero =>
  intro i s h him ok S hkn hg g2 g5 g6 g7 gs
  refine ⟨_, _, aE (wK H.hk H.prim H.pl g7 g6 (aY (by omega))) (by simp), gs, ok, S, hkn, g2, ?_⟩
  rw [hg, bp, show i = a.length by omega, List.take_length]
 | succ m ih =>
  intro i s h him ok S hkn hg g2 g5 g6 g7 gs
  have hi : i < a.length := by omega
  obtain ⟨p, hp1, hp2⟩ := iY H (ha.mono S bW (Nat.le_refl _)) hi
  have hv := hr _ (List.getElem_mem hi)
  have o14 := w9 (P := K.P) (t := 3) (x := a[i]) (y := 1) (by omega) (by omega)
  have hlen : (ak ((a.take i).map (· + 1))).length = i := by rw [ax, List.length_map, List.length_take]; omega
  have o15 : ai (.ptr k 0) (.nu .i64 (.ofNat i)) (ae K.P 103) = some (.ptr k (0 + i * 1)) := by
   rw [H.hP, L9]
   have hb : Nat.blt i 5 = true := by simp; omega
   simp only [ai, tM, hb]
  have hset : setAt (ak ((a.take i).map (· + 1)) ++ List.replicate (5 - i) (.nu .i64 0)) i [.nu .i64 (a[i] + 1)] = ak ((a.take (i + 1)).map (· + 1)) ++ List.replicate (5 - (i + 1)) (.nu .i64 0) := by
   rw [ue, List.set_append_right _ _ (by omega), hlen, Nat.sub_self, show 5 - i = (5 - (i + 1)) + 1 by omega, List.replicate_succ, List.set_cons_zero, List.take_add_one, List.getElem?_eq_getElem hi]
   simp only [Option.toList, List.map_append, List.map_cons, List.map_nil, ak, List.append_assoc, List.cons_append, List.nil_append]
  have w1 : bc h (.ptr k (0 + i * 1)) (.nu .i64 (a[i] + 1)) (ar K.P 3) = some (.undef, h.set k (.cells (ak ((a.take (i + 1)).map (· + 1)) ++ List.replicate (5 - (i + 1)) (.nu .i64 0)) 0 103)) := by
   rw [H.hP, z3]
   show dz h k (0 + i * 1) 1 _ (h.get k) = _
   have hlt : Nat.ble (i + 1) (ak ((a.take i).map (· + 1)) ++ List.replicate (5 - i) (CV.nu .i64 0)).length = true := Nat.ble_eq_true_of_le (by rw [List.length_append, hlen, List.length_replicate]; omega)
   rw [hg]
   simp only [dz, CV.sol, CV.cells, List.all_cons, CV.one, List.all_nil, Bool.and_self, List.length_singleton, Nat.beq_refl, Nat.mul_one, Nat.zero_add, hlt, hset]
  obtain ⟨s1, r1, k2, k5, k6, k7, ks⟩ : ∃ s1, lH K [1, 0, 1, 0, 0] s h .normal s1 _ ∧ s1.at 2 = .ptr k 0 ∧ s1.at 5 = x ∧ s1.at 6 = .nu .i64 (.ofNat a.length) ∧ s1.at 7 = .nu .i64 (.ofNat (i + 1)) ∧ s1.at ag = .undef :=
   ⟨_, wJ H.hk H.prim H.pl g7 g6 g5 g2 (aM hi) hp1 hp2 o14 o15 w1 (bI (by omega)), g2, g5, g6, rfl, gs⟩
  obtain ⟨s2, h2, r2, rest⟩ := ih (i + 1) s1 _ (by omega) (ok.set hkn _) (S.trans (Same.set hk _)) hkn (by rw [Hp.get_set, if_pos rfl]) k2 k5 k6 k7 ks
  exact ⟨s2, h2, Runs.loop r1 r2, rest⟩
theorem ll {a : List Int} (hle : a.length ≤ 5) : (bp a).length = 5 := by simp [bp, ak]; omega
theorem qc (H : Std K) (ok : HpOk h) {a : List Int} (hle : a.length ≤ 5) (hr : ∀ v ∈ a, 0 ≤ v ∧ v < 64) {x : CV} (ha : Row h x (ak a)) :
  ∃ h', Comes K 71 [x] h (.agg (bp a)) h' ∧ Same h.n h h' ∧ HpOk h' := by
 have hf : K.P.funcs[71]? = some Tryz.f71 := by rw [H.hP]; exact Tryz.func71
 have o2 : fN 103 (dh K.P 103) = some (fun k => .ptr k 0, .cells [.nu .i64 0, .nu .i64 0, .nu .i64 0, .nu .i64 0, .nu .i64 0] 0 103) := by rw [H.hP, No]; rfl
 have S0 : Same h.n h (h.push (.cells [.nu .i64 0, .nu .i64 0, .nu .i64 0, .nu .i64 0, .nu .i64 0] 0 103)) := Same.push (Nat.le_refl _) _
 have hlen := dM H (ha.mono S0 ok (Nat.le_refl _))
 rw [ax] at hlen
 obtain ⟨s1, r1, k2, k5, k6, k7, ks⟩ : ∃ s1, lH K [1, 0, 0] (T.set (entry 0 [x]) 2 (.ptr h.n 0)) (h.push (.cells [.nu .i64 0, .nu .i64 0, .nu .i64 0, .nu .i64 0, .nu .i64 0] 0 103)) .normal s1 (h.push (.cells [.nu .i64 0, .nu .i64 0, .nu .i64 0, .nu .i64 0, .nu .i64 0] 0 103)) ∧ s1.at 2 = .ptr h.n 0 ∧ s1.at 5 = x ∧ s1.at 6 = .nu .i64 (.ofNat a.length) ∧ s1.at 7 = .nu .i64 (.ofNat 0) ∧ s1.at ag = .undef := ⟨_, Kr H.hk rfl hlen, rfl, rfl, rfl, rfl, rfl⟩
 obtain ⟨s2, h2, r2, e1, e2, e3, e4, e5, e6⟩ := I5 H ok hle hr ha (Nat.le_refl h.n) a.length 0 s1 _ (by omega) (ok.push _) S0 (by simp) (by rw [ah, if_pos rfl]; rfl) k2 k5 k6 k7 ks
 have hpl := ll hle
 have hsub : sub (bp a) 0 5 = bp a := by simp only [sub, List.drop_zero]; exact List.take_of_length_le (by omega)
 have hv : eK 0 5 true (h2.get h.n) = some (.agg (bp a)) := by
  rw [e6]
  simp only [eK, val, Nat.zero_add, hpl, Nat.ble_eq_true_of_le (Nat.le_refl _), hsub]
 have o17 : ap h2 (.ptr h.n 0) (ar K.P 103) = some (.agg (bp a)) := by rw [H.hP, Fu]; exact hv
 have hone : (bp a).all CV.one = true := by
  simp only [bp, List.all_append, Bool.and_eq_true]
  exact ⟨hZ _, by simp [List.all_eq_true, CV.one]⟩
 have hcells : CV.cells (.agg (bp a)) = bp a := rfl
 have w1 : bc h2 (.ptr h.n 0) (.agg (bp a)) (ar K.P 103) = some (.undef, h2.set h.n (.cells (setAt (bp a) 0 (bp a)) 0 103)) := by
  rw [H.hP, Fu]
  show dz h2 h.n 0 5 _ (h2.get h.n) = _
  rw [e6]
  simp only [dz, CV.sol, hcells, hone, hpl, Nat.beq_refl, Nat.zero_add, Nat.ble_eq_true_of_le (Nat.le_refl _), Bool.and_self]
 have S2 : Same h.n h (h2.set h.n (.cells (setAt (bp a) 0 (bp a)) 0 103)) := e3.trans (Same.set (Nat.le_refl _) _)
 refine ⟨_, ?_, S2, e2.set e4 _⟩
 refine H.go hf (Runs.seq (Kq H.hk o2) (Runs.seq (Runs.seq r1 (aN r2)) (HM H.hk H.prim H.pl e5 o17 w1))) (.inr rfl) S2.n e1 (vs := [.agg (bp a)]) ?_ rfl
 have hv2 : eK 0 5 true ((h2.set h.n (.cells (setAt (bp a) 0 (bp a)) 0 103)).get h.n) = some (.agg (bp a)) := by
  rw [Hp.get_set, if_pos rfl, mq _ _ rfl]
  simp only [eK, val, Nat.zero_add, hpl, Nat.ble_eq_true_of_le (Nat.le_refl _), hsub]
 have hres : Tryz.f71.results.toList = [.cell 2 103] := rfl
 have ha2 : Fr.at (T.set s2 17 (.agg (bp a))) 2 = .ptr h.n 0 := e5
 rw [hres]
 simp only [fZ, ha2, H.hP, Fu, hv2]
end
theorem xd : ae Tryz.prog 100 = .map 103 46 := by kernel_rfl
theorem t3 : ae Tryz.prog 3 = .int .i64 := by kernel_rfl
theorem Nc : dh Tryz.prog 46 = some .nils := by kernel_rfl
structure Ma (l : List (List Int)) : Prop where
 simp : ∀ a ∈ l, OkS a
 asc : ∀ i (h : i + 1 < l.length), a8 l[i + 1] l[i] = 1
 face : ∀ a ∈ l, ∀ f ∈ bT a, f ∈ l
 le : l.length ≤ 1024
def Mb (cs : List CV) : Prop := cs.length = 5 ∧ ∀ c ∈ cs, ∃ n, c = .nu .i64 n
def ic (k : CV) : Prop := ∃ cs, k = .agg cs ∧ Mb cs
theorem xe : ∀ (xs ys : List CV), xs.length = ys.length → (∀ c ∈ xs, ∃ n, c = CV.nu .i64 n) → (∀ c ∈ ys, ∃ n, c = CV.nu .i64 n) → ∃ b, cD xs ys = some b
 | [], [], _, _, _ => ⟨true, rfl⟩
 | [], _ :: _, h, _, _ => by simp at h
 | _ :: _, [], h, _, _ => by simp at h
 | x :: xs, y :: ys, h, hx, hy => by
  obtain ⟨n, rfl⟩ := hx x List.mem_cons_self
  obtain ⟨m, rfl⟩ := hy y List.mem_cons_self
  obtain ⟨b, hb⟩ := xe xs ys (by simpa using h) (fun c hc => hx c (List.mem_cons_of_mem _ hc)) (fun c hc => hy c (List.mem_cons_of_mem _ hc))
  cases hq : dT n m with
  | true => exact ⟨b, by simp only [cD, ja, mT, hq, hb]⟩
  | false => exact ⟨false, by simp only [cD, ja, mT, hq]⟩
theorem uh : ∀ (xs : List CV), (∀ c ∈ xs, ∃ n, c = CV.nu .i64 n) → cD xs xs = some true
 | [], _ => rfl
 | x :: xs, h => by
  obtain ⟨n, rfl⟩ := h x List.mem_cons_self
  have := uh xs (fun c hc => h c (List.mem_cons_of_mem _ hc))
  simp only [cD, ja, mT, wj, this]
theorem gf {k k' : CV} (h : ic k) (h' : ic k') : ∃ b, dP k k' = some b := by
 obtain ⟨cs, rfl, h1, h2⟩ := h
 obtain ⟨ds, rfl, h3, h4⟩ := h'
 exact xe cs ds (by omega) h2 h4
theorem ui {k : CV} (h : ic k) : dP k k = some true := by
 obtain ⟨cs, rfl, h1, h2⟩ := h
 exact uh cs h2
theorem tB {key v : CV} (hk : ic key) : ∀ (es : List (CV × CV)), (∀ e ∈ es, ic e.1) → ∃ es', fX key v es = some es' ∧ (∀ e ∈ es', ic e.1) ∧ bX key es' = some (some v) ∧ ∀ key' u, ic key' → bX key' es = some (some u) → bX key' es' = some (some u) ∨ bX key' es' = some (some v)
 | [], _ => ⟨[(key, v)], rfl, by intro e he; simp at he; rw [he]; exact hk, by simp only [bX, ui hk], by intro key' u _ h; cases h⟩
 | (k, u) :: es, h => by
  have hku := h (k, u) List.mem_cons_self
  have hes : ∀ e ∈ es, ic e.1 := fun e he => h e (List.mem_cons_of_mem _ he)
  obtain ⟨b, hb⟩ := gf hk hku
  cases b with
  | true =>
   refine ⟨(k, v) :: es, by simp only [fX, hb], ?_, by simp only [bX, hb], ?_⟩
   · intro e he
     rcases List.mem_cons.1 he with rfl | he
     · exact hku
     · exact hes e he
   · intro key' w hk' hl
     obtain ⟨b', hb'⟩ := gf hk' hku
     cases b' with
     | true => exact .inr (by simp only [bX, hb'])
     | false => exact .inl (by simp only [bX, hb'] at hl ⊢; exact hl)
  | false =>
   obtain ⟨es', e1, e2, e3, e4⟩ := tB (v := v) hk es hes
   refine ⟨(k, u) :: es', by simp only [fX, hb, e1], ?_, by simp only [bX, hb, e3], ?_⟩
   · intro e he
     rcases List.mem_cons.1 he with rfl | he
     · exact hku
     · exact e2 e he
   · intro key' w hk' hl
     obtain ⟨b', hb'⟩ := gf hk' hku
     cases b' with
     | true => exact .inl (by simp only [bX, hb'] at hl ⊢; exact hl)
     | false =>
      simp only [bX, hb'] at hl ⊢
      exact e4 key' w hk' hl
theorem xf {a : List Int} (h : a.length ≤ 5) : Mb (bp a) := by
 refine ⟨ll h, fun c hc => ?_⟩
 simp only [bp, ak, List.mem_append, List.mem_map, List.mem_replicate] at hc
 rcases hc with ⟨n, _, rfl⟩ | ⟨_, rfl⟩ <;> exact ⟨_, rfl⟩
theorem fy {a : List Int} (h : a.length ≤ 5) : ic (.agg (bp a)) := ⟨_, rfl, xf h⟩
def Np (es : List (CV × CV)) (a : List Int) : Prop := ∃ k o n c, bX (.agg (bp a)) es = some (some (.sl k o n c))
section
variable {K : Ctx} {h : Hp}
theorem kR (H : Std K) {a : List Int} (h : a.length ≤ 5) : kA K.P 103 (.agg (bp a)) = true := by
 have hall : (bp a).all (fun c => match c with
   | .nu k' _ => mT .i64 k'
   | _ => false) = true := by
  rw [List.all_eq_true]
  intro c hc
  obtain ⟨n, rfl⟩ := (xf h).2 c hc
  rfl
 simp only [kA, H.hP, L9, t3, ll h, Nat.beq_refl, Bool.true_and]
 exact hall
theorem Dn (H : Std K) (k o n c : Nat) : ab K.P .eql 46 (.sl k o n c) .nils = some (.bo false) := by
 have : ae K.P 46 = .slice 3 1 8 [.nu .i64 0] := by rw [H.hP]; exact t46
 simp only [ab, kZ, kz, this]
theorem AG (H : Std K) {h : Hp} {km : Nat} {es : List (CV × CV)} {a : List Int} (hle : a.length ≤ 5) (hg : h.get km = .mp es) {k o n c : Nat} (hl : bX (.agg (bp a)) es = some (some (.sl k o n c))) : ew K.P h false (.agg (bp a)) (.mp km) (ae K.P 100) = some (.sl k o n c) := by
 have h1 : ae K.P 100 = .map 103 46 := by rw [H.hP]; exact xd
 have h2 : dh K.P 46 = some .nils := by rw [H.hP]; exact Nc
 rw [h1]
 simp only [ew, kR H hle, vp, h2, qo, hg, hl, qn, yw]
theorem tC (a : List Int) : (bT a).length ≤ a.length := by
 unfold bT; split <;> simp
end
def nX (K : Ctx) (f : FuncId) (args : List CV) (h : Hp) (Q : CV → Hp → Prop) : Prop := ∃ r h', Comes K f args h r h' ∧ Same h.n h h' ∧ HpOk h' ∧ Q r h'
section
variable {K : Ctx} {h : Hp}
theorem AH (H : Std K) {a : List Int} {v : Int} (hbig : a.length < 4611686018427387904) {x : CV} (ha : Row h x (ak a)) : ∀ (m i : Nat) (s : Fr), i + m = a.length → s.at 0 = x → s.at 1 = .nu .i64 v → s.at 7 = .nu .i64 (.ofNat a.length) → s.at 8 = .nu .i64 (.ofNat i) → s.at ag = .undef →
  ∃ e s', gd K [1, 0, 1, 0] s h e s' h ∧ s'.at ag = .undef ∧ ((e = .exit 0 ∧ eo (a.drop i) v = false) ∨ (e = .ret ∧ (∃ j : Nat, s'.at 4 = .nu .i64 (.ofNat j)) ∧ eo (a.drop i) v = true)) := by
 intro m
 induction m with
 | zero =>
  intro i s him g0 g1 g7 g8 gs
  exact ⟨_, _, aE (u9 H.hk H.prim H.pl g8 g7 (aY (by omega))) (by simp), gs, .inl ⟨rfl, by rw [List.drop_of_length_le (by omega)]; rfl⟩⟩
 | succ m ih =>
  intro i s him g0 g1 g7 g8 gs
  have hi : i < a.length := by omega
  have hda : a.drop i = a[i] :: a.drop (i + 1) := List.drop_eq_getElem_cons hi
  obtain ⟨p, hp1, hp2⟩ := iY H ha hi
  have o16 := iW (P := K.P) (t := 3) v a[i]
  by_cases he : v = a[i]
  · rw [jq he] at o16
    exact ⟨_, _, aE (ta H.hk H.prim H.pl g8 g7 g1 g0 (aM hi) hp1 hp2 o16) (by simp), gs, .inr ⟨rfl, ⟨i, rfl⟩, by rw [hda, eo, List.any_cons, jq he.symm]; rfl⟩⟩
  · rw [jr he] at o16
    obtain ⟨s1, r1, k0, k1, k7, k8, ks⟩ : ∃ s1, gd K [1, 0, 1, 0, 0] s h .normal s1 h ∧ s1.at 0 = x ∧ s1.at 1 = .nu .i64 v ∧ s1.at 7 = .nu .i64 (.ofNat a.length) ∧ s1.at 8 = .nu .i64 (.ofNat (i + 1)) ∧ s1.at ag = .undef :=
     ⟨_, tb H.hk H.prim H.pl g8 g7 g1 g0 (aM hi) hp1 hp2 o16 (bI (by omega)), g0, g1, g7, rfl, gs⟩
    obtain ⟨e, s', r2, hs', hr⟩ := ih (i + 1) s1 (by omega) k0 k1 k7 k8 ks
    refine ⟨e, s', Runs.loop r1 r2, hs', ?_⟩
    rw [hda, show eo (a[i] :: a.drop (i + 1)) v = eo (a.drop (i + 1)) v by rw [eo, List.any_cons, jr (Ne.symm he)]; rfl]
    exact hr
theorem yj (H : Std K) {a : List Int} {v : Int} (hbig : a.length < 4611686018427387904) {x : CV} (ha : Row h x (ak a)) : ∃ n, Comes K 141 [x, .nu .i64 v] h (.nu .i64 n) h ∧ cI 0 n = eo a v := by
 have hf : K.P.funcs[141]? = some Tryz.f141 := by rw [H.hP]; exact Tryz.func141
 have hlen := dM H ha
 rw [ax] at hlen
 obtain ⟨s1, r1, k0, k1, k7, k8, ks⟩ : ∃ s1, gd K [1, 0, 0] (T.set (entry 0 [x, .nu .i64 v]) 4 (.nu .i64 0)) h .normal s1 h ∧ s1.at 0 = x ∧ s1.at 1 = .nu .i64 v ∧ s1.at 7 = .nu .i64 (.ofNat a.length) ∧ s1.at 8 = .nu .i64 (.ofNat 0) ∧ s1.at ag = .undef := ⟨_, HE H.hk rfl hlen, rfl, rfl, rfl, rfl, rfl⟩
 obtain ⟨e, s2, r2, hs2, hr⟩ := AH H (v := v) hbig ha a.length 0 s1 (by omega) k0 k1 k7 k8 ks
 rw [List.drop_zero] at hr
 rcases hr with ⟨rfl, h0⟩ | ⟨rfl, ⟨j, h4⟩, h0⟩
 · exact ⟨-1, H.go hf (Runs.seq (zj H.hk) (Runs.seq (Runs.seq r1 (aN r2)) (ES H.hk H.prim H.pl))) (.inr rfl) (Nat.le_refl _) hs2 rfl rfl, by rw [h0]; rfl⟩
 · exact ⟨.ofNat j, H.go hf (Runs.seq (zj H.hk) (aC (Runs.seq r1 (aF r2)) (by simp))) (.inr rfl) (Nat.le_refl _) hs2 (vs := [s2.at 4]) rfl h4, by rw [h0]; rfl⟩
theorem tD (H : Std K) {a : List Int} {v : Int} (hbig : a.length < 4611686018427387904) {x : CV} (ha : Row h x (ak a)) : Comes K 113 [x, .nu .i64 v] h (.bo (eo a v)) h := by
 have hf : K.P.funcs[113]? = some Tryz.f113 := by rw [H.hP]; exact Tryz.func113
 obtain ⟨n, c, hn⟩ := yj H (v := v) hbig ha
 have o8 := tu (P := K.P) (t := 3) n 0
 rw [hn] at o8
 exact H.go hf (KM H.hk H.prim H.pl (s := entry 0 [x, .nu .i64 v]) rfl rfl c o8) (.inr rfl) (Nat.le_refl _) rfl rfl rfl
theorem MU (H : Std K) {N : Nat} {x : CV} {c : List Int} (ok : HpOk h) (hN : N ≤ h.n) (r : Out N h 3 x (ak c)) (v : Int) (hn : c.length < 1099511627776) :
  ∃ F B x' h', aL 1 [(0, .nu .i64 v)] (ae K.P 46) = some (F, B) ∧ aQ (h.push B) x (F h.n) (ae K.P 46) (ae K.P 46) = some (x', h') ∧ Out N h' 3 x' (ak (c ++ [v])) ∧ Same N h h' ∧ HpOk h' := by
 obtain ⟨F, B, x', h', a1, a2, a3, a4, a5⟩ := qa (P := K.P) (t := 46) (v := .nu .i64 v) (by rw [H.hP]; exact t46) ok hN r rfl (by decide) (by rw [ax]; exact hn)
 exact ⟨F, B, x', h', a1, a2, by rw [← uf]; exact a3, a4, a5⟩
def rz : List Int → List Int → Bool
 | x :: a, y :: b => dT x y && rz a b
 | [], [] => true
 | _, _ => false
theorem tE : ∀ (a b : List Int), rz a b = true ↔ a = b
 | [], [] => by simp [rz]
 | [], _ :: _ => by simp [rz]
 | _ :: _, [] => by simp [rz]
 | x :: a, y :: b => by simp [rz, tE a b, eW]
theorem Row.isSl {x : CV} {cs : List CV} (r : Row h x cs) (hne : cs ≠ []) : ∃ k o n c, x = .sl k o n c := by
 cases r with
 | nils => exact absurd rfl hne
 | sle => exact absurd rfl hne
 | none k o c => exact absurd rfl hne
 | some => exact ⟨_, _, _, _, rfl⟩
theorem uj (H : Std K) (ok : HpOk h) {a : List Int} (hne : a ≠ []) (hbig : a.length < 1099511627776) {x : CV} (ha : Row h x (ak a)) : nX K 69 [x] h fun r h' => Out h.n h' 3 r (ak a) := by
 have hf : K.P.funcs[69]? = some Tryz.f69 := by rw [H.hP]; exact Tryz.func69
 obtain ⟨k, o, n, c, hsl⟩ := ha.isSl (fd hne)
 obtain ⟨F, B, x', h', a1, a2, a3, a4, a5⟩ := w7 (P := K.P) (t := 46) (t' := 46) (by rw [H.hP]; exact t46) ⟨_, _, _, by rw [H.hP]; exact t46⟩ ok ha (fd hne) (hZ a) (by decide) (by rw [ax]; exact hbig)
 have o4 : ab K.P .eql 46 x .nils = some (.bo false) := by rw [hsl]; exact Dn H k o n c
 exact ⟨x', h', H.go hf (HL H.hk H.prim H.pl (s := entry 0 [x]) rfl o4 a1 a2) (.inr rfl) a4.n rfl rfl rfl, a4, a5, a3⟩
end
section
variable {K : Ctx} {h : Hp}
theorem t5 : ae Tryz.prog 5 = .int .u8 := by kernel_rfl
theorem t9 : ae Tryz.prog 9 = .str := by kernel_rfl
theorem Ny : ae Tryz.prog 126 = .int .u64 := by kernel_rfl
theorem Nz : ae Tryz.prog 157 = .int .u64 := by kernel_rfl
end
theorem z22 : ar Tryz.prog 22 = some (1, false) := by kernel_rfl
structure Box (h : Hp) (p v : CV) : Prop where
 at' : ∃ k e, p = .ptr k 0 ∧ k < h.n ∧ h.get k = .cells [v] 0 e
theorem Box.load {h : Hp} {p v : CV} (b : Box h p v) {sz : Option (Nat × Bool)} (hsz : sz = some (1, false)) : ap h p sz = some v := by
 obtain ⟨k, e, rfl, hk, hg⟩ := b.at'
 subst hsz
 show eK 0 1 false (h.get k) = _
 rw [hg]; rfl
theorem I6 {h : Hp} {t : Nat} {v : CV} (hv : v.one = true) {sz : Option (Nat × Bool)} (hsz : sz = some (1, false)) : ∃ F B, fK t v sz = some (F, B) ∧ Box (h.push B) (F h.n) v := by
 subst hsz
 have hc := fv hv
 have hs : v.sol = true := by simp [CV.sol, hc, hv]
 refine ⟨fun k => .ptr k 0, .cells [v] 0 t, by simp only [fK, hs, hc, List.length_cons, List.length_nil]; rfl, ⟨⟨h.n, t, rfl, by simp, by rw [ah, if_pos rfl]⟩⟩⟩
section
variable {K : Ctx} {h : Hp}
theorem qd (H : Std K) : ar K.P 46 = some (1, false) := by rw [H.hP]; exact z46
theorem Mc (H : Std K) : ar K.P 22 = some (1, false) := by rw [H.hP]; exact z22
theorem Own.low {N M el : Nat} {h : Hp} {x : CV} {cs : List CV} {l : List (List Int)} (hNM : M ≤ N) (O : Own N h el x cs l) : Own M h el x cs l := ⟨qb hNM O.out, O.rows⟩
end
end Go.CP
