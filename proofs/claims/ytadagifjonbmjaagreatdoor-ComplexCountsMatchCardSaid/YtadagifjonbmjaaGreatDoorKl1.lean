import Derived.Test.YtadagifjonbmjaaGreatDoorKl0
import Derived.Test.YtadagifjonbmjaaGreatDoorKw1
set_option linter.all false
set_option maxRecDepth 100000
namespace Go.CP
open Go.Proofs
variable [LG] [HK]
theorem wQ {K : Ctx} {ops : Array Oper} {o : Oper} {l : List Stp} {i : Nat} {s s2 : Fr} {h h2 : Hp} {F : Nat → CV} {b : HB} (ho : ops[i]? = some o) (hw : cJ ops o s = some true) (hl : bO K.P o (ev s) = some (F, b)) (rest : RunP K ops l [⟨i, o, false, F h.n, some (h.n, b)⟩] (Fr.putO s o.dst (F h.n)) (h.push b) s2 h2) : RunP K ops (.take i :: l) [] s h s2 h2 := xI ho hw hl rfl rest
theorem Lr {K : Ctx} {s : Fr} {h : Hp} (hk : ∀ o, HK.keep o = false) {v0 v1 r8 r9 r12 r13 r14 : CV} {F5 : Nat → CV} {B5 : HB} {g1 g2 : Hp} (hp : K.plan 117 1 = some [.t 0,.t 1,.t 2,.t 3,.t 5,.t 6,.t 7,.t 8,.o 4 [8, 7, 6, 5],.o 9 [],.o 10 []]) (i0 : s.at 0 = v0) (i1 : s.at 1 = v1) (o5 : aM 0 [] (ae K.P 46) = some (F5, B5)) (o8 : bb none (some v1) (h.push B5) v0 (ae K.P 46) = some r8) (o12 : ab K.P .add 3 v1 (.nu .i64 1) = some r12) (o13 : bb (some r12) none (h.push B5) v0 (ae K.P 46) = some r13) (q13 : ceq r13 r13 = true) (wg1 : aT (h.push B5) (F5 h.n) r8 (ae K.P 46) (ae K.P 46) = some (r9, g1)) (z13 : bb (some r12) none g1 v0 (ae K.P 46) = some r13) (wg2 : aT g1 r9 r13 (ae K.P 46) (ae K.P 46) = some (r14, g2)) :
  Ma K [1, 0] s h .normal (T.set (T.set (T.set (T.set (T.set (T.set (T.set (T.set (T.set (T.set (T.set s 5 (F5 h.n)) 6 v0) 7 v1) 8 r8) 10 v0) 11 v1) 12 r12) 13 r13) 9 r9) 14 r14) 4 r14) g2 := by
 refine Runs.drawn hp ?_
 refine wQ (F := F5) (b := B5) rfl rfl (by simp [bO, o5]) ?_
 refine RunP.q (v := v0) rfl rfl (aG rfl i0) ?_
 refine RunP.q (v := v1) rfl rfl (aG rfl i1) ?_
 refine RunP.q (v := r8) rfl rfl (fV (lv := none) (hv := some v1) rfl rfl rfl rfl o8) ?_
 refine RunP.q (v := v0) rfl rfl (aG rfl i0) ?_
 refine RunP.q (v := v1) rfl rfl (aG rfl i1) ?_
 refine RunP.q (v := r12) rfl rfl (cK rfl rfl rfl o12) ?_
 refine RunP.q (v := r13) rfl rfl (fV (lv := some r12) (hv := none) rfl rfl rfl rfl o13) ?_
 refine RunP.only (v := r9) rfl rfl (ct hk rfl rfl rfl rfl rfl rfl wg1) (by simp (decide := true) only [a8, aX, qX, ev, Fr.putO, az, reduceIte, Nat.reduceEqDiff, List.filter_cons, List.filter_nil, List.any_cons, List.any_nil, List.all_cons, List.all_nil, List.getElem_toArray, List.getElem_cons_succ, List.getElem_cons_zero, Option.map_some, Option.map_none, aA, aI, Bool.and_true, Bool.true_and, Bool.and_self, i0, i1, z13, q13]) ?_
 refine RunP.only (v := r14) rfl rfl (ct hk rfl rfl rfl rfl rfl rfl wg2) rfl ?_
 refine RunP.only (v := r14) rfl rfl (Q1.e (fI rfl rfl)) rfl ?_
 exact RunP.nil
theorem Row.blk {h : Hp} {x : CV} {cs : List CV} (r : Row h x cs) (hne : cs ≠ []) (ok : HpOk h) : ∃ k o n c, x = .sl k o n c ∧ k < h.n := by
 cases r with
 | nils => exact absurd rfl hne
 | sle => exact absurd rfl hne
 | none => exact absurd rfl hne
 | @some k o c cs hne' hs _ _ =>
  refine ⟨k, o, _, c, rfl, ?_⟩
  rcases Nat.lt_or_ge k h.n with hk | hk
  · exact hk
  · exact absurd (ok k hk) (jC hs)
theorem zM {h h1 h2 : Hp} {x : CV} {cs : List CV} {lo hi : Option CV} {e by' : Nat} {z : List CV} (r : Row h x cs) (hne : cs ≠ []) (ok : HpOk h) (S1 : ∀ k, k < h.n → h1.get k = h.get k) (S2 : ∀ k, k < h.n → h2.get k = h.get k) : bb lo hi h1 x (.slice e 1 by' z) = bb lo hi h2 x (.slice e 1 by' z) := by
 obtain ⟨k, o, n, c, rfl, hk⟩ := r.blk hne ok
 have hg : h1.get k = h2.get k := by rw [S1 k hk, S2 k hk]
 have hq : ∀ a b, du h1 1 k o c a b = du h2 1 k o c a b := by
  intro a b
  cases a <;> cases b <;> simp only [du, hg]
 simp only [bb, hq]
theorem Same.get' {h h' : Hp} (S : Same h.n h h') : ∀ k, k < h.n → h'.get k = h.get k := S.get
theorem Bw {P : Program} {el b t : Nat} {h : Hp} {z0 : CV} (ht : ae P t = .slice el 1 b [z0]) : ∃ F B, aM 0 [] (ae P t) = some (F, B) ∧ New h.n (h.push B) el (F h.n) [] :=
 ⟨fun k => .sl k 0 0 0, .cells [] 0 el, by rw [ht]; rfl, .emp (Nat.le_refl _) (by simp) (by rw [aB, if_pos rfl])⟩
section
variable {K : Ctx} {h : Hp}
theorem I3 (H : Std K) {N : Nat} {h : Hp} {x y : CV} {a b : List Int} (ok : HpOk h) (hN : N ≤ h.n) (r : New N h 3 x (ak a)) (hy : Row h y (ak b)) (hb : a.length + b.length < 1099511627776) : ∃ x' h', aT h x y (ae K.P 46) (ae K.P 46) = some (x', h') ∧ New N h' 3 x' (ak (a ++ b)) ∧ Same N h h' ∧ HpOk h' := by
 obtain ⟨x', h', h1, h2, h3, h4⟩ := r.app (z := [.nu .i64 0]) (t' := ae K.P 46) (bytes := 8) ok hN hy (kl b) rfl ⟨_, _, _, by rw [H.hP]; exact t46⟩ (by simp only [ar]; omega) (by simp only [ar]; omega)
 refine ⟨x', h', by rw [← h1, H.hP, t46], ?_, h3, h4⟩
 have : ak (a ++ b) = ak a ++ ak b := by simp [ak]
 rw [this]; exact h2
theorem wR (H : Std K) (ok : HpOk h) {a : List Int} (h2 : 2 ≤ a.length) (hbig : a.length < 1099511627776) {i : Nat} (hi : i < a.length) {x : CV} (ha : Row h x (ak a)) :
  ∃ x' h', Comes K 117 [x, .nu .i64 (.ofNat i)] h x' h' ∧ Same h.n h h' ∧ HpOk h' ∧ Out h.n h' 3 x' (ak (a.eraseIdx i)) := by
 have hf : K.P.funcs[117]? = some Tryz.f117 := by rw [H.hP]; exact Tryz.func117
 have hne : a ≠ [] := by intro e; rw [e] at h2; simp at h2
 obtain ⟨F, B, b1, b2⟩ := Bw (P := K.P) (t := 46) (h := h) (by rw [H.hP]; exact t46)
 have S0 : Same h.n h (h.push B) := Same.push (Nat.le_refl _) _
 have ha0 := ha.mono S0 ok (Nat.le_refl _)
 obtain ⟨y, y1, y2⟩ := sy H hne ha0 (lo := none) (hi := some (.nu .i64 (.ofNat i))) (i := 0) (j := i) rfl rfl (Nat.zero_le _) (by omega)
 obtain ⟨z, z1, z2⟩ := sy H hne ha0 (lo := some (.nu .i64 (.ofNat (i + 1)))) (hi := none) (i := i + 1) (j := a.length) rfl rfl (by omega) (Nat.le_refl _)
 rw [List.drop_zero, Nat.sub_zero] at y2
 rw [List.take_of_length_le (by simp)] at z2
 obtain ⟨x1, h1, c1, c2, c3, c4⟩ := I3 H (a := []) (ok.push B) S0.n b2 y2 (by simp; omega)
 have ha1 := ha.mono (S0.trans c3) ok (Nat.le_refl _)
 rw [List.nil_append] at c2
 obtain ⟨z', z1', z2'⟩ := sy H hne ha1 (lo := some (.nu .i64 (.ofNat (i + 1)))) (hi := none) (i := i + 1) (j := a.length) rfl rfl (by omega) (Nat.le_refl _)
 have hz : bb (some (.nu .i64 (.ofNat (i + 1)))) none h1 x (ae K.P 46) = some z := by
  rw [← z1, H.hP, t46]
  exact zM ha (fp hne) ok (S0.trans c3).get' S0.get'
 rw [z1'] at hz; cases hz
 rw [List.take_of_length_le (by simp)] at z2'
 obtain ⟨x2, h2', d1, d2, d3, d4⟩ := I3 H c4 (S0.trans c3).n c2 z2' (by simp; omega)
 have he : a.eraseIdx i = a.take i ++ a.drop (i + 1) := List.eraseIdx_eq_take_drop_succ _ _
 have hl : (a.eraseIdx i).length = a.length - 1 := by rw [List.length_eraseIdx]; simp [hi]
 refine ⟨x2, h2', ?_, (S0.trans c3).trans d3, d4, ?_⟩
 · exact H.go hf (Runs.seq (J8 H.hk) (Runs.seq (Lr H.hk H.pl.p117_1 rfl rfl b1 y1 (bh (by omega)) z1 z2.ceq c1 z1' d1) Runs.ret)) (.inr rfl) ((S0.trans c3).trans d3).n rfl rfl rfl
 · rw [he]
   exact d2.got (fp (by rw [← he]; intro e; rw [e] at hl; simp at hl; omega))
end
theorem PP : ae Tryz.prog 103 = .arr 5 3 1 false [.nu .i64 0, .nu .i64 0, .nu .i64 0, .nu .i64 0, .nu .i64 0] := by kernel_rfl
theorem H3 : ao Tryz.prog 103 = some (5, true) := by kernel_rfl
theorem QN : ep Tryz.prog 103 = some (.agg [.nu .i64 0, .nu .i64 0, .nu .i64 0, .nu .i64 0, .nu .i64 0]) := by kernel_rfl
def be (a : List Int) : List (List Int) := if a.length = 1 then [] else (List.range a.length).map a.eraseIdx
def bP (a : List Int) : List CV := ak (a.map (· + 1)) ++ List.replicate (5 - a.length) (.nu .i64 0)
section
variable {K : Ctx} {h : Hp}
theorem zN (H : Std K) {h0 : Hp} (bC : HpOk h0) {a : List Int} (h2 : 2 ≤ a.length) (hbig : a.length < 1099511627776) {x : CV} (ha : Row h0 x (ak a)) : ∀ (m i : Nat) (s : Fr) (h : Hp) (o : CV) (cs : List CV), i + m = a.length → HpOk h → Same h0.n h0 h → Own h0.n h 46 o cs ((List.range i).map a.eraseIdx) → s.at 0 = x → s.at 2 = o → s.at 16 = .nu .i64 (.ofNat a.length) → s.at 17 = .nu .i64 (.ofNat i) → s.at ag = .undef →
  ∃ s' h' o' cs', gi K [1, 1, 0, 1, 0] s h (.exit 0) s' h' ∧ s'.at ag = .undef ∧ HpOk h' ∧ Same h0.n h0 h' ∧ s'.at 2 = o' ∧ Own h0.n h' 46 o' cs' ((List.range a.length).map a.eraseIdx) := by
 intro m
 induction m with
 | zero =>
  intro i s h o cs him ok S ho g0 g2 g16 g17 gs
  refine ⟨_, _, o, cs, aS (wu H.hk H.prim H.pl g17 g16 (aQ (by omega))) (by simp), gs, ok, S, g2, ?_⟩
  rw [show a.length = i by omega]; exact ho
 | succ m ih =>
  intro i s h o cs him ok S ho g0 g2 g16 g17 gs
  have hi : i < a.length := by omega
  obtain ⟨y, h1, c1, c2, c3, c4⟩ := wR H ok h2 hbig hi (ha.mono S bC (Nat.le_refl _))
  have hl := ho.rows.length
  rw [List.length_map, List.length_range] at hl
  obtain ⟨F, B, x', h3, b1, b2, b3, b4, b5⟩ := Own.app (P := K.P) (t := 22) (by rw [H.hP]; exact t22) c3 (S.trans (c2.le S.n)).n (ho.mono c2 ok) (Row.off ho.out (Nat.le_refl _) c4) (by decide) (by omega)
  obtain ⟨s1, r1, k0, k2, k16, k17, ks⟩ : ∃ s1, gi K [1, 1, 0, 1, 0, 0] s h .normal s1 h3 ∧ s1.at 0 = x ∧ s1.at 2 = x' ∧ s1.at 16 = .nu .i64 (.ofNat a.length) ∧ s1.at 17 = .nu .i64 (.ofNat (i + 1)) ∧ s1.at ag = .undef :=
   ⟨_, wt H.hk H.prim H.pl g17 g16 g2 g0 (aJ hi) c1 b1 b2 (bh (by omega)), g0, rfl, g16, rfl, gs⟩
  obtain ⟨s2, h4, o2, cs2, r2, e1, e2, e3, e4, e5⟩ := ih (i + 1) s1 h3 x' _ (by omega) b5 ((S.trans (c2.le S.n)).trans b4) (by rw [List.range_succ, List.map_append]; exact b3) k0 k2 k16 k17 ks
  exact ⟨s2, h4, o2, cs2, Runs.loop r1 r2, e1, e2, e3, e4, e5⟩
theorem yH (H : Std K) (ok : HpOk h) {a : List Int} (hok : OkS a) {x : CV} (ha : Row h x (ak a)) :
  ∃ x' cs' h', Comes K 73 [x] h (.tup [x', .nu .i64 0]) h' ∧ Same h.n h h' ∧ HpOk h' ∧ Own h.n h' 46 x' cs' (be a) := by
 have hf : K.P.funcs[73]? = some Tryz.f73 := by rw [H.hP]; exact Tryz.func73
 have hle := hok.le
 have hlen := fg H ha
 rw [ar] at hlen
 have o12 := gS (P := K.P) (t := 3) (Int.ofNat a.length) 1
 by_cases h1 : a.length = 1
 · rw [jH (by simp [h1])] at o12
   refine ⟨.nils, [], h, ?_, Same.refl _ _, ok, by rw [be, if_pos h1]; exact Own.nil⟩
   exact H.go hf (Runs.seq (xW H.hk) (ay (Cp H.hk H.prim H.pl rfl (qf H hok ha) rfl hlen o12 rfl) (by simp))) (.inr rfl) (Nat.le_refl _) rfl rfl rfl
 · rw [jI (by simp; omega)] at o12
   have h2 : 2 ≤ a.length := by
    have : a.length ≠ 0 := fun e => hok.ne (List.eq_nil_of_length_eq_zero e)
    omega
   obtain ⟨s1, r1, k0, k2, ks⟩ : ∃ s1, gi K [1, 0] (T.set (T.set (entry 0 [x]) 2 .nils) 3 (.nu .i64 0)) h .normal s1 h ∧ s1.at 0 = x ∧ s1.at 2 = .nils ∧ s1.at ag = .undef := ⟨_, Cq H.hk H.prim H.pl rfl (qf H hok ha) rfl hlen o12 rfl, rfl, rfl, rfl⟩
   obtain ⟨s2, r2, l0, l2, l16, l17, ls⟩ : ∃ s2, gi K [1, 1, 0, 0] s1 h .normal s2 h ∧ s2.at 0 = x ∧ s2.at 2 = .nils ∧ s2.at 16 = .nu .i64 (.ofNat a.length) ∧ s2.at 17 = .nu .i64 (.ofNat 0) ∧ s2.at ag = .undef := ⟨_, M6 H.hk k0 hlen, k0, k2, rfl, rfl, ks⟩
   obtain ⟨s3, h3, o3, cs3, r3, e1, e2, e3, e4, e5⟩ := zN H ok h2 (by omega) ha a.length 0 s2 h .nils [] (by omega) ok (Same.refl _ _) Own.nil l0 l2 l16 l17 ls
   refine ⟨o3, cs3, h3, ?_, e3, e2, by rw [be, if_neg h1]; exact e5⟩
   exact H.go hf (Runs.seq (xW H.hk) (Runs.seq r1 (Runs.seq (Runs.seq r2 (aV r3)) (Ht H.hk H.prim H.pl e4)))) (.inr rfl) e3.n e1 rfl rfl
theorem Lt (H : Std K) {h0 : Hp} (bC : HpOk h0) {a : List Int} (hle : a.length ≤ 5) (hr : ∀ v ∈ a, 0 ≤ v ∧ v < 64) {x : CV} (ha : Row h0 x (ak a)) {k : Nat} (hk : h0.n ≤ k) : ∀ (m i : Nat) (s : Fr) (h : Hp), i + m = a.length → HpOk h → Same h0.n h0 h → k < h.n → h.get k = .cells (ak ((a.take i).map (· + 1)) ++ List.replicate (5 - i) (.nu .i64 0)) 0 103 → s.at 2 = .ptr k 0 → s.at 5 = x → s.at 6 = .nu .i64 (.ofNat a.length) → s.at 7 = .nu .i64 (.ofNat i) → s.at ag = .undef →
  ∃ s' h', mh K [1, 0, 1, 0] s h (.exit 0) s' h' ∧ s'.at ag = .undef ∧ HpOk h' ∧ Same h0.n h0 h' ∧ k < h'.n ∧ s'.at 2 = .ptr k 0 ∧ h'.get k = .cells (bP a) 0 103 := by
 intro m
 induction m with
 | zero =>
  intro i s h him ok S hkn hg g2 g5 g6 g7 gs
  refine ⟨_, _, aS (yj H.hk H.prim H.pl g7 g6 (aQ (by omega))) (by simp), gs, ok, S, hkn, g2, ?_⟩
  rw [hg, bP, show i = a.length by omega, List.take_length]
 | succ m ih =>
  intro i s h him ok S hkn hg g2 g5 g6 g7 gs
  have hi : i < a.length := by omega
  obtain ⟨p, hp1, hp2⟩ := jh H (ha.mono S bC (Nat.le_refl _)) hi
  have hv := hr _ (List.getElem_mem hi)
  have o14 := oM (P := K.P) (t := 3) (x := a[i]) (y := 1) (by omega) (by omega)
  have hlen : (ak ((a.take i).map (· + 1))).length = i := by rw [ar, List.length_map, List.length_take]; omega
  have o15 : af (.ptr k 0) (.nu .i64 (.ofNat i)) (ae K.P 103) = some (.ptr k (0 + i * 1)) := by
   rw [H.hP, PP]
   have hb : Nat.blt i 5 = true := by simp; omega
   simp only [af, nU, hb]
  have hset : setAt (ak ((a.take i).map (· + 1)) ++ List.replicate (5 - i) (.nu .i64 0)) i [.nu .i64 (a[i] + 1)] = ak ((a.take (i + 1)).map (· + 1)) ++ List.replicate (5 - (i + 1)) (.nu .i64 0) := by
   rw [iN, List.set_append_right _ _ (by omega), hlen, Nat.sub_self, show 5 - i = (5 - (i + 1)) + 1 by omega, List.replicate_succ, List.set_cons_zero, List.take_add_one, List.getElem?_eq_getElem hi]
   simp only [Option.toList, List.map_append, List.map_cons, List.map_nil, ak, List.append_assoc, List.cons_append, List.nil_append]
  have w1 : bg h (.ptr k (0 + i * 1)) (.nu .i64 (a[i] + 1)) (ao K.P 3) = some (.undef, h.set k (.cells (ak ((a.take (i + 1)).map (· + 1)) ++ List.replicate (5 - (i + 1)) (.nu .i64 0)) 0 103)) := by
   rw [H.hP, z3]
   show de h k (0 + i * 1) 1 _ (h.get k) = _
   have hlt : Nat.ble (i + 1) (ak ((a.take i).map (· + 1)) ++ List.replicate (5 - i) (CV.nu .i64 0)).length = true := Nat.ble_eq_true_of_le (by rw [List.length_append, hlen, List.length_replicate]; omega)
   rw [hg]
   simp only [de, CV.sol, CV.cells, List.all_cons, CV.one, List.all_nil, Bool.and_self, List.length_singleton, Nat.beq_refl, Nat.mul_one, Nat.zero_add, hlt, hset]
  obtain ⟨s1, r1, k2, k5, k6, k7, ks⟩ : ∃ s1, mh K [1, 0, 1, 0, 0] s h .normal s1 _ ∧ s1.at 2 = .ptr k 0 ∧ s1.at 5 = x ∧ s1.at 6 = .nu .i64 (.ofNat a.length) ∧ s1.at 7 = .nu .i64 (.ofNat (i + 1)) ∧ s1.at ag = .undef :=
   ⟨_, yi H.hk H.prim H.pl g7 g6 g5 g2 (aJ hi) hp1 hp2 o14 o15 w1 (bh (by omega)), g2, g5, g6, rfl, gs⟩
  obtain ⟨s2, h2, r2, rest⟩ := ih (i + 1) s1 _ (by omega) (ok.set hkn _) (S.trans (Same.set hk _)) hkn (by rw [Hp.get_set, if_pos rfl]) k2 k5 k6 k7 ks
  exact ⟨s2, h2, Runs.loop r1 r2, rest⟩
theorem lL {a : List Int} (hle : a.length ≤ 5) : (bP a).length = 5 := by simp [bP, ak]; omega
theorem yI (H : Std K) (ok : HpOk h) {a : List Int} (hle : a.length ≤ 5) (hr : ∀ v ∈ a, 0 ≤ v ∧ v < 64) {x : CV} (ha : Row h x (ak a)) :
  ∃ h', Comes K 71 [x] h (.agg (bP a)) h' ∧ Same h.n h h' ∧ HpOk h' := by
 have hf : K.P.funcs[71]? = some Tryz.f71 := by rw [H.hP]; exact Tryz.func71
 have o2 : gI 103 (ep K.P 103) = some (fun k => .ptr k 0, .cells [.nu .i64 0, .nu .i64 0, .nu .i64 0, .nu .i64 0, .nu .i64 0] 0 103) := by rw [H.hP, QN]; rfl
 have S0 : Same h.n h (h.push (.cells [.nu .i64 0, .nu .i64 0, .nu .i64 0, .nu .i64 0, .nu .i64 0] 0 103)) := Same.push (Nat.le_refl _) _
 have hlen := fg H (ha.mono S0 ok (Nat.le_refl _))
 rw [ar] at hlen
 obtain ⟨s1, r1, k2, k5, k6, k7, ks⟩ : ∃ s1, mh K [1, 0, 0] (T.set (entry 0 [x]) 2 (.ptr h.n 0)) (h.push (.cells [.nu .i64 0, .nu .i64 0, .nu .i64 0, .nu .i64 0, .nu .i64 0] 0 103)) .normal s1 (h.push (.cells [.nu .i64 0, .nu .i64 0, .nu .i64 0, .nu .i64 0, .nu .i64 0] 0 103)) ∧ s1.at 2 = .ptr h.n 0 ∧ s1.at 5 = x ∧ s1.at 6 = .nu .i64 (.ofNat a.length) ∧ s1.at 7 = .nu .i64 (.ofNat 0) ∧ s1.at ag = .undef := ⟨_, MV H.hk rfl hlen, rfl, rfl, rfl, rfl, rfl⟩
 obtain ⟨s2, h2, r2, e1, e2, e3, e4, e5, e6⟩ := Lt H ok hle hr ha (Nat.le_refl h.n) a.length 0 s1 _ (by omega) (ok.push _) S0 (by simp) (by rw [aB, if_pos rfl]; rfl) k2 k5 k6 k7 ks
 have hpl := lL hle
 have hsub : sub (bP a) 0 5 = bP a := by simp only [sub, List.drop_zero]; exact List.take_of_length_le (by omega)
 have hv : dj 0 5 true (h2.get h.n) = some (.agg (bP a)) := by
  rw [e6]
  simp only [dj, val, Nat.zero_add, hpl, Nat.ble_eq_true_of_le (Nat.le_refl _), hsub]
 have o17 : ah h2 (.ptr h.n 0) (ao K.P 103) = some (.agg (bP a)) := by rw [H.hP, H3]; exact hv
 have hone : (bP a).all CV.one = true := by
  simp only [bP, List.all_append, Bool.and_eq_true]
  exact ⟨kl _, by simp [List.all_eq_true, CV.one]⟩
 have hcells : CV.cells (.agg (bP a)) = bP a := rfl
 have w1 : bg h2 (.ptr h.n 0) (.agg (bP a)) (ao K.P 103) = some (.undef, h2.set h.n (.cells (setAt (bP a) 0 (bP a)) 0 103)) := by
  rw [H.hP, H3]
  show de h2 h.n 0 5 _ (h2.get h.n) = _
  rw [e6]
  simp only [de, CV.sol, hcells, hone, hpl, Nat.beq_refl, Nat.zero_add, Nat.ble_eq_true_of_le (Nat.le_refl _), Bool.and_self]
 have S2 : Same h.n h (h2.set h.n (.cells (setAt (bP a) 0 (bP a)) 0 103)) := e3.trans (Same.set (Nat.le_refl _) _)
 refine ⟨_, ?_, S2, e2.set e4 _⟩
 refine H.go hf (Runs.seq (MU H.hk o2) (Runs.seq (Runs.seq r1 (aV r2)) (Ko H.hk H.prim H.pl e5 o17 w1))) (.inr rfl) S2.n e1 (vs := [.agg (bP a)]) ?_ rfl
 have hv2 : dj 0 5 true ((h2.set h.n (.cells (setAt (bP a) 0 (bP a)) 0 103)).get h.n) = some (.agg (bP a)) := by
  rw [Hp.get_set, if_pos rfl, mU _ _ rfl]
  simp only [dj, val, Nat.zero_add, hpl, Nat.ble_eq_true_of_le (Nat.le_refl _), hsub]
 have hres : Tryz.f71.results.toList = [.cell 2 103] := rfl
 have ha2 : Fr.at (T.set s2 17 (.agg (bP a))) 2 = .ptr h.n 0 := e5
 rw [hres]
 simp only [gK, ha2, H.hP, H3, hv2]
end
theorem H4 : ae Tryz.prog 100 = .map 103 46 := by kernel_rfl
theorem t3 : ae Tryz.prog 3 = .int .i64 := by kernel_rfl
theorem QH : ep Tryz.prog 46 = some .nils := by kernel_rfl
structure OkC (l : List (List Int)) : Prop where
 simp : ∀ a ∈ l, OkS a
 asc : ∀ i (h : i + 1 < l.length), aW l[i + 1] l[i] = 1
 face : ∀ a ∈ l, ∀ f ∈ be a, f ∈ l
 le : l.length ≤ 1024
def PQ (cs : List CV) : Prop := cs.length = 5 ∧ ∀ c ∈ cs, ∃ n, c = .nu .i64 n
def iu (k : CV) : Prop := ∃ cs, k = .agg cs ∧ PQ cs
theorem yJ : ∀ (xs ys : List CV), xs.length = ys.length → (∀ c ∈ xs, ∃ n, c = CV.nu .i64 n) → (∀ c ∈ ys, ∃ n, c = CV.nu .i64 n) → ∃ b, cW xs ys = some b
 | [], [], _, _, _ => ⟨true, rfl⟩
 | [], _ :: _, h, _, _ => by simp at h
 | _ :: _, [], h, _, _ => by simp at h
 | x :: xs, y :: ys, h, hx, hy => by
  obtain ⟨n, rfl⟩ := hx x List.mem_cons_self
  obtain ⟨m, rfl⟩ := hy y List.mem_cons_self
  obtain ⟨b, hb⟩ := yJ xs ys (by simpa using h) (fun c hc => hx c (List.mem_cons_of_mem _ hc)) (fun c hc => hy c (List.mem_cons_of_mem _ hc))
  cases hq : dJ n m with
  | true => exact ⟨b, by simp only [cW, jl, nA, hq, hb]⟩
  | false => exact ⟨false, by simp only [cW, jl, nA, hq]⟩
theorem vB : ∀ (xs : List CV), (∀ c ∈ xs, ∃ n, c = CV.nu .i64 n) → cW xs xs = some true
 | [], _ => rfl
 | x :: xs, h => by
  obtain ⟨n, rfl⟩ := h x List.mem_cons_self
  have := vB xs (fun c hc => h c (List.mem_cons_of_mem _ hc))
  simp only [cW, jl, nA, xG, this]
theorem iw {k k' : CV} (h : iu k) (h' : iu k') : ∃ b, eJ k k' = some b := by
 obtain ⟨cs, rfl, h1, h2⟩ := h
 obtain ⟨ds, rfl, h3, h4⟩ := h'
 exact yJ cs ds (by omega) h2 h4
theorem FO {k : CV} (h : iu k) : eJ k k = some true := by
 obtain ⟨cs, rfl, h1, h2⟩ := h
 exact vB cs h2
theorem uV {key v : CV} (hk : iu key) : ∀ (es : List (CV × CV)), (∀ e ∈ es, iu e.1) → ∃ es', iT key v es = some es' ∧ (∀ e ∈ es', iu e.1) ∧ cB key es' = some (some v) ∧ ∀ key' u, iu key' → cB key' es = some (some u) → cB key' es' = some (some u) ∨ cB key' es' = some (some v)
 | [], _ => ⟨[(key, v)], rfl, by intro e he; simp at he; rw [he]; exact hk, by simp only [cB, FO hk], by intro key' u _ h; cases h⟩
 | (k, u) :: es, h => by
  have hku := h (k, u) List.mem_cons_self
  have hes : ∀ e ∈ es, iu e.1 := fun e he => h e (List.mem_cons_of_mem _ he)
  obtain ⟨b, hb⟩ := iw hk hku
  cases b with
  | true =>
   refine ⟨(k, v) :: es, by simp only [iT, hb], ?_, by simp only [cB, hb], ?_⟩
   · intro e he
     rcases List.mem_cons.1 he with rfl | he
     · exact hku
     · exact hes e he
   · intro key' w hk' hl
     obtain ⟨b', hb'⟩ := iw hk' hku
     cases b' with
     | true => exact .inr (by simp only [cB, hb'])
     | false => exact .inl (by simp only [cB, hb'] at hl ⊢; exact hl)
  | false =>
   obtain ⟨es', e1, e2, e3, e4⟩ := uV (v := v) hk es hes
   refine ⟨(k, u) :: es', by simp only [iT, hb, e1], ?_, by simp only [cB, hb, e3], ?_⟩
   · intro e he
     rcases List.mem_cons.1 he with rfl | he
     · exact hku
     · exact e2 e he
   · intro key' w hk' hl
     obtain ⟨b', hb'⟩ := iw hk' hku
     cases b' with
     | true => exact .inl (by simp only [cB, hb'] at hl ⊢; exact hl)
     | false =>
      simp only [cB, hb'] at hl ⊢
      exact e4 key' w hk' hl
theorem yK {a : List Int} (h : a.length ≤ 5) : PQ (bP a) := by
 refine ⟨lL h, fun c hc => ?_⟩
 simp only [bP, ak, List.mem_append, List.mem_map, List.mem_replicate] at hc
 rcases hc with ⟨n, _, rfl⟩ | ⟨_, rfl⟩ <;> exact ⟨_, rfl⟩
theorem kz {a : List Int} (h : a.length ≤ 5) : iu (.agg (bP a)) := ⟨_, rfl, yK h⟩
def QO (es : List (CV × CV)) (a : List Int) : Prop := ∃ k o n c, cB (.agg (bP a)) es = some (some (.sl k o n c))
section
variable {K : Ctx} {h : Hp}
theorem oR (H : Std K) {a : List Int} (h : a.length ≤ 5) : kQ K.P 103 (.agg (bP a)) = true := by
 have hall : (bP a).all (fun c => match c with
   | .nu k' _ => nA .i64 k'
   | _ => false) = true := by
  rw [List.all_eq_true]
  intro c hc
  obtain ⟨n, rfl⟩ := (yK h).2 c hc
  rfl
 simp only [kQ, H.hP, PP, t3, lL h, Nat.beq_refl, Bool.true_and]
 exact hall
theorem FP (H : Std K) (k o n c : Nat) : ab K.P .eql 46 (.sl k o n c) .nils = some (.bo false) := by
 have : ae K.P 46 = .slice 3 1 8 [.nu .i64 0] := by rw [H.hP]; exact t46
 simp only [ab, nT, nB, this]
theorem CJ (H : Std K) {h : Hp} {km : Nat} {es : List (CV × CV)} {a : List Int} (hle : a.length ≤ 5) (hg : h.get km = .mp es) {k o n c : Nat} (hl : cB (.agg (bP a)) es = some (some (.sl k o n c))) : eR K.P h false (.agg (bP a)) (.mp km) (ae K.P 100) = some (.sl k o n c) := by
 have h1 : ae K.P 100 = .map 103 46 := by rw [H.hP]; exact H4
 have h2 : ep K.P 46 = some .nils := by rw [H.hP]; exact QH
 rw [h1]
 simp only [eR, oR H hle, wU, h2, qT, hg, hl, qS, Aa]
theorem mE (a : List Int) : (be a).length ≤ a.length := by
 unfold be; split <;> simp
end
def ga (K : Ctx) (f : FuncId) (args : List CV) (h : Hp) (Q : CV → Hp → Prop) : Prop := ∃ r h', Comes K f args h r h' ∧ Same h.n h h' ∧ HpOk h' ∧ Q r h'
section
variable {K : Ctx} {h : Hp}
theorem CK (H : Std K) {a : List Int} {v : Int} (hbig : a.length < 4611686018427387904) {x : CV} (ha : Row h x (ak a)) : ∀ (m i : Nat) (s : Fr), i + m = a.length → s.at 0 = x → s.at 1 = .nu .i64 v → s.at 7 = .nu .i64 (.ofNat a.length) → s.at 8 = .nu .i64 (.ofNat i) → s.at ag = .undef →
  ∃ e s', gy K [1, 0, 1, 0] s h e s' h ∧ s'.at ag = .undef ∧ ((e = .exit 0 ∧ dy (a.drop i) v = false) ∨ (e = .ret ∧ (∃ j : Nat, s'.at 4 = .nu .i64 (.ofNat j)) ∧ dy (a.drop i) v = true)) := by
 intro m
 induction m with
 | zero =>
  intro i s him g0 g1 g7 g8 gs
  exact ⟨_, _, aS (wy H.hk H.prim H.pl g8 g7 (aQ (by omega))) (by simp), gs, .inl ⟨rfl, by rw [List.drop_of_length_le (by omega)]; rfl⟩⟩
 | succ m ih =>
  intro i s him g0 g1 g7 g8 gs
  have hi : i < a.length := by omega
  have hda : a.drop i = a[i] :: a.drop (i + 1) := List.drop_eq_getElem_cons hi
  obtain ⟨p, hp1, hp2⟩ := jh H ha hi
  have o16 := gS (P := K.P) (t := 3) v a[i]
  by_cases he : v = a[i]
  · rw [jH he] at o16
    exact ⟨_, _, aS (uf H.hk H.prim H.pl g8 g7 g1 g0 (aJ hi) hp1 hp2 o16) (by simp), gs, .inr ⟨rfl, ⟨i, rfl⟩, by rw [hda, dy, List.any_cons, jH he.symm]; rfl⟩⟩
  · rw [jI he] at o16
    obtain ⟨s1, r1, k0, k1, k7, k8, ks⟩ : ∃ s1, gy K [1, 0, 1, 0, 0] s h .normal s1 h ∧ s1.at 0 = x ∧ s1.at 1 = .nu .i64 v ∧ s1.at 7 = .nu .i64 (.ofNat a.length) ∧ s1.at 8 = .nu .i64 (.ofNat (i + 1)) ∧ s1.at ag = .undef :=
     ⟨_, ug H.hk H.prim H.pl g8 g7 g1 g0 (aJ hi) hp1 hp2 o16 (bh (by omega)), g0, g1, g7, rfl, gs⟩
    obtain ⟨e, s', r2, hs', hr⟩ := ih (i + 1) s1 (by omega) k0 k1 k7 k8 ks
    refine ⟨e, s', Runs.loop r1 r2, hs', ?_⟩
    rw [hda, show dy (a[i] :: a.drop (i + 1)) v = dy (a.drop (i + 1)) v by rw [dy, List.any_cons, jI (Ne.symm he)]; rfl]
    exact hr
theorem zO (H : Std K) {a : List Int} {v : Int} (hbig : a.length < 4611686018427387904) {x : CV} (ha : Row h x (ak a)) : ∃ n, Comes K 141 [x, .nu .i64 v] h (.nu .i64 n) h ∧ ck 0 n = dy a v := by
 have hf : K.P.funcs[141]? = some Tryz.f141 := by rw [H.hP]; exact Tryz.func141
 have hlen := fg H ha
 rw [ar] at hlen
 obtain ⟨s1, r1, k0, k1, k7, k8, ks⟩ : ∃ s1, gy K [1, 0, 0] (T.set (entry 0 [x, .nu .i64 v]) 4 (.nu .i64 0)) h .normal s1 h ∧ s1.at 0 = x ∧ s1.at 1 = .nu .i64 v ∧ s1.at 7 = .nu .i64 (.ofNat a.length) ∧ s1.at 8 = .nu .i64 (.ofNat 0) ∧ s1.at ag = .undef := ⟨_, Kg H.hk rfl hlen, rfl, rfl, rfl, rfl, rfl⟩
 obtain ⟨e, s2, r2, hs2, hr⟩ := CK H (v := v) hbig ha a.length 0 s1 (by omega) k0 k1 k7 k8 ks
 rw [List.drop_zero] at hr
 rcases hr with ⟨rfl, h0⟩ | ⟨rfl, ⟨j, h4⟩, h0⟩
 · exact ⟨-1, H.go hf (Runs.seq (AT H.hk) (Runs.seq (Runs.seq r1 (aV r2)) (Hy H.hk H.prim H.pl))) (.inr rfl) (Nat.le_refl _) hs2 rfl rfl, by rw [h0]; rfl⟩
 · exact ⟨.ofNat j, H.go hf (Runs.seq (AT H.hk) (ay (Runs.seq r1 (aK r2)) (by simp))) (.inr rfl) (Nat.le_refl _) hs2 (vs := [s2.at 4]) rfl h4, by rw [h0]; rfl⟩
theorem uW (H : Std K) {a : List Int} {v : Int} (hbig : a.length < 4611686018427387904) {x : CV} (ha : Row h x (ak a)) : Comes K 113 [x, .nu .i64 v] h (.bo (dy a v)) h := by
 have hf : K.P.funcs[113]? = some Tryz.f113 := by rw [H.hP]; exact Tryz.func113
 obtain ⟨n, c, hn⟩ := zO H (v := v) hbig ha
 have o8 := kw (P := K.P) (t := 3) n 0
 rw [hn] at o8
 exact H.go hf (Ns H.hk H.prim H.pl (s := entry 0 [x, .nu .i64 v]) rfl rfl c o8) (.inr rfl) (Nat.le_refl _) rfl rfl rfl
def vC : List Int → List Int → Bool
 | x :: a, y :: b => dJ x y && vC a b
 | [], [] => true
 | _, _ => false
theorem Bx : ∀ (a b : List Int), vC a b = true ↔ a = b
 | [], [] => by simp [vC]
 | [], _ :: _ => by simp [vC]
 | _ :: _, [] => by simp [vC]
 | x :: a, y :: b => by simp [vC, Bx a b, fm]
def Asks (K : Ctx) (h0 : Hp) (G : FuncId) (C : List CV) (l : List (List Int)) (p : List Int → Bool) : Prop := ∀ (y : CV) (a : List Int) (g : Hp), a ∈ l → HpOk g → Same h0.n h0 g → Row g y (ak a) → ga K G ([y] ++ C) g fun r _ => r = .bo (p a)
theorem Row.isSl {x : CV} {cs : List CV} (r : Row h x cs) (hne : cs ≠ []) : ∃ k o n c, x = .sl k o n c := by
 cases r with
 | nils => exact absurd rfl hne
 | sle => exact absurd rfl hne
 | none k o c => exact absurd rfl hne
 | some => exact ⟨_, _, _, _, rfl⟩
theorem oS (H : Std K) (ok : HpOk h) {a : List Int} (hne : a ≠ []) (hbig : a.length < 1099511627776) {x : CV} (ha : Row h x (ak a)) : ga K 69 [x] h fun r h' => Out h.n h' 3 r (ak a) := by
 have hf : K.P.funcs[69]? = some Tryz.f69 := by rw [H.hP]; exact Tryz.func69
 obtain ⟨k, o, n, c, hsl⟩ := ha.isSl (fp hne)
 obtain ⟨F, B, x', h', a1, a2, a3, a4, a5⟩ := yE (P := K.P) (t := 46) (t' := 46) (by rw [H.hP]; exact t46) ⟨_, _, _, by rw [H.hP]; exact t46⟩ ok ha (fp hne) (kl a) (by decide) (by rw [ar]; exact hbig)
 have o4 : ab K.P .eql 46 x .nils = some (.bo false) := by rw [hsl]; exact FP H k o n c
 exact ⟨x', h', H.go hf (Kn H.hk H.prim H.pl (s := entry 0 [x]) rfl o4 a1 a2) (.inr rfl) a4.n rfl rfl rfl, a4, a5, a3⟩
end
section
variable {K : Ctx} {h : Hp}
theorem t5 : ae Tryz.prog 5 = .int .u8 := by kernel_rfl
theorem t9 : ae Tryz.prog 9 = .str := by kernel_rfl
theorem QZ : ae Tryz.prog 126 = .int .u64 := by kernel_rfl
theorem Q0 : ae Tryz.prog 157 = .int .u64 := by kernel_rfl
end
theorem z22 : ao Tryz.prog 22 = some (1, false) := by kernel_rfl
theorem FQ {v w z0 : CV} {el b : Nat} (hv : v.one = true) (hw : w.one = true) : aM 2 [(0, v), (1, w)] (.slice el 1 b [z0]) = some (fun k => .sl k 0 2 2, .cells [v, w] 0 el) := by
 have hc := eW hv
 have hd := eW hw
 have hs : v.sol = true := by simp [CV.sol, hc, hv]
 have ht : w.sol = true := by simp [CV.sol, hd, hw]
 simp only [aM, List.all_cons, hs, ht, List.all_nil, kP, dK, hc, hd, List.length_cons, List.length_nil]
 rfl
theorem Lu {h : Hp} {v w : CV} {el : Nat} : Row (h.push (.cells [v, w] 0 el)) (.sl h.n 0 2 2) [v, w] := by
 refine Row.some (k := h.n) (o := 0) (c := 2) (cs := [v, w]) (by simp) ?_ (Nat.le_refl _) ?_
 · rw [aB, if_pos rfl]; rfl
 · rw [aB, if_pos rfl]; rfl
structure Box (h : Hp) (p v : CV) : Prop where
 at' : ∃ k e, p = .ptr k 0 ∧ k < h.n ∧ h.get k = .cells [v] 0 e
theorem Box.load {h : Hp} {p v : CV} (b : Box h p v) {sz : Option (Nat × Bool)} (hsz : sz = some (1, false)) : ah h p sz = some v := by
 obtain ⟨k, e, rfl, hk, hg⟩ := b.at'
 subst hsz
 show dj 0 1 false (h.get k) = _
 rw [hg]; rfl
theorem By {h : Hp} {t : Nat} {v : CV} (hv : v.one = true) {sz : Option (Nat × Bool)} (hsz : sz = some (1, false)) : ∃ F B, lB t v sz = some (F, B) ∧ Box (h.push B) (F h.n) v := by
 subst hsz
 have hc := eW hv
 have hs : v.sol = true := by simp [CV.sol, hc, hv]
 refine ⟨fun k => .ptr k 0, .cells [v] 0 t, by simp only [lB, hs, hc, List.length_cons, List.length_nil]; rfl, ⟨⟨h.n, t, rfl, by simp, by rw [aB, if_pos rfl]⟩⟩⟩
section
variable {K : Ctx} {h : Hp}
theorem Asks.mono {h0 h1 : Hp} (S : Same h0.n h0 h1) {G : FuncId} {C : List CV} {l : List (List Int)} {p : List Int → Bool} (A : Asks K h0 G C l p) : Asks K h1 G C l p := fun y a g ha ok Sg r => A y a g ha ok (S.trans (Sg.le S.n)) r
theorem PR (H : Std K) : ao K.P 46 = some (1, false) := by rw [H.hP]; exact z46
theorem QP (H : Std K) : ao K.P 22 = some (1, false) := by rw [H.hP]; exact z22
theorem zP (H : Std K) {h0 : Hp} (bC : HpOk h0) {l : List (List Int)} (hl : l.length < 549755813888) (hok : ∀ a ∈ l, a ≠ [] ∧ a.length < 1099511627776) {G : FuncId} {C : List CV} {p : List Int → Bool} (hg : Asks K h0 G C l p) {x : CV} {cs : List CV} (hx : Row h0 x cs) (hxs : Rows h0 cs l) : ∀ (m i : Nat) (s : Fr) (h : Hp) (o : CV) (ds : List CV), i + m = l.length → HpOk h → Same h0.n h0 h → Own h0.n h 46 o ds ((l.take i).filter p) → s.at 1 = .fn G C → s.at 4 = o → s.at 13 = x → s.at 14 = .nu .i64 (.ofNat l.length) → s.at 15 = .nu .i64 (.ofNat i) → s.at ag = .undef →
  ∃ s' h' o' ds', fZ K [1, 1, 0, 1, 0] s h (.exit 0) s' h' ∧ s'.at ag = .undef ∧ HpOk h' ∧ Same h0.n h0 h' ∧ s'.at 4 = o' ∧ Own h0.n h' 46 o' ds' (l.filter p) := by
 intro m
 have hcl := hxs.length
 induction m with
 | zero =>
  intro i s h o ds him ok S ho g1 g4 g13 g14 g15 gs
  refine ⟨_, _, o, ds, aS (wv H.hk H.prim H.pl g15 g14 (aQ (by omega))) (by simp), gs, ok, S, g4, ?_⟩
  rw [List.take_of_length_le (by omega)] at ho; exact ho
 | succ m ih =>
  intro i s h o ds him ok S ho g1 g4 g13 g14 g15 gs
  have hi : i < l.length := by omega
  have hd : l.take (i + 1) = l.take i ++ [l[i]] := by rw [List.take_add_one, List.getElem?_eq_getElem hi]; rfl
  obtain ⟨q, hq1, hq2⟩ := ip H (hx.mono S bC (Nat.le_refl _)) (i := i) (by omega)
  have hxi := (hxs.get (i := i) (by omega) hi).mono S bC (Nat.le_refl _)
  obtain ⟨r, h1, c1, S1, bH, rfl⟩ := hg cs[i] l[i] h (List.getElem_mem hi) ok S hxi
  have S' := S.trans (S1.le S.n)
  have ho1 := ho.mono S1 ok
  cases he : p l[i] with
  | true =>
   rw [he] at c1
   obtain ⟨hne, hbig⟩ := hok _ (List.getElem_mem hi)
   obtain ⟨y, h2, c2, S2, dd, o2⟩ := oS H bH hne hbig (hxi.mono S1 ok (Nat.le_refl _))
   have hol := ho.rows.length
   have hfl : ((l.take i).filter p).length ≤ i := by
    have := List.length_filter_le p (l.take i)
    rw [List.length_take] at this; omega
   obtain ⟨F, B, x', h3, b1, b2, b3, b4, b5⟩ := Own.app (P := K.P) (t := 22) (by rw [H.hP]; exact t22) dd (S'.trans (S2.le S'.n)).n (ho1.mono S2 bH) (Row.off ho1.out (Nat.le_refl _) o2) (by decide) (by omega)
   obtain ⟨s1, r1, k1, k4, k13, k14, k15, ks⟩ : ∃ s1, fZ K [1, 1, 0, 1, 0, 0] s h .normal s1 h3 ∧ s1.at 1 = .fn G C ∧ s1.at 4 = x' ∧ s1.at 13 = x ∧ s1.at 14 = .nu .i64 (.ofNat l.length) ∧ s1.at 15 = .nu .i64 (.ofNat (i + 1)) ∧ s1.at ag = .undef :=
    ⟨_, tZ H.hk H.prim H.pl g15 g14 g13 g1 g4 (aJ hi) hq1 hq2 rfl c1 c2 b1 b2 (bh (by omega)), g1, rfl, g13, g14, rfl, gs⟩
   have hO : Own h0.n h3 46 x' (ds ++ [y]) ((l.take (i + 1)).filter p) := by
    rw [hd, List.filter_append, List.filter_cons, if_pos he, List.filter_nil]; exact b3
   obtain ⟨s', h', o', ds', r2, e1, e2, e3, e4, e5⟩ := ih (i + 1) s1 h3 x' _ (by omega) b5 ((S'.trans (S2.le S'.n)).trans b4) hO k1 k4 k13 k14 k15 ks
   exact ⟨s', h', o', ds', Runs.loop r1 r2, e1, e2, e3, e4, e5⟩
  | false =>
   rw [he] at c1
   obtain ⟨s1, r1, k1, k4, k13, k14, k15, ks⟩ : ∃ s1, fZ K [1, 1, 0, 1, 0, 0] s h .normal s1 h1 ∧ s1.at 1 = .fn G C ∧ s1.at 4 = o ∧ s1.at 13 = x ∧ s1.at 14 = .nu .i64 (.ofNat l.length) ∧ s1.at 15 = .nu .i64 (.ofNat (i + 1)) ∧ s1.at ag = .undef :=
    ⟨_, ua H.hk H.prim H.pl g15 g14 g13 g1 (aJ hi) hq1 hq2 rfl c1 (bh (by omega)), g1, g4, g13, g14, rfl, gs⟩
   have hO : Own h0.n h1 46 o ds ((l.take (i + 1)).filter p) := by
    rw [hd, List.filter_append, List.filter_cons, if_neg (by rw [he]; simp), List.filter_nil, List.append_nil]; exact ho1
   obtain ⟨s', h', o', ds', r2, e1, e2, e3, e4, e5⟩ := ih (i + 1) s1 h1 o ds (by omega) bH S' hO k1 k4 k13 k14 k15 ks
   exact ⟨s', h', o', ds', Runs.loop r1 r2, e1, e2, e3, e4, e5⟩
def PS (K : Ctx) (f : FuncId) (args : List CV) (h : Hp) (l : List (List Int)) : Prop := ga K f args h fun r h' => ∃ o ds, r = .tup [o, .nu .i64 0] ∧ Own h.n h' 46 o ds l
theorem Own.low {N M el : Nat} {h : Hp} {x : CV} {cs : List CV} {l : List (List Int)} (hNM : M ≤ N) (O : Own N h el x cs l) : Own M h el x cs l := ⟨kq hNM O.out, O.rows⟩
theorem CL (H : Std K) (ok : HpOk h) {l : List (List Int)} (hl : l.length < 549755813888) (hok : ∀ a ∈ l, a ≠ [] ∧ a.length < 1099511627776) {G : FuncId} {C : List CV} {p : List Int → Bool} (hg : Asks K h G C l p) {x : CV} {cs : List CV} (hx : Row h x cs) (hxs : Rows h cs l) (hc : ga K 26 [x] h fun r _ => r = .nu .i64 0) : PS K 81 [x, .fn G C] h (l.filter p) := by
 have hf : K.P.funcs[81]? = some Tryz.f81 := by rw [H.hP]; exact Tryz.func81
 obtain ⟨r, h1, c1, S1, bH, rfl⟩ := hc
 have hlen := eQ H (hx.mono S1 ok (Nat.le_refl _))
 rw [hxs.length] at hlen
 obtain ⟨s1, r1, j0, j1, j4, js⟩ : ∃ s1, fZ K [1, 0] (T.set (T.set (entry 0 [x, .fn G C]) 4 .nils) 5 (.nu .i64 0)) h .normal s1 h1 ∧ s1.at 0 = x ∧ s1.at 1 = .fn G C ∧ s1.at 4 = .nils ∧ s1.at ag = .undef := ⟨_, Et H.hk H.prim H.pl rfl c1 rfl, rfl, rfl, rfl, rfl⟩
 obtain ⟨s2, r2, k1, k4, k13, k14, k15, ks⟩ : ∃ s2, fZ K [1, 1, 0, 0] s1 h1 .normal s2 h1 ∧ s2.at 1 = .fn G C ∧ s2.at 4 = .nils ∧ s2.at 13 = x ∧ s2.at 14 = .nu .i64 (.ofNat l.length) ∧ s2.at 15 = .nu .i64 (.ofNat 0) ∧ s2.at ag = .undef := ⟨_, Nh H.hk j0 hlen, j1, j4, rfl, rfl, rfl, js⟩
 obtain ⟨s3, h3, o3, ds3, r3, e1, e2, e3, e4, e5⟩ := zP H bH hl hok (hg.mono S1) (hx.mono S1 ok (Nat.le_refl _)) (hxs.mono S1 ok (Nat.le_refl _)) l.length 0 s2 h1 .nils [] (by omega) bH (Same.refl _ _) (by simpa using Own.nil) k1 k4 k13 k14 k15 ks
 have S3 := S1.trans (e3.le S1.n)
 refine ⟨_, h3, H.go hf (Runs.seq (Ef H.hk) (Runs.seq r1 (Runs.seq (Runs.seq r2 (aV r3)) (Hu H.hk H.prim H.pl e4)))) (.inr rfl) S3.n e1 rfl rfl, S3, e2, o3, ds3, rfl, e5.low S1.n⟩
end
end Go.CP
