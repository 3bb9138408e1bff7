import Derived.Test.YtadagifjonbmjaaGreatDoorKl0
import Derived.Test.YtadagifjonbmjaaGreatDoorKw1
set_option linter.all false
set_option maxRecDepth 100000
/- ComplexLinks: simplex.without, Facets; complex.of. -/
namespace Go.CP
open Go.Proofs
variable [LG] [HK]
theorem RunP.takeLayQ {K : Ctx} {ops : Array Oper} {o : Oper} {l : List Stp} {i : Nat} {s s2 : Fr} {h h2 : Hp} {F : Nat → CV} {b : HB} (ho : ops[i]? = some o) (hw : wantX ops o s = some true) (hl : layX K.P o (ev s) = some (F, b)) (rest : RunP K ops l [⟨i, o, false, F h.n, some (h.n, b)⟩] (Fr.putO s o.dst (F h.n)) (h.push b) s2 h2) : RunP K ops (.take i :: l) [] s h s2 h2 := RunP.takeLay ho hw hl rfl rest
theorem f117_r1 {K : Ctx} {s : Fr} {h : Hp} (hk : ∀ o, HK.keep o = false) {v0 v1 r8 r9 r12 r13 r14 : CV} {F5 : Nat → CV} {B5 : HB} {g1 g2 : Hp} (hp : K.plan 117 1 = some [.take 0, .take 1, .take 2, .take 3, .take 5, .take 6, .take 7, .take 8, .only 4 [8, 7, 6, 5], .only 9 [], .only 10 []]) (i0 : s.at 0 = v0) (i1 : s.at 1 = v1) (o5 : lSlice 0 [] (tyk K.P 46) = some (F5, B5)) (o8 : qSliceV none (some v1) (h.push B5) v0 (tyk K.P 46) = some r8) (o12 : bineq K.P .add 3 v1 (.nu .i64 1) = some r12) (o13 : qSliceV (some r12) none (h.push B5) v0 (tyk K.P 46) = some r13) (q13 : ceq r13 r13 = true) (wg1 : wApp (h.push B5) (F5 h.n) r8 (tyk K.P 46) (tyk K.P 46) = some (r9, g1)) (z13 : qSliceV (some r12) none g1 v0 (tyk K.P 46) = some r13) (wg2 : wApp g1 r9 r13 (tyk K.P 46) (tyk K.P 46) = some (r14, g2)) :
    Runs K 117 15 none (sub1 [1, 0] (bodyOf Tryz.f117)) s h .normal (T.set (T.set (T.set (T.set (T.set (T.set (T.set (T.set (T.set (T.set (T.set s 5 (F5 h.n)) 6 v0) 7 v1) 8 r8) 10 v0) 11 v1) 12 r12) 13 r13) 9 r9) 14 r14) 4 r14) g2 := by
  refine Runs.drawn hp ?_
  refine RunP.takeLayQ (F := F5) (b := B5) rfl rfl (by simp [layX, o5]) ?_
  refine RunP.q (v := v0) rfl rfl (Q_move rfl i0) ?_
  refine RunP.q (v := v1) rfl rfl (Q_move rfl i1) ?_
  refine RunP.q (v := r8) rfl rfl (Q_slice (lv := none) (hv := some v1) rfl rfl rfl rfl o8) ?_
  refine RunP.q (v := v0) rfl rfl (Q_move rfl i0) ?_
  refine RunP.q (v := v1) rfl rfl (Q_move rfl i1) ?_
  refine RunP.q (v := r12) rfl rfl (Q_bin rfl rfl rfl o12) ?_
  refine RunP.q (v := r13) rfl rfl (Q_slice (lv := some r12) (hv := none) rfl rfl rfl rfl o13) ?_
  refine RunP.only (v := r9) rfl rfl (W_app hk rfl rfl rfl rfl rfl rfl wg1) (by simp (decide := true) only [pdOk, looks, qX, ev, Fr.putO, Fr.at_set, reduceIte, Nat.reduceEqDiff, List.filter_cons, List.filter_nil, List.any_cons, List.any_nil, List.all_cons, List.all_nil, List.getElem_toArray, List.getElem_cons_succ, List.getElem_cons_zero, Option.map_some, Option.map_none, ofValue_int, qSlice_V, Bool.and_true, Bool.true_and, Bool.and_self, i0, i1, z13, q13]) ?_
  refine RunP.only (v := r14) rfl rfl (W_app hk rfl rfl rfl rfl rfl rfl wg2) rfl ?_
  refine RunP.only (v := r14) rfl rfl (Q1.e (Q_assign rfl rfl)) rfl ?_
  exact RunP.nil
theorem Row.blk {h : Hp} {x : CV} {cs : List CV} (r : Row h x cs) (hne : cs ≠ []) (ok : HpOk h) : ∃ k o n c, x = .sl k o n c ∧ k < h.n := by
  cases r with
  | nils => exact absurd rfl hne
  | sle => exact absurd rfl hne
  | none => exact absurd rfl hne
  | @some k o c cs hne' hs _ _ =>
    refine ⟨k, o, _, c, rfl, ?_⟩
    rcases Nat.lt_or_ge k h.n with hk | hk
    · exact hk
    · exact absurd (ok k hk) (hbSub_live hs)
theorem slice_congr {h h1 h2 : Hp} {x : CV} {cs : List CV} {lo hi : Option CV} {e by' : Nat} {z : List CV} (r : Row h x cs) (hne : cs ≠ []) (ok : HpOk h) (S1 : ∀ k, k < h.n → h1.get k = h.get k) (S2 : ∀ k, k < h.n → h2.get k = h.get k) : qSliceV lo hi h1 x (.slice e 1 by' z) = qSliceV lo hi h2 x (.slice e 1 by' z) := by
  obtain ⟨k, o, n, c, rfl, hk⟩ := r.blk hne ok
  have hg : h1.get k = h2.get k := by rw [S1 k hk, S2 k hk]
  have hq : ∀ a b, qSliceSl h1 1 k o c a b = qSliceSl h2 1 k o c a b := by
    intro a b
    cases a <;> cases b <;> simp only [qSliceSl, hg]
  simp only [qSliceV, hq]
theorem Same.get' {h h' : Hp} (S : Same h.n h h') : ∀ k, k < h.n → h'.get k = h.get k := S.get
theorem new_emp {P : Program} {el b t : Nat} {h : Hp} {z0 : CV} (ht : tyk P t = .slice el 1 b [z0]) : ∃ F B, lSlice 0 [] (tyk P t) = some (F, B) ∧ New h.n (h.push B) el (F h.n) [] :=
  ⟨fun k => .sl k 0 0 0, .cells [] 0 el, by rw [ht]; rfl, .emp (Nat.le_refl _) (by simp) (by rw [Hp.get_push, if_pos rfl])⟩
section
variable {K : Ctx} {h : Hp}
theorem new46 (H : Std K) {N : Nat} {h : Hp} {x y : CV} {a b : List Int} (ok : HpOk h) (hN : N ≤ h.n) (r : New N h 3 x (Ints a)) (hy : Row h y (Ints b)) (hb : a.length + b.length < 1099511627776) : ∃ x' h', wApp h x y (tyk K.P 46) (tyk K.P 46) = some (x', h') ∧ New N h' 3 x' (Ints (a ++ b)) ∧ Same N h h' ∧ HpOk h' := by
  obtain ⟨x', h', h1, h2, h3, h4⟩ := r.app (z := [.nu .i64 0]) (t' := tyk K.P 46) (bytes := 8) ok hN hy (ints_one b) rfl ⟨_, _, _, by rw [H.hP]; exact t46⟩ (by simp only [ints_length]; omega) (by simp only [ints_length]; omega)
  refine ⟨x', h', by rw [← h1, H.hP, t46], ?_, h3, h4⟩
  have : Ints (a ++ b) = Ints a ++ Ints b := by simp [Ints]
  rw [this]; exact h2
theorem without_comes (H : Std K) (ok : HpOk h) {a : List Int} (h2 : 2 ≤ a.length) (hbig : a.length < 1099511627776) {i : Nat} (hi : i < a.length) {x : CV} (ha : Row h x (Ints a)) :
    ∃ x' h', Comes K 117 [x, .nu .i64 (.ofNat i)] h x' h' ∧ Same h.n h h' ∧ HpOk h' ∧ Out h.n h' 3 x' (Ints (a.eraseIdx i)) := by
  have hf : K.P.funcs[117]? = some Tryz.f117 := by rw [H.hP]; exact Tryz.func117
  have hne : a ≠ [] := by intro e; rw [e] at h2; simp at h2
  obtain ⟨F, B, b1, b2⟩ := new_emp (P := K.P) (t := 46) (h := h) (by rw [H.hP]; exact t46)
  have S0 : Same h.n h (h.push B) := Same.push (Nat.le_refl _) _
  have ha0 := ha.mono S0 ok (Nat.le_refl _)
  obtain ⟨y, y1, y2⟩ := cut46 H hne ha0 (lo := none) (hi := some (.nu .i64 (.ofNat i))) (i := 0) (j := i) rfl rfl (Nat.zero_le _) (by omega)
  obtain ⟨z, z1, z2⟩ := cut46 H hne ha0 (lo := some (.nu .i64 (.ofNat (i + 1)))) (hi := none) (i := i + 1) (j := a.length) rfl rfl (by omega) (Nat.le_refl _)
  rw [List.drop_zero, Nat.sub_zero] at y2
  rw [List.take_of_length_le (by simp)] at z2
  obtain ⟨x1, h1, c1, c2, c3, c4⟩ := new46 H (a := []) (ok.push B) S0.n b2 y2 (by simp; omega)
  have ha1 := ha.mono (S0.trans c3) ok (Nat.le_refl _)
  rw [List.nil_append] at c2
  obtain ⟨z', z1', z2'⟩ := cut46 H hne ha1 (lo := some (.nu .i64 (.ofNat (i + 1)))) (hi := none) (i := i + 1) (j := a.length) rfl rfl (by omega) (Nat.le_refl _)
  have hz : qSliceV (some (.nu .i64 (.ofNat (i + 1)))) none h1 x (tyk K.P 46) = some z := by
    rw [← z1, H.hP, t46]
    exact slice_congr ha (ints_ne hne) ok (S0.trans c3).get' S0.get'
  rw [z1'] at hz; cases hz
  rw [List.take_of_length_le (by simp)] at z2'
  obtain ⟨x2, h2', d1, d2, d3, d4⟩ := new46 H c4 (S0.trans c3).n c2 z2' (by simp; omega)
  have he : a.eraseIdx i = a.take i ++ a.drop (i + 1) := List.eraseIdx_eq_take_drop_succ _ _
  have hl : (a.eraseIdx i).length = a.length - 1 := by rw [List.length_eraseIdx]; simp [hi]
  refine ⟨x2, h2', ?_, (S0.trans c3).trans d3, d4, ?_⟩
  · exact Comes.plain hf rfl (H.memo 117 (by decide)) (H.spec 117) rfl (Runs.seq (f117_r0 H.hk) (Runs.seq (f117_r1 H.hk H.pl.p117_1 rfl rfl b1 y1 (inc (by omega)) z1 z2.ceq c1 z1' d1) Runs.ret)) (.inr rfl) ((S0.trans c3).trans d3).n rfl rfl rfl
  · rw [he]
    exact d2.got (ints_ne (by rw [← he]; intro e; rw [e] at hl; simp at hl; omega))
end
end Go.CP
namespace Go.CP
open Go.Proofs
variable [LG] [HK]
theorem t103 : tyk Tryz.prog 103 = .arr 5 3 1 false [.nu .i64 0, .nu .i64 0, .nu .i64 0, .nu .i64 0, .nu .i64 0] := by kernel_rfl
theorem z103 : tsz Tryz.prog 103 = some (5, true) := by kernel_rfl
theorem e103 : tzero Tryz.prog 103 = some (.agg [.nu .i64 0, .nu .i64 0, .nu .i64 0, .nu .i64 0, .nu .i64 0]) := by kernel_rfl
def facetsI (a : List Int) : List (List Int) := if a.length = 1 then [] else (List.range a.length).map a.eraseIdx
def padI (a : List Int) : List CV := Ints (a.map (· + 1)) ++ List.replicate (5 - a.length) (.nu .i64 0)
section
variable {K : Ctx} {h : Hp}
theorem facets_loop (H : Std K) {h0 : Hp} (ok0 : HpOk h0) {a : List Int} (h2 : 2 ≤ a.length) (hbig : a.length < 1099511627776) {x : CV} (ha : Row h0 x (Ints a)) : ∀ (m i : Nat) (s : Fr) (h : Hp) (o : CV) (cs : List CV), i + m = a.length → HpOk h → Same h0.n h0 h → Own h0.n h 46 o cs ((List.range i).map a.eraseIdx) → s.at 0 = x → s.at 2 = o → s.at 16 = .nu .i64 (.ofNat a.length) → s.at 17 = .nu .i64 (.ofNat i) → s.at slot = .undef →
    ∃ s' h' o' cs', Runs K 73 28 none (sub1 [1, 1, 0, 1, 0] (bodyOf Tryz.f73)) s h (.exit 0) s' h' ∧ s'.at slot = .undef ∧ HpOk h' ∧ Same h0.n h0 h' ∧ s'.at 2 = o' ∧ Own h0.n h' 46 o' cs' ((List.range a.length).map a.eraseIdx) := by
  intro m
  induction m with
  | zero =>
    intro i s h o cs him ok S ho g0 g2 g16 g17 gs
    refine ⟨_, _, o, cs, Runs.loopX (f73_b110100_F H.hk H.prim H.pl g17 g16 (lessN' (by omega))) (by simp), gs, ok, S, g2, ?_⟩
    rw [show a.length = i by omega]; exact ho
  | succ m ih =>
    intro i s h o cs him ok S ho g0 g2 g16 g17 gs
    have hi : i < a.length := by omega
    obtain ⟨y, h1, c1, c2, c3, c4⟩ := without_comes H ok h2 hbig hi (ha.mono S ok0 (Nat.le_refl _))
    have hl := ho.rows.length
    rw [List.length_map, List.length_range] at hl
    obtain ⟨F, B, x', h3, b1, b2, b3, b4, b5⟩ := Own.app (P := K.P) (t := 22) (by rw [H.hP]; exact t22) c3 (S.trans (c2.le S.n)).n (ho.mono c2 ok) (Row.off ho.out (Nat.le_refl _) c4) (by decide) (by omega)
    obtain ⟨s1, r1, k0, k2, k16, k17, ks⟩ : ∃ s1, Runs K 73 28 none (sub1 [1, 1, 0, 1, 0, 0] (bodyOf Tryz.f73)) s h .normal s1 h3 ∧ s1.at 0 = x ∧ s1.at 2 = x' ∧ s1.at 16 = .nu .i64 (.ofNat a.length) ∧ s1.at 17 = .nu .i64 (.ofNat (i + 1)) ∧ s1.at slot = .undef :=
      ⟨_, f73_b110100_T H.hk H.prim H.pl g17 g16 g2 g0 (lessN hi) c1 b1 b2 (inc (by omega)), g0, rfl, g16, rfl, gs⟩
    obtain ⟨s2, h4, o2, cs2, r2, e1, e2, e3, e4, e5⟩ := ih (i + 1) s1 h3 x' _ (by omega) b5 ((S.trans (c2.le S.n)).trans b4) (by rw [List.range_succ, List.map_append]; exact b3) k0 k2 k16 k17 ks
    exact ⟨s2, h4, o2, cs2, Runs.loop r1 r2, e1, e2, e3, e4, e5⟩
theorem facets_comes (H : Std K) (ok : HpOk h) {a : List Int} (hok : OkS a) {x : CV} (ha : Row h x (Ints a)) :
    ∃ x' cs' h', Comes K 73 [x] h (.tup [x', .nu .i64 0]) h' ∧ Same h.n h h' ∧ HpOk h' ∧ Own h.n h' 46 x' cs' (facetsI a) := by
  have hf : K.P.funcs[73]? = some Tryz.f73 := by rw [H.hP]; exact Tryz.func73
  have hle := hok.le
  have hlen := len46 H ha
  rw [ints_length] at hlen
  have o12 := eqln (P := K.P) (t := 3) (Int.ofNat a.length) 1
  by_cases h1 : a.length = 1
  · rw [ieq_t (by simp [h1])] at o12
    refine ⟨.nils, [], h, ?_, Same.refl _ _, ok, by rw [facetsI, if_pos h1]; exact Own.nil⟩
    exact Comes.plain hf rfl (H.memo 73 (by decide)) (H.spec 73) rfl (Runs.seq (f73_r0 H.hk) (Runs.seqX (f73_b10_fT H.hk H.prim H.pl rfl (check_comes H hok ha) rfl hlen o12 rfl) (by simp))) (.inr rfl) (Nat.le_refl _) rfl rfl rfl
  · rw [ieq_f (by simp; omega)] at o12
    have h2 : 2 ≤ a.length := by
      have : a.length ≠ 0 := fun e => hok.ne (List.eq_nil_of_length_eq_zero e)
      omega
    obtain ⟨s1, r1, k0, k2, ks⟩ : ∃ s1, Runs K 73 28 none (sub1 [1, 0] (bodyOf Tryz.f73)) (T.set (T.set (entry 0 [x]) 2 .nils) 3 (.nu .i64 0)) h .normal s1 h ∧ s1.at 0 = x ∧ s1.at 2 = .nils ∧ s1.at slot = .undef := ⟨_, f73_b10_fF H.hk H.prim H.pl rfl (check_comes H hok ha) rfl hlen o12 rfl, rfl, rfl, rfl⟩
    obtain ⟨s2, r2, l0, l2, l16, l17, ls⟩ : ∃ s2, Runs K 73 28 none (sub1 [1, 1, 0, 0] (bodyOf Tryz.f73)) s1 h .normal s2 h ∧ s2.at 0 = x ∧ s2.at 2 = .nils ∧ s2.at 16 = .nu .i64 (.ofNat a.length) ∧ s2.at 17 = .nu .i64 (.ofNat 0) ∧ s2.at slot = .undef := ⟨_, f73_r4 H.hk k0 hlen, k0, k2, rfl, rfl, ks⟩
    obtain ⟨s3, h3, o3, cs3, r3, e1, e2, e3, e4, e5⟩ := facets_loop H ok h2 (by omega) ha a.length 0 s2 h .nils [] (by omega) ok (Same.refl _ _) Own.nil l0 l2 l16 l17 ls
    refine ⟨o3, cs3, h3, ?_, e3, e2, by rw [facetsI, if_neg h1]; exact e5⟩
    exact Comes.plain hf rfl (H.memo 73 (by decide)) (H.spec 73) rfl (Runs.seq (f73_r0 H.hk) (Runs.seq r1 (Runs.seq (Runs.seq r2 (Runs.blockE r3)) (f73_b111 H.hk H.prim H.pl e4)))) (.inr rfl) e3.n e1 rfl rfl
theorem of_loop (H : Std K) {h0 : Hp} (ok0 : HpOk h0) {a : List Int} (hle : a.length ≤ 5) (hr : ∀ v ∈ a, 0 ≤ v ∧ v < 64) {x : CV} (ha : Row h0 x (Ints a)) {k : Nat} (hk : h0.n ≤ k) : ∀ (m i : Nat) (s : Fr) (h : Hp), i + m = a.length → HpOk h → Same h0.n h0 h → k < h.n → h.get k = .cells (Ints ((a.take i).map (· + 1)) ++ List.replicate (5 - i) (.nu .i64 0)) 0 103 → s.at 2 = .ptr k 0 → s.at 5 = x → s.at 6 = .nu .i64 (.ofNat a.length) → s.at 7 = .nu .i64 (.ofNat i) → s.at slot = .undef →
    ∃ s' h', Runs K 71 18 none (sub1 [1, 0, 1, 0] (bodyOf Tryz.f71)) s h (.exit 0) s' h' ∧ s'.at slot = .undef ∧ HpOk h' ∧ Same h0.n h0 h' ∧ k < h'.n ∧ s'.at 2 = .ptr k 0 ∧ h'.get k = .cells (padI a) 0 103 := by
  intro m
  induction m with
  | zero =>
    intro i s h him ok S hkn hg g2 g5 g6 g7 gs
    refine ⟨_, _, Runs.loopX (f71_b10100_F H.hk H.prim H.pl g7 g6 (lessN' (by omega))) (by simp), gs, ok, S, hkn, g2, ?_⟩
    rw [hg, padI, show i = a.length by omega, List.take_length]
  | succ m ih =>
    intro i s h him ok S hkn hg g2 g5 g6 g7 gs
    have hi : i < a.length := by omega
    obtain ⟨p, hp1, hp2⟩ := at46 H (ha.mono S ok0 (Nat.le_refl _)) hi
    have hv := hr _ (List.getElem_mem hi)
    have o14 := addI (P := K.P) (t := 3) (x := a[i]) (y := 1) (by omega) (by omega)
    have hlen : (Ints ((a.take i).map (· + 1))).length = i := by rw [ints_length, List.length_map, List.length_take]; omega
    have o15 : qIndexAddr (.ptr k 0) (.nu .i64 (.ofNat i)) (tyk K.P 103) = some (.ptr k (0 + i * 1)) := by
      rw [H.hP, t103]
      have hb : Nat.blt i 5 = true := by simp; omega
      simp only [qIndexAddr, qAt, hb]
    have hset : setAt (Ints ((a.take i).map (· + 1)) ++ List.replicate (5 - i) (.nu .i64 0)) i [.nu .i64 (a[i] + 1)] = Ints ((a.take (i + 1)).map (· + 1)) ++ List.replicate (5 - (i + 1)) (.nu .i64 0) := by
      rw [setAt_one, List.set_append_right _ _ (by omega), hlen, Nat.sub_self, show 5 - i = (5 - (i + 1)) + 1 by omega, List.replicate_succ, List.set_cons_zero, List.take_add_one, List.getElem?_eq_getElem hi]
      simp only [Option.toList, List.map_append, List.map_cons, List.map_nil, Ints, List.append_assoc, List.cons_append, List.nil_append]
    have w1 : wStore h (.ptr k (0 + i * 1)) (.nu .i64 (a[i] + 1)) (tsz K.P 3) = some (.undef, h.set k (.cells (Ints ((a.take (i + 1)).map (· + 1)) ++ List.replicate (5 - (i + 1)) (.nu .i64 0)) 0 103)) := by
      rw [H.hP, z3]
      show wStoreB h k (0 + i * 1) 1 _ (h.get k) = _
      have hlt : Nat.ble (i + 1) (Ints ((a.take i).map (· + 1)) ++ List.replicate (5 - i) (CV.nu .i64 0)).length = true := Nat.ble_eq_true_of_le (by rw [List.length_append, hlen, List.length_replicate]; omega)
      rw [hg]
      simp only [wStoreB, CV.sol, CV.cells, List.all_cons, CV.one, List.all_nil, Bool.and_self, List.length_singleton, Nat.beq_refl, Nat.mul_one, Nat.zero_add, hlt, hset]
    obtain ⟨s1, r1, k2, k5, k6, k7, ks⟩ : ∃ s1, Runs K 71 18 none (sub1 [1, 0, 1, 0, 0] (bodyOf Tryz.f71)) s h .normal s1 _ ∧ s1.at 2 = .ptr k 0 ∧ s1.at 5 = x ∧ s1.at 6 = .nu .i64 (.ofNat a.length) ∧ s1.at 7 = .nu .i64 (.ofNat (i + 1)) ∧ s1.at slot = .undef :=
      ⟨_, f71_b10100_T H.hk H.prim H.pl g7 g6 g5 g2 (lessN hi) hp1 hp2 o14 o15 w1 (inc (by omega)), g2, g5, g6, rfl, gs⟩
    obtain ⟨s2, h2, r2, rest⟩ := ih (i + 1) s1 _ (by omega) (ok.set hkn _) (S.trans (Same.set hk _)) hkn (by rw [Hp.get_set, if_pos rfl]) k2 k5 k6 k7 ks
    exact ⟨s2, h2, Runs.loop r1 r2, rest⟩
theorem padI_length {a : List Int} (hle : a.length ≤ 5) : (padI a).length = 5 := by simp [padI, Ints]; omega
theorem of_comes (H : Std K) (ok : HpOk h) {a : List Int} (hle : a.length ≤ 5) (hr : ∀ v ∈ a, 0 ≤ v ∧ v < 64) {x : CV} (ha : Row h x (Ints a)) :
    ∃ h', Comes K 71 [x] h (.agg (padI a)) h' ∧ Same h.n h h' ∧ HpOk h' := by
  have hf : K.P.funcs[71]? = some Tryz.f71 := by rw [H.hP]; exact Tryz.func71
  have o2 : lAlloc 103 (tzero K.P 103) = some (fun k => .ptr k 0, .cells [.nu .i64 0, .nu .i64 0, .nu .i64 0, .nu .i64 0, .nu .i64 0] 0 103) := by rw [H.hP, e103]; rfl
  have S0 : Same h.n h (h.push (.cells [.nu .i64 0, .nu .i64 0, .nu .i64 0, .nu .i64 0, .nu .i64 0] 0 103)) := Same.push (Nat.le_refl _) _
  have hlen := len46 H (ha.mono S0 ok (Nat.le_refl _))
  rw [ints_length] at hlen
  obtain ⟨s1, r1, k2, k5, k6, k7, ks⟩ : ∃ s1, Runs K 71 18 none (sub1 [1, 0, 0] (bodyOf Tryz.f71)) (T.set (entry 0 [x]) 2 (.ptr h.n 0)) (h.push (.cells [.nu .i64 0, .nu .i64 0, .nu .i64 0, .nu .i64 0, .nu .i64 0] 0 103)) .normal s1 (h.push (.cells [.nu .i64 0, .nu .i64 0, .nu .i64 0, .nu .i64 0, .nu .i64 0] 0 103)) ∧ s1.at 2 = .ptr h.n 0 ∧ s1.at 5 = x ∧ s1.at 6 = .nu .i64 (.ofNat a.length) ∧ s1.at 7 = .nu .i64 (.ofNat 0) ∧ s1.at slot = .undef := ⟨_, f71_r1 H.hk rfl hlen, rfl, rfl, rfl, rfl, rfl⟩
  obtain ⟨s2, h2, r2, e1, e2, e3, e4, e5, e6⟩ := of_loop H ok hle hr ha (Nat.le_refl h.n) a.length 0 s1 _ (by omega) (ok.push _) S0 (by simp) (by rw [Hp.get_push, if_pos rfl]; rfl) k2 k5 k6 k7 ks
  have hpl := padI_length hle
  have hsub : sub (padI a) 0 5 = padI a := by simp only [sub, List.drop_zero]; exact List.take_of_length_le (by omega)
  have hv : hbVal 0 5 true (h2.get h.n) = some (.agg (padI a)) := by
    rw [e6]
    simp only [hbVal, val, Nat.zero_add, hpl, Nat.ble_eq_true_of_le (Nat.le_refl _), hsub]
  have o17 : qLoad h2 (.ptr h.n 0) (tsz K.P 103) = some (.agg (padI a)) := by rw [H.hP, z103]; exact hv
  have hone : (padI a).all CV.one = true := by
    simp only [padI, List.all_append, Bool.and_eq_true]
    exact ⟨ints_one _, by simp [List.all_eq_true, CV.one]⟩
  have hcells : CV.cells (.agg (padI a)) = padI a := rfl
  have w1 : wStore h2 (.ptr h.n 0) (.agg (padI a)) (tsz K.P 103) = some (.undef, h2.set h.n (.cells (setAt (padI a) 0 (padI a)) 0 103)) := by
    rw [H.hP, z103]
    show wStoreB h2 h.n 0 5 _ (h2.get h.n) = _
    rw [e6]
    simp only [wStoreB, CV.sol, hcells, hone, hpl, Nat.beq_refl, Nat.zero_add, Nat.ble_eq_true_of_le (Nat.le_refl _), Bool.and_self]
  have S2 : Same h.n h (h2.set h.n (.cells (setAt (padI a) 0 (padI a)) 0 103)) := e3.trans (Same.set (Nat.le_refl _) _)
  refine ⟨_, ?_, S2, e2.set e4 _⟩
  refine Comes.plain hf rfl (H.memo 71 (by decide)) (H.spec 71) rfl (Runs.seq (f71_r0 H.hk o2) (Runs.seq (Runs.seq r1 (Runs.blockE r2)) (f71_b11 H.hk H.prim H.pl e5 o17 w1))) (.inr rfl) S2.n e1 (vs := [.agg (padI a)]) ?_ rfl
  have hv2 : hbVal 0 5 true ((h2.set h.n (.cells (setAt (padI a) 0 (padI a)) 0 103)).get h.n) = some (.agg (padI a)) := by
    rw [Hp.get_set, if_pos rfl, setAt_full _ _ rfl]
    simp only [hbVal, val, Nat.zero_add, hpl, Nat.ble_eq_true_of_le (Nat.le_refl _), hsub]
  have hres : Tryz.f71.results.toList = [.cell 2 103] := rfl
  have ha2 : Fr.at (T.set s2 17 (.agg (padI a))) 2 = .ptr h.n 0 := e5
  rw [hres]
  simp only [resX, ha2, H.hP, z103, hv2]
end
end Go.CP
namespace Go.CP
open Go.Proofs
variable [LG] [HK]
theorem t100 : tyk Tryz.prog 100 = .map 103 46 := by kernel_rfl
theorem t3 : tyk Tryz.prog 3 = .int .i64 := by kernel_rfl
theorem e46 : tzero Tryz.prog 46 = some .nils := by kernel_rfl
structure OkC (l : List (List Int)) : Prop where
  simp : ∀ a ∈ l, OkS a
  asc : ∀ i (h : i + 1 < l.length), cmpI l[i + 1] l[i] = 1
  face : ∀ a ∈ l, ∀ f ∈ facetsI a, f ∈ l
  le : l.length ≤ 1024
def NumL (cs : List CV) : Prop := cs.length = 5 ∧ ∀ c ∈ cs, ∃ n, c = .nu .i64 n
def NumK (k : CV) : Prop := ∃ cs, k = .agg cs ∧ NumL cs
theorem feqL_tot : ∀ (xs ys : List CV), xs.length = ys.length → (∀ c ∈ xs, ∃ n, c = CV.nu .i64 n) → (∀ c ∈ ys, ∃ n, c = CV.nu .i64 n) → ∃ b, feqL xs ys = some b
  | [], [], _, _, _ => ⟨true, rfl⟩
  | [], _ :: _, h, _, _ => by simp at h
  | _ :: _, [], h, _, _ => by simp at h
  | x :: xs, y :: ys, h, hx, hy => by
    obtain ⟨n, rfl⟩ := hx x List.mem_cons_self
    obtain ⟨m, rfl⟩ := hy y List.mem_cons_self
    obtain ⟨b, hb⟩ := feqL_tot xs ys (by simpa using h) (fun c hc => hx c (List.mem_cons_of_mem _ hc)) (fun c hc => hy c (List.mem_cons_of_mem _ hc))
    cases hq : ieq n m with
    | true => exact ⟨b, by simp only [feqL, feq, keq, hq, hb]⟩
    | false => exact ⟨false, by simp only [feqL, feq, keq, hq]⟩
theorem feqL_self : ∀ (xs : List CV), (∀ c ∈ xs, ∃ n, c = CV.nu .i64 n) → feqL xs xs = some true
  | [], _ => rfl
  | x :: xs, h => by
    obtain ⟨n, rfl⟩ := h x List.mem_cons_self
    have := feqL_self xs (fun c hc => h c (List.mem_cons_of_mem _ hc))
    simp only [feqL, feq, keq, ieq_self, this]
theorem kcmp_tot {k k' : CV} (h : NumK k) (h' : NumK k') : ∃ b, kcmp k k' = some b := by
  obtain ⟨cs, rfl, h1, h2⟩ := h
  obtain ⟨ds, rfl, h3, h4⟩ := h'
  exact feqL_tot cs ds (by omega) h2 h4
theorem kcmp_self {k : CV} (h : NumK k) : kcmp k k = some true := by
  obtain ⟨cs, rfl, h1, h2⟩ := h
  exact feqL_self cs h2
theorem updM_ok {key v : CV} (hk : NumK key) : ∀ (es : List (CV × CV)), (∀ e ∈ es, NumK e.1) → ∃ es', updM key v es = some es' ∧ (∀ e ∈ es', NumK e.1) ∧ lookM key es' = some (some v) ∧ ∀ key' u, NumK key' → lookM key' es = some (some u) → lookM key' es' = some (some u) ∨ lookM key' es' = some (some v)
  | [], _ => ⟨[(key, v)], rfl, by intro e he; simp at he; rw [he]; exact hk, by simp only [lookM, kcmp_self hk], by intro key' u _ h; cases h⟩
  | (k, u) :: es, h => by
    have hku := h (k, u) List.mem_cons_self
    have hes : ∀ e ∈ es, NumK e.1 := fun e he => h e (List.mem_cons_of_mem _ he)
    obtain ⟨b, hb⟩ := kcmp_tot hk hku
    cases b with
    | true =>
      refine ⟨(k, v) :: es, by simp only [updM, hb], ?_, by simp only [lookM, hb], ?_⟩
      · intro e he
        rcases List.mem_cons.1 he with rfl | he
        · exact hku
        · exact hes e he
      · intro key' w hk' hl
        obtain ⟨b', hb'⟩ := kcmp_tot hk' hku
        cases b' with
        | true => exact .inr (by simp only [lookM, hb'])
        | false => exact .inl (by simp only [lookM, hb'] at hl ⊢; exact hl)
    | false =>
      obtain ⟨es', e1, e2, e3, e4⟩ := updM_ok (v := v) hk es hes
      refine ⟨(k, u) :: es', by simp only [updM, hb, e1], ?_, by simp only [lookM, hb, e3], ?_⟩
      · intro e he
        rcases List.mem_cons.1 he with rfl | he
        · exact hku
        · exact e2 e he
      · intro key' w hk' hl
        obtain ⟨b', hb'⟩ := kcmp_tot hk' hku
        cases b' with
        | true => exact .inl (by simp only [lookM, hb'] at hl ⊢; exact hl)
        | false =>
          simp only [lookM, hb'] at hl ⊢
          exact e4 key' w hk' hl
theorem numL_pad {a : List Int} (h : a.length ≤ 5) : NumL (padI a) := by
  refine ⟨padI_length h, fun c hc => ?_⟩
  simp only [padI, Ints, List.mem_append, List.mem_map, List.mem_replicate] at hc
  rcases hc with ⟨n, _, rfl⟩ | ⟨_, rfl⟩ <;> exact ⟨_, rfl⟩
theorem numK_pad {a : List Int} (h : a.length ≤ 5) : NumK (.agg (padI a)) := ⟨_, rfl, numL_pad h⟩
def HasK (es : List (CV × CV)) (a : List Int) : Prop := ∃ k o n c, lookM (.agg (padI a)) es = some (some (.sl k o n c))
section
variable {K : Ctx} {h : Hp}
theorem keyOk_pad (H : Std K) {a : List Int} (h : a.length ≤ 5) : keyOk K.P 103 (.agg (padI a)) = true := by
  have hall : (padI a).all (fun c => match c with
      | .nu k' _ => keq .i64 k'
      | _ => false) = true := by
    rw [List.all_eq_true]
    intro c hc
    obtain ⟨n, rfl⟩ := (numL_pad h).2 c hc
    rfl
  simp only [keyOk, H.hP, t103, t3, padI_length h, Nat.beq_refl, Bool.true_and]
  exact hall
theorem sl_nil (H : Std K) (k o n c : Nat) : bineq K.P .eql 46 (.sl k o n c) .nils = some (.bo false) := by
  have : tyk K.P 46 = .slice 3 1 8 [.nu .i64 0] := by rw [H.hP]; exact t46
  simp only [bineq, abin, aeq, this]
theorem look_comes (H : Std K) {h : Hp} {km : Nat} {es : List (CV × CV)} {a : List Int} (hle : a.length ≤ 5) (hg : h.get km = .mp es) {k o n c : Nat} (hl : lookM (.agg (padI a)) es = some (some (.sl k o n c))) : qLookup K.P h false (.agg (padI a)) (.mp km) (tyk K.P 100) = some (.sl k o n c) := by
  have h1 : tyk K.P 100 = .map 103 46 := by rw [H.hP]; exact t100
  have h2 : tzero K.P 46 = some .nils := by rw [H.hP]; exact e46
  rw [h1]
  simp only [qLookup, keyOk_pad H hle, qLook, h2, hbLook, hg, hl, qFound, okV]
theorem facetsI_length (a : List Int) : (facetsI a).length ≤ a.length := by
  unfold facetsI; split <;> simp
end
end Go.CP
namespace Go.CP
open Go.Proofs
variable [LG] [HK]
def Ret (K : Ctx) (f : FuncId) (args : List CV) (h : Hp) (Q : CV → Hp → Prop) : Prop := ∃ r h', Comes K f args h r h' ∧ Same h.n h h' ∧ HpOk h' ∧ Q r h'
section
variable {K : Ctx} {h : Hp}
def meetI (a b : List Int) : List Int := a.filter fun v => inI b v
def eqI : List Int → List Int → Bool
  | x :: a, y :: b => ieq x y && eqI a b
  | [], [] => true
  | _, _ => false
theorem eqI_iff : ∀ (a b : List Int), eqI a b = true ↔ a = b
  | [], [] => by simp [eqI]
  | [], _ :: _ => by simp [eqI]
  | _ :: _, [] => by simp [eqI]
  | x :: a, y :: b => by simp [eqI, eqI_iff a b, ieq_eq]
def Asks (K : Ctx) (h0 : Hp) (G : FuncId) (C : List CV) (l : List (List Int)) (p : List Int → Bool) : Prop := ∀ (y : CV) (a : List Int) (g : Hp), a ∈ l → HpOk g → Same h0.n h0 g → Row g y (Ints a) → Ret K G ([y] ++ C) g fun r _ => r = .bo (p a)
theorem Row.isSl {x : CV} {cs : List CV} (r : Row h x cs) (hne : cs ≠ []) : ∃ k o n c, x = .sl k o n c := by
  cases r with
  | nils => exact absurd rfl hne
  | sle => exact absurd rfl hne
  | none k o c => exact absurd rfl hne
  | some => exact ⟨_, _, _, _, rfl⟩
theorem clone_ret (H : Std K) (ok : HpOk h) {a : List Int} (hne : a ≠ []) (hbig : a.length < 1099511627776) {x : CV} (ha : Row h x (Ints a)) : Ret K 69 [x] h fun r h' => Out h.n h' 3 r (Ints a) := by
  have hf : K.P.funcs[69]? = some Tryz.f69 := by rw [H.hP]; exact Tryz.func69
  obtain ⟨k, o, n, c, hsl⟩ := ha.isSl (ints_ne hne)
  obtain ⟨F, B, x', h', a1, a2, a3, a4, a5⟩ := copy_app (P := K.P) (t := 46) (t' := 46) (by rw [H.hP]; exact t46) ⟨_, _, _, by rw [H.hP]; exact t46⟩ ok ha (ints_ne hne) (ints_one a) (by decide) (by rw [ints_length]; exact hbig)
  have o4 : bineq K.P .eql 46 x .nils = some (.bo false) := by rw [hsl]; exact sl_nil H k o n c
  exact ⟨x', h', Comes.plain hf rfl (H.memo 69 (by decide)) (H.spec 69) rfl (f69_b_F H.hk H.prim H.pl (s := entry 0 [x]) rfl o4 a1 a2) (.inr rfl) a4.n rfl rfl rfl, a4, a5, a3⟩
end
end Go.CP
namespace Go.CP
open Go.Proofs
variable [LG] [HK]
theorem setAt_off {α : Type} : ∀ (cs rest ys : List α), setAt (cs ++ rest) cs.length ys = cs ++ setAt rest 0 ys
  | [], rest, ys => rfl
  | c :: cs, rest, [] => by simp [setAt_nil]
  | c :: cs, rest, y :: ys => by
    have := setAt_off cs rest (y :: ys)
    simp only [List.cons_append, List.length_cons, setAt, this]
theorem setAt_zero {α : Type} : ∀ (rest ys : List α), ys.length ≤ rest.length → setAt rest 0 ys = ys ++ rest.drop ys.length
  | rest, [], _ => by simp [setAt_nil]
  | [], y :: ys, h => by simp at h
  | r :: rest, y :: ys, h => by
    have := setAt_zero rest ys (by simpa using h)
    simp only [setAt, this, List.cons_append, List.length_cons, List.drop_succ_cons]
structure Fill (N : Nat) (h : Hp) (el m : Nat) (x : CV) (cs : List CV) : Prop where
  at' : ∃ k rest, x = .sl k 0 cs.length m ∧ N ≤ k ∧ k < h.n ∧ h.get k = .cells (cs ++ rest) 1 el ∧ cs.length + rest.length = m
theorem Fill.out {N el m : Nat} {h : Hp} {x : CV} {cs : List CV} (F : Fill N h el m x cs) (hm : cs.length = m) (hne : cs ≠ []) : Out N h el x cs := by
  obtain ⟨k, rest, rfl, hk, hn, hg, hl⟩ := F.at'
  have : rest = [] := List.eq_nil_of_length_eq_zero (by omega)
  subst this; subst hm
  rw [List.append_nil] at hg
  exact .some hk hn hne hg
theorem Fill.app {N el m bytes : Nat} {h : Hp} {z : List CV} {t' : TyK} {x y : CV} {cs ys : List CV} (ok : HpOk h) (F : Fill N h el m x cs) (hy : Row h y ys) (hone : ys.all CV.one = true) (hle : cs.length + ys.length ≤ m) (hz : z.length = 1) (ht : ∃ e' b' z', t' = .slice e' 1 b' z') (hb : (cs.length + ys.length) * bytes ≤ 70368744177664) (hn : cs.length + ys.length ≤ 4611686018427387904) :
    ∃ x' h', wApp h x y (.slice el 1 bytes z) t' = some (x', h') ∧ Fill N h' el m x' (cs ++ ys) ∧ Same N h h' ∧ HpOk h' := by
  obtain ⟨e', b', z', rfl⟩ := ht
  obtain ⟨k, rest, rfl, hk, hkn, hg, hl⟩ := F.at'
  have hcells := hy.cells
  have hlen := hy.lenV
  have hc : (ys.all CV.one && Nat.beq z.length 1 && Nat.blt 0 1 && Nat.ble ((CP.lenV (.sl k 0 cs.length m) + ys.length) * bytes) 70368744177664 && Nat.ble (CP.lenV (.sl k 0 cs.length m) + ys.length) 4611686018427387904) = true := by
    rw [hone, hz, show CP.lenV (.sl k 0 cs.length m) = cs.length from rfl, Nat.ble_eq_true_of_le hb, Nat.ble_eq_true_of_le hn]; rfl
  have h1 : wApp h (.sl k 0 cs.length m) y (.slice el 1 bytes z) (.slice e' 1 b' z') = appX h el 1 (.sl k 0 cs.length m) ys ys.length := by
    simp only [wApp, appC, hcells, hlen, hc]
  rw [h1]
  cases hq : Nat.beq ys.length 0 with
  | true =>
    have : ys = [] := List.eq_nil_of_length_eq_zero (Nat.eq_of_beq_eq_true hq)
    subst this
    refine ⟨.sl k 0 cs.length m, h, ?_, ⟨⟨k, rest, by simp, hk, hkn, by simpa using hg, by simpa using hl⟩⟩, Same.refl _ _, ok⟩
    simp only [appX, hq, Nat.ble_eq_true_of_le (show cs.length ≤ m by omega)]
  | false =>
    refine ⟨.sl k 0 (cs.length + ys.length) m, h.set k (.cells (cs ++ ys ++ rest.drop ys.length) 1 el), ?_, ⟨⟨k, rest.drop ys.length, by simp, hk, hkn, by rw [Hp.get_set, if_pos rfl], by simp; omega⟩⟩, Same.set hk _, ok.set hkn _⟩
    have hset : setAt (cs ++ rest) (0 + cs.length * 1) ys = cs ++ ys ++ rest.drop ys.length := by
      rw [Nat.zero_add, Nat.mul_one, setAt_off, setAt_zero _ _ (by omega), List.append_assoc]
    have hb2 : Nat.ble (0 + (cs.length + ys.length) * 1) (cs ++ rest).length = true := Nat.ble_eq_true_of_le (by simp; omega)
    simp only [appX, hq, Nat.ble_eq_true_of_le hle, appIn, hg, hb2, hset]
theorem Fill.mono {N M el m : Nat} {h h' : Hp} (S : Same M h h') (hM : h.n ≤ M) {x : CV} {cs : List CV} (r : Fill N h el m x cs) : Fill N h' el m x cs := by
  obtain ⟨k, rest, e, hk, hkn, hg, hl⟩ := r.at'
  exact ⟨⟨k, rest, e, hk, Nat.lt_of_lt_of_le hkn S.n, by rw [S.get k (by omega)]; exact hg, hl⟩⟩
section
variable {K : Ctx} {h : Hp}
def sumI (l : List (List Int)) : Nat := (l.map List.length).sum
theorem Fill.row {N el m : Nat} {h : Hp} {x : CV} {cs : List CV} (F : Fill N h el m x cs) : True := trivial
theorem t5 : tyk Tryz.prog 5 = .int .u8 := by kernel_rfl
theorem t9 : tyk Tryz.prog 9 = .str := by kernel_rfl
theorem t126 : tyk Tryz.prog 126 = .int .u64 := by kernel_rfl
theorem t157 : tyk Tryz.prog 157 = .int .u64 := by kernel_rfl
end
end Go.CP
namespace Go.CP
open Go.Proofs
variable [LG] [HK]
theorem z22 : tsz Tryz.prog 22 = some (1, false) := by kernel_rfl
theorem Same.get1 {N k : Nat} {h h' : Hp} (S : Same N h h') (hk : k < N) {b : HB} (hb : h.get k = b) : h'.get k = b := by rw [S.get k hk, hb]
theorem two_slice {v w z0 : CV} {el b : Nat} (hv : v.one = true) (hw : w.one = true) : lSlice 2 [(0, v), (1, w)] (.slice el 1 b [z0]) = some (fun k => .sl k 0 2 2, .cells [v, w] 0 el) := by
  have hc := one_cells hv
  have hd := one_cells hw
  have hs : v.sol = true := by simp [CV.sol, hc, hv]
  have ht : w.sol = true := by simp [CV.sol, hd, hw]
  simp only [lSlice, List.all_cons, hs, ht, List.all_nil, fillA, rep, hc, hd, List.length_cons, List.length_nil]
  rfl
theorem two_row {h : Hp} {v w : CV} {el : Nat} : Row (h.push (.cells [v, w] 0 el)) (.sl h.n 0 2 2) [v, w] := by
  refine Row.some (k := h.n) (o := 0) (c := 2) (cs := [v, w]) (by simp) ?_ (Nat.le_refl _) ?_
  · rw [Hp.get_push, if_pos rfl]; rfl
  · rw [Hp.get_push, if_pos rfl]; rfl
structure Box (h : Hp) (p v : CV) : Prop where
  at' : ∃ k e, p = .ptr k 0 ∧ k < h.n ∧ h.get k = .cells [v] 0 e
theorem Box.mono {N : Nat} {h h' : Hp} (S : Same N h h') (hN : h.n ≤ N) {p v : CV} (b : Box h p v) : Box h' p v := by
  obtain ⟨k, e, rfl, hk, hg⟩ := b.at'
  exact ⟨⟨k, e, rfl, Nat.lt_of_lt_of_le hk S.n, S.get1 (by omega) hg⟩⟩
theorem Box.load {h : Hp} {p v : CV} (b : Box h p v) {sz : Option (Nat × Bool)} (hsz : sz = some (1, false)) : qLoad h p sz = some v := by
  obtain ⟨k, e, rfl, hk, hg⟩ := b.at'
  subst hsz
  show hbVal 0 1 false (h.get k) = _
  rw [hg]; rfl
def joinI (a b : List Int) : Option (List Int) := if meetI a b = [] ∧ a.length + b.length ≤ 5 then some (sortI (a ++ b)) else none
def linkP (l : List (List Int)) (s t : List Int) : Bool := match joinI s t with
  | some j => l.any (eqI j)
  | none => false
section
variable {K : Ctx} {h : Hp}
theorem Asks.mono {h0 h1 : Hp} (S : Same h0.n h0 h1) {G : FuncId} {C : List CV} {l : List (List Int)} {p : List Int → Bool} (A : Asks K h0 G C l p) : Asks K h1 G C l p := fun y a g ha ok Sg r => A y a g ha ok (S.trans (Sg.le S.n)) r
theorem z46' (H : Std K) : tsz K.P 46 = some (1, false) := by rw [H.hP]; exact z46
theorem z22' (H : Std K) : tsz K.P 22 = some (1, false) := by rw [H.hP]; exact z22
theorem filter_loop (H : Std K) {h0 : Hp} (ok0 : HpOk h0) {l : List (List Int)} (hl : l.length < 549755813888) (hok : ∀ a ∈ l, a ≠ [] ∧ a.length < 1099511627776) {G : FuncId} {C : List CV} {p : List Int → Bool} (hg : Asks K h0 G C l p) {x : CV} {cs : List CV} (hx : Row h0 x cs) (hxs : Rows h0 cs l) : ∀ (m i : Nat) (s : Fr) (h : Hp) (o : CV) (ds : List CV), i + m = l.length → HpOk h → Same h0.n h0 h → Own h0.n h 46 o ds ((l.take i).filter p) → s.at 1 = .fn G C → s.at 4 = o → s.at 13 = x → s.at 14 = .nu .i64 (.ofNat l.length) → s.at 15 = .nu .i64 (.ofNat i) → s.at slot = .undef →
    ∃ s' h' o' ds', Runs K 81 29 none (sub1 [1, 1, 0, 1, 0] (bodyOf Tryz.f81)) s h (.exit 0) s' h' ∧ s'.at slot = .undef ∧ HpOk h' ∧ Same h0.n h0 h' ∧ s'.at 4 = o' ∧ Own h0.n h' 46 o' ds' (l.filter p) := by
  intro m
  have hcl := hxs.length
  induction m with
  | zero =>
    intro i s h o ds him ok S ho g1 g4 g13 g14 g15 gs
    refine ⟨_, _, o, ds, Runs.loopX (f81_b110100_F H.hk H.prim H.pl g15 g14 (lessN' (by omega))) (by simp), gs, ok, S, g4, ?_⟩
    rw [List.take_of_length_le (by omega)] at ho; exact ho
  | succ m ih =>
    intro i s h o ds him ok S ho g1 g4 g13 g14 g15 gs
    have hi : i < l.length := by omega
    have hd : l.take (i + 1) = l.take i ++ [l[i]] := by rw [List.take_add_one, List.getElem?_eq_getElem hi]; rfl
    obtain ⟨q, hq1, hq2⟩ := at22 H (hx.mono S ok0 (Nat.le_refl _)) (i := i) (by omega)
    have hxi := (hxs.get (i := i) (by omega) hi).mono S ok0 (Nat.le_refl _)
    obtain ⟨r, h1, c1, S1, ok1, rfl⟩ := hg cs[i] l[i] h (List.getElem_mem hi) ok S hxi
    have S' := S.trans (S1.le S.n)
    have ho1 := ho.mono S1 ok
    cases he : p l[i] with
    | true =>
      rw [he] at c1
      obtain ⟨hne, hbig⟩ := hok _ (List.getElem_mem hi)
      obtain ⟨y, h2, c2, S2, ok2, o2⟩ := clone_ret H ok1 hne hbig (hxi.mono S1 ok (Nat.le_refl _))
      have hol := ho.rows.length
      have hfl : ((l.take i).filter p).length ≤ i := by
        have := List.length_filter_le p (l.take i)
        rw [List.length_take] at this; omega
      obtain ⟨F, B, x', h3, b1, b2, b3, b4, b5⟩ := Own.app (P := K.P) (t := 22) (by rw [H.hP]; exact t22) ok2 (S'.trans (S2.le S'.n)).n (ho1.mono S2 ok1) (Row.off ho1.out (Nat.le_refl _) o2) (by decide) (by omega)
      obtain ⟨s1, r1, k1, k4, k13, k14, k15, ks⟩ : ∃ s1, Runs K 81 29 none (sub1 [1, 1, 0, 1, 0, 0] (bodyOf Tryz.f81)) s h .normal s1 h3 ∧ s1.at 1 = .fn G C ∧ s1.at 4 = x' ∧ s1.at 13 = x ∧ s1.at 14 = .nu .i64 (.ofNat l.length) ∧ s1.at 15 = .nu .i64 (.ofNat (i + 1)) ∧ s1.at slot = .undef :=
        ⟨_, f81_b110100_TT H.hk H.prim H.pl g15 g14 g13 g1 g4 (lessN hi) hq1 hq2 rfl c1 c2 b1 b2 (inc (by omega)), g1, rfl, g13, g14, rfl, gs⟩
      have hO : Own h0.n h3 46 x' (ds ++ [y]) ((l.take (i + 1)).filter p) := by
        rw [hd, List.filter_append, List.filter_cons, if_pos he, List.filter_nil]; exact b3
      obtain ⟨s', h', o', ds', r2, e1, e2, e3, e4, e5⟩ := ih (i + 1) s1 h3 x' _ (by omega) b5 ((S'.trans (S2.le S'.n)).trans b4) hO k1 k4 k13 k14 k15 ks
      exact ⟨s', h', o', ds', Runs.loop r1 r2, e1, e2, e3, e4, e5⟩
    | false =>
      rw [he] at c1
      obtain ⟨s1, r1, k1, k4, k13, k14, k15, ks⟩ : ∃ s1, Runs K 81 29 none (sub1 [1, 1, 0, 1, 0, 0] (bodyOf Tryz.f81)) s h .normal s1 h1 ∧ s1.at 1 = .fn G C ∧ s1.at 4 = o ∧ s1.at 13 = x ∧ s1.at 14 = .nu .i64 (.ofNat l.length) ∧ s1.at 15 = .nu .i64 (.ofNat (i + 1)) ∧ s1.at slot = .undef :=
        ⟨_, f81_b110100_TF H.hk H.prim H.pl g15 g14 g13 g1 (lessN hi) hq1 hq2 rfl c1 (inc (by omega)), g1, g4, g13, g14, rfl, gs⟩
      have hO : Own h0.n h1 46 o ds ((l.take (i + 1)).filter p) := by
        rw [hd, List.filter_append, List.filter_cons, if_neg (by rw [he]; simp), List.filter_nil, List.append_nil]; exact ho1
      obtain ⟨s', h', o', ds', r2, e1, e2, e3, e4, e5⟩ := ih (i + 1) s1 h1 o ds (by omega) ok1 S' hO k1 k4 k13 k14 k15 ks
      exact ⟨s', h', o', ds', Runs.loop r1 r2, e1, e2, e3, e4, e5⟩
def Kept (K : Ctx) (f : FuncId) (args : List CV) (h : Hp) (l : List (List Int)) : Prop := Ret K f args h fun r h' => ∃ o ds, r = .tup [o, .nu .i64 0] ∧ Own h.n h' 46 o ds l
theorem Own.low {N M el : Nat} {h : Hp} {x : CV} {cs : List CV} {l : List (List Int)} (hNM : M ≤ N) (O : Own N h el x cs l) : Own M h el x cs l := ⟨out_mono hNM O.out, O.rows⟩
theorem filter_ret (H : Std K) (ok : HpOk h) {l : List (List Int)} (hl : l.length < 549755813888) (hok : ∀ a ∈ l, a ≠ [] ∧ a.length < 1099511627776) {G : FuncId} {C : List CV} {p : List Int → Bool} (hg : Asks K h G C l p) {x : CV} {cs : List CV} (hx : Row h x cs) (hxs : Rows h cs l) (hc : Ret K 26 [x] h fun r _ => r = .nu .i64 0) : Kept K 81 [x, .fn G C] h (l.filter p) := by
  have hf : K.P.funcs[81]? = some Tryz.f81 := by rw [H.hP]; exact Tryz.func81
  obtain ⟨r, h1, c1, S1, ok1, rfl⟩ := hc
  have hlen := len22 H (hx.mono S1 ok (Nat.le_refl _))
  rw [hxs.length] at hlen
  obtain ⟨s1, r1, j0, j1, j4, js⟩ : ∃ s1, Runs K 81 29 none (sub1 [1, 0] (bodyOf Tryz.f81)) (T.set (T.set (entry 0 [x, .fn G C]) 4 .nils) 5 (.nu .i64 0)) h .normal s1 h1 ∧ s1.at 0 = x ∧ s1.at 1 = .fn G C ∧ s1.at 4 = .nils ∧ s1.at slot = .undef := ⟨_, f81_b10_F H.hk H.prim H.pl rfl c1 rfl, rfl, rfl, rfl, rfl⟩
  obtain ⟨s2, r2, k1, k4, k13, k14, k15, ks⟩ : ∃ s2, Runs K 81 29 none (sub1 [1, 1, 0, 0] (bodyOf Tryz.f81)) s1 h1 .normal s2 h1 ∧ s2.at 1 = .fn G C ∧ s2.at 4 = .nils ∧ s2.at 13 = x ∧ s2.at 14 = .nu .i64 (.ofNat l.length) ∧ s2.at 15 = .nu .i64 (.ofNat 0) ∧ s2.at slot = .undef := ⟨_, f81_r4 H.hk j0 hlen, j1, j4, rfl, rfl, rfl, js⟩
  obtain ⟨s3, h3, o3, ds3, r3, e1, e2, e3, e4, e5⟩ := filter_loop H ok1 hl hok (hg.mono S1) (hx.mono S1 ok (Nat.le_refl _)) (hxs.mono S1 ok (Nat.le_refl _)) l.length 0 s2 h1 .nils [] (by omega) ok1 (Same.refl _ _) (by simpa using Own.nil) k1 k4 k13 k14 k15 ks
  have S3 := S1.trans (e3.le S1.n)
  refine ⟨_, h3, Comes.plain hf rfl (H.memo 81 (by decide)) (H.spec 81) rfl (Runs.seq (f81_r0 H.hk) (Runs.seq r1 (Runs.seq (Runs.seq r2 (Runs.blockE r3)) (f81_b111 H.hk H.prim H.pl e4)))) (.inr rfl) S3.n e1 rfl rfl, S3, e2, o3, ds3, rfl, e5.low S1.n⟩
end
end Go.CP
