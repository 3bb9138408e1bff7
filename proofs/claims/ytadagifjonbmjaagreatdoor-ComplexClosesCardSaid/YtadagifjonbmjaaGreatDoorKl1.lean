import Derived.Test.YtadagifjonbmjaaGreatDoorKl0
import Derived.Test.YtadagifjonbmjaaGreatDoorKw1
set_option linter.all false
set_option maxRecDepth 100000
/- ComplexLinks: simplex.without, Facets; complex.of. -/
namespace Go.CP
open Go.Proofs
variable [LG] [HK]
theorem RunP.takeLayQ {K : Ctx} {ops : Array Oper} {o : Oper} {l : List Stp} {i : Nat} {s s2 : Fr} {h h2 : Hp} {F : Nat → CV} {b : HB} (ho : ops[i]? = some o) (hw : wantX ops o s = some true) (hl : layX K.P o (ev s) = some (F, b)) (rest : RunP K ops l [⟨i, o, false, F h.n, some (h.n, b)⟩] (Fr.putO s o.dst (F h.n)) (h.push b) s2 h2) : RunP K ops (.take i :: l) [] s h s2 h2 := RunP.takeLay ho hw hl rfl rest
theorem f117_r1 {K : Ctx} {s : Fr} {h : Hp} (hk : ∀ o, HK.keep o = false) {v0 v1 r8 r9 r12 r13 r14 : CV} {F5 : Nat → CV} {B5 : HB} {g1 g2 : Hp} (hp : K.plan 117 1 = some [.take 0, .take 1, .take 2, .take 3, .take 5, .take 6, .take 7, .take 8, .only 4 [8, 7, 6, 5], .only 9 [], .only 10 []]) (i0 : s.at 0 = v0) (i1 : s.at 1 = v1) (o5 : lSlice 0 [] (tyk K.P 46) = some (F5, B5)) (o8 : qSliceV none (some v1) (h.push B5) v0 (tyk K.P 46) = some r8) (o12 : bineq K.P .add 3 v1 (.nu .i64 1) = some r12) (o13 : qSliceV (some r12) none (h.push B5) v0 (tyk K.P 46) = some r13) (q13 : ceq r13 r13 = true) (wg1 : wApp (h.push B5) (F5 h.n) r8 (tyk K.P 46) (tyk K.P 46) = some (r9, g1)) (z13 : qSliceV (some r12) none g1 v0 (tyk K.P 46) = some r13) (wg2 : wApp g1 r9 r13 (tyk K.P 46) (tyk K.P 46) = some (r14, g2)) :
    Runs K 117 15 none (sub1 [1, 0] (bodyOf Tryz.f117)) s h .normal (T.set (T.set (T.set (T.set (T.set (T.set (T.set (T.set (T.set (T.set (T.set s 5 (F5 h.n)) 6 v0) 7 v1) 8 r8) 10 v0) 11 v1) 12 r12) 13 r13) 9 r9) 14 r14) 4 r14) g2 := by
  refine Runs.drawn hp ?_
  refine RunP.takeLayQ (F := F5) (b := B5) rfl rfl (by simp [layX, o5]) ?_
  refine RunP.q (v := v0) rfl rfl (Q_move rfl i0) ?_
  refine RunP.q (v := v1) rfl rfl (Q_move rfl i1) ?_
  refine RunP.q (v := r8) rfl rfl (Q_slice (lv := none) (hv := some v1) rfl rfl rfl rfl o8) ?_
  refine RunP.q (v := v0) rfl rfl (Q_move rfl i0) ?_
  refine RunP.q (v := v1) rfl rfl (Q_move rfl i1) ?_
  refine RunP.q (v := r12) rfl rfl (Q_bin rfl rfl rfl o12) ?_
  refine RunP.q (v := r13) rfl rfl (Q_slice (lv := some r12) (hv := none) rfl rfl rfl rfl o13) ?_
  refine RunP.only (v := r9) rfl rfl (W_app hk rfl rfl rfl rfl rfl rfl wg1) (by simp (decide := true) only [pdOk, looks, qX, ev, Fr.putO, Fr.at_set, reduceIte, Nat.reduceEqDiff, List.filter_cons, List.filter_nil, List.any_cons, List.any_nil, List.all_cons, List.all_nil, List.getElem_toArray, List.getElem_cons_succ, List.getElem_cons_zero, Option.map_some, Option.map_none, ofValue_int, qSlice_V, Bool.and_true, Bool.true_and, Bool.and_self, i0, i1, z13, q13]) ?_
  refine RunP.only (v := r14) rfl rfl (W_app hk rfl rfl rfl rfl rfl rfl wg2) rfl ?_
  refine RunP.only (v := r14) rfl rfl (Q1.e (Q_assign rfl rfl)) rfl ?_
  exact RunP.nil
theorem Row.blk {h : Hp} {x : CV} {cs : List CV} (r : Row h x cs) (hne : cs ≠ []) (ok : HpOk h) : ∃ k o n c, x = .sl k o n c ∧ k < h.n := by
  cases r with
  | nils => exact absurd rfl hne
  | sle => exact absurd rfl hne
  | none => exact absurd rfl hne
  | @some k o c cs hne' hs _ _ =>
    refine ⟨k, o, _, c, rfl, ?_⟩
    rcases Nat.lt_or_ge k h.n with hk | hk
    · exact hk
    · exact absurd (ok k hk) (hbSub_live hs)
theorem slice_congr {h h1 h2 : Hp} {x : CV} {cs : List CV} {lo hi : Option CV} {e by' : Nat} {z : List CV} (r : Row h x cs) (hne : cs ≠ []) (ok : HpOk h) (S1 : ∀ k, k < h.n → h1.get k = h.get k) (S2 : ∀ k, k < h.n → h2.get k = h.get k) : qSliceV lo hi h1 x (.slice e 1 by' z) = qSliceV lo hi h2 x (.slice e 1 by' z) := by
  obtain ⟨k, o, n, c, rfl, hk⟩ := r.blk hne ok
  have hg : h1.get k = h2.get k := by rw [S1 k hk, S2 k hk]
  have hq : ∀ a b, qSliceSl h1 1 k o c a b = qSliceSl h2 1 k o c a b := by
    intro a b
    cases a <;> cases b <;> simp only [qSliceSl, hg]
  simp only [qSliceV, hq]
theorem Same.get' {h h' : Hp} (S : Same h.n h h') : ∀ k, k < h.n → h'.get k = h.get k := S.get
/-- An empty slice, written out, and a row appended to it. -/
theorem new_emp {P : Program} {el b t : Nat} {h : Hp} {z0 : CV} (ht : tyk P t = .slice el 1 b [z0]) : ∃ F B, lSlice 0 [] (tyk P t) = some (F, B) ∧ New h.n (h.push B) el (F h.n) [] :=
  ⟨fun k => .sl k 0 0 0, .cells [] 0 el, by rw [ht]; rfl, .emp (Nat.le_refl _) (by simp) (by rw [Hp.get_push, if_pos rfl])⟩
section
variable {K : Ctx} {h : Hp}
theorem new46 (H : Std K) {N : Nat} {h : Hp} {x y : CV} {a b : List Int} (ok : HpOk h) (hN : N ≤ h.n) (r : New N h 3 x (Ints a)) (hy : Row h y (Ints b)) (hb : a.length + b.length < 1099511627776) : ∃ x' h', wApp h x y (tyk K.P 46) (tyk K.P 46) = some (x', h') ∧ New N h' 3 x' (Ints (a ++ b)) ∧ Same N h h' ∧ HpOk h' := by
  obtain ⟨x', h', h1, h2, h3, h4⟩ := r.app (z := [.nu .i64 0]) (t' := tyk K.P 46) (bytes := 8) ok hN hy (ints_one b) rfl ⟨_, _, _, by rw [H.hP]; exact t46⟩ (by simp only [ints_length]; omega) (by simp only [ints_length]; omega)
  refine ⟨x', h', by rw [← h1, H.hP, t46], ?_, h3, h4⟩
  have : Ints (a ++ b) = Ints a ++ Ints b := by simp [Ints]
  rw [this]; exact h2
theorem without_comes (H : Std K) (ok : HpOk h) {a : List Int} (h2 : 2 ≤ a.length) (hbig : a.length < 1099511627776) {i : Nat} (hi : i < a.length) {x : CV} (ha : Row h x (Ints a)) :
    ∃ x' h', Comes K 117 [x, .nu .i64 (.ofNat i)] h x' h' ∧ Same h.n h h' ∧ HpOk h' ∧ Out h.n h' 3 x' (Ints (a.eraseIdx i)) := by
  have hf : K.P.funcs[117]? = some Tryz.f117 := by rw [H.hP]; exact Tryz.func117
  have hne : a ≠ [] := by intro e; rw [e] at h2; simp at h2
  obtain ⟨F, B, b1, b2⟩ := new_emp (P := K.P) (t := 46) (h := h) (by rw [H.hP]; exact t46)
  have S0 : Same h.n h (h.push B) := Same.push (Nat.le_refl _) _
  have ha0 := ha.mono S0 ok (Nat.le_refl _)
  obtain ⟨y, y1, y2⟩ := cut46 H hne ha0 (lo := none) (hi := some (.nu .i64 (.ofNat i))) (i := 0) (j := i) rfl rfl (Nat.zero_le _) (by omega)
  obtain ⟨z, z1, z2⟩ := cut46 H hne ha0 (lo := some (.nu .i64 (.ofNat (i + 1)))) (hi := none) (i := i + 1) (j := a.length) rfl rfl (by omega) (Nat.le_refl _)
  rw [List.drop_zero, Nat.sub_zero] at y2
  rw [List.take_of_length_le (by simp)] at z2
  obtain ⟨x1, h1, c1, c2, c3, c4⟩ := new46 H (a := []) (ok.push B) S0.n b2 y2 (by simp; omega)
  have ha1 := ha.mono (S0.trans c3) ok (Nat.le_refl _)
  rw [List.nil_append] at c2
  obtain ⟨z', z1', z2'⟩ := cut46 H hne ha1 (lo := some (.nu .i64 (.ofNat (i + 1)))) (hi := none) (i := i + 1) (j := a.length) rfl rfl (by omega) (Nat.le_refl _)
  have hz : qSliceV (some (.nu .i64 (.ofNat (i + 1)))) none h1 x (tyk K.P 46) = some z := by
    rw [← z1, H.hP, t46]
    exact slice_congr ha (ints_ne hne) ok (S0.trans c3).get' S0.get'
  rw [z1'] at hz; cases hz
  rw [List.take_of_length_le (by simp)] at z2'
  obtain ⟨x2, h2', d1, d2, d3, d4⟩ := new46 H c4 (S0.trans c3).n c2 z2' (by simp; omega)
  have he : a.eraseIdx i = a.take i ++ a.drop (i + 1) := List.eraseIdx_eq_take_drop_succ _ _
  have hl : (a.eraseIdx i).length = a.length - 1 := by rw [List.length_eraseIdx]; simp [hi]
  refine ⟨x2, h2', ?_, (S0.trans c3).trans d3, d4, ?_⟩
  · exact Comes.plain hf rfl (H.memo 117 (by decide)) (H.spec 117) rfl (Runs.seq (f117_r0 H.hk) (Runs.seq (f117_r1 H.hk H.pl.p117_1 rfl rfl b1 y1 (inc (by omega)) z1 z2.ceq c1 z1' d1) Runs.ret)) (.inr rfl) ((S0.trans c3).trans d3).n rfl rfl rfl
  · rw [he]
    exact d2.got (ints_ne (by rw [← he]; intro e; rw [e] at hl; simp at hl; omega))
end
end Go.CP
/- ComplexLinks: simplex.Facets; complex.of. -/
namespace Go.CP
open Go.Proofs
variable [LG] [HK]
theorem t103 : tyk Tryz.prog 103 = .arr 5 3 1 false [.nu .i64 0, .nu .i64 0, .nu .i64 0, .nu .i64 0, .nu .i64 0] := by kernel_rfl
theorem z103 : tsz Tryz.prog 103 = some (5, true) := by kernel_rfl
theorem e103 : tzero Tryz.prog 103 = some (.agg [.nu .i64 0, .nu .i64 0, .nu .i64 0, .nu .i64 0, .nu .i64 0]) := by kernel_rfl
def facetsI (a : List Int) : List (List Int) := if a.length = 1 then [] else (List.range a.length).map a.eraseIdx
/-- A simplex as a key. -/
def padI (a : List Int) : List CV := Ints (a.map (· + 1)) ++ List.replicate (5 - a.length) (.nu .i64 0)
section
variable {K : Ctx} {h : Hp}
theorem facets_loop (H : Std K) {h0 : Hp} (ok0 : HpOk h0) {a : List Int} (h2 : 2 ≤ a.length) (hbig : a.length < 1099511627776) {x : CV} (ha : Row h0 x (Ints a)) : ∀ (m i : Nat) (s : Fr) (h : Hp) (o : CV) (cs : List CV), i + m = a.length → HpOk h → Same h0.n h0 h → Own h0.n h 46 o cs ((List.range i).map a.eraseIdx) → s.at 0 = x → s.at 2 = o → s.at 16 = .nu .i64 (.ofNat a.length) → s.at 17 = .nu .i64 (.ofNat i) → s.at slot = .undef →
    ∃ s' h' o' cs', Runs K 73 28 none (sub1 [1, 1, 0, 1, 0] (bodyOf Tryz.f73)) s h (.exit 0) s' h' ∧ s'.at slot = .undef ∧ HpOk h' ∧ Same h0.n h0 h' ∧ s'.at 2 = o' ∧ Own h0.n h' 46 o' cs' ((List.range a.length).map a.eraseIdx) := by
  intro m
  induction m with
  | zero =>
    intro i s h o cs him ok S ho g0 g2 g16 g17 gs
    refine ⟨_, _, o, cs, Runs.loopX (f73_b110100_F H.hk H.prim H.pl g17 g16 (lessN' (by omega))) (by simp), gs, ok, S, g2, ?_⟩
    rw [show a.length = i by omega]; exact ho
  | succ m ih =>
    intro i s h o cs him ok S ho g0 g2 g16 g17 gs
    have hi : i < a.length := by omega
    obtain ⟨y, h1, c1, c2, c3, c4⟩ := without_comes H ok h2 hbig hi (ha.mono S ok0 (Nat.le_refl _))
    have hl := ho.rows.length
    rw [List.length_map, List.length_range] at hl
    obtain ⟨F, B, x', h3, b1, b2, b3, b4, b5⟩ := Own.app (P := K.P) (t := 22) (by rw [H.hP]; exact t22) c3 (S.trans (c2.le S.n)).n (ho.mono c2 ok) (Row.off ho.out (Nat.le_refl _) c4) (by decide) (by omega)
    obtain ⟨s1, r1, k0, k2, k16, k17, ks⟩ : ∃ s1, Runs K 73 28 none (sub1 [1, 1, 0, 1, 0, 0] (bodyOf Tryz.f73)) s h .normal s1 h3 ∧ s1.at 0 = x ∧ s1.at 2 = x' ∧ s1.at 16 = .nu .i64 (.ofNat a.length) ∧ s1.at 17 = .nu .i64 (.ofNat (i + 1)) ∧ s1.at slot = .undef :=
      ⟨_, f73_b110100_T H.hk H.prim H.pl g17 g16 g2 g0 (lessN hi) c1 b1 b2 (inc (by omega)), g0, rfl, g16, rfl, gs⟩
    obtain ⟨s2, h4, o2, cs2, r2, e1, e2, e3, e4, e5⟩ := ih (i + 1) s1 h3 x' _ (by omega) b5 ((S.trans (c2.le S.n)).trans b4) (by rw [List.range_succ, List.map_append]; exact b3) k0 k2 k16 k17 ks
    exact ⟨s2, h4, o2, cs2, Runs.loop r1 r2, e1, e2, e3, e4, e5⟩
theorem facets_comes (H : Std K) (ok : HpOk h) {a : List Int} (hok : OkS a) {x : CV} (ha : Row h x (Ints a)) :
    ∃ x' cs' h', Comes K 73 [x] h (.tup [x', .nu .i64 0]) h' ∧ Same h.n h h' ∧ HpOk h' ∧ Own h.n h' 46 x' cs' (facetsI a) := by
  have hf : K.P.funcs[73]? = some Tryz.f73 := by rw [H.hP]; exact Tryz.func73
  have hle := hok.le
  have hlen := len46 H ha
  rw [ints_length] at hlen
  have o12 := eqln (P := K.P) (t := 3) (Int.ofNat a.length) 1
  by_cases h1 : a.length = 1
  · rw [ieq_t (by simp [h1])] at o12
    refine ⟨.nils, [], h, ?_, Same.refl _ _, ok, by rw [facetsI, if_pos h1]; exact Own.nil⟩
    exact Comes.plain hf rfl (H.memo 73 (by decide)) (H.spec 73) rfl (Runs.seq (f73_r0 H.hk) (Runs.seqX (f73_b10_fT H.hk H.prim H.pl rfl (check_comes H hok ha) rfl hlen o12 rfl) (by simp))) (.inr rfl) (Nat.le_refl _) rfl rfl rfl
  · rw [ieq_f (by simp; omega)] at o12
    have h2 : 2 ≤ a.length := by
      have : a.length ≠ 0 := fun e => hok.ne (List.eq_nil_of_length_eq_zero e)
      omega
    obtain ⟨s1, r1, k0, k2, ks⟩ : ∃ s1, Runs K 73 28 none (sub1 [1, 0] (bodyOf Tryz.f73)) (T.set (T.set (entry 0 [x]) 2 .nils) 3 (.nu .i64 0)) h .normal s1 h ∧ s1.at 0 = x ∧ s1.at 2 = .nils ∧ s1.at slot = .undef := ⟨_, f73_b10_fF H.hk H.prim H.pl rfl (check_comes H hok ha) rfl hlen o12 rfl, rfl, rfl, rfl⟩
    obtain ⟨s2, r2, l0, l2, l16, l17, ls⟩ : ∃ s2, Runs K 73 28 none (sub1 [1, 1, 0, 0] (bodyOf Tryz.f73)) s1 h .normal s2 h ∧ s2.at 0 = x ∧ s2.at 2 = .nils ∧ s2.at 16 = .nu .i64 (.ofNat a.length) ∧ s2.at 17 = .nu .i64 (.ofNat 0) ∧ s2.at slot = .undef := ⟨_, f73_r4 H.hk k0 hlen, k0, k2, rfl, rfl, ks⟩
    obtain ⟨s3, h3, o3, cs3, r3, e1, e2, e3, e4, e5⟩ := facets_loop H ok h2 (by omega) ha a.length 0 s2 h .nils [] (by omega) ok (Same.refl _ _) Own.nil l0 l2 l16 l17 ls
    refine ⟨o3, cs3, h3, ?_, e3, e2, by rw [facetsI, if_neg h1]; exact e5⟩
    exact Comes.plain hf rfl (H.memo 73 (by decide)) (H.spec 73) rfl (Runs.seq (f73_r0 H.hk) (Runs.seq r1 (Runs.seq (Runs.seq r2 (Runs.blockE r3)) (f73_b111 H.hk H.prim H.pl e4)))) (.inr rfl) e3.n e1 rfl rfl
theorem of_loop (H : Std K) {h0 : Hp} (ok0 : HpOk h0) {a : List Int} (hle : a.length ≤ 5) (hr : ∀ v ∈ a, 0 ≤ v ∧ v < 64) {x : CV} (ha : Row h0 x (Ints a)) {k : Nat} (hk : h0.n ≤ k) : ∀ (m i : Nat) (s : Fr) (h : Hp), i + m = a.length → HpOk h → Same h0.n h0 h → k < h.n → h.get k = .cells (Ints ((a.take i).map (· + 1)) ++ List.replicate (5 - i) (.nu .i64 0)) 0 103 → s.at 2 = .ptr k 0 → s.at 5 = x → s.at 6 = .nu .i64 (.ofNat a.length) → s.at 7 = .nu .i64 (.ofNat i) → s.at slot = .undef →
    ∃ s' h', Runs K 71 18 none (sub1 [1, 0, 1, 0] (bodyOf Tryz.f71)) s h (.exit 0) s' h' ∧ s'.at slot = .undef ∧ HpOk h' ∧ Same h0.n h0 h' ∧ k < h'.n ∧ s'.at 2 = .ptr k 0 ∧ h'.get k = .cells (padI a) 0 103 := by
  intro m
  induction m with
  | zero =>
    intro i s h him ok S hkn hg g2 g5 g6 g7 gs
    refine ⟨_, _, Runs.loopX (f71_b10100_F H.hk H.prim H.pl g7 g6 (lessN' (by omega))) (by simp), gs, ok, S, hkn, g2, ?_⟩
    rw [hg, padI, show i = a.length by omega, List.take_length]
  | succ m ih =>
    intro i s h him ok S hkn hg g2 g5 g6 g7 gs
    have hi : i < a.length := by omega
    obtain ⟨p, hp1, hp2⟩ := at46 H (ha.mono S ok0 (Nat.le_refl _)) hi
    have hv := hr _ (List.getElem_mem hi)
    have o14 := addI (P := K.P) (t := 3) (x := a[i]) (y := 1) (by omega) (by omega)
    have hlen : (Ints ((a.take i).map (· + 1))).length = i := by rw [ints_length, List.length_map, List.length_take]; omega
    have o15 : qIndexAddr (.ptr k 0) (.nu .i64 (.ofNat i)) (tyk K.P 103) = some (.ptr k (0 + i * 1)) := by
      rw [H.hP, t103]
      have hb : Nat.blt i 5 = true := by simp; omega
      simp only [qIndexAddr, qAt, hb]
    have hset : setAt (Ints ((a.take i).map (· + 1)) ++ List.replicate (5 - i) (.nu .i64 0)) i [.nu .i64 (a[i] + 1)] = Ints ((a.take (i + 1)).map (· + 1)) ++ List.replicate (5 - (i + 1)) (.nu .i64 0) := by
      rw [setAt_one, List.set_append_right _ _ (by omega), hlen, Nat.sub_self, show 5 - i = (5 - (i + 1)) + 1 by omega, List.replicate_succ, List.set_cons_zero, List.take_add_one, List.getElem?_eq_getElem hi]
      simp only [Option.toList, List.map_append, List.map_cons, List.map_nil, Ints, List.append_assoc, List.cons_append, List.nil_append]
    have w1 : wStore h (.ptr k (0 + i * 1)) (.nu .i64 (a[i] + 1)) (tsz K.P 3) = some (.undef, h.set k (.cells (Ints ((a.take (i + 1)).map (· + 1)) ++ List.replicate (5 - (i + 1)) (.nu .i64 0)) 0 103)) := by
      rw [H.hP, z3]
      show wStoreB h k (0 + i * 1) 1 _ (h.get k) = _
      have hlt : Nat.ble (i + 1) (Ints ((a.take i).map (· + 1)) ++ List.replicate (5 - i) (CV.nu .i64 0)).length = true := Nat.ble_eq_true_of_le (by rw [List.length_append, hlen, List.length_replicate]; omega)
      rw [hg]
      simp only [wStoreB, CV.sol, CV.cells, List.all_cons, CV.one, List.all_nil, Bool.and_self, List.length_singleton, Nat.beq_refl, Nat.mul_one, Nat.zero_add, hlt, hset]
    obtain ⟨s1, r1, k2, k5, k6, k7, ks⟩ : ∃ s1, Runs K 71 18 none (sub1 [1, 0, 1, 0, 0] (bodyOf Tryz.f71)) s h .normal s1 _ ∧ s1.at 2 = .ptr k 0 ∧ s1.at 5 = x ∧ s1.at 6 = .nu .i64 (.ofNat a.length) ∧ s1.at 7 = .nu .i64 (.ofNat (i + 1)) ∧ s1.at slot = .undef :=
      ⟨_, f71_b10100_T H.hk H.prim H.pl g7 g6 g5 g2 (lessN hi) hp1 hp2 o14 o15 w1 (inc (by omega)), g2, g5, g6, rfl, gs⟩
    obtain ⟨s2, h2, r2, rest⟩ := ih (i + 1) s1 _ (by omega) (ok.set hkn _) (S.trans (Same.set hk _)) hkn (by rw [Hp.get_set, if_pos rfl]) k2 k5 k6 k7 ks
    exact ⟨s2, h2, Runs.loop r1 r2, rest⟩
theorem padI_length {a : List Int} (hle : a.length ≤ 5) : (padI a).length = 5 := by simp [padI, Ints]; omega
theorem of_comes (H : Std K) (ok : HpOk h) {a : List Int} (hle : a.length ≤ 5) (hr : ∀ v ∈ a, 0 ≤ v ∧ v < 64) {x : CV} (ha : Row h x (Ints a)) :
    ∃ h', Comes K 71 [x] h (.agg (padI a)) h' ∧ Same h.n h h' ∧ HpOk h' := by
  have hf : K.P.funcs[71]? = some Tryz.f71 := by rw [H.hP]; exact Tryz.func71
  have o2 : lAlloc 103 (tzero K.P 103) = some (fun k => .ptr k 0, .cells [.nu .i64 0, .nu .i64 0, .nu .i64 0, .nu .i64 0, .nu .i64 0] 0 103) := by rw [H.hP, e103]; rfl
  have S0 : Same h.n h (h.push (.cells [.nu .i64 0, .nu .i64 0, .nu .i64 0, .nu .i64 0, .nu .i64 0] 0 103)) := Same.push (Nat.le_refl _) _
  have hlen := len46 H (ha.mono S0 ok (Nat.le_refl _))
  rw [ints_length] at hlen
  obtain ⟨s1, r1, k2, k5, k6, k7, ks⟩ : ∃ s1, Runs K 71 18 none (sub1 [1, 0, 0] (bodyOf Tryz.f71)) (T.set (entry 0 [x]) 2 (.ptr h.n 0)) (h.push (.cells [.nu .i64 0, .nu .i64 0, .nu .i64 0, .nu .i64 0, .nu .i64 0] 0 103)) .normal s1 (h.push (.cells [.nu .i64 0, .nu .i64 0, .nu .i64 0, .nu .i64 0, .nu .i64 0] 0 103)) ∧ s1.at 2 = .ptr h.n 0 ∧ s1.at 5 = x ∧ s1.at 6 = .nu .i64 (.ofNat a.length) ∧ s1.at 7 = .nu .i64 (.ofNat 0) ∧ s1.at slot = .undef := ⟨_, f71_r1 H.hk rfl hlen, rfl, rfl, rfl, rfl, rfl⟩
  obtain ⟨s2, h2, r2, e1, e2, e3, e4, e5, e6⟩ := of_loop H ok hle hr ha (Nat.le_refl h.n) a.length 0 s1 _ (by omega) (ok.push _) S0 (by simp) (by rw [Hp.get_push, if_pos rfl]; rfl) k2 k5 k6 k7 ks
  have hpl := padI_length hle
  have hsub : sub (padI a) 0 5 = padI a := by simp only [sub, List.drop_zero]; exact List.take_of_length_le (by omega)
  have hv : hbVal 0 5 true (h2.get h.n) = some (.agg (padI a)) := by
    rw [e6]
    simp only [hbVal, val, Nat.zero_add, hpl, Nat.ble_eq_true_of_le (Nat.le_refl _), hsub]
  have o17 : qLoad h2 (.ptr h.n 0) (tsz K.P 103) = some (.agg (padI a)) := by rw [H.hP, z103]; exact hv
  have hone : (padI a).all CV.one = true := by
    simp only [padI, List.all_append, Bool.and_eq_true]
    exact ⟨ints_one _, by simp [List.all_eq_true, CV.one]⟩
  have hcells : CV.cells (.agg (padI a)) = padI a := rfl
  have w1 : wStore h2 (.ptr h.n 0) (.agg (padI a)) (tsz K.P 103) = some (.undef, h2.set h.n (.cells (setAt (padI a) 0 (padI a)) 0 103)) := by
    rw [H.hP, z103]
    show wStoreB h2 h.n 0 5 _ (h2.get h.n) = _
    rw [e6]
    simp only [wStoreB, CV.sol, hcells, hone, hpl, Nat.beq_refl, Nat.zero_add, Nat.ble_eq_true_of_le (Nat.le_refl _), Bool.and_self]
  have S2 : Same h.n h (h2.set h.n (.cells (setAt (padI a) 0 (padI a)) 0 103)) := e3.trans (Same.set (Nat.le_refl _) _)
  refine ⟨_, ?_, S2, e2.set e4 _⟩
  refine Comes.plain hf rfl (H.memo 71 (by decide)) (H.spec 71) rfl (Runs.seq (f71_r0 H.hk o2) (Runs.seq (Runs.seq r1 (Runs.blockE r2)) (f71_b11 H.hk H.prim H.pl e5 o17 w1))) (.inr rfl) S2.n e1 (vs := [.agg (padI a)]) ?_ rfl
  have hv2 : hbVal 0 5 true ((h2.set h.n (.cells (setAt (padI a) 0 (padI a)) 0 103)).get h.n) = some (.agg (padI a)) := by
    rw [Hp.get_set, if_pos rfl, setAt_full _ _ rfl]
    simp only [hbVal, val, Nat.zero_add, hpl, Nat.ble_eq_true_of_le (Nat.le_refl _), hsub]
  have hres : Tryz.f71.results.toList = [.cell 2 103] := rfl
  have ha2 : Fr.at (T.set s2 17 (.agg (padI a))) 2 = .ptr h.n 0 := e5
  rw [hres]
  simp only [resX, ha2, H.hP, z103, hv2]
end
end Go.CP
/- ComplexLinks: complex.Check of a valid complex. -/
namespace Go.CP
open Go.Proofs
variable [LG] [HK]
theorem t100 : tyk Tryz.prog 100 = .map 103 46 := by kernel_rfl
theorem t3 : tyk Tryz.prog 3 = .int .i64 := by kernel_rfl
theorem e46 : tzero Tryz.prog 46 = some .nils := by kernel_rfl
/-- A valid complex. -/
structure OkC (l : List (List Int)) : Prop where
  simp : ∀ a ∈ l, OkS a
  asc : ∀ i (h : i + 1 < l.length), cmpI l[i + 1] l[i] = 1
  face : ∀ a ∈ l, ∀ f ∈ facetsI a, f ∈ l
  le : l.length ≤ 1024
/-! ### Maps whose keys are lists of numbers -/
def NumL (cs : List CV) : Prop := cs.length = 5 ∧ ∀ c ∈ cs, ∃ n, c = .nu .i64 n
def NumK (k : CV) : Prop := ∃ cs, k = .agg cs ∧ NumL cs
theorem feqL_tot : ∀ (xs ys : List CV), xs.length = ys.length → (∀ c ∈ xs, ∃ n, c = CV.nu .i64 n) → (∀ c ∈ ys, ∃ n, c = CV.nu .i64 n) → ∃ b, feqL xs ys = some b
  | [], [], _, _, _ => ⟨true, rfl⟩
  | [], _ :: _, h, _, _ => by simp at h
  | _ :: _, [], h, _, _ => by simp at h
  | x :: xs, y :: ys, h, hx, hy => by
    obtain ⟨n, rfl⟩ := hx x List.mem_cons_self
    obtain ⟨m, rfl⟩ := hy y List.mem_cons_self
    obtain ⟨b, hb⟩ := feqL_tot xs ys (by simpa using h) (fun c hc => hx c (List.mem_cons_of_mem _ hc)) (fun c hc => hy c (List.mem_cons_of_mem _ hc))
    cases hq : ieq n m with
    | true => exact ⟨b, by simp only [feqL, feq, keq, hq, hb]⟩
    | false => exact ⟨false, by simp only [feqL, feq, keq, hq]⟩
theorem feqL_self : ∀ (xs : List CV), (∀ c ∈ xs, ∃ n, c = CV.nu .i64 n) → feqL xs xs = some true
  | [], _ => rfl
  | x :: xs, h => by
    obtain ⟨n, rfl⟩ := h x List.mem_cons_self
    have := feqL_self xs (fun c hc => h c (List.mem_cons_of_mem _ hc))
    simp only [feqL, feq, keq, ieq_self, this]
theorem kcmp_tot {k k' : CV} (h : NumK k) (h' : NumK k') : ∃ b, kcmp k k' = some b := by
  obtain ⟨cs, rfl, h1, h2⟩ := h
  obtain ⟨ds, rfl, h3, h4⟩ := h'
  exact feqL_tot cs ds (by omega) h2 h4
theorem kcmp_self {k : CV} (h : NumK k) : kcmp k k = some true := by
  obtain ⟨cs, rfl, h1, h2⟩ := h
  exact feqL_self cs h2
theorem updM_ok {key v : CV} (hk : NumK key) : ∀ (es : List (CV × CV)), (∀ e ∈ es, NumK e.1) → ∃ es', updM key v es = some es' ∧ (∀ e ∈ es', NumK e.1) ∧ lookM key es' = some (some v) ∧ ∀ key' u, NumK key' → lookM key' es = some (some u) → lookM key' es' = some (some u) ∨ lookM key' es' = some (some v)
  | [], _ => ⟨[(key, v)], rfl, by intro e he; simp at he; rw [he]; exact hk, by simp only [lookM, kcmp_self hk], by intro key' u _ h; cases h⟩
  | (k, u) :: es, h => by
    have hku := h (k, u) List.mem_cons_self
    have hes : ∀ e ∈ es, NumK e.1 := fun e he => h e (List.mem_cons_of_mem _ he)
    obtain ⟨b, hb⟩ := kcmp_tot hk hku
    cases b with
    | true =>
      refine ⟨(k, v) :: es, by simp only [updM, hb], ?_, by simp only [lookM, hb], ?_⟩
      · intro e he
        rcases List.mem_cons.1 he with rfl | he
        · exact hku
        · exact hes e he
      · intro key' w hk' hl
        obtain ⟨b', hb'⟩ := kcmp_tot hk' hku
        cases b' with
        | true => exact .inr (by simp only [lookM, hb'])
        | false => exact .inl (by simp only [lookM, hb'] at hl ⊢; exact hl)
    | false =>
      obtain ⟨es', e1, e2, e3, e4⟩ := updM_ok (v := v) hk es hes
      refine ⟨(k, u) :: es', by simp only [updM, hb, e1], ?_, by simp only [lookM, hb, e3], ?_⟩
      · intro e he
        rcases List.mem_cons.1 he with rfl | he
        · exact hku
        · exact e2 e he
      · intro key' w hk' hl
        obtain ⟨b', hb'⟩ := kcmp_tot hk' hku
        cases b' with
        | true => exact .inl (by simp only [lookM, hb'] at hl ⊢; exact hl)
        | false =>
          simp only [lookM, hb'] at hl ⊢
          exact e4 key' w hk' hl
theorem numL_pad {a : List Int} (h : a.length ≤ 5) : NumL (padI a) := by
  refine ⟨padI_length h, fun c hc => ?_⟩
  simp only [padI, Ints, List.mem_append, List.mem_map, List.mem_replicate] at hc
  rcases hc with ⟨n, _, rfl⟩ | ⟨_, rfl⟩ <;> exact ⟨_, rfl⟩
theorem numK_pad {a : List Int} (h : a.length ≤ 5) : NumK (.agg (padI a)) := ⟨_, rfl, numL_pad h⟩
/-- The key is there, with a slice that is not nil. -/
def HasK (es : List (CV × CV)) (a : List Int) : Prop := ∃ k o n c, lookM (.agg (padI a)) es = some (some (.sl k o n c))
section
variable {K : Ctx} {h : Hp}
theorem keyOk_pad (H : Std K) {a : List Int} (h : a.length ≤ 5) : keyOk K.P 103 (.agg (padI a)) = true := by
  have hall : (padI a).all (fun c => match c with
      | .nu k' _ => keq .i64 k'
      | _ => false) = true := by
    rw [List.all_eq_true]
    intro c hc
    obtain ⟨n, rfl⟩ := (numL_pad h).2 c hc
    rfl
  simp only [keyOk, H.hP, t103, t3, padI_length h, Nat.beq_refl, Bool.true_and]
  exact hall
theorem seen_loop (H : Std K) {h0 : Hp} (ok0 : HpOk h0) {l : List (List Int)} (hC : OkC l) {x : CV} {cs : List CV} (hx : Row h0 x cs) (hxs : Rows h0 cs l) {km : Nat} (hkm : h0.n ≤ km) : ∀ (m i : Nat) (s : Fr) (h : Hp) (es : List (CV × CV)), i + m = l.length → HpOk h → Same h0.n h0 h → km < h.n → h.get km = .mp es → (∀ e ∈ es, NumK e.1) → (∀ j (hj : j < l.length), j < i → HasK es l[j]) → s.at 0 = x → s.at 3 = .mp km → s.at 17 = x → s.at 18 = .nu .i64 (.ofNat l.length) → s.at 19 = .nu .i64 (.ofNat i) → s.at slot = .undef →
    ∃ s' h' es', Runs K 26 74 none (sub1 [1, 1, 1, 0, 1, 0] (bodyOf Tryz.f26)) s h (.exit 0) s' h' ∧ s'.at slot = .undef ∧ HpOk h' ∧ Same h0.n h0 h' ∧ km < h'.n ∧ s'.at 0 = x ∧ s'.at 3 = .mp km ∧ h'.get km = .mp es' ∧ (∀ e ∈ es', NumK e.1) ∧ (∀ a ∈ l, HasK es' a) := by
  intro m
  have hcl := hxs.length
  have hl1024 := hC.le
  induction m with
  | zero =>
    intro i s h es him ok S hkn hg hnum hhas g0 g3 g17 g18 g19 gs
    refine ⟨_, _, es, Runs.loopX (f26_b1110100_F H.hk H.prim H.pl g19 g18 (lessN' (by omega))) (by simp), gs, ok, S, hkn, g0, g3, hg, hnum, fun a ha => ?_⟩
    obtain ⟨j, hj, rfl⟩ := List.getElem_of_mem ha
    exact hhas j hj (by omega)
  | succ m ih =>
    intro i s h es him ok S hkn hg hnum hhas g0 g3 g17 g18 g19 gs
    have hi : i < l.length := by omega
    have hr := hx.mono S ok0 (Nat.le_refl _)
    obtain ⟨p, hp1, hp2⟩ := at22 H hr (i := i) (by omega)
    have hxi0 := hxs.get (i := i) (by omega) hi
    have hxi := hxi0.mono S ok0 (Nat.le_refl _)
    have hok := hC.simp _ (List.getElem_mem hi)
    obtain ⟨k, o, n, c, hsl, _⟩ := hxi.blk (ints_ne hok.ne) ok
    have c25 := check_comes H hok hxi
    obtain ⟨h1, c26, S1, ok1⟩ := of_comes H ok hok.le hok.rng hxi
    have hg1 : h1.get km = .mp es := by rw [S1.get km hkn]; exact hg
    have hkn1 : km < h1.n := Nat.lt_of_lt_of_le hkn S1.n
    obtain ⟨es', u1, u2, u3, u4⟩ := updM_ok (v := cs[i]) (numK_pad hok.le) es hnum
    have w3 : wMap K.P h1 (.mp km) (.agg (padI l[i])) cs[i] (tyk K.P 100) = some (.undef, h1.set km (.mp es')) := by
      rw [show tyk K.P 100 = .map 103 46 by rw [H.hP]; exact t100]
      simp only [wMap, keyOk_pad H hok.le, wMapB, hg1, u1, wMapE]
    obtain ⟨s1, r1, k0, k3, k17, k18, k19, ks⟩ : ∃ s1, Runs K 26 74 none (sub1 [1, 1, 1, 0, 1, 0, 0] (bodyOf Tryz.f26)) s h .normal s1 (h1.set km (.mp es')) ∧ s1.at 0 = x ∧ s1.at 3 = .mp km ∧ s1.at 17 = x ∧ s1.at 18 = .nu .i64 (.ofNat l.length) ∧ s1.at 19 = .nu .i64 (.ofNat (i + 1)) ∧ s1.at slot = .undef :=
      ⟨_, f26_b1110100_TT H.hk H.prim H.pl g19 g18 g17 g3 (lessN hi) hp1 hp2 c25 rfl c26 w3 (inc (by omega)), g0, g3, g17, g18, rfl, gs⟩
    have S' : Same h0.n h0 (h1.set km (.mp es')) := (S.trans (S1.le S.n)).trans (Same.set hkm _)
    obtain ⟨s2, h2, es2, r2, rest⟩ := ih (i + 1) s1 (h1.set km (.mp es')) es' (by omega) (ok1.set hkn1 _) S' hkn1 (by rw [Hp.get_set, if_pos rfl]) u2 (by
      intro j hj hji
      rcases Nat.lt_or_ge j i with hlt | hge
      · obtain ⟨k', o', n', c', hl⟩ := hhas j hj hlt
        have hokj := hC.simp _ (List.getElem_mem hj)
        rcases u4 _ _ (numK_pad hokj.le) hl with h3 | h3
        · exact ⟨_, _, _, _, h3⟩
        · rw [hsl] at h3; exact ⟨_, _, _, _, h3⟩
      · have : j = i := by omega
        subst this
        rw [hsl] at u3; exact ⟨_, _, _, _, u3⟩) k0 k3 k17 k18 k19 ks
    exact ⟨s2, h2, es2, Runs.loop r1 r2, rest⟩
theorem sl_nil (H : Std K) (k o n c : Nat) : bineq K.P .eql 46 (.sl k o n c) .nils = some (.bo false) := by
  have : tyk K.P 46 = .slice 3 1 8 [.nu .i64 0] := by rw [H.hP]; exact t46
  simp only [bineq, abin, aeq, this]
theorem look_comes (H : Std K) {h : Hp} {km : Nat} {es : List (CV × CV)} {a : List Int} (hle : a.length ≤ 5) (hg : h.get km = .mp es) {k o n c : Nat} (hl : lookM (.agg (padI a)) es = some (some (.sl k o n c))) : qLookup K.P h false (.agg (padI a)) (.mp km) (tyk K.P 100) = some (.sl k o n c) := by
  have h1 : tyk K.P 100 = .map 103 46 := by rw [H.hP]; exact t100
  have h2 : tzero K.P 46 = some .nils := by rw [H.hP]; exact e46
  rw [h1]
  simp only [qLookup, keyOk_pad H hle, qLook, h2, hbLook, hg, hl, qFound, okV]
theorem faceIn_loop (H : Std K) {v0 v31 v32 v33 y : CV} {fs : List CV} {f : List (List Int)} (hf : ∀ a ∈ f, a.length ≤ 5 ∧ ∀ v ∈ a, 0 ≤ v ∧ v < 64) (hfl : f.length < 4611686018427387904) {km : Nat} {es : List (CV × CV)} (hh : ∀ a ∈ f, HasK es a) : ∀ (m i : Nat) (s : Fr) (h : Hp), i + m = f.length → HpOk h → Row h y fs → Rows h fs f → km < h.n → h.get km = .mp es → s.at 0 = v0 → s.at 3 = .mp km → s.at 31 = v31 → s.at 32 = v32 → s.at 33 = v33 → s.at 61 = y → s.at 62 = .nu .i64 (.ofNat f.length) → s.at 63 = .nu .i64 (.ofNat i) → s.at slot = .undef →
    ∃ s' h', Runs K 26 74 none (sub1 [1, 1, 1, 1, 0, 1, 0, 0, 1, 1, 0, 0, 1, 1, 1, 1, 1, 0] (bodyOf Tryz.f26)) s h (.exit 5) s' h' ∧ s'.at slot = .undef ∧ HpOk h' ∧ Same h.n h h' ∧ s'.at 0 = v0 ∧ s'.at 3 = .mp km ∧ s'.at 31 = v31 ∧ s'.at 32 = v32 ∧ s'.at 33 = v33 := by
  intro m
  induction m with
  | zero =>
    intro i s h him ok hy hfs hkn hg g0 g3 g31 g32 g33 g61 g62 g63 gs
    exact ⟨_, _, Runs.loopX (f26_b1111010011001111100_F H.hk H.prim H.pl g63 g62 (lessN' (by omega))) (by simp), gs, ok, Same.refl _ _, g0, g3, g31, g32, g33⟩
  | succ m ih =>
    intro i s h him ok hy hfs hkn hg g0 g3 g31 g32 g33 g61 g62 g63 gs
    have hi : i < f.length := by omega
    have hcl := hfs.length
    obtain ⟨p, hp1, hp2⟩ := at22 H hy (i := i) (by omega)
    have hxi := hfs.get (i := i) (by omega) hi
    obtain ⟨hle, hr⟩ := hf _ (List.getElem_mem hi)
    obtain ⟨h1, c26, S1, ok1⟩ := of_comes H ok hle hr hxi
    have hg1 : h1.get km = .mp es := by rw [S1.get km hkn]; exact hg
    obtain ⟨k, o, n, c, hl⟩ := hh _ (List.getElem_mem hi)
    have o70 := look_comes H hle hg1 hl
    obtain ⟨s1, r1, k0, k3, k31, k32, k33, k61, k62, k63, ks⟩ : ∃ s1, Runs K 26 74 none (sub1 [1, 1, 1, 1, 0, 1, 0, 0, 1, 1, 0, 0, 1, 1, 1, 1, 1, 0, 0] (bodyOf Tryz.f26)) s h .normal s1 h1 ∧ s1.at 0 = v0 ∧ s1.at 3 = .mp km ∧ s1.at 31 = v31 ∧ s1.at 32 = v32 ∧ s1.at 33 = v33 ∧ s1.at 61 = y ∧ s1.at 62 = .nu .i64 (.ofNat f.length) ∧ s1.at 63 = .nu .i64 (.ofNat (i + 1)) ∧ s1.at slot = .undef :=
      ⟨_, f26_b1111010011001111100_TF H.hk H.prim H.pl g63 g62 g61 g3 (lessN hi) hp1 hp2 c26 o70 (sl_nil H k o n c) (inc (by omega)), g0, g3, g31, g32, g33, g61, g62, rfl, gs⟩
    obtain ⟨s2, h2, r2, e1, e2, e3, e4⟩ := ih (i + 1) s1 h1 (by omega) ok1 (hy.mono S1 ok (Nat.le_refl _)) (hfs.mono S1 ok (Nat.le_refl _)) (Nat.lt_of_lt_of_le hkn S1.n) hg1 k0 k3 k31 k32 k33 k61 k62 k63 ks
    exact ⟨s2, h2, Runs.loop r1 r2, e1, e2, S1.trans (e3.le S1.n), e4⟩
theorem facetsI_ok {a f : List Int} (hok : OkS a) (hf : f ∈ facetsI a) : f.length ≤ 5 ∧ ∀ v ∈ f, 0 ≤ v ∧ v < 64 := by
  unfold facetsI at hf
  split at hf
  · simp at hf
  · obtain ⟨i, _, rfl⟩ := List.mem_map.1 hf
    have h1 := hok.le
    refine ⟨?_, fun v hv => hok.rng v (List.mem_of_mem_eraseIdx hv)⟩
    have := List.length_eraseIdx_le a i
    omega
theorem facetsI_length (a : List Int) : (facetsI a).length ≤ a.length := by
  unfold facetsI; split <;> simp
theorem cell_loop (H : Std K) {h0 : Hp} (ok0 : HpOk h0) {l : List (List Int)} (hC : OkC l) {x : CV} {cs : List CV} (hx : Row h0 x cs) (hxs : Rows h0 cs l) {km : Nat} (hkm : h0.n ≤ km) {es : List (CV × CV)} (hh : ∀ a ∈ l, HasK es a) : ∀ (m i : Nat) (s : Fr) (h : Hp), i + m = l.length → HpOk h → Same h0.n h0 h → km < h.n → h.get km = .mp es → s.at 0 = x → s.at 3 = .mp km → s.at 31 = x → s.at 32 = .nu .i64 (.ofNat l.length) → s.at 33 = .nu .i64 (.ofNat i) → s.at slot = .undef →
    ∃ s' h', Runs K 26 74 none (sub1 [1, 1, 1, 1, 0, 1, 0] (bodyOf Tryz.f26)) s h (.exit 2) s' h' ∧ s'.at slot = .undef ∧ HpOk h' ∧ Same h0.n h0 h' := by
  intro m
  have hcl := hxs.length
  induction m with
  | zero =>
    intro i s h him ok S hkn hg g0 g3 g31 g32 g33 gs
    obtain ⟨s1, r1, k34, ks⟩ : ∃ s1, Runs K 26 74 none (sub1 [1, 1, 1, 1, 0, 1, 0, 0, 0] (bodyOf Tryz.f26)) s h .normal s1 h ∧ s1.at 34 = .bo false ∧ s1.at slot = .undef := ⟨_, f26_r11 H.hk g33 g32 (lessN' (by omega)), rfl, gs⟩
    exact ⟨_, _, Runs.loopX (Runs.seq r1 (Runs.seqX (f26_b1111010010_F H.hk H.prim H.pl k34) (by simp))) (by simp), ks, ok, S⟩
  | succ m ih =>
    intro i s h him ok S hkn hg g0 g3 g31 g32 g33 gs
    have hi : i < l.length := by omega
    have hr := hx.mono S ok0 (Nat.le_refl _)
    have hrs := hxs.mono S ok0 (Nat.le_refl _)
    obtain ⟨p, hp1, hp2⟩ := at22 H hr (i := i) (by omega)
    have hxi := hrs.get (i := i) (by omega) hi
    have hok := hC.simp _ (List.getElem_mem hi)
    obtain ⟨s1, r1, j0, j3, j31, j32, j33, j34, js⟩ : ∃ s1, Runs K 26 74 none (sub1 [1, 1, 1, 1, 0, 1, 0, 0, 0] (bodyOf Tryz.f26)) s h .normal s1 h ∧ s1.at 0 = x ∧ s1.at 3 = .mp km ∧ s1.at 31 = x ∧ s1.at 32 = .nu .i64 (.ofNat l.length) ∧ s1.at 33 = .nu .i64 (.ofNat i) ∧ s1.at 34 = .bo true ∧ s1.at slot = .undef := ⟨_, f26_r11 H.hk g33 g32 (lessN hi), g0, g3, g31, g32, g33, rfl, gs⟩
    obtain ⟨s2, r2, k0, k3, k31, k32, k33, k6, k7, ks⟩ : ∃ s2, Runs K 26 74 none (sub1 [1, 1, 1, 1, 0, 1, 0, 0, 1, 1, 0, 0, 0] (bodyOf Tryz.f26)) s1 h .normal s2 h ∧ s2.at 0 = x ∧ s2.at 3 = .mp km ∧ s2.at 31 = x ∧ s2.at 32 = .nu .i64 (.ofNat l.length) ∧ s2.at 33 = .nu .i64 (.ofNat i) ∧ s2.at 6 = .nu .i64 (.ofNat i) ∧ s2.at 7 = cs[i] ∧ s2.at slot = .undef := ⟨_, f26_r12 H.hk j33 j31 hp1 hp2, j0, j3, j31, j32, j33, rfl, rfl, js⟩
    obtain ⟨y, fs, h3, c3, S3, ok3, own3⟩ := facets_comes H ok hok hxi
    obtain ⟨s3, r3, l0, l3, l31, l32, l33, l6, l7, l8, l9, ls⟩ : ∃ s3, Runs K 26 74 none (sub1 [1, 1, 1, 1, 0, 1, 0, 0, 1, 1, 0, 0, 1, 0] (bodyOf Tryz.f26)) s2 h .normal s3 h3 ∧ s3.at 0 = x ∧ s3.at 3 = .mp km ∧ s3.at 31 = x ∧ s3.at 32 = .nu .i64 (.ofNat l.length) ∧ s3.at 33 = .nu .i64 (.ofNat i) ∧ s3.at 6 = .nu .i64 (.ofNat i) ∧ s3.at 7 = cs[i] ∧ s3.at 8 = y ∧ s3.at 9 = .nu .i64 0 ∧ s3.at slot = .undef := ⟨_, f26_r13 H.hk k7 (H.prim _ _) c3 rfl rfl, k0, k3, k31, k32, k33, k6, k7, rfl, rfl, ks⟩
    obtain ⟨s4, r4, m0, m3, m31, m32, m33, m6, m7, m8, ms⟩ : ∃ s4, Runs K 26 74 none (sub1 [1, 1, 1, 1, 0, 1, 0, 0, 1, 1, 0, 0, 1, 1, 0] (bodyOf Tryz.f26)) s3 h3 .normal s4 h3 ∧ s4.at 0 = x ∧ s4.at 3 = .mp km ∧ s4.at 31 = x ∧ s4.at 32 = .nu .i64 (.ofNat l.length) ∧ s4.at 33 = .nu .i64 (.ofNat i) ∧ s4.at 6 = .nu .i64 (.ofNat i) ∧ s4.at 7 = cs[i] ∧ s4.at 8 = y ∧ s4.at slot = .undef := ⟨_, f26_b111101001100110_F H.hk H.prim H.pl l9 rfl, l0, l3, l31, l32, l33, l6, l7, l8, ls⟩
    have S03 : Same h0.n h0 h3 := S.trans (S3.le S.n)
    have hkn3 : km < h3.n := Nat.lt_of_lt_of_le hkn S3.n
    have hg3 : h3.get km = .mp es := by rw [S3.get km hkn]; exact hg
    obtain ⟨s5, r5, n0, n3, n31, n32, n33, n8, ns⟩ : ∃ s5, Runs K 26 74 none (sub1 [1, 1, 1, 1, 0, 1, 0, 0, 1, 1, 0, 0, 1, 1, 1, 0] (bodyOf Tryz.f26)) s4 h3 .normal s5 h3 ∧ s5.at 0 = x ∧ s5.at 3 = .mp km ∧ s5.at 31 = x ∧ s5.at 32 = .nu .i64 (.ofNat l.length) ∧ s5.at 33 = .nu .i64 (.ofNat i) ∧ s5.at 8 = y ∧ s5.at slot = .undef := by
      cases hi0 : i with
      | zero =>
        subst hi0
        exact ⟨_, f26_b1111010011001110_F H.hk H.prim H.pl m6 rfl, m0, m3, m31, m32, m33, m8, ms⟩
      | succ j =>
        subst hi0
        have hr3 := hx.mono S03 ok0 (Nat.le_refl _)
        have hrs3 := hxs.mono S03 ok0 (Nat.le_refl _)
        obtain ⟨q, hq1, hq2⟩ := at22 H hr3 (i := j) (by omega)
        have hle := hok.le
        have hc := scmp_comes H (a := l[j + 1]) (b := l[j]) (by omega) (hrs3.get (i := j + 1) (by omega) hi) (hrs3.get (i := j) (by omega) (by omega))
        rw [hC.asc j hi] at hc
        exact ⟨_, f26_b1111010011001110_TFF H.hk H.prim H.pl m6 m7 m0 rfl (dec (by have := hC.le; omega)) hq1 hq2 hc rfl rfl, m0, m3, m31, m32, m33, m8, ms⟩
    have hfl := facetsI_length l[i]
    have hle := hok.le
    have hlen8 := len22 H own3.out.row
    rw [own3.rows.length] at hlen8
    obtain ⟨s6, r6, q0, q3, q31, q32, q33, q61, q62, q63, qs⟩ : ∃ s6, Runs K 26 74 none (sub1 [1, 1, 1, 1, 0, 1, 0, 0, 1, 1, 0, 0, 1, 1, 1, 1, 0] (bodyOf Tryz.f26)) s5 h3 .normal s6 h3 ∧ s6.at 0 = x ∧ s6.at 3 = .mp km ∧ s6.at 31 = x ∧ s6.at 32 = .nu .i64 (.ofNat l.length) ∧ s6.at 33 = .nu .i64 (.ofNat i) ∧ s6.at 61 = y ∧ s6.at 62 = .nu .i64 (.ofNat (facetsI l[i]).length) ∧ s6.at 63 = .nu .i64 (.ofNat 0) ∧ s6.at slot = .undef := ⟨_, f26_r22 H.hk n8 hlen8, n0, n3, n31, n32, n33, rfl, rfl, rfl, ns⟩
    obtain ⟨s7, h7, r7, e1, e2, e3, e4, e5, e6, e7, e8⟩ := faceIn_loop H (f := facetsI l[i]) (fun a ha => facetsI_ok hok ha) (by omega) (fun a ha => hh a (hC.face _ (List.getElem_mem hi) a ha)) (facetsI l[i]).length 0 s6 h3 (by omega) ok3 own3.out.row own3.all hkn3 hg3 q0 q3 q31 q32 q33 q61 q62 q63 qs
    obtain ⟨s8, r8, t0, t3, t31, t32, t33, ts⟩ : ∃ s8, Runs K 26 74 none (sub1 [1, 1, 1, 1, 0, 1, 0, 0, 1, 1, 1] (bodyOf Tryz.f26)) s7 h7 .normal s8 h7 ∧ s8.at 0 = x ∧ s8.at 3 = .mp km ∧ s8.at 31 = x ∧ s8.at 32 = .nu .i64 (.ofNat l.length) ∧ s8.at 33 = .nu .i64 (.ofNat (i + 1)) ∧ s8.at slot = .undef := ⟨_, f26_r28 H.hk e8 (inc (by have := hC.le; omega)), e4, e5, e6, e7, rfl, e1⟩
    obtain ⟨s9, h9, r9, rest⟩ := ih (i + 1) s8 h7 (by omega) e2 (S03.trans (e3.le S03.n)) (Nat.lt_of_lt_of_le hkn3 e3.n) (by rw [e3.get km hkn3]; exact hg3) t0 t3 t31 t32 t33 ts
    exact ⟨s9, h9, Runs.loop (Runs.seq r1 (Runs.seq (f26_b1111010010_T H.hk H.prim H.pl j34) (Runs.seq (Runs.blockN (Runs.seq r2 (Runs.seq r3 (Runs.seq r4 (Runs.seq r5 (Runs.seq r6 (Runs.blockE r7))))))) r8))) r9, rest⟩
theorem ccheck_comes (H : Std K) (ok : HpOk h) {l : List (List Int)} (hC : OkC l) {x : CV} {cs : List CV} (hx : Row h x cs) (hxs : Rows h cs l) : ∃ h', Comes K 26 [x] h (.nu .i64 0) h' ∧ Same h.n h h' ∧ HpOk h' := by
  have hf : K.P.funcs[26]? = some Tryz.f26 := by rw [H.hP]; exact Tryz.func26
  have hcl := hxs.length
  have hle := hC.le
  have hlen := len22 H hx
  rw [hcl] at hlen
  have o15 := more (P := K.P) (t := 3) (Int.ofNat l.length) 1024
  rw [ile_t (by simp; omega)] at o15
  have S0 : Same h.n h (h.push (.mp [])) := Same.push (Nat.le_refl _) _
  have hlen1 := len22 H (hx.mono S0 ok (Nat.le_refl _))
  rw [hcl] at hlen1
  obtain ⟨s1, r1, j0, js⟩ : ∃ s1, Runs K 26 74 none (sub1 [1, 0] (bodyOf Tryz.f26)) (T.set (entry 0 [x]) 2 (.nu .i64 0)) h .normal s1 h ∧ s1.at 0 = x ∧ s1.at slot = .undef := ⟨_, f26_b10_F H.hk H.prim H.pl rfl hlen o15, rfl, rfl⟩
  obtain ⟨s2, r2, k0, k3, k17, k18, k19, ks⟩ : ∃ s2, Runs K 26 74 none (sub1 [1, 1, 1, 0, 0] (bodyOf Tryz.f26)) (T.set (T.set s1 16 (.mp h.n)) 3 (.mp h.n)) (h.push (.mp [])) .normal s2 (h.push (.mp [])) ∧ s2.at 0 = x ∧ s2.at 3 = .mp h.n ∧ s2.at 17 = x ∧ s2.at 18 = .nu .i64 (.ofNat l.length) ∧ s2.at 19 = .nu .i64 (.ofNat 0) ∧ s2.at slot = .undef := ⟨_, f26_r4 H.hk j0 hlen1, j0, rfl, rfl, rfl, rfl, js⟩
  obtain ⟨s3, h3, es, r3, e1, e2, e3, e4, e5, e6, e7, e8, e9⟩ := seen_loop H ok hC hx hxs (Nat.le_refl h.n) l.length 0 s2 (h.push (.mp [])) [] (by omega) (ok.push _) S0 (by simp) (by rw [Hp.get_push, if_pos rfl]) (by simp) (by intro j _ hj; omega) k0 k3 k17 k18 k19 ks
  have hlen3 := len22 H (hx.mono e3 ok (Nat.le_refl _))
  rw [hcl] at hlen3
  obtain ⟨s4, r4, l0, l3, l31, l32, l33, ls⟩ : ∃ s4, Runs K 26 74 none (sub1 [1, 1, 1, 1, 0, 0] (bodyOf Tryz.f26)) s3 h3 .normal s4 h3 ∧ s4.at 0 = x ∧ s4.at 3 = .mp h.n ∧ s4.at 31 = x ∧ s4.at 32 = .nu .i64 (.ofNat l.length) ∧ s4.at 33 = .nu .i64 (.ofNat 0) ∧ s4.at slot = .undef := ⟨_, f26_r10 H.hk e5 hlen3, e5, e6, rfl, rfl, rfl, e1⟩
  obtain ⟨s5, h5, r5, q1, q2, q3⟩ := cell_loop H ok hC hx hxs (Nat.le_refl h.n) e9 l.length 0 s4 h3 (by omega) e2 e3 e4 e7 l0 l3 l31 l32 l33 ls
  refine ⟨h5, ?_, q3, q2⟩
  exact Comes.plain hf rfl (H.memo 26 (by decide)) (H.spec 26) rfl (Runs.seq (f26_r0 H.hk) (Runs.seq r1 (Runs.seq (f26_r3 H.hk) (Runs.seq (Runs.seq r2 (Runs.blockE r3)) (Runs.seq (Runs.seq r4 (Runs.blockE r5)) (f26_b11111 H.hk H.prim H.pl)))))) (.inr rfl) q3.n q1 rfl rfl
end
end Go.CP
/- Complex: slices.Index, Contains, Equal, IndexFunc, ContainsFunc, Clone; simplex.Meet. -/
namespace Go.CP
open Go.Proofs
variable [LG] [HK]
/-- A call comes to a result of which this holds; what was there stays. -/
def Ret (K : Ctx) (f : FuncId) (args : List CV) (h : Hp) (Q : CV → Hp → Prop) : Prop := ∃ r h', Comes K f args h r h' ∧ Same h.n h h' ∧ HpOk h' ∧ Q r h'
section
variable {K : Ctx} {h : Hp}
theorem index_loop (H : Std K) {a : List Int} {v : Int} (hbig : a.length < 4611686018427387904) {x : CV} (ha : Row h x (Ints a)) : ∀ (m i : Nat) (s : Fr), i + m = a.length → s.at 0 = x → s.at 1 = .nu .i64 v → s.at 7 = .nu .i64 (.ofNat a.length) → s.at 8 = .nu .i64 (.ofNat i) → s.at slot = .undef →
    ∃ e s', Runs K 141 19 none (sub1 [1, 0, 1, 0] (bodyOf Tryz.f141)) s h e s' h ∧ s'.at slot = .undef ∧ ((e = .exit 0 ∧ inI (a.drop i) v = false) ∨ (e = .ret ∧ (∃ j : Nat, s'.at 4 = .nu .i64 (.ofNat j)) ∧ inI (a.drop i) v = true)) := by
  intro m
  induction m with
  | zero =>
    intro i s him g0 g1 g7 g8 gs
    exact ⟨_, _, Runs.loopX (f141_b10100_F H.hk H.prim H.pl g8 g7 (lessN' (by omega))) (by simp), gs, .inl ⟨rfl, by rw [List.drop_of_length_le (by omega)]; rfl⟩⟩
  | succ m ih =>
    intro i s him g0 g1 g7 g8 gs
    have hi : i < a.length := by omega
    have hda : a.drop i = a[i] :: a.drop (i + 1) := List.drop_eq_getElem_cons hi
    obtain ⟨p, hp1, hp2⟩ := at46 H ha hi
    have o16 := eqln (P := K.P) (t := 3) v a[i]
    by_cases he : v = a[i]
    · rw [ieq_t he] at o16
      exact ⟨_, _, Runs.loopX (f141_b10100_TT H.hk H.prim H.pl g8 g7 g1 g0 (lessN hi) hp1 hp2 o16) (by simp), gs, .inr ⟨rfl, ⟨i, rfl⟩, by rw [hda, inI, List.any_cons, ieq_t he.symm]; rfl⟩⟩
    · rw [ieq_f he] at o16
      obtain ⟨s1, r1, k0, k1, k7, k8, ks⟩ : ∃ s1, Runs K 141 19 none (sub1 [1, 0, 1, 0, 0] (bodyOf Tryz.f141)) s h .normal s1 h ∧ s1.at 0 = x ∧ s1.at 1 = .nu .i64 v ∧ s1.at 7 = .nu .i64 (.ofNat a.length) ∧ s1.at 8 = .nu .i64 (.ofNat (i + 1)) ∧ s1.at slot = .undef :=
        ⟨_, f141_b10100_TF H.hk H.prim H.pl g8 g7 g1 g0 (lessN hi) hp1 hp2 o16 (inc (by omega)), g0, g1, g7, rfl, gs⟩
      obtain ⟨e, s', r2, hs', hr⟩ := ih (i + 1) s1 (by omega) k0 k1 k7 k8 ks
      refine ⟨e, s', Runs.loop r1 r2, hs', ?_⟩
      rw [hda, show inI (a[i] :: a.drop (i + 1)) v = inI (a.drop (i + 1)) v by rw [inI, List.any_cons, ieq_f (Ne.symm he)]; rfl]
      exact hr
theorem index_comes (H : Std K) {a : List Int} {v : Int} (hbig : a.length < 4611686018427387904) {x : CV} (ha : Row h x (Ints a)) : ∃ n, Comes K 141 [x, .nu .i64 v] h (.nu .i64 n) h ∧ ile 0 n = inI a v := by
  have hf : K.P.funcs[141]? = some Tryz.f141 := by rw [H.hP]; exact Tryz.func141
  have hlen := len46 H ha
  rw [ints_length] at hlen
  obtain ⟨s1, r1, k0, k1, k7, k8, ks⟩ : ∃ s1, Runs K 141 19 none (sub1 [1, 0, 0] (bodyOf Tryz.f141)) (T.set (entry 0 [x, .nu .i64 v]) 4 (.nu .i64 0)) h .normal s1 h ∧ s1.at 0 = x ∧ s1.at 1 = .nu .i64 v ∧ s1.at 7 = .nu .i64 (.ofNat a.length) ∧ s1.at 8 = .nu .i64 (.ofNat 0) ∧ s1.at slot = .undef := ⟨_, f141_r1 H.hk rfl hlen, rfl, rfl, rfl, rfl, rfl⟩
  obtain ⟨e, s2, r2, hs2, hr⟩ := index_loop H (v := v) hbig ha a.length 0 s1 (by omega) k0 k1 k7 k8 ks
  rw [List.drop_zero] at hr
  rcases hr with ⟨rfl, h0⟩ | ⟨rfl, ⟨j, h4⟩, h0⟩
  · exact ⟨-1, Comes.plain hf rfl (H.memo 141 (by decide)) (H.spec 141) rfl (Runs.seq (f141_r0 H.hk) (Runs.seq (Runs.seq r1 (Runs.blockE r2)) (f141_b11 H.hk H.prim H.pl))) (.inr rfl) (Nat.le_refl _) hs2 rfl rfl, by rw [h0]; rfl⟩
  · exact ⟨.ofNat j, Comes.plain hf rfl (H.memo 141 (by decide)) (H.spec 141) rfl (Runs.seq (f141_r0 H.hk) (Runs.seqX (Runs.seq r1 (Runs.blockR r2)) (by simp))) (.inr rfl) (Nat.le_refl _) hs2 (vs := [s2.at 4]) rfl h4, by rw [h0]; rfl⟩
theorem contains_comes (H : Std K) {a : List Int} {v : Int} (hbig : a.length < 4611686018427387904) {x : CV} (ha : Row h x (Ints a)) : Comes K 113 [x, .nu .i64 v] h (.bo (inI a v)) h := by
  have hf : K.P.funcs[113]? = some Tryz.f113 := by rw [H.hP]; exact Tryz.func113
  obtain ⟨n, c, hn⟩ := index_comes H (v := v) hbig ha
  have o8 := geqN (P := K.P) (t := 3) n 0
  rw [hn] at o8
  exact Comes.plain hf rfl (H.memo 113 (by decide)) (H.spec 113) rfl (f113_b H.hk H.prim H.pl (s := entry 0 [x, .nu .i64 v]) rfl rfl c o8) (.inr rfl) (Nat.le_refl _) rfl rfl rfl
/-- Meet: a's elements that are in b. -/
def meetI (a b : List Int) : List Int := a.filter fun v => inI b v
/-- Equal. -/
def eqI : List Int → List Int → Bool
  | x :: a, y :: b => ieq x y && eqI a b
  | [], [] => true
  | _, _ => false
theorem eqI_iff : ∀ (a b : List Int), eqI a b = true ↔ a = b
  | [], [] => by simp [eqI]
  | [], _ :: _ => by simp [eqI]
  | _ :: _, [] => by simp [eqI]
  | x :: a, y :: b => by simp [eqI, eqI_iff a b, ieq_eq]
/-- What a function says of rows of numbers. -/
def Asks (K : Ctx) (h0 : Hp) (G : FuncId) (C : List CV) (l : List (List Int)) (p : List Int → Bool) : Prop := ∀ (y : CV) (a : List Int) (g : Hp), a ∈ l → HpOk g → Same h0.n h0 g → Row g y (Ints a) → Ret K G ([y] ++ C) g fun r _ => r = .bo (p a)
theorem Row.isSl {x : CV} {cs : List CV} (r : Row h x cs) (hne : cs ≠ []) : ∃ k o n c, x = .sl k o n c := by
  cases r with
  | nils => exact absurd rfl hne
  | sle => exact absurd rfl hne
  | none k o c => exact absurd rfl hne
  | some => exact ⟨_, _, _, _, rfl⟩
theorem clone_ret (H : Std K) (ok : HpOk h) {a : List Int} (hne : a ≠ []) (hbig : a.length < 1099511627776) {x : CV} (ha : Row h x (Ints a)) : Ret K 69 [x] h fun r h' => Out h.n h' 3 r (Ints a) := by
  have hf : K.P.funcs[69]? = some Tryz.f69 := by rw [H.hP]; exact Tryz.func69
  obtain ⟨k, o, n, c, hsl⟩ := ha.isSl (ints_ne hne)
  obtain ⟨F, B, x', h', a1, a2, a3, a4, a5⟩ := copy_app (P := K.P) (t := 46) (t' := 46) (by rw [H.hP]; exact t46) ⟨_, _, _, by rw [H.hP]; exact t46⟩ ok ha (ints_ne hne) (ints_one a) (by decide) (by rw [ints_length]; exact hbig)
  have o4 : bineq K.P .eql 46 x .nils = some (.bo false) := by rw [hsl]; exact sl_nil H k o n c
  exact ⟨x', h', Comes.plain hf rfl (H.memo 69 (by decide)) (H.spec 69) rfl (f69_b_F H.hk H.prim H.pl (s := entry 0 [x]) rfl o4 a1 a2) (.inr rfl) a4.n rfl rfl rfl, a4, a5, a3⟩
end
end Go.CP
/- Complex: slices.Grow, Concat; cmp.Less, bits.Len, slices.Sort of few numbers. -/
namespace Go.CP
open Go.Proofs
variable [LG] [HK]
theorem setAt_off {α : Type} : ∀ (cs rest ys : List α), setAt (cs ++ rest) cs.length ys = cs ++ setAt rest 0 ys
  | [], rest, ys => rfl
  | c :: cs, rest, [] => by simp [setAt_nil]
  | c :: cs, rest, y :: ys => by
    have := setAt_off cs rest (y :: ys)
    simp only [List.cons_append, List.length_cons, setAt, this]
theorem setAt_zero {α : Type} : ∀ (rest ys : List α), ys.length ≤ rest.length → setAt rest 0 ys = ys ++ rest.drop ys.length
  | rest, [], _ => by simp [setAt_nil]
  | [], y :: ys, h => by simp at h
  | r :: rest, y :: ys, h => by
    have := setAt_zero rest ys (by simpa using h)
    simp only [setAt, this, List.cons_append, List.length_cons, List.drop_succ_cons]
/-- A slice that grows within its capacity. -/
structure Fill (N : Nat) (h : Hp) (el m : Nat) (x : CV) (cs : List CV) : Prop where
  at' : ∃ k rest, x = .sl k 0 cs.length m ∧ N ≤ k ∧ k < h.n ∧ h.get k = .cells (cs ++ rest) 1 el ∧ cs.length + rest.length = m
theorem Fill.out {N el m : Nat} {h : Hp} {x : CV} {cs : List CV} (F : Fill N h el m x cs) (hm : cs.length = m) (hne : cs ≠ []) : Out N h el x cs := by
  obtain ⟨k, rest, rfl, hk, hn, hg, hl⟩ := F.at'
  have : rest = [] := List.eq_nil_of_length_eq_zero (by omega)
  subst this; subst hm
  rw [List.append_nil] at hg
  exact .some hk hn hne hg
theorem Fill.app {N el m bytes : Nat} {h : Hp} {z : List CV} {t' : TyK} {x y : CV} {cs ys : List CV} (ok : HpOk h) (F : Fill N h el m x cs) (hy : Row h y ys) (hone : ys.all CV.one = true) (hle : cs.length + ys.length ≤ m) (hz : z.length = 1) (ht : ∃ e' b' z', t' = .slice e' 1 b' z') (hb : (cs.length + ys.length) * bytes ≤ 70368744177664) (hn : cs.length + ys.length ≤ 4611686018427387904) :
    ∃ x' h', wApp h x y (.slice el 1 bytes z) t' = some (x', h') ∧ Fill N h' el m x' (cs ++ ys) ∧ Same N h h' ∧ HpOk h' := by
  obtain ⟨e', b', z', rfl⟩ := ht
  obtain ⟨k, rest, rfl, hk, hkn, hg, hl⟩ := F.at'
  have hcells := hy.cells
  have hlen := hy.lenV
  have hc : (ys.all CV.one && Nat.beq z.length 1 && Nat.blt 0 1 && Nat.ble ((CP.lenV (.sl k 0 cs.length m) + ys.length) * bytes) 70368744177664 && Nat.ble (CP.lenV (.sl k 0 cs.length m) + ys.length) 4611686018427387904) = true := by
    rw [hone, hz, show CP.lenV (.sl k 0 cs.length m) = cs.length from rfl, Nat.ble_eq_true_of_le hb, Nat.ble_eq_true_of_le hn]; rfl
  have h1 : wApp h (.sl k 0 cs.length m) y (.slice el 1 bytes z) (.slice e' 1 b' z') = appX h el 1 (.sl k 0 cs.length m) ys ys.length := by
    simp only [wApp, appC, hcells, hlen, hc]
  rw [h1]
  cases hq : Nat.beq ys.length 0 with
  | true =>
    have : ys = [] := List.eq_nil_of_length_eq_zero (Nat.eq_of_beq_eq_true hq)
    subst this
    refine ⟨.sl k 0 cs.length m, h, ?_, ⟨⟨k, rest, by simp, hk, hkn, by simpa using hg, by simpa using hl⟩⟩, Same.refl _ _, ok⟩
    simp only [appX, hq, Nat.ble_eq_true_of_le (show cs.length ≤ m by omega)]
  | false =>
    refine ⟨.sl k 0 (cs.length + ys.length) m, h.set k (.cells (cs ++ ys ++ rest.drop ys.length) 1 el), ?_, ⟨⟨k, rest.drop ys.length, by simp, hk, hkn, by rw [Hp.get_set, if_pos rfl], by simp; omega⟩⟩, Same.set hk _, ok.set hkn _⟩
    have hset : setAt (cs ++ rest) (0 + cs.length * 1) ys = cs ++ ys ++ rest.drop ys.length := by
      rw [Nat.zero_add, Nat.mul_one, setAt_off, setAt_zero _ _ (by omega), List.append_assoc]
    have hb2 : Nat.ble (0 + (cs.length + ys.length) * 1) (cs ++ rest).length = true := Nat.ble_eq_true_of_le (by simp; omega)
    simp only [appX, hq, Nat.ble_eq_true_of_le hle, appIn, hg, hb2, hset]
theorem Fill.mono {N M el m : Nat} {h h' : Hp} (S : Same M h h') (hM : h.n ≤ M) {x : CV} {cs : List CV} (r : Fill N h el m x cs) : Fill N h' el m x cs := by
  obtain ⟨k, rest, e, hk, hkn, hg, hl⟩ := r.at'
  exact ⟨⟨k, rest, e, hk, Nat.lt_of_lt_of_le hkn S.n, by rw [S.get k (by omega)]; exact hg, hl⟩⟩
section
variable {K : Ctx} {h : Hp}
def sumI (l : List (List Int)) : Nat := (l.map List.length).sum
theorem Fill.row {N el m : Nat} {h : Hp} {x : CV} {cs : List CV} (F : Fill N h el m x cs) : True := trivial
theorem t5 : tyk Tryz.prog 5 = .int .u8 := by kernel_rfl
theorem t9 : tyk Tryz.prog 9 = .str := by kernel_rfl
theorem t126 : tyk Tryz.prog 126 = .int .u64 := by kernel_rfl
theorem t157 : tyk Tryz.prog 157 = .int .u64 := by kernel_rfl
end
end Go.CP
/- Complex: simplex.Join, complex.filter, among, Link, of a valid complex. -/
namespace Go.CP
open Go.Proofs
variable [LG] [HK]
theorem z22 : tsz Tryz.prog 22 = some (1, false) := by kernel_rfl
theorem Same.get1 {N k : Nat} {h h' : Hp} (S : Same N h h') (hk : k < N) {b : HB} (hb : h.get k = b) : h'.get k = b := by rw [S.get k hk, hb]
/-- A cell with a value. -/
structure Box (h : Hp) (p v : CV) : Prop where
  at' : ∃ k e, p = .ptr k 0 ∧ k < h.n ∧ h.get k = .cells [v] 0 e
theorem Box.mono {N : Nat} {h h' : Hp} (S : Same N h h') (hN : h.n ≤ N) {p v : CV} (b : Box h p v) : Box h' p v := by
  obtain ⟨k, e, rfl, hk, hg⟩ := b.at'
  exact ⟨⟨k, e, rfl, Nat.lt_of_lt_of_le hk S.n, S.get1 (by omega) hg⟩⟩
theorem Box.load {h : Hp} {p v : CV} (b : Box h p v) {sz : Option (Nat × Bool)} (hsz : sz = some (1, false)) : qLoad h p sz = some v := by
  obtain ⟨k, e, rfl, hk, hg⟩ := b.at'
  subst hsz
  show hbVal 0 1 false (h.get k) = _
  rw [hg]; rfl
theorem Box.new {h : Hp} {t : Nat} {v : CV} (hv : v.one = true) {sz : Option (Nat × Bool)} (hsz : sz = some (1, false)) : ∃ F B, lBox t v sz = some (F, B) ∧ Box (h.push B) (F h.n) v := by
  subst hsz
  have hc := one_cells hv
  have hs : v.sol = true := by simp [CV.sol, hc, hv]
  refine ⟨fun k => .ptr k 0, .cells [v] 0 t, by simp only [lBox, hs, hc, List.length_cons, List.length_nil]; rfl, ⟨⟨h.n, t, rfl, by simp, by rw [Hp.get_push, if_pos rfl]⟩⟩⟩
/-- Join: the simplex of both, if they have nothing in common and are not too large. -/
def joinI (a b : List Int) : Option (List Int) := if meetI a b = [] ∧ a.length + b.length ≤ 5 then some (sortI (a ++ b)) else none
def linkP (l : List (List Int)) (s t : List Int) : Bool := match joinI s t with
  | some j => l.any (eqI j)
  | none => false
section
variable {K : Ctx} {h : Hp}
theorem Asks.mono {h0 h1 : Hp} (S : Same h0.n h0 h1) {G : FuncId} {C : List CV} {l : List (List Int)} {p : List Int → Bool} (A : Asks K h0 G C l p) : Asks K h1 G C l p := fun y a g ha ok Sg r => A y a g ha ok (S.trans (Sg.le S.n)) r
theorem z46' (H : Std K) : tsz K.P 46 = some (1, false) := by rw [H.hP]; exact z46
theorem z22' (H : Std K) : tsz K.P 22 = some (1, false) := by rw [H.hP]; exact z22
/-- The copies that are wanted. -/
def Kept (K : Ctx) (f : FuncId) (args : List CV) (h : Hp) (l : List (List Int)) : Prop := Ret K f args h fun r h' => ∃ o ds, r = .tup [o, .nu .i64 0] ∧ Own h.n h' 46 o ds l
theorem Own.low {N M el : Nat} {h : Hp} {x : CV} {cs : List CV} {l : List (List Int)} (hNM : M ≤ N) (O : Own N h el x cs l) : Own M h el x cs l := ⟨out_mono hNM O.out, O.rows⟩
end
end Go.CP
