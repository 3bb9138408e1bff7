import Derived.Test.YtadagifjonbmjaaGreatDoorKl0
import Derived.Test.YtadagifjonbmjaaGreatDoorKw1
set_option linter.all false
set_option maxRecDepth 100000
namespace Go.CP
open Go.Proofs
variable [LG] [HK]
theorem ux {K : Ctx} {ops : Array Oper} {o : Oper} {l : List Stp} {i : Nat} {s s2 : Fr} {h h2 : Hp} {F : Nat → CV} {b : HB} (ho : ops[i]? = some o) (hw : bN ops o s = some true) (hl : bA K.P o (ev s) = some (F, b)) (rest : RunP K ops l [⟨i, o, false, F h.n, some (h.n, b)⟩] (Fr.putO s o.dst (F h.n)) (h.push b) s2 h2) : RunP K ops (.take i :: l) [] s h s2 h2 := jP ho hw hl rfl rest
theorem Ie {K : Ctx} {s : Fr} {h : Hp} (hk : ∀ o, HK.keep o = false) {v0 v1 r8 r9 r12 r13 r14 : CV} {F5 : Nat → CV} {B5 : HB} {g1 g2 : Hp} (hp : K.plan 117 1 = some [.t 0,.t 1,.t 2,.t 3,.t 5,.t 6,.t 7,.t 8,.o 4 [8, 7, 6, 5],.o 9 [],.o 10 []]) (i0 : s.at 0 = v0) (i1 : s.at 1 = v1) (o5 : aC 0 [] (ae K.P 46) = some (F5, B5)) (o8 : bC none (some v1) (h.push B5) v0 (ae K.P 46) = some r8) (o12 : ac K.P .add 3 v1 (.nu .i64 1) = some r12) (o13 : bC (some r12) none (h.push B5) v0 (ae K.P 46) = some r13) (q13 : ceq r13 r13 = true) (wg1 : be (h.push B5) (F5 h.n) r8 (ae K.P 46) (ae K.P 46) = some (r9, g1)) (z13 : bC (some r12) none g1 v0 (ae K.P 46) = some r13) (wg2 : be g1 r9 r13 (ae K.P 46) (ae K.P 46) = some (r14, g2)) :
  I5 K [1, 0] s h .normal (T.set (T.set (T.set (T.set (T.set (T.set (T.set (T.set (T.set (T.set (T.set s 5 (F5 h.n)) 6 v0) 7 v1) 8 r8) 10 v0) 11 v1) 12 r12) 13 r13) 9 r9) 14 r14) 4 r14) g2 := by
 refine Runs.drawn hp ?_
 refine ux (F := F5) (b := B5) rfl rfl (by simp [bA, o5]) ?_
 refine RunP.q (v := v0) rfl rfl (aY rfl i0) ?_
 refine RunP.q (v := v1) rfl rfl (aY rfl i1) ?_
 refine RunP.q (v := r8) rfl rfl (jz (lv := none) (hv := some v1) rfl rfl rfl rfl o8) ?_
 refine RunP.q (v := v0) rfl rfl (aY rfl i0) ?_
 refine RunP.q (v := v1) rfl rfl (aY rfl i1) ?_
 refine RunP.q (v := r12) rfl rfl (e9 rfl rfl rfl o12) ?_
 refine RunP.q (v := r13) rfl rfl (jz (lv := some r12) (hv := none) rfl rfl rfl rfl o13) ?_
 refine RunP.only (v := r9) rfl rfl (fa hk rfl rfl rfl rfl rfl rfl wg1) (by simp (decide := true) only [bQ, bO, qX, ev, Fr.putO, aI, reduceIte, Nat.reduceEqDiff, List.filter_cons, List.filter_nil, List.any_cons, List.any_nil, List.all_cons, List.all_nil, List.getElem_toArray, List.getElem_cons_succ, List.getElem_cons_zero, Option.map_some, Option.map_none, aP, bh, Bool.and_true, Bool.true_and, Bool.and_self, i0, i1, z13, q13]) ?_
 refine RunP.only (v := r14) rfl rfl (fa hk rfl rfl rfl rfl rfl rfl wg2) rfl ?_
 refine RunP.only (v := r14) rfl rfl (Q1.e (pG rfl rfl)) rfl ?_
 exact RunP.nil
theorem Row.blk {h : Hp} {x : CV} {cs : List CV} (r : Row h x cs) (hne : cs ≠ []) (ok : HpOk h) : ∃ k o n c, x = .sl k o n c ∧ k < h.n := by
 cases r with
 | nils => exact absurd rfl hne
 | sle => exact absurd rfl hne
 | none => exact absurd rfl hne
 | @some k o c cs hne' hs _ _ =>
  refine ⟨k, o, _, c, rfl, ?_⟩
  rcases Nat.lt_or_ge k h.n with hk | hk
  · exact hk
  · exact absurd (ok k hk) (gL hs)
theorem xa {h h1 h2 : Hp} {x : CV} {cs : List CV} {lo hi : Option CV} {e by' : Nat} {z : List CV} (r : Row h x cs) (hne : cs ≠ []) (ok : HpOk h) (S1 : ∀ k, k < h.n → h1.get k = h.get k) (S2 : ∀ k, k < h.n → h2.get k = h.get k) : bC lo hi h1 x (.slice e 1 by' z) = bC lo hi h2 x (.slice e 1 by' z) := by
 obtain ⟨k, o, n, c, rfl, hk⟩ := r.blk hne ok
 have hg : h1.get k = h2.get k := by rw [S1 k hk, S2 k hk]
 have hq : ∀ a b, dA h1 1 k o c a b = dA h2 1 k o c a b := by
  intro a b
  cases a <;> cases b <;> simp only [dA, hg]
 simp only [bC, hq]
theorem Same.get' {h h' : Hp} (S : Same h.n h h') : ∀ k, k < h.n → h'.get k = h.get k := S.get
theorem If {P : Program} {el b t : Nat} {h : Hp} {z0 : CV} (ht : ae P t = .slice el 1 b [z0]) : ∃ F B, aC 0 [] (ae P t) = some (F, B) ∧ New h.n (h.push B) el (F h.n) [] :=
 ⟨fun k => .sl k 0 0 0, .cells [] 0 el, by rw [ht]; rfl, .emp (Nat.le_refl _) (by simp) (by rw [ag, if_pos rfl])⟩
section
variable {K : Ctx} {h : Hp}
theorem Fy (H : Std K) {N : Nat} {h : Hp} {x y : CV} {a b : List Int} (ok : HpOk h) (hN : N ≤ h.n) (r : New N h 3 x (ah a)) (hy : Row h y (ah b)) (hb : a.length + b.length < 1099511627776) : ∃ x' h', be h x y (ae K.P 46) (ae K.P 46) = some (x', h') ∧ New N h' 3 x' (ah (a ++ b)) ∧ Same N h h' ∧ HpOk h' := by
 obtain ⟨x', h', h1, h2, h3, h4⟩ := r.app (z := [.nu .i64 0]) (t' := ae K.P 46) (bytes := 8) ok hN hy (jZ b) rfl ⟨_, _, _, by rw [H.hP]; exact t46⟩ (by simp only [aw]; omega) (by simp only [aw]; omega)
 refine ⟨x', h', by rw [← h1, H.hP, t46], ?_, h3, h4⟩
 have : ah (a ++ b) = ah a ++ ah b := by simp [ah]
 rw [this]; exact h2
theorem uy (H : Std K) (ok : HpOk h) {a : List Int} (h2 : 2 ≤ a.length) (hbig : a.length < 1099511627776) {i : Nat} (hi : i < a.length) {x : CV} (ha : Row h x (ah a)) :
  ∃ x' h', Comes K 117 [x, .nu .i64 (.ofNat i)] h x' h' ∧ Same h.n h h' ∧ HpOk h' ∧ Out h.n h' 3 x' (ah (a.eraseIdx i)) := by
 have hf : K.P.funcs[117]? = some Tryz.f117 := by rw [H.hP]; exact Tryz.func117
 have hne : a ≠ [] := by intro e; rw [e] at h2; simp at h2
 obtain ⟨F, B, b1, b2⟩ := If (P := K.P) (t := 46) (h := h) (by rw [H.hP]; exact t46)
 have S0 : Same h.n h (h.push B) := Same.push (Nat.le_refl _) _
 have ha0 := ha.mono S0 ok (Nat.le_refl _)
 obtain ⟨y, y1, y2⟩ := oF H hne ha0 (lo := none) (hi := some (.nu .i64 (.ofNat i))) (i := 0) (j := i) rfl rfl (Nat.zero_le _) (by omega)
 obtain ⟨z, z1, z2⟩ := oF H hne ha0 (lo := some (.nu .i64 (.ofNat (i + 1)))) (hi := none) (i := i + 1) (j := a.length) rfl rfl (by omega) (Nat.le_refl _)
 rw [List.drop_zero, Nat.sub_zero] at y2
 rw [List.take_of_length_le (by simp)] at z2
 obtain ⟨x1, h1, c1, c2, c3, c4⟩ := Fy H (a := []) (ok.push B) S0.n b2 y2 (by simp; omega)
 have ha1 := ha.mono (S0.trans c3) ok (Nat.le_refl _)
 rw [List.nil_append] at c2
 obtain ⟨z', z1', z2'⟩ := oF H hne ha1 (lo := some (.nu .i64 (.ofNat (i + 1)))) (hi := none) (i := i + 1) (j := a.length) rfl rfl (by omega) (Nat.le_refl _)
 have hz : bC (some (.nu .i64 (.ofNat (i + 1)))) none h1 x (ae K.P 46) = some z := by
  rw [← z1, H.hP, t46]
  exact xa ha (ep hne) ok (S0.trans c3).get' S0.get'
 rw [z1'] at hz; cases hz
 rw [List.take_of_length_le (by simp)] at z2'
 obtain ⟨x2, h2', d1, d2, d3, d4⟩ := Fy H c4 (S0.trans c3).n c2 z2' (by simp; omega)
 have he : a.eraseIdx i = a.take i ++ a.drop (i + 1) := List.eraseIdx_eq_take_drop_succ _ _
 have hl : (a.eraseIdx i).length = a.length - 1 := by rw [List.length_eraseIdx]; simp [hi]
 refine ⟨x2, h2', ?_, (S0.trans c3).trans d3, d4, ?_⟩
 · exact H.go hf (Runs.seq (Gx H.hk) (Runs.seq (Ie H.hk H.pl.p117_1 rfl rfl b1 y1 (cI (by omega)) z1 z2.ceq c1 z1' d1) Runs.ret)) (.inr rfl) ((S0.trans c3).trans d3).n rfl rfl rfl
 · rw [he]
   exact d2.got (ep (by rw [← he]; intro e; rw [e] at hl; simp at hl; omega))
end
theorem KQ : ae Tryz.prog 103 = .arr 5 3 1 false [.nu .i64 0, .nu .i64 0, .nu .i64 0, .nu .i64 0, .nu .i64 0] := by kernel_rfl
theorem Eh : au Tryz.prog 103 = some (5, true) := by kernel_rfl
theorem L5 : cn Tryz.prog 103 = some (.agg [.nu .i64 0, .nu .i64 0, .nu .i64 0, .nu .i64 0, .nu .i64 0]) := by kernel_rfl
def bW (a : List Int) : List (List Int) := if a.length = 1 then [] else (List.range a.length).map a.eraseIdx
def bB (a : List Int) : List CV := ah (a.map (· + 1)) ++ List.replicate (5 - a.length) (.nu .i64 0)
section
variable {K : Ctx} {h : Hp}
theorem xb (H : Std K) {h0 : Hp} (bX : HpOk h0) {a : List Int} (h2 : 2 ≤ a.length) (hbig : a.length < 1099511627776) {x : CV} (ha : Row h0 x (ah a)) : ∀ (m i : Nat) (s : Fr) (h : Hp) (o : CV) (cs : List CV), i + m = a.length → HpOk h → Same h0.n h0 h → Own h0.n h 46 o cs ((List.range i).map a.eraseIdx) → s.at 0 = x → s.at 2 = o → s.at 16 = .nu .i64 (.ofNat a.length) → s.at 17 = .nu .i64 (.ofNat i) → s.at ai = .undef →
  ∃ s' h' o' cs', fS K [1, 1, 0, 1, 0] s h (.exit 0) s' h' ∧ s'.at ai = .undef ∧ HpOk h' ∧ Same h0.n h0 h' ∧ s'.at 2 = o' ∧ Own h0.n h' 46 o' cs' ((List.range a.length).map a.eraseIdx) := by
 intro m
 induction m with
 | zero =>
  intro i s h o cs him ok S ho g0 g2 g16 g17 gs
  refine ⟨_, _, o, cs, aH (uj H.hk H.prim H.pl g17 g16 (bu (by omega))) (by simp), gs, ok, S, g2, ?_⟩
  rw [show a.length = i by omega]; exact ho
 | succ m ih =>
  intro i s h o cs him ok S ho g0 g2 g16 g17 gs
  have hi : i < a.length := by omega
  obtain ⟨y, h1, c1, c2, c3, c4⟩ := uy H ok h2 hbig hi (ha.mono S bX (Nat.le_refl _))
  have hl := ho.rows.length
  rw [List.length_map, List.length_range] at hl
  obtain ⟨F, B, x', h3, b1, b2, b3, b4, b5⟩ := Own.app (P := K.P) (t := 22) (by rw [H.hP]; exact t22) c3 (S.trans (c2.le S.n)).n (ho.mono c2 ok) (Row.off ho.out (Nat.le_refl _) c4) (by decide) (by omega)
  obtain ⟨s1, r1, k0, k2, k16, k17, ks⟩ : ∃ s1, fS K [1, 1, 0, 1, 0, 0] s h .normal s1 h3 ∧ s1.at 0 = x ∧ s1.at 2 = x' ∧ s1.at 16 = .nu .i64 (.ofNat a.length) ∧ s1.at 17 = .nu .i64 (.ofNat (i + 1)) ∧ s1.at ai = .undef :=
   ⟨_, ui H.hk H.prim H.pl g17 g16 g2 g0 (aV hi) c1 b1 b2 (cI (by omega)), g0, rfl, g16, rfl, gs⟩
  obtain ⟨s2, h4, o2, cs2, r2, e1, e2, e3, e4, e5⟩ := ih (i + 1) s1 h3 x' _ (by omega) b5 ((S.trans (c2.le S.n)).trans b4) (by rw [List.range_succ, List.map_append]; exact b3) k0 k2 k16 k17 ks
  exact ⟨s2, h4, o2, cs2, Runs.loop r1 r2, e1, e2, e3, e4, e5⟩
theorem vT (H : Std K) (ok : HpOk h) {a : List Int} (hok : OkS a) {x : CV} (ha : Row h x (ah a)) :
  ∃ x' cs' h', Comes K 73 [x] h (.tup [x', .nu .i64 0]) h' ∧ Same h.n h h' ∧ HpOk h' ∧ Own h.n h' 46 x' cs' (bW a) := by
 have hf : K.P.funcs[73]? = some Tryz.f73 := by rw [H.hP]; exact Tryz.func73
 have hle := hok.le
 have hlen := cA H ha
 rw [aw] at hlen
 have o12 := nF (P := K.P) (t := 3) (Int.ofNat a.length) 1
 by_cases h1 : a.length = 1
 · rw [ip (by simp [h1])] at o12
   refine ⟨.nils, [], h, ?_, Same.refl _ _, ok, by rw [bW, if_pos h1]; exact Own.nil⟩
   exact H.go hf (Runs.seq (vj H.hk) (aE (yW H.hk H.prim H.pl rfl (cX H hok ha) rfl hlen o12 rfl) (by simp))) (.inr rfl) (Nat.le_refl _) rfl rfl rfl
 · rw [gN (by simp; omega)] at o12
   have h2 : 2 ≤ a.length := by
    have : a.length ≠ 0 := fun e => hok.ne (List.eq_nil_of_length_eq_zero e)
    omega
   obtain ⟨s1, r1, k0, k2, ks⟩ : ∃ s1, fS K [1, 0] (T.set (T.set (entry 0 [x]) 2 .nils) 3 (.nu .i64 0)) h .normal s1 h ∧ s1.at 0 = x ∧ s1.at 2 = .nils ∧ s1.at ai = .undef := ⟨_, yX H.hk H.prim H.pl rfl (cX H hok ha) rfl hlen o12 rfl, rfl, rfl, rfl⟩
   obtain ⟨s2, r2, l0, l2, l16, l17, ls⟩ : ∃ s2, fS K [1, 1, 0, 0] s1 h .normal s2 h ∧ s2.at 0 = x ∧ s2.at 2 = .nils ∧ s2.at 16 = .nu .i64 (.ofNat a.length) ∧ s2.at 17 = .nu .i64 (.ofNat 0) ∧ s2.at ai = .undef := ⟨_, Js H.hk k0 hlen, k0, k2, rfl, rfl, ks⟩
   obtain ⟨s3, h3, o3, cs3, r3, e1, e2, e3, e4, e5⟩ := xb H ok h2 (by omega) ha a.length 0 s2 h .nils [] (by omega) ok (Same.refl _ _) Own.nil l0 l2 l16 l17 ls
   refine ⟨o3, cs3, h3, ?_, e3, e2, by rw [bW, if_neg h1]; exact e5⟩
   exact H.go hf (Runs.seq (vj H.hk) (Runs.seq r1 (Runs.seq (Runs.seq r2 (aS r3)) (DN H.hk H.prim H.pl e4)))) (.inr rfl) e3.n e1 rfl rfl
theorem Ig (H : Std K) {h0 : Hp} (bX : HpOk h0) {a : List Int} (hle : a.length ≤ 5) (hr : ∀ v ∈ a, 0 ≤ v ∧ v < 64) {x : CV} (ha : Row h0 x (ah a)) {k : Nat} (hk : h0.n ≤ k) : ∀ (m i : Nat) (s : Fr) (h : Hp), i + m = a.length → HpOk h → Same h0.n h0 h → k < h.n → h.get k = .cells (ah ((a.take i).map (· + 1)) ++ List.replicate (5 - i) (.nu .i64 0)) 0 103 → s.at 2 = .ptr k 0 → s.at 5 = x → s.at 6 = .nu .i64 (.ofNat a.length) → s.at 7 = .nu .i64 (.ofNat i) → s.at ai = .undef →
  ∃ s' h', lx K [1, 0, 1, 0] s h (.exit 0) s' h' ∧ s'.at ai = .undef ∧ HpOk h' ∧ Same h0.n h0 h' ∧ k < h'.n ∧ s'.at 2 = .ptr k 0 ∧ h'.get k = .cells (bB a) 0 103 := by
 intro m
 induction m with
 | zero =>
  intro i s h him ok S hkn hg g2 g5 g6 g7 gs
  refine ⟨_, _, aH (vG H.hk H.prim H.pl g7 g6 (bu (by omega))) (by simp), gs, ok, S, hkn, g2, ?_⟩
  rw [hg, bB, show i = a.length by omega, List.take_length]
 | succ m ih =>
  intro i s h him ok S hkn hg g2 g5 g6 g7 gs
  have hi : i < a.length := by omega
  obtain ⟨p, hp1, hp2⟩ := gM H (ha.mono S bX (Nat.le_refl _)) hi
  have hv := hr _ (List.getElem_mem hi)
  have o14 := sr (P := K.P) (t := 3) (x := a[i]) (y := 1) (by omega) (by omega)
  have hlen : (ah ((a.take i).map (· + 1))).length = i := by rw [aw, List.length_map, List.length_take]; omega
  have o15 : ak (.ptr k 0) (.nu .i64 (.ofNat i)) (ae K.P 103) = some (.ptr k (0 + i * 1)) := by
   rw [H.hP, KQ]
   have hb : Nat.blt i 5 = true := by simp; omega
   simp only [ak, sU, hb]
  have hset : setAt (ah ((a.take i).map (· + 1)) ++ List.replicate (5 - i) (.nu .i64 0)) i [.nu .i64 (a[i] + 1)] = ah ((a.take (i + 1)).map (· + 1)) ++ List.replicate (5 - (i + 1)) (.nu .i64 0) := by
   rw [tw, List.set_append_right _ _ (by omega), hlen, Nat.sub_self, show 5 - i = (5 - (i + 1)) + 1 by omega, List.replicate_succ, List.set_cons_zero, List.take_add_one, List.getElem?_eq_getElem hi]
   simp only [Option.toList, List.map_append, List.map_cons, List.map_nil, ah, List.append_assoc, List.cons_append, List.nil_append]
  have w1 : bt h (.ptr k (0 + i * 1)) (.nu .i64 (a[i] + 1)) (au K.P 3) = some (.undef, h.set k (.cells (ah ((a.take (i + 1)).map (· + 1)) ++ List.replicate (5 - (i + 1)) (.nu .i64 0)) 0 103)) := by
   rw [H.hP, z3]
   show db h k (0 + i * 1) 1 _ (h.get k) = _
   have hlt : Nat.ble (i + 1) (ah ((a.take i).map (· + 1)) ++ List.replicate (5 - i) (CV.nu .i64 0)).length = true := Nat.ble_eq_true_of_le (by rw [List.length_append, hlen, List.length_replicate]; omega)
   rw [hg]
   simp only [db, CV.sol, CV.cells, List.all_cons, CV.one, List.all_nil, Bool.and_self, List.length_singleton, Nat.beq_refl, Nat.mul_one, Nat.zero_add, hlt, hset]
  obtain ⟨s1, r1, k2, k5, k6, k7, ks⟩ : ∃ s1, lx K [1, 0, 1, 0, 0] s h .normal s1 _ ∧ s1.at 2 = .ptr k 0 ∧ s1.at 5 = x ∧ s1.at 6 = .nu .i64 (.ofNat a.length) ∧ s1.at 7 = .nu .i64 (.ofNat (i + 1)) ∧ s1.at ai = .undef :=
   ⟨_, vF H.hk H.prim H.pl g7 g6 g5 g2 (aV hi) hp1 hp2 o14 o15 w1 (cI (by omega)), g2, g5, g6, rfl, gs⟩
  obtain ⟨s2, h2, r2, rest⟩ := ih (i + 1) s1 _ (by omega) (ok.set hkn _) (S.trans (Same.set hk _)) hkn (by rw [Hp.get_set, if_pos rfl]) k2 k5 k6 k7 ks
  exact ⟨s2, h2, Runs.loop r1 r2, rest⟩
theorem kV {a : List Int} (hle : a.length ≤ 5) : (bB a).length = 5 := by simp [bB, ah]; omega
theorem pM (H : Std K) (ok : HpOk h) {a : List Int} (hle : a.length ≤ 5) (hr : ∀ v ∈ a, 0 ≤ v ∧ v < 64) {x : CV} (ha : Row h x (ah a)) :
  ∃ h', Comes K 71 [x] h (.agg (bB a)) h' ∧ Same h.n h h' ∧ HpOk h' := by
 have hf : K.P.funcs[71]? = some Tryz.f71 := by rw [H.hP]; exact Tryz.func71
 have o2 : dM 103 (cn K.P 103) = some (fun k => .ptr k 0, .cells [.nu .i64 0, .nu .i64 0, .nu .i64 0, .nu .i64 0, .nu .i64 0] 0 103) := by rw [H.hP, L5]; rfl
 have S0 : Same h.n h (h.push (.cells [.nu .i64 0, .nu .i64 0, .nu .i64 0, .nu .i64 0, .nu .i64 0] 0 103)) := Same.push (Nat.le_refl _) _
 have hlen := cA H (ha.mono S0 ok (Nat.le_refl _))
 rw [aw] at hlen
 obtain ⟨s1, r1, k2, k5, k6, k7, ks⟩ : ∃ s1, lx K [1, 0, 0] (T.set (entry 0 [x]) 2 (.ptr h.n 0)) (h.push (.cells [.nu .i64 0, .nu .i64 0, .nu .i64 0, .nu .i64 0, .nu .i64 0] 0 103)) .normal s1 (h.push (.cells [.nu .i64 0, .nu .i64 0, .nu .i64 0, .nu .i64 0, .nu .i64 0] 0 103)) ∧ s1.at 2 = .ptr h.n 0 ∧ s1.at 5 = x ∧ s1.at 6 = .nu .i64 (.ofNat a.length) ∧ s1.at 7 = .nu .i64 (.ofNat 0) ∧ s1.at ai = .undef := ⟨_, Jn H.hk rfl hlen, rfl, rfl, rfl, rfl, rfl⟩
 obtain ⟨s2, h2, r2, e1, e2, e3, e4, e5, e6⟩ := Ig H ok hle hr ha (Nat.le_refl h.n) a.length 0 s1 _ (by omega) (ok.push _) S0 (by simp) (by rw [ag, if_pos rfl]; rfl) k2 k5 k6 k7 ks
 have hpl := kV hle
 have hsub : sub (bB a) 0 5 = bB a := by simp only [sub, List.drop_zero]; exact List.take_of_length_le (by omega)
 have hv : eZ 0 5 true (h2.get h.n) = some (.agg (bB a)) := by
  rw [e6]
  simp only [eZ, val, Nat.zero_add, hpl, Nat.ble_eq_true_of_le (Nat.le_refl _), hsub]
 have o17 : ao h2 (.ptr h.n 0) (au K.P 103) = some (.agg (bB a)) := by rw [H.hP, Eh]; exact hv
 have hone : (bB a).all CV.one = true := by
  simp only [bB, List.all_append, Bool.and_eq_true]
  exact ⟨jZ _, by simp [List.all_eq_true, CV.one]⟩
 have hcells : CV.cells (.agg (bB a)) = bB a := rfl
 have w1 : bt h2 (.ptr h.n 0) (.agg (bB a)) (au K.P 103) = some (.undef, h2.set h.n (.cells (setAt (bB a) 0 (bB a)) 0 103)) := by
  rw [H.hP, Eh]
  show db h2 h.n 0 5 _ (h2.get h.n) = _
  rw [e6]
  simp only [db, CV.sol, hcells, hone, hpl, Nat.beq_refl, Nat.zero_add, Nat.ble_eq_true_of_le (Nat.le_refl _), Bool.and_self]
 have S2 : Same h.n h (h2.set h.n (.cells (setAt (bB a) 0 (bB a)) 0 103)) := e3.trans (Same.set (Nat.le_refl _) _)
 refine ⟨_, ?_, S2, e2.set e4 _⟩
 refine H.go hf (Runs.seq (Jm H.hk o2) (Runs.seq (Runs.seq r1 (aS r2)) (Hs H.hk H.prim H.pl e5 o17 w1))) (.inr rfl) S2.n e1 (vs := [.agg (bB a)]) ?_ rfl
 have hv2 : eZ 0 5 true ((h2.set h.n (.cells (setAt (bB a) 0 (bB a)) 0 103)).get h.n) = some (.agg (bB a)) := by
  rw [Hp.get_set, if_pos rfl, lS _ _ rfl]
  simp only [eZ, val, Nat.zero_add, hpl, Nat.ble_eq_true_of_le (Nat.le_refl _), hsub]
 have hres : Tryz.f71.results.toList = [.cell 2 103] := rfl
 have ha2 : Fr.at (T.set s2 17 (.agg (bB a))) 2 = .ptr h.n 0 := e5
 rw [hres]
 simp only [gf, ha2, H.hP, Eh, hv2]
end
theorem vU : ae Tryz.prog 100 = .map 103 46 := by kernel_rfl
theorem t3 : ae Tryz.prog 3 = .int .i64 := by kernel_rfl
theorem KR : cn Tryz.prog 46 = some .nils := by kernel_rfl
structure MB (l : List (List Int)) : Prop where
 simp : ∀ a ∈ l, OkS a
 asc : ∀ i (h : i + 1 < l.length), aZ l[i + 1] l[i] = 1
 face : ∀ a ∈ l, ∀ f ∈ bW a, f ∈ l
 le : l.length ≤ 1024
def KS (cs : List CV) : Prop := cs.length = 5 ∧ ∀ c ∈ cs, ∃ n, c = .nu .i64 n
def hZ (k : CV) : Prop := ∃ cs, k = .agg cs ∧ KS cs
theorem vV : ∀ (xs ys : List CV), xs.length = ys.length → (∀ c ∈ xs, ∃ n, c = CV.nu .i64 n) → (∀ c ∈ ys, ∃ n, c = CV.nu .i64 n) → ∃ b, cB xs ys = some b
 | [], [], _, _, _ => ⟨true, rfl⟩
 | [], _ :: _, h, _, _ => by simp at h
 | _ :: _, [], h, _, _ => by simp at h
 | x :: xs, y :: ys, h, hx, hy => by
  obtain ⟨n, rfl⟩ := hx x List.mem_cons_self
  obtain ⟨m, rfl⟩ := hy y List.mem_cons_self
  obtain ⟨b, hb⟩ := vV xs ys (by simpa using h) (fun c hc => hx c (List.mem_cons_of_mem _ hc)) (fun c hc => hy c (List.mem_cons_of_mem _ hc))
  cases hq : eu n m with
  | true => exact ⟨b, by simp only [cB, iX, mP, hq, hb]⟩
  | false => exact ⟨false, by simp only [cB, iX, mP, hq]⟩
theorem tA : ∀ (xs : List CV), (∀ c ∈ xs, ∃ n, c = CV.nu .i64 n) → cB xs xs = some true
 | [], _ => rfl
 | x :: xs, h => by
  obtain ⟨n, rfl⟩ := h x List.mem_cons_self
  have := tA xs (fun c hc => h c (List.mem_cons_of_mem _ hc))
  simp only [cB, iX, mP, md, this]
theorem gp {k k' : CV} (h : hZ k) (h' : hZ k') : ∃ b, dH k k' = some b := by
 obtain ⟨cs, rfl, h1, h2⟩ := h
 obtain ⟨ds, rfl, h3, h4⟩ := h'
 exact vV cs ds (by omega) h2 h4
theorem tB {k : CV} (h : hZ k) : dH k k = some true := by
 obtain ⟨cs, rfl, h1, h2⟩ := h
 exact tA cs h2
theorem sw {key v : CV} (hk : hZ key) : ∀ (es : List (CV × CV)), (∀ e ∈ es, hZ e.1) → ∃ es', gc key v es = some es' ∧ (∀ e ∈ es', hZ e.1) ∧ bY key es' = some (some v) ∧ ∀ key' u, hZ key' → bY key' es = some (some u) → bY key' es' = some (some u) ∨ bY key' es' = some (some v)
 | [], _ => ⟨[(key, v)], rfl, by intro e he; simp at he; rw [he]; exact hk, by simp only [bY, tB hk], by intro key' u _ h; cases h⟩
 | (k, u) :: es, h => by
  have hku := h (k, u) List.mem_cons_self
  have hes : ∀ e ∈ es, hZ e.1 := fun e he => h e (List.mem_cons_of_mem _ he)
  obtain ⟨b, hb⟩ := gp hk hku
  cases b with
  | true =>
   refine ⟨(k, v) :: es, by simp only [gc, hb], ?_, by simp only [bY, hb], ?_⟩
   · intro e he
     rcases List.mem_cons.1 he with rfl | he
     · exact hku
     · exact hes e he
   · intro key' w hk' hl
     obtain ⟨b', hb'⟩ := gp hk' hku
     cases b' with
     | true => exact .inr (by simp only [bY, hb'])
     | false => exact .inl (by simp only [bY, hb'] at hl ⊢; exact hl)
  | false =>
   obtain ⟨es', e1, e2, e3, e4⟩ := sw (v := v) hk es hes
   refine ⟨(k, u) :: es', by simp only [gc, hb, e1], ?_, by simp only [bY, hb, e3], ?_⟩
   · intro e he
     rcases List.mem_cons.1 he with rfl | he
     · exact hku
     · exact e2 e he
   · intro key' w hk' hl
     obtain ⟨b', hb'⟩ := gp hk' hku
     cases b' with
     | true => exact .inl (by simp only [bY, hb'] at hl ⊢; exact hl)
     | false =>
      simp only [bY, hb'] at hl ⊢
      exact e4 key' w hk' hl
theorem vW {a : List Int} (h : a.length ≤ 5) : KS (bB a) := by
 refine ⟨kV h, fun c hc => ?_⟩
 simp only [bB, ah, List.mem_append, List.mem_map, List.mem_replicate] at hc
 rcases hc with ⟨n, _, rfl⟩ | ⟨_, rfl⟩ <;> exact ⟨_, rfl⟩
theorem ft {a : List Int} (h : a.length ≤ 5) : hZ (.agg (bB a)) := ⟨_, rfl, vW h⟩
def L6 (es : List (CV × CV)) (a : List Int) : Prop := ∃ k o n c, bY (.agg (bB a)) es = some (some (.sl k o n c))
section
variable {K : Ctx} {h : Hp}
theorem kH (H : Std K) {a : List Int} (h : a.length ≤ 5) : kj K.P 103 (.agg (bB a)) = true := by
 have hall : (bB a).all (fun c => match c with
   | .nu k' _ => mP .i64 k'
   | _ => false) = true := by
  rw [List.all_eq_true]
  intro c hc
  obtain ⟨n, rfl⟩ := (vW h).2 c hc
  rfl
 simp only [kj, H.hP, KQ, t3, kV h, Nat.beq_refl, Bool.true_and]
 exact hall
theorem Cb (H : Std K) (k o n c : Nat) : ac K.P .eql 46 (.sl k o n c) .nils = some (.bo false) := by
 have : ae K.P 46 = .slice 3 1 8 [.nu .i64 0] := by rw [H.hP]; exact t46
 simp only [ac, qQ, sT, this]
theorem zf (H : Std K) {h : Hp} {km : Nat} {es : List (CV × CV)} {a : List Int} (hle : a.length ≤ 5) (hg : h.get km = .mp es) {k o n c : Nat} (hl : bY (.agg (bB a)) es = some (some (.sl k o n c))) : ed K.P h false (.agg (bB a)) (.mp km) (ae K.P 100) = some (.sl k o n c) := by
 have h1 : ae K.P 100 = .map 103 46 := by rw [H.hP]; exact vU
 have h2 : cn K.P 46 = some .nils := by rw [H.hP]; exact KR
 rw [h1]
 simp only [ed, kH H hle, uA, h2, pV, hg, hl, pU, xr]
theorem sy (a : List Int) : (bW a).length ≤ a.length := by
 unfold bW; split <;> simp
end
def fV (K : Ctx) (f : FuncId) (args : List CV) (h : Hp) (Q : CV → Hp → Prop) : Prop := ∃ r h', Comes K f args h r h' ∧ Same h.n h h' ∧ HpOk h' ∧ Q r h'
section
variable {K : Ctx} {h : Hp}
theorem zg (H : Std K) {a : List Int} {v : Int} (hbig : a.length < 4611686018427387904) {x : CV} (ha : Row h x (ah a)) : ∀ (m i : Nat) (s : Fr), i + m = a.length → s.at 0 = x → s.at 1 = .nu .i64 v → s.at 7 = .nu .i64 (.ofNat a.length) → s.at 8 = .nu .i64 (.ofNat i) → s.at ai = .undef →
  ∃ e s', gm K [1, 0, 1, 0] s h e s' h ∧ s'.at ai = .undef ∧ ((e = .exit 0 ∧ jX (a.drop i) v = false) ∨ (e = .ret ∧ (∃ j : Nat, s'.at 4 = .nu .i64 (.ofNat j)) ∧ jX (a.drop i) v = true)) := by
 intro m
 induction m with
 | zero =>
  intro i s him g0 g1 g7 g8 gs
  exact ⟨_, _, aH (uq H.hk H.prim H.pl g8 g7 (bu (by omega))) (by simp), gs, .inl ⟨rfl, by rw [List.drop_of_length_le (by omega)]; rfl⟩⟩
 | succ m ih =>
  intro i s him g0 g1 g7 g8 gs
  have hi : i < a.length := by omega
  have hda : a.drop i = a[i] :: a.drop (i + 1) := List.drop_eq_getElem_cons hi
  obtain ⟨p, hp1, hp2⟩ := gM H ha hi
  have o16 := nF (P := K.P) (t := 3) v a[i]
  by_cases he : v = a[i]
  · rw [ip he] at o16
    exact ⟨_, _, aH (sc H.hk H.prim H.pl g8 g7 g1 g0 (aV hi) hp1 hp2 o16) (by simp), gs, .inr ⟨rfl, ⟨i, rfl⟩, by rw [hda, jX, List.any_cons, ip he.symm]; rfl⟩⟩
  · rw [gN he] at o16
    obtain ⟨s1, r1, k0, k1, k7, k8, ks⟩ : ∃ s1, gm K [1, 0, 1, 0, 0] s h .normal s1 h ∧ s1.at 0 = x ∧ s1.at 1 = .nu .i64 v ∧ s1.at 7 = .nu .i64 (.ofNat a.length) ∧ s1.at 8 = .nu .i64 (.ofNat (i + 1)) ∧ s1.at ai = .undef :=
     ⟨_, sd H.hk H.prim H.pl g8 g7 g1 g0 (aV hi) hp1 hp2 o16 (cI (by omega)), g0, g1, g7, rfl, gs⟩
    obtain ⟨e, s', r2, hs', hr⟩ := ih (i + 1) s1 (by omega) k0 k1 k7 k8 ks
    refine ⟨e, s', Runs.loop r1 r2, hs', ?_⟩
    rw [hda, show jX (a[i] :: a.drop (i + 1)) v = jX (a.drop (i + 1)) v by rw [jX, List.any_cons, gN (Ne.symm he)]; rfl]
    exact hr
theorem xc (H : Std K) {a : List Int} {v : Int} (hbig : a.length < 4611686018427387904) {x : CV} (ha : Row h x (ah a)) : ∃ n, Comes K 141 [x, .nu .i64 v] h (.nu .i64 n) h ∧ cr 0 n = jX a v := by
 have hf : K.P.funcs[141]? = some Tryz.f141 := by rw [H.hP]; exact Tryz.func141
 have hlen := cA H ha
 rw [aw] at hlen
 obtain ⟨s1, r1, k0, k1, k7, k8, ks⟩ : ∃ s1, gm K [1, 0, 0] (T.set (entry 0 [x, .nu .i64 v]) 4 (.nu .i64 0)) h .normal s1 h ∧ s1.at 0 = x ∧ s1.at 1 = .nu .i64 v ∧ s1.at 7 = .nu .i64 (.ofNat a.length) ∧ s1.at 8 = .nu .i64 (.ofNat 0) ∧ s1.at ai = .undef := ⟨_, G3 H.hk rfl hlen, rfl, rfl, rfl, rfl, rfl⟩
 obtain ⟨e, s2, r2, hs2, hr⟩ := zg H (v := v) hbig ha a.length 0 s1 (by omega) k0 k1 k7 k8 ks
 rw [List.drop_zero] at hr
 rcases hr with ⟨rfl, h0⟩ | ⟨rfl, ⟨j, h4⟩, h0⟩
 · exact ⟨-1, H.go hf (Runs.seq (x8 H.hk) (Runs.seq (Runs.seq r1 (aS r2)) (DY H.hk H.prim H.pl))) (.inr rfl) (Nat.le_refl _) hs2 rfl rfl, by rw [h0]; rfl⟩
 · exact ⟨.ofNat j, H.go hf (Runs.seq (x8 H.hk) (aE (Runs.seq r1 (aG r2)) (by simp))) (.inr rfl) (Nat.le_refl _) hs2 (vs := [s2.at 4]) rfl h4, by rw [h0]; rfl⟩
theorem lE (H : Std K) {a : List Int} {v : Int} (hbig : a.length < 4611686018427387904) {x : CV} (ha : Row h x (ah a)) : Comes K 113 [x, .nu .i64 v] h (.bo (jX a v)) h := by
 have hf : K.P.funcs[113]? = some Tryz.f113 := by rw [H.hP]; exact Tryz.func113
 obtain ⟨n, c, hn⟩ := xc H (v := v) hbig ha
 have o8 := pK (P := K.P) (t := 3) n 0
 rw [hn] at o8
 exact H.go hf (JQ H.hk H.prim H.pl (s := entry 0 [x, .nu .i64 v]) rfl rfl c o8) (.inr rfl) (Nat.le_refl _) rfl rfl rfl
def eK (a b : List Int) : List Int := a.filter fun v => jX b v
theorem Fz (H : Std K) {N : Nat} {x : CV} {c : List Int} (ok : HpOk h) (hN : N ≤ h.n) (r : Out N h 3 x (ah c)) (v : Int) (hn : c.length < 1099511627776) :
  ∃ F B x' h', aC 1 [(0, .nu .i64 v)] (ae K.P 46) = some (F, B) ∧ be (h.push B) x (F h.n) (ae K.P 46) (ae K.P 46) = some (x', h') ∧ Out N h' 3 x' (ah (c ++ [v])) ∧ Same N h h' ∧ HpOk h' := by
 obtain ⟨F, B, x', h', a1, a2, a3, a4, a5⟩ := L4 (P := K.P) (t := 46) (v := .nu .i64 v) (by rw [H.hP]; exact t46) ok hN r rfl (by decide) (by rw [aw]; exact hn)
 exact ⟨F, B, x', h', a1, a2, by rw [← B0]; exact a3, a4, a5⟩
theorem zh (H : Std K) {h0 : Hp} (bX : HpOk h0) {a b : List Int} (hbig : a.length < 1099511627776) (hbb : b.length < 4611686018427387904) {x y : CV} (ha : Row h0 x (ah a)) (hb : Row h0 y (ah b)) : ∀ (m i : Nat) (s : Fr) (h : Hp) (o : CV) (c : List Int), i + m = a.length → HpOk h → Same h0.n h0 h → Out h0.n h 3 o (ah c) → c.length ≤ i → s.at 1 = y → s.at 4 = o → s.at 7 = x → s.at 8 = .nu .i64 (.ofNat a.length) → s.at 9 = .nu .i64 (.ofNat i) → s.at ai = .undef →
  ∃ s' h' o', fO K [1, 0, 1, 0] s h (.exit 0) s' h' ∧ s'.at ai = .undef ∧ HpOk h' ∧ Same h0.n h0 h' ∧ s'.at 4 = o' ∧ Out h0.n h' 3 o' (ah (c ++ eK (a.drop i) b)) := by
 intro m
 induction m with
 | zero =>
  intro i s h o c him ok S ho hc g1 g4 g7 g8 g9 gs
  refine ⟨_, _, o, aH (uo H.hk H.prim H.pl g9 g8 (bu (by omega))) (by simp), gs, ok, S, g4, ?_⟩
  rw [List.drop_of_length_le (by omega)]; simpa [eK] using ho
 | succ m ih =>
  intro i s h o c him ok S ho hc g1 g4 g7 g8 g9 gs
  have hi : i < a.length := by omega
  have hda : a.drop i = a[i] :: a.drop (i + 1) := List.drop_eq_getElem_cons hi
  obtain ⟨p, hp1, hp2⟩ := gM H (ha.mono S bX (Nat.le_refl _)) hi
  have hc1 := lE H (v := a[i]) hbb (hb.mono S bX (Nat.le_refl _))
  cases hq : jX b a[i] with
  | true =>
   rw [hq] at hc1
   obtain ⟨F, B, x', h', a1, a2, a3, a4, a5⟩ := Fz H ok S.n ho a[i] (by omega)
   obtain ⟨s1, r1, k1, k4, k7, k8, k9, ks⟩ : ∃ s1, fO K [1, 0, 1, 0, 0] s h .normal s1 h' ∧ s1.at 1 = y ∧ s1.at 4 = x' ∧ s1.at 7 = x ∧ s1.at 8 = .nu .i64 (.ofNat a.length) ∧ s1.at 9 = .nu .i64 (.ofNat (i + 1)) ∧ s1.at ai = .undef :=
    ⟨_, rU H.hk H.prim H.pl g9 g8 g7 g1 g4 (aV hi) hp1 hp2 hc1 a1 a2 (cI (by omega)), g1, rfl, g7, g8, rfl, gs⟩
   obtain ⟨s', h2, o', r2, e1, e2, e3, e4, e5⟩ := ih (i + 1) s1 h' x' (c ++ [a[i]]) (by omega) a5 (S.trans a4) a3 (by simp; omega) k1 k4 k7 k8 k9 ks
   refine ⟨s', h2, o', Runs.loop r1 r2, e1, e2, e3, e4, ?_⟩
   have : c ++ eK (a.drop i) b = c ++ [a[i]] ++ eK (a.drop (i + 1)) b := by rw [hda, eK, List.filter_cons, if_pos hq]; simp [eK]
   rw [this]; exact e5
  | false =>
   rw [hq] at hc1
   obtain ⟨s1, r1, k1, k4, k7, k8, k9, ks⟩ : ∃ s1, fO K [1, 0, 1, 0, 0] s h .normal s1 h ∧ s1.at 1 = y ∧ s1.at 4 = o ∧ s1.at 7 = x ∧ s1.at 8 = .nu .i64 (.ofNat a.length) ∧ s1.at 9 = .nu .i64 (.ofNat (i + 1)) ∧ s1.at ai = .undef :=
    ⟨_, rV H.hk H.prim H.pl g9 g8 g7 g1 (aV hi) hp1 hp2 hc1 (cI (by omega)), g1, g4, g7, g8, rfl, gs⟩
   obtain ⟨s', h2, o', r2, e1, e2, e3, e4, e5⟩ := ih (i + 1) s1 h o c (by omega) ok S ho (by omega) k1 k4 k7 k8 k9 ks
   refine ⟨s', h2, o', Runs.loop r1 r2, e1, e2, e3, e4, ?_⟩
   have : eK (a.drop i) b = eK (a.drop (i + 1)) b := by rw [hda, eK, List.filter_cons, if_neg (by rw [hq]; simp)]; rfl
   rw [this]; exact e5
theorem Cc (H : Std K) (ok : HpOk h) {a b : List Int} (hbig : a.length < 1099511627776) (hbb : b.length < 4611686018427387904) {x y : CV} (ha : Row h x (ah a)) (hb : Row h y (ah b)) : fV K 121 [x, y] h fun r h' => Out h.n h' 3 r (ah (eK a b)) := by
 have hf : K.P.funcs[121]? = some Tryz.f121 := by rw [H.hP]; exact Tryz.func121
 have hlen := cA H ha
 rw [aw] at hlen
 obtain ⟨s1, r1, k1, k4, k7, k8, k9, ks⟩ : ∃ s1, fO K [1, 0, 0] (T.set (entry 0 [x, y]) 4 .nils) h .normal s1 h ∧ s1.at 1 = y ∧ s1.at 4 = .nils ∧ s1.at 7 = x ∧ s1.at 8 = .nu .i64 (.ofNat a.length) ∧ s1.at 9 = .nu .i64 (.ofNat 0) ∧ s1.at ai = .undef := ⟨_, GJ H.hk rfl hlen, rfl, rfl, rfl, rfl, rfl, rfl⟩
 obtain ⟨s2, h2, o2, r2, e1, e2, e3, e4, e5⟩ := zh H ok hbig hbb ha hb a.length 0 s1 h .nils [] (by omega) ok (Same.refl _ _) .nils (by simp) k1 k4 k7 k8 k9 ks
 rw [List.drop_zero, List.nil_append] at e5
 exact ⟨o2, h2, H.go hf (Runs.seq (GI H.hk) (Runs.seq (Runs.seq r1 (aS r2)) (DU H.hk H.prim H.pl e4))) (.inr rfl) e3.n e1 rfl rfl, e3, e2, e5⟩
def fv : List Int → List Int → Bool
 | x :: a, y :: b => eu x y && fv a b
 | [], [] => true
 | _, _ => false
theorem jA : ∀ (a b : List Int), fv a b = true ↔ a = b
 | [], [] => by simp [fv]
 | [], _ :: _ => by simp [fv]
 | _ :: _, [] => by simp [fv]
 | x :: a, y :: b => by simp [fv, jA a b, fQ]
theorem Ih {a b : List Int} (h : a.length ≠ b.length) : fv a b = false := by
 cases hq : fv a b with
 | false => rfl
 | true => rw [jA] at hq; rw [hq] at h; exact absurd rfl h
theorem zi (H : Std K) {a b : List Int} (hab : a.length = b.length) (hbig : a.length < 4611686018427387904) {x y : CV} (ha : Row h x (ah a)) (hb : Row h y (ah b)) : ∀ (m i : Nat) (s : Fr), i + m = a.length → s.at 0 = x → s.at 1 = y → s.at 12 = .nu .i64 (.ofNat a.length) → s.at 13 = .nu .i64 (.ofNat i) → s.at ai = .undef →
  ∃ e s', gC K [1, 1, 0, 1, 0] s h e s' h ∧ s'.at ai = .undef ∧ ((e = .exit 0 ∧ fv (a.drop i) (b.drop i) = true) ∨ (e = .ret ∧ s'.at 4 = .bo false ∧ fv (a.drop i) (b.drop i) = false)) := by
 intro m
 induction m with
 | zero =>
  intro i s him g0 g1 g12 g13 gs
  exact ⟨_, _, aH (uk H.hk H.prim H.pl g13 g12 (bu (by omega))) (by simp), gs, .inl ⟨rfl, by rw [List.drop_of_length_le (by omega), List.drop_of_length_le (by omega)]; rfl⟩⟩
 | succ m ih =>
  intro i s him g0 g1 g12 g13 gs
  have hi : i < a.length := by omega
  have hib : i < b.length := by omega
  have hda : a.drop i = a[i] :: a.drop (i + 1) := List.drop_eq_getElem_cons hi
  have hdb : b.drop i = b[i] :: b.drop (i + 1) := List.drop_eq_getElem_cons hib
  obtain ⟨p, hp1, hp2⟩ := gM H ha hi
  obtain ⟨q, hq1, hq2⟩ := gM H hb hib
  have o24 := nG (P := K.P) (t := 3) a[i] b[i]
  cases he : eu a[i] b[i] with
  | true =>
   rw [he] at o24
   obtain ⟨s1, r1, k0, k1, k12, k13, ks⟩ : ∃ s1, gC K [1, 1, 0, 1, 0, 0] s h .normal s1 h ∧ s1.at 0 = x ∧ s1.at 1 = y ∧ s1.at 12 = .nu .i64 (.ofNat a.length) ∧ s1.at 13 = .nu .i64 (.ofNat (i + 1)) ∧ s1.at ai = .undef :=
    ⟨_, rQ H.hk H.prim H.pl g13 g12 g0 g1 (aV hi) hp1 hp2 (dS _) hq1 hq2 o24 (cI (by omega)), g0, g1, g12, rfl, gs⟩
   obtain ⟨e, s', r2, hs', hr⟩ := ih (i + 1) s1 (by omega) k0 k1 k12 k13 ks
   refine ⟨e, s', Runs.loop r1 r2, hs', ?_⟩
   rw [hda, hdb, show fv (a[i] :: a.drop (i + 1)) (b[i] :: b.drop (i + 1)) = fv (a.drop (i + 1)) (b.drop (i + 1)) by simp only [fv, he, Bool.true_and]]
   exact hr
  | false =>
   rw [he] at o24
   exact ⟨_, _, aH (rP H.hk H.prim H.pl g13 g12 g0 g1 (aV hi) hp1 hp2 (dS _) hq1 hq2 o24) (by simp), gs, .inr ⟨rfl, rfl, by rw [hda, hdb]; simp only [fv, he, Bool.false_and]⟩⟩
theorem o0 (H : Std K) {a b : List Int} (hbig : a.length < 4611686018427387904) {x y : CV} (ha : Row h x (ah a)) (hb : Row h y (ah b)) : Comes K 80 [x, y] h (.bo (fv a b)) h := by
 have hf : K.P.funcs[80]? = some Tryz.f80 := by rw [H.hP]; exact Tryz.func80
 have hla := cA H ha
 have hlb := cA H hb
 rw [aw] at hla hlb
 have o10 := nG (P := K.P) (t := 3) (Int.ofNat a.length) (Int.ofNat b.length)
 by_cases hab : a.length = b.length
 · rw [ip (by simp [hab])] at o10
   obtain ⟨s1, r1, j0, j1, js⟩ : ∃ s1, gC K [1, 0] (T.set (entry 0 [x, y]) 4 (.bo false)) h .normal s1 h ∧ s1.at 0 = x ∧ s1.at 1 = y ∧ s1.at ai = .undef := ⟨_, A3 H.hk H.prim H.pl rfl rfl hla hlb o10, rfl, rfl, rfl⟩
   obtain ⟨s2, r2, k0, k1, k12, k13, ks⟩ : ∃ s2, gC K [1, 1, 0, 0] s1 h .normal s2 h ∧ s2.at 0 = x ∧ s2.at 1 = y ∧ s2.at 12 = .nu .i64 (.ofNat a.length) ∧ s2.at 13 = .nu .i64 (.ofNat 0) ∧ s2.at ai = .undef := ⟨_, JJ H.hk j0 hla, j0, j1, rfl, rfl, js⟩
   obtain ⟨e, s3, r3, hs3, hr⟩ := zi H hab hbig ha hb a.length 0 s2 (by omega) k0 k1 k12 k13 ks
   rw [List.drop_zero, List.drop_zero] at hr
   rcases hr with ⟨rfl, h0⟩ | ⟨rfl, h4, h0⟩
   · rw [h0]
     exact H.go hf (Runs.seq (vz H.hk) (Runs.seq r1 (Runs.seq (Runs.seq r2 (aS r3)) (DQ H.hk H.prim H.pl)))) (.inr rfl) (Nat.le_refl _) hs3 rfl rfl
   · rw [h0]
     exact H.go hf (Runs.seq (vz H.hk) (Runs.seq r1 (aE (Runs.seq r2 (aG r3)) (by simp)))) (.inr rfl) (Nat.le_refl _) hs3 (vs := [s3.at 4]) rfl h4
 · rw [gN (fun e => hab (Int.ofNat.inj e))] at o10
   rw [Ih hab]
   exact H.go hf (Runs.seq (vz H.hk) (aE (A2 H.hk H.prim H.pl rfl rfl hla hlb o10) (by simp))) (.inr rfl) (Nat.le_refl _) rfl rfl rfl
def Asks (K : Ctx) (h0 : Hp) (G : FuncId) (C : List CV) (l : List (List Int)) (p : List Int → Bool) : Prop := ∀ (y : CV) (a : List Int) (g : Hp), a ∈ l → HpOk g → Same h0.n h0 g → Row g y (ah a) → fV K G ([y] ++ C) g fun r _ => r = .bo (p a)
theorem Cd (H : Std K) {h0 : Hp} (bX : HpOk h0) {l : List (List Int)} (hl : l.length < 4611686018427387904) {G : FuncId} {C : List CV} {p : List Int → Bool} (hg : Asks K h0 G C l p) {x : CV} {cs : List CV} (hx : Row h0 x cs) (hxs : Rows h0 cs l) : ∀ (m i : Nat) (s : Fr) (h : Hp), i + m = l.length → HpOk h → Same h0.n h0 h → s.at 0 = x → s.at 1 = .fn G C → s.at 7 = .nu .i64 (.ofNat l.length) → s.at 8 = .nu .i64 (.ofNat i) → s.at ai = .undef →
  ∃ e s' h', gl K [1, 0, 1, 0] s h e s' h' ∧ s'.at ai = .undef ∧ HpOk h' ∧ Same h0.n h0 h' ∧ ((e = .exit 0 ∧ (l.drop i).any p = false) ∨ (e = .ret ∧ (∃ j : Nat, s'.at 4 = .nu .i64 (.ofNat j)) ∧ (l.drop i).any p = true)) := by
 intro m
 have hcl := hxs.length
 induction m with
 | zero =>
  intro i s h him ok S g0 g1 g7 g8 gs
  exact ⟨_, _, _, aH (up H.hk H.prim H.pl g8 g7 (bu (by omega))) (by simp), gs, ok, S, .inl ⟨rfl, by rw [List.drop_of_length_le (by omega)]; rfl⟩⟩
 | succ m ih =>
  intro i s h him ok S g0 g1 g7 g8 gs
  have hi : i < l.length := by omega
  have hda : l.drop i = l[i] :: l.drop (i + 1) := List.drop_eq_getElem_cons hi
  obtain ⟨q, hq1, hq2⟩ := j8 H (hx.mono S bX (Nat.le_refl _)) (i := i) (by omega)
  obtain ⟨r, h1, c1, S1, aX, rfl⟩ := hg cs[i] l[i] h (List.getElem_mem hi) ok S ((hxs.get (i := i) (by omega) hi).mono S bX (Nat.le_refl _))
  have S' := S.trans (S1.le S.n)
  cases he : p l[i] with
  | true =>
   rw [he] at c1
   exact ⟨_, _, _, aH (rX H.hk H.prim H.pl g8 g7 g1 g0 (aV hi) hq1 hq2 rfl c1) (by simp), gs, aX, S', .inr ⟨rfl, ⟨i, rfl⟩, by rw [hda, List.any_cons, he]; rfl⟩⟩
  | false =>
   rw [he] at c1
   obtain ⟨s1, r1, k0, k1, k7, k8, ks⟩ : ∃ s1, gl K [1, 0, 1, 0, 0] s h .normal s1 h1 ∧ s1.at 0 = x ∧ s1.at 1 = .fn G C ∧ s1.at 7 = .nu .i64 (.ofNat l.length) ∧ s1.at 8 = .nu .i64 (.ofNat (i + 1)) ∧ s1.at ai = .undef :=
    ⟨_, sb H.hk H.prim H.pl g8 g7 g1 g0 (aV hi) hq1 hq2 rfl c1 (cI (by omega)), g0, g1, g7, rfl, gs⟩
   obtain ⟨e, s', h', r2, e1, e2, e3, hr⟩ := ih (i + 1) s1 h1 (by omega) aX S' k0 k1 k7 k8 ks
   refine ⟨e, s', h', Runs.loop r1 r2, e1, e2, e3, ?_⟩
   rw [hda, show (l[i] :: l.drop (i + 1)).any p = (l.drop (i + 1)).any p by rw [List.any_cons, he]; rfl]
   exact hr
theorem nJ (H : Std K) (ok : HpOk h) {l : List (List Int)} (hl : l.length < 4611686018427387904) {G : FuncId} {C : List CV} {p : List Int → Bool} (hg : Asks K h G C l p) {x : CV} {cs : List CV} (hx : Row h x cs) (hxs : Rows h cs l) : fV K 78 [x, .fn G C] h fun r _ => r = .bo (l.any p) := by
 have hf : K.P.funcs[124]? = some Tryz.f124 := by rw [H.hP]; exact Tryz.func124
 have hf2 : K.P.funcs[78]? = some Tryz.f78 := by rw [H.hP]; exact Tryz.func78
 have hlen := fc H hx
 rw [hxs.length] at hlen
 obtain ⟨s1, r1, k0, k1, k7, k8, ks⟩ : ∃ s1, gl K [1, 0, 0] (T.set (entry 0 [x, .fn G C]) 4 (.nu .i64 0)) h .normal s1 h ∧ s1.at 0 = x ∧ s1.at 1 = .fn G C ∧ s1.at 7 = .nu .i64 (.ofNat l.length) ∧ s1.at 8 = .nu .i64 (.ofNat 0) ∧ s1.at ai = .undef := ⟨_, GX H.hk rfl hlen, rfl, rfl, rfl, rfl, rfl⟩
 obtain ⟨e, s2, h2, r2, hs2, bz, S2, hr⟩ := Cd H ok hl hg hx hxs l.length 0 s1 h (by omega) ok (Same.refl _ _) k0 k1 k7 k8 ks
 rw [List.drop_zero] at hr
 have key : ∃ n, Comes K 124 [x, .fn G C] h (.nu .i64 n) h2 ∧ cr 0 n = l.any p := by
  rcases hr with ⟨rfl, h0⟩ | ⟨rfl, ⟨j, h4⟩, h0⟩
  · exact ⟨-1, H.go hf (Runs.seq (x4 H.hk) (Runs.seq (Runs.seq r1 (aS r2)) (DW H.hk H.prim H.pl))) (.inr rfl) S2.n hs2 rfl rfl, by rw [h0]; rfl⟩
  · exact ⟨.ofNat j, H.go hf (Runs.seq (x4 H.hk) (aE (Runs.seq r1 (aG r2)) (by simp))) (.inr rfl) S2.n hs2 (vs := [s2.at 4]) rfl h4, by rw [h0]; rfl⟩
 obtain ⟨n, c, hn⟩ := key
 have o8 := pK (P := K.P) (t := 3) n 0
 rw [hn] at o8
 exact ⟨_, h2, ck hf2 rfl (H.memo 78 (by decide)) (H.spec 78) rfl (LC H.hk H.prim H.pl (s := entry 0 [x, .fn G C]) rfl rfl c o8) (.inr rfl) S2.n rfl rfl rfl, S2, bz, rfl⟩
theorem Row.isSl {x : CV} {cs : List CV} (r : Row h x cs) (hne : cs ≠ []) : ∃ k o n c, x = .sl k o n c := by
 cases r with
 | nils => exact absurd rfl hne
 | sle => exact absurd rfl hne
 | none k o c => exact absurd rfl hne
 | some => exact ⟨_, _, _, _, rfl⟩
theorem tC (H : Std K) (ok : HpOk h) {a : List Int} (hne : a ≠ []) (hbig : a.length < 1099511627776) {x : CV} (ha : Row h x (ah a)) : fV K 69 [x] h fun r h' => Out h.n h' 3 r (ah a) := by
 have hf : K.P.funcs[69]? = some Tryz.f69 := by rw [H.hP]; exact Tryz.func69
 obtain ⟨k, o, n, c, hsl⟩ := ha.isSl (ep hne)
 obtain ⟨F, B, x', h', a1, a2, a3, a4, a5⟩ := Eg (P := K.P) (t := 46) (t' := 46) (by rw [H.hP]; exact t46) ⟨_, _, _, by rw [H.hP]; exact t46⟩ ok ha (ep hne) (jZ a) (by decide) (by rw [aw]; exact hbig)
 have o4 : ac K.P .eql 46 x .nils = some (.bo false) := by rw [hsl]; exact Cb H k o n c
 exact ⟨x', h', H.go hf (Hr H.hk H.prim H.pl (s := entry 0 [x]) rfl o4 a1 a2) (.inr rfl) a4.n rfl rfl rfl, a4, a5, a3⟩
end
theorem tD {α : Type} : ∀ (cs rest ys : List α), setAt (cs ++ rest) cs.length ys = cs ++ setAt rest 0 ys
 | [], rest, ys => rfl
 | c :: cs, rest, [] => by simp [c6]
 | c :: cs, rest, y :: ys => by
  have := tD cs rest (y :: ys)
  simp only [List.cons_append, List.length_cons, setAt, this]
theorem qB {α : Type} : ∀ (rest ys : List α), ys.length ≤ rest.length → setAt rest 0 ys = ys ++ rest.drop ys.length
 | rest, [], _ => by simp [c6]
 | [], y :: ys, h => by simp at h
 | r :: rest, y :: ys, h => by
  have := qB rest ys (by simpa using h)
  simp only [setAt, this, List.cons_append, List.length_cons, List.drop_succ_cons]
structure Fill (N : Nat) (h : Hp) (el m : Nat) (x : CV) (cs : List CV) : Prop where
 at' : ∃ k rest, x = .sl k 0 cs.length m ∧ N ≤ k ∧ k < h.n ∧ h.get k = .cells (cs ++ rest) 1 el ∧ cs.length + rest.length = m
theorem Fill.out {N el m : Nat} {h : Hp} {x : CV} {cs : List CV} (F : Fill N h el m x cs) (hm : cs.length = m) (hne : cs ≠ []) : Out N h el x cs := by
 obtain ⟨k, rest, rfl, hk, hn, hg, hl⟩ := F.at'
 have : rest = [] := List.eq_nil_of_length_eq_zero (by omega)
 subst this; subst hm
 rw [List.append_nil] at hg
 exact .some hk hn hne hg
theorem Fill.app {N el m bytes : Nat} {h : Hp} {z : List CV} {t' : cq} {x y : CV} {cs ys : List CV} (ok : HpOk h) (F : Fill N h el m x cs) (hy : Row h y ys) (hone : ys.all CV.one = true) (hle : cs.length + ys.length ≤ m) (hz : z.length = 1) (ht : ∃ e' b' z', t' = .slice e' 1 b' z') (hb : (cs.length + ys.length) * bytes ≤ 70368744177664) (hn : cs.length + ys.length ≤ 4611686018427387904) :
  ∃ x' h', be h x y (.slice el 1 bytes z) t' = some (x', h') ∧ Fill N h' el m x' (cs ++ ys) ∧ Same N h h' ∧ HpOk h' := by
 obtain ⟨e', b', z', rfl⟩ := ht
 obtain ⟨k, rest, rfl, hk, hkn, hg, hl⟩ := F.at'
 have hcells := hy.cells
 have hlen := hy.lenV
 have hc : (ys.all CV.one && Nat.beq z.length 1 && Nat.blt 0 1 && Nat.ble ((CP.lenV (.sl k 0 cs.length m) + ys.length) * bytes) 70368744177664 && Nat.ble (CP.lenV (.sl k 0 cs.length m) + ys.length) 4611686018427387904) = true := by
  rw [hone, hz, show CP.lenV (.sl k 0 cs.length m) = cs.length from rfl, Nat.ble_eq_true_of_le hb, Nat.ble_eq_true_of_le hn]; rfl
 have h1 : be h (.sl k 0 cs.length m) y (.slice el 1 bytes z) (.slice e' 1 b' z') = eC h el 1 (.sl k 0 cs.length m) ys ys.length := by
  simp only [be, gV, hcells, hlen, hc]
 rw [h1]
 cases hq : Nat.beq ys.length 0 with
 | true =>
  have : ys = [] := List.eq_nil_of_length_eq_zero (Nat.eq_of_beq_eq_true hq)
  subst this
  refine ⟨.sl k 0 cs.length m, h, ?_, ⟨⟨k, rest, by simp, hk, hkn, by simpa using hg, by simpa using hl⟩⟩, Same.refl _ _, ok⟩
  simp only [eC, hq, Nat.ble_eq_true_of_le (show cs.length ≤ m by omega)]
 | false =>
  refine ⟨.sl k 0 (cs.length + ys.length) m, h.set k (.cells (cs ++ ys ++ rest.drop ys.length) 1 el), ?_, ⟨⟨k, rest.drop ys.length, by simp, hk, hkn, by rw [Hp.get_set, if_pos rfl], by simp; omega⟩⟩, Same.set hk _, ok.set hkn _⟩
  have hset : setAt (cs ++ rest) (0 + cs.length * 1) ys = cs ++ ys ++ rest.drop ys.length := by
   rw [Nat.zero_add, Nat.mul_one, tD, qB _ _ (by omega), List.append_assoc]
  have hb2 : Nat.ble (0 + (cs.length + ys.length) * 1) (cs ++ rest).length = true := Nat.ble_eq_true_of_le (by simp; omega)
  simp only [eC, hq, Nat.ble_eq_true_of_le hle, yD, hg, hb2, hset]
section
variable {K : Ctx} {h : Hp}
theorem Ei (H : Std K) (ok : HpOk h) {m : Nat} (h0 : 0 < m) (hm : m < 1099511627776) : fV K 145 [.nils, .nu .i64 (.ofNat m)] h fun r h' => Fill h.n h' 3 m r [] := by
 have hf : K.P.funcs[145]? = some Tryz.f145 := by rw [H.hP]; exact Tryz.func145
 have ht : ae K.P 46 = .slice 3 1 8 [.nu .i64 0] := by rw [H.hP]; exact t46
 have ht3 : ae K.P 3 = .int .i64 := by rw [H.hP]; exact t3
 have o6 := bu (P := K.P) (t := 3) (x := m) (y := 0) (Nat.zero_le _)
 have o14 : ac K.P .sub 3 (.nu .i64 (.ofNat m)) (.nu .i64 0) = some (.nu .i64 (.ofNat m)) := by
  show some (fK .i64 (Int.ofNat m - 0)) = _
  rw [dO, Int.sub_zero]; exact congrArg _ (congrArg _ (eQ m (by omega)))
 have o16 := aO (P := K.P) (t := 3) (Int.ofNat m) 0
 rw [fE (by simp; omega)] at o16
 have hlen : (dG [CV.nu .i64 0] m).length = m := by rw [dq]; simp
 have wg : be h .nils (.nu .i64 (.ofNat m)) (ae K.P 46) (ae K.P 3) = some (.sl h.n 0 m m, h.push (.cells (dG [.nu .i64 0] m) 1 3)) := by
  rw [ht, ht3]
  have hc : (Nat.beq [CV.nu .i64 0].length 1 && Nat.blt 0 1 && Nat.blt 0 m && Nat.ble (m * 8) 70368744177664 && Nat.ble m 4611686018427387904) = true := by
   rw [Nat.ble_eq_true_of_le (show m * 8 ≤ 70368744177664 by omega), Nat.ble_eq_true_of_le (show m ≤ 4611686018427387904 by omega), show Nat.blt 0 m = true by simpa using h0]; rfl
  simp only [be, CZ, hc]
 have hg : (h.push (.cells (dG [.nu .i64 0] m) 1 3)).get h.n = .cells (dG [.nu .i64 0] m) 1 3 := by rw [ag, if_pos rfl]
 have o25 : bC none (some (.nu .i64 (.ofNat 0))) (h.push (.cells (dG [.nu .i64 0] m) 1 3)) (.sl h.n 0 m m) (ae K.P 46) = some (.sl h.n 0 0 m) := by
  rw [ht]
  have : Nat.blt 0 m = true := by simpa using h0
  have hf : qR 1 (HB.cells (dG [CV.nu .i64 0] m) 1 3) = true := rfl
  simp only [bC, gk, I0, dA, Nat.ble_eq_true_of_le (Nat.zero_le m), Nat.ble_eq_true_of_le (Nat.le_refl 0), Bool.and_self, this, hg, hf, Nat.sub_zero, Nat.zero_mul, Nat.add_zero]
 refine ⟨_, _, H.go hf (A9 H.hk H.prim H.pl (s := entry 0 [.nils, .nu .i64 (.ofNat m)]) rfl rfl o6 (show po (ae K.P 46) .nils = some (.nu .i64 (.ofNat 0)) by rw [ht]; rfl) (show aB h .nils (ae K.P 46) = some (.nu .i64 (.ofNat 0)) by rw [ht]; rfl) (show ac K.P .sub 3 (.nu .i64 (.ofNat 0)) (.nu .i64 (.ofNat 0)) = some (.nu .i64 0) from rfl) o14 o16 (show bC none (some (.nu .i64 (.ofNat 0))) h .nils (ae K.P 46) = some .nils by rw [ht]; rfl) wg (show aB _ .nils (ae K.P 46) = some (.nu .i64 (.ofNat 0)) by rw [ht]; rfl) o25) (.inr rfl) (by simp) rfl rfl rfl, Same.push (Nat.le_refl _) _, ok.push _, ⟨⟨h.n, dG [.nu .i64 0] m, rfl, Nat.le_refl _, by simp, hg, by rw [hlen]; simp⟩⟩⟩
def dv (l : List (List Int)) : Nat := (l.map List.length).sum
theorem Ce (a : List Int) (l : List (List Int)) : dv (a :: l) = a.length + dv l := by simp [dv]
theorem gD (l : List (List Int)) : dv l = l.flatten.length := by simp [dv, List.length_flatten]
theorem Ej (H : Std K) {l : List (List Int)} (hs : dv l < 1099511627776) (hl : l.length < 1099511627776) {x : CV} {cs : List CV} (hx : Row h x cs) (hxs : Rows h cs l) : ∀ (m i n : Nat) (s : Fr), i + m = l.length → n + dv (l.drop i) = dv l → s.at 0 = x → s.at 3 = .nu .i64 (.ofNat n) → s.at 9 = x → s.at 10 = .nu .i64 (.ofNat l.length) → s.at 11 = .nu .i64 (.ofNat i) → s.at ai = .undef →
  ∃ s', cQ K [1, 1, 0, 1, 0] s h (.exit 0) s' h ∧ s'.at ai = .undef ∧ s'.at 0 = x ∧ s'.at 3 = .nu .i64 (.ofNat (dv l)) := by
 intro m
 have hcl := hxs.length
 induction m with
 | zero =>
  intro i n s him hn g0 g3 g9 g10 g11 gs
  refine ⟨_, aH (rW H.hk H.prim H.pl g11 g10 (bu (by omega))) (by simp), gs, g0, ?_⟩
  rw [List.drop_of_length_le (by omega)] at hn
  rw [show dv l = n by simpa [dv] using hn.symm]; exact g3
 | succ m ih =>
  intro i n s him hn g0 g3 g9 g10 g11 gs
  have hi : i < l.length := by omega
  have hd : l.drop i = l[i] :: l.drop (i + 1) := List.drop_eq_getElem_cons hi
  rw [hd, Ce] at hn
  obtain ⟨p, hp1, hp2⟩ := j8 H hx (i := i) (by omega)
  have hlen := cA H (hxs.get (i := i) (by omega) hi)
  rw [aw] at hlen
  have o18 : ac K.P .add 3 (.nu .i64 (.ofNat n)) (.nu .i64 (.ofNat l[i].length)) = some (.nu .i64 (.ofNat (n + l[i].length))) := by
   rw [sr (by simp; omega) (by simp; omega)]; rfl
  obtain ⟨s1, r1, k0, k3, k9, k10, k11, ks⟩ : ∃ s1, cQ K [1, 1, 0, 1, 0, 0] s h .normal s1 h ∧ s1.at 0 = x ∧ s1.at 3 = .nu .i64 (.ofNat (n + l[i].length)) ∧ s1.at 9 = x ∧ s1.at 10 = .nu .i64 (.ofNat l.length) ∧ s1.at 11 = .nu .i64 (.ofNat (i + 1)) ∧ s1.at ai = .undef :=
   ⟨_, qw H.hk H.prim H.pl g11 g10 g9 g3 (aV hi) hp1 hp2 hlen o18 (bu (Nat.zero_le _)) (cI (by omega)), g0, rfl, g9, g10, rfl, gs⟩
  obtain ⟨s', r2, e1, e2, e3⟩ := ih (i + 1) (n + l[i].length) s1 (by omega) (by omega) k0 k3 k9 k10 k11 ks
  exact ⟨s', Runs.loop r1 r2, e1, e2, e3⟩
theorem Ek (H : Std K) {h0 : Hp} (bX : HpOk h0) {l : List (List Int)} (hs : dv l < 1099511627776) (hl : l.length < 1099511627776) {x : CV} {cs : List CV} (hx : Row h0 x cs) (hxs : Rows h0 cs l) : ∀ (m i : Nat) (s : Fr) (h : Hp) (o : CV), i + m = l.length → HpOk h → Same h0.n h0 h → Fill h0.n h 3 (dv l) o (ah (l.take i).flatten) → s.at 6 = o → s.at 25 = x → s.at 26 = .nu .i64 (.ofNat l.length) → s.at 27 = .nu .i64 (.ofNat i) → s.at ai = .undef →
  ∃ s' h' o', cQ K [1, 1, 1, 1, 0, 1, 0] s h (.exit 2) s' h' ∧ s'.at ai = .undef ∧ HpOk h' ∧ Same h0.n h0 h' ∧ s'.at 6 = o' ∧ Fill h0.n h' 3 (dv l) o' (ah l.flatten) := by
 intro m
 have hcl := hxs.length
 induction m with
 | zero =>
  intro i s h o him ok S ho g6 g25 g26 g27 gs
  refine ⟨_, _, o, aH (pJ H.hk H.prim H.pl g27 g26 (bu (by omega))) (by simp), gs, ok, S, g6, ?_⟩
  rw [List.take_of_length_le (by omega)] at ho; exact ho
 | succ m ih =>
  intro i s h o him ok S ho g6 g25 g26 g27 gs
  have hi : i < l.length := by omega
  have hd : l.take (i + 1) = l.take i ++ [l[i]] := by rw [List.take_add_one, List.getElem?_eq_getElem hi]; rfl
  have hle : dv (l.take (i + 1)) ≤ dv l := by
   have : dv (l.take (i + 1)) + dv (l.drop (i + 1)) = dv l := by
    rw [gD, gD, gD, ← List.length_append, ← List.flatten_append, List.take_append_drop]
   omega
  have hle2 : (ah (l.take i).flatten).length + (ah l[i]).length ≤ dv l := by
   rw [aw, aw]
   rw [hd, gD, List.flatten_append, List.length_append] at hle
   simpa only [List.flatten_cons, List.flatten_nil, List.append_nil] using hle
  obtain ⟨p, hp1, hp2⟩ := j8 H (hx.mono S bX (Nat.le_refl _)) (i := i) (by omega)
  have hy := (hxs.mono S bX (Nat.le_refl _)).get (i := i) (by omega) hi
  obtain ⟨x', h', w1, w2, w3, w4⟩ := ho.app (z := [.nu .i64 0]) (t' := ae K.P 46) (bytes := 8) ok hy (jZ _) hle2 rfl ⟨_, _, _, by rw [H.hP]; exact t46⟩ (by omega) (by omega)
  have w1' : be h o cs[i] (ae K.P 46) (ae K.P 46) = some (x', h') := by rw [← w1, H.hP, t46]
  obtain ⟨s1, r1, k6, k25, k26, k27, ks⟩ : ∃ s1, cQ K [1, 1, 1, 1, 0, 1, 0, 0] s h .normal s1 h' ∧ s1.at 6 = x' ∧ s1.at 25 = x ∧ s1.at 26 = .nu .i64 (.ofNat l.length) ∧ s1.at 27 = .nu .i64 (.ofNat (i + 1)) ∧ s1.at ai = .undef :=
   ⟨_, pI H.hk H.prim H.pl g27 g26 g25 g6 (aV hi) hp1 hp2 w1' (cI (by omega)), rfl, g25, g26, rfl, gs⟩
  have hF : Fill h0.n h' 3 (dv l) x' (ah (l.take (i + 1)).flatten) := by
   rw [hd, List.flatten_append]
   simpa [ah] using w2
  obtain ⟨s', h2, o', r2, e1, e2, e3, e4, e5⟩ := ih (i + 1) s1 h' x' (by omega) w4 (S.trans w3) hF k6 k25 k26 k27 ks
  exact ⟨s', h2, o', Runs.loop r1 r2, e1, e2, e3, e4, e5⟩
theorem zj (H : Std K) (ok : HpOk h) {l : List (List Int)} (hne : l.flatten ≠ []) (hs : dv l < 1099511627776) (hl : l.length < 1099511627776) {x : CV} {cs : List CV} (hx : Row h x cs) (hxs : Rows h cs l) : fV K 122 [x] h fun r h' => Out h.n h' 3 r (ah l.flatten) := by
 have hf : K.P.funcs[122]? = some Tryz.f122 := by rw [H.hP]; exact Tryz.func122
 have hlen := fc H hx
 rw [hxs.length] at hlen
 have hpos : 0 < dv l := by
  rw [gD]
  cases hq : l.flatten with
  | nil => exact absurd hq hne
  | cons a b => simp
 obtain ⟨s2, r2, k0, k3, k9, k10, k11, ks⟩ : ∃ s2, cQ K [1, 1, 0, 0] (T.set (T.set (entry 0 [x]) 2 .nils) 3 (.nu .i64 0)) h .normal s2 h ∧ s2.at 0 = x ∧ s2.at 3 = .nu .i64 (.ofNat 0) ∧ s2.at 9 = x ∧ s2.at 10 = .nu .i64 (.ofNat l.length) ∧ s2.at 11 = .nu .i64 (.ofNat 0) ∧ s2.at ai = .undef := ⟨_, GO H.hk rfl hlen, rfl, rfl, rfl, rfl, rfl, rfl⟩
 obtain ⟨s3, r3, ls, l0, l3⟩ := Ej H hs hl hx hxs l.length 0 0 s2 (by omega) (by simp) k0 k3 k9 k10 k11 ks
 obtain ⟨y, h4, c4, S4, ez, F4⟩ := Ei H ok hpos hs
 obtain ⟨s4, r4, m0, m6, ms⟩ : ∃ s4, cQ K [1, 1, 1, 0] s3 h .normal s4 h4 ∧ s4.at 0 = x ∧ s4.at 6 = y ∧ s4.at ai = .undef := ⟨_, GU H.hk l3 (H.prim _ _) c4, l0, rfl, ls⟩
 have hlen4 := fc H (hx.mono S4 ok (Nat.le_refl _))
 rw [hxs.length] at hlen4
 obtain ⟨s5, r5, n6, n25, n26, n27, ns⟩ : ∃ s5, cQ K [1, 1, 1, 1, 0, 0] s4 h4 .normal s5 h4 ∧ s5.at 6 = y ∧ s5.at 25 = x ∧ s5.at 26 = .nu .i64 (.ofNat l.length) ∧ s5.at 27 = .nu .i64 (.ofNat 0) ∧ s5.at ai = .undef := ⟨_, DG H.hk m0 hlen4, m6, rfl, rfl, rfl, ms⟩
 obtain ⟨s6, h6, o6, r6, e1, e2, e3, e4, e5⟩ := Ek H ok hs hl hx hxs l.length 0 s5 h4 y (by omega) ez S4 (by simpa [ah] using F4) n6 n25 n26 n27 ns
 refine ⟨o6, h6, ?_, e3, e2, e5.out (by rw [aw, gD]) (ep hne)⟩
 exact H.go hf (Runs.seq (GM H.hk) (Runs.seq (GN H.hk) (Runs.seq (Runs.seq r2 (aS r3)) (Runs.seq r4 (Runs.seq (Runs.seq r5 (aS r6)) (wU H.hk H.prim H.pl e4)))))) (.inr rfl) e3.n e1 rfl rfl
theorem xd (H : Std K) (x y : Int) : Comes K 152 [.nu .i64 x, .nu .i64 y] h (.bo (!(cr y x))) h := by
 have hf : K.P.funcs[152]? = some Tryz.f152 := by rw [H.hP]; exact Tryz.func152
 exact H.go hf (Ba H.hk H.prim H.pl (s := entry 0 [.nu .i64 x, .nu .i64 y]) rfl rfl (dY H x) rfl (nE x y) rfl) (.inr rfl) (Nat.le_refl _) rfl rfl rfl
theorem zk (H : Std K) {N : Nat} {x v1 v2 v6 : CV} (hv1 : v1 = .nu .i64 0) : ∀ (k : Nat) (s : Fr) (h : Hp) (c : List Int), k < c.length → c.length < 4611686018427387904 → HpOk h → Out N h 3 x (ah c) → N ≤ h.n → s.at 0 = x → s.at 1 = v1 → s.at 2 = v2 → s.at 6 = v6 → s.at 7 = .nu .i64 (.ofNat k) → s.at ai = .undef →
  ∃ s' h', ei K [1, 0, 0, 1, 0, 0, 1, 0] s h (.exit 2) s' h' ∧ HpOk h' ∧ Same N h h' ∧ Out N h' 3 x (ah (mh c k)) ∧ s'.at 0 = x ∧ s'.at 1 = v1 ∧ s'.at 2 = v2 ∧ s'.at 6 = v6 ∧ s'.at ai = .undef := by
 subst hv1
 intro k
 induction k with
 | zero =>
  intro s h c hk hbig ok ho hN g0 g1 g2 g6 g7 gs
  exact ⟨_, _, aH (nz H.hk H.prim H.pl g7 g1 rfl rfl) (by simp), ok, Same.refl _ _, ho, g0, g1, g2, g6, gs⟩
 | succ j ih =>
  intro s h c hk hbig ok ho hN g0 g1 g2 g6 g7 gs
  obtain ⟨p, hp1, hp2, hp3⟩ := vQ H ho (i := j) (by omega)
  obtain ⟨q, hq1, hq2, hq3⟩ := vQ H ho (i := j + 1) hk
  have o18 := aO (P := K.P) (t := 3) (Int.ofNat (j + 1)) 0
  rw [fE (by simp)] at o18
  have hc := xd (h := h) H (c.getD (j + 1) 0) (c.getD j 0)
  cases hle : cr (c.getD j 0) (c.getD (j + 1) 0) with
  | true =>
   rw [hle] at hc
   refine ⟨_, _, aH (ny H.hk H.prim H.pl g7 g1 g0 o18 hq1 hq2 (dS _) (yo (by omega)) hp1 hp2 hc rfl) (by simp), ok, Same.refl _ _, ?_, g0, g1, g2, g6, gs⟩
   simp only [mh, hle]; exact ho
  | false =>
   rw [hle] at hc
   obtain ⟨h1, a1, a2, a3, a4⟩ := hq3 (c.getD j 0)
   obtain ⟨p', b1, b2, b3⟩ := vQ H a2 (i := j) (by simp; omega)
   rw [hp1] at b1; cases b1
   obtain ⟨h2, d1, d2, d3, d4⟩ := b3 (c.getD (j + 1) 0)
   have hsw : (c.set (j + 1) (c.getD j 0)).set j (c.getD (j + 1) 0) = yn c j := by
    rw [yn, List.set_comm _ _ (by omega)]
   rw [hsw] at d2
   obtain ⟨s1, r1, k0, k1, k2, k6, k7, ks⟩ : ∃ s1, ei K [1, 0, 0, 1, 0, 0, 1, 0, 0] s h .normal s1 h2 ∧ s1.at 0 = x ∧ s1.at 1 = .nu .i64 0 ∧ s1.at 2 = v2 ∧ s1.at 6 = v6 ∧ s1.at 7 = .nu .i64 (.ofNat j) ∧ s1.at ai = .undef :=
    ⟨_, nw H.hk H.prim H.pl g7 g1 g0 o18 hq1 hq2 (dS _) (yo (by omega)) hp1 hp2 hc rfl hp2 (dS _) hq2 a1 d1, g0, g1, g2, g6, rfl, gs⟩
   obtain ⟨s', h', r2, e1, e2, e3, e4⟩ := ih s1 h2 (yn c j) (by rw [ml]; omega) (by rw [ml]; omega) (d4 (a4 ok)) d2 (Nat.le_trans hN (a3.trans d3).n) k0 k1 k2 k6 k7 ks
   refine ⟨s', h', Runs.loop r1 r2, e1, (a3.trans d3).trans e2, ?_, e4⟩
   simp only [mh, hle]; exact e3
theorem zl (H : Std K) {N : Nat} {x : CV} {n : Nat} : ∀ (m i : Nat) (s : Fr) (h : Hp) (c : List Int), i + m = c.length → c.length = n → n < 4611686018427387904 → HpOk h → Out N h 3 x (ah c) → N ≤ h.n → s.at 0 = x → s.at 1 = .nu .i64 0 → s.at 2 = .nu .i64 (.ofNat n) → s.at 6 = .nu .i64 (.ofNat i) → s.at ai = .undef →
  ∃ s' h', ei K [1, 0] s h (.exit 0) s' h' ∧ HpOk h' ∧ Same N h h' ∧ Out N h' 3 x (ah (jY m i c)) ∧ s'.at ai = .undef := by
 intro m
 induction m with
 | zero =>
  intro i s h c him hn hbig ok ho hN g0 g1 g2 g6 gs
  exact ⟨_, _, aH (aE (vK H.hk H.prim H.pl g6 g2 (bu (by omega))) (by simp)) (by simp), ok, Same.refl _ _, ho, gs⟩
 | succ m ih =>
  intro i s h c him hn hbig ok ho hN g0 g1 g2 g6 gs
  obtain ⟨s1, r1, k0, k1, k2, k6, ks⟩ : ∃ s1, ei K [1, 0, 0, 0] s h .normal s1 h ∧ s1.at 0 = x ∧ s1.at 1 = .nu .i64 0 ∧ s1.at 2 = .nu .i64 (.ofNat n) ∧ s1.at 6 = .nu .i64 (.ofNat i) ∧ s1.at ai = .undef :=
   ⟨_, vJ H.hk H.prim H.pl g6 g2 (aV (by omega)), g0, g1, g2, g6, gs⟩
  obtain ⟨s2, r2, l0, l1, l2, l6, l7, ls⟩ : ∃ s2, ei K [1, 0, 0, 1, 0, 0, 0] s1 h .normal s2 h ∧ s2.at 0 = x ∧ s2.at 1 = .nu .i64 0 ∧ s2.at 2 = .nu .i64 (.ofNat n) ∧ s2.at 6 = .nu .i64 (.ofNat i) ∧ s2.at 7 = .nu .i64 (.ofNat i) ∧ s2.at ai = .undef :=
   ⟨_, Hg H.hk k6, k0, k1, k2, k6, rfl, ks⟩
  obtain ⟨s3, h3, r3, ct, S3, o3, m0, m1, m2, m6, ms⟩ := zk H rfl i s2 h c (by omega) (by omega) ok ho hN l0 l1 l2 l6 l7 ls
  obtain ⟨s4, r4, n0, n1, n2, n6, ns⟩ : ∃ s4, ei K [1, 0, 0, 1, 1] s3 h3 .normal s4 h3 ∧ s4.at 0 = x ∧ s4.at 1 = .nu .i64 0 ∧ s4.at 2 = .nu .i64 (.ofNat n) ∧ s4.at 6 = .nu .i64 (.ofNat (i + 1)) ∧ s4.at ai = .undef :=
   ⟨_, Hj H.hk m6 (cI (by omega)), m0, m1, m2, rfl, ms⟩
  obtain ⟨s5, h5, r5, fh, S5, o5, qs⟩ := ih (i + 1) s4 h3 (mh c i) (by rw [io]; omega) (by rw [io]; omega) hbig ct o3 (Nat.le_trans hN S3.n) n0 n1 n2 n6 ns
  exact ⟨s5, h5, Runs.loop (Runs.seq r1 (Runs.seq (aF (Runs.seq r2 (aS r3))) r4)) r5, fh, S3.trans S5, o5, qs⟩
theorem xe {c : List Int} (hne : c ≠ []) : jY (c.length - 1) 1 c = sortI c := by
 cases c with
 | nil => exact absurd rfl hne
 | cons a l => simp [sortI, jY, mh]
theorem xf (H : Std K) (ok : HpOk h) {N : Nat} (hN : N ≤ h.n) {x : CV} {c : List Int} (hne : c ≠ []) (hbig : c.length < 4611686018427387904) (ho : Out N h 3 x (ah c)) :
  ∃ h', Comes K 146 [x, .nu .i64 0, .nu .i64 (.ofNat c.length)] h (.tup []) h' ∧ Same N h h' ∧ HpOk h' ∧ Out N h' 3 x (ah (sortI c)) := by
 have hf : K.P.funcs[146]? = some Tryz.f146 := by rw [H.hP]; exact Tryz.func146
 have hpos : 0 < c.length := by cases c with | nil => exact absurd rfl hne | cons => simp
 obtain ⟨s1, r1, k0, k1, k2, k6, ks⟩ : ∃ s1, ei K [0] (entry 0 [x, .nu .i64 0, .nu .i64 (.ofNat c.length)]) h .normal s1 h ∧ s1.at 0 = x ∧ s1.at 1 = .nu .i64 0 ∧ s1.at 2 = .nu .i64 (.ofNat c.length) ∧ s1.at 6 = .nu .i64 (.ofNat 1) ∧ s1.at ai = .undef :=
  ⟨_, Hf H.hk rfl (show ac K.P .add 3 (.nu .i64 0) (.nu .i64 1) = some (.nu .i64 (.ofNat 1)) from rfl), rfl, rfl, rfl, rfl, rfl⟩
 obtain ⟨s2, h2, r2, bz, S2, o2, qs⟩ := zl H (n := c.length) (c.length - 1) 1 s1 h c (by omega) rfl hbig ok ho hN k0 k1 k2 k6 ks
 rw [xe hne] at o2
 exact ⟨h2, H.go hf (Runs.seq r1 (aS r2)) (.inl rfl) S2.n qs rfl rfl, S2, bz, o2⟩
theorem El {P : Program} {t : TypeId} (x y : Int) : ac P .geq t (.nu .u64 x) (.nu .u64 y) = some (.bo (cr y x)) := rfl
theorem t5 : ae Tryz.prog 5 = .int .u8 := by kernel_rfl
theorem t9 : ae Tryz.prog 9 = .str := by kernel_rfl
theorem L7 : ae Tryz.prog 126 = .int .u64 := by kernel_rfl
theorem L8 : ae Tryz.prog 157 = .int .u64 := by kernel_rfl
theorem Ii {s : List Nat} {k : IntKind} {i : Nat} (hi : i < s.length) : bD (.st s) (.nu k (.ofNat i)) .str = some (.nu .u8 (.ofNat s[i])) := by
 simp only [bD, List.getElem?_eq_getElem hi]
theorem Ij (b : ByteArray) {k : IntKind} {i : Nat} {t : cq} (hi : i < b.size) (ht : t = .str) : ∃ w : Nat, w < 256 ∧ bD (ofValue (.string b)) (.nu k (.ofNat i)) t = some (.nu .u8 (.ofNat w)) := by
 subst ht
 have hl : i < (b.data.toList.map fun x : UInt8 => x.toNat).length := by simpa using hi
 refine ⟨(b.data.toList.map fun x : UInt8 => x.toNat)[i], ?_, Ii hl⟩
 rw [List.getElem_map]
 exact UInt8.toNat_lt _
theorem Cf (H : Std K) {n : Nat} (hn : n < 256) : ∃ w : Nat, w < 512 ∧ Comes K 127 [.nu .u64 (.ofNat n)] h (.nu .i64 (.ofNat w)) h := by
 have hf : K.P.funcs[127]? = some Tryz.f127 := by rw [H.hP]; exact Tryz.func127
 have hf2 : K.P.funcs[156]? = some Tryz.f156 := by rw [H.hP]; exact Tryz.func156
 have h5 : ae K.P 5 = .int .u8 := by rw [H.hP]; exact t5
 have h9 : ae K.P 9 = .str := by rw [H.hP]; exact t9
 have h157 : ae K.P 157 = .int .u64 := by rw [H.hP]; exact L8
 have h3' : ae K.P 3 = .int .i64 := by rw [H.hP]; exact t3
 have key : ∃ w : Nat, w < 512 ∧ Comes K 156 [.nu .u64 (.ofNat n)] h (.nu .i64 (.ofNat w)) h := by
  have o4 := El (P := K.P) (t := 157) (Int.ofNat n) 4294967296
  have o8 := El (P := K.P) (t := 157) (Int.ofNat n) 65536
  have o14 := El (P := K.P) (t := 157) (Int.ofNat n) 256
  rw [fE (by simp; omega)] at o4 o8 o14
  have o21 : dl K.P h (.nu .u64 (.ofNat n)) (ae K.P 157) (ae K.P 5) = some (.nu .u8 (.ofNat n)) := by
   rw [h157, h5]
   have hb : Nat.blt n 256 = true := by simpa using hn
   simp only [dl, fK, oa, hb, cond_true]
  have l21 : cZ K.P (.nu .u64 (.ofNat n)) (ae K.P 157) (ae K.P 5) = none := by rw [h157, h5]; rfl
  have l23 : ∀ v, cZ K.P v (ae K.P 5) (ae K.P 3) = none := fun v => by rw [h5, h3']; rfl
  have o23 : ∀ b : Nat, b < 256 → dl K.P h (.nu .u8 (.ofNat b)) (ae K.P 5) (ae K.P 3) = some (.nu .i64 (.ofNat b)) := fun b hb => by
   rw [h5, h3']
   show some (fK .i64 (.ofNat b)) = _
   rw [dO]; exact congrArg _ (congrArg _ (eQ b (by omega)))
  have o24 : ∀ b : Nat, b < 256 → ac K.P .add 3 (.nu .i64 0) (.nu .i64 (.ofNat b)) = some (.nu .i64 (.ofNat b)) := fun b hb => by
   rw [sr (by simp only [Int.ofNat_eq_natCast]; omega) (by simp only [Int.ofNat_eq_natCast]; omega), Int.zero_add]
  have fin : ∀ {b : ByteArray} (hi : n < b.size) (r : ∀ w : Nat, w < 256 → bD (ofValue (.string b)) (.nu .u8 (.ofNat n)) (ae K.P 9) = some (.nu .u8 (.ofNat w)) → Comes K 156 [.nu .u64 (.ofNat n)] h (.nu .i64 (.ofNat w)) h), ∃ w : Nat, w < 512 ∧ Comes K 156 [.nu .u64 (.ofNat n)] h (.nu .i64 (.ofNat w)) h := by
   intro b hi r
   obtain ⟨w, hw, hq⟩ := Ij b (k := .u8) hi h9
   exact ⟨w, by omega, r w hw hq⟩
  refine fin ?_ fun w hw o22 => ck hf2 rfl (H.memo 156 (by decide)) (H.spec 156) rfl (y8 H.hk H.prim H.pl (s := entry 0 [.nu .u64 (.ofNat n)]) rfl o4 o8 o14 l21 o21 o22 (l23 _) (o23 w hw) (o24 w hw)) (.inr rfl) (Nat.le_refl _) rfl rfl rfl
  exact Nat.lt_of_lt_of_le hn (Nat.le_of_ble_eq_true rfl)
 obtain ⟨w, hw, c⟩ := key
 exact ⟨w, hw, H.go hf (JT H.hk H.prim H.pl (s := entry 0 [.nu .u64 (.ofNat n)]) rfl c) (.inr rfl) (Nat.le_refl _) rfl rfl rfl⟩
theorem Em (H : Std K) (ok : HpOk h) {N : Nat} (hN : N ≤ h.n) {x : CV} {c : List Int} (hne : c ≠ []) (hle : c.length ≤ 12) (ho : Out N h 3 x (ah c)) (lim : CV) :
  ∃ h', Comes K 126 [x, .nu .i64 0, .nu .i64 (.ofNat c.length), lim] h (.tup []) h' ∧ Same N h h' ∧ HpOk h' ∧ Out N h' 3 x (ah (sortI c)) := by
 have hf : K.P.funcs[126]? = some Tryz.f126 := by rw [H.hP]; exact Tryz.func126
 obtain ⟨h', c1, S1, aX, o1⟩ := xf H ok hN hne (by omega) ho
 have o21 : ac K.P .sub 3 (.nu .i64 (.ofNat c.length)) (.nu .i64 0) = some (.nu .i64 (.ofNat c.length)) := by
  show some (fK .i64 (Int.ofNat c.length - 0)) = _
  rw [dO, Int.sub_zero]; exact congrArg _ (congrArg _ (eQ _ (by omega)))
 have o23 := nI (P := K.P) (t := 3) (Int.ofNat c.length) 12
 rw [fZ (by simp; omega)] at o23
 obtain ⟨s1, r1, k0, k1, k2, ks⟩ : ∃ s1, (∀ {e s' h'}, me K [1, 1, 0] s1 h e s' h' → e = .ret → Runs K 126 134 none (an Tryz.f126) (entry 0 [x, .nu .i64 0, .nu .i64 (.ofNat c.length), lim]) h e s' h') ∧ s1.at 0 = x ∧ s1.at 1 = .nu .i64 0 ∧ s1.at 2 = .nu .i64 (.ofNat c.length) ∧ s1.at ai = .undef :=
  ⟨_, fun r e => by subst e; exact Runs.seq (HI H.hk) (Runs.seq (HJ H.hk) (aG r)), rfl, rfl, rfl, rfl⟩
 obtain ⟨s2, r2, l0, l1, l2, l10, ls⟩ : ∃ s2, me K [1, 1, 0, 0, 0, 0] s1 h .normal s2 h ∧ s2.at 0 = x ∧ s2.at 1 = .nu .i64 0 ∧ s2.at 2 = .nu .i64 (.ofNat c.length) ∧ s2.at 10 = .nu .i64 (.ofNat c.length) ∧ s2.at ai = .undef := ⟨_, HL H.hk k2 k1 o21, k0, k1, k2, rfl, ks⟩
 obtain ⟨s3, r3, m0, m1, m2, m23, ms⟩ : ∃ s3, me K [1, 1, 0, 0, 0, 1, 0, 0] s2 h .normal s3 h ∧ s3.at 0 = x ∧ s3.at 1 = .nu .i64 0 ∧ s3.at 2 = .nu .i64 (.ofNat c.length) ∧ s3.at 23 = .bo true ∧ s3.at ai = .undef := ⟨_, HM H.hk l10 o23, l0, l1, l2, rfl, ls⟩
 obtain ⟨s4, r4, ns⟩ : ∃ s4, me K [1, 1, 0, 0, 0, 1, 0, 1, 0, 0] s3 h .normal s4 h' ∧ s4.at ai = .undef := ⟨_, HN H.hk m0 m1 m2 (H.prim _ _) c1, ms⟩
 exact ⟨h', H.go hf (r1 (aH (aG (Runs.seq r2 (aE (Runs.seq r3 (Runs.condT (o := .tmp 23) m23 (Runs.seq r4 Runs.ret))) (by simp)))) (by simp)) rfl) (.inr rfl) (Nat.le_trans (Nat.le_refl _) S1.n) ns rfl rfl, S1, aX, o1⟩
theorem Cg (H : Std K) (ok : HpOk h) {N : Nat} (hN : N ≤ h.n) {x : CV} {c : List Int} (hne : c ≠ []) (hle : c.length ≤ 12) (ho : Out N h 3 x (ah c)) :
  ∃ h', Comes K 123 [x] h (.tup []) h' ∧ Same N h h' ∧ HpOk h' ∧ Out N h' 3 x (ah (sortI c)) := by
 have hf : K.P.funcs[123]? = some Tryz.f123 := by rw [H.hP]; exact Tryz.func123
 have hlen := cA H ho.row
 rw [aw] at hlen
 obtain ⟨w, hw, cl⟩ := Cf (h := h) H (n := c.length) (by omega)
 obtain ⟨h', c1, S1, aX, o1⟩ := Em H ok hN hne hle ho (.nu .i64 (.ofNat w))
 have h3' : ae K.P 3 = .int .i64 := by rw [H.hP]; exact t3
 have h126 : ae K.P 126 = .int .u64 := by rw [H.hP]; exact L7
 have o8 : dl K.P h (.nu .i64 (.ofNat c.length)) (ae K.P 3) (ae K.P 126) = some (.nu .u64 (.ofNat c.length)) := by
  rw [h3', h126]
  have hb : Nat.blt c.length 18446744073709551616 = true := by simp; omega
  simp only [dl, fK, oa, hb, cond_true]
 have l8 : cZ K.P (.nu .i64 (.ofNat c.length)) (ae K.P 3) (ae K.P 126) = none := by rw [h3', h126]; rfl
 exact ⟨h', H.go hf (JS H.hk H.prim H.pl (s := entry 0 [x]) rfl hlen l8 o8 cl c1) (.inl rfl) S1.n rfl rfl rfl, S1, aX, o1⟩
end
theorem z22 : au Tryz.prog 22 = some (1, false) := by kernel_rfl
theorem Same.get1 {N k : Nat} {h h' : Hp} (S : Same N h h') (hk : k < N) {b : HB} (hb : h.get k = b) : h'.get k = b := by rw [S.get k hk, hb]
theorem Ch {v w z0 : CV} {el b : Nat} (hv : v.one = true) (hw : w.one = true) : aC 2 [(0, v), (1, w)] (.slice el 1 b [z0]) = some (fun k => .sl k 0 2 2, .cells [v, w] 0 el) := by
 have hc := dT hv
 have hd := dT hw
 have hs : v.sol = true := by simp [CV.sol, hc, hv]
 have ht : w.sol = true := by simp [CV.sol, hd, hw]
 simp only [aC, List.all_cons, hs, ht, List.all_nil, kh, dG, hc, hd, List.length_cons, List.length_nil]
 rfl
theorem Ik {h : Hp} {v w : CV} {el : Nat} : Row (h.push (.cells [v, w] 0 el)) (.sl h.n 0 2 2) [v, w] := by
 refine Row.some (k := h.n) (o := 0) (c := 2) (cs := [v, w]) (by simp) ?_ (Nat.le_refl _) ?_
 · rw [ag, if_pos rfl]; rfl
 · rw [ag, if_pos rfl]; rfl
structure Box (h : Hp) (p v : CV) : Prop where
 at' : ∃ k e, p = .ptr k 0 ∧ k < h.n ∧ h.get k = .cells [v] 0 e
theorem Box.mono {N : Nat} {h h' : Hp} (S : Same N h h') (hN : h.n ≤ N) {p v : CV} (b : Box h p v) : Box h' p v := by
 obtain ⟨k, e, rfl, hk, hg⟩ := b.at'
 exact ⟨⟨k, e, rfl, Nat.lt_of_lt_of_le hk S.n, S.get1 (by omega) hg⟩⟩
theorem Box.load {h : Hp} {p v : CV} (b : Box h p v) {sz : Option (Nat × Bool)} (hsz : sz = some (1, false)) : ao h p sz = some v := by
 obtain ⟨k, e, rfl, hk, hg⟩ := b.at'
 subst hsz
 show eZ 0 1 false (h.get k) = _
 rw [hg]; rfl
theorem gE {h : Hp} {t : Nat} {v : CV} (hv : v.one = true) {sz : Option (Nat × Bool)} (hsz : sz = some (1, false)) : ∃ F B, cK t v sz = some (F, B) ∧ Box (h.push B) (F h.n) v := by
 subst hsz
 have hc := dT hv
 have hs : v.sol = true := by simp [CV.sol, hc, hv]
 refine ⟨fun k => .ptr k 0, .cells [v] 0 t, by simp only [cK, hs, hc, List.length_cons, List.length_nil]; rfl, ⟨⟨h.n, t, rfl, by simp, by rw [ag, if_pos rfl]⟩⟩⟩
def gO (a b : List Int) : Option (List Int) := if eK a b = [] ∧ a.length + b.length ≤ 5 then some (sortI (a ++ b)) else none
def qC (l : List (List Int)) (s t : List Int) : Bool := match gO s t with
 | some j => l.any (fv j)
 | none => false
section
variable {K : Ctx} {h : Hp}
theorem En (H : Std K) (ok : HpOk h) {a b : List Int} (ha : OkS a) (hb : OkS b) {x y : CV} (hx : Row h x (ah a)) (hy : Row h y (ah b)) :
  fV K 77 [x, y] h fun r h' => (gO a b = none → ∃ e : Int, e ≠ 0 ∧ r = .tup [.nils, .nu .i64 e]) ∧ ∀ j, gO a b = some j → ∃ z, r = .tup [z, .nu .i64 0] ∧ Out h.n h' 3 z (ah j) := by
 have hf : K.P.funcs[77]? = some Tryz.f77 := by rw [H.hP]; exact Tryz.func77
 have hla := ha.le
 have hlb := hb.le
 have o12 : ac K.P .neq 29 (.nu .i64 0) (.nu .i64 0) = some (.bo false) := rfl
 obtain ⟨m, h1, c1, S1, aX, o1⟩ := Cc H ok (by omega) (by omega) hx hy
 have hlen := cA H o1.row
 rw [aw] at hlen
 have hx1 := hx.mono S1 ok (Nat.le_refl _)
 have hy1 := hy.mono S1 ok (Nat.le_refl _)
 have hlx := cA H hx1
 have hly := cA H hy1
 rw [aw] at hlx hly
 have o23 := aO (P := K.P) (t := 3) (Int.ofNat (eK a b).length) 0
 by_cases hm : eK a b = []
 · rw [hm, fZ (by simp)] at o23
   rw [hm] at hlen
   have o28 : ac K.P .add 3 (.nu .i64 (.ofNat a.length)) (.nu .i64 (.ofNat b.length)) = some (.nu .i64 (.ofNat (a.length + b.length))) := by
    rw [sr (by simp; omega) (by simp; omega)]; rfl
   have o29 := aO (P := K.P) (t := 3) (Int.ofNat (a.length + b.length)) 5
   by_cases hl : a.length + b.length ≤ 5
   · rw [fZ (by simp; omega)] at o29
     have hj : gO a b = some (sortI (a ++ b)) := by rw [gO, if_pos ⟨hm, hl⟩]
     have ht : ae K.P 22 = .slice 46 1 24 [.nils] := by rw [H.hP]; exact t22
     have S2 : Same h1.n h1 (h1.push (.cells [x, y] 0 46)) := Same.push (Nat.le_refl _) _
     have hne : a ++ b ≠ [] := by
      intro e
      have := List.append_eq_nil_iff.1 e
      exact ha.ne this.1
     have hfl : [a, b].flatten = a ++ b := by simp
     obtain ⟨z, h3, c3, S3, ct, o3⟩ := zj H (aX.push (.cells [x, y] 0 46)) (l := [a, b]) (by rw [hfl]; exact hne) (by simp [dv]; omega) (by simp) (x := .sl h1.n 0 2 2) (cs := [x, y]) Ik (.cons (hx1.mono S2 aX (Nat.le_refl _)) (.cons (hy1.mono S2 aX (Nat.le_refl _)) .nil))
     rw [hfl] at o3
     obtain ⟨h4, c4, S4, ez, o4⟩ := Cg H ct (Nat.le_trans (Nat.le_refl _) S3.n) hne (by simp; omega) o3
     have o32 : aC 2 [(0, x), (1, y)] (ae K.P 22) = some (fun k => .sl k 0 2 2, .cells [x, y] 0 46) := by rw [ht]; exact Ch hx.one hy.one
     have Sall : Same h.n h h4 := ((S1.trans (S2.le S1.n)).trans (S3.le (S1.trans (S2.le S1.n)).n)).trans (S4.le (S1.trans (S2.le S1.n)).n)
     refine ⟨_, h4, H.go hf (yZ H.hk H.prim H.pl (s := entry 0 [x, y]) rfl rfl (cX H ha hx) o12 (cX H hb hy) o12 c1 hlen o23 hlx hly o28 o29 o32 c3 c4) (.inr rfl) Sall.n rfl rfl rfl, Sall, ez, fun e => (by rw [hj] at e; cases e), fun j e => ?_⟩
     rw [hj] at e; cases e
     exact ⟨z, rfl, vR (S1.trans (S2.le S1.n)).n o4⟩
   · rw [fE (by simp; omega)] at o29
     have hj : gO a b = none := by rw [gO, if_neg (fun e => hl e.2)]
     exact ⟨_, h1, H.go hf (yY H.hk H.prim H.pl (s := entry 0 [x, y]) rfl rfl (cX H ha hx) o12 (cX H hb hy) o12 c1 hlen o23 hlx hly o28 o29) (.inr rfl) S1.n rfl rfl rfl, S1, aX, fun _ => ⟨3, by decide, rfl⟩, fun j e => by rw [hj] at e; cases e⟩
 · have hpos : 0 < (eK a b).length := by
    cases hq : eK a b with
    | nil => exact absurd hq hm
    | cons _ _ => simp
   rw [fE (by simp; omega)] at o23
   have hj : gO a b = none := by rw [gO, if_neg (fun e => hm e.1)]
   exact ⟨_, h1, H.go hf (A1 H.hk H.prim H.pl (s := entry 0 [x, y]) rfl rfl (cX H ha hx) o12 (cX H hb hy) o12 c1 hlen o23) (.inr rfl) S1.n rfl rfl rfl, S1, aX, fun _ => ⟨5, by decide, rfl⟩, fun j e => by rw [hj] at e; cases e⟩
theorem Asks.mono {h0 h1 : Hp} (S : Same h0.n h0 h1) {G : FuncId} {C : List CV} {l : List (List Int)} {p : List Int → Bool} (A : Asks K h0 G C l p) : Asks K h1 G C l p := fun y a g ha ok Sg r => A y a g ha ok (S.trans (Sg.le S.n)) r
theorem Ci (H : Std K) {h0 : Hp} (bX : HpOk h0) {q z : CV} {j : List Int} (hj : j.length < 4611686018427387904) (hq : Box h0 q z) (hz : Row h0 z (ah j)) (l : List (List Int)) : Asks K h0 79 [q] l (fv j) := by
 intro y a g ha ok S r
 have hf : K.P.funcs[79]? = some Tryz.f79 := by rw [H.hP]; exact Tryz.func79
 have c := o0 H hj (hz.mono S bX (Nat.le_refl _)) r
 have o4 := (hq.mono S (Nat.le_refl _)).load (sz := au K.P 46) (by rw [H.hP]; exact z46)
 exact ⟨_, g, H.go hf (LD H.hk H.prim H.pl (s := entry 0 [y, q]) rfl rfl o4 c) (.inr rfl) (Nat.le_refl _) rfl rfl rfl, Same.refl _ _, ok, rfl⟩
theorem qD (H : Std K) {h0 : Hp} (bX : HpOk h0) {q z : CV} {j : List Int} (hj : j.length < 4611686018427387904) (hq : Box h0 q z) (hz : Row h0 z (ah j)) (l : List (List Int)) : Asks K h0 120 [q] l (fv j) := by
 intro y a g ha ok S r
 have hf : K.P.funcs[120]? = some Tryz.f120 := by rw [H.hP]; exact Tryz.func120
 have c := o0 H hj (hz.mono S bX (Nat.le_refl _)) r
 have o4 := (hq.mono S (Nat.le_refl _)).load (sz := au K.P 46) (by rw [H.hP]; exact z46)
 exact ⟨_, g, H.go hf (JR H.hk H.prim H.pl (s := entry 0 [y, q]) rfl rfl o4 c) (.inr rfl) (Nat.le_refl _) rfl rfl rfl, Same.refl _ _, ok, rfl⟩
theorem KT (H : Std K) : cn K.P 46 = some .nils := by rw [H.hP]; exact KR
theorem eL (H : Std K) : au K.P 46 = some (1, false) := by rw [H.hP]; exact z46
theorem vX (H : Std K) : au K.P 22 = some (1, false) := by rw [H.hP]; exact z22
theorem xg (H : Std K) {h0 : Hp} (bX : HpOk h0) {l : List (List Int)} {s : List Int} (hl : l.length < 4611686018427387904) (hok : ∀ a ∈ l, OkS a) (hs : OkS s) {ps pl x y : CV} {cs : List CV} (bs : Box h0 ps y) (bl : Box h0 pl x) (hx : Row h0 x cs) (hxs : Rows h0 cs l) (hy : Row h0 y (ah s)) : Asks K h0 76 [ps, pl] l (qC l s) := by
 intro t a g ha ok S r
 have hf : K.P.funcs[76]? = some Tryz.f76 := by rw [H.hP]; exact Tryz.func76
 have hyg := hy.mono S bX (Nat.le_refl _)
 obtain ⟨rv, h1, c1, S1, aX, hn, hj⟩ := En H ok hs (hok a ha) hyg r
 have o8 := (bs.mono S (Nat.le_refl _)).load (eL H)
 have o5 : dM 46 (cn K.P 46) = some (fun k => .ptr k 0, .cells [.nils] 0 46) := by rw [KT H]; rfl
 have S2 : Same h1.n h1 (h1.push (.cells [.nils] 0 46)) := Same.push (Nat.le_refl _) _
 have wst : ∀ v : CV, v.one = true → bt (h1.push (.cells [.nils] 0 46)) (.ptr h1.n 0) v (au K.P 46) = some (.undef, (h1.push (.cells [.nils] 0 46)).set h1.n (.cells [v] 0 46)) := by
  intro v hv
  rw [eL H]
  have hg : (h1.push (.cells [.nils] 0 46)).get h1.n = .cells [.nils] 0 46 := by rw [ag, if_pos rfl]
  have hc := dT hv
  have hsol : v.sol = true := by simp [CV.sol, hc, hv]
  have h1l : Nat.ble (0 + 1) [CV.nils].length = true := rfl
  have hset : setAt [CV.nils] 0 [v] = [v] := rfl
  simp only [bt, hg, db, hsol, hc, List.length_cons, List.length_nil, Nat.beq_refl, hset, Bool.and_self, Nat.zero_add]
  rfl
 cases hq : gO s a with
 | none =>
  obtain ⟨e, he, rfl⟩ := hn hq
  have o14 := nF (P := K.P) (t := 29) e 0
  rw [gN he] at o14
  have S3 : Same g.n g ((h1.push (.cells [.nils] 0 46)).set h1.n (.cells [.nils] 0 46)) := (S1.trans (S2.le S1.n)).trans (Same.set S1.n _)
  refine ⟨_, _, H.go hf (yc H.hk H.prim H.pl (s := entry 0 [t, ps, pl]) rfl rfl o8 c1 rfl rfl o5 (wst _ rfl) o14 rfl) (.inr rfl) S3.n rfl rfl rfl, S3, (aX.push _).set (by simp) _, ?_⟩
  show CV.bo _ = _
  rw [qC, hq]
 | some j =>
  obtain ⟨z, rfl, oz⟩ := hj j hq
  have hzone := oz.row.one
  have S3' : Same h1.n h1 ((h1.push (.cells [.nils] 0 46)).set h1.n (.cells [z] 0 46)) := S2.trans (Same.set (Nat.le_refl _) _)
  have ct : HpOk ((h1.push (.cells [.nils] 0 46)).set h1.n (.cells [z] 0 46)) := (aX.push _).set (by simp) _
  have Sg : Same g.n g ((h1.push (.cells [.nils] 0 46)).set h1.n (.cells [z] 0 46)) := S1.trans (S3'.le S1.n)
  have S0 : Same h0.n h0 ((h1.push (.cells [.nils] 0 46)).set h1.n (.cells [z] 0 46)) := S.trans (Sg.le S.n)
  have bx : Box ((h1.push (.cells [.nils] 0 46)).set h1.n (.cells [z] 0 46)) (.ptr h1.n 0) z := ⟨⟨h1.n, 46, rfl, by show h1.n < h1.n + 1; omega, by rw [Hp.get_set, if_pos rfl]⟩⟩
  have hjl : j.length < 4611686018427387904 := by
   have h1 := hs.le
   have h2 := (hok a ha).le
   unfold gO at hq
   split at hq
   · cases hq; rw [vS, List.length_append]; omega
   · cases hq
  obtain ⟨rv, h5, c5, S5, fh, rfl⟩ := nJ H ct hl (Ci H ct hjl bx ((oz.row).mono S3' aX (Nat.le_refl _)) l) (hx.mono S0 bX (Nat.le_refl _)) (hxs.mono S0 bX (Nat.le_refl _))
  have o16 := (bl.mono S0 (Nat.le_refl _)).load (vX H)
  have Sall := Sg.trans (S5.le Sg.n)
  refine ⟨_, h5, H.go hf (Hw H.hk H.prim H.pl (s := entry 0 [t, ps, pl]) rfl rfl rfl o8 c1 rfl rfl o5 (wst _ hzone) rfl o16 c5 rfl) (.inr rfl) Sall.n rfl rfl rfl, Sall, fh, ?_⟩
  show CV.bo _ = _
  rw [qC, hq]
theorem xh (H : Std K) {h0 : Hp} (bX : HpOk h0) {l : List (List Int)} (hl : l.length < 549755813888) (hok : ∀ a ∈ l, a ≠ [] ∧ a.length < 1099511627776) {G : FuncId} {C : List CV} {p : List Int → Bool} (hg : Asks K h0 G C l p) {x : CV} {cs : List CV} (hx : Row h0 x cs) (hxs : Rows h0 cs l) : ∀ (m i : Nat) (s : Fr) (h : Hp) (o : CV) (ds : List CV), i + m = l.length → HpOk h → Same h0.n h0 h → Own h0.n h 46 o ds ((l.take i).filter p) → s.at 1 = .fn G C → s.at 4 = o → s.at 13 = x → s.at 14 = .nu .i64 (.ofNat l.length) → s.at 15 = .nu .i64 (.ofNat i) → s.at ai = .undef →
  ∃ s' h' o' ds', fM K [1, 1, 0, 1, 0] s h (.exit 0) s' h' ∧ s'.at ai = .undef ∧ HpOk h' ∧ Same h0.n h0 h' ∧ s'.at 4 = o' ∧ Own h0.n h' 46 o' ds' (l.filter p) := by
 intro m
 have hcl := hxs.length
 induction m with
 | zero =>
  intro i s h o ds him ok S ho g1 g4 g13 g14 g15 gs
  refine ⟨_, _, o, ds, aH (ul H.hk H.prim H.pl g15 g14 (bu (by omega))) (by simp), gs, ok, S, g4, ?_⟩
  rw [List.take_of_length_le (by omega)] at ho; exact ho
 | succ m ih =>
  intro i s h o ds him ok S ho g1 g4 g13 g14 g15 gs
  have hi : i < l.length := by omega
  have hd : l.take (i + 1) = l.take i ++ [l[i]] := by rw [List.take_add_one, List.getElem?_eq_getElem hi]; rfl
  obtain ⟨q, hq1, hq2⟩ := j8 H (hx.mono S bX (Nat.le_refl _)) (i := i) (by omega)
  have hxi := (hxs.get (i := i) (by omega) hi).mono S bX (Nat.le_refl _)
  obtain ⟨r, h1, c1, S1, aX, rfl⟩ := hg cs[i] l[i] h (List.getElem_mem hi) ok S hxi
  have S' := S.trans (S1.le S.n)
  have ho1 := ho.mono S1 ok
  cases he : p l[i] with
  | true =>
   rw [he] at c1
   obtain ⟨hne, hbig⟩ := hok _ (List.getElem_mem hi)
   obtain ⟨y, h2, c2, S2, bz, o2⟩ := tC H aX hne hbig (hxi.mono S1 ok (Nat.le_refl _))
   have hol := ho.rows.length
   have hfl : ((l.take i).filter p).length ≤ i := by
    have := List.length_filter_le p (l.take i)
    rw [List.length_take] at this; omega
   obtain ⟨F, B, x', h3, b1, b2, b3, b4, b5⟩ := Own.app (P := K.P) (t := 22) (by rw [H.hP]; exact t22) bz (S'.trans (S2.le S'.n)).n (ho1.mono S2 aX) (Row.off ho1.out (Nat.le_refl _) o2) (by decide) (by omega)
   obtain ⟨s1, r1, k1, k4, k13, k14, k15, ks⟩ : ∃ s1, fM K [1, 1, 0, 1, 0, 0] s h .normal s1 h3 ∧ s1.at 1 = .fn G C ∧ s1.at 4 = x' ∧ s1.at 13 = x ∧ s1.at 14 = .nu .i64 (.ofNat l.length) ∧ s1.at 15 = .nu .i64 (.ofNat (i + 1)) ∧ s1.at ai = .undef :=
    ⟨_, rR H.hk H.prim H.pl g15 g14 g13 g1 g4 (aV hi) hq1 hq2 rfl c1 c2 b1 b2 (cI (by omega)), g1, rfl, g13, g14, rfl, gs⟩
   have hO : Own h0.n h3 46 x' (ds ++ [y]) ((l.take (i + 1)).filter p) := by
    rw [hd, List.filter_append, List.filter_cons, if_pos he, List.filter_nil]; exact b3
   obtain ⟨s', h', o', ds', r2, e1, e2, e3, e4, e5⟩ := ih (i + 1) s1 h3 x' _ (by omega) b5 ((S'.trans (S2.le S'.n)).trans b4) hO k1 k4 k13 k14 k15 ks
   exact ⟨s', h', o', ds', Runs.loop r1 r2, e1, e2, e3, e4, e5⟩
  | false =>
   rw [he] at c1
   obtain ⟨s1, r1, k1, k4, k13, k14, k15, ks⟩ : ∃ s1, fM K [1, 1, 0, 1, 0, 0] s h .normal s1 h1 ∧ s1.at 1 = .fn G C ∧ s1.at 4 = o ∧ s1.at 13 = x ∧ s1.at 14 = .nu .i64 (.ofNat l.length) ∧ s1.at 15 = .nu .i64 (.ofNat (i + 1)) ∧ s1.at ai = .undef :=
    ⟨_, rS H.hk H.prim H.pl g15 g14 g13 g1 (aV hi) hq1 hq2 rfl c1 (cI (by omega)), g1, g4, g13, g14, rfl, gs⟩
   have hO : Own h0.n h1 46 o ds ((l.take (i + 1)).filter p) := by
    rw [hd, List.filter_append, List.filter_cons, if_neg (by rw [he]; simp), List.filter_nil, List.append_nil]; exact ho1
   obtain ⟨s', h', o', ds', r2, e1, e2, e3, e4, e5⟩ := ih (i + 1) s1 h1 o ds (by omega) aX S' hO k1 k4 k13 k14 k15 ks
   exact ⟨s', h', o', ds', Runs.loop r1 r2, e1, e2, e3, e4, e5⟩
def Kept (K : Ctx) (f : FuncId) (args : List CV) (h : Hp) (l : List (List Int)) : Prop := fV K f args h fun r h' => ∃ o ds, r = .tup [o, .nu .i64 0] ∧ Own h.n h' 46 o ds l
theorem Own.low {N M el : Nat} {h : Hp} {x : CV} {cs : List CV} {l : List (List Int)} (hNM : M ≤ N) (O : Own N h el x cs l) : Own M h el x cs l := ⟨vR hNM O.out, O.rows⟩
theorem qE (H : Std K) (ok : HpOk h) {l : List (List Int)} (hl : l.length < 549755813888) (hok : ∀ a ∈ l, a ≠ [] ∧ a.length < 1099511627776) {G : FuncId} {C : List CV} {p : List Int → Bool} (hg : Asks K h G C l p) {x : CV} {cs : List CV} (hx : Row h x cs) (hxs : Rows h cs l) (hc : fV K 26 [x] h fun r _ => r = .nu .i64 0) : Kept K 81 [x, .fn G C] h (l.filter p) := by
 have hf : K.P.funcs[81]? = some Tryz.f81 := by rw [H.hP]; exact Tryz.func81
 obtain ⟨r, h1, c1, S1, aX, rfl⟩ := hc
 have hlen := fc H (hx.mono S1 ok (Nat.le_refl _))
 rw [hxs.length] at hlen
 obtain ⟨s1, r1, j0, j1, j4, js⟩ : ∃ s1, fM K [1, 0] (T.set (T.set (entry 0 [x, .fn G C]) 4 .nils) 5 (.nu .i64 0)) h .normal s1 h1 ∧ s1.at 0 = x ∧ s1.at 1 = .fn G C ∧ s1.at 4 = .nils ∧ s1.at ai = .undef := ⟨_, A6 H.hk H.prim H.pl rfl c1 rfl, rfl, rfl, rfl, rfl⟩
 obtain ⟨s2, r2, k1, k4, k13, k14, k15, ks⟩ : ∃ s2, fM K [1, 1, 0, 0] s1 h1 .normal s2 h1 ∧ s2.at 1 = .fn G C ∧ s2.at 4 = .nils ∧ s2.at 13 = x ∧ s2.at 14 = .nu .i64 (.ofNat l.length) ∧ s2.at 15 = .nu .i64 (.ofNat 0) ∧ s2.at ai = .undef := ⟨_, JO H.hk j0 hlen, j1, j4, rfl, rfl, rfl, js⟩
 obtain ⟨s3, h3, o3, ds3, r3, e1, e2, e3, e4, e5⟩ := xh H aX hl hok (hg.mono S1) (hx.mono S1 ok (Nat.le_refl _)) (hxs.mono S1 ok (Nat.le_refl _)) l.length 0 s2 h1 .nils [] (by omega) aX (Same.refl _ _) (by simpa using Own.nil) k1 k4 k13 k14 k15 ks
 have S3 := S1.trans (e3.le S1.n)
 refine ⟨_, h3, H.go hf (Runs.seq (AP H.hk) (Runs.seq r1 (Runs.seq (Runs.seq r2 (aS r3)) (DS H.hk H.prim H.pl e4)))) (.inr rfl) S3.n e1 rfl rfl, S3, e2, o3, ds3, rfl, e5.low S1.n⟩
theorem Cj (H : Std K) (ok : HpOk h) {l : List (List Int)} {t : List Int} (hl : l.length < 549755813888) (hok : ∀ a ∈ l, a ≠ [] ∧ a.length < 1099511627776) (ht : t ∈ l) {G : FuncId} {C : List CV} {p : List Int → Bool} (hg : Asks K h G C l p) {x y : CV} {cs : List CV} (hx : Row h x cs) (hxs : Rows h cs l) (hy : Row h y (ah t)) (hc : ∀ g, HpOk g → Same h.n h g → fV K 26 [x] g fun r _ => r = .nu .i64 0) : Kept K 75 [x, y, .fn G C] h (l.filter p) := by
 have hf : K.P.funcs[75]? = some Tryz.f75 := by rw [H.hP]; exact Tryz.func75
 obtain ⟨F, B, b1, bx⟩ := gE (h := h) (t := 46) hy.one (eL H)
 have S1 : Same h.n h (h.push B) := Same.push (Nat.le_refl _) _
 have aX : HpOk (h.push B) := ok.push _
 obtain ⟨rv, h2, c2, S2, bz, o, ds, rfl, hO⟩ := qE H aX hl hok (hg.mono S1) (hx.mono S1 ok (Nat.le_refl _)) (hxs.mono S1 ok (Nat.le_refl _)) (hc _ aX S1)
 have Sa := S1.trans (S2.le S1.n)
 have htl := (hok t ht).2
 obtain ⟨rv, h3, c3, S3, ct, rfl⟩ := nJ H bz (by omega) (qD H bz (by omega) (bx.mono S2 (Nat.le_refl _)) (hy.mono Sa ok (Nat.le_refl _)) l) (hx.mono Sa ok (Nat.le_refl _)) (hxs.mono Sa ok (Nat.le_refl _))
 have hany : l.any (fv t) = true := List.any_eq_true.2 ⟨t, ht, (jA t t).2 rfl⟩
 rw [hany] at c3
 have Sall := Sa.trans (S3.le Sa.n)
 exact ⟨_, h3, H.go hf (DP H.hk H.prim H.pl (s := entry 0 [x, y, .fn G C]) rfl rfl rfl b1 c2 rfl rfl rfl c3 rfl) (.inr rfl) Sall.n rfl rfl rfl, Sall, ct, o, ds, rfl, (hO.mono S3 bz).low S1.n⟩
end
end Go.CP
