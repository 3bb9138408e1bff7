import Derived.Test.YtadagifjonbmjaaGreatDoorKl2
import Derived.Test.YtadagifjonbmjaaGreatDoorKw1
import Derived.Sort.AssemblyPlain
import Derived.Test.YtadagifjonbmjaaGreatDoorKr0
set_option linter.all false
/- Complex: slices.SortFunc of few rows: the insertion sort. -/
namespace Go.CP
open Go.Proofs
variable [LG] [HK]
/-- An element of a slice of its own: what is written there changes nothing else. -/
theorem Out.cellE {N el : Nat} {h : Hp} {x : CV} {cs : List CV} (r : Out N h el x cs) {i : Nat} (hi : i < cs.length) : ∃ p, (∀ e b z, qIndexAddr x (.nu .i64 (.ofNat i)) (.slice e 1 b z) = Option.some p) ∧ qLoad h p (Option.some (1, false)) = Option.some cs[i] ∧ ∀ v : CV, v.one = true → ∃ h', wStore h p v (Option.some (1, false)) = Option.some (.undef, h') ∧ Out N h' el x (cs.set i v) ∧ Same N h h' ∧ (HpOk h → HpOk h') ∧ (wipe h' x).n = (wipe h x).n ∧ ∀ j, (wipe h' x).get j = (wipe h x).get j := by
  cases r with
  | nils => simp at hi
  | @some k cs hk hn hne hs =>
    have hb : Nat.blt i cs.length = true := by simpa using hi
    refine ⟨.ptr k (0 + i * 1), fun e b z => by simp only [qIndexAddr, qAt, hb], ?_, fun v hv => ?_⟩
    · show hbVal (0 + i * 1) 1 false (h.get k) = _
      rw [hs]
      have h1 : cs[i]? = Option.some cs[i] := List.getElem?_eq_getElem hi
      simp only [hbVal, val, Nat.mul_one, Nat.zero_add, Nat.ble_eq_true_of_le (show i + 1 ≤ cs.length by omega), Nat.beq_refl, h1]
    · have hc := one_cells hv
      refine ⟨h.set k (.cells (cs.set i v) 1 el), ?_, ?_, Same.set hk _, fun ok => ok.set hn _, rfl, fun j => ?_⟩
      · show wStoreB h k (0 + i * 1) 1 v (h.get k) = _
        rw [hs]
        simp only [wStoreB, CV.sol, hc, List.all_cons, hv, List.all_nil, Bool.and_self, List.length_singleton, Nat.beq_refl, Nat.mul_one, Nat.zero_add, Nat.ble_eq_true_of_le (show i + 1 ≤ cs.length by omega), setAt_one]
      · have := Out.some (N := N) (h := h.set k (.cells (cs.set i v) 1 el)) (el := el) (k := k) (cs := cs.set i v) hk hn (by intro e; apply hne; have := congrArg List.length e; simp at this; exact this) (by rw [Hp.get_set, if_pos rfl])
        simpa using this
      · show (Hp.set (h.set k _) k .dead).get j = (h.set k .dead).get j
        rw [Hp.get_set, Hp.get_set, Hp.get_set]
        split <;> rfl
/-- Rows, in an array that is sorted. -/
structure Arr (N : Nat) (hb h : Hp) (x : CV) (d : Array (CV × List Int)) : Prop where
  out : Out N h 46 x (d.toList.map (·.1))
  rows : ∀ p ∈ d.toList, Row hb p.1 (Ints p.2) ∧ p.2.length < 4611686018427387904
  same : Same hb.n hb (wipe h x)
theorem Arr.row {N : Nat} {hb h : Hp} {x : CV} {d : Array (CV × List Int)} (okb : HpOk hb) (A : Arr N hb h x d) {i : Nat} (hi : i < d.size) : Row h d[i]!.1 (Ints d[i]!.2) ∧ d[i]!.2.length < 4611686018427387904 := by
  have hm : d[i]! ∈ d.toList := by rw [getElem!_pos d i hi]; exact Array.getElem_mem_toList hi
  obtain ⟨h1, h2⟩ := A.rows _ hm
  exact ⟨(h1.mono A.same okb (Nat.le_refl _)).unwipe, h2⟩
section
variable {K : Ctx} {h : Hp}
theorem Arr.cell (H : Std K) {N : Nat} {hb : Hp} {x : CV} {d : Array (CV × List Int)} (A : Arr N hb h x d) {i : Nat} (hi : i < d.size) : ∃ p, qIndexAddr x (.nu .i64 (.ofNat i)) (tyk K.P 22) = some p ∧ qLoad h p (tsz K.P 46) = some d[i]!.1 ∧ ∀ q : CV × List Int, Row hb q.1 (Ints q.2) → q.2.length < 4611686018427387904 → ∃ h', wStore h p q.1 (tsz K.P 46) = some (.undef, h') ∧ Arr N hb h' x (d.setIfInBounds i q) ∧ Same N h h' ∧ (HpOk h → HpOk h') := by
  obtain ⟨p, h1, h2, h3⟩ := A.out.cellE (i := i) (by simpa using hi)
  refine ⟨p, by rw [H.hP, t22]; exact h1 _ _ _, ?_, fun q hq hq2 => ?_⟩
  · rw [z46' H, h2]; simp [getElem!_pos d i hi]
  · obtain ⟨h', g1, g2, g3, g4, g5, g6⟩ := h3 q.1 hq.one
    refine ⟨h', by rw [z46' H]; exact g1, ⟨?_, ?_, ?_⟩, g3, g4⟩
    · have : (d.toList.map (·.1)).set i q.1 = ((d.setIfInBounds i q).toList.map (·.1)) := by
        rw [Array.toList_setIfInBounds, List.map_set]
      rw [← this]; exact g2
    · intro p hp
      rw [Array.toList_setIfInBounds] at hp
      rcases List.mem_or_eq_of_mem_set hp with hp | rfl
      · exact A.rows p hp
      · exact ⟨hq, hq2⟩
    · exact ⟨by rw [g5]; exact A.same.n, fun j hj => by rw [g6]; exact A.same.get j hj⟩
/-- Two change places. -/
theorem Arr.swap (H : Std K) {N : Nat} {hb : Hp} {x : CV} {d : Array (CV × List Int)} (A : Arr N hb h x d) {i j : Nat} (hi : i < d.size) (hj : j < d.size) {p q : CV} (hp : qIndexAddr x (.nu .i64 (.ofNat i)) (tyk K.P 22) = some p) (hq : qIndexAddr x (.nu .i64 (.ofNat j)) (tyk K.P 22) = some q) : ∃ h1 h2, wStore h p d[j]!.1 (tsz K.P 46) = some (.undef, h1) ∧ wStore h1 q d[i]!.1 (tsz K.P 46) = some (.undef, h2) ∧ Arr N hb h2 x (Sort.swp d i j) ∧ Same N h h2 ∧ (HpOk h → HpOk h2) := by
  have hmi : d[i]! ∈ d.toList := by rw [getElem!_pos d i hi]; exact Array.getElem_mem_toList hi
  have hmj : d[j]! ∈ d.toList := by rw [getElem!_pos d j hj]; exact Array.getElem_mem_toList hj
  obtain ⟨p', e1, _, e2⟩ := A.cell H hi
  rw [hp] at e1; cases e1
  obtain ⟨h1, f1, A1, S1, o1⟩ := e2 d[j]! (A.rows _ hmj).1 (A.rows _ hmj).2
  obtain ⟨q', e3, _, e4⟩ := A1.cell H (i := j) (by simpa using hj)
  rw [hq] at e3; cases e3
  obtain ⟨h2, f2, A2, S2, o2⟩ := e4 d[i]! (A.rows _ hmi).1 (A.rows _ hmi).2
  exact ⟨h1, h2, f1, f2, A2, S1.trans S2, fun ok => o2 (o1 ok)⟩
/-- The order of the rows. -/
def ltP (p q : CV × List Int) : Bool := !(ile 0 (cmpI p.2 q.2))
theorem Arr.less (H : Std K) {N : Nat} {hb : Hp} {x : CV} {d : Array (CV × List Int)} (okb : HpOk hb) (A : Arr N hb h x d) {i j : Nat} (hi : i < d.size) (hj : j < d.size) : Comes K 74 ([d[i]!.1, d[j]!.1] ++ []) h (.nu .i64 (cmpI d[i]!.2 d[j]!.2)) h ∧ bineq K.P .lss 3 (.nu .i64 (cmpI d[i]!.2 d[j]!.2)) (.nu .i64 0) = some (.bo (ltP d[i]! d[j]!)) :=
  ⟨scmp_comes H (A.row okb hi).2 (A.row okb hi).1 (A.row okb hj).1, CP.less _ _⟩
theorem insInner_size (a : Nat) : ∀ (j : Nat) (d : Array (CV × List Int)), (Sort.insInner ltP a j d).size = d.size
  | 0, d => rfl
  | j + 1, d => by
    unfold Sort.insInner
    split
    · rw [insInner_size a j]; simp [Sort.swp]
    · rfl
theorem insC_inner (H : Std K) (PE : PlansE K) {N : Nat} {hb : Hp} (okb : HpOk hb) {x v2 v8 : CV} {a : Nat} : ∀ (j : Nat) (s : Fr) (h : Hp) (d : Array (CV × List Int)), j < d.size → d.size < 4611686018427387904 → HpOk h → Arr N hb h x d → N ≤ h.n → s.at 0 = x → s.at 1 = .nu .i64 (.ofNat a) → s.at 2 = v2 → s.at 3 = .fn 74 [] → s.at 8 = v8 → s.at 9 = .nu .i64 (.ofNat j) → s.at slot = .undef →
    ∃ s' h', Runs K 167 53 none (sub1 [1, 0, 0, 1, 0, 0, 1, 0] (bodyOf Tryz.f167)) s h (.exit 2) s' h' ∧ HpOk h' ∧ Same N h h' ∧ Arr N hb h' x (Sort.insInner ltP a j d) ∧ s'.at 0 = x ∧ s'.at 1 = .nu .i64 (.ofNat a) ∧ s'.at 2 = v2 ∧ s'.at 3 = .fn 74 [] ∧ s'.at 8 = v8 ∧ s'.at slot = .undef := by
  intro j
  induction j with
  | zero =>
    intro s h d hj hbig ok A hN g0 g1 g2 g3 g8 g9 gs
    have o20 := more (P := K.P) (t := 3) (Int.ofNat 0) (Int.ofNat a)
    rw [ile_t (by simp)] at o20
    exact ⟨_, _, Runs.loopX (f167_b100100100_fF H.hk H.prim PE g9 g1 o20 rfl) (by simp), ok, Same.refl _ _, A, g0, g1, g2, g3, g8, gs⟩
  | succ j ih =>
    intro s h d hj hbig ok A hN g0 g1 g2 g3 g8 g9 gs
    have o20 := more (P := K.P) (t := 3) (Int.ofNat (j + 1)) (Int.ofNat a)
    by_cases hja : j + 1 > a
    · rw [ile_f (by simp only [Int.ofNat_eq_natCast]; omega)] at o20
      obtain ⟨p, hp1, hp2, _⟩ := A.cell H hj
      obtain ⟨q, hq1, hq2, _⟩ := A.cell H (i := j) (by omega)
      obtain ⟨cc, o33⟩ := A.less H okb hj (j := j) (by omega)
      cases hl : ltP d[j + 1]! d[j]! with
      | false =>
        rw [hl] at o33
        refine ⟨_, _, Runs.loopX (f167_b100100100_tF H.hk H.prim PE g9 g1 g3 g0 o20 hp1 hp2 (A.row okb hj).1.ceq (dec (by omega)) hq1 hq2 rfl cc o33 rfl) (by simp), ok, Same.refl _ _, ?_, g0, g1, g2, g3, g8, gs⟩
        unfold Sort.insInner
        rw [hl]; simpa using A
      | true =>
        rw [hl] at o33
        obtain ⟨h1, h2, w1, w2, A2, S2, o2⟩ := A.swap H hj (j := j) (by omega) hp1 hq1
        obtain ⟨s1, r1, k0, k1, k2, k3, k8, k9, ks⟩ : ∃ s1, Runs K 167 53 none (sub1 [1, 0, 0, 1, 0, 0, 1, 0, 0] (bodyOf Tryz.f167)) s h .normal s1 h2 ∧ s1.at 0 = x ∧ s1.at 1 = .nu .i64 (.ofNat a) ∧ s1.at 2 = v2 ∧ s1.at 3 = .fn 74 [] ∧ s1.at 8 = v8 ∧ s1.at 9 = .nu .i64 (.ofNat j) ∧ s1.at slot = .undef :=
          ⟨_, f167_b100100100_tT H.hk H.prim PE g9 g1 g3 g0 o20 hp1 hp2 (A.row okb hj).1.ceq (dec (by omega)) hq1 hq2 rfl cc o33 rfl hq2 (A.row okb (by omega)).1.ceq hp2 w1 w2, g0, g1, g2, g3, g8, rfl, gs⟩
        obtain ⟨s', h', r2, e1, e2, e3, e4⟩ := ih s1 h2 (Sort.swp d (j + 1) j) (by simp [Sort.swp]; omega) (by simpa [Sort.swp] using hbig) (o2 ok) A2 (Nat.le_trans hN S2.n) k0 k1 k2 k3 k8 k9 ks
        refine ⟨s', h', Runs.loop r1 r2, e1, S2.trans e2, ?_, e4⟩
        unfold Sort.insInner
        rw [hl, if_pos (by simpa using hja)]
        exact e3
    · rw [ile_t (by simp only [Int.ofNat_eq_natCast]; omega)] at o20
      refine ⟨_, _, Runs.loopX (f167_b100100100_fF H.hk H.prim PE g9 g1 o20 rfl) (by simp), ok, Same.refl _ _, ?_, g0, g1, g2, g3, g8, gs⟩
      unfold Sort.insInner
      rw [if_neg (by simp; omega)]; exact A
theorem insOuter_step (a b i : Nat) (d : Array (CV × List Int)) : Sort.insOuter ltP a b i d = if i < b then Sort.insOuter ltP a b (i + 1) (Sort.insInner ltP a i d) else d := by rw [Sort.insOuter]
theorem insC_outer (H : Std K) (PE : PlansE K) {N : Nat} {hb : Hp} (okb : HpOk hb) {x : CV} {a b : Nat} : ∀ (m i : Nat) (s : Fr) (h : Hp) (d : Array (CV × List Int)), i + m = max i b → b ≤ d.size → d.size < 4611686018427387904 → HpOk h → Arr N hb h x d → N ≤ h.n → s.at 0 = x → s.at 1 = .nu .i64 (.ofNat a) → s.at 2 = .nu .i64 (.ofNat b) → s.at 3 = .fn 74 [] → s.at 8 = .nu .i64 (.ofNat i) → s.at slot = .undef →
    ∃ s' h', Runs K 167 53 none (sub1 [1, 0] (bodyOf Tryz.f167)) s h (.exit 0) s' h' ∧ HpOk h' ∧ Same N h h' ∧ Arr N hb h' x (Sort.insOuter ltP a b i d) ∧ s'.at slot = .undef := by
  intro m
  induction m with
  | zero =>
    intro i s h d him hbd hbig ok A hN g0 g1 g2 g3 g8 gs
    refine ⟨_, _, Runs.loopX (Runs.seqX (f167_b1000_F H.hk H.prim PE g8 g2 (lessN' (by omega))) (by simp)) (by simp), ok, Same.refl _ _, ?_, gs⟩
    rw [insOuter_step, if_neg (by omega)]; exact A
  | succ m ih =>
    intro i s h d him hbd hbig ok A hN g0 g1 g2 g3 g8 gs
    have hib : i < b := by omega
    obtain ⟨s1, r1, k0, k1, k2, k3, k8, ks⟩ : ∃ s1, Runs K 167 53 none (sub1 [1, 0, 0, 0] (bodyOf Tryz.f167)) s h .normal s1 h ∧ s1.at 0 = x ∧ s1.at 1 = .nu .i64 (.ofNat a) ∧ s1.at 2 = .nu .i64 (.ofNat b) ∧ s1.at 3 = .fn 74 [] ∧ s1.at 8 = .nu .i64 (.ofNat i) ∧ s1.at slot = .undef :=
      ⟨_, f167_b1000_T H.hk H.prim PE g8 g2 (lessN hib), g0, g1, g2, g3, g8, gs⟩
    obtain ⟨s2, r2, l0, l1, l2, l3, l8, l9, ls⟩ : ∃ s2, Runs K 167 53 none (sub1 [1, 0, 0, 1, 0, 0, 0] (bodyOf Tryz.f167)) s1 h .normal s2 h ∧ s2.at 0 = x ∧ s2.at 1 = .nu .i64 (.ofNat a) ∧ s2.at 2 = .nu .i64 (.ofNat b) ∧ s2.at 3 = .fn 74 [] ∧ s2.at 8 = .nu .i64 (.ofNat i) ∧ s2.at 9 = .nu .i64 (.ofNat i) ∧ s2.at slot = .undef :=
      ⟨_, f167_r3 H.hk k8, k0, k1, k2, k3, k8, rfl, ks⟩
    obtain ⟨s3, h3, r3, ok3, S3, A3, m0, m1, m2, m3, m8, ms⟩ := insC_inner H PE okb i s2 h d (by omega) hbig ok A hN l0 l1 l2 l3 l8 l9 ls
    obtain ⟨s4, r4, n0, n1, n2, n3, n8, ns⟩ : ∃ s4, Runs K 167 53 none (sub1 [1, 0, 0, 1, 1] (bodyOf Tryz.f167)) s3 h3 .normal s4 h3 ∧ s4.at 0 = x ∧ s4.at 1 = .nu .i64 (.ofNat a) ∧ s4.at 2 = .nu .i64 (.ofNat b) ∧ s4.at 3 = .fn 74 [] ∧ s4.at 8 = .nu .i64 (.ofNat (i + 1)) ∧ s4.at slot = .undef :=
      ⟨_, f167_r2 H.hk m8 (inc (by omega)), m0, m1, m2, m3, rfl, ms⟩
    have hsz := insInner_size a i d
    obtain ⟨s5, h5, r5, ok5, S5, A5, qs⟩ := ih (i + 1) s4 h3 (Sort.insInner ltP a i d) (by omega) (by omega) (by omega) ok3 A3 (Nat.le_trans hN S3.n) n0 n1 n2 n3 n8 ns
    refine ⟨s5, h5, Runs.loop (Runs.seq r1 (Runs.seq (Runs.blockN (Runs.seq r2 (Runs.blockE r3))) r4)) r5, ok5, S3.trans S5, ?_, qs⟩
    rw [insOuter_step, if_pos hib]; exact A5
/-- A sort of rows. -/
def Sorts (K : Ctx) (f : FuncId) (args : List CV) (N : Nat) (hb h : Hp) (x : CV) (d : Array (CV × List Int)) : Prop := ∃ h', Comes K f args h (.tup []) h' ∧ Same N h h' ∧ HpOk h' ∧ Arr N hb h' x d
theorem insC_comes (H : Std K) (PE : PlansE K) {N : Nat} {hb : Hp} (okb : HpOk hb) (ok : HpOk h) (hN : N ≤ h.n) {x : CV} {a b : Nat} {d : Array (CV × List Int)} (hbd : b ≤ d.size) (hab : a ≤ b) (hbig : d.size < 4611686018427387904) (A : Arr N hb h x d) : Sorts K 167 [x, .nu .i64 (.ofNat a), .nu .i64 (.ofNat b), .fn 74 []] N hb h x (Sort.insertionSort ltP d a b) := by
  have hf : K.P.funcs[167]? = some Tryz.f167 := by rw [H.hP]; exact Tryz.func167
  obtain ⟨s1, r1, k0, k1, k2, k3, k8, ks⟩ : ∃ s1, Runs K 167 53 none (sub1 [0] (bodyOf Tryz.f167)) (entry 0 [x, .nu .i64 (.ofNat a), .nu .i64 (.ofNat b), .fn 74 []]) h .normal s1 h ∧ s1.at 0 = x ∧ s1.at 1 = .nu .i64 (.ofNat a) ∧ s1.at 2 = .nu .i64 (.ofNat b) ∧ s1.at 3 = .fn 74 [] ∧ s1.at 8 = .nu .i64 (.ofNat (a + 1)) ∧ s1.at slot = .undef :=
    ⟨_, f167_r0 H.hk rfl (inc (by omega)), rfl, rfl, rfl, rfl, rfl, rfl⟩
  obtain ⟨s2, h2, r2, ok2, S2, A2, qs⟩ := insC_outer H PE okb (max (a + 1) b - (a + 1)) (a + 1) s1 h d (by omega) hbd hbig ok A hN k0 k1 k2 k3 k8 ks
  exact ⟨h2, Comes.plain hf rfl (H.memo 167 (by decide)) (H.spec 167) rfl (Runs.seq r1 (Runs.blockE r2)) (.inl rfl) (S2.n) qs rfl rfl, S2, ok2, A2⟩
end
end Go.CP
/- Complex: slices.SortFunc of few rows; what a sort of rows is worth. -/
namespace Go.CP
open Go.Proofs
variable [LG] [HK]
theorem ltP_iff (p q : CV × List Int) : ltP p q = true ↔ LtS p.2 q.2 := by
  unfold ltP LtS
  rw [Bool.not_eq_true', ile_eq]
  constructor
  · intro h
    have := of_decide_eq_false h
    rcases cmpI_vals p.2 q.2 with h | h | h <;> omega
  · intro h
    exact decide_eq_false (by omega)
theorem swoP : Sort.SWO ltP := by
  refine ⟨fun x => ?_, fun x y z h1 h2 => ?_, fun x y z h1 h2 => ?_⟩
  · rw [← Bool.not_eq_true, ltP_iff]
    intro h
    have := (cmpI_zero x.2 x.2).2 rfl
    unfold LtS at h; omega
  · rw [ltP_iff] at *; exact h1.trans h2
  · rw [← Bool.not_eq_true, ltP_iff] at *
    intro h
    by_cases e1 : x.2 = y.2
    · exact h2 (e1 ▸ h)
    · have a : LtS y.2 x.2 := LtS.of e1 h1
      exact h2 (a.trans h)
/-- What a sort of different rows is: the ascending list of them. -/
theorem sorted_srt {d d' : Array (CV × List Int)} (hp : Sort.PermIn 0 d.size d d') (hs : Sort.SortedIn ltP 0 d.size d') (hn : (d.toList.map (·.2)).Nodup) : d'.toList.Perm d.toList ∧ Srt (d'.toList.map (·.2)) := by
  obtain ⟨h1, _, h3⟩ := hp
  have e1 : d.extract 0 d.size = d := by simp
  have e2 : d'.extract 0 d.size = d' := by rw [← h1]; simp
  rw [e1, e2] at h3
  refine ⟨h3, ?_⟩
  have hn' : (d'.toList.map (·.2)).Nodup := (h3.map _).nodup_iff.2 hn
  rw [Srt, List.pairwise_iff_getElem]
  intro i j hi hj hij
  have hi' : i < d'.size := by simpa using hi
  have hj' : j < d'.size := by simpa using hj
  have := hs i j (Nat.zero_le _) hij (by omega)
  rw [getElem!_pos d' i hi', getElem!_pos d' j hj', ← Bool.not_eq_true, ltP_iff] at this
  have hne : (d'[j]).2 ≠ (d'[i]).2 := by
    have := (List.pairwise_iff_getElem.1 hn') i j hi hj hij
    simpa using Ne.symm this
  have := LtS.of hne this
  simpa using this
section
variable {K : Ctx} {h : Hp}
theorem subNN {P : Program} {t : TypeId} {a b : Nat} (h : b ≤ a) (ha : a < 9223372036854775808) : bineq P .sub t (.nu .i64 (.ofNat a)) (.nu .i64 (.ofNat b)) = some (.nu .i64 (.ofNat (a - b))) := by
  show some (nuW .i64 (Int.ofNat a - Int.ofNat b)) = _
  have : Int.ofNat a - Int.ofNat b = Int.ofNat (a - b) := by simp only [Int.ofNat_eq_natCast]; omega
  rw [nuW_eq, this]; exact congrArg _ (congrArg _ (wr_i64 _ (by omega)))
/-- The rows are sorted by this. -/
def SortsAll (K : Ctx) (f : FuncId) (args : List CV) (N : Nat) (hb h : Hp) (x : CV) (d : Array (CV × List Int)) : Prop := ∃ d', Sorts K f args N hb h x d' ∧ Sort.PermIn 0 d.size d d' ∧ Sort.SortedIn ltP 0 d.size d'
theorem pdqC_few (H : Std K) (PE : PlansE K) {N : Nat} {hb : Hp} (okb : HpOk hb) (ok : HpOk h) (hN : N ≤ h.n) {x : CV} {d : Array (CV × List Int)} (hle : d.size ≤ 12) (A : Arr N hb h x d) (lim : CV) : SortsAll K 143 [x, .nu .i64 (.ofNat 0), .nu .i64 (.ofNat d.size), lim, .fn 74 []] N hb h x d := by
  have hf : K.P.funcs[143]? = some Tryz.f143 := by rw [H.hP]; exact Tryz.func143
  obtain ⟨h', c1, S1, ok1, A1⟩ := insC_comes H PE okb ok hN (a := 0) (Nat.le_refl d.size) (Nat.zero_le _) (by omega) A
  have o25 := leqN (P := K.P) (t := 3) (Int.ofNat (d.size - 0)) 12
  rw [ile_t (by simp; omega)] at o25
  obtain ⟨s1, r1, k0, k1, k2, k4, ks⟩ : ∃ s1, (∀ {e s' h'}, Runs K 143 148 none (sub1 [1, 1, 0] (bodyOf Tryz.f143)) s1 h e s' h' → e = .ret → Runs K 143 148 none (bodyOf Tryz.f143) (entry 0 [x, .nu .i64 (.ofNat 0), .nu .i64 (.ofNat d.size), lim, .fn 74 []]) h e s' h') ∧ s1.at 0 = x ∧ s1.at 1 = .nu .i64 (.ofNat 0) ∧ s1.at 2 = .nu .i64 (.ofNat d.size) ∧ s1.at 4 = .fn 74 [] ∧ s1.at slot = .undef :=
    ⟨_, fun r e => by subst e; exact Runs.seq (f143_r0 H.hk) (Runs.seq (f143_r1 H.hk) (Runs.blockR r)), rfl, rfl, rfl, rfl, rfl⟩
  obtain ⟨s2, r2, l0, l1, l2, l4, l12, ls⟩ : ∃ s2, Runs K 143 148 none (sub1 [1, 1, 0, 0, 0, 0] (bodyOf Tryz.f143)) s1 h .normal s2 h ∧ s2.at 0 = x ∧ s2.at 1 = .nu .i64 (.ofNat 0) ∧ s2.at 2 = .nu .i64 (.ofNat d.size) ∧ s2.at 4 = .fn 74 [] ∧ s2.at 12 = .nu .i64 (.ofNat (d.size - 0)) ∧ s2.at slot = .undef := ⟨_, f143_r2 H.hk k2 k1 (subNN (Nat.zero_le _) (by omega)), k0, k1, k2, k4, rfl, ks⟩
  obtain ⟨s3, r3, m0, m1, m2, m4, m25, ms⟩ : ∃ s3, Runs K 143 148 none (sub1 [1, 1, 0, 0, 0, 1, 0, 0] (bodyOf Tryz.f143)) s2 h .normal s3 h ∧ s3.at 0 = x ∧ s3.at 1 = .nu .i64 (.ofNat 0) ∧ s3.at 2 = .nu .i64 (.ofNat d.size) ∧ s3.at 4 = .fn 74 [] ∧ s3.at 25 = .bo true ∧ s3.at slot = .undef := ⟨_, f143_r3 H.hk l12 o25, l0, l1, l2, l4, rfl, ls⟩
  obtain ⟨s4, r4, ns⟩ : ∃ s4, Runs K 143 148 none (sub1 [1, 1, 0, 0, 0, 1, 0, 1, 0, 0] (bodyOf Tryz.f143)) s3 h .normal s4 h' ∧ s4.at slot = .undef := ⟨_, f143_r4 H.hk m0 m1 m2 m4 (H.prim _ _) c1, ms⟩
  have hsort := Sort.insertionSort_holds swoP d 0 d.size (Nat.zero_le _) (Nat.le_refl _)
  exact ⟨_, ⟨h', Comes.plain hf rfl (H.memo 143 (by decide)) (H.spec 143) rfl (r1 (Runs.loopX (Runs.blockR (Runs.seq r2 (Runs.seqX (Runs.seq r3 (Runs.condT (o := .tmp 25) m25 (Runs.seq r4 Runs.ret))) (by simp)))) (by simp)) rfl) (.inr rfl) S1.n ns rfl rfl, S1, ok1, A1⟩, hsort.1, hsort.2⟩
theorem sortF_few (H : Std K) (PE : PlansE K) (PD : PlansD K) {N : Nat} {hb : Hp} (okb : HpOk hb) (ok : HpOk h) (hN : N ≤ h.n) {x : CV} {d : Array (CV × List Int)} (hle : d.size ≤ 12) (A : Arr N hb h x d) : SortsAll K 116 [x, .fn 74 []] N hb h x d := by
  have hf : K.P.funcs[116]? = some Tryz.f116 := by rw [H.hP]; exact Tryz.func116
  have hlen := len22 H A.out.row
  rw [List.length_map, Array.length_toList] at hlen
  obtain ⟨w, hw, cl⟩ := len_comes (h := h) H (n := d.size) (by omega)
  obtain ⟨d', ⟨h', c1, S1, ok1, A1⟩, hp, hs⟩ := pdqC_few H PE okb ok hN hle A (.nu .i64 (.ofNat w))
  have h3' : tyk K.P 3 = .int .i64 := by rw [H.hP]; exact t3
  have h126 : tyk K.P 126 = .int .u64 := by rw [H.hP]; exact t126
  have o10 : qConv K.P h (.nu .i64 (.ofNat d.size)) (tyk K.P 3) (tyk K.P 126) = some (.nu .u64 (.ofNat d.size)) := by
    rw [h3', h126]
    have hb : Nat.blt d.size 18446744073709551616 = true := by simp; omega
    simp only [qConv, nuW, wrapF, hb, cond_true]
  have l10 : lBytes K.P (.nu .i64 (.ofNat d.size)) (tyk K.P 3) (tyk K.P 126) = none := by rw [h3', h126]; rfl
  exact ⟨d', ⟨h', Comes.plain hf rfl (H.memo 116 (by decide)) (H.spec 116) rfl (f116_b H.hk H.prim PD (s := entry 0 [x, .fn 74 []]) rfl rfl hlen l10 o10 cl c1) (.inl rfl) S1.n rfl rfl rfl, S1, ok1, A1⟩, hp, hs⟩
end
end Go.CP
/- Complex: (set).list: the copies of a map's rows, ascending, whatever the order of the range. -/
namespace Go.CP
open Go.Proofs
variable [LG] [HK]
/-! ### What is told of the result -/
def layEach : List (List Int) → Hp → List CV × Hp
  | [], h => ([], h)
  | a :: l, h => (.sl h.n 0 a.length a.length :: (layEach l (h.push (.cells (Ints a) 1 3))).1, (layEach l (h.push (.cells (Ints a) 1 3))).2)
def layRows (l : List (List Int)) (h : Hp) : CV × Hp := match l with
  | [] => (.nils, h)
  | _ => (.sl (layEach l h).2.n 0 l.length l.length, (layEach l h).2.push (.cells (layEach l h).1 1 46))
theorem layEach_n : ∀ (l : List (List Int)) (h : Hp), (layEach l h).2.n = h.n + l.length
  | [], h => rfl
  | a :: l, h => by simp only [layEach, layEach_n l, List.length_cons]; show h.n + 1 + l.length = _; omega
theorem layEach_old : ∀ (l : List (List Int)) (h : Hp) (k : Nat), k < h.n → (layEach l h).2.get k = h.get k
  | [], h, k, _ => rfl
  | a :: l, h, k, hk => by
    simp only [layEach]
    rw [layEach_old l _ k (by show k < h.n + 1; omega), Hp.get_push, if_neg (by omega)]
theorem layEach_ok : ∀ (l : List (List Int)) (h : Hp), HpOk h → HpOk (layEach l h).2
  | [], h, ok => ok
  | a :: l, h, ok => layEach_ok l _ (ok.push _)
theorem layEach_get : ∀ (l : List (List Int)) (h : Hp) (i : Nat) (hi : i < l.length), (layEach l h).2.get (h.n + i) = .cells (Ints l[i]) 1 3
  | [], h, i, hi => by simp at hi
  | a :: l, h, 0, hi => by
    simp only [layEach]
    rw [Nat.add_zero, layEach_old l _ h.n (by show h.n < h.n + 1; omega), Hp.get_push, if_pos rfl]
    rfl
  | a :: l, h, i + 1, hi => by
    simp only [layEach]
    have := layEach_get l (h.push (.cells (Ints a) 1 3)) i (by simpa using hi)
    rw [show h.n + (i + 1) = (h.push (.cells (Ints a) 1 3)).n + i by show _ = h.n + 1 + i; omega, this]
    simp
theorem layEach_fst : ∀ (l : List (List Int)) (h : Hp), (layEach l h).1.length = l.length ∧ ∀ i (h1 : i < (layEach l h).1.length) (h2 : i < l.length), (layEach l h).1[i] = .sl (h.n + i) 0 l[i].length l[i].length
  | [], h => ⟨rfl, fun i hi => by simp [layEach] at hi⟩
  | a :: l, h => by
    obtain ⟨h1, h2⟩ := layEach_fst l (h.push (.cells (Ints a) 1 3))
    refine ⟨by simp only [layEach, List.length_cons, h1], fun i g1 g2 => ?_⟩
    cases i with
    | zero => rfl
    | succ i =>
      have := h2 i (by simpa [layEach] using g1) (by simpa using g2)
      simp only [layEach, List.getElem_cons_succ]
      rw [this, show (h.push (.cells (Ints a) 1 3)).n + i = h.n + (i + 1) by show h.n + 1 + i = _; omega]
/-! ### The rows of a map -/
/-- Entries and what their values' rows hold. -/
def RowsM (h : Hp) (es : List (CV × CV)) (ls : List (List Int)) : Prop := es.length = ls.length ∧ ∀ i (h1 : i < es.length) (h2 : i < ls.length), Row h es[i].2 (Ints ls[i]) ∧ ls[i] ≠ [] ∧ ls[i].length < 1099511627776
/-- Rows of their own: each in a block of its own, which is not x's. -/
structure Fresh (N : Nat) (h : Hp) (x : CV) (ds : List (CV × List Int)) : Prop where
  blk : ∀ p ∈ ds, ∃ k, p.1 = .sl k 0 p.2.length p.2.length ∧ N ≤ k ∧ k < h.n ∧ (wipe h x).get k = .cells (Ints p.2) 1 3
  nd : (ds.map (·.1)).Nodup
theorem Out.set {N el j : Nat} {h : Hp} {x : CV} {cs : List CV} {b : HB} (hj : j < N) (r : Out N h el x cs) : Out N (h.set j b) el x cs := by
  cases r with
  | nils => exact .nils
  | @some k cs hk hn hne hs => exact .some hk hn hne (by rw [Hp.get_set, if_neg (by omega)]; exact hs)
theorem wipe_set {h : Hp} {x : CV} {j k : Nat} {b : HB} (hjk : k ≠ j) : (wipe (h.set j b) x).get k = (wipe h x).get k := by
  cases x with
  | sl i o n c =>
    show (Hp.set (h.set j b) i .dead).get k = (h.set i .dead).get k
    rw [Hp.get_set, Hp.get_set, Hp.get_set, if_neg hjk]
  | _ => show (h.set j b).get k = h.get k; rw [Hp.get_set, if_neg hjk]
theorem Fresh.set {N j : Nat} {h : Hp} {x : CV} {ds : List (CV × List Int)} {b : HB} (hj : j < N) (F : Fresh N h x ds) : Fresh N (h.set j b) x ds := ⟨fun p hp => by
  obtain ⟨k, e, h1, h2, h3⟩ := F.blk p hp
  exact ⟨k, e, h1, h2, by rw [wipe_set (by omega)]; exact h3⟩, F.nd⟩
theorem Row.set {h : Hp} {j : Nat} {b : HB} {x : CV} {cs : List CV} (hj : ∀ o n, hbSub o n (h.get j) = Option.none) (r : Row h x cs) : Row (h.set j b) x cs := by
  cases r with
  | nils => exact .nils
  | sle => exact .sle
  | none k o c => exact .none k o c
  | @some k o c cs hne hs hc hf =>
    have : k ≠ j := fun e => by subst e; rw [hj] at hs; cases hs
    exact .some hne (by rw [Hp.get_set, if_neg this]; exact hs) hc (by rw [Hp.get_set, if_neg this]; exact hf)
section
variable {K : Ctx} {h : Hp}
/-- One row more. -/
theorem fresh_app (H : Std K) {N : Nat} {h0 : Hp} {x y : CV} {ds : List (CV × List Int)} {a : List Int} (ok0 : HpOk h0) (hN : N ≤ h0.n) (hne : a ≠ []) (O : Out N h0 46 x (ds.map (·.1))) (F : Fresh N h0 x ds) (ok : HpOk h) (S : Same h0.n h0 h) (hy : Out h0.n h 3 y (Ints a)) (hl : ds.length < 1099511627776) :
    ∃ B Bv x' h', lSlice 1 [(0, y)] (tyk K.P 22) = some (B, Bv) ∧ wApp (h.push Bv) x (B h.n) (tyk K.P 22) (tyk K.P 22) = some (x', h') ∧ Out N h' 46 x' ((ds ++ [(y, a)]).map (·.1)) ∧ Fresh N h' x' (ds ++ [(y, a)]) ∧ HpOk h' ∧ h.n ≤ h'.n ∧ ∀ k, k < N → h'.get k = h.get k := by
  have ht : tyk K.P 22 = .slice 46 1 24 [.nils] := by rw [H.hP]; exact t22
  have hyv := hy.row.one
  have O1 := O.mono S (Nat.le_refl _)
  have O2 : Out N (h.push (.cells [y] 0 46)) 46 x (ds.map (·.1)) := O1.mono (Same.push (Nat.le_refl _) _) (Nat.le_refl _)
  have hn : h0.n ≤ h.n := S.n
  have e := O2.appE (z := [.nils]) (t' := .slice 46 1 24 [.nils]) (bytes := 24) (one_row (h := h) (v := y) (el := 46)) (by simp) (by simp [hyv]) rfl ⟨_, _, _, rfl⟩ (by simp; omega) (by simp; omega)
  obtain ⟨ky, rfl, hk1, hk2, hk3⟩ : ∃ k, y = .sl k 0 a.length a.length ∧ h0.n ≤ k ∧ k < h.n ∧ h.get k = .cells (Ints a) 1 3 := by
    have hne' := ints_ne hne
    generalize hc : Ints a = c at hy hne'
    have hlen : a.length = c.length := by rw [← hc, ints_length]
    cases hy with
    | nils => exact absurd rfl hne'
    | @some k cs a1 a2 a3 a4 => exact ⟨k, by rw [hlen], a1, a2, a4⟩
  generalize hg : wipe (h.push (.cells [.sl ky 0 a.length a.length] 0 46)) x = g at e
  have hgn : g.n = h.n + 1 := by rw [← hg, wipe_n]; rfl
  -- x's block is not looked at any more
  have gget : ∀ k, k < h.n → (∀ i o n c, x = .sl i o n c → k ≠ i) → g.get k = h.get k := by
    intro k hk hx
    rw [← hg]
    cases x with
    | sl i o n c =>
      show (Hp.set (h.push _) i .dead).get k = _
      rw [Hp.get_set, if_neg (hx i o n c rfl), Hp.get_push, if_neg (by omega)]
    | _ => show (h.push _).get k = _; rw [Hp.get_push, if_neg (by omega)]
  have hxk : ∀ i o n c, x = .sl i o n c → N ≤ i ∧ i < h0.n := by
    intro i o n c hx
    subst hx
    generalize hd : ds.map (·.1) = cs at O
    cases O with
    | some a1 a2 _ _ => exact ⟨a1, a2⟩
  refine ⟨fun k => .sl k 0 1 1, .cells [.sl ky 0 a.length a.length] 0 46, _, _, by rw [ht]; exact one_slice rfl, by rw [ht]; exact e, ?_, ⟨fun p hp => ?_, ?_⟩, ?_, ?_, fun k hk => ?_⟩
  · have := Out.some (N := N) (h := g.push (.cells (ds.map (·.1) ++ [.sl ky 0 a.length a.length]) 1 46)) (el := 46) (k := h.n + 1) (cs := ds.map (·.1) ++ [.sl ky 0 a.length a.length]) (by omega) (by show h.n + 1 < g.n + 1; omega) (by simp) (by rw [Hp.get_push, if_pos hgn.symm])
    simpa using this
  · have fin : ∀ k, k < h.n → g.get k = .cells (Ints p.2) 1 3 → (wipe (g.push (.cells (ds.map (·.1) ++ [.sl ky 0 a.length a.length]) 1 46)) (.sl (h.push (.cells [.sl ky 0 a.length a.length] 0 46)).n 0 ((ds.map (·.1)).length + [CV.sl ky 0 a.length a.length].length) ((ds.map (·.1)).length + [CV.sl ky 0 a.length a.length].length))).get k = .cells (Ints p.2) 1 3 := by
      intro k hk hgk
      show (Hp.set _ (h.n + 1) .dead).get k = _
      rw [Hp.get_set, if_neg (by omega), Hp.get_push, if_neg (by omega)]; exact hgk
    rcases List.mem_append.1 hp with hp | hp
    · obtain ⟨k, e1, h1, h2, h3⟩ := F.blk p hp
      refine ⟨k, e1, h1, by show k < g.n + 1; omega, fin k (by omega) ?_⟩
      have hx' : ∀ i o n c, x = .sl i o n c → k ≠ i := fun i o n c hx hki => by
        subst hx; subst hki
        rw [show wipe h0 (.sl k o n c) = h0.set k .dead from rfl, Hp.get_set, if_pos rfl] at h3; cases h3
      rw [gget k (by omega) hx', S.get k (by omega), ← h3]
      cases x with
      | sl i o n c => show _ = (h0.set i .dead).get k; rw [Hp.get_set, if_neg (hx' i o n c rfl)]
      | _ => rfl
    · rw [List.mem_singleton] at hp; subst hp
      refine ⟨ky, rfl, by omega, by show ky < g.n + 1; omega, fin ky hk2 ?_⟩
      rw [gget ky hk2 (fun i o n c hx hki => by have := (hxk i o n c hx).2; omega)]; exact hk3
  · rw [List.map_append, List.nodup_append]
    refine ⟨F.nd, by simp, fun u hu v hv => ?_⟩
    simp at hv; subst hv
    obtain ⟨p, hp, rfl⟩ := List.mem_map.1 hu
    obtain ⟨k, e1, h1, h2, h3⟩ := F.blk p hp
    intro e2
    rw [e1] at e2
    injection e2 with e3
    omega
  · refine HpOk.push ?_ _
    rw [← hg]; exact (ok.push _).wipe x
  · show h.n ≤ g.n + 1; omega
  · rw [Hp.get_push, if_neg (by omega)]
    exact gget k (by omega) (fun i o n c hx hki => by have := (hxk i o n c hx).1; omega)
end
end Go.CP
/- Complex: (set).list, whatever the order of the range over the map. -/
namespace Go.CP
open Go.Proofs
variable [LG] [HK]
theorem u100 : Tryz.prog.underlying 100 = some (.map 103 46) := by kernel_rfl
theorem Q1.x {K : Ctx} {o : Oper} {s : Fr} {h : Hp} {v : CV} (Hq : Q1 K o s h v) : opX K.P o (ev s) h = some (v, h) := by rw [opX, Hq.q]
theorem Row.keep {h0 h : Hp} {x : CV} {cs : List CV} (hk : ∀ k o n cs, hbSub o n (h0.get k) = Option.some cs → h.get k = h0.get k) (r : Row h0 x cs) : Row h x cs := by
  cases r with
  | nils => exact .nils
  | sle => exact .sle
  | none k o c => exact .none k o c
  | @some k o c cs hne hs hc hf => exact .some hne (by rw [hk _ _ _ _ hs]; exact hs) hc (by rw [hk _ _ _ _ hs]; exact hf)
/-- The ascending list of some lists. -/
def ascL (ls : List (List Int)) : List (List Int) := ls.foldl putI []
theorem ascL_srt (ls : List (List Int)) : Srt (ascL ls) := putsI_srt ls [] List.Pairwise.nil
theorem mem_ascL {ls : List (List Int)} {x : List Int} : x ∈ ascL ls ↔ x ∈ ls := by
  have := mem_putsI (x := x) ls []
  simpa [ascL, putsI] using this
theorem LtS.irrefl {a : List Int} : ¬ LtS a a := fun h => by have := (cmpI_zero a a).2 rfl; unfold LtS at h; omega
theorem LtS.asymm {a b : List Int} (h : LtS a b) (h' : LtS b a) : False := LtS.irrefl (h.trans h')
theorem srt_ext : ∀ {u w : List (List Int)}, Srt u → Srt w → (∀ x, x ∈ u ↔ x ∈ w) → u = w
  | [], [], _, _, _ => rfl
  | [], b :: w, _, _, h => absurd ((h b).2 (by simp)) (by simp)
  | a :: u, [], _, _, h => absurd ((h a).1 (by simp)) (by simp)
  | a :: u, b :: w, hu, hw, h => by
    have h1 := List.pairwise_cons.1 hu
    have h2 := List.pairwise_cons.1 hw
    have hab : a = b := by
      rcases List.mem_cons.1 ((h a).1 (by simp)) with e | e
      · exact e
      · rcases List.mem_cons.1 ((h b).2 (by simp)) with e' | e'
        · exact e'.symm
        · exact (LtS.asymm (h2.1 a e) (h1.1 b e')).elim
    subst hab
    congr 1
    refine srt_ext h1.2 h2.2 fun x => ?_
    constructor
    · intro hx
      rcases List.mem_cons.1 ((h x).1 (by simp [hx])) with e | e
      · exact absurd (h1.1 x hx) (e ▸ LtS.irrefl)
      · exact e
    · intro hx
      rcases List.mem_cons.1 ((h x).2 (by simp [hx])) with e | e
      · exact absurd (h2.1 x hx) (e ▸ LtS.irrefl)
      · exact e
/-- A range under way: the map mk of h0, its entries with the stamps bs, the rows ls; the entries js are done. -/
structure Way (h0 : Hp) (mk : Nat) (es : List (CV × CV)) (bs : List Nat) (clock : Nat) (ls : List (List Int)) (js : List Nat) (s : Fr) (h : Hp) : Prop where
  nd : js.Nodup
  lt : ∀ j ∈ js, j < es.length
  ok : HpOk h
  old : ∀ k, k < h0.n → k ≠ mk → h.get k = h0.get k
  n : h0.n < h.n
  mp : h.get mk = .mi es bs clock
  it : h.get h0.n = .it mk clock (js.map fun j => bs.getD j 0) clock
  s7 : s.at 7 = .ptr h0.n 0
  sl : s.at slot = .undef
  ex : ∃ x ds, s.at 3 = x ∧ Out (h0.n + 1) h 46 x (ds.map (·.1)) ∧ Fresh (h0.n + 1) h x ds ∧ ds.map (·.2) = js.map fun j => ls.getD j []
theorem nodup_len : ∀ {n : Nat} {js : List Nat}, js.Nodup → (∀ j ∈ js, j < n) → js.length ≤ n
  | 0, js, _, hl => by
    cases js with
    | nil => simp
    | cons a l => have := hl a (by simp); omega
  | n + 1, js, hn, hl => by
    have h1 := nodup_len (n := n) (js := js.erase n) (hn.erase n) fun j hj => by
      have := (hn.mem_erase_iff).1 hj
      have := hl j this.2
      omega
    have h2 := List.length_erase (a := n) (l := js)
    split at h2 <;> omega
section
variable {K : Ctx} {h0 : Hp}
theorem Way.rows {mk : Nat} {es : List (CV × CV)} {bs : List Nat} {clock : Nat} {ls : List (List Int)} {js : List Nat} {s : Fr} {h : Hp} (ok0 : HpOk h0) (hm : h0.get mk = .mp es) (W : Way h0 mk es bs clock ls js s h) {x : CV} {cs : List CV} (r : Row h0 x cs) : Row h x cs :=
  r.keep fun k o n cs e => W.old k (by
    rcases Nat.lt_or_ge k h0.n with hk | hk
    · exact hk
    · rw [ok0 k hk] at e; simp [hbSub] at e) (fun hk => by rw [hk, hm] at e; simp [hbSub] at e)
theorem list_loop (H : Std K) (KO : KOk K) (hok : codeOk (K.plan 72) 20 (bodyOf Tryz.f72) = true) (ok0 : HpOk h0) {mk : Nat} {es : List (CV × CV)} {bs : List Nat} {clock : Nat} {ls : List (List Int)} (hmk : mk < h0.n) (hm : h0.get mk = .mp es) (hbl : bs.length = es.length) (hbn : bs.Nodup) (hbc : ∀ b ∈ bs, b < clock) (R : RowsM h0 es ls) (hbig : es.length < 1099511627776) {s : Fr} {h : Hp} (W : Way h0 mk es bs clock ls [] s h) :
    Goes K 20 (sub1 [1, 1, 0, 1, 0] (bodyOf Tryz.f72)) s h fun e s' h' => e = .exit 0 ∧ ∃ js, Way h0 mk es bs clock ls js s' h' ∧ ∀ b ∈ bs, b ∈ js.map fun j => bs.getD j 0 := by
  have hns : 20 ≤ slot := by decide
  have hel := R.1
  refine Goes.loop (fun m s h => ∃ js, m = es.length - js.length ∧ Way h0 mk es bs clock ls js s h) (fun m s h ⟨js, hmj, W⟩ => ?_) ⟨[], rfl, W⟩
  obtain ⟨x, ds, g3, O, F, hds⟩ := W.ex
  -- the step
  refine Goes.seq (Q1 := fun e s1 h1 => e = .normal ∧ ((s1.at 9 = .bo false ∧ Way h0 mk es bs clock ls js s1 h1 ∧ ∀ b ∈ bs, b ∈ js.map fun j => bs.getD j 0) ∨ (s1.at 9 = .bo true ∧ ∃ j, ∃ h1' : j < es.length, j ∉ js ∧ s1.at 3 = x ∧ s1.at 7 = .ptr h0.n 0 ∧ s1.at slot = .undef ∧ h1 = h.set h0.n (.it mk clock ((js ++ [j]).map fun j => bs.getD j 0) clock)))) (Goes.region ?_) (fun s1 h1 q => ?_) (fun e s1 h1 hne q => absurd q.1 hne)
  · refine GoesL.next (kit := h0.n) (m := mk) (since := clock) (c0 := clock) (clock := clock) (seen := js.map fun j => bs.getD j 0) (bs := bs) (es := es) hns rfl (List.Mem.head _) rfl rfl W.s7 W.it W.mp hbc (Nat.le_refl _) hbl (fun hall => ?_) fun j h1 h2 hnot => ?_
    · exact GoesL.runs (s1 := T.set (T.set s 8 (.tup [.bo false])) 9 (.bo false)) (h1 := h) KO hns rfl (fun o ho => List.Mem.tail _ ho) (RunL.op (v := .bo false) rfl (Q1.e (Q_extract rfl rfl rfl)) RunL.nil) ⟨rfl, .inl ⟨rfl, ⟨W.nd, W.lt, W.ok, W.old, W.n, W.mp, W.it, W.s7, W.sl, x, ds, g3, O, F, hds⟩, hall⟩⟩
    · refine GoesL.runs (s1 := T.set (T.set s 8 (.tup [.bo true, es[j].1, es[j].2])) 9 (.bo true)) (h1 := h.set h0.n (.it mk clock ((js.map fun j => bs.getD j 0) ++ [bs[j]]) clock)) KO hns rfl (fun o ho => List.Mem.tail _ ho) (RunL.op (v := .bo true) rfl (Q1.e (Q_extract rfl rfl rfl)) RunL.nil) ⟨rfl, .inr ⟨rfl, j, h1, fun hj => hnot (List.mem_map.2 ⟨j, hj, ?_⟩), g3, W.s7, W.sl, ?_⟩⟩
      · simp [List.getD_eq_getElem?_getD, List.getElem?_eq_getElem h2]
      · simp [List.getD_eq_getElem?_getD, List.getElem?_eq_getElem h2]
  · obtain ⟨_, q⟩ := q
    rcases q with ⟨g9, W1, hall⟩ | ⟨g9, j, hj, hnj, k3, k7, ks, rfl⟩
    · refine Goes.seq (Q1 := fun e s2 h2 => e = .exit 0 ∧ s2 = s1 ∧ h2 = h1) (Goes.condF rfl g9 (Goes.exit ⟨rfl, rfl, rfl⟩)) (fun s2 h2 q => by cases q.1) (fun e s2 h2 _ q => ?_)
      obtain ⟨rfl, rfl, rfl⟩ := q
      exact .inr ⟨by simp, rfl, js, W1, hall⟩
    · -- the round
      have hjb : j < bs.length := by omega
      have hjl : j < ls.length := by omega
      obtain ⟨rv, hne, hrl⟩ := R.2 j hj hjl
      have hb : bs.getD j 0 = bs[j] := by simp [List.getD_eq_getElem?_getD, List.getElem?_eq_getElem hjb]
      have hseen : (js ++ [j]).map (fun j => bs.getD j 0) = (js.map fun j => bs.getD j 0) ++ [bs[j]] := by simp only [List.map_append, List.map_cons, List.map_nil, hb]
      generalize hh1 : h.set h0.n (.it mk clock ((js ++ [j]).map fun j => bs.getD j 0) clock) = h1
      have hn1 : h1.n = h.n := by rw [← hh1]; rfl
      have hit : h1.get h0.n = .it mk clock ((js.map fun j => bs.getD j 0) ++ [bs[j]]) clock := by rw [← hh1, Hp.get_set, if_pos rfl, hseen]
      have hget : ∀ k, k ≠ h0.n → h1.get k = h.get k := fun k hk => by rw [← hh1, Hp.get_set, if_neg hk]
      have hmp : h1.get mk = .mi es bs clock := by rw [hget mk (by omega)]; exact W.mp
      have ok1 : HpOk h1 := by rw [← hh1]; exact W.ok.set W.n _
      have hrow : Row h1 es[j].2 (Ints ls[j]) := by
        rw [← hh1]
        exact (W.rows ok0 hm rv).set fun o n => by rw [W.it]; rfl
      refine Goes.seq (Q1 := fun e s2 h2 => e = .normal ∧ s2 = s1 ∧ h2 = h1) (Goes.condT rfl g9 (Goes.skip ⟨rfl, rfl, rfl⟩)) (fun s2 h2 q => ?_) (fun e s2 h2 hne q => absurd q.1 hne)
      obtain ⟨_, rfl, rfl⟩ := q
      refine Goes.block (Q1 := fun e s3 h3 => e = .normal ∧ ∃ j', j' < m ∧ ∃ js', j' = es.length - js'.length ∧ Way h0 mk es bs clock ls js' s3 h3) ?_ (fun e s3 h3 q => .inl ⟨by rw [q.1]; rfl, q.2⟩)
      refine Goes.seq (Q1 := fun e s3 h3 => e = .normal ∧ s3.at 5 = es[j].2 ∧ s3.at 3 = x ∧ s3.at 7 = .ptr h0.n 0 ∧ s3.at slot = .undef ∧ h3 = h2) (Goes.region ?_) (fun s3 h3 q => ?_) (fun e s3 h3 hne q => absurd q.1 hne)
      · refine GoesL.entry (kit := h0.n) (m := mk) (since := clock) (clock := clock) (b := bs[j]) (seen := js.map fun j => bs.getD j 0) (bs := bs) (es := es) hns rfl (List.Mem.head _) rfl rfl k7 hit hmp hj hjb rfl hbn ?_
        exact GoesL.runs (s1 := T.set (T.set (T.set s2 10 (.tup [es[j].1, es[j].2])) 11 es[j].2) 5 es[j].2) (h1 := h2) KO hns rfl (fun o ho => List.Mem.tail _ ho) (RunL.op (v := es[j].2) rfl (Q1.e (Q_extract rfl rfl rfl)) (RunL.op (v := es[j].2) rfl (Q1.e (Q_assign rfl rfl)) RunL.nil)) ⟨rfl, rfl, k3, k7, ks, rfl⟩
      · obtain ⟨_, l5, l3, l7, lsl, rfl⟩ := q
        obtain ⟨y, h4, c4, S4, ok4, oy⟩ := clone_ret H ok1 hne hrl hrow
        have hlen : js.length < es.length := by
          have h1 : (js ++ [j]).length ≤ es.length := nodup_len (by rw [List.nodup_append]; exact ⟨W.nd, by simp, fun a ha b hb e => by simp at hb; subst hb; exact hnj (e ▸ ha)⟩) (fun i hi => by rcases List.mem_append.1 hi with hi | hi; exact W.lt i hi; simp at hi; omega)
          simp at h1; omega
        have hdl : ds.length = js.length := by have := congrArg List.length hds; simpa using this
        have O1 : Out (h0.n + 1) h3 46 x (ds.map (·.1)) := by rw [← hh1]; exact O.set (Nat.lt_succ_self _)
        have F1 : Fresh (h0.n + 1) h3 x ds := by rw [← hh1]; exact F.set (Nat.lt_succ_self _)
        obtain ⟨B, Bv, x', h5, a1, a2, O5, F5, ok5, n5, g5⟩ := fresh_app H ok1 (by have := W.n; omega) hne O1 F1 ok4 S4 oy (by omega)
        refine (Goes.runs (f := 72) KO hns (codeOk_sub [1, 1, 0, 1, 0, 0, 1, 1, 0, 1] _ hok) (f72_r5 H.hk l3 l5 (H.prim _ _) c4 a1 a2)).mono ?_
        rintro e s6 h6 ⟨rfl, rfl, rfl⟩
        have hlt : h0.n < h3.n := by rw [hn1]; exact W.n
        have keep : ∀ k, k < h0.n + 1 → h6.get k = h3.get k := fun k hk => by rw [g5 k hk, S4.get k (by omega)]
        refine ⟨rfl, es.length - (js ++ [j]).length, by simp; omega, js ++ [j], rfl, ⟨?_, ?_, ok5, ?_, ?_, ?_, ?_, l7, lsl, x', ds ++ [(y, ls[j])], rfl, O5, F5, ?_⟩⟩
        · rw [List.nodup_append]
          exact ⟨W.nd, by simp, fun a ha b hb e => by simp at hb; subst hb; exact hnj (e ▸ ha)⟩
        · intro i hi
          rcases List.mem_append.1 hi with hi | hi
          · exact W.lt i hi
          · simp at hi; omega
        · intro k hk hkm
          rw [keep k (by omega), hget k (by omega)]; exact W.old k hk hkm
        · have := S4.n; omega
        · rw [keep mk (by omega)]; exact hmp
        · rw [keep h0.n (by omega), hit, hseen]
        · rw [List.map_append, List.map_append, hds]
          simp [List.getD_eq_getElem?_getD, List.getElem?_eq_getElem hjl]
end
end Go.CP
/- Complex: (set).list comes to the ascending list of the copies, of a map of few rows. -/
namespace Go.CP
open Go.Proofs
variable [LG] [HK]
theorem codeOk_of_func {P : Program} {E : Env} {f : FuncId} {fn : Func} (hE : funcOk P E f = true) (hf : P.funcs[f]? = some fn) (hb : fn.body.isSome = true) : codeOk (E.plan f) fn.ntmps (bodyOf fn) = true := by
  obtain ⟨c, hc⟩ := Option.isSome_iff_exists.1 hb
  unfold funcOk at hE
  rw [hf] at hE
  dsimp only at hE
  rw [hc] at hE
  simp only [Bool.and_eq_true] at hE
  rw [show bodyOf fn = c by simp [bodyOf, hc]]
  exact hE.2
theorem nodup_inj {α : Type} {l : List α} (hn : l.Nodup) {i j : Nat} (hi : i < l.length) (hj : j < l.length) (e : l[i] = l[j]) : i = j := by
  rcases Nat.lt_trichotomy i j with h | h | h
  · exact absurd e (List.pairwise_iff_getElem.1 hn i j hi hj h)
  · exact h
  · exact absurd e.symm (List.pairwise_iff_getElem.1 hn j i hj hi h)
def kOf : CV → Nat
  | .sl k _ _ _ => k
  | _ => 0
theorem ints_inj : ∀ {a b : List Int}, Ints a = Ints b → a = b
  | [], [], _ => rfl
  | [], _ :: _, h => by simp [Ints] at h
  | _ :: _, [], h => by simp [Ints] at h
  | x :: a, y :: b, h => by
    simp only [Ints, List.map_cons, List.cons.injEq, CV.nu.injEq, true_and] at h
    rw [h.1, ints_inj (a := a) (b := b) h.2]
/-- From the sorted rows to what is told. -/
theorem relay_rows {N : Nat} {h0 h2 : Hp} (hN : h0.n < N) {x : CV} {ps : List (CV × List Int)} (ok0 : HpOk h0) (O : Out N h2 46 x (ps.map (·.1))) (blk : ∀ p ∈ ps, ∃ k, p.1 = .sl k 0 p.2.length p.2.length ∧ N ≤ k ∧ k < h2.n ∧ (wipe h2 x).get k = .cells (Ints p.2) 1 3) (nd : (ps.map (·.1)).Nodup) (hne : ∀ p ∈ ps, p.2 ≠ []) (old : ∀ k, k < h0.n → h2.get k = h0.get k) : Relay h0 (layRows (ps.map (·.2)) h0).2 (layRows (ps.map (·.2)) h0).1 x h2 := by
  by_cases he : ps = []
  · subst he
    have hx : x = .nils := by
      generalize hc : ([] : List (CV × List Int)).map (·.1) = cs at O
      cases O with
      | nils => rfl
      | some _ _ a _ => simp at hc; first | exact absurd hc a | exact absurd hc.symm a
    subst hx
    refine ⟨⟨fun k => if k < h0.n then k else h2.n + k, fun k hk => if_pos hk, fun k h1 h3 => ?_, fun k k' h1 h3 e => ?_, fun k hk => ?_, .nils⟩, fun k hk => ⟨rfl, old k hk⟩, ok0, Nat.le_refl _⟩
    · have : k < h0.n := h3
      omega
    · have h1 : k < h0.n := h1
      have h3 : k' < h0.n := h3
      simpa [h1, h3] using e
    · have : h0.n ≤ k := hk
      show h2.n ≤ if k < h0.n then k else h2.n + k
      rw [if_neg (by omega)]; omega
  · -- its own block
    have hne' : ps.map (·.1) ≠ [] := by simpa using he
    obtain ⟨kx, rfl, x1, x2, x3⟩ : ∃ k, x = .sl k 0 ps.length ps.length ∧ N ≤ k ∧ k < h2.n ∧ h2.get k = .cells (ps.map (·.1)) 1 46 := by
      generalize hc : ps.map (·.1) = cs at O hne'
      have hl : ps.length = cs.length := by rw [← hc]; simp
      cases O with
      | nils => exact absurd rfl hne'
      | @some k cs a1 a2 a3 a4 => exact ⟨k, by rw [hl], a1, a2, a4⟩
    have blk' : ∀ i (hi : i < ps.length), (ps[i]).1 = .sl (kOf (ps[i]).1) 0 (ps[i]).2.length (ps[i]).2.length ∧ N ≤ kOf (ps[i]).1 ∧ kOf (ps[i]).1 < h2.n ∧ kOf (ps[i]).1 ≠ kx ∧ h2.get (kOf (ps[i]).1) = .cells (Ints (ps[i]).2) 1 3 := by
      intro i hi
      obtain ⟨k, e, h1, h3, h4⟩ := blk _ (List.getElem_mem hi)
      have hk : kOf (ps[i]).1 = k := by rw [e]; rfl
      have hkx : k ≠ kx := fun hh => by
        rw [show wipe h2 (.sl kx 0 ps.length ps.length) = h2.set kx .dead from rfl, Hp.get_set, if_pos hh] at h4; cases h4
      rw [show wipe h2 (.sl kx 0 ps.length ps.length) = h2.set kx .dead from rfl, Hp.get_set, if_neg hkx] at h4
      rw [hk]
      exact ⟨e, h1, h3, hkx, h4⟩
    have hlr : layRows (ps.map (·.2)) h0 = (.sl (layEach (ps.map (·.2)) h0).2.n 0 (ps.map (·.2)).length (ps.map (·.2)).length, (layEach (ps.map (·.2)) h0).2.push (.cells (layEach (ps.map (·.2)) h0).1 1 46)) := by
      unfold layRows
      split
      · rename_i hh; simp at hh; exact absurd hh he
      · rfl
    have hn := layEach_n (ps.map (·.2)) h0
    rw [List.length_map] at hn
    have hcn : (layRows (ps.map (·.2)) h0).2.n = h0.n + ps.length + 1 := by rw [hlr]; show (layEach _ h0).2.n + 1 = _; omega
    have hget : ∀ i (hi : i < ps.length), (layRows (ps.map (·.2)) h0).2.get (h0.n + i) = .cells (Ints (ps[i]).2) 1 3 := fun i hi => by
      rw [hlr]
      show (Hp.push _ _).get _ = _
      rw [Hp.get_push, if_neg (by omega)]
      have := layEach_get (ps.map (·.2)) h0 i (by simpa using hi)
      simpa using this
    have hgetx : (layRows (ps.map (·.2)) h0).2.get (h0.n + ps.length) = .cells (layEach (ps.map (·.2)) h0).1 1 46 := by
      rw [hlr]
      show (Hp.push _ _).get _ = _
      rw [Hp.get_push, if_pos hn.symm]
    let ρ : Nat → Nat := fun k => if k < h0.n then k else if k < h0.n + ps.length then kOf (ps[k - h0.n]!).1 else if k = h0.n + ps.length then kx else h2.n + k
    have r1 : ∀ k, k < h0.n → ρ k = k := fun k hk => if_pos hk
    have r2 : ∀ i (hi : i < ps.length), ρ (h0.n + i) = kOf (ps[i]).1 := fun i hi => by
      show (if _ then _ else if _ then _ else _) = _
      rw [if_neg (by omega), if_pos (by omega), Nat.add_sub_cancel_left, getElem!_pos ps i hi]
    have r3 : ρ (h0.n + ps.length) = kx := by
      show (if _ then _ else if _ then _ else if _ then _ else _) = _
      rw [if_neg (by omega), if_neg (by omega), if_pos rfl]
    have r4 : ∀ k, h0.n + ps.length + 1 ≤ k → ρ k = h2.n + k := fun k hk => by
      show (if _ then _ else if _ then _ else if _ then _ else _) = _
      rw [if_neg (by omega), if_neg (by omega), if_neg (by omega)]
    have cases3 : ∀ k, k < h0.n + ps.length + 1 → k < h0.n ∨ (∃ i, ∃ hi : i < ps.length, k = h0.n + i) ∨ k = h0.n + ps.length := fun k hk => by
      rcases Nat.lt_or_ge k h0.n with h | h
      · exact .inl h
      · rcases Nat.lt_or_ge k (h0.n + ps.length) with h' | h'
        · exact .inr (.inl ⟨k - h0.n, by omega, by omega⟩)
        · exact .inr (.inr (by omega))
    have inj : ∀ i j (hi : i < ps.length) (hj : j < ps.length), kOf (ps[i]).1 = kOf (ps[j]).1 → i = j := fun i j hi hj e => by
      obtain ⟨a1, _, _, _, a5⟩ := blk' i hi
      obtain ⟨b1, _, _, _, b5⟩ := blk' j hj
      rw [e, b5] at a5
      injection a5 with a5 _ _
      have h2 := ints_inj a5
      have h1 : (ps[i]).1 = (ps[j]).1 := by rw [a1, b1, e, h2]
      exact nodup_inj nd (by simpa using hi) (by simpa using hj) (by simpa using h1)
    refine ⟨⟨ρ, r1, fun k h1 h3 => ?_, fun k k' h1 h3 e => ?_, fun k hk => ?_, ?_⟩, fun k hk => ⟨?_, old k hk⟩, ?_, by rw [hcn]; omega⟩
    · rw [hcn] at h3
      rcases cases3 k h3 with h | ⟨i, hi, rfl⟩ | rfl
      · omega
      · obtain ⟨a1, a2, a3, a4, a5⟩ := blk' i hi
        refine ⟨by rw [r2 i hi]; omega, Ints (ps[i]).2, Ints (ps[i]).2, 1, 3, hget i hi, by rw [r2 i hi]; exact a5, rfl, fun j h1 h2 => ?_⟩
        simp only [Ints, List.getElem_map]; exact .nu _ _
      · obtain ⟨f1, f2⟩ := layEach_fst (ps.map (·.2)) h0
        refine ⟨by rw [r3]; omega, _, _, 1, 46, hgetx, by rw [r3]; exact x3, by rw [f1]; simp, fun j g1 g2 => ?_⟩
        have hj : j < ps.length := by simpa using g2
        rw [f2 j g1 (by simpa using hj)]
        obtain ⟨a1, _⟩ := blk' j hj
        have := Ren.sl (ρ := ρ) (h0.n + j) 0 (ps[j]).2.length (ps[j]).2.length
        rw [r2 j hj, ← a1] at this
        simpa using this
    · rw [hcn] at h1 h3
      rcases cases3 k h1 with h | ⟨i, hi, rfl⟩ | rfl
      · rw [r1 k h] at e
        rcases cases3 k' h3 with h' | ⟨j, hj, rfl⟩ | rfl
        · rw [r1 k' h'] at e; exact e
        · rw [r2 j hj] at e; have := (blk' j hj).2.1; omega
        · rw [r3] at e; omega
      · rw [r2 i hi] at e
        rcases cases3 k' h3 with h' | ⟨j, hj, rfl⟩ | rfl
        · rw [r1 k' h'] at e; have := (blk' i hi).2.1; omega
        · rw [r2 j hj] at e; rw [inj i j hi hj e]
        · rw [r3] at e; exact absurd e (blk' i hi).2.2.2.1
      · rw [r3] at e
        rcases cases3 k' h3 with h' | ⟨j, hj, rfl⟩ | rfl
        · rw [r1 k' h'] at e; omega
        · rw [r2 j hj] at e; exact absurd e.symm (blk' j hj).2.2.2.1
        · rfl
    · rw [hcn] at hk; rw [r4 k hk]; omega
    · have e1 : (layRows (ps.map (·.2)) h0).1 = .sl (h0.n + ps.length) 0 ps.length ps.length := by rw [hlr]; show CV.sl _ _ _ _ = _; rw [hn]; simp
      rw [e1]
      have := Ren.sl (ρ := ρ) (h0.n + ps.length) 0 ps.length ps.length
      rwa [r3] at this
    · rw [hlr]
      show (Hp.push _ _).get k = _
      rw [Hp.get_push, if_neg (by omega)]; exact layEach_old _ _ k hk
    · rw [hlr]
      exact (layEach_ok _ h0 ok0).push _
section
variable {K : Ctx} {h0 : Hp}
theorem list_fcall (H : Std K) (KO : KOk K) (PE : PlansE K) (PD : PlansD K) (hE : funcOk K.P (K.env 0) 72 = true) (ok0 : HpOk h0) {mk : Nat} {es : List (CV × CV)} {ls : List (List Int)} (hm : h0.get mk = .mp es) (R : RowsM h0 es ls) (hnd : ls.Nodup) (hfew : es.length ≤ 12) :
    FCall K.P 72 [.mp mk] h0 (layRows (ascL ls) h0).1 (layRows (ascL ls) h0).2 := by
  have hf : K.P.funcs[72]? = some Tryz.f72 := by rw [H.hP]; exact Tryz.func72
  have hns : 20 ≤ slot := by decide
  have hok : codeOk (K.plan 72) 20 (bodyOf Tryz.f72) = true := codeOk_of_func hE hf rfl
  have hmk : mk < h0.n := by
    rcases Nat.lt_or_ge mk h0.n with h | h
    · exact h
    · rw [ok0 mk h] at hm; cases hm
  have hel := R.1
  have hnn : h0.n ≤ (layRows (ascL ls) h0).2.n := by
    unfold layRows
    split
    · exact Nat.le_refl _
    · show _ ≤ (layEach _ h0).2.n + 1
      rw [layEach_n]; omega
  obtain ⟨c, hc⟩ := Option.isSome_iff_exists.1 (show Tryz.f72.body.isSome = true from rfl)
  have hbo : bodyOf Tryz.f72 = c := by simp [bodyOf, hc]
  refine FCall.of_goes hf hc hE (Nat.le_of_ble_eq_true rfl) hnn ?_
  rw [← hbo]
  show Goes K 20 (bodyOf Tryz.f72) _ _ _
  refine Goes.seq (Q1 := fun e s1 h1 => e = .normal ∧ s1 = T.set (entry 0 [.mp mk]) 2 .nils ∧ h1 = h0) (Goes.runs (f := 72) KO hns (codeOk_sub [0] _ hok) (f72_r0 H.hk)) (fun s1 h1 q => ?_) (fun e s1 h1 hne q => absurd q.1 hne)
  obtain ⟨_, rfl, rfl⟩ := q
  refine Goes.seq (Q1 := fun e s1 h2 => e = .normal ∧ s1 = T.set (T.set (entry 0 [.mp mk]) 2 .nils) 3 .nils ∧ h2 = h1) (Goes.runs (f := 72) KO hns (codeOk_sub [1, 0] _ hok) (f72_r1 H.hk)) (fun s1 h2 q => ?_) (fun e s1 h2 hne q => absurd q.1 hne)
  obtain ⟨_, rfl, rfl⟩ := q
  -- the range
  refine Goes.seq (Q1 := fun e s1 h1 => e = .normal ∧ ∃ bs clock js, bs.length = es.length ∧ bs.Nodup ∧ Way h2 mk es bs clock ls js s1 h1 ∧ ∀ b ∈ bs, b ∈ js.map fun j => bs.getD j 0) (Goes.seq (Q1 := fun e s1 h1 => e = .normal ∧ ∃ bs clock, bs.length = es.length ∧ bs.Nodup ∧ (∀ b ∈ bs, b < clock) ∧ Way h2 mk es bs clock ls [] s1 h1) (Goes.region ?_) (fun s1 h1 q => ?_) (fun e s1 h1 hne q => absurd q.1 hne)) (fun s1 h1 q => ?_) (fun e s1 h1 hne q => absurd q.1 hne)
  · refine GoesL.take (v := .mp mk) hns rfl (List.Mem.head _) rfl (Q1.x (K := K) (Q_move (x := .tmp 0) rfl rfl)) ?_
    refine GoesL.range (m := mk) (es := es) hns rfl (List.Mem.tail _ (List.Mem.head _)) rfl rfl (by rw [H.hP]; exact u100) rfl hm hmk fun bs clock b1 b2 b3 => ?_
    refine GoesL.nil ⟨rfl, bs, clock, b1, b2, b3, ⟨List.Pairwise.nil, by simp, (ok0.set hmk _).push _, fun k hk hkm => ?_, by show h2.n < h2.n + 1; omega, ?_, ?_, rfl, rfl, .nils, [], rfl, .nils, ⟨by simp, by simp⟩, rfl⟩⟩
    · rw [Hp.get_push, if_neg (by show k ≠ h2.n; omega), Hp.get_set, if_neg hkm]
    · rw [Hp.get_push, if_neg (by show mk ≠ h2.n; omega), Hp.get_set, if_pos rfl]
    · rw [Hp.get_push, if_pos (show h2.n = (h2.set mk _).n from rfl)]; rfl
  · obtain ⟨_, bs, clock, b1, b2, b3, W⟩ := q
    refine Goes.block (list_loop H KO hok ok0 hmk hm b1 b2 b3 R (by omega) W) fun e s h q => ?_
    obtain ⟨rfl, js, W', hall⟩ := q
    exact ⟨rfl, bs, clock, js, b1, b2, W', hall⟩
  · obtain ⟨_, bs, clock, js, b1, b2, W, hall⟩ := q
    obtain ⟨x, ds, g3, O, F, hds⟩ := W.ex
    refine Goes.unrange (by have := W.n; omega) W.mp ?_
    generalize hh : h1.set mk (.mp es) = h3
    have hn3 : h3.n = h1.n := by rw [← hh]; rfl
    have ok3 : HpOk h3 := by rw [← hh]; exact W.ok.set (by have := W.n; omega) _
    have O3 : Out (h2.n + 1) h3 46 x (ds.map (·.1)) := by rw [← hh]; exact O.set (by omega)
    have F3 : Fresh (h2.n + 1) h3 x ds := by rw [← hh]; exact F.set (by omega)
    have old3 : ∀ k, k < h2.n → h3.get k = h2.get k := fun k hk => by
      rw [← hh, Hp.get_set]
      split
      · rename_i e; rw [e, hm]
      · rename_i e; exact W.old k hk e
    -- all entries
    have hcov : ∀ j, j < es.length → j ∈ js := fun j hj => by
      obtain ⟨j', hj', e⟩ := List.mem_map.1 (hall _ (List.getElem_mem (show j < bs.length by omega)))
      have hl := W.lt j' hj'
      simp [List.getD_eq_getElem?_getD, List.getElem?_eq_getElem (show j' < bs.length by omega)] at e
      rw [nodup_inj b2 (by omega) (by omega) e] at hj'; exact hj'
    have hmem : ∀ a, a ∈ ds.map (·.2) ↔ a ∈ ls := fun a => by
      rw [hds, List.mem_map]
      constructor
      · rintro ⟨j, hj, rfl⟩
        have hl := W.lt j hj
        simp [List.getD_eq_getElem?_getD, List.getElem?_eq_getElem (show j < ls.length by omega)]
      · intro ha
        obtain ⟨j, hj, rfl⟩ := List.getElem_of_mem ha
        exact ⟨j, hcov j (by omega), by simp [List.getD_eq_getElem?_getD, List.getElem?_eq_getElem hj]⟩
    have hdn : (ds.map (·.2)).Nodup := by
      rw [hds]
      refine (List.pairwise_map).2 (List.Pairwise.imp_of_mem (fun {i j} hi hj hne e => hne ?_) W.nd)
      have h1 := W.lt i hi
      have h2 := W.lt j hj
      simp [List.getD_eq_getElem?_getD, List.getElem?_eq_getElem (show i < ls.length by omega), List.getElem?_eq_getElem (show j < ls.length by omega)] at e
      exact nodup_inj hnd (by omega) (by omega) e
    have hdl : ds.length ≤ 12 := by
      have h1 := congrArg List.length hds
      have h2 := nodup_len W.nd W.lt
      simp at h1; omega
    have hok' : ∀ p ∈ ds, p.2 ≠ [] ∧ p.2.length < 1099511627776 := fun p hp => by
      have := (hmem p.2).1 (List.mem_map.2 ⟨p, hp, rfl⟩)
      obtain ⟨j, hj, e⟩ := List.getElem_of_mem this
      have := R.2 j (by omega) hj
      rw [e] at this
      exact this.2
    have A : Arr (h2.n + 1) (wipe h3 x) h3 x ds.toArray := ⟨by simpa using O3, fun p hp => by
      have hp : p ∈ ds := by simpa using hp
      obtain ⟨k, e, k1, k2, k3⟩ := F3.blk p hp
      obtain ⟨q1, q2⟩ := hok' p hp
      refine ⟨?_, by omega⟩
      rw [e]
      have := Row.some (h := wipe h3 x) (k := k) (o := 0) (c := (Ints p.2).length) (cs := Ints p.2) (ints_ne q1) (by rw [k3]; simp only [hbSub, Nat.zero_add, Nat.ble_eq_true_of_le (Nat.le_refl _), sub, List.drop_zero, List.take_length]) (Nat.le_refl _) (by rw [k3]; rfl)
      rwa [ints_length] at this, Same.refl _ _⟩
    obtain ⟨d', ⟨h4, c4, S4, ok4, A4⟩, hp, hs⟩ := sortF_few H PE PD (ok3.wipe x) ok3 (by rw [hn3]; have := W.n; omega) (d := ds.toArray) (by simpa using hdl) A
    obtain ⟨hperm, hsrt⟩ := sorted_srt hp hs (by simpa using hdn)
    have hperm : d'.toList.Perm ds := by simpa using hperm
    have hasc : ascL ls = d'.toList.map (·.2) := srt_ext (ascL_srt ls) hsrt fun a => by
      rw [mem_ascL, ← hmem a]
      exact ((hperm.map _).mem_iff).symm
    refine (Goes.runs (f := 72) (e := .ret) (s1 := T.set (T.set (T.set (T.set s1 17 x) 18 (.tup [])) 19 x) 2 x) (h1 := h4) KO hns (codeOk_sub [1, 1, 1] _ hok) (Runs.seq (f72_r6 H.hk g3 (H.prim _ _) c4) (Runs.seq (f72_r7 H.hk g3) Runs.ret))).mono ?_
    rintro e s5 h5 ⟨rfl, rfl, rfl⟩
    refine ⟨.inr rfl, W.sl, [x], rfl, ?_⟩
    show Relay h2 _ _ x h5
    rw [hasc]
    refine relay_rows (N := h2.n + 1) (by omega) ok0 A4.out (fun p hp => ?_) ((hperm.map _).nodup_iff.2 F3.nd) (fun p hp => (hok' p (hperm.mem_iff.1 hp)).1) (fun k hk => ?_)
    · obtain ⟨k, e, k1, k2, k3⟩ := F3.blk p (hperm.mem_iff.1 hp)
      have hkn : k < (wipe h3 x).n := by rw [wipe_n]; exact k2
      have hn4 : h3.n ≤ h5.n := S4.n
      exact ⟨k, e, k1, by omega, by rw [A4.same.get k hkn]; exact k3⟩
    · rw [S4.get k (by omega)]; exact old3 k hk
end
end Go.CP
/- Complex: (set).list as it is told to the reckoner. -/
namespace Go.CP
open Go.Proofs
def toI : CV → Option Int
  | .nu .i64 n => some n
  | _ => none
def readL : List CV → Option (List Int)
  | [] => some []
  | c :: l => match toI c with
    | some n => match readL l with
      | some a => some (n :: a)
      | none => none
    | none => none
def readRow (h : Hp) : CV → Option (List Int)
  | .sl k o n c => match Nat.blt 0 n && Nat.ble n c && fits 1 (h.get k) && Nat.blt n 1000000 with
    | true => match hbSub o n (h.get k) with
      | some cs => readL cs
      | none => none
    | false => none
  | _ => none
def readRows (h : Hp) : List (CV × CV) → Option (List (List Int))
  | [] => some []
  | e :: es => match readRow h e.2 with
    | some a => match readRows h es with
      | some l => some (a :: l)
      | none => none
    | none => none
def nodupB : List (List Int) → Bool
  | [] => true
  | a :: l => !(l.any (eqI a)) && nodupB l
def spec72M (h : Hp) : HB → Option (CV × Hp)
  | .mp es => match Nat.ble es.length 12 with
    | true => match readRows h es with
      | some ls => match nodupB ls with
        | true => some (layRows (ascL ls) h)
        | false => none
      | none => none
    | false => none
  | _ => none
def spec72A (h : Hp) : List CV → Option (CV × Hp)
  | [.mp k] => spec72M h (h.get k)
  | _ => none
def spec72 : FuncId → List CV → Hp → Option (CV × Hp) := fun f args h => match Nat.beq f 72 with
  | true => spec72A h args
  | false => none
theorem readL_spec : ∀ {cs : List CV} {a : List Int}, readL cs = some a → cs = Ints a
  | [], a, h => by simp only [readL, Option.some.injEq] at h; subst h; rfl
  | c :: l, a, h => by
    simp only [readL] at h
    split at h
    · rename_i n hn
      split at h
      · rename_i b hb
        cases h
        rw [readL_spec hb]
        cases c <;> simp [toI] at hn
        rename_i k m
        cases k <;> simp at hn
        subst hn; rfl
      · cases h
    · cases h
section
variable [LG] [HK]
theorem readRow_spec {h : Hp} {v : CV} {a : List Int} (hr : readRow h v = some a) : Row h v (Ints a) ∧ a ≠ [] ∧ a.length < 1099511627776 := by
  unfold readRow at hr
  split at hr
  · rename_i k o n c
    split at hr
    · rename_i hc
      simp only [Bool.and_eq_true] at hc
      obtain ⟨⟨⟨h1, h2⟩, h3⟩, h4⟩ := hc
      split at hr
      · rename_i cs hs
        have e := readL_spec hr
        subst e
        have hl : (Ints a).length = n := by
          unfold hbSub at hs
          have key : ∀ ds : List CV, (match Nat.ble (o + n) ds.length with
              | true => some (sub ds o n)
              | false => none) = some (Ints a) → (Ints a).length = n := by
            intro ds hd
            split at hd
            · rename_i hle
              have := ble1 hle
              injection hd with hd
              rw [← hd, sub, List.length_take, List.length_drop]; omega
            · cases hd
          split at hs
          · exact key _ hs
          · exact key _ hs
          · exact key _ hs
          · exact key _ hs
          · cases hs
        have h1 := blt1 h1
        have h2 := ble1 h2
        have h4 := blt1 h4
        have hne : Ints a ≠ [] := by intro e; rw [e] at hl; simp at hl; omega
        subst hl
        refine ⟨.some hne hs h2 h3, fun e => hne (by rw [e]; rfl), ?_⟩
        rw [ints_length] at h4; omega
      · cases hr
    · cases hr
  · cases hr
theorem readRows_spec {h : Hp} : ∀ {es : List (CV × CV)} {ls : List (List Int)}, readRows h es = some ls → RowsM h es ls
  | [], ls, hr => by
    simp only [readRows, Option.some.injEq] at hr; subst hr
    exact ⟨rfl, fun i h1 => by simp at h1⟩
  | e :: es, ls, hr => by
    simp only [readRows] at hr
    split at hr
    · rename_i a ha
      split at hr
      · rename_i l hl
        cases hr
        obtain ⟨h1, h2⟩ := readRows_spec hl
        refine ⟨by simp [h1], fun i g1 g2 => ?_⟩
        cases i with
        | zero => exact readRow_spec ha
        | succ i => exact h2 i (by simpa using g1) (by simpa using g2)
      · cases hr
    · cases hr
theorem nodupB_spec : ∀ {ls : List (List Int)}, nodupB ls = true → ls.Nodup
  | [], _ => List.Pairwise.nil
  | a :: l, h => by
    simp only [nodupB, Bool.and_eq_true, Bool.not_eq_true'] at h
    refine List.nodup_cons.2 ⟨fun ha => ?_, nodupB_spec h.2⟩
    have : l.any (eqI a) = true := List.any_eq_true.2 ⟨a, ha, (eqI_iff a a).2 rfl⟩
    rw [h.1] at this; cases this
theorem FCall.okd {P : Program} {f : FuncId} {args : List CV} {h h' : Hp} {r : CV} (hg : goes P f) (hn : h.n ≤ h'.n) (hc : HpOk h → FCall P f args h r h') : FCall P f args h r h' := ⟨hg, hn, fun N0 ι w vals hN S hv => (hc S.fresh).2.2 N0 ι w vals hN S hv⟩
theorem layRows_n (l : List (List Int)) (h : Hp) : h.n ≤ (layRows l h).2.n := by
  unfold layRows
  split
  · exact Nat.le_refl _
  · show _ ≤ (layEach _ h).2.n + 1
    rw [layEach_n]; omega
theorem spec72_ok {K : Ctx} (H : Std K) (KO : KOk K) (PE : PlansE K) (PD : PlansD K) (hE : funcOk K.P (K.env 0) 72 = true) : ∀ f args h r h', spec72 f args h = some (r, h') → FCall K.P f args h r h' := by
  intro f args h r h' hs
  unfold spec72 at hs
  split at hs
  · rename_i hf
    have hf := beq1 hf
    subst hf
    unfold spec72A at hs
    split at hs
    · rename_i k
      unfold spec72M at hs
      split at hs
      · rename_i es hb
        split at hs
        · rename_i hle
          split at hs
          · rename_i ls hr
            split at hs
            · rename_i hn
              injection hs with hs
              have e1 : r = (layRows (ascL ls) h).1 := by rw [hs]
              have e2 : h' = (layRows (ascL ls) h).2 := by rw [hs]
              subst e1; subst e2
              have hg : goes K.P 72 := by
                unfold funcOk at hE
                rw [show K.P.funcs[72]? = some Tryz.f72 by rw [H.hP]; exact Tryz.func72] at hE
                refine ⟨Tryz.f72, by rw [H.hP]; exact Tryz.func72, rfl, ?_⟩
                obtain ⟨c, hc⟩ := Option.isSome_iff_exists.1 (show Tryz.f72.body.isSome = true from rfl)
                dsimp only at hE
                rw [hc] at hE
                simp only [Bool.and_eq_true, Bool.not_eq_true'] at hE
                exact hE.1.1.1
              exact FCall.okd hg (layRows_n _ _) fun ok => list_fcall H KO PE PD hE ok hb (readRows_spec hr) (nodupB_spec hn) (ble1 hle)
            · cases hs
          · cases hs
        · cases hs
      · cases hs
    · cases hs
  · cases hs
end
end Go.CP
