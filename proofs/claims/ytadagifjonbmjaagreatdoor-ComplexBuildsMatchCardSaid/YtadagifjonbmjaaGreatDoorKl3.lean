import Derived.Test.YtadagifjonbmjaaGreatDoorKl2
import Derived.Test.YtadagifjonbmjaaGreatDoorKw3
import Derived.Test.YtadagifjonbmjaaGreatDoorKq0
set_option linter.all false
/- Complex: the reference's small functions at any lists: Has, Meet, Without, Facets, Check. -/
namespace Go.CP
open Go.Proofs
variable [LG] [HK]
section
variable {P : Program} {t : TypeId} {x y : Int}
theorem lt_t (h : x < y) : bineq P .lss t (.nu .i64 x) (.nu .i64 y) = some (.bo true) := by rw [less, ile_f h]; rfl
theorem lt_f (h : y ≤ x) : bineq P .lss t (.nu .i64 x) (.nu .i64 y) = some (.bo false) := by rw [less, ile_t h]; rfl
theorem gt_t (h : y < x) : bineq P .gtr t (.nu .i64 x) (.nu .i64 y) = some (.bo true) := by rw [more, ile_f h]; rfl
theorem gt_f (h : x ≤ y) : bineq P .gtr t (.nu .i64 x) (.nu .i64 y) = some (.bo false) := by rw [more, ile_t h]; rfl
theorem le_t (h : x ≤ y) : bineq P .leq t (.nu .i64 x) (.nu .i64 y) = some (.bo true) := by rw [leqN, ile_t h]
theorem le_f (h : y < x) : bineq P .leq t (.nu .i64 x) (.nu .i64 y) = some (.bo false) := by rw [leqN, ile_f h]
theorem ge_t (h : y ≤ x) : bineq P .geq t (.nu .i64 x) (.nu .i64 y) = some (.bo true) := by rw [geqN, ile_t h]
theorem ge_f (h : x < y) : bineq P .geq t (.nu .i64 x) (.nu .i64 y) = some (.bo false) := by rw [geqN, ile_f h]
theorem eq_t (h : x = y) : bineq P .eql t (.nu .i64 x) (.nu .i64 y) = some (.bo true) := by rw [eqln, ieq_t h]
theorem eq_f (h : x ≠ y) : bineq P .eql t (.nu .i64 x) (.nu .i64 y) = some (.bo false) := by rw [eqln, ieq_f h]
theorem ne_t (h : x ≠ y) : bineq P .neq t (.nu .i64 x) (.nu .i64 y) = some (.bo true) := by
  show some (CV.bo (!(ieq x y))) = _
  rw [ieq_f h]; rfl
theorem ne_f (h : x = y) : bineq P .neq t (.nu .i64 x) (.nu .i64 y) = some (.bo false) := by
  show some (CV.bo (!(ieq x y))) = _
  rw [ieq_t h]; rfl
end
theorem ofNat_lt {a b : Nat} (h : a < b) : Int.ofNat a < Int.ofNat b := by simpa using h
theorem ofNat_le {a b : Nat} (h : a ≤ b) : Int.ofNat a ≤ Int.ofNat b := by simpa using h
theorem ofNat_ne {a b : Nat} (h : a ≠ b) : Int.ofNat a ≠ Int.ofNat b := fun e => h (Int.ofNat.inj e)
theorem take_snoc {α : Type} {l : List α} {i : Nat} (hi : i < l.length) : l.take (i + 1) = l.take i ++ [l[i]] := by rw [List.take_succ_eq_append_getElem hi]
theorem all_snoc {α : Type} {p : α → Bool} {l : List α} {i : Nat} (hi : i < l.length) (h : (l.take i).all p = true) (hp : p l[i] = true) : (l.take (i + 1)).all p = true := by
  rw [take_snoc hi, List.all_append, h]; simp [hp]
theorem all_no {α : Type} {p : α → Bool} {l : List α} {i : Nat} (hi : i < l.length) (hp : p l[i] = false) : l.all p = false := by
  rw [List.all_eq_false]; exact ⟨_, List.getElem_mem hi, by simp [hp]⟩
theorem any_snoc {α : Type} {p : α → Bool} {l : List α} {i : Nat} (hi : i < l.length) (h : (l.take i).any p = false) (hp : p l[i] = false) : (l.take (i + 1)).any p = false := by
  rw [take_snoc hi, List.any_append, h]; simp [hp]
theorem any_yes {α : Type} {p : α → Bool} {l : List α} {i : Nat} (hi : i < l.length) (hp : p l[i] = true) : l.any p = true := List.any_eq_true.2 ⟨_, List.getElem_mem hi, hp⟩
theorem filter_t {α : Type} {p : α → Bool} {l : List α} {i : Nat} (hi : i < l.length) (hp : p l[i] = true) : (l.take (i + 1)).filter p = (l.take i).filter p ++ [l[i]] := by
  rw [take_snoc hi, List.filter_append]; simp [hp]
theorem filter_f {α : Type} {p : α → Bool} {l : List α} {i : Nat} (hi : i < l.length) (hp : p l[i] = false) : (l.take (i + 1)).filter p = (l.take i).filter p := by
  rw [take_snoc hi, List.filter_append]; simp [hp]
section
variable {K : Ctx} {h : Hp}
def hasI (a b : List Int) : Bool := b.all (inI a)
theorem len45' (H : Std K) {x : CV} {a : List Int} (r : Row h x (Ints a)) : qLen h x (tyk K.P 45) = some (.nu .i64 (.ofNat a.length)) := by
  have := len45 H r
  rwa [ints_length] at this
end
end Go.CP
namespace Go.CP
open Go.Proofs
variable [LG] [HK]
section
variable {K : Ctx} {h : Hp}
theorem filter_length_le {α : Type} (p : α → Bool) (l : List α) (i : Nat) : ((l.take i).filter p).length ≤ l.length := by
  have := List.length_filter_le p (l.take i)
  have h2 : (l.take i).length ≤ l.length := by simp; omega
  omega
theorem rwithout_ret (H : Std K) (PB : PlansB K) (ok : HpOk h) {a : List Int} (ha' : a.length < 549755813888) {k : Nat} (hk : k < 549755813888) {x : CV} (ha : Row h x (Ints a)) : Ret K 106 [x, .nu .i64 (.ofNat k)] h fun r h' => Out h.n h' 3 r (Ints (a.eraseIdx k)) := by
  have hf : K.P.funcs[106]? = some Tryz.f106 := by rw [H.hP]; exact Tryz.func106
  have step : ∀ i (hi : i < a.length), i ≠ k → (a.take (i + 1)).eraseIdx k = (a.take i).eraseIdx k ++ [a[i]] := by
    intro i hi hne
    rw [take_snoc hi]
    rcases Nat.lt_or_ge k i with hlt | hge
    · rw [List.eraseIdx_append_of_lt_length (by simp; omega)]
    · rw [List.eraseIdx_of_length_le (by simp; omega), List.eraseIdx_of_length_le (by simp; omega)]
  have step' : (hk : k < a.length) → (a.take (k + 1)).eraseIdx k = (a.take k).eraseIdx k := by
    intro hk'
    have hl : (a.take k).length = k := by simp; omega
    rw [take_snoc hk', List.eraseIdx_append_of_length_le (by omega), hl, Nat.sub_self, List.eraseIdx_of_length_le (by omega : (a.take k).length ≤ k)]
    simp
  obtain ⟨s', h', r, ok', S, hs, h5⟩ := RunQ.loopE (K := K) (f := 106) (n := 24) (c := sub1 [1, 1, 0, 1, 0, 0] (bodyOf Tryz.f106)) (s := T.set (T.set (T.set (entry 0 [x, .nu .i64 (.ofNat k)]) 4 .nils) 5 .nils) 6 (.nu .i64 0)) (h := h) (m := a.length) (b := 0)
    (I := fun i s g => HpOk g ∧ Same h.n h g ∧ s.at 0 = x ∧ s.at 1 = .nu .i64 (.ofNat k) ∧ s.at 6 = .nu .i64 (.ofNat i) ∧ s.at slot = .undef ∧ Out h.n g 3 (s.at 5) (Ints ((a.take i).eraseIdx k)))
    (E := fun s g => HpOk g ∧ Same h.n h g ∧ s.at slot = .undef ∧ Out h.n g 3 (s.at 5) (Ints (a.eraseIdx k))) ⟨ok, Same.refl _ _, rfl, rfl, rfl, rfl, .nils⟩
    (fun i s g hi ⟨okg, S, g0, g1, g6, gs, ho⟩ => by
      have ha2 := ha.mono S ok (Nat.le_refl _)
      have hlen := len45' H ha2
      obtain ⟨p, hp1, hp2⟩ := at45 H ha2 hi
      by_cases hq : i = k
      · subst hq
        exact ⟨_, _, f106_b110100_TF H.hk H.prim PB g6 g0 g1 hlen (lessN hi) (ne_f rfl) (inc (by omega)), okg, S, g0, g1, rfl, gs, by rw [step' hi]; exact ho⟩
      · have hlo : ((a.take i).eraseIdx k).length ≤ a.length := by
          have := List.length_eraseIdx_le (a.take i) k
          have h2 : (a.take i).length ≤ a.length := by simp; omega
          omega
        obtain ⟨F, B, x', h', a1, a2, a3, a4, a5⟩ := app3 H okg S.n ho a[i] (by omega)
        exact ⟨_, _, f106_b110100_TT H.hk H.prim PB g6 g0 g1 rfl hlen (lessN hi) (ne_t (ofNat_ne hq)) hp1 hp2 a1 a2 (inc (by omega)), a5, S.trans a4, g0, g1, rfl, gs, by rw [step i hi hq]; exact a3⟩)
    (fun s g ⟨okg, S, g0, g1, g6, gs, ho⟩ => by
      have hlen := len45' H (ha.mono S ok (Nat.le_refl _))
      exact ⟨_, _, f106_b110100_F H.hk H.prim PB g6 g0 hlen (lessN' (Nat.le_refl _)), okg, S, gs, by rw [List.take_length] at ho; exact ho⟩)
  exact ⟨_, h', Comes.plain hf rfl (H.memo 106 (by decide)) (H.spec 106) rfl (Runs.seq (f106_r0 H.hk) (Runs.seq (f106_r1 H.hk) (Runs.seq (Runs.seq (f106_r2 H.hk) r) (f106_b111 H.hk H.prim PB rfl)))) (.inr rfl) S.n hs rfl rfl, S, ok', h5⟩
theorem rfacets_ret (H : Std K) (PB : PlansB K) (ok : HpOk h) {a : List Int} (hne : a ≠ []) (ha' : a.length < 549755813888) {x : CV} (ha : Row h x (Ints a)) : Ret K 58 [x] h fun r h' => ∃ cs, Own h.n h' 45 r cs (facetsI a) := by
  have hf : K.P.funcs[58]? = some Tryz.f58 := by rw [H.hP]; exact Tryz.func58
  have hl0 : a.length ≠ 0 := fun e => hne (List.eq_nil_of_length_eq_zero e)
  obtain ⟨s', h', r, ok', S, hs, cs, h5⟩ := RunQ.loopE (K := K) (f := 58) (n := 23) (c := sub1 [1, 1, 0, 1, 0, 0] (bodyOf Tryz.f58)) (s := T.set (T.set (T.set (entry 0 [x]) 2 .nils) 3 .nils) 4 (.nu .i64 0)) (h := h) (m := if a.length = 1 then 0 else a.length) (b := 0)
    (I := fun i s g => HpOk g ∧ Same h.n h g ∧ s.at 0 = x ∧ s.at 4 = .nu .i64 (.ofNat i) ∧ s.at slot = .undef ∧ ∃ cs, Own h.n g 45 (s.at 3) cs ((List.range i).map a.eraseIdx))
    (E := fun s g => HpOk g ∧ Same h.n h g ∧ s.at slot = .undef ∧ ∃ cs, Own h.n g 45 (s.at 3) cs (facetsI a)) ⟨ok, Same.refl _ _, rfl, rfl, rfl, [], .nil⟩
    (fun i s g hi ⟨okg, S, g0, g4, gs, cs, ho⟩ => by
      have ha2 := ha.mono S ok (Nat.le_refl _)
      have hlen := len45' H ha2
      have h1 : a.length ≠ 1 := by intro e; rw [if_pos e] at hi; omega
      rw [if_neg h1] at hi
      obtain ⟨y, g1, c1, S1, ok1, o1⟩ := rwithout_ret H PB okg ha' (k := i) (by omega) ha2
      have hcl : cs.length = i := by have := ho.rows.length; simpa using this
      have hO1 : Own h.n g1 45 (s.at 3) cs ((List.range i).map a.eraseIdx) := ho.mono S1 okg
      obtain ⟨F, B, x', h', a1, a2, a3, a4, a5⟩ := hO1.app (P := K.P) (t := 26) (a := a.eraseIdx i) (by rw [H.hP]; exact t26) ok1 (Nat.le_trans S.n S1.n) (Row.off ho.out (Nat.le_refl _) o1) (by decide) (by omega)
      refine ⟨_, _, f58_b110100_tT H.hk H.prim PB g0 g4 rfl hlen (gt_t (by show (1 : Int) < Int.ofNat a.length; simp; omega)) (lessN hi) rfl c1 a1 a2 (inc (by omega)), a5, S.trans ((S1.le S.n).trans a4), g0, rfl, gs, _, by rw [List.range_succ, List.map_append]; exact a3⟩)
    (fun s g ⟨okg, S, g0, g4, gs, cs, ho⟩ => by
      have hlen := len45' H (ha.mono S ok (Nat.le_refl _))
      by_cases h1 : a.length = 1
      · rw [if_pos h1] at g4 ho
        exact ⟨_, _, f58_b110100_fF H.hk H.prim PB g0 hlen (gt_f (by rw [h1]; decide)) rfl, okg, S, gs, cs, by rw [facetsI, if_pos h1]; exact ho⟩
      · rw [if_neg h1] at g4 ho
        exact ⟨_, _, f58_b110100_tF H.hk H.prim PB g0 g4 hlen (gt_t (by show (1 : Int) < Int.ofNat a.length; simp; omega)) (lessN' (Nat.le_refl _)) rfl, okg, S, gs, cs, by rw [facetsI, if_neg h1]; exact ho⟩)
  exact ⟨_, h', Comes.plain hf rfl (H.memo 58 (by decide)) (H.spec 58) rfl (Runs.seq (f58_r0 H.hk) (Runs.seq (f58_r1 H.hk) (Runs.seq (Runs.seq (f58_r2 H.hk) r) (f58_b111 H.hk H.prim PB rfl)))) (.inr rfl) S.n hs rfl rfl, S, ok', cs, h5⟩
end
end Go.CP
namespace Go.CP
open Go.Proofs
variable [LG] [HK]
def badV (v : Int) : Bool := decide (v < 0) || decide (64 ≤ v)
def ascB (a : List Int) : Bool := (List.range (a.length - 1)).all fun i => decide (a.getD i 0 < a.getD (i + 1) 0)
def verS (a : List Int) : Int := if a = [] then 1 else if 5 < a.length then 3 else if a.any badV then 1 else 0
def errS (a : List Int) : Int := if verS a ≠ 0 then verS a else if ascB a then 0 else 6
theorem ascB_iff (a : List Int) : ascB a = true ↔ a.Pairwise (· < ·) := by
  constructor
  · intro h
    have h1 : ∀ i (hi : i + 1 < a.length), a[i] < a[i + 1] := by
      intro i hi
      have := List.all_eq_true.1 h i (List.mem_range.2 (by omega))
      simpa [List.getD_eq_getElem?_getD, List.getElem?_eq_getElem (show i < a.length by omega), List.getElem?_eq_getElem hi] using this
    rw [List.pairwise_iff_getElem]
    intro i j hi hj hij
    obtain ⟨d, rfl⟩ : ∃ d, j = i + 1 + d := ⟨j - (i + 1), by omega⟩
    clear hij
    induction d with
    | zero => exact h1 i hj
    | succ d ih =>
      have e := ih (by omega)
      have e2 := h1 (i + 1 + d) (by omega)
      have : a[i + 1 + (d + 1)] = a[i + 1 + d + 1] := rfl
      omega
  · intro h
    refine List.all_eq_true.2 fun i hi => ?_
    have hi' := List.mem_range.1 hi
    have := List.pairwise_iff_getElem.1 h i (i + 1) (by omega) (by omega) (by omega)
    simpa [List.getD_eq_getElem?_getD, List.getElem?_eq_getElem (show i < a.length by omega), List.getElem?_eq_getElem (show i + 1 < a.length by omega)] using this
theorem badV_f {v : Int} : badV v = false ↔ 0 ≤ v ∧ v < 64 := by simp [badV]
theorem verS_zero {a : List Int} : verS a = 0 ↔ a ≠ [] ∧ a.length ≤ 5 ∧ ∀ v ∈ a, 0 ≤ v ∧ v < 64 := by
  unfold verS
  by_cases h1 : a = []
  · simp [h1]
  rw [if_neg h1]
  by_cases h2 : 5 < a.length
  · rw [if_pos h2]; constructor
    · intro h; exact absurd h (by decide)
    · rintro ⟨_, h, _⟩; omega
  rw [if_neg h2]
  cases h3 : a.any badV with
  | true =>
    rw [if_pos rfl]; constructor
    · intro h; exact absurd h (by decide)
    · rintro ⟨_, _, h⟩
      obtain ⟨v, hv, hb⟩ := List.any_eq_true.1 h3
      rw [badV_f.2 (h v hv)] at hb; cases hb
  | false =>
    rw [if_neg (by simp)]
    refine ⟨fun _ => ⟨h1, by omega, fun v hv => ?_⟩, fun _ => rfl⟩
    exact badV_f.1 (by simpa using List.any_eq_false.1 h3 v hv)
theorem errS_zero {a : List Int} : errS a = 0 ↔ OkS a := by
  unfold errS
  by_cases h : verS a = 0
  · rw [if_neg (by simp [h])]
    obtain ⟨h1, h2, h3⟩ := verS_zero.1 h
    cases hs : ascB a with
    | true => exact ⟨fun _ => ⟨h1, h2, h3, (ascB_iff a).1 hs⟩, fun _ => rfl⟩
    | false =>
      refine ⟨fun e => absurd e (by decide), fun o => ?_⟩
      rw [(ascB_iff a).2 o.asc] at hs; cases hs
  · rw [if_pos h]
    exact ⟨fun e => absurd e h, fun o => absurd (verS_zero.2 ⟨o.ne, o.le, o.rng⟩) h⟩
section
variable {K : Ctx} {h : Hp}
theorem vert1_gen (H : Std K) (v : Int) : Comes K 139 [.nu .i64 v] h (.bo (badV v)) h := by
  have hf : K.P.funcs[139]? = some Tryz.f139 := by rw [H.hP]; exact Tryz.func139
  by_cases h0 : v < 0
  · have : badV v = true := by simp [badV, h0]
    rw [this]
    exact Comes.plain hf rfl (H.memo 139 (by decide)) (H.spec 139) rfl (f139_b_t H.hk H.prim H.pl (s := entry 0 [.nu .i64 v]) rfl (lt_t h0) rfl) (.inr rfl) (Nat.le_refl _) rfl rfl rfl
  · have o7 := geqN (P := K.P) (t := 3) v 64
    have : badV v = ile 64 v := by simp [badV, h0, ile_eq]
    rw [this]
    exact Comes.plain hf rfl (H.memo 139 (by decide)) (H.spec 139) rfl (f139_b_f H.hk H.prim H.pl (s := entry 0 [.nu .i64 v]) rfl (lt_f (by omega)) o7 rfl) (.inr rfl) (Nat.le_refl _) rfl rfl rfl
theorem idxG_comes (H : Std K) {a : List Int} {G : FuncId} {C : List CV} {p : Int → Bool} (hbig : a.length < 4611686018427387904) {x : CV} (ha : Row h x (Ints a)) (hg : ∀ v ∈ a, Comes K G ([.nu .i64 v] ++ C) h (.bo (p v)) h) : ∃ n, Comes K 166 [x, .fn G C] h (.nu .i64 n) h ∧ ile 0 n = a.any p := by
  have hf : K.P.funcs[166]? = some Tryz.f166 := by rw [H.hP]; exact Tryz.func166
  have hlen := len45' H ha
  obtain ⟨s1, r1, k0, k1, k7, k8, ks⟩ : ∃ s1, Runs K 166 19 none (sub1 [1, 0, 0] (bodyOf Tryz.f166)) (T.set (entry 0 [x, .fn G C]) 4 (.nu .i64 0)) h .normal s1 h ∧ s1.at 0 = x ∧ s1.at 1 = .fn G C ∧ s1.at 7 = .nu .i64 (.ofNat a.length) ∧ s1.at 8 = .nu .i64 (.ofNat 0) ∧ s1.at slot = .undef := ⟨_, f166_r1 H.hk rfl hlen, rfl, rfl, rfl, rfl, rfl⟩
  have L := RunQ.loopB (K := K) (f := 166) (n := 19) (c := sub1 [1, 0, 1, 0, 0] (bodyOf Tryz.f166)) (s := s1) (h := h) (m := a.length) (b := 0) (I := fun i s g => g = h ∧ s.at 0 = x ∧ s.at 1 = .fn G C ∧ s.at 7 = .nu .i64 (.ofNat a.length) ∧ s.at 8 = .nu .i64 (.ofNat i) ∧ s.at slot = .undef ∧ (a.take i).any p = false)
    (E := fun s g => g = h ∧ s.at slot = .undef ∧ a.any p = false) (R := fun s g => g = h ∧ s.at slot = .undef ∧ a.any p = true ∧ ∃ j : Nat, s.at 4 = .nu .i64 (.ofNat j)) ⟨rfl, k0, k1, k7, k8, ks, rfl⟩
    (fun i s g hi ⟨e, g0, g1, g7, g8, gs, hall⟩ => by
      subst e
      obtain ⟨q, hp1, hp2⟩ := at45 H ha hi
      have hin := hg a[i] (List.getElem_mem hi)
      cases hq : p a[i] with
      | false =>
        rw [hq] at hin
        exact .inl ⟨_, _, f166_b10100_TF H.hk H.prim H.pl g8 g7 g1 g0 (lessN hi) hp1 hp2 rfl hin (inc (by omega)), rfl, g0, g1, g7, rfl, gs, any_snoc hi hall hq⟩
      | true =>
        rw [hq] at hin
        exact .inr (.inl ⟨_, _, f166_b10100_TT H.hk H.prim H.pl g8 g7 g1 g0 (lessN hi) hp1 hp2 rfl hin, rfl, gs, any_yes hi hq, i, rfl⟩))
    (fun s g ⟨e, g0, g1, g7, g8, gs, hall⟩ => by
      subst e
      exact ⟨_, _, f166_b10100_F H.hk H.prim H.pl g8 g7 (lessN' (Nat.le_refl _)), rfl, gs, by rw [List.take_length] at hall; exact hall⟩)
  rcases L with ⟨s', h', r, rfl, hs, hv⟩ | ⟨s', h', r, rfl, hs, hv, j, hj⟩
  · rw [hv]
    exact ⟨-1, Comes.plain hf rfl (H.memo 166 (by decide)) (H.spec 166) rfl (Runs.seq (f166_r0 H.hk) (Runs.seq (Runs.seq r1 r) (f166_b11 H.hk H.prim H.pl))) (.inr rfl) (Nat.le_refl _) hs rfl rfl, rfl⟩
  · rw [hv]
    exact ⟨.ofNat j, Comes.plain hf rfl (H.memo 166 (by decide)) (H.spec 166) rfl (Runs.seq (f166_r0 H.hk) (Runs.seqX (Runs.seq r1 r) (by simp))) (.inr rfl) (Nat.le_refl _) hs (by show some [Fr.at s' 4] = _; rw [hj]) rfl, ile_t (by simp)⟩
theorem contG_comes (H : Std K) {a : List Int} {G : FuncId} {C : List CV} {p : Int → Bool} (hbig : a.length < 4611686018427387904) {x : CV} (ha : Row h x (Ints a)) (hg : ∀ v ∈ a, Comes K G ([.nu .i64 v] ++ C) h (.bo (p v)) h) : Comes K 138 [x, .fn G C] h (.bo (a.any p)) h := by
  have hf : K.P.funcs[138]? = some Tryz.f138 := by rw [H.hP]; exact Tryz.func138
  obtain ⟨n, c, hn⟩ := idxG_comes H hbig ha hg
  have o8 := geqN (P := K.P) (t := 3) n 0
  rw [hn] at o8
  exact Comes.plain hf rfl (H.memo 138 (by decide)) (H.spec 138) rfl (f138_b H.hk H.prim H.pl (s := entry 0 [x, .fn G C]) rfl rfl c o8) (.inr rfl) (Nat.le_refl _) rfl rfl rfl
theorem vertices_gen (H : Std K) {a : List Int} (hbig : a.length < 4611686018427387904) {x : CV} (ha : Row h x (Ints a)) : Comes K 110 [x] h (.nu .i64 (verS a)) h := by
  have hf : K.P.funcs[110]? = some Tryz.f110 := by rw [H.hP]; exact Tryz.func110
  have hlen := len45' H ha
  unfold verS
  by_cases h1 : a = []
  · rw [if_pos h1]
    exact Comes.plain hf rfl (H.memo 110 (by decide)) (H.spec 110) rfl (f110_b_T H.hk H.prim H.pl (s := entry 0 [x]) rfl hlen (eq_t (by rw [h1]; rfl))) (.inr rfl) (Nat.le_refl _) rfl rfl rfl
  have h1' : Int.ofNat a.length ≠ 0 := by
    intro e; exact h1 (List.eq_nil_of_length_eq_zero (by simpa using e))
  rw [if_neg h1]
  by_cases h2 : 5 < a.length
  · rw [if_pos h2]
    exact Comes.plain hf rfl (H.memo 110 (by decide)) (H.spec 110) rfl (f110_b_FT H.hk H.prim H.pl (s := entry 0 [x]) rfl hlen (eq_f h1') (gt_t (by show (5 : Int) < Int.ofNat a.length; simp; omega))) (.inr rfl) (Nat.le_refl _) rfl rfl rfl
  rw [if_neg h2]
  have hle : Int.ofNat a.length ≤ 5 := by simp; omega
  have c := contG_comes H hbig ha (G := 139) (C := []) fun v _ => vert1_gen H v
  cases h3 : a.any badV with
  | true =>
    rw [h3] at c
    exact Comes.plain hf rfl (H.memo 110 (by decide)) (H.spec 110) rfl (f110_b_FFT H.hk H.prim H.pl (s := entry 0 [x]) rfl hlen (eq_f h1') (gt_f hle) c) (.inr rfl) (Nat.le_refl _) rfl rfl rfl
  | false =>
    rw [h3] at c
    exact Comes.plain hf rfl (H.memo 110 (by decide)) (H.spec 110) rfl (f110_b_FFF H.hk H.prim H.pl (s := entry 0 [x]) rfl hlen (eq_f h1') (gt_f hle) c) (.inr rfl) (Nat.le_refl _) rfl rfl rfl
theorem getD_get {a : List Int} {i : Nat} (hi : i < a.length) : a.getD i 0 = a[i] := by rw [List.getD_eq_getElem?_getD, List.getElem?_eq_getElem hi]; rfl
theorem check_gen (H : Std K) {a : List Int} (hbig : a.length < 4611686018427387904) {x : CV} (ha : Row h x (Ints a)) : Comes K 66 [x] h (.nu .i64 (errS a)) h := by
  have hf : K.P.funcs[66]? = some Tryz.f66 := by rw [H.hP]; exact Tryz.func66
  have cv := vertices_gen H hbig ha
  unfold errS
  by_cases h0 : verS a = 0
  · rw [if_neg (by simp [h0])]
    rw [h0] at cv
    obtain ⟨hne, hle, _⟩ := verS_zero.1 h0
    have hl : 1 ≤ a.length := by cases hq : a with | nil => exact absurd hq hne | cons => simp
    obtain ⟨y, hy1, hy2⟩ := cut46 H hne ha (lo := some (.nu .i64 1)) (hi := none) (i := 1) (j := a.length) rfl rfl hl (Nat.le_refl _)
    have ht : (a.drop 1).take (a.length - 1) = a.drop 1 := List.take_of_length_le (by simp)
    rw [ht] at hy2
    have hlen := len46 H hy2
    rw [ints_length, List.length_drop] at hlen
    obtain ⟨s0, r0, j0, js⟩ : ∃ s1, Runs K 66 26 none (sub1 [1, 0] (bodyOf Tryz.f66)) (T.set (entry 0 [x]) 2 (.nu .i64 0)) h .normal s1 h ∧ s1.at 0 = x ∧ s1.at slot = .undef := ⟨_, f66_b10_F H.hk H.prim H.pl rfl cv rfl, rfl, rfl⟩
    obtain ⟨s1, r1, k0, k12, k13, k14, ks⟩ : ∃ s2, Runs K 66 26 none (sub1 [1, 1, 0, 0] (bodyOf Tryz.f66)) s0 h .normal s2 h ∧ s2.at 0 = x ∧ s2.at 12 = y ∧ s2.at 13 = .nu .i64 (.ofNat (a.length - 1)) ∧ s2.at 14 = .nu .i64 (.ofNat 0) ∧ s2.at slot = .undef := ⟨_, f66_r4 H.hk j0 hy1 hlen, j0, rfl, rfl, rfl, js⟩
    have L := RunQ.loopB (K := K) (f := 66) (n := 26) (c := sub1 [1, 1, 0, 1, 0, 0] (bodyOf Tryz.f66)) (s := s1) (h := h) (m := a.length - 1) (b := 0) (I := fun i s g => g = h ∧ s.at 0 = x ∧ s.at 12 = y ∧ s.at 13 = .nu .i64 (.ofNat (a.length - 1)) ∧ s.at 14 = .nu .i64 (.ofNat i) ∧ s.at slot = .undef ∧ ((List.range (a.length - 1)).take i).all (fun i => decide (a.getD i 0 < a.getD (i + 1) 0)) = true)
      (E := fun s g => g = h ∧ s.at slot = .undef ∧ ascB a = true) (R := fun s g => g = h ∧ s.at slot = .undef ∧ ascB a = false ∧ s.at 2 = .nu .i64 6) ⟨rfl, k0, k12, k13, k14, ks, rfl⟩
      (fun i s g hi ⟨e, g0, g12, g13, g14, gs, hall⟩ => by
        subst e
        have hi1 : i < (a.drop 1).length := by simp; omega
        obtain ⟨p, hp1, hp2⟩ := at46 H ha (i := i) (by omega)
        obtain ⟨q, hq1, hq2⟩ := at46 H hy2 hi1
        have e1 : (a.drop 1)[i] = a[i + 1]'(by omega) := by rw [List.getElem_drop]; congr 1; omega
        rw [e1] at hq2
        by_cases hlt : a[i]'(by omega) < a[i + 1]'(by omega)
        · exact .inl ⟨_, _, f66_b110100_TF H.hk H.prim H.pl g14 g13 g12 g0 (lessN hi) hq1 hq2 hp1 hp2 (le_f hlt) (inc (by omega)), rfl, g0, g12, g13, rfl, gs, all_snoc (by simpa using hi) hall (by simp only [List.getElem_range, getD_get (show i < a.length by omega), getD_get (show i + 1 < a.length by omega), hlt, decide_true])⟩
        · exact .inr (.inl ⟨_, _, f66_b110100_TT H.hk H.prim H.pl g14 g13 g12 g0 (lessN hi) hq1 hq2 hp1 hp2 (le_t (by omega)), rfl, gs, all_no (i := i) (by simpa using hi) (by simp only [List.getElem_range, getD_get (show i < a.length by omega), getD_get (show i + 1 < a.length by omega), hlt, decide_false]), rfl⟩))
      (fun s g ⟨e, g0, g12, g13, g14, gs, hall⟩ => by
        subst e
        exact ⟨_, _, f66_b110100_F H.hk H.prim H.pl g14 g13 (lessN' (Nat.le_refl _)), rfl, gs, by rw [List.take_of_length_le (by simp)] at hall; exact hall⟩)
    rcases L with ⟨s', h', r, rfl, hs, hv⟩ | ⟨s', h', r, rfl, hs, hv, h2⟩
    · rw [hv]
      exact Comes.plain hf rfl (H.memo 66 (by decide)) (H.spec 66) rfl (Runs.seq (f66_r0 H.hk) (Runs.seq r0 (Runs.seq (Runs.seq r1 r) (f66_b111 H.hk H.prim H.pl)))) (.inr rfl) (Nat.le_refl _) hs rfl rfl
    · rw [hv]
      exact Comes.plain hf rfl (H.memo 66 (by decide)) (H.spec 66) rfl (Runs.seq (f66_r0 H.hk) (Runs.seq r0 (Runs.seqX (Runs.seq r1 r) (by simp)))) (.inr rfl) (Nat.le_refl _) hs (by show some [Fr.at s' 2] = _; rw [h2]) rfl
  · rw [if_pos h0]
    exact Comes.plain hf rfl (H.memo 66 (by decide)) (H.spec 66) rfl (Runs.seq (f66_r0 H.hk) (Runs.seqX (f66_b10_T H.hk H.prim H.pl rfl cv (ne_t h0)) (by simp))) (.inr rfl) (Nat.le_refl _) rfl rfl rfl
theorem facets_bad (H : Std K) {a : List Int} (hbig : a.length < 4611686018427387904) (hbad : errS a ≠ 0) {x : CV} (ha : Row h x (Ints a)) : Comes K 73 [x] h (.tup [.nils, .nu .i64 (errS a)]) h := by
  have hf : K.P.funcs[73]? = some Tryz.f73 := by rw [H.hP]; exact Tryz.func73
  exact Comes.plain hf rfl (H.memo 73 (by decide)) (H.spec 73) rfl (Runs.seq (f73_r0 H.hk) (Runs.seqX (f73_b10_tT H.hk H.prim H.pl rfl (check_gen H hbig ha) (ne_t hbad) rfl) (by simp))) (.inr rfl) (Nat.le_refl _) rfl rfl rfl
theorem rcheck_comes (H : Std K) (PB : PlansB K) {a : List Int} (hbig : a.length < 4611686018427387904) {x : CV} (ha : Row h x (Ints a)) : Comes K 57 [x] h (.nu .i64 (errS a)) h := by
  have hf : K.P.funcs[57]? = some Tryz.f57 := by rw [H.hP]; exact Tryz.func57
  have hlen := len45' H ha
  unfold errS verS
  by_cases h1 : a = []
  · rw [if_pos (by rw [if_pos h1]; decide), if_pos h1]
    exact Comes.plain hf rfl (H.memo 57 (by decide)) (H.spec 57) rfl (Runs.seq (f57_r0 H.hk) (Runs.seqX (f57_b10_T H.hk H.prim PB rfl hlen (eq_t (by rw [h1]; rfl))) (by simp))) (.inr rfl) (Nat.le_refl _) rfl rfl rfl
  have h1' : Int.ofNat a.length ≠ 0 := by
    intro e; exact h1 (List.eq_nil_of_length_eq_zero (by simpa using e))
  simp only [if_neg h1]
  by_cases h2 : 5 < a.length
  · rw [if_pos (by rw [if_pos h2]; decide), if_pos h2]
    exact Comes.plain hf rfl (H.memo 57 (by decide)) (H.spec 57) rfl (Runs.seq (f57_r0 H.hk) (Runs.seq (f57_b10_F H.hk H.prim PB rfl hlen (eq_f h1')) (Runs.seqX (f57_b110_T H.hk H.prim PB rfl hlen (gt_t (by show (5 : Int) < Int.ofNat a.length; simp; omega))) (by simp)))) (.inr rfl) (Nat.le_refl _) rfl rfl rfl
  simp only [if_neg h2]
  have hle : Int.ofNat a.length ≤ 5 := by simp; omega
  obtain ⟨sa, ra, a0, as'⟩ : ∃ s1, Runs K 57 45 none (sub1 [1, 0] (bodyOf Tryz.f57)) (T.set (entry 0 [x]) 2 (.nu .i64 0)) h .normal s1 h ∧ s1.at 0 = x ∧ s1.at slot = .undef := ⟨_, f57_b10_F H.hk H.prim PB rfl hlen (eq_f h1'), rfl, rfl⟩
  obtain ⟨sb, rb, b0, bs'⟩ : ∃ s1, Runs K 57 45 none (sub1 [1, 1, 0] (bodyOf Tryz.f57)) sa h .normal s1 h ∧ s1.at 0 = x ∧ s1.at slot = .undef := ⟨_, f57_b110_F H.hk H.prim PB a0 hlen (gt_f hle), a0, as'⟩
  obtain ⟨s1, r1, k0, k3, ks⟩ : ∃ s1, Runs K 57 45 none (sub1 [1, 1, 1, 0, 0] (bodyOf Tryz.f57)) sb h .normal s1 h ∧ s1.at 0 = x ∧ s1.at 3 = .nu .i64 (.ofNat 0) ∧ s1.at slot = .undef := ⟨_, f57_r5 H.hk, b0, rfl, bs'⟩
  have L := RunQ.loopB (K := K) (f := 57) (n := 45) (c := sub1 [1, 1, 1, 0, 1, 0, 0] (bodyOf Tryz.f57)) (s := s1) (h := h) (m := a.length) (b := 0) (I := fun i s g => g = h ∧ s.at 0 = x ∧ s.at 3 = .nu .i64 (.ofNat i) ∧ s.at slot = .undef ∧ (a.take i).any badV = false)
    (E := fun s g => g = h ∧ s.at 0 = x ∧ s.at slot = .undef ∧ a.any badV = false) (R := fun s g => g = h ∧ s.at slot = .undef ∧ a.any badV = true ∧ s.at 2 = .nu .i64 1) ⟨rfl, k0, k3, ks, rfl⟩
    (fun i s g hi ⟨e, g0, g3, gs, hall⟩ => by
      subst e
      obtain ⟨p, hp1, hp2⟩ := at45 H ha hi
      by_cases hq : a[i] < 0
      · exact .inr (.inl ⟨_, _, f57_b1110100_TtT H.hk H.prim PB g3 g0 hlen (lessN hi) hp1 hp2 (lt_t hq) rfl, rfl, gs, any_yes hi (by simp [badV, hq]), rfl⟩)
      · by_cases hq2 : 64 ≤ a[i]
        · exact .inr (.inl ⟨_, _, f57_b1110100_TfT H.hk H.prim PB g3 g0 hlen (lessN hi) hp1 hp2 (lt_f (by omega)) (ge_t hq2) rfl, rfl, gs, any_yes hi (by simp [badV, hq2]), rfl⟩)
        · exact .inl ⟨_, _, f57_b1110100_TfF H.hk H.prim PB g3 g0 hlen (lessN hi) hp1 hp2 (lt_f (by omega)) (ge_f (by omega)) rfl (inc (by omega)), rfl, g0, rfl, gs, any_snoc hi hall (by simp [badV]; omega)⟩)
    (fun s g ⟨e, g0, g3, gs, hall⟩ => by
      subst e
      exact ⟨_, _, f57_b1110100_F H.hk H.prim PB g3 g0 hlen (lessN' (Nat.le_refl _)), rfl, g0, gs, by rw [List.take_length] at hall; exact hall⟩)
  rcases L with ⟨s', h', r, rfl, q0, hs, hv⟩ | ⟨s', h', r, rfl, hs, hv, hr2⟩
  · rw [hv]
    simp only [Bool.false_eq_true, if_false, ne_eq, not_true_eq_false]
    have L2 := RunQ.loopB (K := K) (f := 57) (n := 45) (c := sub1 [1, 1, 1, 1, 0, 1, 0, 0] (bodyOf Tryz.f57)) (s := T.set s' 4 (.nu .i64 1)) (h := h') (m := a.length - 1) (b := 2) (I := fun i s g => g = h' ∧ s.at 0 = x ∧ s.at 4 = .nu .i64 (.ofNat (i + 1)) ∧ s.at slot = .undef ∧ ((List.range (a.length - 1)).take i).all (fun i => decide (a.getD i 0 < a.getD (i + 1) 0)) = true)
      (E := fun s g => g = h' ∧ s.at slot = .undef ∧ ascB a = true) (R := fun s g => g = h' ∧ s.at slot = .undef ∧ ascB a = false ∧ s.at 2 = .nu .i64 6) ⟨rfl, q0, rfl, hs, rfl⟩
      (fun i s g hi ⟨e, g0, g4, gs, hall⟩ => by
        subst e
        obtain ⟨p, hp1, hp2⟩ := at45 H ha (i := i) (by omega)
        obtain ⟨q, hq1, hq2⟩ := at45 H ha (i := i + 1) (by omega)
        by_cases hlt : a[i]'(by omega) < a[i + 1]'(by omega)
        · exact .inl ⟨_, _, f57_b11110100_TF H.hk H.prim PB g4 g0 hlen (lessN (by omega)) hq1 hq2 (ceq_nu _) (dec (by omega)) hp1 hp2 (le_f hlt) (inc (by omega)), rfl, g0, rfl, gs, all_snoc (by simpa using hi) hall (by simp only [List.getElem_range, getD_get (show i < a.length by omega), getD_get (show i + 1 < a.length by omega), hlt, decide_true])⟩
        · exact .inr (.inl ⟨_, _, f57_b11110100_TT H.hk H.prim PB g4 g0 hlen (lessN (by omega)) hq1 hq2 (ceq_nu _) (dec (by omega)) hp1 hp2 (le_t (by omega)), rfl, gs, all_no (i := i) (by simpa using hi) (by simp only [List.getElem_range, getD_get (show i < a.length by omega), getD_get (show i + 1 < a.length by omega), hlt, decide_false]), rfl⟩))
      (fun s g ⟨e, g0, g4, gs, hall⟩ => by
        subst e
        have hl : a.length ≠ 0 := fun e => h1 (List.eq_nil_of_length_eq_zero e)
        exact ⟨_, _, f57_b11110100_F H.hk H.prim PB g4 g0 hlen (lessN' (by omega)), rfl, gs, by rw [List.take_of_length_le (by simp)] at hall; exact hall⟩)
    rcases L2 with ⟨s2, h2', r2, rfl, hs2, hv2⟩ | ⟨s2, h2', r2, rfl, hs2, hv2, h22⟩
    · rw [hv2]
      exact Comes.plain hf rfl (H.memo 57 (by decide)) (H.spec 57) rfl (Runs.seq (f57_r0 H.hk) (Runs.seq ra (Runs.seq rb (Runs.seq (Runs.seq r1 r) (Runs.seq (Runs.seq (f57_r10 H.hk) r2) (f57_b11111 H.hk H.prim PB)))))) (.inr rfl) (Nat.le_refl _) hs2 rfl rfl
    · rw [hv2]
      exact Comes.plain hf rfl (H.memo 57 (by decide)) (H.spec 57) rfl (Runs.seq (f57_r0 H.hk) (Runs.seq ra (Runs.seq rb (Runs.seq (Runs.seq r1 r) (Runs.seqX (Runs.seq (f57_r10 H.hk) r2) (by simp)))))) (.inr rfl) (Nat.le_refl _) hs2 (by show some [Fr.at s2 2] = _; rw [h22]) rfl
  · rw [hv]
    simp only [if_true]
    exact Comes.plain hf rfl (H.memo 57 (by decide)) (H.spec 57) rfl (Runs.seq (f57_r0 H.hk) (Runs.seq ra (Runs.seq rb (Runs.seqX (Runs.seq r1 r) (by simp))))) (.inr rfl) (Nat.le_refl _) hs (by show some [Fr.at s' 2] = _; rw [hr2]) rfl
end
end Go.CP
namespace Go.CP
open Go.Proofs
variable [LG] [HK]
structure Sml (l : List (List Int)) : Prop where
  len : l.length < 549755813888
  each : ∀ a ∈ l, a.length < 549755813888
section
variable {K : Ctx} {h : Hp}
def longI (l : List (List Int)) (n : Int) : Bool := decide (n < Int.ofNat l.length) || l.any fun a => decide (12 < a.length)
theorem long_comes (H : Std K) (PB : PlansB K) {l : List (List Int)} {n : Int} (hn : n < 4611686018427387904) {x : CV} {cs : List CV} (hx : Row h x cs) (hxs : Rows h cs l) : Comes K 13 [x, .nu .i64 n] h (.bo (longI l n)) h := by
  have hf : K.P.funcs[13]? = some Tryz.f13 := by rw [H.hP]; exact Tryz.func13
  have hlen := len22 H hx
  have hcl := hxs.length
  rw [hcl] at hlen
  unfold longI
  by_cases h1 : n < Int.ofNat l.length
  · simp only [h1, decide_true, Bool.true_or]
    exact Comes.plain hf rfl (H.memo 13 (by decide)) (H.spec 13) rfl (Runs.seq (f13_r0 H.hk) (Runs.seqX (f13_b10_T H.hk H.prim PB rfl rfl hlen (gt_t h1)) (by simp))) (.inr rfl) (Nat.le_refl _) rfl rfl rfl
  simp only [h1, decide_false, Bool.false_or]
  have hl : l.length < 4611686018427387904 := by simp at h1; omega
  obtain ⟨sa, ra, a0, as'⟩ : ∃ s1, Runs K 13 21 none (sub1 [1, 0] (bodyOf Tryz.f13)) (T.set (entry 0 [x, .nu .i64 n]) 4 (.bo false)) h .normal s1 h ∧ s1.at 0 = x ∧ s1.at slot = .undef := ⟨_, f13_b10_F H.hk H.prim PB rfl rfl hlen (gt_f (by omega)), rfl, rfl⟩
  obtain ⟨s1, r1, k11, k12, k13, ks⟩ : ∃ s1, Runs K 13 21 none (sub1 [1, 1, 0, 0] (bodyOf Tryz.f13)) sa h .normal s1 h ∧ s1.at 11 = x ∧ s1.at 12 = .nu .i64 (.ofNat l.length) ∧ s1.at 13 = .nu .i64 (.ofNat 0) ∧ s1.at slot = .undef := ⟨_, f13_r3 H.hk a0 hlen, rfl, rfl, rfl, as'⟩
  have L := RunQ.loopB (K := K) (f := 13) (n := 21) (c := sub1 [1, 1, 0, 1, 0, 0] (bodyOf Tryz.f13)) (s := s1) (h := h) (m := l.length) (b := 0) (I := fun i s g => g = h ∧ s.at 11 = x ∧ s.at 12 = .nu .i64 (.ofNat l.length) ∧ s.at 13 = .nu .i64 (.ofNat i) ∧ s.at slot = .undef ∧ (l.take i).any (fun a => decide (12 < a.length)) = false)
    (E := fun s g => g = h ∧ s.at slot = .undef ∧ l.any (fun a => decide (12 < a.length)) = false) (R := fun s g => g = h ∧ s.at slot = .undef ∧ l.any (fun a => decide (12 < a.length)) = true ∧ s.at 4 = .bo true) ⟨rfl, k11, k12, k13, ks, rfl⟩
    (fun i s g hi ⟨e, g11, g12, g13, gs, hall⟩ => by
      subst e
      obtain ⟨p, hp1, hp2⟩ := at22 H hx (i := i) (by omega)
      have hr := hxs.get (i := i) (by omega) hi
      have hln := len46 H hr
      rw [ints_length] at hln
      by_cases hq : 12 < l[i].length
      · exact .inr (.inl ⟨_, _, f13_b110100_TT H.hk H.prim PB g13 g12 g11 (lessN hi) hp1 hp2 hln (gt_t (by show (12 : Int) < Int.ofNat _; simp; omega)), rfl, gs, any_yes hi (by simpa using hq), rfl⟩)
      · exact .inl ⟨_, _, f13_b110100_TF H.hk H.prim PB g13 g12 g11 (lessN hi) hp1 hp2 hln (gt_f (by simp; omega)) (inc (by omega)), rfl, g11, g12, rfl, gs, any_snoc hi hall (by simpa using hq)⟩)
    (fun s g ⟨e, g11, g12, g13, gs, hall⟩ => by
      subst e
      exact ⟨_, _, f13_b110100_F H.hk H.prim PB g13 g12 (lessN' (Nat.le_refl _)), rfl, gs, by rw [List.take_length] at hall; exact hall⟩)
  rcases L with ⟨s', h', r, rfl, hs, hv⟩ | ⟨s', h', r, rfl, hs, hv, h4⟩
  · rw [hv]
    exact Comes.plain hf rfl (H.memo 13 (by decide)) (H.spec 13) rfl (Runs.seq (f13_r0 H.hk) (Runs.seq ra (Runs.seq (Runs.seq r1 r) (f13_b111 H.hk H.prim PB)))) (.inr rfl) (Nat.le_refl _) hs rfl rfl
  · rw [hv]
    exact Comes.plain hf rfl (H.memo 13 (by decide)) (H.spec 13) rfl (Runs.seq (f13_r0 H.hk) (Runs.seq ra (Runs.seqX (Runs.seq r1 r) (by simp)))) (.inr rfl) (Nat.le_refl _) hs (by show some [Fr.at s' 4] = _; rw [h4]) rfl
def sameI (l m : List (List Int)) : Bool := decide (l.length = m.length) && (List.range l.length).all fun i => decide (l.getD i [] = m.getD i [])
theorem sameI_iff {l m : List (List Int)} : sameI l m = true ↔ l = m := by
  constructor
  · intro h
    unfold sameI at h
    rw [Bool.and_eq_true, decide_eq_true_iff] at h
    refine List.ext_getElem h.1 fun i h1 h2 => ?_
    have := List.all_eq_true.1 h.2 i (List.mem_range.2 h1)
    simpa [List.getD_eq_getElem?_getD, List.getElem?_eq_getElem h1, List.getElem?_eq_getElem h2] using this
  · rintro rfl
    unfold sameI
    simp
theorem getL {l : List (List Int)} {i : Nat} (hi : i < l.length) : l.getD i [] = l[i] := by rw [List.getD_eq_getElem?_getD, List.getElem?_eq_getElem hi]; rfl
theorem same_comes (H : Std K) (PB : PlansB K) {l m : List (List Int)} (hl : l.length < 4611686018427387904) (hm : ∀ a ∈ l, a.length < 4611686018427387904) {x y : CV} {cs ds : List CV} (hx : Row h x cs) (hxs : Rows h cs l) (hy : Row h y ds) (hys : Rows h ds m) : Comes K 23 [x, y] h (.bo (sameI l m)) h := by
  have hf : K.P.funcs[23]? = some Tryz.f23 := by rw [H.hP]; exact Tryz.func23
  have hlen := len22 H hx
  have hlem := len26 H hy
  have hcl := hxs.length
  have hcm := hys.length
  rw [hcl] at hlen
  rw [hcm] at hlem
  unfold sameI
  by_cases h1 : l.length ≠ m.length
  · simp only [h1, decide_false, Bool.false_and]
    exact Comes.plain hf rfl (H.memo 23 (by decide)) (H.spec 23) rfl (Runs.seq (f23_r0 H.hk) (Runs.seqX (f23_b10_T H.hk H.prim PB rfl rfl hlen hlem (ne_t (ofNat_ne h1))) (by simp))) (.inr rfl) (Nat.le_refl _) rfl rfl rfl
  replace h1 : l.length = m.length := Decidable.not_not.1 h1
  simp only [h1, decide_true, Bool.true_and]
  obtain ⟨sa, ra, a0, a1, as'⟩ : ∃ s1, Runs K 23 27 none (sub1 [1, 0] (bodyOf Tryz.f23)) (T.set (entry 0 [x, y]) 4 (.bo false)) h .normal s1 h ∧ s1.at 0 = x ∧ s1.at 1 = y ∧ s1.at slot = .undef := ⟨_, f23_b10_F H.hk H.prim PB rfl rfl hlen hlem (ne_f (by rw [h1])), rfl, rfl, rfl⟩
  have L := RunQ.loopB (K := K) (f := 23) (n := 27) (c := sub1 [1, 1, 0, 1, 0, 0] (bodyOf Tryz.f23)) (s := T.set sa 5 (.nu .i64 0)) (h := h) (m := m.length) (b := 0) (I := fun i s g => g = h ∧ s.at 0 = x ∧ s.at 1 = y ∧ s.at 5 = .nu .i64 (.ofNat i) ∧ s.at slot = .undef ∧ ((List.range m.length).take i).all (fun i => decide (l.getD i [] = m.getD i [])) = true)
    (E := fun s g => g = h ∧ s.at slot = .undef ∧ (List.range m.length).all (fun i => decide (l.getD i [] = m.getD i [])) = true) (R := fun s g => g = h ∧ s.at slot = .undef ∧ (List.range m.length).all (fun i => decide (l.getD i [] = m.getD i [])) = false ∧ s.at 4 = .bo false) ⟨rfl, a0, a1, rfl, as', rfl⟩
    (fun i s g hi ⟨e, g0, g1, g5, gs, hall⟩ => by
      subst e
      obtain ⟨p, hp1, hp2⟩ := at22 H hx (i := i) (by omega)
      obtain ⟨q, hq1, hq2⟩ := at26 H hy (i := i) (by omega)
      have hr := hxs.get (i := i) (by omega) (by omega)
      have hr' := hys.get (i := i) (by omega) (by omega)
      have c := cmp_comes H (hm l[i] (List.getElem_mem (by omega))) hr hr'
      by_cases hq : l[i]'(by omega) = m[i]
      · exact .inl ⟨_, _, f23_b110100_TF H.hk H.prim PB g5 g0 g1 hlen (lessN (by omega)) hp1 hp2 hr.ceq hq1 hq2 c (ne_f ((cmpI_zero _ _).2 hq)) (inc (by omega)), rfl, g0, g1, rfl, gs, all_snoc (by simpa using hi) hall (by simp only [List.getElem_range, getL (show i < l.length by omega), getL hi, hq, decide_true])⟩
      · exact .inr (.inl ⟨_, _, f23_b110100_TT H.hk H.prim PB g5 g0 g1 hlen (lessN (by omega)) hp1 hp2 hr.ceq hq1 hq2 c (ne_t fun e => hq ((cmpI_zero _ _).1 e)), rfl, gs, all_no (i := i) (by simpa using hi) (by simp only [List.getElem_range, getL (show i < l.length by omega), getL hi, hq, decide_false]), rfl⟩))
    (fun s g ⟨e, g0, g1, g5, gs, hall⟩ => by
      subst e
      exact ⟨_, _, f23_b110100_F H.hk H.prim PB g5 g0 hlen (lessN' (by omega)), rfl, gs, by rw [List.take_of_length_le (by simp)] at hall; exact hall⟩)
  rcases L with ⟨s', h', r, rfl, hs, hv⟩ | ⟨s', h', r, rfl, hs, hv, h4⟩
  · rw [hv]
    exact Comes.plain hf rfl (H.memo 23 (by decide)) (H.spec 23) rfl (Runs.seq (f23_r0 H.hk) (Runs.seq ra (Runs.seq (Runs.seq (f23_r3 H.hk) r) (f23_b111 H.hk H.prim PB)))) (.inr rfl) (Nat.le_refl _) hs rfl rfl
  · rw [hv]
    exact Comes.plain hf rfl (H.memo 23 (by decide)) (H.spec 23) rfl (Runs.seq (f23_r0 H.hk) (Runs.seq ra (Runs.seqX (Runs.seq (f23_r3 H.hk) r) (by simp)))) (.inr rfl) (Nat.le_refl _) hs (by show some [Fr.at s' 4] = _; rw [h4]) rfl
def Sel (h : Hp) (h' : Hp) (r : CV) (l : List (List Int)) : Prop := ∃ cs, Out h.n h' 45 r cs ∧ Rows h cs l
def cofI (l : List (List Int)) (b : List Int) : List (List Int) := l.filter fun a => hasI a b
def skelP (d : Int) (a : List Int) : Bool := decide (Int.ofNat a.length - 1 ≤ d)
end
end Go.CP
namespace Go.CP
open Go.Proofs
variable [LG] [HK]
theorem Row.offN {N M : Nat} {h h1 : Hp} {el el' : Nat} {x y : CV} {cs ys : List CV} (o : Out N h el x cs) (hM : h.n ≤ M) (r : New M h1 el' y ys) : Row (wipe h1 x) y ys := by
  cases r with
  | emp => exact .none _ _ _
  | out r => exact Row.off o hM r
section
variable {K : Ctx} {h : Hp}
theorem new45 (H : Std K) {N : Nat} {h : Hp} {x y : CV} {a b : List Int} {t' : Nat} (ht' : ∃ e' b' z', tyk K.P t' = .slice e' 1 b' z') (ok : HpOk h) (hN : N ≤ h.n) (r : New N h 3 x (Ints a)) (hy : Row h y (Ints b)) (hb : a.length + b.length < 1099511627776) : ∃ x' h', wApp h x y (tyk K.P 45) (tyk K.P t') = some (x', h') ∧ New N h' 3 x' (Ints (a ++ b)) ∧ Same N h h' ∧ HpOk h' := by
  obtain ⟨x', h', h1, h2, h3, h4⟩ := r.app (z := [.nu .i64 0]) (t' := tyk K.P t') (bytes := 8) ok hN hy (ints_one b) rfl ht' (by simp only [ints_length]; omega) (by simp only [ints_length]; omega)
  refine ⟨x', h', by rw [← h1, H.hP, t45], ?_, h3, h4⟩
  have : Ints (a ++ b) = Ints a ++ Ints b := by simp [Ints]
  rw [this]; exact h2
theorem plain_ret (H : Std K) (ok : HpOk h) {l : List (List Int)} (hl : Sml l) {x : CV} {cs : List CV} (hx : Row h x cs) (hxs : Rows h cs l) : Ret K 16 [x] h fun r h' => ∃ cs', Own h.n h' 45 r cs' l := by
  have hf : K.P.funcs[16]? = some Tryz.f16 := by rw [H.hP]; exact Tryz.func16
  have hcl := hxs.length
  obtain ⟨s', h', r, ok', S, hs, cs', ho⟩ := RunQ.loopE (K := K) (f := 16) (n := 21) (c := sub1 [1, 1, 0, 1, 0, 0] (bodyOf Tryz.f16)) (s := T.set (T.set (T.set (entry 0 [x]) 2 .nils) 3 .nils) 4 (.nu .i64 0)) (h := h) (m := l.length) (b := 0)
    (I := fun i s g => HpOk g ∧ Same h.n h g ∧ s.at 0 = x ∧ s.at 4 = .nu .i64 (.ofNat i) ∧ s.at slot = .undef ∧ ∃ cs', Own h.n g 45 (s.at 3) cs' (l.take i))
    (E := fun s g => HpOk g ∧ Same h.n h g ∧ s.at slot = .undef ∧ ∃ cs', Own h.n g 45 (s.at 3) cs' l) ⟨ok, Same.refl _ _, rfl, rfl, rfl, [], Own.nil⟩
    (fun i s g hi ⟨okg, S, g0, g4, gs, cs', ho⟩ => by
      have hr := hx.mono S ok (Nat.le_refl _)
      have hlen := len22 H hr
      rw [hcl] at hlen
      have hxi := (hxs.mono S ok (Nat.le_refl _)).get (i := i) (by omega) hi
      have hbig := hl.each l[i] (List.getElem_mem hi)
      obtain ⟨F, B, e1, e2⟩ := new_emp (P := K.P) (t := 45) (h := g) (by rw [H.hP]; exact t45)
      have Sp : Same g.n g (g.push B) := Same.push (Nat.le_refl _) B
      obtain ⟨y, h1, a1, a2, a3, a4⟩ := new45 (t' := 46) H (a := []) (b := l[i]) ⟨_, _, _, by rw [H.hP]; exact t46⟩ (okg.push B) Sp.n e2 (hxi.mono Sp okg (Nat.le_refl _)) (by simp; omega)
      rw [List.nil_append] at a2
      have S1 : Same g.n g h1 := Sp.trans a3
      obtain ⟨p, hp1, hp2⟩ := at22 H (hr.mono Sp okg (Nat.le_refl _)) (i := i) (by omega)
      have hol := ho.rows.length
      rw [List.length_take] at hol
      have hll := hl.len
      obtain ⟨F2, B2, x', h2, b1, b2, b3, b4, b5⟩ := Own.app (P := K.P) (t := 26) (by rw [H.hP]; exact t26) a4 (S.trans (S1.le S.n)).n (ho.mono S1 okg) (Row.offN ho.out (Nat.le_refl _) a2) (by decide) (by omega)
      exact ⟨_, _, f16_b110100_T H.hk H.prim H.pl g4 g0 rfl hlen (lessN hi) e1 hp1 hp2 a1 b1 b2 (inc (by omega)), b5, (S.trans (S1.le S.n)).trans b4, g0, rfl, gs, _, by rw [take_snoc hi]; exact b3⟩)
    (fun s g ⟨okg, S, g0, g4, gs, cs', ho⟩ => by
      have hlen := len22 H (hx.mono S ok (Nat.le_refl _))
      rw [hcl] at hlen
      exact ⟨_, _, f16_b110100_F H.hk H.prim H.pl g4 g0 hlen (lessN' (Nat.le_refl _)), okg, S, gs, cs', by rw [List.take_length] at ho; exact ho⟩)
  exact ⟨_, h', Comes.plain hf rfl (H.memo 16 (by decide)) (H.spec 16) rfl (Runs.seq (f16_r0 H.hk) (Runs.seq (f16_r1 H.hk) (Runs.seq (Runs.seq (f16_r2 H.hk) r) (f16_b111 H.hk H.prim H.pl rfl)))) (.inr rfl) S.n hs rfl rfl, S, ok', cs', ho⟩
def rlinkP (l : List (List Int)) (s a : List Int) : Bool := decide (meetI a s = []) && ile 0 (idxI l (sortI (a ++ s)))
end
end Go.CP
namespace Go.CP
open Go.Proofs
variable [LG] [HK]
def errAt (l : List (List Int)) (i : Nat) : Int :=
  if errS (l.getD i []) ≠ 0 then errS (l.getD i [])
  else if 0 < i ∧ cmpI (l.getD i []) (l.getD (i - 1) []) = 0 then 5
  else if 0 < i ∧ cmpI (l.getD i []) (l.getD (i - 1) []) < 0 then 6
  else if (facetsI (l.getD i [])).all (fun f => decide (f ∈ l)) then 0 else 7
def errG (l : List (List Int)) : Nat → Nat → Int
  | 0, _ => 0
  | n + 1, i => if errAt l i ≠ 0 then errAt l i else errG l n (i + 1)
def errC (l : List (List Int)) : Int := if 1024 < l.length then 3 else errG l l.length 0
theorem errG_stop {l : List (List Int)} : ∀ (n i k : Nat), i ≤ k → k < i + n → (∀ j, i ≤ j → j < k → errAt l j = 0) → errAt l k ≠ 0 → errG l n i = errAt l k := by
  intro n
  induction n with
  | zero => intro i k h1 h2; omega
  | succ n ih =>
    intro i k h1 h2 h3 h4
    rcases Nat.eq_or_lt_of_le h1 with rfl | hlt
    · rw [errG, if_pos h4]
    · rw [errG, if_neg (by simp [h3 i (Nat.le_refl _) hlt])]
      exact ih (i + 1) k hlt (by omega) (fun j hj => h3 j (by omega)) h4
theorem errG_ok {l : List (List Int)} : ∀ (n i : Nat), (∀ j, i ≤ j → j < i + n → errAt l j = 0) → errG l n i = 0 := by
  intro n
  induction n with
  | zero => intro i _; rfl
  | succ n ih =>
    intro i h
    rw [errG, if_neg (by simp [h i (Nat.le_refl _) (by omega)])]
    exact ih (i + 1) fun j h1 h2 => h j (by omega) (by omega)
theorem errG_zero {l : List (List Int)} : ∀ (n i : Nat), errG l n i = 0 → ∀ j, i ≤ j → j < i + n → errAt l j = 0 := by
  intro n
  induction n with
  | zero => intro i _ j h1 h2; omega
  | succ n ih =>
    intro i h j h1 h2
    rw [errG] at h
    by_cases h0 : errAt l i = 0
    · rw [if_neg (by simp [h0])] at h
      rcases Nat.eq_or_lt_of_le h1 with rfl | hlt
      · exact h0
      · exact ih (i + 1) h j hlt (by omega)
    · rw [if_pos h0] at h; exact absurd h h0
section
variable {K : Ctx} {h : Hp}
theorem errAt_face {l : List (List Int)} {i : Nat} (h1 : errS (l.getD i []) = 0) (h2 : 0 < i → cmpI (l.getD i []) (l.getD (i - 1) []) ≠ 0 ∧ ¬ cmpI (l.getD i []) (l.getD (i - 1) []) < 0) : errAt l i = if (facetsI (l.getD i [])).all (fun f => decide (f ∈ l)) then 0 else 7 := by
  unfold errAt
  rw [if_neg (fun hn => hn h1), if_neg (fun h => (h2 h.1).1 h.2), if_neg (fun h => (h2 h.1).2 h.2)]
theorem r8check_ret (H : Std K) (PB : PlansB K) (ok : HpOk h) {l : List (List Int)} (hl : Sml l) {x : CV} {cs : List CV} (hx : Row h x cs) (hxs : Rows h cs l) : Ret K 17 [x] h fun r _ => r = .nu .i64 (errC l) := by
  have hf : K.P.funcs[17]? = some Tryz.f17 := by rw [H.hP]; exact Tryz.func17
  have hcl := hxs.length
  have hll := hl.len
  have hsm : ∀ a ∈ l, a.length < 4611686018427387904 := fun a ha => by have := hl.each a ha; omega
  have hlen0 := len26 H hx
  rw [hcl] at hlen0
  by_cases hbig : 1024 < l.length
  · refine ⟨_, h, Comes.plain hf rfl (H.memo 17 (by decide)) (H.spec 17) rfl (Runs.seq (f17_r0 H.hk) (Runs.seqX (f17_b10_T H.hk H.prim PB rfl hlen0 (gt_t (by show (1024 : Int) < Int.ofNat _; simp; omega))) (by simp))) (.inr rfl) (Nat.le_refl _) rfl rfl rfl, Same.refl _ _, ok, ?_⟩
    show CV.nu .i64 3 = _
    rw [errC, if_pos hbig]
  obtain ⟨sa, ra, a0, as'⟩ : ∃ s1, Runs K 17 72 none (sub1 [1, 0] (bodyOf Tryz.f17)) (T.set (entry 0 [x]) 2 (.nu .i64 0)) h .normal s1 h ∧ s1.at 0 = x ∧ s1.at slot = .undef := ⟨_, f17_b10_F H.hk H.prim PB rfl hlen0 (gt_f (by simp; omega)), rfl, rfl⟩
  have L := RunQ.loopB (K := K) (f := 17) (n := 72) (c := sub1 [1, 1, 0, 1, 0, 0] (bodyOf Tryz.f17)) (s := T.set sa 3 (.nu .i64 0)) (h := h) (m := l.length) (b := 0) (I := fun i s g => HpOk g ∧ Same h.n h g ∧ s.at 0 = x ∧ s.at 3 = .nu .i64 (.ofNat i) ∧ s.at slot = .undef ∧ ∀ j, j < i → errAt l j = 0)
    (E := fun s g => HpOk g ∧ Same h.n h g ∧ s.at slot = .undef ∧ errC l = 0) (R := fun s g => HpOk g ∧ Same h.n h g ∧ s.at slot = .undef ∧ s.at 2 = .nu .i64 (errC l)) ⟨ok, Same.refl _ _, a0, rfl, as', fun j hj => absurd hj (Nat.not_lt_zero _)⟩
    (fun i s g hi ⟨okg, S, g0, g3, gs, hall⟩ => by
      have hC : errAt l i ≠ 0 → errC l = errAt l i := fun hne => by
        rw [errC, if_neg hbig]; exact errG_stop _ 0 i (Nat.zero_le _) (by omega) (fun j _ hj => hall j hj) hne
      have hx2 := hx.mono S ok (Nat.le_refl _)
      have hxs2 := hxs.mono S ok (Nat.le_refl _)
      have hlen := len26 H hx2
      rw [hcl] at hlen
      obtain ⟨p, hp1, hp2⟩ := at26 H hx2 (i := i) (by omega)
      have hri := hxs2.get (i := i) (by omega) hi
      have hle := hl.each l[i] (List.getElem_mem hi)
      have e0 := getL hi
      have c57 := rcheck_comes H PB (by omega) hri
      obtain ⟨s1, r1, k0, k3, ks⟩ : ∃ s1, Runs K 17 72 none (sub1 [1, 1, 0, 1, 0, 0, 0] (bodyOf Tryz.f17)) s g .normal s1 g ∧ s1.at 0 = x ∧ s1.at 3 = .nu .i64 (.ofNat i) ∧ s1.at slot = .undef := ⟨_, f17_b1101000_T H.hk H.prim PB g3 g0 hlen (lessN hi), g0, g3, gs⟩
      by_cases h1 : errS l[i] = 0
      case neg =>
        rw [← e0] at h1
        have hat : errAt l i = errS l[i] := by unfold errAt; rw [if_pos h1, e0]
        rw [e0] at h1
        exact .inr (.inl ⟨_, _, Runs.seq r1 (Runs.seqX (Runs.blockR (Runs.seqX (f17_b1101001000_T H.hk H.prim PB k0 k3 hp1 hp2 c57 (ne_t h1)) (by simp))) (by simp)), okg, S, ks, by rw [hC (by rw [hat]; exact h1), hat]; rfl⟩)
      obtain ⟨s2, r2, l0, l3, ls⟩ : ∃ s2, Runs K 17 72 none (sub1 [1, 1, 0, 1, 0, 0, 1, 0, 0, 0] (bodyOf Tryz.f17)) s1 g .normal s2 g ∧ s2.at 0 = x ∧ s2.at 3 = .nu .i64 (.ofNat i) ∧ s2.at slot = .undef := ⟨_, f17_b1101001000_F H.hk H.prim PB k0 k3 hp1 hp2 c57 (ne_f h1), k0, k3, ks⟩
      have h1' : errS (l.getD i []) = 0 := by rw [e0]; exact h1
      have hnb : (0 < i ∧ cmpI (l.getD i []) (l.getD (i - 1) []) = 0 ∧ ∃ s3, Runs K 17 72 none (sub1 [1, 1, 0, 1, 0, 0, 1, 0, 0, 1, 0] (bodyOf Tryz.f17)) s2 g .ret s3 g ∧ s3.at 2 = .nu .i64 5 ∧ s3.at slot = .undef) ∨
          ((0 < i → cmpI (l.getD i []) (l.getD (i - 1) []) ≠ 0) ∧ ∃ s3, Runs K 17 72 none (sub1 [1, 1, 0, 1, 0, 0, 1, 0, 0, 1, 0] (bodyOf Tryz.f17)) s2 g .normal s3 g ∧ s3.at 0 = x ∧ s3.at 3 = .nu .i64 (.ofNat i) ∧ s3.at slot = .undef) := by
        cases i with
        | zero => exact .inr ⟨fun h => absurd h (Nat.lt_irrefl _), _, f17_b11010010010_fF H.hk H.prim PB l3 (gt_f (by decide)) rfl, l0, l3, ls⟩
        | succ k =>
          obtain ⟨q, hq1, hq2⟩ := at26 H hx2 (i := k) (by omega)
          have hrk := hxs2.get (i := k) (by omega) (by omega)
          have cc := cmp_comes H (hsm _ (List.getElem_mem hi)) hri hrk
          have ek : l.getD (k + 1 - 1) [] = l[k]'(by omega) := getL (i := k) (by omega)
          rw [e0, ek]
          have hpos : (0 : Int) < Int.ofNat (k + 1) := by simp
          by_cases hc : cmpI l[k + 1] (l[k]'(by omega)) = 0
          · exact .inl ⟨by omega, hc, _, f17_b11010010010_tT H.hk H.prim PB l3 l0 (gt_t hpos) hp1 hp2 hri.ceq (dec (by omega)) hq1 hq2 cc (eq_t hc) rfl, rfl, ls⟩
          · exact .inr ⟨fun _ => hc, _, f17_b11010010010_tF H.hk H.prim PB l3 l0 (gt_t hpos) hp1 hp2 hri.ceq (dec (by omega)) hq1 hq2 cc (eq_f hc) rfl, l0, l3, ls⟩
      rcases hnb with ⟨hpos, hc, s3, r3, h32, h3s⟩ | ⟨hc, s3, r3, l0, l3, ls⟩
      · have hat : errAt l i = 5 := by unfold errAt; rw [if_neg (fun hn => hn h1'), if_pos ⟨hpos, hc⟩]
        exact .inr (.inl ⟨_, _, Runs.seq r1 (Runs.seqX (Runs.blockR (Runs.seq r2 (Runs.seqX r3 (by simp)))) (by simp)), okg, S, h3s, by rw [hC (by rw [hat]; decide), hat]; exact h32⟩)
      have hnb2 : (0 < i ∧ cmpI (l.getD i []) (l.getD (i - 1) []) < 0 ∧ ∃ s4, Runs K 17 72 none (sub1 [1, 1, 0, 1, 0, 0, 1, 0, 0, 1, 1, 0] (bodyOf Tryz.f17)) s3 g .ret s4 g ∧ s4.at 2 = .nu .i64 6 ∧ s4.at slot = .undef) ∨
          ((0 < i → ¬ cmpI (l.getD i []) (l.getD (i - 1) []) < 0) ∧ ∃ s4, Runs K 17 72 none (sub1 [1, 1, 0, 1, 0, 0, 1, 0, 0, 1, 1, 0] (bodyOf Tryz.f17)) s3 g .normal s4 g ∧ s4.at 0 = x ∧ s4.at 3 = .nu .i64 (.ofNat i) ∧ s4.at slot = .undef) := by
        cases i with
        | zero => exact .inr ⟨fun h => absurd h (Nat.lt_irrefl _), _, f17_b110100100110_fF H.hk H.prim PB l3 (gt_f (by decide)) rfl, l0, l3, ls⟩
        | succ k =>
          obtain ⟨q, hq1, hq2⟩ := at26 H hx2 (i := k) (by omega)
          have hrk := hxs2.get (i := k) (by omega) (by omega)
          have cc := cmp_comes H (hsm _ (List.getElem_mem hi)) hri hrk
          have ek : l.getD (k + 1 - 1) [] = l[k]'(by omega) := getL (i := k) (by omega)
          rw [e0, ek]
          have hpos : (0 : Int) < Int.ofNat (k + 1) := by simp
          by_cases hc : cmpI l[k + 1] (l[k]'(by omega)) < 0
          · exact .inl ⟨by omega, hc, _, f17_b110100100110_tT H.hk H.prim PB l3 l0 (gt_t hpos) hp1 hp2 hri.ceq (dec (by omega)) hq1 hq2 cc (lt_t hc) rfl, rfl, ls⟩
          · exact .inr ⟨fun _ => hc, _, f17_b110100100110_tF H.hk H.prim PB l3 l0 (gt_t hpos) hp1 hp2 hri.ceq (dec (by omega)) hq1 hq2 cc (lt_f (by omega)) rfl, l0, l3, ls⟩
      rcases hnb2 with ⟨hpos, hc2, s4, r4, h42, h4s⟩ | ⟨hc2, s4, r4, l0, l3, ls⟩
      · have hat : errAt l i = 6 := by unfold errAt; rw [if_neg (fun hn => hn h1'), if_neg (fun h => hc h.1 h.2), if_pos ⟨hpos, hc2⟩]
        exact .inr (.inl ⟨_, _, Runs.seq r1 (Runs.seqX (Runs.blockR (Runs.seq r2 (Runs.seq r3 (Runs.seqX r4 (by simp))))) (by simp)), okg, S, h4s, by rw [hC (by rw [hat]; decide), hat]; exact h42⟩)
      have hat := errAt_face h1' (fun hp => ⟨hc hp, hc2 hp⟩)
      rw [e0] at hat
      have okS := errS_zero.1 h1
      obtain ⟨y, g1, cf, Sf, okf, fs, hof⟩ := rfacets_ret H PB okg okS.ne hle hri
      have S1 : Same h.n h g1 := S.trans (Sf.le S.n)
      obtain ⟨s5, r5, m0, m3, m5, m6, ms⟩ : ∃ s5, Runs K 17 72 none (sub1 [1, 1, 0, 1, 0, 0, 1, 0, 0, 1, 1, 1, 0] (bodyOf Tryz.f17)) s4 g .normal s5 g1 ∧ s5.at 0 = x ∧ s5.at 3 = .nu .i64 (.ofNat i) ∧ s5.at 5 = y ∧ True ∧ s5.at slot = .undef := ⟨_, f17_r13 H.hk l0 l3 hp1 hp2 (H.prim _ _) cf, l0, l3, rfl, trivial, ls⟩
      have hfa := hof.all
      have hfr := hof.out.row
      have hfl := hfa.length
      have hfm : (facetsI l[i]).length ≤ 5 := Nat.le_trans (facetsI_length _) okS.le
      have L2 := RunQ.loopB (K := K) (f := 17) (n := 72) (c := sub1 [1, 1, 0, 1, 0, 0, 1, 0, 0, 1, 1, 1, 1, 1, 0, 0] (bodyOf Tryz.f17)) (s := T.set s5 6 (.nu .i64 0)) (h := g1) (m := (facetsI l[i]).length) (b := 2) (I := fun k s g => g = g1 ∧ s.at 0 = x ∧ s.at 3 = .nu .i64 (.ofNat i) ∧ s.at 5 = y ∧ s.at 6 = .nu .i64 (.ofNat k) ∧ s.at slot = .undef ∧ ((facetsI l[i]).take k).all (fun f => decide (f ∈ l)) = true)
        (E := fun s g => g = g1 ∧ s.at 0 = x ∧ s.at 3 = .nu .i64 (.ofNat i) ∧ s.at slot = .undef ∧ (facetsI l[i]).all (fun f => decide (f ∈ l)) = true) (R := fun s g => g = g1 ∧ s.at slot = .undef ∧ s.at 2 = .nu .i64 7 ∧ (facetsI l[i]).all (fun f => decide (f ∈ l)) = false) ⟨rfl, m0, m3, m5, rfl, ms, rfl⟩
        (fun k s g hk ⟨e, g0, g3, g5, g6, gs, hallk⟩ => by
          subst e
          have hlf := len26 H hfr
          rw [hfl] at hlf
          obtain ⟨q, hq1, hq2⟩ := at26 H hfr (i := k) (by omega)
          have hrk := hfa.get (i := k) (by omega) hk
          have ci := idx_comes H hll hsm (hx.mono S1 ok (Nat.le_refl _)) (hxs.mono S1 ok (Nat.le_refl _)) hrk
          cases hin : ile 0 (idxI l (facetsI l[i])[k]) with
          | true =>
            have hmem := idxI_nn.1 hin
            exact .inl ⟨_, _, f17_b1101001001111100_TF H.hk H.prim PB g6 g5 g0 hlf (lessN hk) hq1 hq2 ci (by rw [less, hin]; rfl) (inc (by omega)), rfl, g0, g3, g5, rfl, gs, all_snoc hk hallk (by simpa using hmem)⟩
          | false =>
            have hmem : (facetsI l[i])[k] ∉ l := fun hm => by rw [idxI_nn.2 hm] at hin; cases hin
            exact .inr (.inl ⟨_, _, f17_b1101001001111100_TT H.hk H.prim PB g6 g5 g0 hlf (lessN hk) hq1 hq2 ci (by rw [less, hin]; rfl), rfl, gs, rfl, all_no hk (by simpa using hmem)⟩))
        (fun s g ⟨e, g0, g3, g5, g6, gs, hallk⟩ => by
          subst e
          have hlf := len26 H hfr
          rw [hfl] at hlf
          exact ⟨_, _, f17_b1101001001111100_F H.hk H.prim PB g6 g5 hlf (lessN' (Nat.le_refl _)), rfl, g0, g3, gs, by rw [List.take_length] at hallk; exact hallk⟩)
      rcases L2 with ⟨s6, h6, r6, rfl, n0, n3, ns, hv⟩ | ⟨s6, h6, r6, rfl, ns, n2, hv⟩
      · rw [hv, if_pos rfl] at hat
        exact .inl ⟨_, _, Runs.seq r1 (Runs.seq (Runs.blockN (Runs.seq r2 (Runs.seq r3 (Runs.seq r4 (Runs.seq r5 (Runs.seq (f17_r14 H.hk) r6)))))) (f17_r5 H.hk n3 (inc (by omega)))), okf, S1, n0, rfl, ns, fun j hj => by
          rcases Nat.lt_or_ge j i with hlt | hge
          · exact hall j hlt
          · obtain rfl : j = i := by omega
            exact hat⟩
      · rw [hv, if_neg (by simp)] at hat
        exact .inr (.inl ⟨_, _, Runs.seq r1 (Runs.seqX (Runs.blockR (Runs.seq r2 (Runs.seq r3 (Runs.seq r4 (Runs.seq r5 (Runs.seq (f17_r14 H.hk) r6)))))) (by simp)), okf, S1, ns, by rw [hC (by rw [hat]; decide), hat]; exact n2⟩))
    (fun s g ⟨okg, S, g0, g3, gs, hall⟩ => by
      have hlen := len26 H (hx.mono S ok (Nat.le_refl _))
      rw [hcl] at hlen
      refine ⟨_, _, Runs.seqX (f17_b1101000_F H.hk H.prim PB g3 g0 hlen (lessN' (Nat.le_refl _))) (by simp), okg, S, gs, ?_⟩
      rw [errC, if_neg hbig]; exact errG_ok _ 0 fun j _ hj => hall j (by omega))
  rcases L with ⟨s', h', r, ok', S, hs, hv⟩ | ⟨s', h', r, ok', S, hs, h2⟩
  · exact ⟨_, h', Comes.plain hf rfl (H.memo 17 (by decide)) (H.spec 17) rfl (Runs.seq (f17_r0 H.hk) (Runs.seq ra (Runs.seq (Runs.seq (f17_r3 H.hk) r) (f17_b111 H.hk H.prim PB)))) (.inr rfl) S.n hs rfl rfl, S, ok', by rw [hv]; rfl⟩
  · exact ⟨_, h', Comes.plain hf rfl (H.memo 17 (by decide)) (H.spec 17) rfl (Runs.seq (f17_r0 H.hk) (Runs.seq ra (Runs.seqX (Runs.seq (f17_r3 H.hk) r) (by simp)))) (.inr rfl) S.n hs (by show some [Fr.at s' 2] = _; rw [h2]) rfl, S, ok', rfl⟩
end
end Go.CP
