import Derived.Test.YtadagifjonbmjaaGreatDoorKl2
import Derived.Test.YtadagifjonbmjaaGreatDoorKw3
import Derived.Test.YtadagifjonbmjaaGreatDoorKq0
set_option linter.all false
/- Complex: the reference's small functions at any lists: Has, Meet, Without, Facets, Check. -/
namespace Go.CP
open Go.Proofs
variable [LG] [HK]
section
variable {P : Program} {t : TypeId} {x y : Int}
theorem lt_t (h : x < y) : bineq P .lss t (.nu .i64 x) (.nu .i64 y) = some (.bo true) := by rw [less, ile_f h]; rfl
theorem lt_f (h : y ≤ x) : bineq P .lss t (.nu .i64 x) (.nu .i64 y) = some (.bo false) := by rw [less, ile_t h]; rfl
theorem gt_t (h : y < x) : bineq P .gtr t (.nu .i64 x) (.nu .i64 y) = some (.bo true) := by rw [more, ile_f h]; rfl
theorem gt_f (h : x ≤ y) : bineq P .gtr t (.nu .i64 x) (.nu .i64 y) = some (.bo false) := by rw [more, ile_t h]; rfl
theorem le_t (h : x ≤ y) : bineq P .leq t (.nu .i64 x) (.nu .i64 y) = some (.bo true) := by rw [leqN, ile_t h]
theorem le_f (h : y < x) : bineq P .leq t (.nu .i64 x) (.nu .i64 y) = some (.bo false) := by rw [leqN, ile_f h]
theorem eq_t (h : x = y) : bineq P .eql t (.nu .i64 x) (.nu .i64 y) = some (.bo true) := by rw [eqln, ieq_t h]
theorem eq_f (h : x ≠ y) : bineq P .eql t (.nu .i64 x) (.nu .i64 y) = some (.bo false) := by rw [eqln, ieq_f h]
theorem ne_t (h : x ≠ y) : bineq P .neq t (.nu .i64 x) (.nu .i64 y) = some (.bo true) := by
  show some (CV.bo (!(ieq x y))) = _
  rw [ieq_f h]; rfl
theorem ne_f (h : x = y) : bineq P .neq t (.nu .i64 x) (.nu .i64 y) = some (.bo false) := by
  show some (CV.bo (!(ieq x y))) = _
  rw [ieq_t h]; rfl
end
theorem ofNat_lt {a b : Nat} (h : a < b) : Int.ofNat a < Int.ofNat b := by simpa using h
theorem ofNat_le {a b : Nat} (h : a ≤ b) : Int.ofNat a ≤ Int.ofNat b := by simpa using h
theorem ofNat_ne {a b : Nat} (h : a ≠ b) : Int.ofNat a ≠ Int.ofNat b := fun e => h (Int.ofNat.inj e)
theorem take_snoc {α : Type} {l : List α} {i : Nat} (hi : i < l.length) : l.take (i + 1) = l.take i ++ [l[i]] := by rw [List.take_succ_eq_append_getElem hi]
theorem all_snoc {α : Type} {p : α → Bool} {l : List α} {i : Nat} (hi : i < l.length) (h : (l.take i).all p = true) (hp : p l[i] = true) : (l.take (i + 1)).all p = true := by
  rw [take_snoc hi, List.all_append, h]; simp [hp]
theorem all_no {α : Type} {p : α → Bool} {l : List α} {i : Nat} (hi : i < l.length) (hp : p l[i] = false) : l.all p = false := by
  rw [List.all_eq_false]; exact ⟨_, List.getElem_mem hi, by simp [hp]⟩
theorem any_snoc {α : Type} {p : α → Bool} {l : List α} {i : Nat} (hi : i < l.length) (h : (l.take i).any p = false) (hp : p l[i] = false) : (l.take (i + 1)).any p = false := by
  rw [take_snoc hi, List.any_append, h]; simp [hp]
theorem any_yes {α : Type} {p : α → Bool} {l : List α} {i : Nat} (hi : i < l.length) (hp : p l[i] = true) : l.any p = true := List.any_eq_true.2 ⟨_, List.getElem_mem hi, hp⟩
theorem filter_t {α : Type} {p : α → Bool} {l : List α} {i : Nat} (hi : i < l.length) (hp : p l[i] = true) : (l.take (i + 1)).filter p = (l.take i).filter p ++ [l[i]] := by
  rw [take_snoc hi, List.filter_append]; simp [hp]
theorem filter_f {α : Type} {p : α → Bool} {l : List α} {i : Nat} (hi : i < l.length) (hp : p l[i] = false) : (l.take (i + 1)).filter p = (l.take i).filter p := by
  rw [take_snoc hi, List.filter_append]; simp [hp]
section
variable {K : Ctx} {h : Hp}
def hasI (a b : List Int) : Bool := b.all (inI a)
theorem len45' (H : Std K) {x : CV} {a : List Int} (r : Row h x (Ints a)) : qLen h x (tyk K.P 45) = some (.nu .i64 (.ofNat a.length)) := by
  have := len45 H r
  rwa [ints_length] at this
end
end Go.CP
/- Complex: the reference's Meet, Without, Facets, Check of simplices. -/
namespace Go.CP
open Go.Proofs
variable [LG] [HK]
section
variable {K : Ctx} {h : Hp}
theorem filter_length_le {α : Type} (p : α → Bool) (l : List α) (i : Nat) : ((l.take i).filter p).length ≤ l.length := by
  have := List.length_filter_le p (l.take i)
  have h2 : (l.take i).length ≤ l.length := by simp; omega
  omega
end
end Go.CP
/- Complex: the checks of a simplex at any list: torusref07.Check, simplex.Check, simplex.Facets. -/
namespace Go.CP
open Go.Proofs
variable [LG] [HK]
/-- A vertex out of range. -/
def badV (v : Int) : Bool := decide (v < 0) || decide (64 ≤ v)
def ascB (a : List Int) : Bool := (List.range (a.length - 1)).all fun i => decide (a.getD i 0 < a.getD (i + 1) 0)
def verS (a : List Int) : Int := if a = [] then 1 else if 5 < a.length then 3 else if a.any badV then 1 else 0
/-- The error of a simplex. -/
def errS (a : List Int) : Int := if verS a ≠ 0 then verS a else if ascB a then 0 else 6
theorem ascB_iff (a : List Int) : ascB a = true ↔ a.Pairwise (· < ·) := by
  constructor
  · intro h
    have h1 : ∀ i (hi : i + 1 < a.length), a[i] < a[i + 1] := by
      intro i hi
      have := List.all_eq_true.1 h i (List.mem_range.2 (by omega))
      simpa [List.getD_eq_getElem?_getD, List.getElem?_eq_getElem (show i < a.length by omega), List.getElem?_eq_getElem hi] using this
    rw [List.pairwise_iff_getElem]
    intro i j hi hj hij
    obtain ⟨d, rfl⟩ : ∃ d, j = i + 1 + d := ⟨j - (i + 1), by omega⟩
    clear hij
    induction d with
    | zero => exact h1 i hj
    | succ d ih =>
      have e := ih (by omega)
      have e2 := h1 (i + 1 + d) (by omega)
      have : a[i + 1 + (d + 1)] = a[i + 1 + d + 1] := rfl
      omega
  · intro h
    refine List.all_eq_true.2 fun i hi => ?_
    have hi' := List.mem_range.1 hi
    have := List.pairwise_iff_getElem.1 h i (i + 1) (by omega) (by omega) (by omega)
    simpa [List.getD_eq_getElem?_getD, List.getElem?_eq_getElem (show i < a.length by omega), List.getElem?_eq_getElem (show i + 1 < a.length by omega)] using this
theorem badV_f {v : Int} : badV v = false ↔ 0 ≤ v ∧ v < 64 := by simp [badV]
theorem verS_zero {a : List Int} : verS a = 0 ↔ a ≠ [] ∧ a.length ≤ 5 ∧ ∀ v ∈ a, 0 ≤ v ∧ v < 64 := by
  unfold verS
  by_cases h1 : a = []
  · simp [h1]
  rw [if_neg h1]
  by_cases h2 : 5 < a.length
  · rw [if_pos h2]; constructor
    · intro h; exact absurd h (by decide)
    · rintro ⟨_, h, _⟩; omega
  rw [if_neg h2]
  cases h3 : a.any badV with
  | true =>
    rw [if_pos rfl]; constructor
    · intro h; exact absurd h (by decide)
    · rintro ⟨_, _, h⟩
      obtain ⟨v, hv, hb⟩ := List.any_eq_true.1 h3
      rw [badV_f.2 (h v hv)] at hb; cases hb
  | false =>
    rw [if_neg (by simp)]
    refine ⟨fun _ => ⟨h1, by omega, fun v hv => ?_⟩, fun _ => rfl⟩
    exact badV_f.1 (by simpa using List.any_eq_false.1 h3 v hv)
theorem errS_zero {a : List Int} : errS a = 0 ↔ OkS a := by
  unfold errS
  by_cases h : verS a = 0
  · rw [if_neg (by simp [h])]
    obtain ⟨h1, h2, h3⟩ := verS_zero.1 h
    cases hs : ascB a with
    | true => exact ⟨fun _ => ⟨h1, h2, h3, (ascB_iff a).1 hs⟩, fun _ => rfl⟩
    | false =>
      refine ⟨fun e => absurd e (by decide), fun o => ?_⟩
      rw [(ascB_iff a).2 o.asc] at hs; cases hs
  · rw [if_pos h]
    exact ⟨fun e => absurd e h, fun o => absurd (verS_zero.2 ⟨o.ne, o.le, o.rng⟩) h⟩
section
variable {K : Ctx} {h : Hp}
theorem vert1_gen (H : Std K) (v : Int) : Comes K 139 [.nu .i64 v] h (.bo (badV v)) h := by
  have hf : K.P.funcs[139]? = some Tryz.f139 := by rw [H.hP]; exact Tryz.func139
  by_cases h0 : v < 0
  · have : badV v = true := by simp [badV, h0]
    rw [this]
    exact Comes.plain hf rfl (H.memo 139 (by decide)) (H.spec 139) rfl (f139_b_t H.hk H.prim H.pl (s := entry 0 [.nu .i64 v]) rfl (lt_t h0) rfl) (.inr rfl) (Nat.le_refl _) rfl rfl rfl
  · have o7 := geqN (P := K.P) (t := 3) v 64
    have : badV v = ile 64 v := by simp [badV, h0, ile_eq]
    rw [this]
    exact Comes.plain hf rfl (H.memo 139 (by decide)) (H.spec 139) rfl (f139_b_f H.hk H.prim H.pl (s := entry 0 [.nu .i64 v]) rfl (lt_f (by omega)) o7 rfl) (.inr rfl) (Nat.le_refl _) rfl rfl rfl
theorem idxG_comes (H : Std K) {a : List Int} {G : FuncId} {C : List CV} {p : Int → Bool} (hbig : a.length < 4611686018427387904) {x : CV} (ha : Row h x (Ints a)) (hg : ∀ v ∈ a, Comes K G ([.nu .i64 v] ++ C) h (.bo (p v)) h) : ∃ n, Comes K 166 [x, .fn G C] h (.nu .i64 n) h ∧ ile 0 n = a.any p := by
  have hf : K.P.funcs[166]? = some Tryz.f166 := by rw [H.hP]; exact Tryz.func166
  have hlen := len45' H ha
  obtain ⟨s1, r1, k0, k1, k7, k8, ks⟩ : ∃ s1, Runs K 166 19 none (sub1 [1, 0, 0] (bodyOf Tryz.f166)) (T.set (entry 0 [x, .fn G C]) 4 (.nu .i64 0)) h .normal s1 h ∧ s1.at 0 = x ∧ s1.at 1 = .fn G C ∧ s1.at 7 = .nu .i64 (.ofNat a.length) ∧ s1.at 8 = .nu .i64 (.ofNat 0) ∧ s1.at slot = .undef := ⟨_, f166_r1 H.hk rfl hlen, rfl, rfl, rfl, rfl, rfl⟩
  have L := RunQ.loopB (K := K) (f := 166) (n := 19) (c := sub1 [1, 0, 1, 0, 0] (bodyOf Tryz.f166)) (s := s1) (h := h) (m := a.length) (b := 0) (I := fun i s g => g = h ∧ s.at 0 = x ∧ s.at 1 = .fn G C ∧ s.at 7 = .nu .i64 (.ofNat a.length) ∧ s.at 8 = .nu .i64 (.ofNat i) ∧ s.at slot = .undef ∧ (a.take i).any p = false)
    (E := fun s g => g = h ∧ s.at slot = .undef ∧ a.any p = false) (R := fun s g => g = h ∧ s.at slot = .undef ∧ a.any p = true ∧ ∃ j : Nat, s.at 4 = .nu .i64 (.ofNat j)) ⟨rfl, k0, k1, k7, k8, ks, rfl⟩
    (fun i s g hi ⟨e, g0, g1, g7, g8, gs, hall⟩ => by
      subst e
      obtain ⟨q, hp1, hp2⟩ := at45 H ha hi
      have hin := hg a[i] (List.getElem_mem hi)
      cases hq : p a[i] with
      | false =>
        rw [hq] at hin
        exact .inl ⟨_, _, f166_b10100_TF H.hk H.prim H.pl g8 g7 g1 g0 (lessN hi) hp1 hp2 rfl hin (inc (by omega)), rfl, g0, g1, g7, rfl, gs, any_snoc hi hall hq⟩
      | true =>
        rw [hq] at hin
        exact .inr (.inl ⟨_, _, f166_b10100_TT H.hk H.prim H.pl g8 g7 g1 g0 (lessN hi) hp1 hp2 rfl hin, rfl, gs, any_yes hi hq, i, rfl⟩))
    (fun s g ⟨e, g0, g1, g7, g8, gs, hall⟩ => by
      subst e
      exact ⟨_, _, f166_b10100_F H.hk H.prim H.pl g8 g7 (lessN' (Nat.le_refl _)), rfl, gs, by rw [List.take_length] at hall; exact hall⟩)
  rcases L with ⟨s', h', r, rfl, hs, hv⟩ | ⟨s', h', r, rfl, hs, hv, j, hj⟩
  · rw [hv]
    exact ⟨-1, Comes.plain hf rfl (H.memo 166 (by decide)) (H.spec 166) rfl (Runs.seq (f166_r0 H.hk) (Runs.seq (Runs.seq r1 r) (f166_b11 H.hk H.prim H.pl))) (.inr rfl) (Nat.le_refl _) hs rfl rfl, rfl⟩
  · rw [hv]
    exact ⟨.ofNat j, Comes.plain hf rfl (H.memo 166 (by decide)) (H.spec 166) rfl (Runs.seq (f166_r0 H.hk) (Runs.seqX (Runs.seq r1 r) (by simp))) (.inr rfl) (Nat.le_refl _) hs (by show some [Fr.at s' 4] = _; rw [hj]) rfl, ile_t (by simp)⟩
theorem contG_comes (H : Std K) {a : List Int} {G : FuncId} {C : List CV} {p : Int → Bool} (hbig : a.length < 4611686018427387904) {x : CV} (ha : Row h x (Ints a)) (hg : ∀ v ∈ a, Comes K G ([.nu .i64 v] ++ C) h (.bo (p v)) h) : Comes K 138 [x, .fn G C] h (.bo (a.any p)) h := by
  have hf : K.P.funcs[138]? = some Tryz.f138 := by rw [H.hP]; exact Tryz.func138
  obtain ⟨n, c, hn⟩ := idxG_comes H hbig ha hg
  have o8 := geqN (P := K.P) (t := 3) n 0
  rw [hn] at o8
  exact Comes.plain hf rfl (H.memo 138 (by decide)) (H.spec 138) rfl (f138_b H.hk H.prim H.pl (s := entry 0 [x, .fn G C]) rfl rfl c o8) (.inr rfl) (Nat.le_refl _) rfl rfl rfl
theorem vertices_gen (H : Std K) {a : List Int} (hbig : a.length < 4611686018427387904) {x : CV} (ha : Row h x (Ints a)) : Comes K 110 [x] h (.nu .i64 (verS a)) h := by
  have hf : K.P.funcs[110]? = some Tryz.f110 := by rw [H.hP]; exact Tryz.func110
  have hlen := len45' H ha
  unfold verS
  by_cases h1 : a = []
  · rw [if_pos h1]
    exact Comes.plain hf rfl (H.memo 110 (by decide)) (H.spec 110) rfl (f110_b_T H.hk H.prim H.pl (s := entry 0 [x]) rfl hlen (eq_t (by rw [h1]; rfl))) (.inr rfl) (Nat.le_refl _) rfl rfl rfl
  have h1' : Int.ofNat a.length ≠ 0 := by
    intro e; exact h1 (List.eq_nil_of_length_eq_zero (by simpa using e))
  rw [if_neg h1]
  by_cases h2 : 5 < a.length
  · rw [if_pos h2]
    exact Comes.plain hf rfl (H.memo 110 (by decide)) (H.spec 110) rfl (f110_b_FT H.hk H.prim H.pl (s := entry 0 [x]) rfl hlen (eq_f h1') (gt_t (by show (5 : Int) < Int.ofNat a.length; simp; omega))) (.inr rfl) (Nat.le_refl _) rfl rfl rfl
  rw [if_neg h2]
  have hle : Int.ofNat a.length ≤ 5 := by simp; omega
  have c := contG_comes H hbig ha (G := 139) (C := []) fun v _ => vert1_gen H v
  cases h3 : a.any badV with
  | true =>
    rw [h3] at c
    exact Comes.plain hf rfl (H.memo 110 (by decide)) (H.spec 110) rfl (f110_b_FFT H.hk H.prim H.pl (s := entry 0 [x]) rfl hlen (eq_f h1') (gt_f hle) c) (.inr rfl) (Nat.le_refl _) rfl rfl rfl
  | false =>
    rw [h3] at c
    exact Comes.plain hf rfl (H.memo 110 (by decide)) (H.spec 110) rfl (f110_b_FFF H.hk H.prim H.pl (s := entry 0 [x]) rfl hlen (eq_f h1') (gt_f hle) c) (.inr rfl) (Nat.le_refl _) rfl rfl rfl
theorem getD_get {a : List Int} {i : Nat} (hi : i < a.length) : a.getD i 0 = a[i] := by rw [List.getD_eq_getElem?_getD, List.getElem?_eq_getElem hi]; rfl
/-- simplex.Check. -/
theorem check_gen (H : Std K) {a : List Int} (hbig : a.length < 4611686018427387904) {x : CV} (ha : Row h x (Ints a)) : Comes K 66 [x] h (.nu .i64 (errS a)) h := by
  have hf : K.P.funcs[66]? = some Tryz.f66 := by rw [H.hP]; exact Tryz.func66
  have cv := vertices_gen H hbig ha
  unfold errS
  by_cases h0 : verS a = 0
  · rw [if_neg (by simp [h0])]
    rw [h0] at cv
    obtain ⟨hne, hle, _⟩ := verS_zero.1 h0
    have hl : 1 ≤ a.length := by cases hq : a with | nil => exact absurd hq hne | cons => simp
    obtain ⟨y, hy1, hy2⟩ := cut46 H hne ha (lo := some (.nu .i64 1)) (hi := none) (i := 1) (j := a.length) rfl rfl hl (Nat.le_refl _)
    have ht : (a.drop 1).take (a.length - 1) = a.drop 1 := List.take_of_length_le (by simp)
    rw [ht] at hy2
    have hlen := len46 H hy2
    rw [ints_length, List.length_drop] at hlen
    obtain ⟨s0, r0, j0, js⟩ : ∃ s1, Runs K 66 26 none (sub1 [1, 0] (bodyOf Tryz.f66)) (T.set (entry 0 [x]) 2 (.nu .i64 0)) h .normal s1 h ∧ s1.at 0 = x ∧ s1.at slot = .undef := ⟨_, f66_b10_F H.hk H.prim H.pl rfl cv rfl, rfl, rfl⟩
    obtain ⟨s1, r1, k0, k12, k13, k14, ks⟩ : ∃ s2, Runs K 66 26 none (sub1 [1, 1, 0, 0] (bodyOf Tryz.f66)) s0 h .normal s2 h ∧ s2.at 0 = x ∧ s2.at 12 = y ∧ s2.at 13 = .nu .i64 (.ofNat (a.length - 1)) ∧ s2.at 14 = .nu .i64 (.ofNat 0) ∧ s2.at slot = .undef := ⟨_, f66_r4 H.hk j0 hy1 hlen, j0, rfl, rfl, rfl, js⟩
    have L := RunQ.loopB (K := K) (f := 66) (n := 26) (c := sub1 [1, 1, 0, 1, 0, 0] (bodyOf Tryz.f66)) (s := s1) (h := h) (m := a.length - 1) (b := 0) (I := fun i s g => g = h ∧ s.at 0 = x ∧ s.at 12 = y ∧ s.at 13 = .nu .i64 (.ofNat (a.length - 1)) ∧ s.at 14 = .nu .i64 (.ofNat i) ∧ s.at slot = .undef ∧ ((List.range (a.length - 1)).take i).all (fun i => decide (a.getD i 0 < a.getD (i + 1) 0)) = true)
      (E := fun s g => g = h ∧ s.at slot = .undef ∧ ascB a = true) (R := fun s g => g = h ∧ s.at slot = .undef ∧ ascB a = false ∧ s.at 2 = .nu .i64 6) ⟨rfl, k0, k12, k13, k14, ks, rfl⟩
      (fun i s g hi ⟨e, g0, g12, g13, g14, gs, hall⟩ => by
        subst e
        have hi1 : i < (a.drop 1).length := by simp; omega
        obtain ⟨p, hp1, hp2⟩ := at46 H ha (i := i) (by omega)
        obtain ⟨q, hq1, hq2⟩ := at46 H hy2 hi1
        have e1 : (a.drop 1)[i] = a[i + 1]'(by omega) := by rw [List.getElem_drop]; congr 1; omega
        rw [e1] at hq2
        by_cases hlt : a[i]'(by omega) < a[i + 1]'(by omega)
        · exact .inl ⟨_, _, f66_b110100_TF H.hk H.prim H.pl g14 g13 g12 g0 (lessN hi) hq1 hq2 hp1 hp2 (le_f hlt) (inc (by omega)), rfl, g0, g12, g13, rfl, gs, all_snoc (by simpa using hi) hall (by simp only [List.getElem_range, getD_get (show i < a.length by omega), getD_get (show i + 1 < a.length by omega), hlt, decide_true])⟩
        · exact .inr (.inl ⟨_, _, f66_b110100_TT H.hk H.prim H.pl g14 g13 g12 g0 (lessN hi) hq1 hq2 hp1 hp2 (le_t (by omega)), rfl, gs, all_no (i := i) (by simpa using hi) (by simp only [List.getElem_range, getD_get (show i < a.length by omega), getD_get (show i + 1 < a.length by omega), hlt, decide_false]), rfl⟩))
      (fun s g ⟨e, g0, g12, g13, g14, gs, hall⟩ => by
        subst e
        exact ⟨_, _, f66_b110100_F H.hk H.prim H.pl g14 g13 (lessN' (Nat.le_refl _)), rfl, gs, by rw [List.take_of_length_le (by simp)] at hall; exact hall⟩)
    rcases L with ⟨s', h', r, rfl, hs, hv⟩ | ⟨s', h', r, rfl, hs, hv, h2⟩
    · rw [hv]
      exact Comes.plain hf rfl (H.memo 66 (by decide)) (H.spec 66) rfl (Runs.seq (f66_r0 H.hk) (Runs.seq r0 (Runs.seq (Runs.seq r1 r) (f66_b111 H.hk H.prim H.pl)))) (.inr rfl) (Nat.le_refl _) hs rfl rfl
    · rw [hv]
      exact Comes.plain hf rfl (H.memo 66 (by decide)) (H.spec 66) rfl (Runs.seq (f66_r0 H.hk) (Runs.seq r0 (Runs.seqX (Runs.seq r1 r) (by simp)))) (.inr rfl) (Nat.le_refl _) hs (by show some [Fr.at s' 2] = _; rw [h2]) rfl
  · rw [if_pos h0]
    exact Comes.plain hf rfl (H.memo 66 (by decide)) (H.spec 66) rfl (Runs.seq (f66_r0 H.hk) (Runs.seqX (f66_b10_T H.hk H.prim H.pl rfl cv (ne_t h0)) (by simp))) (.inr rfl) (Nat.le_refl _) rfl rfl rfl
/-- simplex.Facets of what is no simplex. -/
theorem facets_bad (H : Std K) {a : List Int} (hbig : a.length < 4611686018427387904) (hbad : errS a ≠ 0) {x : CV} (ha : Row h x (Ints a)) : Comes K 73 [x] h (.tup [.nils, .nu .i64 (errS a)]) h := by
  have hf : K.P.funcs[73]? = some Tryz.f73 := by rw [H.hP]; exact Tryz.func73
  exact Comes.plain hf rfl (H.memo 73 (by decide)) (H.spec 73) rfl (Runs.seq (f73_r0 H.hk) (Runs.seqX (f73_b10_tT H.hk H.prim H.pl rfl (check_gen H hbig ha) (ne_t hbad) rfl) (by simp))) (.inr rfl) (Nat.le_refl _) rfl rfl rfl
end
end Go.CP
/- Complex: Long, Same; the reference's cofaces, Maximal, Skeleton, Star. -/
namespace Go.CP
open Go.Proofs
variable [LG] [HK]
/-- Lists of lists of a size that can be. -/
structure Sml (l : List (List Int)) : Prop where
  len : l.length < 549755813888
  each : ∀ a ∈ l, a.length < 549755813888
section
variable {K : Ctx} {h : Hp}
def longI (l : List (List Int)) (n : Int) : Bool := decide (n < Int.ofNat l.length) || l.any fun a => decide (12 < a.length)
def sameI (l m : List (List Int)) : Bool := decide (l.length = m.length) && (List.range l.length).all fun i => decide (l.getD i [] = m.getD i [])
theorem sameI_iff {l m : List (List Int)} : sameI l m = true ↔ l = m := by
  constructor
  · intro h
    unfold sameI at h
    rw [Bool.and_eq_true, decide_eq_true_iff] at h
    refine List.ext_getElem h.1 fun i h1 h2 => ?_
    have := List.all_eq_true.1 h.2 i (List.mem_range.2 h1)
    simpa [List.getD_eq_getElem?_getD, List.getElem?_eq_getElem h1, List.getElem?_eq_getElem h2] using this
  · rintro rfl
    unfold sameI
    simp
theorem getL {l : List (List Int)} {i : Nat} (hi : i < l.length) : l.getD i [] = l[i] := by rw [List.getD_eq_getElem?_getD, List.getElem?_eq_getElem hi]; rfl
/-- torusref07.Same. -/
theorem same_comes (H : Std K) (PB : PlansB K) {l m : List (List Int)} (hl : l.length < 4611686018427387904) (hm : ∀ a ∈ l, a.length < 4611686018427387904) {x y : CV} {cs ds : List CV} (hx : Row h x cs) (hxs : Rows h cs l) (hy : Row h y ds) (hys : Rows h ds m) : Comes K 23 [x, y] h (.bo (sameI l m)) h := by
  have hf : K.P.funcs[23]? = some Tryz.f23 := by rw [H.hP]; exact Tryz.func23
  have hlen := len22 H hx
  have hlem := len26 H hy
  have hcl := hxs.length
  have hcm := hys.length
  rw [hcl] at hlen
  rw [hcm] at hlem
  unfold sameI
  by_cases h1 : l.length ≠ m.length
  · simp only [h1, decide_false, Bool.false_and]
    exact Comes.plain hf rfl (H.memo 23 (by decide)) (H.spec 23) rfl (Runs.seq (f23_r0 H.hk) (Runs.seqX (f23_b10_T H.hk H.prim PB rfl rfl hlen hlem (ne_t (ofNat_ne h1))) (by simp))) (.inr rfl) (Nat.le_refl _) rfl rfl rfl
  replace h1 : l.length = m.length := Decidable.not_not.1 h1
  simp only [h1, decide_true, Bool.true_and]
  obtain ⟨sa, ra, a0, a1, as'⟩ : ∃ s1, Runs K 23 27 none (sub1 [1, 0] (bodyOf Tryz.f23)) (T.set (entry 0 [x, y]) 4 (.bo false)) h .normal s1 h ∧ s1.at 0 = x ∧ s1.at 1 = y ∧ s1.at slot = .undef := ⟨_, f23_b10_F H.hk H.prim PB rfl rfl hlen hlem (ne_f (by rw [h1])), rfl, rfl, rfl⟩
  have L := RunQ.loopB (K := K) (f := 23) (n := 27) (c := sub1 [1, 1, 0, 1, 0, 0] (bodyOf Tryz.f23)) (s := T.set sa 5 (.nu .i64 0)) (h := h) (m := m.length) (b := 0) (I := fun i s g => g = h ∧ s.at 0 = x ∧ s.at 1 = y ∧ s.at 5 = .nu .i64 (.ofNat i) ∧ s.at slot = .undef ∧ ((List.range m.length).take i).all (fun i => decide (l.getD i [] = m.getD i [])) = true)
    (E := fun s g => g = h ∧ s.at slot = .undef ∧ (List.range m.length).all (fun i => decide (l.getD i [] = m.getD i [])) = true) (R := fun s g => g = h ∧ s.at slot = .undef ∧ (List.range m.length).all (fun i => decide (l.getD i [] = m.getD i [])) = false ∧ s.at 4 = .bo false) ⟨rfl, a0, a1, rfl, as', rfl⟩
    (fun i s g hi ⟨e, g0, g1, g5, gs, hall⟩ => by
      subst e
      obtain ⟨p, hp1, hp2⟩ := at22 H hx (i := i) (by omega)
      obtain ⟨q, hq1, hq2⟩ := at26 H hy (i := i) (by omega)
      have hr := hxs.get (i := i) (by omega) (by omega)
      have hr' := hys.get (i := i) (by omega) (by omega)
      have c := cmp_comes H (hm l[i] (List.getElem_mem (by omega))) hr hr'
      by_cases hq : l[i]'(by omega) = m[i]
      · exact .inl ⟨_, _, f23_b110100_TF H.hk H.prim PB g5 g0 g1 hlen (lessN (by omega)) hp1 hp2 hr.ceq hq1 hq2 c (ne_f ((cmpI_zero _ _).2 hq)) (inc (by omega)), rfl, g0, g1, rfl, gs, all_snoc (by simpa using hi) hall (by simp only [List.getElem_range, getL (show i < l.length by omega), getL hi, hq, decide_true])⟩
      · exact .inr (.inl ⟨_, _, f23_b110100_TT H.hk H.prim PB g5 g0 g1 hlen (lessN (by omega)) hp1 hp2 hr.ceq hq1 hq2 c (ne_t fun e => hq ((cmpI_zero _ _).1 e)), rfl, gs, all_no (i := i) (by simpa using hi) (by simp only [List.getElem_range, getL (show i < l.length by omega), getL hi, hq, decide_false]), rfl⟩))
    (fun s g ⟨e, g0, g1, g5, gs, hall⟩ => by
      subst e
      exact ⟨_, _, f23_b110100_F H.hk H.prim PB g5 g0 hlen (lessN' (by omega)), rfl, gs, by rw [List.take_of_length_le (by simp)] at hall; exact hall⟩)
  rcases L with ⟨s', h', r, rfl, hs, hv⟩ | ⟨s', h', r, rfl, hs, hv, h4⟩
  · rw [hv]
    exact Comes.plain hf rfl (H.memo 23 (by decide)) (H.spec 23) rfl (Runs.seq (f23_r0 H.hk) (Runs.seq ra (Runs.seq (Runs.seq (f23_r3 H.hk) r) (f23_b111 H.hk H.prim PB)))) (.inr rfl) (Nat.le_refl _) hs rfl rfl
  · rw [hv]
    exact Comes.plain hf rfl (H.memo 23 (by decide)) (H.spec 23) rfl (Runs.seq (f23_r0 H.hk) (Runs.seq ra (Runs.seqX (Runs.seq (f23_r3 H.hk) r) (by simp)))) (.inr rfl) (Nat.le_refl _) hs (by show some [Fr.at s' 4] = _; rw [h4]) rfl
/-- A list of its own, whose rows are those that were there. -/
def Sel (h : Hp) (h' : Hp) (r : CV) (l : List (List Int)) : Prop := ∃ cs, Out h.n h' 45 r cs ∧ Rows h cs l
def cofI (l : List (List Int)) (b : List Int) : List (List Int) := l.filter fun a => hasI a b
def skelP (d : Int) (a : List Int) : Bool := decide (Int.ofNat a.length - 1 ≤ d)
end
end Go.CP
/- Complex: Plain at any lists, the reference's Link. -/
namespace Go.CP
open Go.Proofs
variable [LG] [HK]
theorem Row.offN {N M : Nat} {h h1 : Hp} {el el' : Nat} {x y : CV} {cs ys : List CV} (o : Out N h el x cs) (hM : h.n ≤ M) (r : New M h1 el' y ys) : Row (wipe h1 x) y ys := by
  cases r with
  | emp => exact .none _ _ _
  | out r => exact Row.off o hM r
section
variable {K : Ctx} {h : Hp}
theorem new45 (H : Std K) {N : Nat} {h : Hp} {x y : CV} {a b : List Int} {t' : Nat} (ht' : ∃ e' b' z', tyk K.P t' = .slice e' 1 b' z') (ok : HpOk h) (hN : N ≤ h.n) (r : New N h 3 x (Ints a)) (hy : Row h y (Ints b)) (hb : a.length + b.length < 1099511627776) : ∃ x' h', wApp h x y (tyk K.P 45) (tyk K.P t') = some (x', h') ∧ New N h' 3 x' (Ints (a ++ b)) ∧ Same N h h' ∧ HpOk h' := by
  obtain ⟨x', h', h1, h2, h3, h4⟩ := r.app (z := [.nu .i64 0]) (t' := tyk K.P t') (bytes := 8) ok hN hy (ints_one b) rfl ht' (by simp only [ints_length]; omega) (by simp only [ints_length]; omega)
  refine ⟨x', h', by rw [← h1, H.hP, t45], ?_, h3, h4⟩
  have : Ints (a ++ b) = Ints a ++ Ints b := by simp [Ints]
  rw [this]; exact h2
/-- torusref08.Plain. -/
theorem plain_ret (H : Std K) (ok : HpOk h) {l : List (List Int)} (hl : Sml l) {x : CV} {cs : List CV} (hx : Row h x cs) (hxs : Rows h cs l) : Ret K 16 [x] h fun r h' => ∃ cs', Own h.n h' 45 r cs' l := by
  have hf : K.P.funcs[16]? = some Tryz.f16 := by rw [H.hP]; exact Tryz.func16
  have hcl := hxs.length
  obtain ⟨s', h', r, ok', S, hs, cs', ho⟩ := RunQ.loopE (K := K) (f := 16) (n := 21) (c := sub1 [1, 1, 0, 1, 0, 0] (bodyOf Tryz.f16)) (s := T.set (T.set (T.set (entry 0 [x]) 2 .nils) 3 .nils) 4 (.nu .i64 0)) (h := h) (m := l.length) (b := 0)
    (I := fun i s g => HpOk g ∧ Same h.n h g ∧ s.at 0 = x ∧ s.at 4 = .nu .i64 (.ofNat i) ∧ s.at slot = .undef ∧ ∃ cs', Own h.n g 45 (s.at 3) cs' (l.take i))
    (E := fun s g => HpOk g ∧ Same h.n h g ∧ s.at slot = .undef ∧ ∃ cs', Own h.n g 45 (s.at 3) cs' l) ⟨ok, Same.refl _ _, rfl, rfl, rfl, [], Own.nil⟩
    (fun i s g hi ⟨okg, S, g0, g4, gs, cs', ho⟩ => by
      have hr := hx.mono S ok (Nat.le_refl _)
      have hlen := len22 H hr
      rw [hcl] at hlen
      have hxi := (hxs.mono S ok (Nat.le_refl _)).get (i := i) (by omega) hi
      have hbig := hl.each l[i] (List.getElem_mem hi)
      obtain ⟨F, B, e1, e2⟩ := new_emp (P := K.P) (t := 45) (h := g) (by rw [H.hP]; exact t45)
      have Sp : Same g.n g (g.push B) := Same.push (Nat.le_refl _) B
      obtain ⟨y, h1, a1, a2, a3, a4⟩ := new45 (t' := 46) H (a := []) (b := l[i]) ⟨_, _, _, by rw [H.hP]; exact t46⟩ (okg.push B) Sp.n e2 (hxi.mono Sp okg (Nat.le_refl _)) (by simp; omega)
      rw [List.nil_append] at a2
      have S1 : Same g.n g h1 := Sp.trans a3
      obtain ⟨p, hp1, hp2⟩ := at22 H (hr.mono Sp okg (Nat.le_refl _)) (i := i) (by omega)
      have hol := ho.rows.length
      rw [List.length_take] at hol
      have hll := hl.len
      obtain ⟨F2, B2, x', h2, b1, b2, b3, b4, b5⟩ := Own.app (P := K.P) (t := 26) (by rw [H.hP]; exact t26) a4 (S.trans (S1.le S.n)).n (ho.mono S1 okg) (Row.offN ho.out (Nat.le_refl _) a2) (by decide) (by omega)
      exact ⟨_, _, f16_b110100_T H.hk H.prim H.pl g4 g0 rfl hlen (lessN hi) e1 hp1 hp2 a1 b1 b2 (inc (by omega)), b5, (S.trans (S1.le S.n)).trans b4, g0, rfl, gs, _, by rw [take_snoc hi]; exact b3⟩)
    (fun s g ⟨okg, S, g0, g4, gs, cs', ho⟩ => by
      have hlen := len22 H (hx.mono S ok (Nat.le_refl _))
      rw [hcl] at hlen
      exact ⟨_, _, f16_b110100_F H.hk H.prim H.pl g4 g0 hlen (lessN' (Nat.le_refl _)), okg, S, gs, cs', by rw [List.take_length] at ho; exact ho⟩)
  exact ⟨_, h', Comes.plain hf rfl (H.memo 16 (by decide)) (H.spec 16) rfl (Runs.seq (f16_r0 H.hk) (Runs.seq (f16_r1 H.hk) (Runs.seq (Runs.seq (f16_r2 H.hk) r) (f16_b111 H.hk H.prim H.pl rfl)))) (.inr rfl) S.n hs rfl rfl, S, ok', cs', ho⟩
def rlinkP (l : List (List Int)) (s a : List Int) : Bool := decide (meetI a s = []) && ile 0 (idxI l (sortI (a ++ s)))
end
end Go.CP
/- Complex: the error of a list of simplices; torusref08.Check. -/
namespace Go.CP
open Go.Proofs
variable [LG] [HK]
/-- The error that one simplex of a list gives. -/
def errAt (l : List (List Int)) (i : Nat) : Int :=
  if errS (l.getD i []) ≠ 0 then errS (l.getD i [])
  else if 0 < i ∧ cmpI (l.getD i []) (l.getD (i - 1) []) = 0 then 5
  else if 0 < i ∧ cmpI (l.getD i []) (l.getD (i - 1) []) < 0 then 6
  else if (facetsI (l.getD i [])).all (fun f => decide (f ∈ l)) then 0 else 7
def errG (l : List (List Int)) : Nat → Nat → Int
  | 0, _ => 0
  | n + 1, i => if errAt l i ≠ 0 then errAt l i else errG l n (i + 1)
/-- The error of a list. -/
def errC (l : List (List Int)) : Int := if 1024 < l.length then 3 else errG l l.length 0
theorem errG_stop {l : List (List Int)} : ∀ (n i k : Nat), i ≤ k → k < i + n → (∀ j, i ≤ j → j < k → errAt l j = 0) → errAt l k ≠ 0 → errG l n i = errAt l k := by
  intro n
  induction n with
  | zero => intro i k h1 h2; omega
  | succ n ih =>
    intro i k h1 h2 h3 h4
    rcases Nat.eq_or_lt_of_le h1 with rfl | hlt
    · rw [errG, if_pos h4]
    · rw [errG, if_neg (by simp [h3 i (Nat.le_refl _) hlt])]
      exact ih (i + 1) k hlt (by omega) (fun j hj => h3 j (by omega)) h4
theorem errG_ok {l : List (List Int)} : ∀ (n i : Nat), (∀ j, i ≤ j → j < i + n → errAt l j = 0) → errG l n i = 0 := by
  intro n
  induction n with
  | zero => intro i _; rfl
  | succ n ih =>
    intro i h
    rw [errG, if_neg (by simp [h i (Nat.le_refl _) (by omega)])]
    exact ih (i + 1) fun j h1 h2 => h j (by omega) (by omega)
theorem errG_zero {l : List (List Int)} : ∀ (n i : Nat), errG l n i = 0 → ∀ j, i ≤ j → j < i + n → errAt l j = 0 := by
  intro n
  induction n with
  | zero => intro i _ j h1 h2; omega
  | succ n ih =>
    intro i h j h1 h2
    rw [errG] at h
    by_cases h0 : errAt l i = 0
    · rw [if_neg (by simp [h0])] at h
      rcases Nat.eq_or_lt_of_le h1 with rfl | hlt
      · exact h0
      · exact ih (i + 1) h j hlt (by omega)
    · rw [if_pos h0] at h; exact absurd h h0
section
variable {K : Ctx} {h : Hp}
theorem errAt_face {l : List (List Int)} {i : Nat} (h1 : errS (l.getD i []) = 0) (h2 : 0 < i → cmpI (l.getD i []) (l.getD (i - 1) []) ≠ 0 ∧ ¬ cmpI (l.getD i []) (l.getD (i - 1) []) < 0) : errAt l i = if (facetsI (l.getD i [])).all (fun f => decide (f ∈ l)) then 0 else 7 := by
  unfold errAt
  rw [if_neg (fun hn => hn h1), if_neg (fun h => (h2 h.1).1 h.2), if_neg (fun h => (h2 h.1).2 h.2)]
end
end Go.CP
