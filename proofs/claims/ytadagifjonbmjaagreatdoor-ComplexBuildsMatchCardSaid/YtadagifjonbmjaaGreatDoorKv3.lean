import Derived.Test.YtadagifjonbmjaaGreatDoorKl4
import Derived.Test.YtadagifjonbmjaaGreatDoorKw1
import Derived.Test.YtadagifjonbmjaaGreatDoorKv2
set_option linter.all false
/- Complex: faces, a function that hands its results to a loop; what such a loop keeps. -/
namespace Go.CP
open Go.Proofs
variable [LG] [HK]
def own : CV → Nat → Prop
  | .sl k _ _ _, j => j = k
  | _, _ => False
structure But (O : Nat → Prop) (h h' : Hp) : Prop where
  n : h.n ≤ h'.n
  get : ∀ k, k < h.n → ¬ O k → h'.get k = h.get k
theorem But.refl (O : Nat → Prop) (h : Hp) : But O h h := ⟨Nat.le_refl _, fun _ _ _ => rfl⟩
theorem But.trans {O O' : Nat → Prop} {h h' h'' : Hp} (a : But O h h') (b : But O' h' h'') (s : ∀ k, O' k → O k ∨ h.n ≤ k) : But O h h'' :=
  ⟨Nat.le_trans a.n b.n, fun k hk hO => by
    rw [b.get k (Nat.lt_of_lt_of_le hk a.n) (fun h1 => (s k h1).elim hO fun h2 => by omega), a.get k hk hO]⟩
theorem But.push {O : Nat → Prop} {h h' : Hp} (a : But O h h') (b : HB) : But O h (h'.push b) :=
  ⟨by have := a.n; show h.n ≤ h'.n + 1; omega, fun k hk hO => by have := a.n; rw [Hp.get_push, if_neg (by omega)]; exact a.get k hk hO⟩
theorem But.set {O : Nat → Prop} {h h' : Hp} (a : But O h h') {k : Nat} (hk : h.n ≤ k) (b : HB) : But O h (h'.set k b) :=
  ⟨a.n, fun j hj hO => by rw [Hp.get_set, if_neg (by omega)]; exact a.get j hj hO⟩
theorem But.of {N : Nat} {O : Nat → Prop} {h h' : Hp} (S : Same N h h') (hN : h.n ≤ N) : But O h h' := ⟨S.n, fun k hk _ => S.get k (by omega)⟩
theorem Row.but {h h' : Hp} {x : CV} {cs : List CV} (r : Row h x cs) (hg : ∀ k, own x k → h'.get k = h.get k) : Row h' x cs := by
  cases r with
  | nils => exact .nils
  | sle => exact .sle
  | none k o c => exact .none k o c
  | @some k o c cs hne hs hc hf =>
    have e := hg k rfl
    exact .some hne (by rw [e]; exact hs) hc (by rw [e]; exact hf)
structure YI (K : Ctx) (v : CV) (N0 B L : Nat) (I : List (List Int) → Hp → (Nat → Prop) → Prop) : Prop where
  one : v.one = true
  eq : ceq v v = true
  base : ∀ {d h O}, I d h O → N0 ≤ h.n
  low : ∀ {d h O}, I d h O → ∀ k, O k → k < h.n
  keep : ∀ {d h O} {h' : Hp}, I d h O → h.n ≤ h'.n → (∀ k, k < N0 ∨ O k → h'.get k = h.get k) → I d h' O
  step : ∀ {d h O} {c : CV} {a : List Int}, I d h O → HpOk h → Row h c (Ints a) → d.length < B → a.length ≤ L → (∀ k, own c k → N0 ≤ k ∧ k < h.n ∧ ¬ O k) →
    ∃ h' O', ComesV K v [c] h (.bo true) h' ∧ HpOk h' ∧ I (d ++ [a]) h' O' ∧ But O h h' ∧ ∀ k, O' k → O k ∨ h.n ≤ k ∨ own c k
def subL : List Int → Nat → List (List Int)
  | _, 0 => [[]]
  | [], _ + 1 => []
  | x :: a, n + 1 => (subL a n).map (x :: ·) ++ subL a (n + 1)
theorem subL_zero (a : List Int) : subL a 0 = [[]] := by cases a <;> rfl
theorem subL_short : ∀ (a : List Int) (n : Nat), a.length < n → subL a n = []
  | a, 0, h => by omega
  | [], n + 1, _ => rfl
  | x :: a, n + 1, h => by
    have h' : a.length < n := by simpa using h
    simp only [subL, subL_short a n h', subL_short a (n + 1) (by omega)]; rfl
theorem subL_drop {a : List Int} {i n : Nat} (hi : i < a.length) : subL (a.drop i) (n + 1) = (subL (a.drop (i + 1)) n).map (a[i] :: ·) ++ subL (a.drop (i + 1)) (n + 1) := by
  rw [List.drop_eq_getElem_cons hi]; rfl
theorem z110 : tsz Tryz.prog 110 = some (1, false) := by kernel_rfl
theorem e3 : tzero Tryz.prog 3 = some (.nu .i64 0) := by kernel_rfl
theorem box_lay {t : Nat} {v : CV} (hv : v.one = true) : lBox t v (some (1, false)) = some (fun k => .ptr k 0, .cells [v] 0 t) := by
  have hc := one_cells hv
  have hs : v.sol = true := by simp [CV.sol, hc, hv]
  simp only [lBox, hs, hc, List.length_cons, List.length_nil]; rfl
theorem cell_load {h : Hp} {k t : Nat} {v : CV} (hg : h.get k = .cells [v] 0 t) : qLoad h (.ptr k 0) (some (1, false)) = some v := by
  show hbVal 0 1 false (h.get k) = _
  rw [hg]; rfl
theorem cell_store {h : Hp} {k t : Nat} {v w : CV} (hv : v.one = true) (hg : h.get k = .cells [w] 0 t) : wStore h (.ptr k 0) v (some (1, false)) = some (.undef, h.set k (.cells [v] 0 t)) := by
  have hc := one_cells hv
  have hs : v.sol = true := by simp [CV.sol, hc, hv]
  show wStoreB h k 0 1 v (h.get k) = _
  rw [hg]
  simp only [wStoreB, hs, hc, List.length_cons, List.length_nil]
  rfl
theorem live_lt {h : Hp} (ok : HpOk h) {k : Nat} (hg : h.get k ≠ .dead) : k < h.n := by
  rcases Nat.lt_or_ge k h.n with h1 | h1
  · exact h1
  · exact absurd (ok k h1) hg
theorem heq_cell {n : Int} {e : Nat} : heq (.cells [.nu .i64 n] 0 e) (.cells [.nu .i64 n] 0 e) = true := by
  have e1 : ceqF 10 (.nu .i64 n) (.nu .i64 n) = true := ceq_nu n
  simp only [heq, allZ, ceq, e1]
  rw [Nat.beq_refl, Nat.beq_refl]; rfl
theorem cons_app {h : Hp} (ok : HpOk h) {v : Int} {c : CV} {r : List Int} (hr : Row h c (Ints r)) (hbig : r.length ≤ 1000000) :
    ∃ y g, wApp (h.push (.cells [.nu .i64 v] 0 3)) (.sl h.n 0 1 1) c (.slice 3 1 8 [.nu .i64 0]) (.slice 3 1 8 [.nu .i64 0]) = some (y, g) ∧ Row g y (Ints (v :: r)) ∧ Same h.n h g ∧ HpOk g ∧ ∀ k, own y k → h.n ≤ k ∧ k < g.n := by
  have hr1 : Row (h.push (.cells [.nu .i64 v] 0 3)) c (Ints r) := hr.mono (Same.push (Nat.le_refl _) _) ok (Nat.le_refl _)
  have hcells := hr1.cells
  have hlen := hr1.lenV
  rw [ints_length] at hlen
  have hc : ((Ints r).all CV.one && Nat.beq [CV.nu .i64 0].length 1 && Nat.blt 0 1 && Nat.ble ((CP.lenV (.sl h.n 0 1 1) + r.length) * 8) 70368744177664 && Nat.ble (CP.lenV (.sl h.n 0 1 1) + r.length) 4611686018427387904) = true := by
    rw [ints_one, Nat.ble_eq_true_of_le (show (CP.lenV (.sl h.n 0 1 1) + r.length) * 8 ≤ 70368744177664 by simp only [CP.lenV]; omega), Nat.ble_eq_true_of_le (show CP.lenV (.sl h.n 0 1 1) + r.length ≤ 4611686018427387904 by simp only [CP.lenV]; omega)]; rfl
  have h1 : wApp (h.push (.cells [.nu .i64 v] 0 3)) (.sl h.n 0 1 1) c (.slice 3 1 8 [.nu .i64 0]) (.slice 3 1 8 [.nu .i64 0]) = appX (h.push (.cells [.nu .i64 v] 0 3)) 3 1 (.sl h.n 0 1 1) (Ints r) r.length := by
    simp only [wApp, appC, hcells, hlen, hc]
  rw [h1]
  cases r with
  | nil =>
    refine ⟨_, _, rfl, one_row (h := h) (v := .nu .i64 v) (el := 3), Same.push (Nat.le_refl _) _, ok.push _, fun k hk => ?_⟩
    have : k = h.n := hk
    subst this; exact ⟨Nat.le_refl _, by show h.n < h.n + 1; omega⟩
  | cons w r =>
    have g0 : (h.push (.cells [.nu .i64 v] 0 3)).get h.n = .cells [.nu .i64 v] 0 3 := by rw [Hp.get_push, if_pos rfl]
    have hle : Nat.ble (1 + (w :: r).length) 1 = false := ble_f (by simp)
    refine ⟨.sl (h.n + 1) 0 (1 + (w :: r).length) (1 + (w :: r).length), (h.push (.cells [.nu .i64 v] 0 3)).push (.cells ([.nu .i64 v] ++ Ints (w :: r)) 1 3), ?_, ?_, (Same.push (Nat.le_refl _) _).trans (Same.push (by show h.n ≤ h.n + 1; omega) _), (ok.push _).push _, fun k hk => ?_⟩
    · simp only [appX, show Nat.beq (w :: r).length 0 = false from rfl, hle, appOut, g0, tight]
      rfl
    · have hl : (Ints (v :: w :: r)).length = 1 + (w :: r).length := by simp [Ints]; omega
      have := Row.some (h := (h.push (.cells [.nu .i64 v] 0 3)).push (.cells ([.nu .i64 v] ++ Ints (w :: r)) 1 3)) (k := h.n + 1) (o := 0) (c := 1 + (w :: r).length) (cs := Ints (v :: w :: r)) (by simp [Ints]) (by
        rw [Hp.get_push, if_pos (show h.n + 1 = (h.push (.cells [.nu .i64 v] 0 3)).n from rfl)]
        simp only [hbSub, Nat.zero_add]
        rw [show [CV.nu .i64 v] ++ Ints (w :: r) = Ints (v :: w :: r) from rfl, Nat.ble_eq_true_of_le (Nat.le_refl _)]
        simp only [sub, List.drop_zero, List.take_length]) (by rw [hl]; exact Nat.le_refl _) (by rw [Hp.get_push, if_pos (show h.n + 1 = (h.push (.cells [.nu .i64 v] 0 3)).n from rfl)]; rfl)
      rw [hl] at this
      exact this
    · have : k = h.n + 1 := hk
      subst this; exact ⟨by omega, by show h.n + 1 < h.n + 1 + 1; omega⟩
structure PlansY (K : Ctx) : Prop where
  p142_6 : K.plan 142 6 = some [.take 0, .take 1, .take 2, .take 3, .only 4 [3, 2, 1, 0], .only 5 [3, 2, 1, 0], .only 6 []]
  p142_8 : K.plan 142 8 = some [.take 0, .take 1, .take 2, .take 3, .take 4, .take 5, .only 6 [5, 4, 3, 2, 1, 0], .only 7 [0], .only 8 [], .only 9 []]
noncomputable def rec142 (s : Fr) : Lp := ⟨.ready, none, s, 142, 37, #[25], sub1 [1, 1, 1, 0, 0, 1, 0, 0, 1, 0, 0] (bodyOf Tryz.f142), sub1 [1, 1, 1, 0, 0, 1, 0, 0, 1, 0, 1] (bodyOf Tryz.f142)⟩
structure In142 (kr kv ki ks : Nat) (v x : CV) (a : List Int) (i : Nat) (s : Fr) (h : Hp) (O : Nat → Prop) : Prop where
  base : kr + 1 ≤ h.n
  rc : h.get kr = .lp (rec142 s)
  gv : h.get kv = .cells [v] 0 110
  gi : h.get ki = .cells [.nu .i64 (.ofNat i)] 0 3
  gs : h.get ks = .cells [x] 0 46
  row : Row h x (Ints a)
  nr : ¬ O kr
  nv : ¬ O kv
  ni : ¬ O ki
  ns : ¬ O ks
  nx : ∀ k, own x k → ¬ O k
section
variable {K : Ctx}
theorem ystep142 (H : Std K) (PY : PlansY K) {v : CV} {N0 B L : Nat} {I : List (List Int) → Hp → (Nat → Prop) → Prop} (Y : YI K v N0 B (L + 1) I) (hL : L ≤ 1000000) {kr kv ki ks : Nat} {x : CV} {a : List Int} {i : Nat} {s : Fr} (hi : i < a.length) (hv : kv < kr) (hki : ki < kr) (hks : ks < kr) (hx : ∀ k, own x k → k < kr) (hN : N0 ≤ kr) (s2 : s.at 2 = .ptr ks 0) (s3 : s.at 3 = .ptr kv 0) (s4 : s.at 4 = .ptr ki 0) {d0 : List (List Int)} :
    YI K (.yl kr) (kr + 1) (B - d0.length) L (fun d h O => I (d0 ++ d.map (a[i] :: ·)) h O ∧ In142 kr kv ki ks v x a i s h O) where
  one := rfl
  eq := by show Nat.beq kr kr = true; exact Nat.beq_refl _
  base := fun h => h.2.base
  low := fun h => Y.low h.1
  keep := by
    rintro d h O h' ⟨hI, F⟩ hn hg
    have g : ∀ k, k < kr + 1 → h'.get k = h.get k := fun k hk => hg k (.inl hk)
    exact ⟨Y.keep hI hn (fun k hk => hg k (hk.elim (fun hk => .inl (by omega)) .inr)),
      ⟨Nat.le_trans F.base hn, by rw [g _ (by omega)]; exact F.rc, by rw [g _ (by omega)]; exact F.gv, by rw [g _ (by omega)]; exact F.gi, by rw [g _ (by omega)]; exact F.gs, F.row.but fun k hk => g k (by have := hx k hk; omega), F.nr, F.nv, F.ni, F.ns, F.nx⟩⟩
  step := by
    rintro d h O c r ⟨hI, F⟩ ok hr hd hl hown
    have hb := F.base
    have hrn : kr < h.n := by omega
    let s0 : Fr := T.set (T.set s slot .undef) 25 c
    let h2 : Hp := h.set kr (.lp ⟨.busy, none, s, 142, 37, #[25], sub1 [1, 1, 1, 0, 0, 1, 0, 0, 1, 0, 0] (bodyOf Tryz.f142), sub1 [1, 1, 1, 0, 0, 1, 0, 0, 1, 0, 1] (bodyOf Tryz.f142)⟩)
    have ok2 : HpOk h2 := ok.set hrn _
    have n2 : h2.n = h.n := rfl
    have g2 : ∀ k, k ≠ kr → h2.get k = h.get k := fun k hk => by show (h.set kr _).get k = _; rw [Hp.get_set, if_neg hk]
    have hbe : beginX kr h = some h2 := by simp only [beginX, F.rc, rec142]; rfl
    have ra : Runs K 142 37 (some kr) (sub1 [1, 1, 1, 0, 0, 1, 0, 0, 1, 0, 0] (bodyOf Tryz.f142)) s0 h .normal (T.set s0 5 c) h := f142_r7 H.hk rfl
    have v2 : h2.get kv = .cells [v] 0 110 := by rw [g2 _ (by omega)]; exact F.gv
    have i2 : h2.get ki = .cells [.nu .i64 (.ofNat i)] 0 3 := by rw [g2 _ (by omega)]; exact F.gi
    have x2 : h2.get ks = .cells [x] 0 46 := by rw [g2 _ (by omega)]; exact F.gs
    have row2 : Row h2 x (Ints a) := F.row.but fun k hk => g2 k (by have := hx k hk; omega)
    have c2 : Row h2 c (Ints r) := hr.but fun k hk => g2 k (by have := (hown k hk).1; omega)
    obtain ⟨p, hp1, hp2⟩ := at46 H row2 hi
    obtain ⟨y, g, happ, hy, S, okg, hyo⟩ := cons_app ok2 (v := a[i]) c2 (by omega)
    have hB : ∀ k, k < h2.n → (h2.push (.cells [.nu .i64 a[i]] 0 3)).get k = h2.get k := fun k hk => by rw [Hp.get_push, if_neg (by omega)]
    have tz110 : tsz K.P 110 = some (1, false) := by rw [H.hP]; exact z110
    have tz46 : tsz K.P 46 = some (1, false) := z46' H
    have tz3 : tsz K.P 3 = some (1, false) := by rw [H.hP]; exact z3
    have row2' : Row (h2.push (.cells [.nu .i64 a[i]] 0 3)) x (Ints a) := row2.mono (Same.push (Nat.le_refl _) _) ok2 (Nat.le_refl _)
    obtain ⟨p', hq1, hq2⟩ := at46 H row2' hi
    have hpp : p' = p := by rw [hp1] at hq1; injection hq1 with hq1; exact hq1.symm
    subst hpp
    have hlow := fun k hk => Y.low hI k hk
    have hI2 : I (d0 ++ d.map (a[i] :: ·)) g O := by
      refine Y.keep hI (by have := S.n; omega) (fun k hk => ?_)
      have hk' : k ≠ kr := by
        rcases hk with hk | hk
        · omega
        · rintro rfl; exact F.nr hk
      have hkn : k < h.n := by
        rcases hk with hk | hk
        · omega
        · exact hlow k hk
      rw [S.get k (by omega), g2 k hk']
    have hN0 := Y.base hI
    obtain ⟨h', O', hC, ok', hI', Bt, hO'⟩ := Y.step hI2 okg hy (by simp only [List.length_append, List.length_map]; omega) (by simp only [List.length_cons]; omega) (fun k hk => by
      obtain ⟨h1, h3⟩ := hyo k hk
      exact ⟨by omega, h3, fun hO => by have := hlow k hO; omega⟩)
    have hOO : ∀ k, O' k → O k ∨ h.n ≤ k := fun k hk => by
      rcases hO' k hk with h1 | h1 | h1
      · exact .inl h1
      · exact .inr (by have := S.n; omega)
      · exact .inr (by have := (hyo k h1).1; omega)
    have hg' : ∀ k, k < h.n → ¬ O k → h'.get k = h2.get k := fun k hk hO => by
      have := S.n
      rw [Bt.get k (by omega) hO, S.get k (by omega)]
    have gv2 : h2.n ≤ g.n := S.n
    have y26 : qLoad g (.ptr kv 0) (tsz K.P 110) = some v := by rw [tz110]; exact cell_load (by rw [S.get kv (by omega)]; exact v2)
    have t46' : tyk K.P 46 = .slice 3 1 8 [.nu .i64 0] := by rw [H.hP]; exact t46
    have rb := f142_r8 (K := K) (ro := some kr) (s := T.set s0 5 c) (h := h2) H.hk PY.p142_8 (v3 := .ptr kv 0) (v2 := .ptr ks 0) (v4 := .ptr ki 0) (v5 := c) (r26 := v) (r27 := x) (r28 := .nu .i64 (.ofNat i)) (r29 := p') (r30 := .nu .i64 a[i]) (r33 := y) (r34 := .bo true) (r35 := .bo false) (g1 := g) (g2 := h') s3 s2 s4 rfl
      (by rw [tz110]; exact cell_load v2) Y.eq (by rw [tz46]; exact cell_load x2) row2.ceq (by rw [tz3]; exact cell_load i2) (ceq_nu _) hp1 hp2 (ceq_nu _)
      (by rw [t46']; exact one_slice rfl)
      (by rw [tz110]; exact cell_load (by rw [hB _ (by omega)]; exact v2)) (by rw [tz46]; exact cell_load (by rw [hB _ (by omega)]; exact x2)) (by rw [tz3]; exact cell_load (by rw [hB _ (by omega)]; exact i2)) hq2
      (by rw [Hp.get_push, if_pos rfl]; exact heq_cell) (by rw [t46']; exact happ) y26 hC rfl
    refine ⟨h'.set kr (.lp (rec142 s)), O', ComesY.of (r := rec142 s) (s0 := s0) (s1 := T.set s0 5 c) (h1 := h) (h2 := h2) (h3 := h') (e := .normal) F.rc rfl ra hbe (Runs.blockN (Runs.seq rb (Runs.condF rfl Runs.skip))) (by have := Bt.n; omega) ?_, ok'.set (by have := Bt.n; omega) _, ⟨?_, ?_⟩, ?_, fun k hk => (hOO k hk).elim .inl fun h1 => .inr (.inl h1)⟩
    · have : h'.get kr = .lp ⟨.busy, none, s, 142, 37, #[25], sub1 [1, 1, 1, 0, 0, 1, 0, 0, 1, 0, 0] (bodyOf Tryz.f142), sub1 [1, 1, 1, 0, 0, 1, 0, 0, 1, 0, 1] (bodyOf Tryz.f142)⟩ := by
        rw [hg' kr hrn F.nr]; show (h.set kr _).get kr = _; rw [Hp.get_set, if_pos rfl]
      simp only [endX, this, jumpX]; rfl
    · have hm : d0 ++ (d ++ [r]).map (a[i] :: ·) = (d0 ++ d.map (a[i] :: ·)) ++ [a[i] :: r] := by simp
      rw [hm]
      refine Y.keep hI' (Nat.le_refl _) (fun k hk => ?_)
      rw [Hp.get_set, if_neg]
      rintro rfl
      rcases hk with hk | hk
      · omega
      · rcases hOO k hk with h1 | h1
        · exact F.nr h1
        · omega
    · have gg : ∀ k, k < kr → ¬ O k → (h'.set kr (.lp (rec142 s))).get k = h.get k := fun k hk hO => by
        rw [Hp.get_set, if_neg (by omega), hg' k (by omega) hO, g2 k (by omega)]
      have no : ∀ k, k < h.n → ¬ O k → ¬ O' k := fun k hk hO h1 => (hOO k h1).elim hO fun h3 => by omega
      exact ⟨by have := Bt.n; show kr + 1 ≤ h'.n; omega, by rw [Hp.get_set, if_pos rfl], by rw [gg _ hv F.nv]; exact F.gv, by rw [gg _ hki F.ni]; exact F.gi, by rw [gg _ hks F.ns]; exact F.gs, F.row.but fun k hk => gg k (hx k hk) (F.nx k hk), no _ hrn F.nr, no _ (by omega) F.nv, no _ (by omega) F.ni, no _ (by omega) F.ns, fun k hk => no _ (by have := hx k hk; omega) (F.nx k hk)⟩
    · refine ⟨by have := Bt.n; show h.n ≤ h'.n; omega, fun k hk hO => ?_⟩
      rw [Hp.get_set]
      split
      · rename_i hk'; subst hk'; exact F.rc.symm
      · rename_i hk'; rw [hg' k hk hO, g2 k hk']
end
end Go.CP
namespace Go.CP
open Go.Proofs
variable [LG] [HK]
theorem own_slice {lo hi : Option CV} {h : Hp} {x y : CV} {e b : Nat} {z : List CV} (hq : qSliceV lo hi h x (.slice e 1 b z) = some y) : ∀ k, own y k → own x k := by
  intro k hk
  cases x with
  | nils =>
    simp only [qSliceV, qSliceNil] at hq
    split at hq
    · split at hq
      · injection hq with hq; subst hq; exact hk
      · cases hq
    · cases hq
  | sl j o n c =>
    simp only [qSliceV, qSliceSl] at hq
    split at hq
    · split at hq
      · split at hq
        · split at hq
          · injection hq with hq; subst hq; exact hk
          · cases hq
        · unfold qSliceEnd at hq
          split at hq
          · split at hq
            · injection hq with hq; subst hq; exact hk
            · injection hq with hq; subst hq; exact hk.elim
          · injection hq with hq; subst hq; exact hk.elim
          · cases hq
      · cases hq
    · cases hq
  | _ => simp [qSliceV] at hq
theorem shutX_but : ∀ (ms : List Nat) (h : Hp), ms.Nodup → (∀ k ∈ ms, h.get k = .df) → ∃ h', shutX ms h = some h' ∧ h'.n = h.n ∧ (∀ k, k ∉ ms → h'.get k = h.get k) ∧ (HpOk h → HpOk h')
  | [], h, _, _ => ⟨h, rfl, rfl, fun _ _ => rfl, id⟩
  | k :: ms, h, hd, hg => by
    obtain ⟨hk, hd'⟩ := List.nodup_cons.1 hd
    have g0 := hg k (by simp)
    obtain ⟨h', h1, h2, h3, h4⟩ := shutX_but ms (h.set k .dead) hd' (fun j hj => by
      rw [Hp.get_set, if_neg (by rintro rfl; exact hk hj)]; exact hg j (by simp [hj]))
    refine ⟨h', by simp only [shutX, g0, h1], h2, fun j hj => ?_, fun ok => h4 fun j hj => ?_⟩
    · rw [h3 j (by simp only [List.mem_cons, not_or] at hj; exact hj.2), Hp.get_set, if_neg (by simp only [List.mem_cons, not_or] at hj; exact hj.1)]
    · rw [Hp.get_set]; split
      · rfl
      · exact ok j hj
theorem Comes.shut {K : Ctx} {h : Hp} {f : Nat} {args : List CV} {fn : Func} {r : CV} {vs : List CV} {h1 h2 : Hp} {s1 : Fr} {e : Exit} (hf : K.P.funcs[f]? = some fn) (hb : fn.body.isSome = true) (hm : K.memo f = []) (hsp : ∀ args h, K.spec f args h = none) (hl : Nat.ble args.length fn.ntmps = true) (a : Runs K f fn.ntmps none (bodyOf fn) (entry 0 args) h e s1 h1) (he : e = .normal ∨ e = .ret) (hn : h.n ≤ h1.n) (hs : shutX (marks (s1.at slot)) h1 = some h2) (hr : resX K.P s1 h2 fn.results.toList = some vs) (hp : packR vs = r) : Comes K f args h r h2 := by
  obtain ⟨c, hc⟩ := Option.isSome_iff_exists.1 hb
  have hbo : bodyOf fn = c := by simp [bodyOf, hc]
  rw [hbo] at a
  exact Comes.of hf hc hm hsp hl a he hn hs hr hp
theorem addNN {P : Program} {t : TypeId} {a b : Nat} (h : a + b < 9223372036854775808) : bineq P .add t (.nu .i64 (.ofNat a)) (.nu .i64 (.ofNat b)) = some (.nu .i64 (.ofNat (a + b))) := by
  rw [addI (by simp only [Int.ofNat_eq_natCast]; omega) (by simp only [Int.ofNat_eq_natCast]; omega)]; rfl
section
variable {K : Ctx}
theorem faces_fn (H : Std K) (PD : PlansD K) {h : Hp} {x : CV} {n : Nat} (hx : x.one = true) : Comes K 115 [x, .nu .i64 (.ofNat n)] h (.fn 142 [.ptr (h.n + 1) 0, .ptr h.n 0]) ((h.push (.cells [x] 0 46)).push (.cells [.nu .i64 (.ofNat n)] 0 3)) := by
  have hf : K.P.funcs[115]? = some Tryz.f115 := by rw [H.hP]; exact Tryz.func115
  have tz46 : tsz K.P 46 = some (1, false) := z46' H
  have tz3 : tsz K.P 3 = some (1, false) := by rw [H.hP]; exact z3
  exact Comes.plain hf rfl (H.memo 115 (by decide)) (H.spec 115) rfl (f115_b H.hk H.prim PD (s := entry 0 [x, .nu .i64 (.ofNat n)]) rfl rfl (by rw [tz46]; exact box_lay hx) (by rw [tz3]; exact box_lay rfl)) (.inr rfl) (by show h.n ≤ h.n + 1 + 1; omega) rfl rfl rfl
def FacesAt (K : Ctx) (n : Nat) : Prop := ∀ {v : CV} {N0 B L : Nat} {I : List (List Int) → Hp → (Nat → Prop) → Prop} (_ : YI K v N0 B L I) (_ : L ≤ 1000000) {a : List Int} {x : CV} (_ : a.length < 1099511627776) (_ : n ≤ L) {d : List (List Int)} {h : Hp} {O : Nat → Prop} (_ : I d h O) (_ : d.length + (subL a n).length ≤ B) (_ : HpOk h) {kn ks : Nat} (_ : h.get kn = .cells [.nu .i64 (.ofNat n)] 0 3) (_ : h.get ks = .cells [x] 0 46) (_ : ¬ O kn) (_ : ¬ O ks) (_ : Row h x (Ints a)) (_ : ∀ k, own x k → k < h.n ∧ ¬ O k),
  ∃ h' O', Comes K 142 [v, .ptr kn 0, .ptr ks 0] h (.tup []) h' ∧ HpOk h' ∧ I (d ++ subL a n) h' O' ∧ But O h h' ∧ ∀ k, O' k → O k ∨ h.n ≤ k
theorem faces_inner (H : Std K) (PD : PlansD K) (PY : PlansY K) {n : Nat} (IH : FacesAt K n) {v : CV} {N0 B L : Nat} {I : List (List Int) → Hp → (Nat → Prop) → Prop} (Y : YI K v N0 B (L + 1) I) (hL : L ≤ 1000000) (hn : n ≤ L) {a : List Int} {x : CV} (hbig : a.length < 1099511627776) {i : Nat} (hi : i < a.length) {d : List (List Int)} {h : Hp} {O : Nat → Prop} (hI : I d h O) (hB : d.length + (subL (a.drop (i + 1)) n).length ≤ B) (ok : HpOk h) {kn ks kv ki : Nat} (gn : h.get kn = .cells [.nu .i64 (.ofNat (n + 1))] 0 3) (gs : h.get ks = .cells [x] 0 46) (gv : h.get kv = .cells [v] 0 110) (gi : h.get ki = .cells [.nu .i64 (.ofNat i)] 0 3) (nn : ¬ O kn) (ns : ¬ O ks) (nv : ¬ O kv) (ni : ¬ O ki) (hx : Row h x (Ints a)) (ho : ∀ k, own x k → k < h.n ∧ ¬ O k)
    {s : Fr} (s1 : s.at 1 = .ptr kn 0) (s2 : s.at 2 = .ptr ks 0) (s3 : s.at 3 = .ptr kv 0) (s4 : s.at 4 = .ptr ki 0) :
    ∃ s' h' O', Runs K 142 37 none (sub1 [1, 1, 1, 0, 0, 1, 0] (bodyOf Tryz.f142)) s h .normal s' h' ∧ s'.at 1 = .ptr kn 0 ∧ s'.at 2 = .ptr ks 0 ∧ s'.at 3 = .ptr kv 0 ∧ s'.at 4 = .ptr ki 0 ∧ marks (s'.at slot) = (h.n + 2) :: marks (s.at slot) ∧ h'.get (h.n + 2) = .df ∧ ¬ O' (h.n + 2) ∧ HpOk h' ∧ I (d ++ (subL (a.drop (i + 1)) n).map (a[i] :: ·)) h' O' ∧ But O h h' ∧ h.n + 2 < h'.n ∧ ∀ k, O' k → O k ∨ h.n ≤ k := by
  have tz46 : tsz K.P 46 = some (1, false) := z46' H
  have tz3 : tsz K.P 3 = some (1, false) := by rw [H.hP]; exact z3
  have hne : a ≠ [] := by rintro rfl; simp at hi
  obtain ⟨x', hs1, hs2⟩ := cut46 H hne hx (lo := some (.nu .i64 (.ofNat (i + 1)))) (hi := none) (i := i + 1) (j := a.length) rfl rfl hi (Nat.le_refl _)
  have ht : (a.drop (i + 1)).take (a.length - (i + 1)) = a.drop (i + 1) := List.take_of_length_le (by simp)
  rw [ht] at hs2
  have ho' : ∀ k, own x' k → own x k := own_slice (by rw [show tyk K.P 46 = .slice 3 1 8 [.nu .i64 0] by rw [H.hP]; exact t46] at hs1; exact hs1)
  have kvn := live_lt ok (k := kv) (by rw [gv]; simp)
  have kin := live_lt ok (k := ki) (by rw [gi]; simp)
  have ksn := live_lt ok (k := ks) (by rw [gs]; simp)
  have knn := live_lt ok (k := kn) (by rw [gn]; simp)
  obtain ⟨sA, rA, a1, a2, a3, a4, a24, asl⟩ : ∃ sA, Runs K 142 37 none (sub1 [1, 1, 1, 0, 0, 1, 0, 0, 0] (bodyOf Tryz.f142)) s h .normal sA ((h.push (.cells [x'] 0 46)).push (.cells [.nu .i64 (.ofNat n)] 0 3)) ∧ sA.at 1 = .ptr kn 0 ∧ sA.at 2 = .ptr ks 0 ∧ sA.at 3 = .ptr kv 0 ∧ sA.at 4 = .ptr ki 0 ∧ sA.at 24 = .fn 142 [.ptr (h.n + 1) 0, .ptr h.n 0] ∧ sA.at slot = s.at slot :=
    ⟨_, f142_r6 H.hk PY.p142_6 s2 s4 s1 (by rw [tz46]; exact cell_load gs) hx.ceq (by rw [tz3]; exact cell_load gi) (ceq_nu _) (inc (by omega)) hs1 hs2.ceq (by rw [tz3]; exact cell_load gn) (dec (by omega)) (H.prim _ _) (faces_fn H PD hs2.one), s1, s2, s3, s4, rfl, rfl⟩
  let h1 : Hp := (h.push (.cells [x'] 0 46)).push (.cells [.nu .i64 (.ofNat n)] 0 3)
  let h2 : Hp := (h1.push .df).push (.lp (rec142 sA))
  have ok1 : HpOk h1 := (ok.push _).push _
  have ok2 : HpOk h2 := (ok1.push _).push _
  have n1 : h1.n = h.n + 2 := rfl
  have n2 : h2.n = h.n + 4 := rfl
  have B2 : But O h h2 := ((((But.refl O h).push _).push _).push _).push _
  have g2 : ∀ k, k < h.n → h2.get k = h.get k := fun k hk => by
    show (((((h.push _).push _).push _).push _).get k) = _
    rw [Hp.get_push, if_neg (by show k ≠ h.n + 3; omega), Hp.get_push, if_neg (by show k ≠ h.n + 2; omega), Hp.get_push, if_neg (by show k ≠ h.n + 1; omega), Hp.get_push, if_neg (by omega)]
  have low := fun k hk => Y.low hI k hk
  have gdf : h2.get (h.n + 2) = .df := by
    show (((((h.push _).push _).push _).push _).get (h.n + 2)) = _
    rw [Hp.get_push, if_neg (by show h.n + 2 ≠ h.n + 3; omega), Hp.get_push]; exact if_pos rfl
  have glp : h2.get (h.n + 3) = .lp (rec142 sA) := by
    show (((((h.push _).push _).push _).push _).get (h.n + 3)) = _
    rw [Hp.get_push]; exact if_pos rfl
  have gn2 : h2.get (h.n + 1) = .cells [.nu .i64 (.ofNat n)] 0 3 := by
    show (((((h.push _).push _).push _).push _).get (h.n + 1)) = _
    rw [Hp.get_push, if_neg (by show h.n + 1 ≠ h.n + 3; omega), Hp.get_push, if_neg (by show h.n + 1 ≠ h.n + 2; omega), Hp.get_push]; exact if_pos rfl
  have gs2 : h2.get h.n = .cells [x'] 0 46 := by
    show (((((h.push _).push _).push _).push _).get h.n) = _
    rw [Hp.get_push, if_neg (by show h.n ≠ h.n + 3; omega), Hp.get_push, if_neg (by show h.n ≠ h.n + 2; omega), Hp.get_push, if_neg (by show h.n ≠ h.n + 1; omega), Hp.get_push, if_pos rfl]
  have nO : ∀ k, h.n ≤ k → ¬ O k := fun k hk hO => by have := low k hO; omega
  have hN0 := Y.base hI
  have row2 : Row h2 x (Ints a) := hx.but fun k hk => g2 k (ho k hk).1
  have row2' : Row h2 x' (Ints (a.drop (i + 1))) := hs2.but fun k hk => g2 k (ho k (ho' k hk)).1
  have Y' := ystep142 H PY Y hL (kr := h.n + 3) (kv := kv) (ki := ki) (ks := ks) (x := x) (a := a) (i := i) (s := sA) hi (by omega) (by omega) (by omega) (fun k hk => by have := (ho k hk).1; omega) (by omega) a2 a3 a4 (d0 := d)
  have hI2 : I d h2 O := Y.keep hI B2.n fun k hk => g2 k (hk.elim (fun hk => by omega) (low k))
  obtain ⟨h3, O3, hC, ok3, ⟨hI3, F3⟩, B3, hO3⟩ := IH Y' hL (a := a.drop (i + 1)) (x := x') (by simp only [List.length_drop]; omega) hn (d := []) (h := h2) (O := O)
    ⟨by simpa using hI2, ⟨by omega, glp, by rw [g2 _ kvn]; exact gv, by rw [g2 _ kin]; exact gi, by rw [g2 _ ksn]; exact gs, row2, nO _ (by omega), nv, ni, ns, fun k hk => (ho k hk).2⟩⟩
    (by simp only [List.length_nil]; omega) ok2 gn2 gs2 (nO _ (by omega)) (nO _ (by omega)) row2' (fun k hk => ⟨by have := (ho k (ho' k hk)).1; omega, (ho k (ho' k hk)).2⟩)
  rw [List.nil_append] at hI3
  have hlv : leaveX (h.n + 3) h3 = some (none, h3.set (h.n + 3) (.lp ⟨.exhausted, none, sA, 142, 37, #[25], sub1 [1, 1, 1, 0, 0, 1, 0, 0, 1, 0, 0] (bodyOf Tryz.f142), sub1 [1, 1, 1, 0, 0, 1, 0, 0, 1, 0, 1] (bodyOf Tryz.f142)⟩)) := by
    simp only [leaveX, F3.rc, rec142, jumpC]
  have rB : Runs K 142 37 none (sub1 [1, 1, 1, 0, 0, 1, 0, 0, 1, 0] (bodyOf Tryz.f142)) sA h1 .normal (T.set sA slot (addMark h1.n (sA.at slot))) (h3.set (h.n + 3) (.lp ⟨.exhausted, none, sA, 142, 37, #[25], sub1 [1, 1, 1, 0, 0, 1, 0, 0, 1, 0, 0] (bodyOf Tryz.f142), sub1 [1, 1, 1, 0, 0, 1, 0, 0, 1, 0, 1] (bodyOf Tryz.f142)⟩)) :=
    Runs.range (g := .tmp 24) (ps := #[25]) («as» := sub1 [1, 1, 1, 0, 0, 1, 0, 0, 1, 0, 0] (bodyOf Tryz.f142)) (bd := sub1 [1, 1, 1, 0, 0, 1, 0, 0, 1, 0, 1] (bodyOf Tryz.f142)) (h1 := h2) a24 rfl hC hlv
  have hOO : ∀ k, O3 k → O k ∨ h.n ≤ k := fun k hk => (hO3 k hk).elim .inl fun h1 => .inr (by omega)
  have ndf : ¬ O3 (h.n + 2) := fun h1 => (hO3 _ h1).elim (nO _ (by omega)) fun h2 => by omega
  refine ⟨_, _, O3, Runs.blockN (Runs.seq rA (Runs.blockN rB)), a1, a2, a3, a4, ?_, ?_, ndf, ok3.set (by have := B3.n; omega) _, ?_, ?_, by have := B3.n; show h.n + 2 < h3.n; omega, hOO⟩
  · show marks (addMark h1.n (sA.at slot)) = _
    rw [marks_add, asl, n1]
  · rw [Hp.get_set, if_neg (by omega), B3.get _ (by omega) (nO _ (by omega))]; exact gdf
  · refine Y.keep hI3 (Nat.le_refl _) fun k hk => ?_
    rw [Hp.get_set, if_neg]
    rintro rfl
    exact hk.elim (fun h1 => by omega) F3.nr
  · exact (B2.trans B3 (fun k hk => .inl hk)).set (by omega) _
theorem facesY_loop (H : Std K) (PD : PlansD K) (PY : PlansY K) {n : Nat} (IH : FacesAt K n) {v : CV} {N0 B L : Nat} {I : List (List Int) → Hp → (Nat → Prop) → Prop} (Y : YI K v N0 B (L + 1) I) (hL : L ≤ 1000000) (hn : n ≤ L) {a : List Int} {x : CV} (hbig : a.length < 1099511627776) {h0 : Hp} {O0 : Nat → Prop} {kn ks kv : Nat} (hN : N0 ≤ h0.n) (hkn : kn < h0.n) (hks : ks < h0.n) (hkv : h0.n ≤ kv) (gn : h0.get kn = .cells [.nu .i64 (.ofNat (n + 1))] 0 3) (gs : h0.get ks = .cells [x] 0 46) (nn : ¬ O0 kn) (ns : ¬ O0 ks) (hx : Row h0 x (Ints a)) (ho : ∀ k, own x k → k < h0.n ∧ ¬ O0 k) : ∀ (m i : Nat) (s : Fr) (h : Hp) (O : Nat → Prop) (d : List (List Int)) (ki : Nat), i + m = a.length → s.at 1 = .ptr kn 0 → s.at 2 = .ptr ks 0 → s.at 3 = .ptr kv 0 → s.at 4 = .ptr ki 0 → I d h O → HpOk h → But O0 h0 h → (∀ k, O k → O0 k ∨ h0.n ≤ k) → h.get kv = .cells [v] 0 110 → ¬ O kv → h.get ki = .cells [.nu .i64 (.ofNat i)] 0 3 → h0.n ≤ ki → ¬ O ki → (marks (s.at slot)).Nodup → (∀ k ∈ marks (s.at slot), h.get k = .df ∧ h0.n ≤ k ∧ ¬ O k) → d.length + (subL (a.drop i) (n + 1)).length ≤ B →
    ∃ s' h' O', Runs K 142 37 none (sub1 [1, 1, 1, 0] (bodyOf Tryz.f142)) s h (.exit 0) s' h' ∧ HpOk h' ∧ I (d ++ subL (a.drop i) (n + 1)) h' O' ∧ But O0 h0 h' ∧ (∀ k, O' k → O0 k ∨ h0.n ≤ k) ∧ (marks (s'.at slot)).Nodup ∧ ∀ k ∈ marks (s'.at slot), h'.get k = .df ∧ h0.n ≤ k ∧ ¬ O' k := by
  have tz46 : tsz K.P 46 = some (1, false) := z46' H
  have tz3 : tsz K.P 3 = some (1, false) := by rw [H.hP]; exact z3
  have te3 : tzero K.P 3 = some (.nu .i64 0) := by rw [H.hP]; exact e3
  intro m
  induction m with
  | zero =>
    intro i s h O d ki him s1 s2 s3 s4 hI ok Bt hO gv nv gi hki ni hnd hms hB
    have gn' : h.get kn = .cells [.nu .i64 (.ofNat (n + 1))] 0 3 := by rw [Bt.get _ hkn nn]; exact gn
    have gs' : h.get ks = .cells [x] 0 46 := by rw [Bt.get _ hks ns]; exact gs
    have hx' : Row h x (Ints a) := hx.but fun k hk => Bt.get k (ho k hk).1 (ho k hk).2
    have hlen := len46 H hx'
    rw [ints_length] at hlen
    have hsh : subL (a.drop i) (n + 1) = [] := subL_short _ _ (by simp only [List.length_drop]; omega)
    have hle : bineq K.P .leq 3 (.nu .i64 (.ofNat (i + (n + 1)))) (.nu .i64 (.ofNat a.length)) = some (.bo false) := by
      rw [leqN]; exact congrArg _ (congrArg _ (ble_f (by omega)))
    refine ⟨_, h, O, Runs.loopX (Runs.seqX (Runs.seq (f142_r4 H.hk s4 s1 s2 (by rw [tz3]; exact cell_load gi) (by rw [tz3]; exact cell_load gn') (addNN (by omega)) (by rw [tz46]; exact cell_load gs') hlen hle) (Runs.condF rfl Runs.exit)) (by simp)) (by simp), ok, by rw [hsh, List.append_nil]; exact hI, Bt, hO, hnd, hms⟩
  | succ m ih =>
    intro i s h O d ki him s1 s2 s3 s4 hI ok Bt hO gv nv gi hki ni hnd hms hB
    have hi : i < a.length := by omega
    have hlow := fun k hk => Y.low hI k hk
    have gn' : h.get kn = .cells [.nu .i64 (.ofNat (n + 1))] 0 3 := by rw [Bt.get _ hkn nn]; exact gn
    have gs' : h.get ks = .cells [x] 0 46 := by rw [Bt.get _ hks ns]; exact gs
    have nn' : ¬ O kn := fun h1 => (hO _ h1).elim nn fun h2 => by omega
    have ns' : ¬ O ks := fun h1 => (hO _ h1).elim ns fun h2 => by omega
    have ho' : ∀ k, own x k → k < h.n ∧ ¬ O k := fun k hk => ⟨Nat.lt_of_lt_of_le (ho k hk).1 Bt.n, fun h1 => (hO _ h1).elim (ho k hk).2 fun h2 => by have := (ho k hk).1; omega⟩
    have hx' : Row h x (Ints a) := hx.but fun k hk => Bt.get k (ho k hk).1 (ho k hk).2
    have hlen := len46 H hx'
    rw [ints_length] at hlen
    by_cases hsh : i + (n + 1) ≤ a.length
    · have hle : bineq K.P .leq 3 (.nu .i64 (.ofNat (i + (n + 1)))) (.nu .i64 (.ofNat a.length)) = some (.bo true) := by
        rw [leqN]; exact congrArg _ (congrArg _ (ble_t hsh))
      have hsub := subL_drop (a := a) (n := n) hi
      rw [hsub, List.length_append, List.length_map] at hB
      obtain ⟨sA, rA, a1, a2, a3, a4, asl⟩ : ∃ sA, Runs K 142 37 none (sub1 [1, 1, 1, 0, 0, 0] (bodyOf Tryz.f142)) s h .normal sA h ∧ sA.at 1 = .ptr kn 0 ∧ sA.at 2 = .ptr ks 0 ∧ sA.at 3 = .ptr kv 0 ∧ sA.at 4 = .ptr ki 0 ∧ sA.at slot = s.at slot :=
        ⟨_, Runs.seq (f142_r4 H.hk s4 s1 s2 (by rw [tz3]; exact cell_load gi) (by rw [tz3]; exact cell_load gn') (addNN (by omega)) (by rw [tz46]; exact cell_load gs') hlen hle) (Runs.condT (o := .tmp 15) (y := .exit 0) rfl Runs.skip), s1, s2, s3, s4, rfl⟩
      obtain ⟨sB, h1, O1, rB, b1, b2, b3, b4, bsl, gdf, ndf, ok1, hI1, B1, n1, hO1⟩ := faces_inner H PD PY IH Y hL hn hbig hi hI (by omega) ok gn' gs' gv gi nn' ns' nv ni hx' ho' a1 a2 a3 a4
      rw [asl] at bsl
      have kvn := live_lt ok (k := kv) (by rw [gv]; simp)
      have kin := live_lt ok (k := ki) (by rw [gi]; simp)
      have low1 := fun k hk => Y.low hI1 k hk
      have gi1 : h1.get ki = .cells [.nu .i64 (.ofNat i)] 0 3 := by rw [B1.get _ kin ni]; exact gi
      let h2 : Hp := (h1.push (.cells [.nu .i64 0] 0 3)).set h1.n (.cells [.nu .i64 (.ofNat i)] 0 3)
      let h3 : Hp := h2.set h1.n (.cells [.nu .i64 (.ofNat (i + 1))] 0 3)
      have st1 : wStore (h1.push (.cells [.nu .i64 0] 0 3)) (.ptr h1.n 0) (.nu .i64 (.ofNat i)) (some (1, false)) = some (.undef, h2) := cell_store rfl (by rw [Hp.get_push]; exact if_pos rfl)
      have gi2 : h2.get h1.n = .cells [.nu .i64 (.ofNat i)] 0 3 := by show (Hp.set _ h1.n _).get h1.n = _; rw [Hp.get_set]; exact if_pos rfl
      have st2 : wStore h2 (.ptr h1.n 0) (.nu .i64 (.ofNat (i + 1))) (some (1, false)) = some (.undef, h3) := cell_store rfl gi2
      obtain ⟨sC, rC, c1, c2, c3, c4, csl⟩ : ∃ sC, Runs K 142 37 none (sub1 [1, 1, 1, 0, 0, 1, 1] (bodyOf Tryz.f142)) sB h1 .normal sC h3 ∧ sC.at 1 = .ptr kn 0 ∧ sC.at 2 = .ptr ks 0 ∧ sC.at 3 = .ptr kv 0 ∧ sC.at 4 = .ptr h1.n 0 ∧ sC.at slot = sB.at slot :=
        ⟨_, Runs.seq (Runs.seq (f142_r9 H.hk b4 (by rw [tz3]; exact cell_load gi1)) (f142_r10 (F4 := fun k => .ptr k 0) (B4 := .cells [.nu .i64 0] 0 3) (g2 := h2) H.hk rfl (by rw [te3]; rfl) (by rw [tz3]; exact st1))) (f142_r5 (v4 := .ptr h1.n 0) (g1 := h3) H.hk rfl (by rw [tz3]; exact cell_load gi2) (inc (by omega)) (by rw [tz3]; exact st2)), b1, b2, b3, rfl, rfl⟩
      have g3 : ∀ k, k < h1.n → h3.get k = h1.get k := fun k hk => by
        show ((((h1.push _).set h1.n _).set h1.n _).get k) = _
        rw [Hp.get_set, if_neg (by omega), Hp.get_set, if_neg (by omega), Hp.get_push, if_neg (by omega)]
      have ok3 : HpOk h3 := HpOk.set (HpOk.set (ok1.push _) (by show h1.n < h1.n + 1; omega) _) (by show h1.n < h1.n + 1; omega) _
      have hI3 : I (d ++ (subL (a.drop (i + 1)) n).map (a[i] :: ·)) h3 O1 := Y.keep hI1 (by show h1.n ≤ h1.n + 1; omega) fun k hk => g3 k (hk.elim (fun h4 => by have := Y.base hI1; omega) (low1 k))
      have hO13 : ∀ k, O1 k → O0 k ∨ h0.n ≤ k := fun k hk => (hO1 k hk).elim (hO k) fun h4 => .inr (by have := Bt.n; omega)
      have hn0 := Bt.n
      have B3 : But O0 h0 h3 := ((Bt.trans B1 hO).push _ |>.set (by omega) _).set (by omega) _
      have nO1 : ∀ k, k < h.n → ¬ O k → ¬ O1 k := fun k hk h4 h5 => (hO1 k h5).elim h4 fun h6 => by omega
      obtain ⟨s', h', O', r', ok', hI', B', hO', hnd', hms'⟩ := ih (i + 1) sC h3 O1 (d ++ (subL (a.drop (i + 1)) n).map (a[i] :: ·)) h1.n (by omega) c1 c2 c3 c4 hI3 ok3 B3 hO13
        (by rw [g3 kv (by omega), B1.get _ kvn nv]; exact gv) (nO1 _ kvn nv) (by show (Hp.set _ h1.n _).get h1.n = _; rw [Hp.get_set]; exact if_pos rfl) (by omega) (fun h4 => by have := low1 _ h4; omega)
        (by
          rw [csl, bsl]
          refine List.nodup_cons.2 ⟨fun hm => ?_, hnd⟩
          have := live_lt ok (k := h.n + 2) (by rw [(hms _ hm).1]; simp)
          omega)
        (by
          rw [csl, bsl]
          intro k hk
          rcases List.mem_cons.1 hk with rfl | hk
          · exact ⟨by rw [g3 _ n1]; exact gdf, by omega, ndf⟩
          · obtain ⟨m1, m2, m3⟩ := hms k hk
            have kn' := live_lt ok (k := k) (by rw [m1]; simp)
            exact ⟨by rw [g3 _ (by omega), B1.get _ kn' m3]; exact m1, m2, nO1 _ kn' m3⟩)
        (by rw [List.length_append, List.length_map]; omega)
      refine ⟨s', h', O', Runs.loop (Runs.seq rA (Runs.seq rB rC)) r', ok', by rw [hsub, ← List.append_assoc]; exact hI', B', hO', hnd', hms'⟩
    · have hle : bineq K.P .leq 3 (.nu .i64 (.ofNat (i + (n + 1)))) (.nu .i64 (.ofNat a.length)) = some (.bo false) := by
        rw [leqN]; exact congrArg _ (congrArg _ (ble_f (by omega)))
      have hsh' : subL (a.drop i) (n + 1) = [] := subL_short _ _ (by simp only [List.length_drop]; omega)
      refine ⟨_, h, O, Runs.loopX (Runs.seqX (Runs.seq (f142_r4 H.hk s4 s1 s2 (by rw [tz3]; exact cell_load gi) (by rw [tz3]; exact cell_load gn') (addNN (by omega)) (by rw [tz46]; exact cell_load gs') hlen hle) (Runs.condF rfl Runs.exit)) (by simp)) (by simp), ok, by rw [hsh', List.append_nil]; exact hI, Bt, hO, hnd, hms⟩
theorem faces_at (H : Std K) (PD : PlansD K) (PY : PlansY K) : ∀ n, FacesAt K n := by
  have hf : K.P.funcs[142]? = some Tryz.f142 := by rw [H.hP]; exact Tryz.func142
  have tz46 : tsz K.P 46 = some (1, false) := z46' H
  have tz3 : tsz K.P 3 = some (1, false) := by rw [H.hP]; exact z3
  have tz110 : tsz K.P 110 = some (1, false) := by rw [H.hP]; exact z110
  have te3 : tzero K.P 3 = some (.nu .i64 0) := by rw [H.hP]; exact e3
  intro n
  induction n with
  | zero =>
    intro v N0 B L I Y hL a x hbig hn d h O hI hB ok kn ks gn gs nn ns hx ho
    rw [subL_zero] at hB ⊢
    have low := fun k hk => Y.low hI k hk
    let h1 : Hp := h.push (.cells [v] 0 110)
    have hI1 : I d h1 O := Y.keep hI (by show h.n ≤ h.n + 1; omega) fun k hk => by
      rw [Hp.get_push, if_neg]; have := Y.base hI; have := hk.elim (fun h1 => by omega) (low k); omega
    obtain ⟨h', O', hC, ok', hI', Bt, hO'⟩ := Y.step (c := .nils) (a := []) hI1 (ok.push _) .nils (by simp only [List.length_cons, List.length_nil] at hB; omega) (by simp) (fun k hk => hk.elim)
    have knn := live_lt ok (k := kn) (by rw [gn]; simp)
    obtain ⟨sA, rA, a1, a3, as1⟩ : ∃ sA, Runs K 142 37 none (sub1 [0] (bodyOf Tryz.f142)) (entry 0 [v, .ptr kn 0, .ptr ks 0]) h .normal sA h1 ∧ sA.at 1 = .ptr kn 0 ∧ sA.at 3 = .ptr h.n 0 ∧ sA.at slot = .undef :=
      ⟨_, f142_r0 H.hk (F3 := fun k => .ptr k 0) (B3 := .cells [v] 0 110) rfl (by rw [tz110]; exact box_lay Y.one), rfl, rfl, rfl⟩
    have g1 : h1.get kn = .cells [.nu .i64 (.ofNat 0)] 0 3 := by rw [Hp.get_push, if_neg (by omega)]; exact gn
    obtain ⟨sB, rB, bs⟩ : ∃ sB, Runs K 142 37 none (sub1 [1, 0] (bodyOf Tryz.f142)) sA h1 .ret sB h' ∧ sB.at slot = .undef :=
      ⟨_, Runs.seq (f142_r1 H.hk a1 (by rw [tz3]; exact cell_load g1) (eq_t rfl)) (Runs.condT (o := .tmp 7) rfl (Runs.seq (f142_r2 (v3 := .ptr h.n 0) (r8 := v) H.hk a3 (by rw [tz110]; exact cell_load (by rw [Hp.get_push]; exact if_pos rfl)) hC) Runs.ret)), as1⟩
    refine ⟨h', O', Comes.plain hf rfl (H.memo 142 (by decide)) (H.spec 142) rfl (Runs.seq rA (Runs.seqX rB (by simp))) (.inr rfl) (by have := Bt.n; show h.n ≤ h'.n; exact Nat.le_trans (Nat.le_succ _) this) bs rfl rfl, ok', hI', ((But.refl O h).push _).trans Bt (fun k hk => .inl hk), fun k hk => ?_⟩
    rcases hO' k hk with h2 | h2 | h2
    · exact .inl h2
    · exact .inr (Nat.le_trans (Nat.le_succ _) h2)
    · exact h2.elim
  | succ n ih =>
    intro v N0 B L I Y hL a x hbig hn d h O hI hB ok kn ks gn gs nn ns hx ho
    obtain ⟨L, rfl⟩ : ∃ l, L = l + 1 := ⟨L - 1, by omega⟩
    have low := fun k hk => Y.low hI k hk
    have knn := live_lt ok (k := kn) (by rw [gn]; simp)
    have ksn := live_lt ok (k := ks) (by rw [gs]; simp)
    let h1 : Hp := h.push (.cells [v] 0 110)
    let h2 : Hp := (h1.push (.cells [.nu .i64 0] 0 3)).set (h.n + 1) (.cells [.nu .i64 0] 0 3)
    have g2 : ∀ k, k < h.n → h2.get k = h.get k := fun k hk => by
      show ((((h.push _).push _).set (h.n + 1) _).get k) = _
      rw [Hp.get_set, if_neg (by omega), Hp.get_push, if_neg (by show k ≠ h.n + 1; omega), Hp.get_push, if_neg (by omega)]
    have ok2 : HpOk h2 := HpOk.set ((ok.push _).push _) (by show h.n + 1 < h.n + 1 + 1; omega) _
    have n2 : h2.n = h.n + 2 := rfl
    have hI2 : I d h2 O := Y.keep hI (by omega) fun k hk => g2 k (hk.elim (fun h1 => by have := Y.base hI; omega) (low k))
    have B2 : But O h h2 := (((But.refl O h).push _).push _).set (by omega) _
    have gv2 : h2.get h.n = .cells [v] 0 110 := by
      show ((((h.push _).push _).set (h.n + 1) _).get h.n) = _
      rw [Hp.get_set, if_neg (by omega), Hp.get_push, if_neg (by show h.n ≠ h.n + 1; omega), Hp.get_push]; exact if_pos rfl
    have gi2 : h2.get (h.n + 1) = .cells [.nu .i64 (.ofNat 0)] 0 3 := by
      show ((((h.push _).push _).set (h.n + 1) _).get (h.n + 1)) = _
      rw [Hp.get_set]; exact if_pos rfl
    have st : wStore (h1.push (.cells [.nu .i64 0] 0 3)) (.ptr (h.n + 1) 0) (.nu .i64 0) (some (1, false)) = some (.undef, h2) := cell_store (t := 3) (w := .nu .i64 0) rfl (by rw [Hp.get_push]; exact if_pos rfl)
    obtain ⟨sA, rA, a1, a2, a3, as1⟩ : ∃ sA, Runs K 142 37 none (sub1 [0] (bodyOf Tryz.f142)) (entry 0 [v, .ptr kn 0, .ptr ks 0]) h .normal sA h1 ∧ sA.at 1 = .ptr kn 0 ∧ sA.at 2 = .ptr ks 0 ∧ sA.at 3 = .ptr h.n 0 ∧ sA.at slot = .undef :=
      ⟨_, f142_r0 H.hk (F3 := fun k => .ptr k 0) (B3 := .cells [v] 0 110) rfl (by rw [tz110]; exact box_lay Y.one), rfl, rfl, rfl, rfl⟩
    have g1 : h1.get kn = .cells [.nu .i64 (.ofNat (n + 1))] 0 3 := by rw [Hp.get_push, if_neg (by omega)]; exact gn
    obtain ⟨sZ, rZ, z1, z2, z3', zs⟩ : ∃ sZ, Runs K 142 37 none (sub1 [1, 0] (bodyOf Tryz.f142)) sA h1 .normal sZ h1 ∧ sZ.at 1 = .ptr kn 0 ∧ sZ.at 2 = .ptr ks 0 ∧ sZ.at 3 = .ptr h.n 0 ∧ sZ.at slot = .undef :=
      ⟨_, Runs.seq (f142_r1 H.hk a1 (by rw [tz3]; exact cell_load g1) (eq_f (by simp only [Int.ofNat_eq_natCast]; omega))) (Runs.condF (o := .tmp 7) rfl Runs.skip), a1, a2, a3, as1⟩
    obtain ⟨sB, rB, b1, b2, b3, b4, bs⟩ : ∃ sB, Runs K 142 37 none (sub1 [1, 1, 0] (bodyOf Tryz.f142)) sZ h1 .normal sB h2 ∧ sB.at 1 = .ptr kn 0 ∧ sB.at 2 = .ptr ks 0 ∧ sB.at 3 = .ptr h.n 0 ∧ sB.at 4 = .ptr (h.n + 1) 0 ∧ sB.at slot = .undef :=
      ⟨_, (f142_r3 (F4 := fun k => .ptr k 0) (B4 := .cells [.nu .i64 0] 0 3) (g2 := h2) H.hk (by rw [te3]; rfl) (by rw [tz3]; exact st)), z1, z2, z3', rfl, zs⟩
    have hsl : marks (sB.at slot) = [] := by rw [bs]; rfl
    obtain ⟨s', h3, O3, r3, ok3, hI3, B3, hO3, hnd, hms⟩ := facesY_loop H PD PY ih Y (by omega) (by omega) hbig (h0 := h) (O0 := O) (kv := h.n) (Y.base hI) knn ksn (Nat.le_refl _) gn gs nn ns hx ho a.length 0 sB h2 O d (h.n + 1) (by omega) b1 b2 b3 b4 hI2 ok2 B2 (fun k hk => .inl hk) gv2 (fun h4 => by have := low _ h4; omega) gi2 (by omega) (fun h4 => by have := low _ h4; omega) (by rw [hsl]; exact List.nodup_nil) (by rw [hsl]; simp) (by simpa using hB)
    obtain ⟨h4, sh1, sh2, sh3, sh4⟩ := shutX_but _ h3 hnd (fun k hk => (hms k hk).1)
    rw [List.drop_zero] at hI3
    refine ⟨h4, O3, Comes.shut hf rfl (H.memo 142 (by decide)) (H.spec 142) rfl (e := .normal) (h1 := h3) (s1 := s') ?_ (.inl rfl) B3.n sh1 rfl rfl, sh4 ok3, ?_, ?_, hO3⟩
    · exact Runs.seq rA (Runs.seq rZ (Runs.seq rB (Runs.blockE r3)))
    · exact Y.keep hI3 (by omega) fun k hk => sh3 k fun hm => by
        obtain ⟨m1, m2, m3⟩ := hms k hm
        exact hk.elim (fun h5 => by have := Y.base hI; omega) m3
    · refine ⟨by have := B3.n; omega, fun k hk hO => ?_⟩
      rw [sh3 k (fun hm => by have := (hms k hm).2.1; omega)]; exact B3.get k hk hO
end
end Go.CP
namespace Go.CP
open Go.Proofs
variable [LG] [HK]
theorem wipe_off {h : Hp} {x : CV} {k : Nat} (hk : ¬ own x k) : (wipe h x).get k = h.get k := by
  cases x with
  | sl j o n c => show (h.set j .dead).get k = _; rw [Hp.get_set, if_neg]; exact fun h1 => hk h1
  | _ => rfl
theorem wipe_congr {h h' : Hp} {x : CV} {k : Nat} (hk : h'.get k = h.get k) : (wipe h' x).get k = (wipe h x).get k := by
  cases x with
  | sl j o n c => show (h'.set j .dead).get k = (h.set j .dead).get k; rw [Hp.get_set, Hp.get_set]; split; · rfl
                  · exact hk
  | _ => exact hk
theorem Rows.but {h h' : Hp} {xs : List CV} {l : List (List Int)} (r : Rows h xs l) (hg : ∀ c ∈ xs, ∀ k, own c k → h'.get k = h.get k) : Rows h' xs l := by
  induction r with
  | nil => exact .nil
  | cons hx _ ih => exact .cons (hx.but (hg _ (by simp))) (ih fun c hc => hg c (by simp [hc]))
theorem Own.but {N el : Nat} {h h' : Hp} {x : CV} {xs : List CV} {l : List (List Int)} (r : Own N h el x xs l) (hn : h.n ≤ h'.n) (hx : ∀ k, own x k → h'.get k = h.get k) (hg : ∀ c ∈ xs, ∀ k, own c k → h'.get k = h.get k) : Own N h' el x xs l := by
  refine ⟨?_, r.rows.but fun c hc k hk => wipe_congr (hg c hc k hk)⟩
  cases r.out with
  | nils => exact .nils
  | some hk hkn hne hs => exact .some hk (Nat.lt_of_lt_of_le hkn hn) hne (by rw [hx _ rfl]; exact hs)
theorem Own.blkAt {N el : Nat} {h : Hp} {x : CV} {xs : List CV} {l : List (List Int)} (r : Own N h el x xs l) {k : Nat} (hk : own x k) : N ≤ k ∧ k < h.n ∧ ∃ cs, h.get k = .cells cs 1 el := by
  cases r.out with
  | nils => exact hk.elim
  | some h1 h2 hne hs => have : k = _ := hk; subst this; exact ⟨h1, h2, _, hs⟩
theorem Own.app' {P : Program} {N el b t : Nat} {h : Hp} {z0 x y : CV} {cs : List CV} {l : List (List Int)} {a : List Int} (ht : tyk P t = .slice el 1 b [z0]) (ok : HpOk h) (hN : N ≤ h.n) (O : Own N h el x cs l) (hy : Row (wipe h x) y (Ints a)) (hb : b ≤ 64) (hn : cs.length < 1099511627776) :
    ∃ F B x' h', lSlice 1 [(0, y)] (tyk P t) = some (F, B) ∧ wApp (h.push B) x (F h.n) (tyk P t) (tyk P t) = some (x', h') ∧ Own N h' el x' (cs ++ [y]) (l ++ [a]) ∧ But (own x) h h' ∧ HpOk h' ∧ ∀ k, own x' k → h.n ≤ k := by
  obtain ⟨F, B, x', h', h1, h2, h3, h4, h5⟩ := O.app ht ok hN hy hb hn
  have hv : y.one = true := hy.one
  have e1 : lSlice 1 [(0, y)] (tyk P t) = some (fun k => .sl k 0 1 1, .cells [y] 0 el) := by rw [ht]; exact one_slice hv
  rw [h1] at e1
  injection e1 with e1
  injection e1 with eF eB
  subst eF; subst eB
  have r' : Out N (h.push (.cells [y] 0 el)) el x cs := O.out.mono (Same.push (Nat.le_refl _) _) (Nat.le_refl _)
  have hb2 : (cs.length + [y].length) * b ≤ 70368744177664 := by
    have : (cs.length + 1) * b ≤ 1099511627776 * 64 := Nat.mul_le_mul (by omega) hb
    simpa using this
  have e := r'.appE (z := [z0]) (t' := .slice el 1 b [z0]) (bytes := b) (one_row (h := h) (v := y) (el := el)) (by simp) (by simp [hv]) rfl ⟨_, _, _, rfl⟩ hb2 (by simp; omega)
  rw [← ht] at e
  have h2' := h2
  rw [e] at h2'
  injection h2' with h2'
  injection h2' with ex eh
  refine ⟨_, _, x', h', h1, h2, h3, ⟨?_, fun k hk hO => ?_⟩, h5, fun k hk => ?_⟩
  · rw [← eh]; show h.n ≤ (wipe (h.push (.cells [y] 0 el)) x).n + 1; rw [wipe_n]; show h.n ≤ h.n + 1 + 1; omega
  · rw [← eh, Hp.get_push, if_neg (by rw [wipe_n]; show k ≠ h.n + 1; omega), wipe_off hO, Hp.get_push, if_neg (by omega)]
  · rw [← ex] at hk
    have : k = h.n + 1 := hk
    omega
noncomputable def rec114 (s : Fr) : Lp := ⟨.ready, none, s, 114, 13, #[7], sub1 [1, 0, 1, 0, 0] (bodyOf Tryz.f114), sub1 [1, 0, 1, 0, 1] (bodyOf Tryz.f114)⟩
structure In114 (N kb kr : Nat) (s : Fr) (l0 : List (List Int)) (x : CV) (xs : List CV) (d : List (List Int)) (h : Hp) (O : Nat → Prop) : Prop where
  base : kr + 1 ≤ h.n
  rc : h.get kr = .lp (rec114 s)
  nr : ¬ O kr
  gb : h.get kb = .cells [x] 0 22
  ob : O kb
  own' : Own N h 46 x xs (l0 ++ d)
  ox : ∀ k, own x k → O k
  oc : ∀ c ∈ xs, ∀ k, own c k → (k < kb ∨ O k) ∧ k ≠ kb
  lo : ∀ k, O k → N ≤ k ∧ k < h.n
section
variable {K : Ctx}
theorem ystep114 (H : Std K) {N kb kr B L : Nat} {s : Fr} {l0 : List (List Int)} (hN : N ≤ kb) (hkb : kb < kr) (hb : l0.length + B ≤ 1000000) (s2 : s.at 2 = .ptr kb 0) :
    YI K (.yl kr) (kr + 1) B L (fun d h O => ∃ x xs, In114 N kb kr s l0 x xs d h O) where
  one := rfl
  eq := by show Nat.beq kr kr = true; exact Nat.beq_refl _
  base := fun ⟨_, _, F⟩ => F.base
  low := fun ⟨_, _, F⟩ k hk => (F.lo k hk).2
  keep := by
    rintro d h O h' ⟨x, xs, F⟩ hn hg
    have := F.base
    exact ⟨x, xs, ⟨by omega, by rw [hg kr (.inl (by omega))]; exact F.rc, F.nr, by rw [hg kb (.inr F.ob)]; exact F.gb, F.ob, F.own'.but hn (fun k hk => hg k (.inr (F.ox k hk))) (fun c hc k hk => hg k ((F.oc c hc k hk).1.elim (fun h1 => .inl (by omega)) .inr)), F.ox, F.oc, fun k hk => ⟨(F.lo k hk).1, Nat.lt_of_lt_of_le (F.lo k hk).2 hn⟩⟩⟩
  step := by
    rintro d h O c a ⟨x, xs, F⟩ ok hr hd hl hown
    have hbase := F.base
    have hrn : kr < h.n := by omega
    let s0 : Fr := T.set (T.set s slot .undef) 7 c
    let h2 : Hp := h.set kr (.lp ⟨.busy, none, s, 114, 13, #[7], sub1 [1, 0, 1, 0, 0] (bodyOf Tryz.f114), sub1 [1, 0, 1, 0, 1] (bodyOf Tryz.f114)⟩)
    have ok2 : HpOk h2 := ok.set hrn _
    have g2 : ∀ k, k ≠ kr → h2.get k = h.get k := fun k hk => by show (h.set kr _).get k = _; rw [Hp.get_set, if_neg hk]
    have hbe : beginX kr h = some h2 := by simp only [beginX, F.rc, rec114]; rfl
    have ra : Runs K 114 13 (some kr) (sub1 [1, 0, 1, 0, 0] (bodyOf Tryz.f114)) s0 h .normal (T.set s0 5 c) h := f114_r2 H.hk rfl
    have nxr : ∀ k, own x k → k ≠ kr := fun k hk h1 => F.nr (h1 ▸ F.ox k hk)
    have O2 : Own N h2 46 x xs (l0 ++ d) := F.own'.but (Nat.le_refl _) (fun k hk => g2 k (nxr k hk)) (fun c' hc k hk => g2 k (by
      rcases (F.oc c' hc k hk).1 with h1 | h1
      · omega
      · rintro rfl; exact F.nr h1))
    have ncx : ∀ k, own c k → ¬ own x k := fun k hk h1 => (hown k hk).2.2 (F.ox k h1)
    have c2 : Row (wipe h2 x) c (Ints a) := hr.but fun k hk => by rw [wipe_off (ncx k hk)]; exact g2 k (by have := (hown k hk).1; omega)
    have hlen := F.own'.rows.length
    rw [List.length_append] at hlen
    obtain ⟨FF, BB, x', g, e1, e2, O3, Bt, okg, hx'⟩ := O2.app' (P := K.P) (t := 22) (by rw [H.hP]; exact t22) ok2 (show N ≤ h.n by omega) c2 (by omega) (by omega)
    have tz22 : tsz K.P 22 = some (1, false) := z22' H
    have gb2 : h2.get kb = .cells [x] 0 22 := by rw [g2 _ (by omega)]; exact F.gb
    have nbx : ¬ own x kb := fun h1 => by
      obtain ⟨_, _, cs, h3⟩ := F.own'.blkAt h1
      rw [F.gb] at h3; injection h3 with _ h3; cases h3
    have kbn : kb < h.n := by omega
    have gbg : g.get kb = .cells [x] 0 22 := by rw [Bt.get kb kbn nbx]; exact gb2
    let g3 : Hp := g.set kb (.cells [x'] 0 22)
    have hx1 : x'.one = true := O3.out.row.one
    have hst : wStore g (.ptr kb 0) x' (tsz K.P 22) = some (.undef, g3) := by rw [tz22]; exact cell_store hx1 gbg
    have rb := f114_r3 (K := K) (ro := some kr) (s := T.set s0 5 c) (h := h2) H.hk (v2 := .ptr kb 0) (v5 := c) (r8 := x) (r11 := x') (g1 := g) (g2 := g3) s2 rfl (by rw [tz22]; exact cell_load gb2) e1 e2 hst
    have gn : h.n ≤ g.n := Bt.n
    let h4 : Hp := g3.set kr (.lp (rec114 s))
    have g4 : ∀ k, k ≠ kr → k ≠ kb → h4.get k = g.get k := fun k h5 h6 => by
      show ((g.set kb _).set kr _).get k = _
      rw [Hp.get_set, if_neg h5, Hp.get_set, if_neg h6]
    have xn : ∀ k, own x' k → h.n ≤ k := hx'
    refine ⟨h4, fun k => O k ∨ own x' k ∨ own c k, ComesY.of (r := rec114 s) (s0 := s0) (s1 := T.set s0 5 c) (h1 := h) (h2 := h2) (h3 := g3) (e := .normal) F.rc rfl ra hbe (Runs.blockN rb) gn ?_, HpOk.set (HpOk.set okg (by omega) _) (by show kr < g.n; omega) _, ⟨x', xs ++ [c], ⟨by show kr + 1 ≤ g.n; omega, by show ((g.set kb _).set kr _).get kr = _; rw [Hp.get_set]; exact if_pos rfl, ?_, ?_, .inl F.ob, ?_, fun k hk => .inr (.inl hk), ?_, ?_⟩⟩, ?_, ?_⟩
    · have : g3.get kr = .lp ⟨.busy, none, s, 114, 13, #[7], sub1 [1, 0, 1, 0, 0] (bodyOf Tryz.f114), sub1 [1, 0, 1, 0, 1] (bodyOf Tryz.f114)⟩ := by
        show (g.set kb _).get kr = _
        rw [Hp.get_set, if_neg (by omega), Bt.get kr hrn (fun h1 => F.nr (F.ox _ h1))]
        show (h.set kr _).get kr = _; rw [Hp.get_set, if_pos rfl]
      simp only [endX, this, jumpX]; rfl
    · rintro (h1 | h1 | h1)
      · exact F.nr h1
      · have := xn _ h1; omega
      · have := (hown _ h1).1; omega
    · show ((g.set kb _).set kr _).get kb = _
      rw [Hp.get_set, if_neg (by omega), Hp.get_set]; exact if_pos rfl
    · rw [← List.append_assoc]
      refine O3.but (Nat.le_refl _) (fun k hk => g4 k (by have := xn k hk; omega) (by have := xn k hk; omega)) fun c' hc k hk => ?_
      rcases List.mem_append.1 hc with hc | hc
      · obtain ⟨h5, h6⟩ := F.oc c' hc k hk
        exact g4 k (by rcases h5 with h5 | h5; · omega
                       · rintro rfl; exact F.nr h5) h6
      · rw [List.mem_singleton] at hc
        subst hc
        have := (hown k hk).1
        exact g4 k (by omega) (by omega)
    · intro c' hc k hk
      rcases List.mem_append.1 hc with hc | hc
      · obtain ⟨h5, h6⟩ := F.oc c' hc k hk
        exact ⟨h5.elim .inl fun h7 => .inr (.inl h7), h6⟩
      · rw [List.mem_singleton] at hc
        subst hc
        have := (hown k hk).1
        exact ⟨.inr (.inr (.inr hk)), by omega⟩
    · rintro k (h1 | h1 | h1)
      · obtain ⟨h5, h6⟩ := F.lo k h1
        exact ⟨h5, by show k < g.n; omega⟩
      · have h5 := (O3.blkAt h1).2.1
        exact ⟨(O3.blkAt h1).1, h5⟩
      · obtain ⟨h5, h6, _⟩ := hown k h1
        exact ⟨by omega, by show k < g.n; omega⟩
    · refine ⟨gn, fun k hk hO => ?_⟩
      by_cases h5 : k = kr
      · subst h5
        show ((g.set kb _).set k _).get k = _
        rw [Hp.get_set, if_pos rfl]; exact F.rc.symm
      · rw [g4 k h5 (fun h6 => hO (h6 ▸ F.ob)), Bt.get k hk (fun h6 => hO (F.ox _ h6)), g2 k h5]
    · rintro k (h1 | h1 | h1)
      · exact .inl h1
      · exact .inr (.inl (xn k h1))
      · exact .inr (.inr h1)
theorem appseq_comes (H : Std K) (PD : PlansD K) (PY : PlansY K) {N : Nat} {h : Hp} {o x : CV} {cs : List CV} {l : List (List Int)} {a : List Int} {n kn ks : Nat} (ok : HpOk h) (hN : N ≤ h.n) (O : Own N h 46 o cs l) (oc : ∀ c ∈ cs, ∀ k, own c k → k < h.n) (hn : n ≤ 1000) (hl : l.length + (subL a n).length ≤ 1000000) (ha : a.length ≤ 1000) (gn : h.get kn = .cells [.nu .i64 (.ofNat n)] 0 3) (gs : h.get ks = .cells [x] 0 46) (hx : Row h x (Ints a)) (ho : ∀ k, own x k → k < N) :
    ∃ o' cs' h', Comes K 114 [o, .fn 142 [.ptr kn 0, .ptr ks 0]] h o' h' ∧ Own N h' 46 o' cs' (l ++ subL a n) ∧ (∀ c ∈ cs', ∀ k, own c k → k < h'.n) ∧ Same N h h' ∧ HpOk h' := by
  have hf : K.P.funcs[114]? = some Tryz.f114 := by rw [H.hP]; exact Tryz.func114
  have tz22 : tsz K.P 22 = some (1, false) := z22' H
  have ho1 : o.one = true := O.out.row.one
  have knn := live_lt ok (k := kn) (by rw [gn]; simp)
  have ksn := live_lt ok (k := ks) (by rw [gs]; simp)
  let h1 : Hp := h.push (.cells [o] 0 22)
  obtain ⟨sA, rA, a1, a2, as1⟩ : ∃ sA, Runs K 114 13 none (sub1 [0] (bodyOf Tryz.f114)) (entry 0 [o, .fn 142 [.ptr kn 0, .ptr ks 0]]) h .normal sA h1 ∧ sA.at 1 = .fn 142 [.ptr kn 0, .ptr ks 0] ∧ sA.at 2 = .ptr h.n 0 ∧ sA.at slot = .undef :=
    ⟨_, f114_r0 H.hk (F2 := fun k => .ptr k 0) (B2 := .cells [o] 0 22) rfl (by rw [tz22]; exact box_lay ho1), rfl, rfl, rfl⟩
  obtain ⟨sB, rB, b2, b6, bs⟩ : ∃ sB, Runs K 114 13 none (sub1 [1, 0, 0] (bodyOf Tryz.f114)) sA h1 .normal sB h1 ∧ sB.at 2 = .ptr h.n 0 ∧ sB.at 6 = .fn 142 [.ptr kn 0, .ptr ks 0] ∧ sB.at slot = .undef :=
    ⟨_, f114_r1 H.hk a1, a2, rfl, as1⟩
  let h2 : Hp := (h1.push .df).push (.lp (rec114 sB))
  have n2 : h2.n = h.n + 3 := rfl
  have ok2 : HpOk h2 := ((ok.push _).push _).push _
  have g2 : ∀ k, k < h.n → h2.get k = h.get k := fun k hk => by
    show ((((h.push _).push _).push _).get k) = _
    rw [Hp.get_push, if_neg (by show k ≠ h.n + 2; omega), Hp.get_push, if_neg (by show k ≠ h.n + 1; omega), Hp.get_push, if_neg (by omega)]
  have gb : h2.get h.n = .cells [o] 0 22 := by
    show ((((h.push _).push _).push _).get h.n) = _
    rw [Hp.get_push, if_neg (by show h.n ≠ h.n + 2; omega), Hp.get_push, if_neg (by show h.n ≠ h.n + 1; omega), Hp.get_push]; exact if_pos rfl
  have gdf : h2.get (h.n + 1) = .df := by
    show ((((h.push _).push _).push _).get (h.n + 1)) = _
    rw [Hp.get_push, if_neg (by show h.n + 1 ≠ h.n + 2; omega), Hp.get_push]; exact if_pos rfl
  have glp : h2.get (h.n + 2) = .lp (rec114 sB) := by
    show ((((h.push _).push _).push _).get (h.n + 2)) = _
    rw [Hp.get_push]; exact if_pos rfl
  have nno : ∀ {k : Nat} {w : CV} {e : Nat}, h.get k = .cells [w] 0 e → ¬ own o k := fun {k w e} hg h1 => by
    obtain ⟨_, _, cs, h3⟩ := O.blkAt h1
    rw [hg] at h3; injection h3 with _ h3; cases h3
  have xlow : ∀ k, own x k → k < h.n ∧ ¬ own o k := fun k hk => ⟨by have := ho k hk; omega, fun h1 => by have := (O.blkAt h1).1; have := ho k hk; omega⟩
  have Y := ystep114 (K := K) H (N := N) (kb := h.n) (kr := h.n + 2) (B := (subL a n).length) (L := 1000) (s := sB) (l0 := l) hN (by omega) hl b2
  obtain ⟨h3, O3, hC, ok3, ⟨o', cs', F⟩, B3, hO3⟩ := faces_at H PD PY n Y (by omega) (a := a) (x := x) (by omega) hn (d := []) (h := h2) (O := fun k => k = h.n ∨ own o k)
    ⟨o, cs, ⟨by omega, glp, fun h1 => h1.elim (fun h1 => by omega) (fun h1 => by have := (O.blkAt h1).2.1; omega), gb, .inl rfl, by rw [List.append_nil]; exact O.but (by omega) (fun k hk => g2 k (O.blkAt hk).2.1) (fun c hc k hk => g2 k (oc c hc k hk)), fun k hk => .inr hk, fun c hc k hk => by have := oc c hc k hk; exact ⟨.inl (by omega), by omega⟩, fun k hk => hk.elim (fun h1 => by subst h1; exact ⟨hN, by omega⟩) (fun h1 => ⟨(O.blkAt h1).1, by have := (O.blkAt h1).2.1; omega⟩)⟩⟩
    (by simp) ok2 (kn := kn) (ks := ks) (by rw [g2 _ knn]; exact gn) (by rw [g2 _ ksn]; exact gs) (fun h1 => h1.elim (fun h1 => by omega) (nno gn)) (fun h1 => h1.elim (fun h1 => by omega) (nno gs)) (hx.but fun k hk => g2 k (xlow k hk).1) (fun k hk => ⟨by have := (xlow k hk).1; omega, fun h1 => h1.elim (fun h1 => by have := (xlow k hk).1; omega) (xlow k hk).2⟩)
  rw [List.nil_append] at F
  have hb3 := F.base
  let h4 : Hp := h3.set (h.n + 2) (.lp ⟨.exhausted, none, sB, 114, 13, #[7], sub1 [1, 0, 1, 0, 0] (bodyOf Tryz.f114), sub1 [1, 0, 1, 0, 1] (bodyOf Tryz.f114)⟩)
  have hlv : leaveX (h.n + 2) h3 = some (none, h4) := by simp only [leaveX, F.rc, rec114, jumpC]; rfl
  obtain ⟨sC, rC, c2, cs1⟩ : ∃ sC, Runs K 114 13 none (sub1 [1, 0, 1, 0] (bodyOf Tryz.f114)) sB h1 .normal sC h4 ∧ sC.at 2 = .ptr h.n 0 ∧ marks (sC.at slot) = [h.n + 1] :=
    ⟨_, Runs.range (g := .tmp 6) (ps := #[7]) («as» := sub1 [1, 0, 1, 0, 0] (bodyOf Tryz.f114)) (bd := sub1 [1, 0, 1, 0, 1] (bodyOf Tryz.f114)) (h1 := h2) b6 rfl hC hlv, b2, by show marks (addMark h1.n (sB.at slot)) = _; rw [bs]; rfl⟩
  have g4 : ∀ k, k ≠ h.n + 2 → h4.get k = h3.get k := fun k hk => by show (h3.set _ _).get k = _; rw [Hp.get_set, if_neg hk]
  obtain ⟨sD, rD, d4, ds⟩ : ∃ sD, Runs K 114 13 none (sub1 [1, 1, 0] (bodyOf Tryz.f114)) sC h4 .normal sD h4 ∧ sD.at 4 = o' ∧ marks (sD.at slot) = [h.n + 1] :=
    ⟨_, f114_r4 H.hk c2 (by rw [tz22]; exact cell_load (by rw [g4 _ (by omega)]; exact F.gb)), rfl, cs1⟩
  have nO1 : ¬ O3 (h.n + 1) := fun h1 => (hO3 _ h1).elim (fun h5 => h5.elim (fun h6 => by omega) (fun h6 => by have := (O.blkAt h6).2.1; omega)) (fun h5 => by omega)
  have n1 : ¬ (h.n + 1 = h.n ∨ own o (h.n + 1)) := fun h5 => h5.elim (fun h6 => by omega) (fun h6 => by have := (O.blkAt h6).2.1; omega)
  have gdf4 : h4.get (h.n + 1) = .df := by rw [g4 _ (by omega), B3.get _ (by omega) n1]; exact gdf
  have n34 : h4.n = h3.n := rfl
  refine ⟨o', cs', h4.set (h.n + 1) .dead, Comes.shut hf rfl (H.memo 114 (by decide)) (H.spec 114) rfl (e := .ret) (s1 := sD) (h1 := h4) (Runs.seq rA (Runs.seq (Runs.seq rB (Runs.blockN rC)) (Runs.seq rD Runs.ret))) (.inr rfl) (by have := B3.n; omega) (by rw [ds]; simp only [shutX, gdf4]) (vs := [sD.at 4]) rfl d4, ?_, ?_, ?_, HpOk.set (ok3.set (by omega) _) (by show h.n + 1 < h3.n; omega) _⟩
  · refine F.own'.but (Nat.le_refl _) (fun k hk => ?_) (fun c hc k hk => ?_)
    · have h5 := F.ox k hk
      rw [Hp.get_set, if_neg (by rintro rfl; exact nO1 h5), g4 k (by rintro rfl; exact F.nr h5)]
    · obtain ⟨h5, h6⟩ := F.oc c hc k hk
      have h7 : k ≠ h.n + 1 := by
        rintro rfl
        rcases h5 with h5 | h5
        · omega
        · exact nO1 h5
      rw [Hp.get_set, if_neg h7, g4 k (by rcases h5 with h5 | h5; · omega
                                          · rintro rfl; exact F.nr h5)]
  · intro c hc k hk
    rcases (F.oc c hc k hk).1 with h5 | h5
    · show k < h3.n; omega
    · exact (F.lo k h5).2
  · refine ⟨by have := B3.n; show h.n ≤ h3.n; omega, fun k hk => ?_⟩
    rw [Hp.get_set, if_neg (by omega), g4 k (by omega), B3.get k (by omega) (fun h5 => h5.elim (fun h6 => by omega) (fun h6 => by have := (O.blkAt h6).1; omega)), g2 k (by omega)]
end
end Go.CP
namespace Go.CP
open Go.Proofs
variable [LG] [HK]
def facesUp (a : List Int) (n : Nat) : List (List Int) := (List.range n).flatMap fun j => subL a (j + 1)
def facesL (a : List Int) : List (List Int) := facesUp a a.length
theorem facesUp_succ (a : List Int) (n : Nat) : facesUp a (n + 1) = facesUp a n ++ subL a (n + 1) := by
  simp [facesUp, List.range_succ]
theorem subL_len : ∀ (a : List Int) (n : Nat), (subL a n).length ≤ 2 ^ a.length
  | a, 0 => by rw [subL_zero]; exact Nat.one_le_two_pow
  | [], n + 1 => by simp [subL]
  | x :: a, n + 1 => by
    have h1 := subL_len a n
    have h2 := subL_len a (n + 1)
    simp only [subL, List.length_append, List.length_map, List.length_cons, Nat.pow_succ]
    omega
theorem subL_len5 {a : List Int} (ha : a.length ≤ 5) (n : Nat) : (subL a n).length ≤ 32 :=
  Nat.le_trans (subL_len a n) (Nat.pow_le_pow_right (by omega) ha)
theorem facesUp_len {a : List Int} (ha : a.length ≤ 5) : ∀ n, (facesUp a n).length ≤ 32 * n
  | 0 => by simp [facesUp]
  | n + 1 => by
    have h1 := facesUp_len ha n
    have h2 := subL_len5 ha (n + 1)
    rw [facesUp_succ, List.length_append]
    omega
section
variable {K : Ctx}
theorem faces70_loop (H : Std K) (PD : PlansD K) (PY : PlansY K) {h0 : Hp} (ok0 : HpOk h0) {a : List Int} (ha : a.length ≤ 5) {x : CV} (hx : Row h0 x (Ints a)) (ho : ∀ k, own x k → k < h0.n) : ∀ (m n : Nat) (s : Fr) (h : Hp) (o : CV) (cs : List CV), n + m = a.length → s.at 0 = x → s.at 2 = o → s.at 11 = .nu .i64 (.ofNat a.length) → s.at 12 = .nu .i64 (.ofNat n) → s.at slot = .undef → HpOk h → Same h0.n h0 h → Own h0.n h 46 o cs (facesUp a n) → (∀ c ∈ cs, ∀ k, own c k → k < h.n) →
    ∃ s' h' o' cs', Runs K 70 23 none (sub1 [1, 1, 0, 1, 0] (bodyOf Tryz.f70)) s h (.exit 0) s' h' ∧ s'.at 2 = o' ∧ s'.at slot = .undef ∧ HpOk h' ∧ Same h0.n h0 h' ∧ Own h0.n h' 46 o' cs' (facesL a) ∧ (∀ c ∈ cs', ∀ k, own c k → k < h'.n) := by
  intro m
  induction m with
  | zero =>
    intro n s h o cs hm s0 s2 s11 s12 hs ok S O oc
    have : n = a.length := by omega
    subst this
    exact ⟨_, h, o, cs, Runs.loopX (f70_b110100_F H.hk H.prim PD s12 s11 (lessN' (Nat.le_refl _))) (by simp), s2, hs, ok, S, O, oc⟩
  | succ m ih =>
    intro n s h o cs hm s0 s2 s11 s12 hs ok S O oc
    have hfl := facesUp_len ha n
    have hsl := subL_len5 ha (n + 1)
    have hx' : Row h x (Ints a) := hx.mono S ok0 (Nat.le_refl _)
    let h1 : Hp := (h.push (.cells [x] 0 46)).push (.cells [.nu .i64 (.ofNat (n + 1))] 0 3)
    have g1 : ∀ k, k < h.n → h1.get k = h.get k := fun k hk => by
      show (((h.push _).push _).get k) = _
      rw [Hp.get_push, if_neg (by show k ≠ h.n + 1; omega), Hp.get_push, if_neg (by omega)]
    have S1 : Same h.n h h1 := (Same.push (Nat.le_refl _) _).trans (Same.push (by show h.n ≤ h.n + 1; omega) _)
    have ok1 : HpOk h1 := (ok.push _).push _
    have c1 := faces_fn H PD (h := h) (x := x) (n := n + 1) hx'.one
    have gn : h1.get (h.n + 1) = .cells [.nu .i64 (.ofNat (n + 1))] 0 3 := by
      show (((h.push _).push _).get (h.n + 1)) = _
      rw [Hp.get_push]; exact if_pos rfl
    have gs : h1.get h.n = .cells [x] 0 46 := by
      show (((h.push _).push _).get h.n) = _
      rw [Hp.get_push, if_neg (by show h.n ≠ h.n + 1; omega), Hp.get_push]; exact if_pos rfl
    have hn0 := S.n
    obtain ⟨o', cs', h2, c2, O2, oc2, S2, ok2⟩ := appseq_comes H PD PY (N := h0.n) (h := h1) (o := o) (x := x) (cs := cs) (l := facesUp a n) (a := a) (n := n + 1) (kn := h.n + 1) (ks := h.n) ok1 (by show h0.n ≤ h.n + 1 + 1; omega) (O.mono S1 ok) (fun c hc k hk => by have := oc c hc k hk; show k < h.n + 1 + 1; omega) (by omega) (by omega) (by omega) gn gs (hx'.mono S1 ok (Nat.le_refl _)) ho
    have S12 : Same h0.n h0 h2 := (S.trans (S1.le hn0)).trans S2
    obtain ⟨s1, r1, t0, t2, t11, t12, ts⟩ : ∃ s1, Runs K 70 23 none (sub1 [1, 1, 0, 1, 0, 0] (bodyOf Tryz.f70)) s h .normal s1 h2 ∧ s1.at 0 = x ∧ s1.at 2 = o' ∧ s1.at 11 = .nu .i64 (.ofNat a.length) ∧ s1.at 12 = .nu .i64 (.ofNat (n + 1)) ∧ s1.at slot = .undef :=
      ⟨_, f70_b110100_T H.hk H.prim PD s12 s11 s2 s0 (lessN (by omega)) (inc (by omega)) c1 c2, s0, rfl, s11, rfl, hs⟩
    obtain ⟨s', h', o3, cs3, r', q1, q2, q3, q4, q5, q6⟩ := ih (n + 1) s1 h2 o' cs' (by omega) t0 t2 t11 t12 ts ok2 S12 (by rw [facesUp_succ]; exact O2) oc2
    exact ⟨s', h', o3, cs3, Runs.loop r1 r', q1, q2, q3, q4, q5, q6⟩
theorem facesP_comes (H : Std K) (PD : PlansD K) (PY : PlansY K) (h70 : ∀ args h, K.spec 70 args h = none) {h : Hp} (ok : HpOk h) {a : List Int} (hok : OkS a) {x : CV} (hx : Row h x (Ints a)) (ho : ∀ k, own x k → k < h.n) :
    ∃ o cs h', Comes K 70 [x] h (.tup [o, .nu .i64 0]) h' ∧ Own h.n h' 46 o cs (facesL a) ∧ (∀ c ∈ cs, ∀ k, own c k → k < h'.n) ∧ Same h.n h h' ∧ HpOk h' := by
  have hf : K.P.funcs[70]? = some Tryz.f70 := by rw [H.hP]; exact Tryz.func70
  have hlen := len46 H hx
  rw [ints_length] at hlen
  obtain ⟨s1, r1, a0, a2, as1⟩ : ∃ s1, Runs K 70 23 none (sub1 [0] (bodyOf Tryz.f70)) (entry 0 [x]) h .normal s1 h ∧ s1.at 0 = x ∧ s1.at 2 = .nils ∧ s1.at slot = .undef := ⟨_, f70_r0 H.hk, rfl, rfl, rfl⟩
  obtain ⟨s2, r2, b0, b2, bs⟩ : ∃ s2, Runs K 70 23 none (sub1 [1, 0] (bodyOf Tryz.f70)) s1 h .normal s2 h ∧ s2.at 0 = x ∧ s2.at 2 = .nils ∧ s2.at slot = .undef :=
    ⟨_, f70_b10_F H.hk H.prim PD a0 (check_comes H hok hx) (by rw [neqn, ieq_t rfl]; rfl), a0, a2, as1⟩
  obtain ⟨s3, r3, c0, c2, c11, c12, cs⟩ : ∃ s3, Runs K 70 23 none (sub1 [1, 1, 0, 0] (bodyOf Tryz.f70)) s2 h .normal s3 h ∧ s3.at 0 = x ∧ s3.at 2 = .nils ∧ s3.at 11 = .nu .i64 (.ofNat a.length) ∧ s3.at 12 = .nu .i64 (.ofNat 0) ∧ s3.at slot = .undef :=
    ⟨_, f70_r4 H.hk b0 hlen, b0, b2, rfl, rfl, bs⟩
  obtain ⟨s4, h', o, xs, r4, d2, ds, ok', S', O', oc'⟩ := faces70_loop H PD PY ok hok.le hx ho a.length 0 s3 h .nils [] (by omega) c0 c2 c11 c12 cs ok (Same.refl _ _) Own.nil (by simp)
  exact ⟨o, xs, h', Comes.plain hf rfl (H.memo 70 (by decide)) h70 rfl (Runs.seq r1 (Runs.seq r2 (Runs.seq (Runs.seq r3 (Runs.blockE r4)) (f70_b111 H.hk H.prim PD d2)))) (.inr rfl) S'.n ds rfl rfl, O', oc', S', ok'⟩
theorem facesP_err (H : Std K) (PD : PlansD K) (h70 : ∀ args h, K.spec 70 args h = none) {h : Hp} {a : List Int} (hbig : a.length < 4611686018427387904) (he : errS a ≠ 0) {x : CV} (hx : Row h x (Ints a)) : Comes K 70 [x] h (.tup [.nils, .nu .i64 (errS a)]) h := by
  have hf : K.P.funcs[70]? = some Tryz.f70 := by rw [H.hP]; exact Tryz.func70
  obtain ⟨s1, r1, a0, as1⟩ : ∃ s1, Runs K 70 23 none (sub1 [0] (bodyOf Tryz.f70)) (entry 0 [x]) h .normal s1 h ∧ s1.at 0 = x ∧ s1.at slot = .undef := ⟨_, f70_r0 H.hk, rfl, rfl⟩
  exact Comes.plain hf rfl (H.memo 70 (by decide)) h70 rfl (Runs.seq r1 (Runs.seqX (f70_b10_T H.hk H.prim PD a0 (check_gen H hbig hx) (by rw [neqn, ieq_f he]; rfl)) (by simp))) (.inr rfl) (Nat.le_refl _) as1 rfl rfl
end
end Go.CP
namespace Go.CP
open Go.Proofs
variable [LG] [HK]
theorem mem_subL {s : List Int} : ∀ {a : List Int} {n : Nat}, s ∈ subL a n ↔ s.Sublist a ∧ s.length = n
  | a, 0 => by
    rw [subL_zero, List.mem_singleton]
    constructor
    · rintro rfl; exact ⟨List.nil_sublist _, rfl⟩
    · rintro ⟨_, h⟩; exact List.eq_nil_of_length_eq_zero h
  | [], n + 1 => by
    simp only [subL, List.not_mem_nil, List.sublist_nil, false_iff, not_and]
    rintro rfl; simp
  | x :: a, n + 1 => by
    simp only [subL, List.mem_append, List.mem_map, mem_subL (a := a)]
    constructor
    · rintro (⟨t, ⟨h1, h2⟩, rfl⟩ | ⟨h1, h2⟩)
      · exact ⟨h1.cons_cons x, by simp [h2]⟩
      · exact ⟨h1.cons x, h2⟩
    · rintro ⟨h1, h2⟩
      cases h1 with
      | cons _ h1 => exact .inr ⟨h1, h2⟩
      | cons_cons _ h1 => exact .inl ⟨_, ⟨h1, by simpa using h2⟩, rfl⟩
theorem mem_facesL {a s : List Int} : s ∈ facesL a ↔ s.Sublist a ∧ s ≠ [] := by
  unfold facesL facesUp
  simp only [List.mem_flatMap, List.mem_range, mem_subL]
  constructor
  · rintro ⟨n, hn, h1, h2⟩
    exact ⟨h1, by rintro rfl; simp at h2⟩
  · rintro ⟨h1, h2⟩
    have := h1.length_le
    have : 0 < s.length := List.length_pos_iff.2 h2
    exact ⟨s.length - 1, by omega, h1, by omega⟩
theorem OkS.face {a s : List Int} (h : OkS a) (hs : s ∈ facesL a) : OkS s := by
  obtain ⟨h1, h2⟩ := mem_facesL.1 hs
  exact ⟨h2, Nat.le_trans h1.length_le h.le, fun v hv => h.rng v (h1.subset hv), h.asc.sublist h1⟩
def errF : List (List Int) → Int
  | [] => 0
  | a :: l => if errS a ≠ 0 then errS a else errF l
theorem errF_zero : ∀ {l : List (List Int)}, errF l = 0 ↔ ∀ a ∈ l, OkS a
  | [] => by simp [errF]
  | a :: l => by
    simp only [errF, List.mem_cons, forall_eq_or_imp]
    by_cases h : errS a = 0
    · rw [if_neg (fun hn => hn h), errF_zero (l := l)]
      exact ⟨fun h1 => ⟨errS_zero.1 h, h1⟩, fun h1 => h1.2⟩
    · rw [if_pos h]
      exact ⟨fun h1 => absurd h1 h, fun h1 => absurd (errS_zero.2 h1.1) h⟩
theorem errF_at : ∀ {l : List (List Int)} {i : Nat} (hi : i < l.length), (∀ a ∈ l.take i, OkS a) → errS l[i] ≠ 0 → errF l = errS l[i]
  | a :: l, 0, _, _, he => by simp only [List.getElem_cons_zero] at he ⊢; rw [errF, if_pos he]
  | a :: l, i + 1, hi, ho, he => by
    simp only [List.getElem_cons_succ] at he ⊢
    have h1 := errS_zero.2 (ho a (by simp))
    rw [errF, if_neg (fun hn => hn h1)]
    exact errF_at (by simpa using hi) (fun b hb => ho b (by simp [hb])) he
def closeI (l : List (List Int)) : List (List Int) := ascL (l.flatMap facesL)
theorem mem_closeI {l : List (List Int)} {s : List Int} : s ∈ closeI l ↔ ∃ a ∈ l, s.Sublist a ∧ s ≠ [] := by
  unfold closeI
  rw [mem_ascL, List.mem_flatMap]
  simp only [mem_facesL]
def errK (l : List (List Int)) : Int := if 1024 < l.length then 3 else if errF l ≠ 0 then errF l else if 1024 < (closeI l).length then 3 else 0
theorem Row.mp {h : Hp} {x : CV} {cs : List CV} {km : Nat} {es : List (CV × CV)} (r : Row h x cs) (hg : h.get km = .mp es) (b : HB) : Row (h.set km b) x cs := by
  cases r with
  | nils => exact .nils
  | sle => exact .sle
  | none k o c => exact .none k o c
  | @some k o c cs hne hs hc hf =>
    have hk : k ≠ km := by rintro rfl; rw [hg] at hs; simp [hbSub] at hs
    have e : (h.set km b).get k = h.get k := by rw [Hp.get_set, if_neg hk]
    exact .some hne (by rw [e]; exact hs) hc (by rw [e]; exact hf)
theorem Rows.mp {h : Hp} {xs : List CV} {l : List (List Int)} {km : Nat} {es : List (CV × CV)} (r : Rows h xs l) (hg : h.get km = .mp es) (b : HB) : Rows (h.set km b) xs l := by
  induction r with
  | nil => exact .nil
  | cons hx _ ih => exact .cons (hx.mp hg b) ih
theorem row_own {h : Hp} (ok : HpOk h) {x : CV} {cs : List CV} (r : Row h x cs) (hne : cs ≠ []) : ∀ k, own x k → k < h.n := by
  intro k hk
  cases r with
  | nils => exact hk.elim
  | sle => exact hk.elim
  | none j o c => exact absurd rfl hne
  | @some j o c cs hn hs hc hf =>
    have : k = j := hk
    subst this
    rcases Nat.lt_or_ge k h.n with h1 | h1
    · exact h1
    · exact absurd (ok k h1) (hbSub_live hs)
def Wr (N : Nat) (h : Hp) (c : CV) : Prop := ∃ k n cs m, c = .sl k 0 n n ∧ N ≤ k ∧ k < h.n ∧ h.get k = .cells cs m 3 ∧ cs.length = n
theorem Wr.low {N M : Nat} {h : Hp} {c : CV} (hMN : M ≤ N) : Wr N h c → Wr M h c
  | ⟨k, n, cs, m, e, h1, h2, h3, h4⟩ => ⟨k, n, cs, m, e, by omega, h2, h3, h4⟩
theorem lay_wr {h : Hp} {l : List (List Int)} {cs : List CV} (O : Own h.n (layRows l h).2 46 (layRows l h).1 cs l) : ∀ c ∈ cs, Wr h.n (layRows l h).2 c := by
  cases hq : l with
  | nil =>
    subst hq
    have := O.rows.length
    intro c hc
    rw [List.eq_nil_of_length_eq_zero this] at hc; cases hc
  | cons a0 l0 =>
    rw [← hq]
    have hlr : layRows l h = (.sl (layEach l h).2.n 0 l.length l.length, (layEach l h).2.push (.cells (layEach l h).1 1 46)) := by rw [hq]; rfl
    have hn := layEach_n l h
    obtain ⟨hfl, hfg⟩ := layEach_fst l h
    have hcs : cs = (layEach l h).1 := by
      have hg : (layRows l h).2.get (layEach l h).2.n = .cells (layEach l h).1 1 46 := by rw [hlr, Hp.get_push, if_pos rfl]
      have hO := O.out
      rw [hlr] at hO
      generalize hy : CV.sl (layEach l h).2.n 0 l.length l.length = y at hO
      cases hO with
      | nils => cases hy
      | some h1 h2 h3 h4 =>
        injection hy with hk _ _ _
        rw [← hk, Hp.get_push, if_pos rfl] at h4
        injection h4 with h4; exact h4.symm
    intro c hc
    rw [hcs] at hc
    obtain ⟨i, hi, rfl⟩ := List.getElem_of_mem hc
    have hi2 : i < l.length := by omega
    refine ⟨h.n + i, l[i].length, Ints l[i], 1, hfg i hi hi2, by omega, ?_, ?_, ints_length _⟩
    · rw [hlr]; show h.n + i < (layEach l h).2.n + 1; omega
    · rw [hlr]
      show ((layEach l h).2.push _).get (h.n + i) = _
      rw [Hp.get_push, if_neg (by omega)]; exact layEach_get l h i hi2
section
variable {K : Ctx} {h : Hp}
theorem list_retW (H : Std K) (T : Told72 K) (ok : HpOk h) {km : Nat} {es : List (CV × CV)} {ls : List (List Int)} (hg : h.get km = .mp es) (M : MapR h es ls) (hfew : ls.length ≤ 1024) : Ret K 72 [.mp km] h fun r h' => ∃ cs, Own h.n h' 46 r cs (ascL ls) ∧ ∀ c ∈ cs, Wr h.n h' c := by
  have hl : es.length = ls.length := by have := congrArg List.length M.key; simpa using this
  have hs : K.spec 72 [.mp km] h = some (layRows (ascL ls) h) := by
    rw [T]
    have h1 : Nat.ble es.length 1024 = true := Nat.ble_eq_true_of_le (by omega)
    simp only [spec72A, hg, spec72M, h1, readRows_of M.rows M.ok, nodupB_of M.nd]
  obtain ⟨S, ok', cs, O⟩ := lay_own ok (l := ascL ls)
  exact ⟨_, _, Comes.told (H.memo 72 (by decide)) hs, S, ok', cs, O, lay_wr O⟩
def KeptW (K : Ctx) (f : FuncId) (args : List CV) (h : Hp) (e : Int) (l : List (List Int)) : Prop := Ret K f args h fun r h' => ∃ o ds, r = .tup [o, .nu .i64 e] ∧ Own h.n h' 46 o ds (if e = 0 then l else []) ∧ ∀ c ∈ ds, Wr h.n h' c
theorem Fails.w {f : FuncId} {args : List CV} {e : Int} {l : List (List Int)} (he : e ≠ 0) (k : Fails K f args h e) : KeptW K f args h e l := by
  obtain ⟨r, h', c, S, ok, hr⟩ := k
  exact ⟨r, h', c, S, ok, .nils, [], hr, by rw [if_neg he]; exact Own.nil, by simp⟩
end
section
variable {K : Ctx} {h : Hp}
theorem closure_in (H : Std K) (PD : PlansD K) {h0 : Hp} {km : Nat} (hkm : h0.n ≤ km) {ok : HpOk h} {fs : List (List Int)} (hfs : fs.length < 549755813888) (hok : ∀ a ∈ fs, OkS a) {o : CV} {cs : List CV} (ho : Row h o cs) (hcs : Rows h cs fs) (hkn : km < h.n) {es : List (CV × CV)} {ls : List (List Int)} (hg : h.get km = .mp es) (M : MapR h es ls) {x15 x16 x17 : CV} {s : Fr} (s4 : s.at 4 = .mp km) (s15 : s.at 15 = x15) (s16 : s.at 16 = x16) (s17 : s.at 17 = x17) (s29 : s.at 29 = o) (s30 : s.at 30 = .nu .i64 (.ofNat fs.length)) (s31 : s.at 31 = .nu .i64 (.ofNat 0)) (hs : s.at slot = .undef) (S0 : Same h0.n h0 h) :
    ∃ s' h' es' ls', Runs K 25 46 none (sub1 [1, 1, 1, 0, 1, 0, 0, 1, 1, 0, 0, 1, 1, 1, 1] (bodyOf Tryz.f25)) s h .normal s' h' ∧ HpOk h' ∧ Same h0.n h0 h' ∧ km < h'.n ∧ s'.at 4 = .mp km ∧ s'.at 15 = x15 ∧ s'.at 16 = x16 ∧ s'.at 17 = x17 ∧ s'.at slot = .undef ∧ h'.get km = .mp es' ∧ MapR h' es' ls' ∧ ∀ a, a ∈ ls' ↔ a ∈ ls ∨ a ∈ fs := by
  have hcl := hcs.length
  obtain ⟨s', h', r, ok', S, hkn', p4, p15, p16, p17, ps, es', ls', hg', M', hm'⟩ := RunQ.loopE (K := K) (f := 25) (n := 46) (c := sub1 [1, 1, 1, 0, 1, 0, 0, 1, 1, 0, 0, 1, 1, 1, 1, 0, 0] (bodyOf Tryz.f25)) (s := s) (h := h) (m := fs.length) (b := 2)
    (I := fun i s g => HpOk g ∧ Same h0.n h0 g ∧ km < g.n ∧ s.at 4 = .mp km ∧ s.at 15 = x15 ∧ s.at 16 = x16 ∧ s.at 17 = x17 ∧ s.at 29 = o ∧ s.at 30 = .nu .i64 (.ofNat fs.length) ∧ s.at 31 = .nu .i64 (.ofNat i) ∧ s.at slot = .undef ∧ Row g o cs ∧ Rows g cs fs ∧ ∃ es' ls', g.get km = .mp es' ∧ MapR g es' ls' ∧ ∀ a, a ∈ ls' ↔ a ∈ ls ∨ a ∈ fs.take i)
    (E := fun s g => HpOk g ∧ Same h0.n h0 g ∧ km < g.n ∧ s.at 4 = .mp km ∧ s.at 15 = x15 ∧ s.at 16 = x16 ∧ s.at 17 = x17 ∧ s.at slot = .undef ∧ ∃ es' ls', g.get km = .mp es' ∧ MapR g es' ls' ∧ ∀ a, a ∈ ls' ↔ a ∈ ls ∨ a ∈ fs)
    ⟨ok, S0, hkn, s4, s15, s16, s17, s29, s30, s31, hs, ho, hcs, es, ls, hg, M, by simp⟩
    (fun i s g hi ⟨okg, S, hkn, g4, g15, g16, g17, g29, g30, g31, gs, hx, hxs, es1, ls1, hg1, M1, hm1⟩ => by
      obtain ⟨p, hp1, hp2⟩ := at22 H hx (i := i) (by omega)
      have hxi := hxs.get (i := i) (by omega) hi
      have okS := hok _ (List.getElem_mem hi)
      obtain ⟨h1, c71, S1, ok1⟩ := of_comes H okg okS.le okS.rng hxi
      have hg2 : h1.get km = .mp es1 := by rw [S1.get km hkn]; exact hg1
      have hkn1 : km < h1.n := Nat.lt_of_lt_of_le hkn S1.n
      obtain ⟨es', ls', u1, M', hm'⟩ := (M1.mono S1 okg (Nat.le_refl _)).put okS (hxi.mono S1 okg (Nat.le_refl _))
      have w3 : wMap K.P h1 (.mp km) (.agg (padI fs[i])) cs[i] (tyk K.P 100) = some (.undef, h1.set km (.mp es')) := by
        rw [show tyk K.P 100 = .map 103 46 by rw [H.hP]; exact t100]
        simp only [wMap, keyOk_pad H okS.le, wMapB, hg2, u1, wMapE]
      refine ⟨_, _, f25_b11101001100111100_T H.hk H.prim PD g31 g30 g29 g4 (lessN hi) hp1 hp2 c71 w3 (inc (by omega)), ok1.set hkn1 _, (S.trans (S1.le S.n)).trans (Same.set hkm _), hkn1, g4, g15, g16, g17, g29, g30, rfl, gs, (hx.mono S1 okg (Nat.le_refl _)).mp hg2 _, (hxs.mono S1 okg (Nat.le_refl _)).mp hg2 _, es', ls', by rw [Hp.get_set, if_pos rfl], ⟨M'.key, M'.rows.mp hg2 _, M'.nd, M'.ok⟩, fun a => ?_⟩
      rw [hm', hm1, take_snoc hi, List.mem_append, List.mem_singleton, or_assoc])
    (fun s g ⟨okg, S, hkn, g4, g15, g16, g17, g29, g30, g31, gs, hx, hxs, es1, ls1, hg1, M1, hm1⟩ =>
      ⟨_, _, f25_b11101001100111100_F H.hk H.prim PD g31 g30 (lessN' (Nat.le_refl _)), okg, S, hkn, g4, g15, g16, g17, gs, es1, ls1, hg1, M1, by rw [List.take_length] at hm1; exact hm1⟩)
  exact ⟨s', h', es', ls', r, ok', S, hkn', p4, p15, p16, p17, ps, hg', M', hm'⟩
theorem closure_retW (H : Std K) (TT : Told72 K) (PD : PlansD K) (PY : PlansY K) (h70 : ∀ args h, K.spec 70 args h = none) (ok : HpOk h) {l : List (List Int)} (hl : Sml l) {x : CV} {cs : List CV} (hx : Row h x cs) (hxs : Rows h cs l) : KeptW K 25 [x] h (errK l) (closeI l) := by
  have hf : K.P.funcs[25]? = some Tryz.f25 := by rw [H.hP]; exact Tryz.func25
  have hcl := hxs.length
  have hlen := len22 H hx
  rw [hcl] at hlen
  obtain ⟨s0, r0, a0, as0⟩ : ∃ s0, Runs K 25 46 none (sub1 [0] (bodyOf Tryz.f25)) (entry 0 [x]) h .normal s0 h ∧ s0.at 0 = x ∧ s0.at slot = .undef := ⟨_, f25_r0 H.hk, rfl, rfl⟩
  unfold errK
  by_cases hbig : 1024 < l.length
  · rw [if_pos hbig]
    exact Fails.w (by decide) ⟨_, h, Comes.plain hf rfl (H.memo 25 (by decide)) (H.spec 25) rfl (Runs.seq r0 (Runs.seqX (f25_b10_T H.hk H.prim PD a0 hlen (gt_t (by show (1024 : Int) < Int.ofNat _; simp; omega))) (by simp))) (.inr rfl) (Nat.le_refl _) as0 rfl rfl, Same.refl _ _, ok, rfl⟩
  rw [if_neg hbig]
  obtain ⟨s1, r1, b0, bs⟩ : ∃ s1, Runs K 25 46 none (sub1 [1, 0] (bodyOf Tryz.f25)) s0 h .normal s1 h ∧ s1.at 0 = x ∧ s1.at slot = .undef := ⟨_, f25_b10_F H.hk H.prim PD a0 hlen (gt_f (by simp; omega)), a0, as0⟩
  have Sp : Same h.n h (h.push (.mp [])) := Same.push (Nat.le_refl _) _
  have okp : HpOk (h.push (.mp [])) := ok.push _
  have hxp := hx.mono Sp ok (Nat.le_refl _)
  have hlen1 := len22 H hxp
  rw [hcl] at hlen1
  obtain ⟨s2, r2, c0, c4, c2s⟩ : ∃ s2, Runs K 25 46 none (sub1 [1, 1, 0] (bodyOf Tryz.f25)) s1 h .normal s2 (h.push (.mp [])) ∧ s2.at 0 = x ∧ s2.at 4 = .mp h.n ∧ s2.at slot = .undef := ⟨_, f25_r3 H.hk, b0, rfl, bs⟩
  obtain ⟨s3, r3, d4, d15, d16, d17, ds⟩ : ∃ s3, Runs K 25 46 none (sub1 [1, 1, 1, 0, 0] (bodyOf Tryz.f25)) s2 (h.push (.mp [])) .normal s3 (h.push (.mp [])) ∧ s3.at 4 = .mp h.n ∧ s3.at 15 = x ∧ s3.at 16 = .nu .i64 (.ofNat l.length) ∧ s3.at 17 = .nu .i64 (.ofNat 0) ∧ s3.at slot = .undef := ⟨_, f25_r4 H.hk c0 hlen1, c4, rfl, rfl, rfl, c2s⟩
  rcases RunQ.loopB (K := K) (f := 25) (n := 46) (c := sub1 [1, 1, 1, 0, 1, 0, 0] (bodyOf Tryz.f25)) (s := s3) (h := h.push (.mp [])) (m := l.length) (b := 0)
    (I := fun i s g => HpOk g ∧ Same h.n h g ∧ h.n < g.n ∧ s.at 4 = .mp h.n ∧ s.at 15 = x ∧ s.at 16 = .nu .i64 (.ofNat l.length) ∧ s.at 17 = .nu .i64 (.ofNat i) ∧ s.at slot = .undef ∧ (∀ a ∈ l.take i, OkS a) ∧ ∃ es ls, g.get h.n = .mp es ∧ MapR g es ls ∧ ∀ a, a ∈ ls ↔ a ∈ (l.take i).flatMap facesL)
    (E := fun s g => HpOk g ∧ Same h.n h g ∧ h.n < g.n ∧ s.at 4 = .mp h.n ∧ s.at slot = .undef ∧ (∀ a ∈ l, OkS a) ∧ ∃ es ls, g.get h.n = .mp es ∧ MapR g es ls ∧ ∀ a, a ∈ ls ↔ a ∈ l.flatMap facesL)
    (R := fun s g => HpOk g ∧ Same h.n h g ∧ s.at slot = .undef ∧ errF l ≠ 0 ∧ s.at 2 = .nils ∧ s.at 3 = .nu .i64 (errF l))
    ⟨okp, Sp, by simp, d4, d15, d16, d17, ds, by simp, [], [], by rw [Hp.get_push, if_pos rfl], ⟨rfl, .nil, List.nodup_nil, by simp⟩, by simp⟩
    (fun i s g hi ⟨okg, S, hkn, g4, g15, g16, g17, gs, hoks, es, ls, hg, M, hm⟩ => by
      have hr := hx.mono S ok (Nat.le_refl _)
      obtain ⟨p, hp1, hp2⟩ := at22 H hr (i := i) (by omega)
      have hx0 := hxs.get (i := i) (by omega) hi
      have hxi := hx0.mono S ok (Nat.le_refl _)
      obtain ⟨sA, rA, e4, e15, e16, e17, e6, es6⟩ : ∃ sA, Runs K 25 46 none (sub1 [1, 1, 1, 0, 1, 0, 0, 1, 1, 0, 0, 0] (bodyOf Tryz.f25)) (T.set s 18 (.bo true)) g .normal sA g ∧ sA.at 4 = .mp h.n ∧ sA.at 15 = x ∧ sA.at 16 = .nu .i64 (.ofNat l.length) ∧ sA.at 17 = .nu .i64 (.ofNat i) ∧ sA.at 6 = cs[i] ∧ sA.at slot = .undef := ⟨_, f25_r6 H.hk g15 g17 hp1 hp2, g4, g15, g16, g17, rfl, gs⟩
      have rpre := f25_r5 H.hk (K := K) (h := g) g17 g16 (lessN hi)
      by_cases he : errS l[i] = 0
      case neg =>
        have c70 := facesP_err H PD h70 (by have := hl.each _ (List.getElem_mem hi); omega) he hxi
        have heF := errF_at hi hoks he
        refine .inr (.inl ⟨_, _, Runs.seq rpre (Runs.seq (Runs.condT (o := .tmp 18) (y := .exit 0) rfl Runs.skip) (Runs.seqX (Runs.blockR (Runs.seq rA (Runs.seq (f25_r7 (r24 := .nils) (r25 := .nu .i64 (errS l[i])) H.hk e6 (H.prim _ _) c70 rfl rfl) (Runs.seqX (f25_b11101001100110_T H.hk H.prim PD rfl (ne_t he)) (by simp))))) (by simp))), okg, S, es6, by rw [heF]; exact he, rfl, by rw [heF]; rfl⟩)
      have hoS := errS_zero.1 he
      have hne := ints_ne hoS.ne
      obtain ⟨o, fcs, h1, c70, O1, _, S1, ok1⟩ := facesP_comes H PD PY h70 okg hoS hxi (row_own okg hxi hne)
      have hfl : (facesL l[i]).length ≤ 160 := by have := facesUp_len hoS.le l[i].length; have := hoS.le; unfold facesL; omega
      have hlo := len22 H O1.out.row
      rw [O1.rows.length] at hlo
      have hkn1 : h.n < h1.n := Nat.lt_of_lt_of_le hkn S1.n
      obtain ⟨sZ, rZ, z4, z15, z16, z17, z7, z8, zs⟩ : ∃ sZ, Runs K 25 46 none (sub1 [1, 1, 1, 0, 1, 0, 0, 1, 1, 0, 0, 1, 0] (bodyOf Tryz.f25)) sA g .normal sZ h1 ∧ sZ.at 4 = .mp h.n ∧ sZ.at 15 = x ∧ sZ.at 16 = .nu .i64 (.ofNat l.length) ∧ sZ.at 17 = .nu .i64 (.ofNat i) ∧ sZ.at 7 = o ∧ sZ.at 8 = .nu .i64 0 ∧ sZ.at slot = .undef := ⟨_, f25_r7 (r24 := o) (r25 := .nu .i64 0) H.hk e6 (H.prim _ _) c70 rfl rfl, e4, e15, e16, e17, rfl, rfl, es6⟩
      obtain ⟨sY, rY, y4, y15, y16, y17, y7, ys⟩ : ∃ sY, Runs K 25 46 none (sub1 [1, 1, 1, 0, 1, 0, 0, 1, 1, 0, 0, 1, 1, 0] (bodyOf Tryz.f25)) sZ h1 .normal sY h1 ∧ sY.at 4 = .mp h.n ∧ sY.at 15 = x ∧ sY.at 16 = .nu .i64 (.ofNat l.length) ∧ sY.at 17 = .nu .i64 (.ofNat i) ∧ sY.at 7 = o ∧ sY.at slot = .undef := ⟨_, f25_b11101001100110_F H.hk H.prim PD z8 (ne_f rfl), z4, z15, z16, z17, z7, zs⟩
      obtain ⟨sB, rB, f4, f15, f16, f17, f29, f30, f31, fs⟩ : ∃ sB, Runs K 25 46 none (sub1 [1, 1, 1, 0, 1, 0, 0, 1, 1, 0, 0, 1, 1, 1, 0] (bodyOf Tryz.f25)) sY h1 .normal sB h1 ∧ sB.at 4 = .mp h.n ∧ sB.at 15 = x ∧ sB.at 16 = .nu .i64 (.ofNat l.length) ∧ sB.at 17 = .nu .i64 (.ofNat i) ∧ sB.at 29 = o ∧ sB.at 30 = .nu .i64 (.ofNat (facesL l[i]).length) ∧ sB.at 31 = .nu .i64 (.ofNat 0) ∧ sB.at slot = .undef :=
        ⟨_, f25_r10 H.hk y7 hlo, y4, y15, y16, y17, rfl, rfl, rfl, ys⟩
      obtain ⟨sC, h2, es', ls', rC, ok2, S2, hkn2, q4, q15, q16, q17, qs, hg2, M2, hm2⟩ := closure_in H PD (h0 := h) (km := h.n) (Nat.le_refl _) (ok := ok1) (fs := facesL l[i]) (by omega) (fun a ha => hoS.face ha) O1.out.row O1.all hkn1 (by rw [S1.get h.n hkn]; exact hg) (M.mono S1 okg (Nat.le_refl _)) f4 f15 f16 f17 f29 f30 f31 fs (S.trans (S1.le S.n))
      refine .inl ⟨_, h2, Runs.seq rpre (Runs.seq (Runs.condT (o := .tmp 18) (y := .exit 0) rfl Runs.skip) (Runs.seq (Runs.blockN (Runs.seq rA ?_)) (f25_r15 H.hk q17 (inc (by omega))))), ok2, S2, hkn2, q4, q15, q16, rfl, qs, fun a ha => ?_, es', ls', hg2, M2, fun a => ?_⟩
      · exact Runs.seq rZ (Runs.seq rY (Runs.seq rB rC))
      · rw [take_snoc hi] at ha
        rcases List.mem_append.1 ha with ha | ha
        · exact hoks a ha
        · rw [List.mem_singleton] at ha; subst ha; exact hoS
      · rw [hm2, hm, take_snoc hi, List.flatMap_append, List.mem_append]; simp)
    (fun s g ⟨okg, S, hkn, g4, g15, g16, g17, gs, hoks, es, ls, hg, M, hm⟩ =>
      ⟨_, _, Runs.seq (f25_r5 H.hk g17 g16 (lessN' (Nat.le_refl _))) (Runs.seqX (Runs.condF (o := .tmp 18) (x := .skip) rfl Runs.exit) (by simp)), okg, S, hkn, g4, gs, by rw [List.take_length] at hoks; exact hoks, es, ls, hg, M, by rw [List.take_length] at hm; exact hm⟩)
    with ⟨s4, h1, r4, ok1, S1, hkn, k4, ks, hoks, es, ls, hg, M, hm⟩ | ⟨s4, h1, r4, ok1, S1, ks, he, k2, k3⟩
  case inr =>
    rw [if_pos he]
    refine Fails.w he ⟨_, h1, Comes.plain hf rfl (H.memo 25 (by decide)) (H.spec 25) rfl (Runs.seq r0 (Runs.seq r1 (Runs.seq r2 (Runs.seqX (Runs.seq r3 r4) (by simp))))) (.inr rfl) S1.n ks (vs := [s4.at 2, s4.at 3]) rfl rfl, S1, ok1, ?_⟩
    rw [k2, k3]; rfl
  have heF := errF_zero.2 hoks
  rw [if_neg (fun hn => hn heF)]
  have hel : es.length = ls.length := by have := congrArg List.length M.key; simpa using this
  have hun : ascL ls = closeI l := srt_ext (ascL_srt _) (ascL_srt _) fun a => by unfold closeI; rw [mem_ascL, mem_ascL, hm]
  have hul : (closeI l).length = ls.length := by rw [← hun, ascL_length M.nd]
  have o42 : qLen h1 (.mp h.n) (tyk K.P 100) = some (.nu .i64 (.ofNat es.length)) := by
    rw [show tyk K.P 100 = .map 103 46 by rw [H.hP]; exact t100]
    simp only [qLen, hg, hbLen]
  by_cases hb2 : 1024 < (closeI l).length
  · rw [if_pos hb2]
    exact Fails.w (by decide) ⟨_, h1, Comes.plain hf rfl (H.memo 25 (by decide)) (H.spec 25) rfl (Runs.seq r0 (Runs.seq r1 (Runs.seq r2 (Runs.seq (Runs.seq r3 r4) (f25_b1111_T H.hk H.prim PD k4 o42 (gt_t (by show (1024 : Int) < Int.ofNat _; simp; omega))))))) (.inr rfl) S1.n ks rfl rfl, S1, ok1, rfl⟩
  · rw [if_neg hb2]
    obtain ⟨r, h4, c4', S4, ok4, os, O4, W4⟩ := list_retW H TT ok1 hg M (by omega)
    rw [hun] at O4
    have Sall := S1.trans (S4.le S1.n)
    exact ⟨_, h4, Comes.plain hf rfl (H.memo 25 (by decide)) (H.spec 25) rfl (Runs.seq r0 (Runs.seq r1 (Runs.seq r2 (Runs.seq (Runs.seq r3 r4) (f25_b1111_F H.hk H.prim PD k4 o42 (gt_f (by simp; omega)) c4'))))) (.inr rfl) Sall.n ks rfl rfl, Sall, ok4, r, os, rfl, by rw [if_pos rfl]; exact O4.low S1.n, fun c hc => (W4 c hc).low S1.n⟩
end
end Go.CP
namespace Go.CP
open Go.Proofs
variable [LG] [HK]
section
variable {K : Ctx} {h : Hp}
end
end Go.CP
namespace Go.CP
open Go.Proofs
variable [LG] [HK]
theorem closeI_closedI (l : List (List Int)) : closeI l = closedI l := by
  refine srt_ext (ascL_srt _) (closedGo_srt _ _ List.Pairwise.nil) fun s => ?_
  have h := mem_closeI (l := l) (s := s)
  rw [h, mem_closedI]
section
variable {K : Ctx} {h : Hp}
theorem rclosure_ret (H : Std K) (PB : PlansB K) (PD : PlansD K) (ok : HpOk h) {l : List (List Int)} (hl : Sml l) (hn : l.length ≤ 1000) {x : CV} {cs : List CV} (hx : Row h x cs) (hxs : Rows h cs l) : Ret K 44 [x] h fun r h' => ∃ o, r = .tup [o, .nu .i64 (errK l)] ∧ Val h' o (if errK l = 0 then closeI l else []) := by
  have hf : K.P.funcs[44]? = some Tryz.f44 := by rw [H.hP]; exact Tryz.func44
  have hcl := hxs.length
  have hlen := len26 H hx
  rw [hcl] at hlen
  obtain ⟨s0, r0, a0, as0⟩ : ∃ s0, Runs K 44 30 none (sub1 [0] (bodyOf Tryz.f44)) (entry 0 [x]) h .normal s0 h ∧ s0.at 0 = x ∧ s0.at slot = .undef := ⟨_, f44_r0 H.hk, rfl, rfl⟩
  obtain ⟨s1, r1, b0, bs⟩ : ∃ s1, Runs K 44 30 none (sub1 [1, 0] (bodyOf Tryz.f44)) s0 h .normal s1 h ∧ s1.at 0 = x ∧ s1.at slot = .undef := ⟨_, f44_b10_F H.hk H.prim PD a0 hlen (gt_f (by simp; omega)), a0, as0⟩
  obtain ⟨s2, r2, c0, c4, c2s⟩ : ∃ s2, Runs K 44 30 none (sub1 [1, 1, 0, 0] (bodyOf Tryz.f44)) s1 h .normal s2 h ∧ s2.at 0 = x ∧ s2.at 4 = .nu .i64 (.ofNat 0) ∧ s2.at slot = .undef := ⟨_, f44_r3 H.hk, b0, rfl, bs⟩
  have hno : ¬ 1024 < l.length := by omega
  unfold errK
  rw [if_neg hno]
  rcases RunQ.loopB (K := K) (f := 44) (n := 30) (c := sub1 [1, 1, 0, 1, 0, 0] (bodyOf Tryz.f44)) (s := s2) (h := h) (m := l.length) (b := 0)
    (I := fun i s g => g = h ∧ s.at 0 = x ∧ s.at 4 = .nu .i64 (.ofNat i) ∧ s.at slot = .undef ∧ ∀ a ∈ l.take i, OkS a)
    (E := fun s g => g = h ∧ s.at 0 = x ∧ s.at slot = .undef ∧ ∀ a ∈ l, OkS a)
    (R := fun s g => g = h ∧ s.at slot = .undef ∧ errF l ≠ 0 ∧ s.at 2 = .nils ∧ s.at 3 = .nu .i64 (errF l))
    ⟨rfl, c0, c4, c2s, by simp⟩
    (fun i s g hi ⟨e, g0, g4, gs, hoks⟩ => by
      subst e
      obtain ⟨p, hp1, hp2⟩ := at26 H hx (i := i) (by omega)
      have hx0 := hxs.get (i := i) (by omega) hi
      have c57 := rcheck_comes H PB (by have := hl.each _ (List.getElem_mem hi); omega) hx0
      by_cases he : errS l[i] = 0
      · exact .inl ⟨_, _, f44_b110100_TF H.hk H.prim PD g4 g0 hlen (lessN hi) hp1 hp2 c57 (ne_f he) (inc (by omega)), rfl, g0, rfl, gs, fun a ha => by
          rw [take_snoc hi] at ha
          rcases List.mem_append.1 ha with ha | ha
          · exact hoks a ha
          · rw [List.mem_singleton] at ha; subst ha; exact errS_zero.1 he⟩
      · have heF := errF_at hi hoks he
        exact .inr (.inl ⟨_, _, f44_b110100_TT H.hk H.prim PD g4 g0 hlen (lessN hi) hp1 hp2 c57 (ne_t he), rfl, gs, by rw [heF]; exact he, rfl, by rw [heF]; rfl⟩))
    (fun s g ⟨e, g0, g4, gs, hoks⟩ => by
      subst e
      exact ⟨_, _, f44_b110100_F H.hk H.prim PD g4 g0 hlen (lessN' (Nat.le_refl _)), rfl, g0, gs, by rw [List.take_length] at hoks; exact hoks⟩)
    with ⟨s4, h1, r4, rfl, k0, ks, hoks⟩ | ⟨s4, h1, r4, rfl, ks, he, k2, k3⟩
  case inr =>
    rw [if_pos he, if_neg he]
    refine ⟨_, h1, Comes.plain hf rfl (H.memo 44 (by decide)) (H.spec 44) rfl (Runs.seq r0 (Runs.seq r1 (Runs.seqX (Runs.seq r2 r4) (by simp)))) (.inr rfl) (Nat.le_refl _) ks (vs := [s4.at 2, s4.at 3]) rfl rfl, Same.refl _ _, ok, .nils, by rw [k2, k3]; rfl, [], .nils, .nil⟩
  have heF := errF_zero.2 hoks
  rw [if_neg (fun hn => hn heF)]
  obtain ⟨z, zs, h2, c56, S2, ok2, hz, hzs⟩ := closed_comes H ok hn (fun a ha => by have := (hoks a ha).le; omega) hx hxs
  rw [← closeI_closedI] at hzs
  have hzl := len26 H hz
  rw [hzs.length] at hzl
  by_cases hb2 : 1024 < (closeI l).length
  · rw [if_pos hb2]
    exact ⟨_, h2, Comes.plain hf rfl (H.memo 44 (by decide)) (H.spec 44) rfl (Runs.seq r0 (Runs.seq r1 (Runs.seq (Runs.seq r2 r4) (f44_b111_T H.hk H.prim PD k0 c56 hzl (gt_t (by show (1024 : Int) < Int.ofNat _; simp; omega)))))) (.inr rfl) S2.n ks rfl rfl, S2, ok2, .nils, rfl, [], .nils, .nil⟩
  · rw [if_neg hb2]
    exact ⟨_, h2, Comes.plain hf rfl (H.memo 44 (by decide)) (H.spec 44) rfl (Runs.seq r0 (Runs.seq r1 (Runs.seq (Runs.seq r2 r4) (f44_b111_F H.hk H.prim PD k0 c56 hzl (gt_f (by simp; omega)))))) (.inr rfl) S2.n ks rfl rfl, S2, ok2, z, rfl, zs, hz, hzs⟩
theorem putsI_take {l m : List (List Int)} {i : Nat} (hi : i < l.length) : putsI m (l.take (i + 1)) = putI (putsI m (l.take i)) l[i] := by
  unfold putsI
  rw [take_snoc hi, List.foldl_append]; rfl
theorem putsI_len : ∀ (f out : List (List Int)), (putsI out f).length ≤ out.length + f.length
  | [], out => Nat.le_refl _
  | a :: f, out => by
    have h1 := putsI_len f (putI out a)
    have h2 := putI_length out a
    show (putsI (putI out a) f).length ≤ _
    rw [List.length_cons]; omega
theorem runion_ret (H : Std K) (PD : PlansD K) (ok : HpOk h) {a b : List (List Int)} (ha : Sml a) (hb : Sml b) (hab : a.length + b.length < 549755813888) {x y : CV} {cs ds : List CV} (hx : Row h x cs) (hxs : Rows h cs a) (hy : Row h y ds) (hys : Rows h ds b) : Ret K 48 [x, y] h fun r h' => Val h' r (putsI a b) := by
  have hf : K.P.funcs[48]? = some Tryz.f48 := by rw [H.hP]; exact Tryz.func48
  have hdl := hys.length
  obtain ⟨s1, r1, b1, b5, bs⟩ : ∃ s1, Runs K 48 21 none (sub1 [1, 0] (bodyOf Tryz.f48)) (T.set (entry 0 [x, y]) 4 .nils) h .normal s1 h ∧ s1.at 1 = y ∧ s1.at 5 = x ∧ s1.at slot = .undef := ⟨_, f48_r1 H.hk rfl, rfl, rfl, rfl⟩
  obtain ⟨s2, r2, c1, c5, c6, c2s⟩ : ∃ s2, Runs K 48 21 none (sub1 [1, 1, 0, 0] (bodyOf Tryz.f48)) s1 h .normal s2 h ∧ s2.at 1 = y ∧ s2.at 5 = x ∧ s2.at 6 = .nu .i64 (.ofNat 0) ∧ s2.at slot = .undef := ⟨_, f48_r2 H.hk, b1, b5, rfl, bs⟩
  obtain ⟨s', h', r, ok', S, hs, hv⟩ := RunQ.loopE (K := K) (f := 48) (n := 21) (c := sub1 [1, 1, 0, 1, 0, 0] (bodyOf Tryz.f48)) (s := s2) (h := h) (m := b.length) (b := 0)
    (I := fun i s g => HpOk g ∧ Same h.n h g ∧ s.at 1 = y ∧ s.at 6 = .nu .i64 (.ofNat i) ∧ s.at slot = .undef ∧ Val g (s.at 5) (putsI a (b.take i)))
    (E := fun s g => HpOk g ∧ Same h.n h g ∧ s.at slot = .undef ∧ Val g (s.at 5) (putsI a b)) ⟨ok, Same.refl _ _, c1, c6, c2s, by rw [c5]; exact ⟨cs, hx, hxs⟩⟩
    (fun i s g hi ⟨okg, S, g1, g6, gs, us, hu, hus⟩ => by
      have hy2 := hy.mono S ok (Nat.le_refl _)
      have hlen := len26 H hy2
      rw [hdl] at hlen
      obtain ⟨p, hp1, hp2⟩ := at26 H hy2 (i := i) (by omega)
      have hri := (hys.get (i := i) (by omega) hi).mono S ok (Nat.le_refl _)
      have hpl := putsI_len (b.take i) a
      have htl : (b.take i).length ≤ b.length := by simp; omega
      obtain ⟨z, zs, g', c98, S1, ok1, hz, hzs⟩ := put_comes H okg (by have := hb.each _ (List.getElem_mem hi); omega) (by omega) hu hus hri
      exact ⟨_, _, f48_b110100_T H.hk H.prim PD g6 g1 rfl hlen (lessN hi) hp1 hp2 c98 (inc (by have := hb.len; omega)), ok1, S.trans (S1.le S.n), g1, rfl, gs, zs, hz, by rw [putsI_take hi]; exact hzs.mono S1 okg (Nat.le_refl _)⟩)
    (fun s g ⟨okg, S, g1, g6, gs, hv⟩ => by
      have hlen := len26 H (hy.mono S ok (Nat.le_refl _))
      rw [hdl] at hlen
      exact ⟨_, _, f48_b110100_F H.hk H.prim PD g6 g1 hlen (lessN' (Nat.le_refl _)), okg, S, gs, by rw [List.take_length] at hv; exact hv⟩)
  exact ⟨_, h', Comes.plain hf rfl (H.memo 48 (by decide)) (H.spec 48) rfl (Runs.seq (f48_r0 H.hk) (Runs.seq r1 (Runs.seq (Runs.seq r2 r) (f48_b111 H.hk H.prim PD rfl)))) (.inr rfl) S.n hs rfl rfl, S, ok', hv⟩
theorem rmeet_ret (H : Std K) (PD : PlansD K) (ok : HpOk h) {a b : List (List Int)} (ha : Sml a) (hb : Sml b) {x y : CV} {cs ds : List CV} (hx : Row h x cs) (hxs : Rows h cs a) (hy : Row h y ds) (hys : Rows h ds b) : Ret K 49 [x, y] h fun r h' => Sel h h' r (a.filter fun s => decide (s ∈ b)) := by
  have hf : K.P.funcs[49]? = some Tryz.f49 := by rw [H.hP]; exact Tryz.func49
  have hcl := hxs.length
  obtain ⟨s', h', r, ok', S, hs, cs', ho, hr⟩ := RunQ.loopE (K := K) (f := 49) (n := 28) (c := sub1 [1, 1, 0, 1, 0, 0] (bodyOf Tryz.f49)) (s := T.set (T.set (T.set (entry 0 [x, y]) 4 .nils) 5 .nils) 6 (.nu .i64 0)) (h := h) (m := a.length) (b := 0)
    (I := fun i s g => HpOk g ∧ Same h.n h g ∧ s.at 0 = x ∧ s.at 1 = y ∧ s.at 6 = .nu .i64 (.ofNat i) ∧ s.at slot = .undef ∧ Sel h g (s.at 5) ((a.take i).filter fun s => decide (s ∈ b)))
    (E := fun s g => HpOk g ∧ Same h.n h g ∧ s.at slot = .undef ∧ Sel h g (s.at 5) (a.filter fun s => decide (s ∈ b))) ⟨ok, Same.refl _ _, rfl, rfl, rfl, rfl, [], .nils, .nil⟩
    (fun i s g hi ⟨okg, S, g0, g1, g6, gs, cs', ho, hr⟩ => by
      have hx2 := hx.mono S ok (Nat.le_refl _)
      have hlen := len26 H hx2
      rw [hcl] at hlen
      obtain ⟨p, hp1, hp2⟩ := at26 H hx2 (i := i) (by omega)
      have hri := hxs.get (i := i) (by omega) hi
      have hin := idx_comes H hb.len (fun t ht => by have := hb.each t ht; omega) (hy.mono S ok (Nat.le_refl _)) (hys.mono S ok (Nat.le_refl _)) (hri.mono S ok (Nat.le_refl _))
      have hlr := hr.length
      have hfl := filter_length_le (fun s => decide (s ∈ b)) a i
      have hll := ha.len
      have hnn := idxI_nn (l := b) (s := a[i])
      by_cases hq : a[i] ∈ b
      · obtain ⟨F, B, x', h', a1, a2, a3, a4, a5⟩ := app1 (P := K.P) (t := 26) (v := cs[i]) (by rw [H.hP]; exact t26) okg S.n ho hri.one (by decide) (by omega)
        exact ⟨_, _, f49_b110100_TT H.hk H.prim PD g6 g0 g1 rfl hlen (lessN hi) hp1 hp2 hin (by rw [geqN, hnn.2 hq]) hp2 a1 a2 (inc (by omega)), a5, S.trans a4, g0, g1, rfl, gs, _, a3, by rw [filter_t hi (by simpa using hq)]; exact hr.snoc hri⟩
      · have hq' : ile 0 (idxI b a[i]) = false := by
          cases hz : ile 0 (idxI b a[i]) with
          | false => rfl
          | true => exact absurd (hnn.1 hz) hq
        exact ⟨_, _, f49_b110100_TF H.hk H.prim PD g6 g0 g1 hlen (lessN hi) hp1 hp2 hin (by rw [geqN, hq']) (inc (by omega)), okg, S, g0, g1, rfl, gs, cs', ho, by rw [filter_f hi (by simpa using hq)]; exact hr⟩)
    (fun s g ⟨okg, S, g0, g1, g6, gs, cs', ho, hr⟩ => by
      have hlen := len26 H (hx.mono S ok (Nat.le_refl _))
      rw [hcl] at hlen
      exact ⟨_, _, f49_b110100_F H.hk H.prim PD g6 g0 hlen (lessN' (Nat.le_refl _)), okg, S, gs, cs', ho, by rw [List.take_length] at hr; exact hr⟩)
  exact ⟨_, h', Comes.plain hf rfl (H.memo 49 (by decide)) (H.spec 49) rfl (Runs.seq (f49_r0 H.hk) (Runs.seq (f49_r1 H.hk) (Runs.seq (Runs.seq (f49_r2 H.hk) r) (f49_b111 H.hk H.prim PD rfl)))) (.inr rfl) S.n hs rfl rfl, S, ok', cs', ho, hr⟩
end
end Go.CP
namespace Go.CP
open Go.Proofs
variable [LG] [HK]
def Only3 (h g : Hp) : Prop := ∀ k, (∀ cs m, h.get k ≠ .cells cs m 3) → g.get k = h.get k
theorem Only3.set {h g : Hp} (o : Only3 h g) {k : Nat} {cs : List CV} {m : Nat} (hg : g.get k = .cells cs m 3) (b : HB) : Only3 h (g.set k b) := fun j hj => by
  have e := o j hj
  rw [Hp.get_set, if_neg (by rintro rfl; rw [hg] at e; exact hj _ _ e.symm)]; exact e
theorem Wr.set {N : Nat} {g : Hp} {c : CV} (w : Wr N g c) {k : Nat} {cs cs' : List CV} {m : Nat} (hg : g.get k = .cells cs m 3) (hl : cs'.length = cs.length) : Wr N (g.set k (.cells cs' m 3)) c := by
  obtain ⟨j, n, ds, m', e, h1, h2, h3, h4⟩ := w
  by_cases hj : j = k
  · subst hj
    rw [hg] at h3
    injection h3 with h3 hm
    exact ⟨j, n, cs', m, e, h1, h2, by rw [Hp.get_set, if_pos rfl], by rw [hl, h3, h4]⟩
  · exact ⟨j, n, ds, m', e, h1, h2, by rw [Hp.get_set, if_neg hj]; exact h3, h4⟩
section
variable {K : Ctx}
theorem spoil_in (H : Std K) (PD : PlansD K) {N : Nat} {h g : Hp} {xs : List CV} {c x5 x6 x7 : CV} (ok : HpOk g) (S : Same N h g) (O3 : Only3 h g) (hw : ∀ c ∈ xs, Wr N g c) {k n : Nat} (hc : c = .sl k 0 n n) (hkN : N ≤ k) (hkn : k < g.n) {cs : List CV} {m : Nat} (hg : g.get k = .cells cs m 3) (hn : cs.length = n) (hbig : n < 4611686018427387904) {s : Fr} (s3 : s.at 3 = c) (s12 : s.at 12 = .nu .i64 (.ofNat n)) (s13 : s.at 13 = .nu .i64 (.ofNat 0)) (s5 : s.at 5 = x5) (s6 : s.at 6 = x6) (s7 : s.at 7 = x7) (hs : s.at slot = .undef) :
    ∃ s' g', Runs K 45 21 none (sub1 [1, 0, 0, 1, 1, 0, 0, 1, 1] (bodyOf Tryz.f45)) s g .normal s' g' ∧ s'.at 5 = x5 ∧ s'.at 6 = x6 ∧ s'.at 7 = x7 ∧ s'.at slot = .undef ∧ HpOk g' ∧ Same N h g' ∧ Only3 h g' ∧ ∀ c ∈ xs, Wr N g' c := by
  have tz3 : tsz K.P 3 = some (1, false) := by rw [H.hP]; exact z3
  have t46' : tyk K.P 46 = .slice 3 1 8 [.nu .i64 0] := by rw [H.hP]; exact t46
  exact RunQ.loopE (K := K) (f := 45) (n := 21) (c := sub1 [1, 0, 0, 1, 1, 0, 0, 1, 1, 0, 0] (bodyOf Tryz.f45)) (s := s) (h := g) (m := n) (b := 2)
    (I := fun i s g' => HpOk g' ∧ Same N h g' ∧ Only3 h g' ∧ (∀ c ∈ xs, Wr N g' c) ∧ k < g'.n ∧ s.at 3 = c ∧ s.at 12 = .nu .i64 (.ofNat n) ∧ s.at 13 = .nu .i64 (.ofNat i) ∧ s.at 5 = x5 ∧ s.at 6 = x6 ∧ s.at 7 = x7 ∧ s.at slot = .undef ∧ ∃ cs, g'.get k = .cells cs m 3 ∧ cs.length = n)
    (E := fun s' g' => s'.at 5 = x5 ∧ s'.at 6 = x6 ∧ s'.at 7 = x7 ∧ s'.at slot = .undef ∧ HpOk g' ∧ Same N h g' ∧ Only3 h g' ∧ ∀ c ∈ xs, Wr N g' c)
    ⟨ok, S, O3, hw, hkn, s3, s12, s13, s5, s6, s7, hs, cs, hg, hn⟩
    (fun i s g' hi ⟨ok, S, O3, hw, hkn, s3, s12, s13, s5, s6, s7, hs, cs, hg, hn⟩ => by
      have hq : qIndexAddr c (.nu .i64 (.ofNat i)) (tyk K.P 46) = some (.ptr k (0 + i * 1)) := by
        have hb : Nat.blt i n = true := by simpa using hi
        rw [t46', hc]; simp only [qIndexAddr, qAt, hb]
      have hst : wStore g' (.ptr k (0 + i * 1)) (.nu .i64 (-9)) (tsz K.P 3) = some (.undef, g'.set k (.cells (cs.set i (.nu .i64 (-9))) m 3)) := by
        rw [tz3]
        show wStoreB g' k (0 + i * 1) 1 (.nu .i64 (-9)) (g'.get k) = _
        have hle : Nat.ble (0 + i * 1 + 1) cs.length = true := Nat.ble_eq_true_of_le (by omega)
        have hso : CV.sol (.nu .i64 (-9)) = true := rfl
        have hce : CV.cells (.nu .i64 (-9)) = [.nu .i64 (-9)] := rfl
        rw [hg]
        simp only [wStoreB, hso, hce, hle, List.length_cons, List.length_nil, setAt_one]
        simp only [Nat.zero_add, Nat.mul_one]
        rfl
      refine ⟨_, _, f45_b10011001100_T H.hk H.prim PD s13 s12 s3 (lessN hi) hq hst (inc (by omega)), ok.set hkn _, S.trans (Same.set hkN _), O3.set hg _, fun c hc => (hw c hc).set hg (by simp), hkn, s3, s12, rfl, s5, s6, s7, hs, _, by rw [Hp.get_set, if_pos rfl], by simpa using hn⟩)
    (fun s g' ⟨ok, S, O3, hw, hkn, s3, s12, s13, s5, s6, s7, hs, cs, hg, hn⟩ => ⟨_, _, f45_b10011001100_F H.hk H.prim PD s13 s12 (lessN' (Nat.le_refl _)), s5, s6, s7, hs, ok, S, O3, hw⟩)
theorem spoil_ret (H : Std K) (PD : PlansD K) {N : Nat} {h : Hp} (ok : HpOk h) {x : CV} {cs : List CV} {l : List (List Int)} (O : Own N h 46 x cs l) (hw : ∀ c ∈ cs, Wr N h c) (hl : l.length < 549755813888) (hs : ∀ a ∈ l, a.length < 549755813888) : ∃ r h', Comes K 45 [x] h r h' ∧ Same N h h' ∧ HpOk h' := by
  have hf : K.P.funcs[45]? = some Tryz.f45 := by rw [H.hP]; exact Tryz.func45
  have hx := O.out.row
  have hcl := O.rows.length
  have hlen := len22 H hx
  rw [hcl] at hlen
  have hxg : ∀ g : Hp, Only3 h g → Row g x cs := fun g O3 => hx.but fun k hk => by
    obtain ⟨_, _, ds, hd⟩ := O.blkAt hk
    exact O3 k fun es m he => by rw [hd] at he; injection he with _ _ he; cases he
  obtain ⟨s1, r1, a5, a6, a7, as1⟩ : ∃ s1, Runs K 45 21 none (sub1 [0] (bodyOf Tryz.f45)) (entry 0 [x]) h .normal s1 h ∧ s1.at 5 = x ∧ s1.at 6 = .nu .i64 (.ofNat l.length) ∧ s1.at 7 = .nu .i64 (.ofNat 0) ∧ s1.at slot = .undef := ⟨_, f45_r0 H.hk rfl hlen, rfl, rfl, rfl, rfl⟩
  obtain ⟨s', h', r, ps, ok', S⟩ := RunQ.loopE (K := K) (f := 45) (n := 21) (c := sub1 [1, 0, 0] (bodyOf Tryz.f45)) (s := s1) (h := h) (m := l.length) (b := 0)
    (I := fun i s g => HpOk g ∧ Same N h g ∧ Only3 h g ∧ (∀ c ∈ cs, Wr N g c) ∧ s.at 5 = x ∧ s.at 6 = .nu .i64 (.ofNat l.length) ∧ s.at 7 = .nu .i64 (.ofNat i) ∧ s.at slot = .undef)
    (E := fun s g => s.at slot = .undef ∧ HpOk g ∧ Same N h g)
    ⟨ok, Same.refl _ _, fun _ _ => rfl, hw, a5, a6, a7, as1⟩
    (fun i s g hi ⟨okg, S, O3, hwg, g5, g6, g7, gs⟩ => by
      have hxr := hxg g O3
      obtain ⟨p, hp1, hp2⟩ := at22 H hxr (i := i) (by omega)
      obtain ⟨k, n, es, m, e, h1, h2, h3, h4⟩ := hwg cs[i] (List.getElem_mem (by omega))
      have hr0 := O.all.get (i := i) (by omega) hi
      have hnl : n = l[i].length := by
        have h5 := hr0.lenV
        rw [e, ints_length] at h5
        exact h5
      have hlc : qLen g cs[i] (tyk K.P 46) = some (.nu .i64 (.ofNat n)) := by rw [show tyk K.P 46 = .slice 3 1 8 [.nu .i64 0] by rw [H.hP]; exact t46, e]; rfl
      obtain ⟨sA, rA, b3, b12, b13, b5, b6, b7, bs⟩ : ∃ sA, Runs K 45 21 none (sub1 [1, 0, 0, 0] (bodyOf Tryz.f45)) s g .normal sA g ∧ sA.at 8 = .bo true ∧ sA.at 5 = x ∧ sA.at 6 = .nu .i64 (.ofNat l.length) ∧ sA.at 7 = .nu .i64 (.ofNat i) ∧ sA.at slot = .undef ∧ True ∧ True := ⟨_, f45_r1 H.hk g7 g6 (lessN hi), rfl, g5, g6, g7, gs, trivial, trivial⟩
      obtain ⟨sB, rB, d3, d5, d6, d7, ds⟩ : ∃ sB, Runs K 45 21 none (sub1 [1, 0, 0, 1, 1, 0, 0, 0] (bodyOf Tryz.f45)) sA g .normal sB g ∧ sB.at 3 = cs[i] ∧ sB.at 5 = x ∧ sB.at 6 = .nu .i64 (.ofNat l.length) ∧ sB.at 7 = .nu .i64 (.ofNat i) ∧ sB.at slot = .undef := ⟨_, f45_r2 H.hk b12 b5 hp1 hp2, rfl, b12, b13, b5, b6⟩
      obtain ⟨sC, rC, e3, e12, e13, e5, e6, e7, es'⟩ : ∃ sC, Runs K 45 21 none (sub1 [1, 0, 0, 1, 1, 0, 0, 1, 0] (bodyOf Tryz.f45)) sB g .normal sC g ∧ sC.at 3 = cs[i] ∧ sC.at 12 = .nu .i64 (.ofNat n) ∧ sC.at 13 = .nu .i64 (.ofNat 0) ∧ sC.at 5 = x ∧ sC.at 6 = .nu .i64 (.ofNat l.length) ∧ sC.at 7 = .nu .i64 (.ofNat i) ∧ sC.at slot = .undef := ⟨_, f45_r3 H.hk d3 hlc, d3, rfl, rfl, d5, d6, d7, ds⟩
      obtain ⟨sD, g', rD, q5, q6, q7, qs, okg', S', O3', hwg'⟩ := spoil_in H PD okg S O3 hwg e h1 h2 h3 h4 (by have := hs _ (List.getElem_mem hi); omega) e3 e12 e13 e5 e6 e7 es'
      exact ⟨_, g', Runs.seq rA (Runs.seq (f45_b10010_T H.hk H.prim PD b3) (Runs.seq (Runs.blockN (Runs.seq rB (Runs.seq rC rD))) (f45_r8 H.hk q7 (inc (by omega))))), okg', S', O3', hwg', q5, q6, rfl, qs⟩)
    (fun s g ⟨okg, S, O3, hwg, g5, g6, g7, gs⟩ => ⟨_, _, Runs.seq (f45_r1 H.hk g7 g6 (lessN' (Nat.le_refl _))) (Runs.seqX (f45_b10010_F H.hk H.prim PD rfl) (by simp)), gs, okg, S⟩)
  exact ⟨_, h', Comes.plain hf rfl (H.memo 45 (by decide)) (H.spec 45) rfl (Runs.seq r1 r) (.inl rfl) S.n ps rfl rfl, S, ok'⟩
end
end Go.CP
namespace Go.CP
open Go.Proofs
variable [LG] [HK]
theorem unionI_len (a b : List (List Int)) : (unionI a b).length ≤ a.length + b.length := by
  have h := putsI_len (a ++ b) []
  rw [List.length_append] at h
  have e : unionI a b = putsI [] (a ++ b) := rfl
  rw [e]; simpa using h
theorem union_puts {a b : List (List Int)} (ha : Srt a) : unionI a b = putsI a b := by
  refine srt_ext (ascL_srt _) (putsI_srt _ _ ha) fun s => ?_
  have h := mem_unionI (a := a) (b := b) (x := s)
  rw [h, mem_putsI]
theorem closeI_sml {l : List (List Int)} (h : errK l = 0) : Sml (closeI l) := by
  unfold errK at h
  by_cases h1 : 1024 < l.length
  · rw [if_pos h1] at h; exact absurd h (by decide)
  rw [if_neg h1] at h
  by_cases h2 : errF l = 0
  case neg => rw [if_pos h2] at h; exact absurd h h2
  rw [if_neg (fun hn => hn h2)] at h
  by_cases h3 : 1024 < (closeI l).length
  · rw [if_pos h3] at h; exact absurd h (by decide)
  refine ⟨by omega, fun s hs => ?_⟩
  obtain ⟨a, ha, h4, _⟩ := mem_closeI.1 hs
  have := (errF_zero.1 h2 a ha).le
  have := h4.length_le
  omega
theorem sml_nil : Sml [] := ⟨by simp, by simp⟩
def Vals (h : Hp) (L : List (CV × List (List Int))) : Prop := ∀ p ∈ L, Val h p.1 p.2
theorem Vals.mono {h h' : Hp} {L : List (CV × List (List Int))} (S : Same h.n h h') (ok : HpOk h) (V : Vals h L) : Vals h' L := fun p hp => (V p hp).mono S ok
theorem Vals.cons {h : Hp} {L : List (CV × List (List Int))} {x : CV} {l : List (List Int)} (v : Val h x l) (V : Vals h L) : Vals h ((x, l) :: L) := fun p hp => by
  rcases List.mem_cons.1 hp with rfl | hp
  · exact v
  · exact V p hp
section
variable {K : Ctx} {h : Hp}
theorem builds_round (H : Std K) (TT : Told72 K) (PB : PlansB K) (PD : PlansD K) (PY : PlansY K) (h70 : ∀ args h, K.spec 70 args h = none) (ok : HpOk h) {a : List (List Int)} (ha : Sml a) {x c : CV} (vx : Val h x a) (vc : Val h c (if errK a = 0 then closeI a else [])) {s : Fr} (s0 : s.at 0 = x) (s7 : s.at 7 = c) (s8 : s.at 8 = .nu .i64 (errK a)) {x1 x5 x6 x9 : CV} (s1 : s.at 1 = x1) (s5 : s.at 5 = x5) (s6 : s.at 6 = x6) (s9 : s.at 9 = x9) (hs : s.at slot = .undef) :
    ∃ s' h', Runs K 8 140 none (sub1 [1, 1, 1, 1, 1, 0, 1, 0, 0, 1, 0] (bodyOf Tryz.f8)) s h .normal s' h' ∧ Same h.n h h' ∧ HpOk h' ∧ s'.at 0 = x ∧ s'.at 7 = c ∧ s'.at 8 = .nu .i64 (errK a) ∧ s'.at 1 = x1 ∧ s'.at 5 = x5 ∧ s'.at 6 = x6 ∧ s'.at 9 = x9 ∧ s'.at slot = .undef := by
  obtain ⟨cs, hx, hxs⟩ := vx
  obtain ⟨r, h1, c25, S1, ok1, o, ds, rfl, O1, W1⟩ := closure_retW H TT PD PY h70 ok ha hx hxs
  obtain ⟨sA, rA, a0, a1, a5, a6, a7, a8, a9, a10, a11, as1⟩ : ∃ sA, Runs K 8 140 none (sub1 [1, 1, 1, 1, 1, 0, 1, 0, 0, 1, 0, 0, 0] (bodyOf Tryz.f8)) s h .normal sA h1 ∧ sA.at 0 = x ∧ sA.at 1 = x1 ∧ sA.at 5 = x5 ∧ sA.at 6 = x6 ∧ sA.at 7 = c ∧ sA.at 8 = .nu .i64 (errK a) ∧ sA.at 9 = x9 ∧ sA.at 10 = o ∧ sA.at 11 = .nu .i64 (errK a) ∧ sA.at slot = .undef := ⟨_, f8_r10 H.hk s0 (H.prim _ _) c25 rfl rfl, s0, s1, s5, s6, s7, s8, s9, rfl, rfl, hs⟩
  have hsm : Sml (if errK a = 0 then closeI a else []) := by
    by_cases he : errK a = 0
    · rw [if_pos he]; exact closeI_sml he
    · rw [if_neg he]; exact sml_nil
  have c23 := same_val H PB hsm O1.val (vc.mono S1 ok) rfl
  obtain ⟨sB, rB, b0, b1, b5, b6, b7, b8, b9, b10, bs⟩ : ∃ sB, Runs K 8 140 none (sub1 [1, 1, 1, 1, 1, 0, 1, 0, 0, 1, 0, 0, 1, 0] (bodyOf Tryz.f8)) sA h1 .normal sB h1 ∧ sB.at 0 = x ∧ sB.at 1 = x1 ∧ sB.at 5 = x5 ∧ sB.at 6 = x6 ∧ sB.at 7 = c ∧ sB.at 8 = .nu .i64 (errK a) ∧ sB.at 9 = x9 ∧ sB.at 10 = o ∧ sB.at slot = .undef :=
    ⟨_, Runs.seq (f8_r11_F H.hk a8 a11 a10 a7 (ne_f rfl) (H.prim _ _) c23 rfl rfl) (Runs.condF (o := .tmp 61) rfl Runs.skip), a0, a1, a5, a6, a7, a8, a9, a10, as1⟩
  obtain ⟨r', h2, c45, S2, ok2⟩ := spoil_ret H PD ok1 O1 W1 hsm.len hsm.each
  exact ⟨_, h2, Runs.blockN (Runs.seq rA (Runs.seq rB (f8_r13 H.hk b10 (H.prim _ _) c45))), S1.trans S2, ok2, b0, b7, b8, b1, b5, b6, b9, bs⟩
theorem builds_comes (H : Std K) (A : Awake K) (TT : Told72 K) (PB : PlansB K) (PC : PlansC K) (PD : PlansD K) (PY : PlansY K) (h70 : ∀ args h, K.spec 70 args h = none) (ok : HpOk h) {a b : List (List Int)} {x y : CV} (vx : Val h x a) (vy : Val h y b) :
    ∃ h', Comes K 8 [x, y] h (.bo true) h' ∧ Same h.n h h' := by
  have hf : K.P.funcs[8]? = some Tryz.f8 := by rw [H.hP]; exact Tryz.func8
  obtain ⟨cs, hx, hxs⟩ := id vx
  obtain ⟨ds, hy, hys⟩ := id vy
  have aw : ∀ g, Comes K 14 [] g (.bo true) g := fun g => A.comes
  have c13 := long_comes H PB (n := 40) (by decide) hx hxs
  have c13' := long_comes H PB (n := 40) (by decide) hy hys
  cases hla : longI a 40 with
  | true =>
    rw [hla] at c13
    exact ⟨h, Comes.plain hf rfl (H.memo 8 (by decide)) (H.spec 8) rfl (Runs.seq (f8_r0 H.hk) (Runs.seqX (Runs.seq (f8_r1_T H.hk rfl (H.prim _ _) c13 rfl) (Runs.condT (o := .tmp 28) rfl (Runs.seq (f8_r2 H.hk (H.prim _ _) (aw h)) Runs.ret))) (by simp))) (.inr rfl) (Nat.le_refl _) rfl rfl rfl, Same.refl _ _⟩
  | false =>
  rw [hla] at c13
  cases hlb : longI b 40 with
  | true =>
    rw [hlb] at c13'
    exact ⟨h, Comes.plain hf rfl (H.memo 8 (by decide)) (H.spec 8) rfl (Runs.seq (f8_r0 H.hk) (Runs.seqX (Runs.seq (f8_r1_F H.hk rfl rfl (H.prim _ _) c13 (H.prim _ _) c13' rfl) (Runs.condT (o := .tmp 28) rfl (Runs.seq (f8_r2 H.hk (H.prim _ _) (aw h)) Runs.ret))) (by simp))) (.inr rfl) (Nat.le_refl _) rfl rfl rfl, Same.refl _ _⟩
  | false =>
  rw [hlb] at c13'
  obtain ⟨ha40, ha12⟩ := longI_f hla
  obtain ⟨hb40, hb12⟩ := longI_f hlb
  have hal : a.length ≤ 40 := by simp at ha40; omega
  have hbl : b.length ≤ 40 := by simp at hb40; omega
  have hA : Sml a := ⟨by omega, fun s hs => by have := ha12 s hs; omega⟩
  have hB : Sml b := ⟨by omega, fun s hs => by have := hb12 s hs; omega⟩
  obtain ⟨s1, r1, a0, a1, as1⟩ : ∃ s1, Runs K 8 140 none (sub1 [1, 0] (bodyOf Tryz.f8)) (T.set (entry 0 [x, y]) 4 (.bo false)) h .normal s1 h ∧ s1.at 0 = x ∧ s1.at 1 = y ∧ s1.at slot = .undef :=
    ⟨_, Runs.seq (f8_r1_F H.hk rfl rfl (H.prim _ _) c13 (H.prim _ _) c13' rfl) (Runs.condF (o := .tmp 28) rfl Runs.skip), rfl, rfl, rfl⟩
  obtain ⟨p, h1, c16, S1, ok1, ps, hp⟩ := plain_ret H ok hA hx hxs
  have vy1 := vy.mono S1 ok
  obtain ⟨_, hy1, hys1⟩ := id vy1
  obtain ⟨q, h2, c16', S2, ok2, qs, hq⟩ := plain_ret H ok1 hB hy1 hys1
  have V2 : Vals h2 [(x, a), (y, b), (p, a), (q, b)] := Vals.cons ((vx.mono S1 ok).mono S2 ok1) (Vals.cons (vy1.mono S2 ok1) (Vals.cons (hp.val.mono S2 ok1) (Vals.cons hq.val (fun _ h => by cases h))))
  have T2 := S1.trans (S2.le S1.n)
  obtain ⟨s2, r2, b0, b1, b5, b6, bs⟩ : ∃ s2, Runs K 8 140 none (sub1 [1, 1, 0] (bodyOf Tryz.f8)) s1 h .normal s2 h2 ∧ s2.at 0 = x ∧ s2.at 1 = y ∧ s2.at 5 = p ∧ s2.at 6 = q ∧ s2.at slot = .undef := ⟨_, f8_r3 H.hk a0 a1 (H.prim _ _) c16 (H.prim _ _) c16', a0, a1, rfl, rfl, as1⟩
  obtain ⟨us, hu, hus⟩ := V2 (x, a) (by simp)
  obtain ⟨_, h3, c26, S3, ok3, rfl⟩ := ccheck_ret H ok2 hA hu hus
  have V3 := V2.mono S3 ok2
  obtain ⟨ps3, hp3, hps3⟩ := V3 (p, a) (by simp)
  obtain ⟨_, h4, c17, S4, ok4, rfl⟩ := r8check_ret H PB ok3 hA hp3 hps3
  have V4 := V3.mono S4 ok3
  have T4 := (T2.trans (S3.le T2.n)).trans (S4.le (T2.trans (S3.le T2.n)).n)
  obtain ⟨s3, r3, d0, d1, d5, d6, ds3⟩ : ∃ s3, Runs K 8 140 none (sub1 [1, 1, 1, 0] (bodyOf Tryz.f8)) s2 h2 .normal s3 h4 ∧ s3.at 0 = x ∧ s3.at 1 = y ∧ s3.at 5 = p ∧ s3.at 6 = q ∧ s3.at slot = .undef :=
    ⟨_, Runs.seq (f8_r4 H.hk b0 b5 (H.prim _ _) c26 (H.prim _ _) c17 (ne_f rfl)) (Runs.condF (o := .tmp 38) rfl Runs.skip), b0, b1, b5, b6, bs⟩
  obtain ⟨ps4, hp4, hps4⟩ := V4 (p, a) (by simp)
  obtain ⟨_, h5, c44, S5, ok5, oc, rfl, vc5⟩ := rclosure_ret H PB PD ok4 hA (by omega) hp4 hps4
  have V5 : Vals h5 [(oc, if errK a = 0 then closeI a else []), (x, a), (y, b), (p, a), (q, b)] := Vals.cons vc5 (V4.mono S5 ok4)
  have T5 := T4.trans (S5.le T4.n)
  obtain ⟨s4, r4, e0, e1, e5, e6, e7, e8, es⟩ : ∃ s4, Runs K 8 140 none (sub1 [1, 1, 1, 1, 0] (bodyOf Tryz.f8)) s3 h4 .normal s4 h5 ∧ s4.at 0 = x ∧ s4.at 1 = y ∧ s4.at 5 = p ∧ s4.at 6 = q ∧ s4.at 7 = oc ∧ s4.at 8 = .nu .i64 (errK a) ∧ s4.at slot = .undef := ⟨_, f8_r6 H.hk d5 (H.prim _ _) c44 rfl rfl, d0, d1, d5, d6, rfl, rfl, ds3⟩
  obtain ⟨s5, r5, f0, f1, f5, f6, f7, f8', f9, fs⟩ : ∃ s5, Runs K 8 140 none (sub1 [1, 1, 1, 1, 1, 0, 0] (bodyOf Tryz.f8)) s4 h5 .normal s5 h5 ∧ s5.at 0 = x ∧ s5.at 1 = y ∧ s5.at 5 = p ∧ s5.at 6 = q ∧ s5.at 7 = oc ∧ s5.at 8 = .nu .i64 (errK a) ∧ s5.at 9 = .nu .i64 (.ofNat 0) ∧ s5.at slot = .undef := ⟨_, f8_r7 H.hk, e0, e1, e5, e6, e7, e8, rfl, es⟩
  obtain ⟨s6, h6, r6, ok6, S6, V6, g0, g1, g5, g6, gs⟩ := RunQ.loopE (K := K) (f := 8) (n := 140) (c := sub1 [1, 1, 1, 1, 1, 0, 1, 0, 0] (bodyOf Tryz.f8)) (s := s5) (h := h5) (m := 2) (b := 0)
    (I := fun i s g => HpOk g ∧ Same h5.n h5 g ∧ Vals g [(oc, if errK a = 0 then closeI a else []), (x, a), (y, b), (p, a), (q, b)] ∧ s.at 0 = x ∧ s.at 1 = y ∧ s.at 5 = p ∧ s.at 6 = q ∧ s.at 7 = oc ∧ s.at 8 = .nu .i64 (errK a) ∧ s.at 9 = .nu .i64 (.ofNat i) ∧ s.at slot = .undef)
    (E := fun s g => HpOk g ∧ Same h5.n h5 g ∧ Vals g [(oc, if errK a = 0 then closeI a else []), (x, a), (y, b), (p, a), (q, b)] ∧ s.at 0 = x ∧ s.at 1 = y ∧ s.at 5 = p ∧ s.at 6 = q ∧ s.at slot = .undef)
    ⟨ok5, Same.refl _ _, V5, f0, f1, f5, f6, f7, f8', f9, fs⟩
    (fun i s g hi ⟨okg, S, V, g0, g1, g5, g6, g7, g8, g9, gs⟩ => by
      obtain ⟨sA, rA, k0, k1, k5, k6, k7, k8, k9, ks⟩ : ∃ sA, Runs K 8 140 none (sub1 [1, 1, 1, 1, 1, 0, 1, 0, 0, 0] (bodyOf Tryz.f8)) s g .normal sA g ∧ sA.at 0 = x ∧ sA.at 1 = y ∧ sA.at 5 = p ∧ sA.at 6 = q ∧ sA.at 7 = oc ∧ sA.at 8 = .nu .i64 (errK a) ∧ sA.at 9 = .nu .i64 (.ofNat i) ∧ sA.at slot = .undef :=
        ⟨_, Runs.seq (f8_r8 H.hk g9 (lessN (y := 2) hi)) (Runs.condT (o := .tmp 45) (y := .exit 0) rfl Runs.skip), g0, g1, g5, g6, g7, g8, g9, gs⟩
      obtain ⟨sB, g', rB, S', okg', q0, q7, q8, q1, q5, q6, q9, qs⟩ := builds_round H TT PB PD PY h70 okg hA (V (x, a) (by simp)) (V (oc, _) List.mem_cons_self) k0 k7 k8 k1 k5 k6 k9 ks
      exact ⟨_, g', Runs.seq rA (Runs.seq rB (f8_r9 H.hk q9 (inc (by omega)))), okg', S.trans (S'.le S.n), V.mono S' okg, q0, q1, q5, q6, q7, q8, rfl, qs⟩)
    (fun s g ⟨okg, S, V, g0, g1, g5, g6, g7, g8, g9, gs⟩ =>
      ⟨_, _, Runs.seqX (Runs.seq (f8_r8 H.hk g9 (lessN' (y := 2) (Nat.le_refl _))) (Runs.condF (o := .tmp 45) (x := .skip) rfl Runs.exit)) (by simp), okg, S, V, g0, g1, g5, g6, gs⟩)
  have T6 := T5.trans (S6.le T5.n)
  obtain ⟨ps6, hp6, hps6⟩ := V6 (p, a) (by simp)
  obtain ⟨u, us7, h7, c15, S7, ok7, hu7, hus7⟩ := valid8_comes H ok6 (l := a) (most := 6) (dim := 3) (n := 8) (by omega) (fun s hs => by have := ha12 s hs; omega) (by decide) (by decide) (by decide) (by decide) hp6 hps6
  have V7 := V6.mono S7 ok6
  obtain ⟨qs7, hq7, hqs7⟩ := V7 (q, b) (by simp)
  obtain ⟨w, ws8, h8, c15', S8, ok8, hw8, hws8⟩ := valid8_comes H ok7 (l := b) (most := 6) (dim := 3) (n := 8) (by omega) (fun s hs => by have := hb12 s hs; omega) (by decide) (by decide) (by decide) (by decide) hq7 hqs7
  have hX : Cx (valid8 a 6 3 8) := valid8_cx (by decide) (by decide) (by decide) (by decide)
  have hY : Cx (valid8 b 6 3 8) := valid8_cx (by decide) (by decide) (by decide) (by decide)
  have hXl := valid8_len (l := a) (most := 6) (dim := 3) (n := 8) (by decide) (by decide) (by decide)
  have hYl := valid8_len (l := b) (most := 6) (dim := 3) (n := 8) (by decide) (by decide) (by decide)
  generalize valid8 a 6 3 8 = X at hus7 hX hXl
  generalize valid8 b 6 3 8 = Y at hws8 hY hYl
  have V8 : Vals h8 [(w, Y), (u, X), (x, a), (y, b), (p, a), (q, b)] := Vals.cons ⟨ws8, hw8, hws8⟩ (Vals.cons (Val.mono S8 ok7 ⟨us7, hu7, hus7⟩) (Vals.mono S8 ok7 (fun q hq => V7 q (List.mem_cons_of_mem _ hq))))
  have T8 := (T6.trans (S7.le T6.n)).trans (S8.le (T6.trans (S7.le T6.n)).n)
  obtain ⟨s7, r7, i0, i1, i5, i6, i12, i13, is⟩ : ∃ s7, Runs K 8 140 none (sub1 [1, 1, 1, 1, 1, 1, 0] (bodyOf Tryz.f8)) s6 h6 .normal s7 h8 ∧ s7.at 0 = x ∧ s7.at 1 = y ∧ s7.at 5 = p ∧ s7.at 6 = q ∧ s7.at 12 = u ∧ s7.at 13 = w ∧ s7.at slot = .undef := ⟨_, f8_r14 H.hk g5 g6 (H.prim _ _) c15 (H.prim _ _) c15', g0, g1, g5, g6, rfl, rfl, gs⟩
  have hXe := errC_ok hX.okC
  have hYe := errC_ok hY.okC
  have hBo : errB X Y = 0 := by rw [errB, if_neg (fun hn => hn hXe)]; exact hYe
  obtain ⟨us8, hu8, hus8⟩ := V8 (u, X) (by simp)
  obtain ⟨ou, h9, c46, S9, ok9, vu9⟩ := (union_ret H TT PC PD ok8 hX.sml hY.sml hu8 hus8 hw8 hws8).val
  have hE : (if errB X Y ≠ 0 then errB X Y else if 1024 < (unionI X Y).length then 3 else 0) = 0 := by
    rw [if_neg (fun hn => hn hBo), if_neg (show ¬ 1024 < (unionI X Y).length by have := unionI_len X Y; omega)]
  rw [hE] at c46 vu9
  rw [if_pos rfl] at vu9
  have V9 := Vals.cons vu9 (V8.mono S9 ok8)
  have T9 := T8.trans (S9.le T8.n)
  obtain ⟨s8, r8, j0, j1, j5, j6, j12, j13, j14, j15, js⟩ : ∃ s8, Runs K 8 140 none (sub1 [1, 1, 1, 1, 1, 1, 1, 0] (bodyOf Tryz.f8)) s7 h8 .normal s8 h9 ∧ s8.at 0 = x ∧ s8.at 1 = y ∧ s8.at 5 = p ∧ s8.at 6 = q ∧ s8.at 12 = u ∧ s8.at 13 = w ∧ s8.at 14 = ou ∧ s8.at 15 = .nu .i64 0 ∧ s8.at slot = .undef := ⟨_, f8_r15 H.hk i12 i13 (H.prim _ _) c46 rfl rfl, i0, i1, i5, i6, i12, i13, rfl, rfl, is⟩
  obtain ⟨us9, hu9, hus9⟩ := V9 (u, X) (by simp)
  obtain ⟨ws9, hw9, hws9⟩ := V9 (w, Y) (by simp)
  obtain ⟨om, h10, c47, S10, ok10, vm10⟩ := (cmeet_ret H PC ok9 hX.sml hY.sml hu9 hus9 hw9 hws9).val
  rw [hBo] at c47 vm10
  rw [if_pos rfl] at vm10
  have V10 := Vals.cons vm10 (V9.mono S10 ok9)
  have T10 := T9.trans (S10.le T9.n)
  obtain ⟨s9, r9, l0, l1, l5, l6, l12, l13, l14, l15, l16, l17, ls⟩ : ∃ s9, Runs K 8 140 none (sub1 [1, 1, 1, 1, 1, 1, 1, 1, 0] (bodyOf Tryz.f8)) s8 h9 .normal s9 h10 ∧ s9.at 0 = x ∧ s9.at 1 = y ∧ s9.at 5 = p ∧ s9.at 6 = q ∧ s9.at 12 = u ∧ s9.at 13 = w ∧ s9.at 14 = ou ∧ s9.at 15 = .nu .i64 0 ∧ s9.at 16 = om ∧ s9.at 17 = .nu .i64 0 ∧ s9.at slot = .undef := ⟨_, f8_r16 H.hk j12 j13 (H.prim _ _) c47 rfl rfl, j0, j1, j5, j6, j12, j13, j14, j15, rfl, rfl, js⟩
  have hXs := hX.sml
  have hYs := hY.sml
  obtain ⟨_, hu10, hus10⟩ := V10 (u, X) (by simp)
  obtain ⟨pu, h11, d1', S11, ok11, _, hpu⟩ := plain_ret H ok10 hXs hu10 hus10
  have V11 := Vals.cons hpu.val (V10.mono S11 ok10)
  obtain ⟨_, hw11, hws11⟩ := V11 (w, Y) (by simp)
  obtain ⟨pw, h12, d2', S12, ok12, _, hpw⟩ := plain_ret H ok11 hYs hw11 hws11
  have V12 := Vals.cons hpw.val (V11.mono S12 ok11)
  obtain ⟨_, hpu12, hpus12⟩ := V12 (pu, X) (by simp)
  obtain ⟨_, hpw12, hpws12⟩ := V12 (pw, Y) (by simp)
  obtain ⟨ru, h13, d3', S13, ok13, vru⟩ := runion_ret H PD ok12 hXs hYs (by omega) hpu12 hpus12 hpw12 hpws12
  rw [← union_puts hX.srt] at vru
  have V13 := V12.mono S13 ok12
  have hUs : Sml (unionI X Y) := ⟨by have := unionI_len X Y; omega, fun s hs => by
    rcases mem_unionI.1 hs with h | h
    · exact hXs.each s h
    · exact hYs.each s h⟩
  have d4' := same_val H PB hUs (V13 (ou, unionI X Y) (by simp)) vru rfl
  obtain ⟨_, hu13, hus13⟩ := V13 (u, X) (by simp)
  obtain ⟨pu', h14, d5', S14, ok14, _, hpu'⟩ := plain_ret H ok13 hXs hu13 hus13
  have V14 := Vals.cons hpu'.val (V13.mono S14 ok13)
  obtain ⟨_, hw14, hws14⟩ := V14 (w, Y) (by simp)
  obtain ⟨pw', h15, d6', S15, ok15, _, hpw'⟩ := plain_ret H ok14 hYs hw14 hws14
  have V15 := Vals.cons hpw'.val (V14.mono S15 ok14)
  obtain ⟨_, hpu15, hpus15⟩ := V15 (pu', X) (by simp)
  obtain ⟨_, hpw15, hpws15⟩ := V15 (pw', Y) (by simp)
  obtain ⟨rm, h16, d7', S16, ok16, srm⟩ := rmeet_ret H PD ok15 hXs hYs hpu15 hpus15 hpw15 hpws15
  have V16 := V15.mono S16 ok15
  have hMs : Sml (X.filter fun s => decide (s ∈ Y)) := ⟨by have := List.length_filter_le (fun s => decide (s ∈ Y)) X; have := hXs.len; omega, fun s hs => hXs.each s (List.mem_filter.1 hs).1⟩
  have d8' := same_val H PB hMs (V16 (om, X.filter fun s => decide (s ∈ Y)) (by simp)) (srm.val S16 ok15) rfl
  have T11 := T10.trans (S11.le T10.n)
  have T12 := T11.trans (S12.le T11.n)
  have T13 := T12.trans (S13.le T12.n)
  have T14 := T13.trans (S14.le T13.n)
  have T15 := T14.trans (S15.le T14.n)
  have T16 := T15.trans (S16.le T15.n)
  obtain ⟨s10, r10, m0, m1, m5, m6, ms⟩ : ∃ s10, Runs K 8 140 none (sub1 [1, 1, 1, 1, 1, 1, 1, 1, 1, 0] (bodyOf Tryz.f8)) s9 h10 .normal s10 h16 ∧ s10.at 0 = x ∧ s10.at 1 = y ∧ s10.at 5 = p ∧ s10.at 6 = q ∧ s10.at slot = .undef :=
    ⟨_, Runs.seq (f8_r17_FFF H.hk l15 l17 l14 l12 l13 l16 (ne_f rfl) (ne_f rfl) rfl (H.prim _ _) d1' (H.prim _ _) d2' (H.prim _ _) d3' (H.prim _ _) d4' rfl rfl (H.prim _ _) d5' (H.prim _ _) d6' (H.prim _ _) d7' (H.prim _ _) d8' rfl rfl) (Runs.condF (o := .tmp 105) rfl Runs.skip), l0, l1, l5, l6, ls⟩
  obtain ⟨_, hp16, hps16⟩ := V16 (p, a) (by simp)
  obtain ⟨_, h17, d9', S17, ok17, rfl⟩ := r8check_ret H PB ok16 hA hp16 hps16
  have V17 := V16.mono S17 ok16
  have T17 := T16.trans (S17.le T16.n)
  obtain ⟨s11, r11, n0, n1, n5, n6, n18, ns⟩ : ∃ s11, Runs K 8 140 none (sub1 [1, 1, 1, 1, 1, 1, 1, 1, 1, 1, 0] (bodyOf Tryz.f8)) s10 h16 .normal s11 h17 ∧ s11.at 0 = x ∧ s11.at 1 = y ∧ s11.at 5 = p ∧ s11.at 6 = q ∧ s11.at 18 = .nu .i64 (errC a) ∧ s11.at slot = .undef := ⟨_, f8_r19 H.hk m5 (H.prim _ _) d9', m0, m1, m5, m6, rfl, ms⟩
  obtain ⟨s12, h18, r12, S18, ok18, o0, o1, o5, o18, os⟩ : ∃ s12 h18, Runs K 8 140 none (sub1 [1, 1, 1, 1, 1, 1, 1, 1, 1, 1, 1, 0] (bodyOf Tryz.f8)) s11 h17 .normal s12 h18 ∧ Same h17.n h17 h18 ∧ HpOk h18 ∧ s12.at 0 = x ∧ s12.at 1 = y ∧ s12.at 5 = p ∧ s12.at 18 = .nu .i64 (errB a b) ∧ s12.at slot = .undef := by
    by_cases he : errC a = 0
    · obtain ⟨_, hq17, hqs17⟩ := V17 (q, b) (by simp)
      obtain ⟨_, h18, c, S18, ok18, rfl⟩ := r8check_ret H PB ok17 hB hq17 hqs17
      have hb0 : errB a b = errC b := by rw [errB, if_neg (fun hn => hn he)]
      rw [← hb0] at c
      exact ⟨_, h18, Runs.seq (f8_r20 H.hk n18 (eq_t he)) (Runs.condT (o := .tmp 109) rfl (f8_r21 H.hk n6 (H.prim _ _) c)), S18, ok18, n0, n1, n5, rfl, ns⟩
    · have hb0 : errB a b = errC a := by rw [errB, if_pos he]
      exact ⟨_, h17, Runs.seq (f8_r20 H.hk n18 (eq_f he)) (Runs.condF (o := .tmp 109) rfl Runs.skip), Same.refl _ _, ok17, n0, n1, n5, by rw [hb0]; exact n18, ns⟩
  have V18 := V17.mono S18 ok17
  have T18 := T17.trans (S18.le T17.n)
  obtain ⟨_, hx18, hxs18⟩ := V18 (x, a) (by simp)
  obtain ⟨_, hy18, hys18⟩ := V18 (y, b) (by simp)
  obtain ⟨ou', h19, c46', S19, ok19, _⟩ := (union_ret H TT PC PD ok18 hA hB hx18 hxs18 hy18 hys18).val
  have hE' : (if errB a b ≠ 0 then errB a b else if 1024 < (unionI a b).length then 3 else 0) = errB a b := by
    by_cases he : errB a b = 0
    · rw [if_neg (fun hn => hn he), if_neg (show ¬ 1024 < (unionI a b).length by have := unionI_len a b; omega), he]
    · rw [if_pos he]
  rw [hE'] at c46'
  have V19 := V18.mono S19 ok18
  have T19 := T18.trans (S19.le T18.n)
  obtain ⟨s13, r13, t0, t1, t5, t18, t20, ts⟩ : ∃ s13, Runs K 8 140 none (sub1 [1, 1, 1, 1, 1, 1, 1, 1, 1, 1, 1, 1, 0] (bodyOf Tryz.f8)) s12 h18 .normal s13 h19 ∧ s13.at 0 = x ∧ s13.at 1 = y ∧ s13.at 5 = p ∧ s13.at 18 = .nu .i64 (errB a b) ∧ s13.at 20 = .nu .i64 (errB a b) ∧ s13.at slot = .undef := ⟨_, f8_r22 H.hk o0 o1 (H.prim _ _) c46' rfl rfl, o0, o1, o5, o18, rfl, os⟩
  obtain ⟨_, hx19, hxs19⟩ := V19 (x, a) (by simp)
  obtain ⟨_, hy19, hys19⟩ := V19 (y, b) (by simp)
  obtain ⟨om', h20, c47', S20, ok20, _⟩ := (cmeet_ret H PC ok19 hA hB hx19 hxs19 hy19 hys19).val
  have V20 := V19.mono S20 ok19
  have T20 := T19.trans (S20.le T19.n)
  obtain ⟨s14, r14, v0, v5, v18, v20, v22, vs'⟩ : ∃ s14, Runs K 8 140 none (sub1 [1, 1, 1, 1, 1, 1, 1, 1, 1, 1, 1, 1, 1, 0] (bodyOf Tryz.f8)) s13 h19 .normal s14 h20 ∧ s14.at 0 = x ∧ s14.at 5 = p ∧ s14.at 18 = .nu .i64 (errB a b) ∧ s14.at 20 = .nu .i64 (errB a b) ∧ s14.at 22 = .nu .i64 (errB a b) ∧ s14.at slot = .undef := ⟨_, f8_r23 H.hk t0 t1 (H.prim _ _) c47' rfl rfl, t0, t5, t18, t20, rfl, ts⟩
  have c23 := same_val H PB hA (V20 (x, a) (by simp)) (V20 (p, a) (by simp)) rfl
  obtain ⟨s15, r15, w4, wss⟩ : ∃ s15, Runs K 8 140 none (sub1 [1, 1, 1, 1, 1, 1, 1, 1, 1, 1, 1, 1, 1, 1, 0] (bodyOf Tryz.f8)) s14 h20 .normal s15 h20 ∧ s15.at 4 = .bo true ∧ s15.at slot = .undef :=
    ⟨_, f8_r24_TTT H.hk v20 v18 v22 v0 v5 (eq_t rfl) (eq_t rfl) rfl (H.prim _ _) c23 rfl (H.prim _ _) (aw h20) rfl, rfl, vs'⟩
  refine ⟨h20, Comes.plain hf rfl (H.memo 8 (by decide)) (H.spec 8) rfl (Runs.seq (f8_r0 H.hk) (Runs.seq r1 (Runs.seq r2 (Runs.seq r3 (Runs.seq r4 (Runs.seq (Runs.seq r5 r6) (Runs.seq r7 (Runs.seq r8 (Runs.seq r9 (Runs.seq r10 (Runs.seq r11 (Runs.seq r12 (Runs.seq r13 (Runs.seq r14 (Runs.seq r15 Runs.ret))))))))))))))) (.inr rfl) T20.n wss (vs := [s15.at 4]) rfl ?_, T20⟩
  exact w4
end
end Go.CP
