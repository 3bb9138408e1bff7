import Derived.Test.YtadagifjonbmjaaGreatDoorKl4
import Derived.Test.YtadagifjonbmjaaGreatDoorKw1
import Derived.Test.YtadagifjonbmjaaGreatDoorKv2
set_option linter.all false
namespace Go.CP
open Go.Proofs
abbrev kd [LG] [HK] (K : Ctx) (p : List Nat) := Runs K 142 37 none (aD p (an Tryz.f142))
abbrev zA [LG] [HK] (K : Ctx) (p : List Nat) := Runs K 114 13 none (aD p (an Tryz.f114))
variable [LG] [HK]
def own : CV → Nat → Prop
 | .sl k _ _ _, j => j = k
 | _, _ => False
structure But (O : Nat → Prop) (h h' : Hp) : Prop where
 n : h.n ≤ h'.n
 get : ∀ k, k < h.n → ¬ O k → h'.get k = h.get k
theorem But.refl (O : Nat → Prop) (h : Hp) : But O h h := ⟨Nat.le_refl _, fun _ _ _ => rfl⟩
theorem But.trans {O O' : Nat → Prop} {h h' h'' : Hp} (a : But O h h') (b : But O' h' h'') (s : ∀ k, O' k → O k ∨ h.n ≤ k) : But O h h'' :=
 ⟨Nat.le_trans a.n b.n, fun k hk hO => by
   rw [b.get k (Nat.lt_of_lt_of_le hk a.n) (fun h1 => (s k h1).elim hO fun h2 => by omega), a.get k hk hO]⟩
theorem But.push {O : Nat → Prop} {h h' : Hp} (a : But O h h') (b : HB) : But O h (h'.push b) :=
 ⟨by have := a.n; show h.n ≤ h'.n + 1; omega, fun k hk hO => by have := a.n; rw [ag, if_neg (by omega)]; exact a.get k hk hO⟩
theorem But.set {O : Nat → Prop} {h h' : Hp} (a : But O h h') {k : Nat} (hk : h.n ≤ k) (b : HB) : But O h (h'.set k b) :=
 ⟨a.n, fun j hj hO => by rw [Hp.get_set, if_neg (by omega)]; exact a.get j hj hO⟩
theorem Row.but {h h' : Hp} {x : CV} {cs : List CV} (r : Row h x cs) (hg : ∀ k, own x k → h'.get k = h.get k) : Row h' x cs := by
 cases r with
 | nils => exact .nils
 | sle => exact .sle
 | none k o c => exact .none k o c
 | @some k o c cs hne hs hc hf =>
  have e := hg k rfl
  exact .some hne (by rw [e]; exact hs) hc (by rw [e]; exact hf)
structure YI (K : Ctx) (v : CV) (N0 B L : Nat) (I : List (List Int) → Hp → (Nat → Prop) → Prop) : Prop where
 one : v.one = true
 eq : ceq v v = true
 base : ∀ {d h O}, I d h O → N0 ≤ h.n
 low : ∀ {d h O}, I d h O → ∀ k, O k → k < h.n
 keep : ∀ {d h O} {h' : Hp}, I d h O → h.n ≤ h'.n → (∀ k, k < N0 ∨ O k → h'.get k = h.get k) → I d h' O
 step : ∀ {d h O} {c : CV} {a : List Int}, I d h O → HpOk h → Row h c (ah a) → d.length < B → a.length ≤ L → (∀ k, own c k → N0 ≤ k ∧ k < h.n ∧ ¬ O k) →
  ∃ h' O', jQ K v [c] h (.bo true) h' ∧ HpOk h' ∧ I (d ++ [a]) h' O' ∧ But O h h' ∧ ∀ k, O' k → O k ∨ h.n ≤ k ∨ own c k
def cD : List Int → Nat → List (List Int)
 | _, 0 => [[]]
 | [], _ + 1 => []
 | x :: a, n + 1 => (cD a n).map (x :: ·) ++ cD a (n + 1)
theorem nT (a : List Int) : cD a 0 = [[]] := by cases a <;> rfl
theorem jn : ∀ (a : List Int) (n : Nat), a.length < n → cD a n = []
 | a, 0, h => by omega
 | [], n + 1, _ => rfl
 | x :: a, n + 1, h => by
  have h' : a.length < n := by simpa using h
  simp only [cD, jn a n h', jn a (n + 1) (by omega)]; rfl
theorem CB {a : List Int} {i n : Nat} (hi : i < a.length) : cD (a.drop i) (n + 1) = (cD (a.drop (i + 1)) n).map (a[i] :: ·) ++ cD (a.drop (i + 1)) (n + 1) := by
 rw [List.drop_eq_getElem_cons hi]; rfl
theorem K4 : au Tryz.prog 110 = some (1, false) := by kernel_rfl
theorem e3 : cn Tryz.prog 3 = some (.nu .i64 0) := by kernel_rfl
theorem lH {t : Nat} {v : CV} (hv : v.one = true) : cK t v (some (1, false)) = some (fun k => .ptr k 0, .cells [v] 0 t) := by
 have hc := dT hv
 have hs : v.sol = true := by simp [CV.sol, hc, hv]
 simp only [cK, hs, hc, List.length_cons, List.length_nil]; rfl
theorem bb {h : Hp} {k t : Nat} {v : CV} (hg : h.get k = .cells [v] 0 t) : ao h (.ptr k 0) (some (1, false)) = some v := by
 show eZ 0 1 false (h.get k) = _
 rw [hg]; rfl
theorem jo {h : Hp} {k t : Nat} {v w : CV} (hv : v.one = true) (hg : h.get k = .cells [w] 0 t) : bt h (.ptr k 0) v (some (1, false)) = some (.undef, h.set k (.cells [v] 0 t)) := by
 have hc := dT hv
 have hs : v.sol = true := by simp [CV.sol, hc, hv]
 show db h k 0 1 v (h.get k) = _
 rw [hg]
 simp only [db, hs, hc, List.length_cons, List.length_nil]
 rfl
theorem dz {h : Hp} (ok : HpOk h) {k : Nat} (hg : h.get k ≠ .dead) : k < h.n := by
 rcases Nat.lt_or_ge k h.n with h1 | h1
 · exact h1
 · exact absurd (ok k h1) hg
theorem EB {n : Int} {e : Nat} : fj (.cells [.nu .i64 n] 0 e) (.cells [.nu .i64 n] 0 e) = true := by
 have e1 : mS 10 (.nu .i64 n) (.nu .i64 n) = true := dS n
 simp only [fj, gW, ceq, e1]
 rw [Nat.beq_refl, Nat.beq_refl]; rfl
theorem EC {h : Hp} (ok : HpOk h) {v : Int} {c : CV} {r : List Int} (hr : Row h c (ah r)) (hbig : r.length ≤ 1000000) :
  ∃ y g, be (h.push (.cells [.nu .i64 v] 0 3)) (.sl h.n 0 1 1) c (.slice 3 1 8 [.nu .i64 0]) (.slice 3 1 8 [.nu .i64 0]) = some (y, g) ∧ Row g y (ah (v :: r)) ∧ Same h.n h g ∧ HpOk g ∧ ∀ k, own y k → h.n ≤ k ∧ k < g.n := by
 have hr1 : Row (h.push (.cells [.nu .i64 v] 0 3)) c (ah r) := hr.mono (Same.push (Nat.le_refl _) _) ok (Nat.le_refl _)
 have hcells := hr1.cells
 have hlen := hr1.lenV
 rw [aw] at hlen
 have hc : ((ah r).all CV.one && Nat.beq [CV.nu .i64 0].length 1 && Nat.blt 0 1 && Nat.ble ((CP.lenV (.sl h.n 0 1 1) + r.length) * 8) 70368744177664 && Nat.ble (CP.lenV (.sl h.n 0 1 1) + r.length) 4611686018427387904) = true := by
  rw [jZ, Nat.ble_eq_true_of_le (show (CP.lenV (.sl h.n 0 1 1) + r.length) * 8 ≤ 70368744177664 by simp only [CP.lenV]; omega), Nat.ble_eq_true_of_le (show CP.lenV (.sl h.n 0 1 1) + r.length ≤ 4611686018427387904 by simp only [CP.lenV]; omega)]; rfl
 have h1 : be (h.push (.cells [.nu .i64 v] 0 3)) (.sl h.n 0 1 1) c (.slice 3 1 8 [.nu .i64 0]) (.slice 3 1 8 [.nu .i64 0]) = eC (h.push (.cells [.nu .i64 v] 0 3)) 3 1 (.sl h.n 0 1 1) (ah r) r.length := by
  simp only [be, gV, hcells, hlen, hc]
 rw [h1]
 cases r with
 | nil =>
  refine ⟨_, _, rfl, lr (h := h) (v := .nu .i64 v) (el := 3), Same.push (Nat.le_refl _) _, ok.push _, fun k hk => ?_⟩
  have : k = h.n := hk
  subst this; exact ⟨Nat.le_refl _, by show h.n < h.n + 1; omega⟩
 | cons w r =>
  have g0 : (h.push (.cells [.nu .i64 v] 0 3)).get h.n = .cells [.nu .i64 v] 0 3 := by rw [ag, if_pos rfl]
  have hle : Nat.ble (1 + (w :: r).length) 1 = false := il (by simp)
  refine ⟨.sl (h.n + 1) 0 (1 + (w :: r).length) (1 + (w :: r).length), (h.push (.cells [.nu .i64 v] 0 3)).push (.cells ([.nu .i64 v] ++ ah (w :: r)) 1 3), ?_, ?_, (Same.push (Nat.le_refl _) _).trans (Same.push (by show h.n ≤ h.n + 1; omega) _), (ok.push _).push _, fun k hk => ?_⟩
  · simp only [eC, show Nat.beq (w :: r).length 0 = false from rfl, hle, jD, g0, fX]
    rfl
  · have hl : (ah (v :: w :: r)).length = 1 + (w :: r).length := by simp [ah]; omega
    have := Row.some (h := (h.push (.cells [.nu .i64 v] 0 3)).push (.cells ([.nu .i64 v] ++ ah (w :: r)) 1 3)) (k := h.n + 1) (o := 0) (c := 1 + (w :: r).length) (cs := ah (v :: w :: r)) (by simp [ah]) (by
     rw [ag, if_pos (show h.n + 1 = (h.push (.cells [.nu .i64 v] 0 3)).n from rfl)]
     simp only [bk, Nat.zero_add]
     rw [show [CV.nu .i64 v] ++ ah (w :: r) = ah (v :: w :: r) from rfl, Nat.ble_eq_true_of_le (Nat.le_refl _)]
     simp only [sub, List.drop_zero, List.take_length]) (by rw [hl]; exact Nat.le_refl _) (by rw [ag, if_pos (show h.n + 1 = (h.push (.cells [.nu .i64 v] 0 3)).n from rfl)]; rfl)
    rw [hl] at this
    exact this
  · have : k = h.n + 1 := hk
    subst this; exact ⟨by omega, by show h.n + 1 < h.n + 1 + 1; omega⟩
structure da (K : Ctx) : Prop where
 p142_6 : K.plan 142 6 = some [.t 0,.t 1,.t 2,.t 3,.o 4 [3, 2, 1, 0],.o 5 [3, 2, 1, 0],.o 6 []]
 p142_8 : K.plan 142 8 = some [.t 0,.t 1,.t 2,.t 3,.t 4,.t 5,.o 6 [5, 4, 3, 2, 1, 0],.o 7 [0],.o 8 [],.o 9 []]
noncomputable def iO (s : Fr) : Lp := ⟨.ready, none, s, 142, 37, #[25], aD [1, 1, 1, 0, 0, 1, 0, 0, 1, 0, 0] (an Tryz.f142), aD [1, 1, 1, 0, 0, 1, 0, 0, 1, 0, 1] (an Tryz.f142)⟩
structure LL (kr kv ki ks : Nat) (v x : CV) (a : List Int) (i : Nat) (s : Fr) (h : Hp) (O : Nat → Prop) : Prop where
 base : kr + 1 ≤ h.n
 rc : h.get kr = .lp (iO s)
 gv : h.get kv = .cells [v] 0 110
 gi : h.get ki = .cells [.nu .i64 (.ofNat i)] 0 3
 gs : h.get ks = .cells [x] 0 46
 row : Row h x (ah a)
 nr : ¬ O kr
 nv : ¬ O kv
 ni : ¬ O ki
 ns : ¬ O ks
 nx : ∀ k, own x k → ¬ O k
section
variable {K : Ctx}
theorem ED (H : Std K) (PY : da K) {v : CV} {N0 B L : Nat} {I : List (List Int) → Hp → (Nat → Prop) → Prop} (Y : YI K v N0 B (L + 1) I) (hL : L ≤ 1000000) {kr kv ki ks : Nat} {x : CV} {a : List Int} {i : Nat} {s : Fr} (hi : i < a.length) (hv : kv < kr) (hki : ki < kr) (hks : ks < kr) (hx : ∀ k, own x k → k < kr) (hN : N0 ≤ kr) (s2 : s.at 2 = .ptr ks 0) (s3 : s.at 3 = .ptr kv 0) (s4 : s.at 4 = .ptr ki 0) {d0 : List (List Int)} :
  YI K (.yl kr) (kr + 1) (B - d0.length) L (fun d h O => I (d0 ++ d.map (a[i] :: ·)) h O ∧ LL kr kv ki ks v x a i s h O) where
 one := rfl
 eq := by show Nat.beq kr kr = true; exact Nat.beq_refl _
 base := fun h => h.2.base
 low := fun h => Y.low h.1
 keep := by
  rintro d h O h' ⟨hI, F⟩ hn hg
  have g : ∀ k, k < kr + 1 → h'.get k = h.get k := fun k hk => hg k (.inl hk)
  exact ⟨Y.keep hI hn (fun k hk => hg k (hk.elim (fun hk => .inl (by omega)) .inr)),
   ⟨Nat.le_trans F.base hn, by rw [g _ (by omega)]; exact F.rc, by rw [g _ (by omega)]; exact F.gv, by rw [g _ (by omega)]; exact F.gi, by rw [g _ (by omega)]; exact F.gs, F.row.but fun k hk => g k (by have := hx k hk; omega), F.nr, F.nv, F.ni, F.ns, F.nx⟩⟩
 step := by
  rintro d h O c r ⟨hI, F⟩ ok hr hd hl hown
  have hb := F.base
  have hrn : kr < h.n := by omega
  let s0 : Fr := T.set (T.set s ai .undef) 25 c
  let h2 : Hp := h.set kr (.lp ⟨.busy, none, s, 142, 37, #[25], aD [1, 1, 1, 0, 0, 1, 0, 0, 1, 0, 0] (an Tryz.f142), aD [1, 1, 1, 0, 0, 1, 0, 0, 1, 0, 1] (an Tryz.f142)⟩)
  have bz : HpOk h2 := ok.set hrn _
  have n2 : h2.n = h.n := rfl
  have g2 : ∀ k, k ≠ kr → h2.get k = h.get k := fun k hk => by show (h.set kr _).get k = _; rw [Hp.get_set, if_neg hk]
  have hbe : iF kr h = some h2 := by simp only [iF, F.rc, iO]; rfl
  have ra : Runs K 142 37 (some kr) (aD [1, 1, 1, 0, 0, 1, 0, 0, 1, 0, 0] (an Tryz.f142)) s0 h .normal (T.set s0 5 c) h := HW H.hk rfl
  have v2 : h2.get kv = .cells [v] 0 110 := by rw [g2 _ (by omega)]; exact F.gv
  have i2 : h2.get ki = .cells [.nu .i64 (.ofNat i)] 0 3 := by rw [g2 _ (by omega)]; exact F.gi
  have x2 : h2.get ks = .cells [x] 0 46 := by rw [g2 _ (by omega)]; exact F.gs
  have row2 : Row h2 x (ah a) := F.row.but fun k hk => g2 k (by have := hx k hk; omega)
  have c2 : Row h2 c (ah r) := hr.but fun k hk => g2 k (by have := (hown k hk).1; omega)
  obtain ⟨p, hp1, hp2⟩ := gM H row2 hi
  obtain ⟨y, g, happ, hy, S, okg, hyo⟩ := EC bz (v := a[i]) c2 (by omega)
  have hB : ∀ k, k < h2.n → (h2.push (.cells [.nu .i64 a[i]] 0 3)).get k = h2.get k := fun k hk => by rw [ag, if_neg (by omega)]
  have tz110 : au K.P 110 = some (1, false) := by rw [H.hP]; exact K4
  have tz46 : au K.P 46 = some (1, false) := eL H
  have tz3 : au K.P 3 = some (1, false) := by rw [H.hP]; exact z3
  have row2' : Row (h2.push (.cells [.nu .i64 a[i]] 0 3)) x (ah a) := row2.mono (Same.push (Nat.le_refl _) _) bz (Nat.le_refl _)
  obtain ⟨p', hq1, hq2⟩ := gM H row2' hi
  have hpp : p' = p := by rw [hp1] at hq1; injection hq1 with hq1; exact hq1.symm
  subst hpp
  have hlow := fun k hk => Y.low hI k hk
  have hI2 : I (d0 ++ d.map (a[i] :: ·)) g O := by
   refine Y.keep hI (by have := S.n; omega) (fun k hk => ?_)
   have hk' : k ≠ kr := by
    rcases hk with hk | hk
    · omega
    · rintro rfl; exact F.nr hk
   have hkn : k < h.n := by
    rcases hk with hk | hk
    · omega
    · exact hlow k hk
   rw [S.get k (by omega), g2 k hk']
  have hN0 := Y.base hI
  obtain ⟨h', O', hC, ok', hI', Bt, hO'⟩ := Y.step hI2 okg hy (by simp only [List.length_append, List.length_map]; omega) (by simp only [List.length_cons]; omega) (fun k hk => by
   obtain ⟨h1, h3⟩ := hyo k hk
   exact ⟨by omega, h3, fun hO => by have := hlow k hO; omega⟩)
  have hOO : ∀ k, O' k → O k ∨ h.n ≤ k := fun k hk => by
   rcases hO' k hk with h1 | h1 | h1
   · exact .inl h1
   · exact .inr (by have := S.n; omega)
   · exact .inr (by have := (hyo k h1).1; omega)
  have hg' : ∀ k, k < h.n → ¬ O k → h'.get k = h2.get k := fun k hk hO => by
   have := S.n
   rw [Bt.get k (by omega) hO, S.get k (by omega)]
  have gv2 : h2.n ≤ g.n := S.n
  have y26 : ao g (.ptr kv 0) (au K.P 110) = some v := by rw [tz110]; exact bb (by rw [S.get kv (by omega)]; exact v2)
  have t46' : ae K.P 46 = .slice 3 1 8 [.nu .i64 0] := by rw [H.hP]; exact t46
  have rb := HX (K := K) (ro := some kr) (s := T.set s0 5 c) (h := h2) H.hk PY.p142_8 (v3 := .ptr kv 0) (v2 := .ptr ks 0) (v4 := .ptr ki 0) (v5 := c) (r26 := v) (r27 := x) (r28 := .nu .i64 (.ofNat i)) (r29 := p') (r30 := .nu .i64 a[i]) (r33 := y) (r34 := .bo true) (r35 := .bo false) (g1 := g) (g2 := h') s3 s2 s4 rfl
   (by rw [tz110]; exact bb v2) Y.eq (by rw [tz46]; exact bb x2) row2.ceq (by rw [tz3]; exact bb i2) (dS _) hp1 hp2 (dS _)
   (by rw [t46']; exact iH rfl)
   (by rw [tz110]; exact bb (by rw [hB _ (by omega)]; exact v2)) (by rw [tz46]; exact bb (by rw [hB _ (by omega)]; exact x2)) (by rw [tz3]; exact bb (by rw [hB _ (by omega)]; exact i2)) hq2
   (by rw [ag, if_pos rfl]; exact EB) (by rw [t46']; exact happ) y26 hC rfl
  refine ⟨h'.set kr (.lp (iO s)), O', ComesY.of (r := iO s) (s0 := s0) (s1 := T.set s0 5 c) (h1 := h) (h2 := h2) (h3 := h') (e := .normal) F.rc rfl ra hbe (aF (Runs.seq rb (Runs.condF rfl Runs.skip))) (by have := Bt.n; omega) ?_, ok'.set (by have := Bt.n; omega) _, ⟨?_, ?_⟩, ?_, fun k hk => (hOO k hk).elim .inl fun h1 => .inr (.inl h1)⟩
  · have : h'.get kr = .lp ⟨.busy, none, s, 142, 37, #[25], aD [1, 1, 1, 0, 0, 1, 0, 0, 1, 0, 0] (an Tryz.f142), aD [1, 1, 1, 0, 0, 1, 0, 0, 1, 0, 1] (an Tryz.f142)⟩ := by
     rw [hg' kr hrn F.nr]; show (h.set kr _).get kr = _; rw [Hp.get_set, if_pos rfl]
    simp only [pu, this, p3]; rfl
  · have hm : d0 ++ (d ++ [r]).map (a[i] :: ·) = (d0 ++ d.map (a[i] :: ·)) ++ [a[i] :: r] := by simp
    rw [hm]
    refine Y.keep hI' (Nat.le_refl _) (fun k hk => ?_)
    rw [Hp.get_set, if_neg]
    rintro rfl
    rcases hk with hk | hk
    · omega
    · rcases hOO k hk with h1 | h1
      · exact F.nr h1
      · omega
  · have gg : ∀ k, k < kr → ¬ O k → (h'.set kr (.lp (iO s))).get k = h.get k := fun k hk hO => by
     rw [Hp.get_set, if_neg (by omega), hg' k (by omega) hO, g2 k (by omega)]
    have no : ∀ k, k < h.n → ¬ O k → ¬ O' k := fun k hk hO h1 => (hOO k h1).elim hO fun h3 => by omega
    exact ⟨by have := Bt.n; show kr + 1 ≤ h'.n; omega, by rw [Hp.get_set, if_pos rfl], by rw [gg _ hv F.nv]; exact F.gv, by rw [gg _ hki F.ni]; exact F.gi, by rw [gg _ hks F.ns]; exact F.gs, F.row.but fun k hk => gg k (hx k hk) (F.nx k hk), no _ hrn F.nr, no _ (by omega) F.nv, no _ (by omega) F.ni, no _ (by omega) F.ns, fun k hk => no _ (by have := hx k hk; omega) (F.nx k hk)⟩
  · refine ⟨by have := Bt.n; show h.n ≤ h'.n; omega, fun k hk hO => ?_⟩
    rw [Hp.get_set]
    split
    · rename_i hk'; subst hk'; exact F.rc.symm
    · rename_i hk'; rw [hg' k hk hO, g2 k hk']
end
theorem CC {lo hi : Option CV} {h : Hp} {x y : CV} {e b : Nat} {z : List CV} (hq : bC lo hi h x (.slice e 1 b z) = some y) : ∀ k, own y k → own x k := by
 intro k hk
 cases x with
 | nils =>
  simp only [bC, kk] at hq
  split at hq
  · split at hq
    · injection hq with hq; subst hq; exact hk
    · cases hq
  · cases hq
 | sl j o n c =>
  simp only [bC, dA] at hq
  split at hq
  · split at hq
    · split at hq
      · split at hq
        · injection hq with hq; subst hq; exact hk
        · cases hq
      · unfold gw at hq
        split at hq
        · split at hq
          · injection hq with hq; subst hq; exact hk
          · injection hq with hq; subst hq; exact hk.elim
        · injection hq with hq; subst hq; exact hk.elim
        · cases hq
    · cases hq
  · cases hq
 | _ => simp [bC] at hq
theorem tP : ∀ (ms : List Nat) (h : Hp), ms.Nodup → (∀ k ∈ ms, h.get k = .df) → ∃ h', eE ms h = some h' ∧ h'.n = h.n ∧ (∀ k, k ∉ ms → h'.get k = h.get k) ∧ (HpOk h → HpOk h')
 | [], h, _, _ => ⟨h, rfl, rfl, fun _ _ => rfl, id⟩
 | k :: ms, h, hd, hg => by
  obtain ⟨hk, hd'⟩ := List.nodup_cons.1 hd
  have g0 := hg k (by simp)
  obtain ⟨h', h1, h2, h3, h4⟩ := tP ms (h.set k .dead) hd' (fun j hj => by
   rw [Hp.get_set, if_neg (by rintro rfl; exact hk hj)]; exact hg j (by simp [hj]))
  refine ⟨h', by simp only [eE, g0, h1], h2, fun j hj => ?_, fun ok => h4 fun j hj => ?_⟩
  · rw [h3 j (by simp only [List.mem_cons, not_or] at hj; exact hj.2), Hp.get_set, if_neg (by simp only [List.mem_cons, not_or] at hj; exact hj.1)]
  · rw [Hp.get_set]; split
    · rfl
    · exact ok j hj
theorem qL {K : Ctx} {h : Hp} {f : Nat} {args : List CV} {fn : Func} {r : CV} {vs : List CV} {h1 h2 : Hp} {s1 : Fr} {e : Exit} (hf : K.P.funcs[f]? = some fn) (hb : fn.body.isSome = true) (hm : K.memo f = []) (hsp : ∀ args h, K.spec f args h = none) (hl : Nat.ble args.length fn.ntmps = true) (a : Runs K f fn.ntmps none (an fn) (entry 0 args) h e s1 h1) (he : e = .normal ∨ e = .ret) (hn : h.n ≤ h1.n) (hs : eE (ce (s1.at ai)) h1 = some h2) (hr : gf K.P s1 h2 fn.results.toList = some vs) (hp : ib vs = r) : Comes K f args h r h2 := by
 obtain ⟨c, hc⟩ := Option.isSome_iff_exists.1 hb
 have hbo : an fn = c := by simp [an, hc]
 rw [hbo] at a
 exact Comes.of hf hc hm hsp hl a he hn hs hr hp
theorem oK {P : Program} {t : TypeId} {a b : Nat} (h : a + b < 9223372036854775808) : ac P .add t (.nu .i64 (.ofNat a)) (.nu .i64 (.ofNat b)) = some (.nu .i64 (.ofNat (a + b))) := by
 rw [sr (by simp only [Int.ofNat_eq_natCast]; omega) (by simp only [Int.ofNat_eq_natCast]; omega)]; rfl
section
variable {K : Ctx}
theorem wq (H : Std K) (PD : cj K) {h : Hp} {x : CV} {n : Nat} (hx : x.one = true) : Comes K 115 [x, .nu .i64 (.ofNat n)] h (.fn 142 [.ptr (h.n + 1) 0, .ptr h.n 0]) ((h.push (.cells [x] 0 46)).push (.cells [.nu .i64 (.ofNat n)] 0 3)) := by
 have hf : K.P.funcs[115]? = some Tryz.f115 := by rw [H.hP]; exact Tryz.func115
 have tz46 : au K.P 46 = some (1, false) := eL H
 have tz3 : au K.P 3 = some (1, false) := by rw [H.hP]; exact z3
 exact H.go hf (Ki H.hk H.prim PD (s := entry 0 [x, .nu .i64 (.ofNat n)]) rfl rfl (by rw [tz46]; exact lH hx) (by rw [tz3]; exact lH rfl)) (.inr rfl) (by show h.n ≤ h.n + 1 + 1; omega) rfl rfl rfl
def sQ (K : Ctx) (n : Nat) : Prop := ∀ {v : CV} {N0 B L : Nat} {I : List (List Int) → Hp → (Nat → Prop) → Prop} (_ : YI K v N0 B L I) (_ : L ≤ 1000000) {a : List Int} {x : CV} (_ : a.length < 1099511627776) (_ : n ≤ L) {d : List (List Int)} {h : Hp} {O : Nat → Prop} (_ : I d h O) (_ : d.length + (cD a n).length ≤ B) (_ : HpOk h) {kn ks : Nat} (_ : h.get kn = .cells [.nu .i64 (.ofNat n)] 0 3) (_ : h.get ks = .cells [x] 0 46) (_ : ¬ O kn) (_ : ¬ O ks) (_ : Row h x (ah a)) (_ : ∀ k, own x k → k < h.n ∧ ¬ O k),
 ∃ h' O', Comes K 142 [v, .ptr kn 0, .ptr ks 0] h (.tup []) h' ∧ HpOk h' ∧ I (d ++ cD a n) h' O' ∧ But O h h' ∧ ∀ k, O' k → O k ∨ h.n ≤ k
theorem xp (H : Std K) (PD : cj K) (PY : da K) {n : Nat} (IH : sQ K n) {v : CV} {N0 B L : Nat} {I : List (List Int) → Hp → (Nat → Prop) → Prop} (Y : YI K v N0 B (L + 1) I) (hL : L ≤ 1000000) (hn : n ≤ L) {a : List Int} {x : CV} (hbig : a.length < 1099511627776) {i : Nat} (hi : i < a.length) {d : List (List Int)} {h : Hp} {O : Nat → Prop} (hI : I d h O) (hB : d.length + (cD (a.drop (i + 1)) n).length ≤ B) (ok : HpOk h) {kn ks kv ki : Nat} (gn : h.get kn = .cells [.nu .i64 (.ofNat (n + 1))] 0 3) (gs : h.get ks = .cells [x] 0 46) (gv : h.get kv = .cells [v] 0 110) (gi : h.get ki = .cells [.nu .i64 (.ofNat i)] 0 3) (nn : ¬ O kn) (ns : ¬ O ks) (nv : ¬ O kv) (ni : ¬ O ki) (hx : Row h x (ah a)) (ho : ∀ k, own x k → k < h.n ∧ ¬ O k)
  {s : Fr} (s1 : s.at 1 = .ptr kn 0) (s2 : s.at 2 = .ptr ks 0) (s3 : s.at 3 = .ptr kv 0) (s4 : s.at 4 = .ptr ki 0) :
  ∃ s' h' O', kd K [1, 1, 1, 0, 0, 1, 0] s h .normal s' h' ∧ s'.at 1 = .ptr kn 0 ∧ s'.at 2 = .ptr ks 0 ∧ s'.at 3 = .ptr kv 0 ∧ s'.at 4 = .ptr ki 0 ∧ ce (s'.at ai) = (h.n + 2) :: ce (s.at ai) ∧ h'.get (h.n + 2) = .df ∧ ¬ O' (h.n + 2) ∧ HpOk h' ∧ I (d ++ (cD (a.drop (i + 1)) n).map (a[i] :: ·)) h' O' ∧ But O h h' ∧ h.n + 2 < h'.n ∧ ∀ k, O' k → O k ∨ h.n ≤ k := by
 have tz46 : au K.P 46 = some (1, false) := eL H
 have tz3 : au K.P 3 = some (1, false) := by rw [H.hP]; exact z3
 have hne : a ≠ [] := by rintro rfl; simp at hi
 obtain ⟨x', hs1, hs2⟩ := oF H hne hx (lo := some (.nu .i64 (.ofNat (i + 1)))) (hi := none) (i := i + 1) (j := a.length) rfl rfl hi (Nat.le_refl _)
 have ht : (a.drop (i + 1)).take (a.length - (i + 1)) = a.drop (i + 1) := List.take_of_length_le (by simp)
 rw [ht] at hs2
 have ho' : ∀ k, own x' k → own x k := CC (by rw [show ae K.P 46 = .slice 3 1 8 [.nu .i64 0] by rw [H.hP]; exact t46] at hs1; exact hs1)
 have kvn := dz ok (k := kv) (by rw [gv]; simp)
 have kin := dz ok (k := ki) (by rw [gi]; simp)
 have ksn := dz ok (k := ks) (by rw [gs]; simp)
 have knn := dz ok (k := kn) (by rw [gn]; simp)
 obtain ⟨sA, rA, a1, a2, a3, a4, a24, asl⟩ : ∃ sA, kd K [1, 1, 1, 0, 0, 1, 0, 0, 0] s h .normal sA ((h.push (.cells [x'] 0 46)).push (.cells [.nu .i64 (.ofNat n)] 0 3)) ∧ sA.at 1 = .ptr kn 0 ∧ sA.at 2 = .ptr ks 0 ∧ sA.at 3 = .ptr kv 0 ∧ sA.at 4 = .ptr ki 0 ∧ sA.at 24 = .fn 142 [.ptr (h.n + 1) 0, .ptr h.n 0] ∧ sA.at ai = s.at ai :=
  ⟨_, HV H.hk PY.p142_6 s2 s4 s1 (by rw [tz46]; exact bb gs) hx.ceq (by rw [tz3]; exact bb gi) (dS _) (cI (by omega)) hs1 hs2.ceq (by rw [tz3]; exact bb gn) (yo (by omega)) (H.prim _ _) (wq H PD hs2.one), s1, s2, s3, s4, rfl, rfl⟩
 let h1 : Hp := (h.push (.cells [x'] 0 46)).push (.cells [.nu .i64 (.ofNat n)] 0 3)
 let h2 : Hp := (h1.push .df).push (.lp (iO sA))
 have aX : HpOk h1 := (ok.push _).push _
 have bz : HpOk h2 := (aX.push _).push _
 have n1 : h1.n = h.n + 2 := rfl
 have n2 : h2.n = h.n + 4 := rfl
 have B2 : But O h h2 := ((((But.refl O h).push _).push _).push _).push _
 have g2 : ∀ k, k < h.n → h2.get k = h.get k := fun k hk => by
  show (((((h.push _).push _).push _).push _).get k) = _
  rw [ag, if_neg (by show k ≠ h.n + 3; omega), ag, if_neg (by show k ≠ h.n + 2; omega), ag, if_neg (by show k ≠ h.n + 1; omega), ag, if_neg (by omega)]
 have low := fun k hk => Y.low hI k hk
 have gdf : h2.get (h.n + 2) = .df := by
  show (((((h.push _).push _).push _).push _).get (h.n + 2)) = _
  rw [ag, if_neg (by show h.n + 2 ≠ h.n + 3; omega), ag]; exact if_pos rfl
 have glp : h2.get (h.n + 3) = .lp (iO sA) := by
  show (((((h.push _).push _).push _).push _).get (h.n + 3)) = _
  rw [ag]; exact if_pos rfl
 have gn2 : h2.get (h.n + 1) = .cells [.nu .i64 (.ofNat n)] 0 3 := by
  show (((((h.push _).push _).push _).push _).get (h.n + 1)) = _
  rw [ag, if_neg (by show h.n + 1 ≠ h.n + 3; omega), ag, if_neg (by show h.n + 1 ≠ h.n + 2; omega), ag]; exact if_pos rfl
 have gs2 : h2.get h.n = .cells [x'] 0 46 := by
  show (((((h.push _).push _).push _).push _).get h.n) = _
  rw [ag, if_neg (by show h.n ≠ h.n + 3; omega), ag, if_neg (by show h.n ≠ h.n + 2; omega), ag, if_neg (by show h.n ≠ h.n + 1; omega), ag, if_pos rfl]
 have nO : ∀ k, h.n ≤ k → ¬ O k := fun k hk hO => by have := low k hO; omega
 have hN0 := Y.base hI
 have row2 : Row h2 x (ah a) := hx.but fun k hk => g2 k (ho k hk).1
 have row2' : Row h2 x' (ah (a.drop (i + 1))) := hs2.but fun k hk => g2 k (ho k (ho' k hk)).1
 have Y' := ED H PY Y hL (kr := h.n + 3) (kv := kv) (ki := ki) (ks := ks) (x := x) (a := a) (i := i) (s := sA) hi (by omega) (by omega) (by omega) (fun k hk => by have := (ho k hk).1; omega) (by omega) a2 a3 a4 (d0 := d)
 have hI2 : I d h2 O := Y.keep hI B2.n fun k hk => g2 k (hk.elim (fun hk => by omega) (low k))
 obtain ⟨h3, O3, hC, ct, ⟨hI3, F3⟩, B3, hO3⟩ := IH Y' hL (a := a.drop (i + 1)) (x := x') (by simp only [List.length_drop]; omega) hn (d := []) (h := h2) (O := O)
  ⟨by simpa using hI2, ⟨by omega, glp, by rw [g2 _ kvn]; exact gv, by rw [g2 _ kin]; exact gi, by rw [g2 _ ksn]; exact gs, row2, nO _ (by omega), nv, ni, ns, fun k hk => (ho k hk).2⟩⟩
  (by simp only [List.length_nil]; omega) bz gn2 gs2 (nO _ (by omega)) (nO _ (by omega)) row2' (fun k hk => ⟨by have := (ho k (ho' k hk)).1; omega, (ho k (ho' k hk)).2⟩)
 rw [List.nil_append] at hI3
 have hlv : iD (h.n + 3) h3 = some (none, h3.set (h.n + 3) (.lp ⟨.exhausted, none, sA, 142, 37, #[25], aD [1, 1, 1, 0, 0, 1, 0, 0, 1, 0, 0] (an Tryz.f142), aD [1, 1, 1, 0, 0, 1, 0, 0, 1, 0, 1] (an Tryz.f142)⟩)) := by
  simp only [iD, F3.rc, iO, p2]
 have rB : kd K [1, 1, 1, 0, 0, 1, 0, 0, 1, 0] sA h1 .normal (T.set sA ai (jt h1.n (sA.at ai))) (h3.set (h.n + 3) (.lp ⟨.exhausted, none, sA, 142, 37, #[25], aD [1, 1, 1, 0, 0, 1, 0, 0, 1, 0, 0] (an Tryz.f142), aD [1, 1, 1, 0, 0, 1, 0, 0, 1, 0, 1] (an Tryz.f142)⟩)) :=
  Runs.range (g := .tmp 24) (ps := #[25]) («as» := aD [1, 1, 1, 0, 0, 1, 0, 0, 1, 0, 0] (an Tryz.f142)) (bd := aD [1, 1, 1, 0, 0, 1, 0, 0, 1, 0, 1] (an Tryz.f142)) (h1 := h2) a24 rfl hC hlv
 have hOO : ∀ k, O3 k → O k ∨ h.n ≤ k := fun k hk => (hO3 k hk).elim .inl fun h1 => .inr (by omega)
 have ndf : ¬ O3 (h.n + 2) := fun h1 => (hO3 _ h1).elim (nO _ (by omega)) fun h2 => by omega
 refine ⟨_, _, O3, aF (Runs.seq rA (aF rB)), a1, a2, a3, a4, ?_, ?_, ndf, ct.set (by have := B3.n; omega) _, ?_, ?_, by have := B3.n; show h.n + 2 < h3.n; omega, hOO⟩
 · show ce (jt h1.n (sA.at ai)) = _
   rw [tg, asl, n1]
 · rw [Hp.get_set, if_neg (by omega), B3.get _ (by omega) (nO _ (by omega))]; exact gdf
 · refine Y.keep hI3 (Nat.le_refl _) fun k hk => ?_
   rw [Hp.get_set, if_neg]
   rintro rfl
   exact hk.elim (fun h1 => by omega) F3.nr
 · exact (B2.trans B3 (fun k hk => .inl hk)).set (by omega) _
theorem xq (H : Std K) (PD : cj K) (PY : da K) {n : Nat} (IH : sQ K n) {v : CV} {N0 B L : Nat} {I : List (List Int) → Hp → (Nat → Prop) → Prop} (Y : YI K v N0 B (L + 1) I) (hL : L ≤ 1000000) (hn : n ≤ L) {a : List Int} {x : CV} (hbig : a.length < 1099511627776) {h0 : Hp} {O0 : Nat → Prop} {kn ks kv : Nat} (hN : N0 ≤ h0.n) (hkn : kn < h0.n) (hks : ks < h0.n) (hkv : h0.n ≤ kv) (gn : h0.get kn = .cells [.nu .i64 (.ofNat (n + 1))] 0 3) (gs : h0.get ks = .cells [x] 0 46) (nn : ¬ O0 kn) (ns : ¬ O0 ks) (hx : Row h0 x (ah a)) (ho : ∀ k, own x k → k < h0.n ∧ ¬ O0 k) : ∀ (m i : Nat) (s : Fr) (h : Hp) (O : Nat → Prop) (d : List (List Int)) (ki : Nat), i + m = a.length → s.at 1 = .ptr kn 0 → s.at 2 = .ptr ks 0 → s.at 3 = .ptr kv 0 → s.at 4 = .ptr ki 0 → I d h O → HpOk h → But O0 h0 h → (∀ k, O k → O0 k ∨ h0.n ≤ k) → h.get kv = .cells [v] 0 110 → ¬ O kv → h.get ki = .cells [.nu .i64 (.ofNat i)] 0 3 → h0.n ≤ ki → ¬ O ki → (ce (s.at ai)).Nodup → (∀ k ∈ ce (s.at ai), h.get k = .df ∧ h0.n ≤ k ∧ ¬ O k) → d.length + (cD (a.drop i) (n + 1)).length ≤ B →
  ∃ s' h' O', kd K [1, 1, 1, 0] s h (.exit 0) s' h' ∧ HpOk h' ∧ I (d ++ cD (a.drop i) (n + 1)) h' O' ∧ But O0 h0 h' ∧ (∀ k, O' k → O0 k ∨ h0.n ≤ k) ∧ (ce (s'.at ai)).Nodup ∧ ∀ k ∈ ce (s'.at ai), h'.get k = .df ∧ h0.n ≤ k ∧ ¬ O' k := by
 have tz46 : au K.P 46 = some (1, false) := eL H
 have tz3 : au K.P 3 = some (1, false) := by rw [H.hP]; exact z3
 have te3 : cn K.P 3 = some (.nu .i64 0) := by rw [H.hP]; exact e3
 intro m
 induction m with
 | zero =>
  intro i s h O d ki him s1 s2 s3 s4 hI ok Bt hO gv nv gi hki ni hnd hms hB
  have gn' : h.get kn = .cells [.nu .i64 (.ofNat (n + 1))] 0 3 := by rw [Bt.get _ hkn nn]; exact gn
  have gs' : h.get ks = .cells [x] 0 46 := by rw [Bt.get _ hks ns]; exact gs
  have hx' : Row h x (ah a) := hx.but fun k hk => Bt.get k (ho k hk).1 (ho k hk).2
  have hlen := cA H hx'
  rw [aw] at hlen
  have hsh : cD (a.drop i) (n + 1) = [] := jn _ _ (by simp only [List.length_drop]; omega)
  have hle : ac K.P .leq 3 (.nu .i64 (.ofNat (i + (n + 1)))) (.nu .i64 (.ofNat a.length)) = some (.bo false) := by
   rw [nI]; exact congrArg _ (congrArg _ (il (by omega)))
  refine ⟨_, h, O, aH (aE (Runs.seq (se H.hk s4 s1 s2 (by rw [tz3]; exact bb gi) (by rw [tz3]; exact bb gn') (oK (by omega)) (by rw [tz46]; exact bb gs') hlen hle) (Runs.condF rfl Runs.exit)) (by simp)) (by simp), ok, by rw [hsh, List.append_nil]; exact hI, Bt, hO, hnd, hms⟩
 | succ m ih =>
  intro i s h O d ki him s1 s2 s3 s4 hI ok Bt hO gv nv gi hki ni hnd hms hB
  have hi : i < a.length := by omega
  have hlow := fun k hk => Y.low hI k hk
  have gn' : h.get kn = .cells [.nu .i64 (.ofNat (n + 1))] 0 3 := by rw [Bt.get _ hkn nn]; exact gn
  have gs' : h.get ks = .cells [x] 0 46 := by rw [Bt.get _ hks ns]; exact gs
  have nn' : ¬ O kn := fun h1 => (hO _ h1).elim nn fun h2 => by omega
  have ns' : ¬ O ks := fun h1 => (hO _ h1).elim ns fun h2 => by omega
  have ho' : ∀ k, own x k → k < h.n ∧ ¬ O k := fun k hk => ⟨Nat.lt_of_lt_of_le (ho k hk).1 Bt.n, fun h1 => (hO _ h1).elim (ho k hk).2 fun h2 => by have := (ho k hk).1; omega⟩
  have hx' : Row h x (ah a) := hx.but fun k hk => Bt.get k (ho k hk).1 (ho k hk).2
  have hlen := cA H hx'
  rw [aw] at hlen
  by_cases hsh : i + (n + 1) ≤ a.length
  · have hle : ac K.P .leq 3 (.nu .i64 (.ofNat (i + (n + 1)))) (.nu .i64 (.ofNat a.length)) = some (.bo true) := by
     rw [nI]; exact congrArg _ (congrArg _ (ik hsh))
    have hsub := CB (a := a) (n := n) hi
    rw [hsub, List.length_append, List.length_map] at hB
    obtain ⟨sA, rA, a1, a2, a3, a4, asl⟩ : ∃ sA, kd K [1, 1, 1, 0, 0, 0] s h .normal sA h ∧ sA.at 1 = .ptr kn 0 ∧ sA.at 2 = .ptr ks 0 ∧ sA.at 3 = .ptr kv 0 ∧ sA.at 4 = .ptr ki 0 ∧ sA.at ai = s.at ai :=
     ⟨_, Runs.seq (se H.hk s4 s1 s2 (by rw [tz3]; exact bb gi) (by rw [tz3]; exact bb gn') (oK (by omega)) (by rw [tz46]; exact bb gs') hlen hle) (Runs.condT (o := .tmp 15) (y := .exit 0) rfl Runs.skip), s1, s2, s3, s4, rfl⟩
    obtain ⟨sB, h1, O1, rB, b1, b2, b3, b4, bsl, gdf, ndf, aX, hI1, B1, n1, hO1⟩ := xp H PD PY IH Y hL hn hbig hi hI (by omega) ok gn' gs' gv gi nn' ns' nv ni hx' ho' a1 a2 a3 a4
    rw [asl] at bsl
    have kvn := dz ok (k := kv) (by rw [gv]; simp)
    have kin := dz ok (k := ki) (by rw [gi]; simp)
    have low1 := fun k hk => Y.low hI1 k hk
    have gi1 : h1.get ki = .cells [.nu .i64 (.ofNat i)] 0 3 := by rw [B1.get _ kin ni]; exact gi
    let h2 : Hp := (h1.push (.cells [.nu .i64 0] 0 3)).set h1.n (.cells [.nu .i64 (.ofNat i)] 0 3)
    let h3 : Hp := h2.set h1.n (.cells [.nu .i64 (.ofNat (i + 1))] 0 3)
    have st1 : bt (h1.push (.cells [.nu .i64 0] 0 3)) (.ptr h1.n 0) (.nu .i64 (.ofNat i)) (some (1, false)) = some (.undef, h2) := jo rfl (by rw [ag]; exact if_pos rfl)
    have gi2 : h2.get h1.n = .cells [.nu .i64 (.ofNat i)] 0 3 := by show (Hp.set _ h1.n _).get h1.n = _; rw [Hp.get_set]; exact if_pos rfl
    have st2 : bt h2 (.ptr h1.n 0) (.nu .i64 (.ofNat (i + 1))) (some (1, false)) = some (.undef, h3) := jo rfl gi2
    obtain ⟨sC, rC, c1, c2, c3, c4, csl⟩ : ∃ sC, kd K [1, 1, 1, 0, 0, 1, 1] sB h1 .normal sC h3 ∧ sC.at 1 = .ptr kn 0 ∧ sC.at 2 = .ptr ks 0 ∧ sC.at 3 = .ptr kv 0 ∧ sC.at 4 = .ptr h1.n 0 ∧ sC.at ai = sB.at ai :=
     ⟨_, Runs.seq (Runs.seq (HY H.hk b4 (by rw [tz3]; exact bb gi1)) (D1 (F4 := fun k => .ptr k 0) (B4 := .cells [.nu .i64 0] 0 3) (g2 := h2) H.hk rfl (by rw [te3]; rfl) (by rw [tz3]; exact st1))) (HZ (v4 := .ptr h1.n 0) (g1 := h3) H.hk rfl (by rw [tz3]; exact bb gi2) (cI (by omega)) (by rw [tz3]; exact st2)), b1, b2, b3, rfl, rfl⟩
    have g3 : ∀ k, k < h1.n → h3.get k = h1.get k := fun k hk => by
     show ((((h1.push _).set h1.n _).set h1.n _).get k) = _
     rw [Hp.get_set, if_neg (by omega), Hp.get_set, if_neg (by omega), ag, if_neg (by omega)]
    have ct : HpOk h3 := HpOk.set (HpOk.set (aX.push _) (by show h1.n < h1.n + 1; omega) _) (by show h1.n < h1.n + 1; omega) _
    have hI3 : I (d ++ (cD (a.drop (i + 1)) n).map (a[i] :: ·)) h3 O1 := Y.keep hI1 (by show h1.n ≤ h1.n + 1; omega) fun k hk => g3 k (hk.elim (fun h4 => by have := Y.base hI1; omega) (low1 k))
    have hO13 : ∀ k, O1 k → O0 k ∨ h0.n ≤ k := fun k hk => (hO1 k hk).elim (hO k) fun h4 => .inr (by have := Bt.n; omega)
    have hn0 := Bt.n
    have B3 : But O0 h0 h3 := ((Bt.trans B1 hO).push _ |>.set (by omega) _).set (by omega) _
    have nO1 : ∀ k, k < h.n → ¬ O k → ¬ O1 k := fun k hk h4 h5 => (hO1 k h5).elim h4 fun h6 => by omega
    obtain ⟨s', h', O', r', ok', hI', B', hO', hnd', hms'⟩ := ih (i + 1) sC h3 O1 (d ++ (cD (a.drop (i + 1)) n).map (a[i] :: ·)) h1.n (by omega) c1 c2 c3 c4 hI3 ct B3 hO13
     (by rw [g3 kv (by omega), B1.get _ kvn nv]; exact gv) (nO1 _ kvn nv) (by show (Hp.set _ h1.n _).get h1.n = _; rw [Hp.get_set]; exact if_pos rfl) (by omega) (fun h4 => by have := low1 _ h4; omega)
     (by
       rw [csl, bsl]
       refine List.nodup_cons.2 ⟨fun hm => ?_, hnd⟩
       have := dz ok (k := h.n + 2) (by rw [(hms _ hm).1]; simp)
       omega)
     (by
       rw [csl, bsl]
       intro k hk
       rcases List.mem_cons.1 hk with rfl | hk
       · exact ⟨by rw [g3 _ n1]; exact gdf, by omega, ndf⟩
       · obtain ⟨m1, m2, m3⟩ := hms k hk
         have kn' := dz ok (k := k) (by rw [m1]; simp)
         exact ⟨by rw [g3 _ (by omega), B1.get _ kn' m3]; exact m1, m2, nO1 _ kn' m3⟩)
     (by rw [List.length_append, List.length_map]; omega)
    refine ⟨s', h', O', Runs.loop (Runs.seq rA (Runs.seq rB rC)) r', ok', by rw [hsub, ← List.append_assoc]; exact hI', B', hO', hnd', hms'⟩
  · have hle : ac K.P .leq 3 (.nu .i64 (.ofNat (i + (n + 1)))) (.nu .i64 (.ofNat a.length)) = some (.bo false) := by
     rw [nI]; exact congrArg _ (congrArg _ (il (by omega)))
    have hsh' : cD (a.drop i) (n + 1) = [] := jn _ _ (by simp only [List.length_drop]; omega)
    refine ⟨_, h, O, aH (aE (Runs.seq (se H.hk s4 s1 s2 (by rw [tz3]; exact bb gi) (by rw [tz3]; exact bb gn') (oK (by omega)) (by rw [tz46]; exact bb gs') hlen hle) (Runs.condF rfl Runs.exit)) (by simp)) (by simp), ok, by rw [hsh', List.append_nil]; exact hI, Bt, hO, hnd, hms⟩
theorem EE (H : Std K) (PD : cj K) (PY : da K) : ∀ n, sQ K n := by
 have hf : K.P.funcs[142]? = some Tryz.f142 := by rw [H.hP]; exact Tryz.func142
 have tz46 : au K.P 46 = some (1, false) := eL H
 have tz3 : au K.P 3 = some (1, false) := by rw [H.hP]; exact z3
 have tz110 : au K.P 110 = some (1, false) := by rw [H.hP]; exact K4
 have te3 : cn K.P 3 = some (.nu .i64 0) := by rw [H.hP]; exact e3
 intro n
 induction n with
 | zero =>
  intro v N0 B L I Y hL a x hbig hn d h O hI hB ok kn ks gn gs nn ns hx ho
  rw [nT] at hB ⊢
  have low := fun k hk => Y.low hI k hk
  let h1 : Hp := h.push (.cells [v] 0 110)
  have hI1 : I d h1 O := Y.keep hI (by show h.n ≤ h.n + 1; omega) fun k hk => by
   rw [ag, if_neg]; have := Y.base hI; have := hk.elim (fun h1 => by omega) (low k); omega
  obtain ⟨h', O', hC, ok', hI', Bt, hO'⟩ := Y.step (c := .nils) (a := []) hI1 (ok.push _) .nils (by simp only [List.length_cons, List.length_nil] at hB; omega) (by simp) (fun k hk => hk.elim)
  have knn := dz ok (k := kn) (by rw [gn]; simp)
  obtain ⟨sA, rA, a1, a3, as1⟩ : ∃ sA, kd K [0] (entry 0 [v, .ptr kn 0, .ptr ks 0]) h .normal sA h1 ∧ sA.at 1 = .ptr kn 0 ∧ sA.at 3 = .ptr h.n 0 ∧ sA.at ai = .undef :=
   ⟨_, yf H.hk (F3 := fun k => .ptr k 0) (B3 := .cells [v] 0 110) rfl (by rw [tz110]; exact lH Y.one), rfl, rfl, rfl⟩
  have g1 : h1.get kn = .cells [.nu .i64 (.ofNat 0)] 0 3 := by rw [ag, if_neg (by omega)]; exact gn
  obtain ⟨sB, rB, bs⟩ : ∃ sB, kd K [1, 0] sA h1 .ret sB h' ∧ sB.at ai = .undef :=
   ⟨_, Runs.seq (yg H.hk a1 (by rw [tz3]; exact bb g1) (Ep rfl)) (Runs.condT (o := .tmp 7) rfl (Runs.seq (HT (v3 := .ptr h.n 0) (r8 := v) H.hk a3 (by rw [tz110]; exact bb (by rw [ag]; exact if_pos rfl)) hC) Runs.ret)), as1⟩
  refine ⟨h', O', H.go hf (Runs.seq rA (aE rB (by simp))) (.inr rfl) (by have := Bt.n; show h.n ≤ h'.n; exact Nat.le_trans (Nat.le_succ _) this) bs rfl rfl, ok', hI', ((But.refl O h).push _).trans Bt (fun k hk => .inl hk), fun k hk => ?_⟩
  rcases hO' k hk with h2 | h2 | h2
  · exact .inl h2
  · exact .inr (Nat.le_trans (Nat.le_succ _) h2)
  · exact h2.elim
 | succ n ih =>
  intro v N0 B L I Y hL a x hbig hn d h O hI hB ok kn ks gn gs nn ns hx ho
  obtain ⟨L, rfl⟩ : ∃ l, L = l + 1 := ⟨L - 1, by omega⟩
  have low := fun k hk => Y.low hI k hk
  have knn := dz ok (k := kn) (by rw [gn]; simp)
  have ksn := dz ok (k := ks) (by rw [gs]; simp)
  let h1 : Hp := h.push (.cells [v] 0 110)
  let h2 : Hp := (h1.push (.cells [.nu .i64 0] 0 3)).set (h.n + 1) (.cells [.nu .i64 0] 0 3)
  have g2 : ∀ k, k < h.n → h2.get k = h.get k := fun k hk => by
   show ((((h.push _).push _).set (h.n + 1) _).get k) = _
   rw [Hp.get_set, if_neg (by omega), ag, if_neg (by show k ≠ h.n + 1; omega), ag, if_neg (by omega)]
  have bz : HpOk h2 := HpOk.set ((ok.push _).push _) (by show h.n + 1 < h.n + 1 + 1; omega) _
  have n2 : h2.n = h.n + 2 := rfl
  have hI2 : I d h2 O := Y.keep hI (by omega) fun k hk => g2 k (hk.elim (fun h1 => by have := Y.base hI; omega) (low k))
  have B2 : But O h h2 := (((But.refl O h).push _).push _).set (by omega) _
  have gv2 : h2.get h.n = .cells [v] 0 110 := by
   show ((((h.push _).push _).set (h.n + 1) _).get h.n) = _
   rw [Hp.get_set, if_neg (by omega), ag, if_neg (by show h.n ≠ h.n + 1; omega), ag]; exact if_pos rfl
  have gi2 : h2.get (h.n + 1) = .cells [.nu .i64 (.ofNat 0)] 0 3 := by
   show ((((h.push _).push _).set (h.n + 1) _).get (h.n + 1)) = _
   rw [Hp.get_set]; exact if_pos rfl
  have st : bt (h1.push (.cells [.nu .i64 0] 0 3)) (.ptr (h.n + 1) 0) (.nu .i64 0) (some (1, false)) = some (.undef, h2) := jo (t := 3) (w := .nu .i64 0) rfl (by rw [ag]; exact if_pos rfl)
  obtain ⟨sA, rA, a1, a2, a3, as1⟩ : ∃ sA, kd K [0] (entry 0 [v, .ptr kn 0, .ptr ks 0]) h .normal sA h1 ∧ sA.at 1 = .ptr kn 0 ∧ sA.at 2 = .ptr ks 0 ∧ sA.at 3 = .ptr h.n 0 ∧ sA.at ai = .undef :=
   ⟨_, yf H.hk (F3 := fun k => .ptr k 0) (B3 := .cells [v] 0 110) rfl (by rw [tz110]; exact lH Y.one), rfl, rfl, rfl, rfl⟩
  have g1 : h1.get kn = .cells [.nu .i64 (.ofNat (n + 1))] 0 3 := by rw [ag, if_neg (by omega)]; exact gn
  obtain ⟨sZ, rZ, z1, z2, FB, zs⟩ : ∃ sZ, kd K [1, 0] sA h1 .normal sZ h1 ∧ sZ.at 1 = .ptr kn 0 ∧ sZ.at 2 = .ptr ks 0 ∧ sZ.at 3 = .ptr h.n 0 ∧ sZ.at ai = .undef :=
   ⟨_, Runs.seq (yg H.hk a1 (by rw [tz3]; exact bb g1) (nM (by simp only [Int.ofNat_eq_natCast]; omega))) (Runs.condF (o := .tmp 7) rfl Runs.skip), a1, a2, a3, as1⟩
  obtain ⟨sB, rB, b1, b2, b3, b4, bs⟩ : ∃ sB, kd K [1, 1, 0] sZ h1 .normal sB h2 ∧ sB.at 1 = .ptr kn 0 ∧ sB.at 2 = .ptr ks 0 ∧ sB.at 3 = .ptr h.n 0 ∧ sB.at 4 = .ptr (h.n + 1) 0 ∧ sB.at ai = .undef :=
   ⟨_, (HU (F4 := fun k => .ptr k 0) (B4 := .cells [.nu .i64 0] 0 3) (g2 := h2) H.hk (by rw [te3]; rfl) (by rw [tz3]; exact st)), z1, z2, FB, rfl, zs⟩
  have hsl : ce (sB.at ai) = [] := by rw [bs]; rfl
  obtain ⟨s', h3, O3, r3, ct, hI3, B3, hO3, hnd, hms⟩ := xq H PD PY ih Y (by omega) (by omega) hbig (h0 := h) (O0 := O) (kv := h.n) (Y.base hI) knn ksn (Nat.le_refl _) gn gs nn ns hx ho a.length 0 sB h2 O d (h.n + 1) (by omega) b1 b2 b3 b4 hI2 bz B2 (fun k hk => .inl hk) gv2 (fun h4 => by have := low _ h4; omega) gi2 (by omega) (fun h4 => by have := low _ h4; omega) (by rw [hsl]; exact List.nodup_nil) (by rw [hsl]; simp) (by simpa using hB)
  obtain ⟨h4, sh1, sh2, sh3, sh4⟩ := tP _ h3 hnd (fun k hk => (hms k hk).1)
  rw [List.drop_zero] at hI3
  refine ⟨h4, O3, qL hf rfl (H.memo 142 (by decide)) (H.spec 142) rfl (e := .normal) (h1 := h3) (s1 := s') ?_ (.inl rfl) B3.n sh1 rfl rfl, sh4 ct, ?_, ?_, hO3⟩
  · exact Runs.seq rA (Runs.seq rZ (Runs.seq rB (aS r3)))
  · exact Y.keep hI3 (by omega) fun k hk => sh3 k fun hm => by
     obtain ⟨m1, m2, m3⟩ := hms k hm
     exact hk.elim (fun h5 => by have := Y.base hI; omega) m3
  · refine ⟨by have := B3.n; omega, fun k hk hO => ?_⟩
    rw [sh3 k (fun hm => by have := (hms k hm).2.1; omega)]; exact B3.get k hk hO
end
theorem pQ {h : Hp} {x : CV} {k : Nat} (hk : ¬ own x k) : (wipe h x).get k = h.get k := by
 cases x with
 | sl j o n c => show (h.set j .dead).get k = _; rw [Hp.get_set, if_neg]; exact fun h1 => hk h1
 | _ => rfl
theorem zB {h h' : Hp} {x : CV} {k : Nat} (hk : h'.get k = h.get k) : (wipe h' x).get k = (wipe h x).get k := by
 cases x with
 | sl j o n c => show (h'.set j .dead).get k = (h.set j .dead).get k; rw [Hp.get_set, Hp.get_set]; split; · rfl
                 · exact hk
 | _ => exact hk
theorem Rows.but {h h' : Hp} {xs : List CV} {l : List (List Int)} (r : Rows h xs l) (hg : ∀ c ∈ xs, ∀ k, own c k → h'.get k = h.get k) : Rows h' xs l := by
 induction r with
 | nil => exact .nil
 | cons hx _ ih => exact .cons (hx.but (hg _ (by simp))) (ih fun c hc => hg c (by simp [hc]))
theorem Own.but {N el : Nat} {h h' : Hp} {x : CV} {xs : List CV} {l : List (List Int)} (r : Own N h el x xs l) (hn : h.n ≤ h'.n) (hx : ∀ k, own x k → h'.get k = h.get k) (hg : ∀ c ∈ xs, ∀ k, own c k → h'.get k = h.get k) : Own N h' el x xs l := by
 refine ⟨?_, r.rows.but fun c hc k hk => zB (hg c hc k hk)⟩
 cases r.out with
 | nils => exact .nils
 | some hk hkn hne hs => exact .some hk (Nat.lt_of_lt_of_le hkn hn) hne (by rw [hx _ rfl]; exact hs)
theorem Own.blkAt {N el : Nat} {h : Hp} {x : CV} {xs : List CV} {l : List (List Int)} (r : Own N h el x xs l) {k : Nat} (hk : own x k) : N ≤ k ∧ k < h.n ∧ ∃ cs, h.get k = .cells cs 1 el := by
 cases r.out with
 | nils => exact hk.elim
 | some h1 h2 hne hs => have : k = _ := hk; subst this; exact ⟨h1, h2, _, hs⟩
theorem Own.app' {P : Program} {N el b t : Nat} {h : Hp} {z0 x y : CV} {cs : List CV} {l : List (List Int)} {a : List Int} (ht : ae P t = .slice el 1 b [z0]) (ok : HpOk h) (hN : N ≤ h.n) (O : Own N h el x cs l) (hy : Row (wipe h x) y (ah a)) (hb : b ≤ 64) (hn : cs.length < 1099511627776) :
  ∃ F B x' h', aC 1 [(0, y)] (ae P t) = some (F, B) ∧ be (h.push B) x (F h.n) (ae P t) (ae P t) = some (x', h') ∧ Own N h' el x' (cs ++ [y]) (l ++ [a]) ∧ But (own x) h h' ∧ HpOk h' ∧ ∀ k, own x' k → h.n ≤ k := by
 obtain ⟨F, B, x', h', h1, h2, h3, h4, h5⟩ := O.app ht ok hN hy hb hn
 have hv : y.one = true := hy.one
 have e1 : aC 1 [(0, y)] (ae P t) = some (fun k => .sl k 0 1 1, .cells [y] 0 el) := by rw [ht]; exact iH hv
 rw [h1] at e1
 injection e1 with e1
 injection e1 with eF eB
 subst eF; subst eB
 have r' : Out N (h.push (.cells [y] 0 el)) el x cs := O.out.mono (Same.push (Nat.le_refl _) _) (Nat.le_refl _)
 have hb2 : (cs.length + [y].length) * b ≤ 70368744177664 := by
  have : (cs.length + 1) * b ≤ 1099511627776 * 64 := Nat.mul_le_mul (by omega) hb
  simpa using this
 have e := r'.appE (z := [z0]) (t' := .slice el 1 b [z0]) (bytes := b) (lr (h := h) (v := y) (el := el)) (by simp) (by simp [hv]) rfl ⟨_, _, _, rfl⟩ hb2 (by simp; omega)
 rw [← ht] at e
 have h2' := h2
 rw [e] at h2'
 injection h2' with h2'
 injection h2' with ex eh
 refine ⟨_, _, x', h', h1, h2, h3, ⟨?_, fun k hk hO => ?_⟩, h5, fun k hk => ?_⟩
 · rw [← eh]; show h.n ≤ (wipe (h.push (.cells [y] 0 el)) x).n + 1; rw [di]; show h.n ≤ h.n + 1 + 1; omega
 · rw [← eh, ag, if_neg (by rw [di]; show k ≠ h.n + 1; omega), pQ hO, ag, if_neg (by omega)]
 · rw [← ex] at hk
   have : k = h.n + 1 := hk
   omega
noncomputable def ke (s : Fr) : Lp := ⟨.ready, none, s, 114, 13, #[7], aD [1, 0, 1, 0, 0] (an Tryz.f114), aD [1, 0, 1, 0, 1] (an Tryz.f114)⟩
structure LM (N kb kr : Nat) (s : Fr) (l0 : List (List Int)) (x : CV) (xs : List CV) (d : List (List Int)) (h : Hp) (O : Nat → Prop) : Prop where
 base : kr + 1 ≤ h.n
 rc : h.get kr = .lp (ke s)
 nr : ¬ O kr
 gb : h.get kb = .cells [x] 0 22
 ob : O kb
 own' : Own N h 46 x xs (l0 ++ d)
 ox : ∀ k, own x k → O k
 oc : ∀ c ∈ xs, ∀ k, own c k → (k < kb ∨ O k) ∧ k ≠ kb
 lo : ∀ k, O k → N ≤ k ∧ k < h.n
section
variable {K : Ctx}
theorem EF (H : Std K) {N kb kr B L : Nat} {s : Fr} {l0 : List (List Int)} (hN : N ≤ kb) (hkb : kb < kr) (hb : l0.length + B ≤ 1000000) (s2 : s.at 2 = .ptr kb 0) :
  YI K (.yl kr) (kr + 1) B L (fun d h O => ∃ x xs, LM N kb kr s l0 x xs d h O) where
 one := rfl
 eq := by show Nat.beq kr kr = true; exact Nat.beq_refl _
 base := fun ⟨_, _, F⟩ => F.base
 low := fun ⟨_, _, F⟩ k hk => (F.lo k hk).2
 keep := by
  rintro d h O h' ⟨x, xs, F⟩ hn hg
  have := F.base
  exact ⟨x, xs, ⟨by omega, by rw [hg kr (.inl (by omega))]; exact F.rc, F.nr, by rw [hg kb (.inr F.ob)]; exact F.gb, F.ob, F.own'.but hn (fun k hk => hg k (.inr (F.ox k hk))) (fun c hc k hk => hg k ((F.oc c hc k hk).1.elim (fun h1 => .inl (by omega)) .inr)), F.ox, F.oc, fun k hk => ⟨(F.lo k hk).1, Nat.lt_of_lt_of_le (F.lo k hk).2 hn⟩⟩⟩
 step := by
  rintro d h O c a ⟨x, xs, F⟩ ok hr hd hl hown
  have hbase := F.base
  have hrn : kr < h.n := by omega
  let s0 : Fr := T.set (T.set s ai .undef) 7 c
  let h2 : Hp := h.set kr (.lp ⟨.busy, none, s, 114, 13, #[7], aD [1, 0, 1, 0, 0] (an Tryz.f114), aD [1, 0, 1, 0, 1] (an Tryz.f114)⟩)
  have bz : HpOk h2 := ok.set hrn _
  have g2 : ∀ k, k ≠ kr → h2.get k = h.get k := fun k hk => by show (h.set kr _).get k = _; rw [Hp.get_set, if_neg hk]
  have hbe : iF kr h = some h2 := by simp only [iF, F.rc, ke]; rfl
  have ra : Runs K 114 13 (some kr) (aD [1, 0, 1, 0, 0] (an Tryz.f114)) s0 h .normal (T.set s0 5 c) h := HQ H.hk rfl
  have nxr : ∀ k, own x k → k ≠ kr := fun k hk h1 => F.nr (h1 ▸ F.ox k hk)
  have O2 : Own N h2 46 x xs (l0 ++ d) := F.own'.but (Nat.le_refl _) (fun k hk => g2 k (nxr k hk)) (fun c' hc k hk => g2 k (by
   rcases (F.oc c' hc k hk).1 with h1 | h1
   · omega
   · rintro rfl; exact F.nr h1))
  have ncx : ∀ k, own c k → ¬ own x k := fun k hk h1 => (hown k hk).2.2 (F.ox k h1)
  have c2 : Row (wipe h2 x) c (ah a) := hr.but fun k hk => by rw [pQ (ncx k hk)]; exact g2 k (by have := (hown k hk).1; omega)
  have hlen := F.own'.rows.length
  rw [List.length_append] at hlen
  obtain ⟨FF, BB, x', g, e1, e2, O3, Bt, okg, hx'⟩ := O2.app' (P := K.P) (t := 22) (by rw [H.hP]; exact t22) bz (show N ≤ h.n by omega) c2 (by omega) (by omega)
  have tz22 : au K.P 22 = some (1, false) := vX H
  have gb2 : h2.get kb = .cells [x] 0 22 := by rw [g2 _ (by omega)]; exact F.gb
  have nbx : ¬ own x kb := fun h1 => by
   obtain ⟨_, _, cs, h3⟩ := F.own'.blkAt h1
   rw [F.gb] at h3; injection h3 with _ h3; cases h3
  have kbn : kb < h.n := by omega
  have gbg : g.get kb = .cells [x] 0 22 := by rw [Bt.get kb kbn nbx]; exact gb2
  let g3 : Hp := g.set kb (.cells [x'] 0 22)
  have hx1 : x'.one = true := O3.out.row.one
  have hst : bt g (.ptr kb 0) x' (au K.P 22) = some (.undef, g3) := by rw [tz22]; exact jo hx1 gbg
  have rb := HR (K := K) (ro := some kr) (s := T.set s0 5 c) (h := h2) H.hk (v2 := .ptr kb 0) (v5 := c) (r8 := x) (r11 := x') (g1 := g) (g2 := g3) s2 rfl (by rw [tz22]; exact bb gb2) e1 e2 hst
  have gn : h.n ≤ g.n := Bt.n
  let h4 : Hp := g3.set kr (.lp (ke s))
  have g4 : ∀ k, k ≠ kr → k ≠ kb → h4.get k = g.get k := fun k h5 h6 => by
   show ((g.set kb _).set kr _).get k = _
   rw [Hp.get_set, if_neg h5, Hp.get_set, if_neg h6]
  have xn : ∀ k, own x' k → h.n ≤ k := hx'
  refine ⟨h4, fun k => O k ∨ own x' k ∨ own c k, ComesY.of (r := ke s) (s0 := s0) (s1 := T.set s0 5 c) (h1 := h) (h2 := h2) (h3 := g3) (e := .normal) F.rc rfl ra hbe (aF rb) gn ?_, HpOk.set (HpOk.set okg (by omega) _) (by show kr < g.n; omega) _, ⟨x', xs ++ [c], ⟨by show kr + 1 ≤ g.n; omega, by show ((g.set kb _).set kr _).get kr = _; rw [Hp.get_set]; exact if_pos rfl, ?_, ?_, .inl F.ob, ?_, fun k hk => .inr (.inl hk), ?_, ?_⟩⟩, ?_, ?_⟩
  · have : g3.get kr = .lp ⟨.busy, none, s, 114, 13, #[7], aD [1, 0, 1, 0, 0] (an Tryz.f114), aD [1, 0, 1, 0, 1] (an Tryz.f114)⟩ := by
     show (g.set kb _).get kr = _
     rw [Hp.get_set, if_neg (by omega), Bt.get kr hrn (fun h1 => F.nr (F.ox _ h1))]
     show (h.set kr _).get kr = _; rw [Hp.get_set, if_pos rfl]
    simp only [pu, this, p3]; rfl
  · rintro (h1 | h1 | h1)
    · exact F.nr h1
    · have := xn _ h1; omega
    · have := (hown _ h1).1; omega
  · show ((g.set kb _).set kr _).get kb = _
    rw [Hp.get_set, if_neg (by omega), Hp.get_set]; exact if_pos rfl
  · rw [← List.append_assoc]
    refine O3.but (Nat.le_refl _) (fun k hk => g4 k (by have := xn k hk; omega) (by have := xn k hk; omega)) fun c' hc k hk => ?_
    rcases List.mem_append.1 hc with hc | hc
    · obtain ⟨h5, h6⟩ := F.oc c' hc k hk
      exact g4 k (by rcases h5 with h5 | h5; · omega
                     · rintro rfl; exact F.nr h5) h6
    · rw [List.mem_singleton] at hc
      subst hc
      have := (hown k hk).1
      exact g4 k (by omega) (by omega)
  · intro c' hc k hk
    rcases List.mem_append.1 hc with hc | hc
    · obtain ⟨h5, h6⟩ := F.oc c' hc k hk
      exact ⟨h5.elim .inl fun h7 => .inr (.inl h7), h6⟩
    · rw [List.mem_singleton] at hc
      subst hc
      have := (hown k hk).1
      exact ⟨.inr (.inr (.inr hk)), by omega⟩
  · rintro k (h1 | h1 | h1)
    · obtain ⟨h5, h6⟩ := F.lo k h1
      exact ⟨h5, by show k < g.n; omega⟩
    · have h5 := (O3.blkAt h1).2.1
      exact ⟨(O3.blkAt h1).1, h5⟩
    · obtain ⟨h5, h6, _⟩ := hown k h1
      exact ⟨by omega, by show k < g.n; omega⟩
  · refine ⟨gn, fun k hk hO => ?_⟩
    by_cases h5 : k = kr
    · subst h5
      show ((g.set kb _).set k _).get k = _
      rw [Hp.get_set, if_pos rfl]; exact F.rc.symm
    · rw [g4 k h5 (fun h6 => hO (h6 ▸ F.ob)), Bt.get k hk (fun h6 => hO (F.ox _ h6)), g2 k h5]
  · rintro k (h1 | h1 | h1)
    · exact .inl h1
    · exact .inr (.inl (xn k h1))
    · exact .inr (.inr h1)
theorem wt (H : Std K) (PD : cj K) (PY : da K) {N : Nat} {h : Hp} {o x : CV} {cs : List CV} {l : List (List Int)} {a : List Int} {n kn ks : Nat} (ok : HpOk h) (hN : N ≤ h.n) (O : Own N h 46 o cs l) (oc : ∀ c ∈ cs, ∀ k, own c k → k < h.n) (hn : n ≤ 1000) (hl : l.length + (cD a n).length ≤ 1000000) (ha : a.length ≤ 1000) (gn : h.get kn = .cells [.nu .i64 (.ofNat n)] 0 3) (gs : h.get ks = .cells [x] 0 46) (hx : Row h x (ah a)) (ho : ∀ k, own x k → k < N) :
  ∃ o' cs' h', Comes K 114 [o, .fn 142 [.ptr kn 0, .ptr ks 0]] h o' h' ∧ Own N h' 46 o' cs' (l ++ cD a n) ∧ (∀ c ∈ cs', ∀ k, own c k → k < h'.n) ∧ Same N h h' ∧ HpOk h' := by
 have hf : K.P.funcs[114]? = some Tryz.f114 := by rw [H.hP]; exact Tryz.func114
 have tz22 : au K.P 22 = some (1, false) := vX H
 have ho1 : o.one = true := O.out.row.one
 have knn := dz ok (k := kn) (by rw [gn]; simp)
 have ksn := dz ok (k := ks) (by rw [gs]; simp)
 let h1 : Hp := h.push (.cells [o] 0 22)
 obtain ⟨sA, rA, a1, a2, as1⟩ : ∃ sA, zA K [0] (entry 0 [o, .fn 142 [.ptr kn 0, .ptr ks 0]]) h .normal sA h1 ∧ sA.at 1 = .fn 142 [.ptr kn 0, .ptr ks 0] ∧ sA.at 2 = .ptr h.n 0 ∧ sA.at ai = .undef :=
  ⟨_, HO H.hk (F2 := fun k => .ptr k 0) (B2 := .cells [o] 0 22) rfl (by rw [tz22]; exact lH ho1), rfl, rfl, rfl⟩
 obtain ⟨sB, rB, b2, b6, bs⟩ : ∃ sB, zA K [1, 0, 0] sA h1 .normal sB h1 ∧ sB.at 2 = .ptr h.n 0 ∧ sB.at 6 = .fn 142 [.ptr kn 0, .ptr ks 0] ∧ sB.at ai = .undef :=
  ⟨_, HP H.hk a1, a2, rfl, as1⟩
 let h2 : Hp := (h1.push .df).push (.lp (ke sB))
 have n2 : h2.n = h.n + 3 := rfl
 have bz : HpOk h2 := ((ok.push _).push _).push _
 have g2 : ∀ k, k < h.n → h2.get k = h.get k := fun k hk => by
  show ((((h.push _).push _).push _).get k) = _
  rw [ag, if_neg (by show k ≠ h.n + 2; omega), ag, if_neg (by show k ≠ h.n + 1; omega), ag, if_neg (by omega)]
 have gb : h2.get h.n = .cells [o] 0 22 := by
  show ((((h.push _).push _).push _).get h.n) = _
  rw [ag, if_neg (by show h.n ≠ h.n + 2; omega), ag, if_neg (by show h.n ≠ h.n + 1; omega), ag]; exact if_pos rfl
 have gdf : h2.get (h.n + 1) = .df := by
  show ((((h.push _).push _).push _).get (h.n + 1)) = _
  rw [ag, if_neg (by show h.n + 1 ≠ h.n + 2; omega), ag]; exact if_pos rfl
 have glp : h2.get (h.n + 2) = .lp (ke sB) := by
  show ((((h.push _).push _).push _).get (h.n + 2)) = _
  rw [ag]; exact if_pos rfl
 have nno : ∀ {k : Nat} {w : CV} {e : Nat}, h.get k = .cells [w] 0 e → ¬ own o k := fun {k w e} hg h1 => by
  obtain ⟨_, _, cs, h3⟩ := O.blkAt h1
  rw [hg] at h3; injection h3 with _ h3; cases h3
 have xlow : ∀ k, own x k → k < h.n ∧ ¬ own o k := fun k hk => ⟨by have := ho k hk; omega, fun h1 => by have := (O.blkAt h1).1; have := ho k hk; omega⟩
 have Y := EF (K := K) H (N := N) (kb := h.n) (kr := h.n + 2) (B := (cD a n).length) (L := 1000) (s := sB) (l0 := l) hN (by omega) hl b2
 obtain ⟨h3, O3, hC, ct, ⟨o', cs', F⟩, B3, hO3⟩ := EE H PD PY n Y (by omega) (a := a) (x := x) (by omega) hn (d := []) (h := h2) (O := fun k => k = h.n ∨ own o k)
  ⟨o, cs, ⟨by omega, glp, fun h1 => h1.elim (fun h1 => by omega) (fun h1 => by have := (O.blkAt h1).2.1; omega), gb, .inl rfl, by rw [List.append_nil]; exact O.but (by omega) (fun k hk => g2 k (O.blkAt hk).2.1) (fun c hc k hk => g2 k (oc c hc k hk)), fun k hk => .inr hk, fun c hc k hk => by have := oc c hc k hk; exact ⟨.inl (by omega), by omega⟩, fun k hk => hk.elim (fun h1 => by subst h1; exact ⟨hN, by omega⟩) (fun h1 => ⟨(O.blkAt h1).1, by have := (O.blkAt h1).2.1; omega⟩)⟩⟩
  (by simp) bz (kn := kn) (ks := ks) (by rw [g2 _ knn]; exact gn) (by rw [g2 _ ksn]; exact gs) (fun h1 => h1.elim (fun h1 => by omega) (nno gn)) (fun h1 => h1.elim (fun h1 => by omega) (nno gs)) (hx.but fun k hk => g2 k (xlow k hk).1) (fun k hk => ⟨by have := (xlow k hk).1; omega, fun h1 => h1.elim (fun h1 => by have := (xlow k hk).1; omega) (xlow k hk).2⟩)
 rw [List.nil_append] at F
 have hb3 := F.base
 let h4 : Hp := h3.set (h.n + 2) (.lp ⟨.exhausted, none, sB, 114, 13, #[7], aD [1, 0, 1, 0, 0] (an Tryz.f114), aD [1, 0, 1, 0, 1] (an Tryz.f114)⟩)
 have hlv : iD (h.n + 2) h3 = some (none, h4) := by simp only [iD, F.rc, ke, p2]; rfl
 obtain ⟨sC, rC, c2, cs1⟩ : ∃ sC, zA K [1, 0, 1, 0] sB h1 .normal sC h4 ∧ sC.at 2 = .ptr h.n 0 ∧ ce (sC.at ai) = [h.n + 1] :=
  ⟨_, Runs.range (g := .tmp 6) (ps := #[7]) («as» := aD [1, 0, 1, 0, 0] (an Tryz.f114)) (bd := aD [1, 0, 1, 0, 1] (an Tryz.f114)) (h1 := h2) b6 rfl hC hlv, b2, by show ce (jt h1.n (sB.at ai)) = _; rw [bs]; rfl⟩
 have g4 : ∀ k, k ≠ h.n + 2 → h4.get k = h3.get k := fun k hk => by show (h3.set _ _).get k = _; rw [Hp.get_set, if_neg hk]
 obtain ⟨sD, rD, d4, ds⟩ : ∃ sD, zA K [1, 1, 0] sC h4 .normal sD h4 ∧ sD.at 4 = o' ∧ ce (sD.at ai) = [h.n + 1] :=
  ⟨_, HS H.hk c2 (by rw [tz22]; exact bb (by rw [g4 _ (by omega)]; exact F.gb)), rfl, cs1⟩
 have nO1 : ¬ O3 (h.n + 1) := fun h1 => (hO3 _ h1).elim (fun h5 => h5.elim (fun h6 => by omega) (fun h6 => by have := (O.blkAt h6).2.1; omega)) (fun h5 => by omega)
 have n1 : ¬ (h.n + 1 = h.n ∨ own o (h.n + 1)) := fun h5 => h5.elim (fun h6 => by omega) (fun h6 => by have := (O.blkAt h6).2.1; omega)
 have gdf4 : h4.get (h.n + 1) = .df := by rw [g4 _ (by omega), B3.get _ (by omega) n1]; exact gdf
 have n34 : h4.n = h3.n := rfl
 refine ⟨o', cs', h4.set (h.n + 1) .dead, qL hf rfl (H.memo 114 (by decide)) (H.spec 114) rfl (e := .ret) (s1 := sD) (h1 := h4) (Runs.seq rA (Runs.seq (Runs.seq rB (aF rC)) (Runs.seq rD Runs.ret))) (.inr rfl) (by have := B3.n; omega) (by rw [ds]; simp only [eE, gdf4]) (vs := [sD.at 4]) rfl d4, ?_, ?_, ?_, HpOk.set (ct.set (by omega) _) (by show h.n + 1 < h3.n; omega) _⟩
 · refine F.own'.but (Nat.le_refl _) (fun k hk => ?_) (fun c hc k hk => ?_)
   · have h5 := F.ox k hk
     rw [Hp.get_set, if_neg (by rintro rfl; exact nO1 h5), g4 k (by rintro rfl; exact F.nr h5)]
   · obtain ⟨h5, h6⟩ := F.oc c hc k hk
     have h7 : k ≠ h.n + 1 := by
      rintro rfl
      rcases h5 with h5 | h5
      · omega
      · exact nO1 h5
     rw [Hp.get_set, if_neg h7, g4 k (by rcases h5 with h5 | h5; · omega
                                         · rintro rfl; exact F.nr h5)]
 · intro c hc k hk
   rcases (F.oc c hc k hk).1 with h5 | h5
   · show k < h3.n; omega
   · exact (F.lo k h5).2
 · refine ⟨by have := B3.n; show h.n ≤ h3.n; omega, fun k hk => ?_⟩
   rw [Hp.get_set, if_neg (by omega), g4 k (by omega), B3.get k (by omega) (fun h5 => h5.elim (fun h6 => by omega) (fun h6 => by have := (O.blkAt h6).1; omega)), g2 k (by omega)]
end
def fG (a : List Int) (n : Nat) : List (List Int) := (List.range n).flatMap fun j => cD a (j + 1)
def eT (a : List Int) : List (List Int) := fG a a.length
theorem nU (a : List Int) (n : Nat) : fG a (n + 1) = fG a n ++ cD a (n + 1) := by
 simp [fG, List.range_succ]
theorem pR : ∀ (a : List Int) (n : Nat), (cD a n).length ≤ 2 ^ a.length
 | a, 0 => by rw [nT]; exact Nat.one_le_two_pow
 | [], n + 1 => by simp [cD]
 | x :: a, n + 1 => by
  have h1 := pR a n
  have h2 := pR a (n + 1)
  simp only [cD, List.length_append, List.length_map, List.length_cons, Nat.pow_succ]
  omega
theorem tQ {a : List Int} (ha : a.length ≤ 5) (n : Nat) : (cD a n).length ≤ 32 :=
 Nat.le_trans (pR a n) (Nat.pow_le_pow_right (by omega) ha)
theorem kY {a : List Int} (ha : a.length ≤ 5) : ∀ n, (fG a n).length ≤ 32 * n
 | 0 => by simp [fG]
 | n + 1 => by
  have h1 := kY ha n
  have h2 := tQ ha (n + 1)
  rw [nU, List.length_append]
  omega
section
variable {K : Ctx}
theorem wu (H : Std K) (PD : cj K) (PY : da K) {h0 : Hp} (bX : HpOk h0) {a : List Int} (ha : a.length ≤ 5) {x : CV} (hx : Row h0 x (ah a)) (ho : ∀ k, own x k → k < h0.n) : ∀ (m n : Nat) (s : Fr) (h : Hp) (o : CV) (cs : List CV), n + m = a.length → s.at 0 = x → s.at 2 = o → s.at 11 = .nu .i64 (.ofNat a.length) → s.at 12 = .nu .i64 (.ofNat n) → s.at ai = .undef → HpOk h → Same h0.n h0 h → Own h0.n h 46 o cs (fG a n) → (∀ c ∈ cs, ∀ k, own c k → k < h.n) →
  ∃ s' h' o' cs', fT K [1, 1, 0, 1, 0] s h (.exit 0) s' h' ∧ s'.at 2 = o' ∧ s'.at ai = .undef ∧ HpOk h' ∧ Same h0.n h0 h' ∧ Own h0.n h' 46 o' cs' (eT a) ∧ (∀ c ∈ cs', ∀ k, own c k → k < h'.n) := by
 intro m
 induction m with
 | zero =>
  intro n s h o cs hm s0 s2 s11 s12 hs ok S O oc
  have : n = a.length := by omega
  subst this
  exact ⟨_, h, o, cs, aH (ut H.hk H.prim PD s12 s11 (bu (Nat.le_refl _))) (by simp), s2, hs, ok, S, O, oc⟩
 | succ m ih =>
  intro n s h o cs hm s0 s2 s11 s12 hs ok S O oc
  have hfl := kY ha n
  have hsl := tQ ha (n + 1)
  have hx' : Row h x (ah a) := hx.mono S bX (Nat.le_refl _)
  let h1 : Hp := (h.push (.cells [x] 0 46)).push (.cells [.nu .i64 (.ofNat (n + 1))] 0 3)
  have g1 : ∀ k, k < h.n → h1.get k = h.get k := fun k hk => by
   show (((h.push _).push _).get k) = _
   rw [ag, if_neg (by show k ≠ h.n + 1; omega), ag, if_neg (by omega)]
  have S1 : Same h.n h h1 := (Same.push (Nat.le_refl _) _).trans (Same.push (by show h.n ≤ h.n + 1; omega) _)
  have aX : HpOk h1 := (ok.push _).push _
  have c1 := wq H PD (h := h) (x := x) (n := n + 1) hx'.one
  have gn : h1.get (h.n + 1) = .cells [.nu .i64 (.ofNat (n + 1))] 0 3 := by
   show (((h.push _).push _).get (h.n + 1)) = _
   rw [ag]; exact if_pos rfl
  have gs : h1.get h.n = .cells [x] 0 46 := by
   show (((h.push _).push _).get h.n) = _
   rw [ag, if_neg (by show h.n ≠ h.n + 1; omega), ag]; exact if_pos rfl
  have hn0 := S.n
  obtain ⟨o', cs', h2, c2, O2, oc2, S2, bz⟩ := wt H PD PY (N := h0.n) (h := h1) (o := o) (x := x) (cs := cs) (l := fG a n) (a := a) (n := n + 1) (kn := h.n + 1) (ks := h.n) aX (by show h0.n ≤ h.n + 1 + 1; omega) (O.mono S1 ok) (fun c hc k hk => by have := oc c hc k hk; show k < h.n + 1 + 1; omega) (by omega) (by omega) (by omega) gn gs (hx'.mono S1 ok (Nat.le_refl _)) ho
  have S12 : Same h0.n h0 h2 := (S.trans (S1.le hn0)).trans S2
  obtain ⟨s1, r1, t0, t2, t11, t12, ts⟩ : ∃ s1, fT K [1, 1, 0, 1, 0, 0] s h .normal s1 h2 ∧ s1.at 0 = x ∧ s1.at 2 = o' ∧ s1.at 11 = .nu .i64 (.ofNat a.length) ∧ s1.at 12 = .nu .i64 (.ofNat (n + 1)) ∧ s1.at ai = .undef :=
   ⟨_, ur H.hk H.prim PD s12 s11 s2 s0 (aV (by omega)) (cI (by omega)) c1 c2, s0, rfl, s11, rfl, hs⟩
  obtain ⟨s', h', o3, cs3, r', q1, q2, q3, q4, q5, q6⟩ := ih (n + 1) s1 h2 o' cs' (by omega) t0 t2 t11 t12 ts bz S12 (by rw [nU]; exact O2) oc2
  exact ⟨s', h', o3, cs3, Runs.loop r1 r', q1, q2, q3, q4, q5, q6⟩
theorem wv (H : Std K) (PD : cj K) (PY : da K) (h70 : ∀ args h, K.spec 70 args h = none) {h : Hp} (ok : HpOk h) {a : List Int} (hok : OkS a) {x : CV} (hx : Row h x (ah a)) (ho : ∀ k, own x k → k < h.n) :
  ∃ o cs h', Comes K 70 [x] h (.tup [o, .nu .i64 0]) h' ∧ Own h.n h' 46 o cs (eT a) ∧ (∀ c ∈ cs, ∀ k, own c k → k < h'.n) ∧ Same h.n h h' ∧ HpOk h' := by
 have hf : K.P.funcs[70]? = some Tryz.f70 := by rw [H.hP]; exact Tryz.func70
 have hlen := cA H hx
 rw [aw] at hlen
 obtain ⟨s1, r1, a0, a2, as1⟩ : ∃ s1, fT K [0] (entry 0 [x]) h .normal s1 h ∧ s1.at 0 = x ∧ s1.at 2 = .nils ∧ s1.at ai = .undef := ⟨_, Bg H.hk, rfl, rfl, rfl⟩
 obtain ⟨s2, r2, b0, b2, bs⟩ : ∃ s2, fT K [1, 0] s1 h .normal s2 h ∧ s2.at 0 = x ∧ s2.at 2 = .nils ∧ s2.at ai = .undef :=
  ⟨_, Bo H.hk H.prim PD a0 (cX H hok hx) (by rw [nG, ip rfl]; rfl), a0, a2, as1⟩
 obtain ⟨s3, r3, c0, c2, c11, c12, cs⟩ : ∃ s3, fT K [1, 1, 0, 0] s2 h .normal s3 h ∧ s3.at 0 = x ∧ s3.at 2 = .nils ∧ s3.at 11 = .nu .i64 (.ofNat a.length) ∧ s3.at 12 = .nu .i64 (.ofNat 0) ∧ s3.at ai = .undef :=
  ⟨_, J8 H.hk b0 hlen, b0, b2, rfl, rfl, bs⟩
 obtain ⟨s4, h', o, xs, r4, d2, ds, ok', S', O', oc'⟩ := wu H PD PY ok hok.le hx ho a.length 0 s3 h .nils [] (by omega) c0 c2 c11 c12 cs ok (Same.refl _ _) Own.nil (by simp)
 exact ⟨o, xs, h', ck hf rfl (H.memo 70 (by decide)) h70 rfl (Runs.seq r1 (Runs.seq r2 (Runs.seq (Runs.seq r3 (aS r4)) (D0 H.hk H.prim PD d2)))) (.inr rfl) S'.n ds rfl rfl, O', oc', S', ok'⟩
theorem zC (H : Std K) (PD : cj K) (h70 : ∀ args h, K.spec 70 args h = none) {h : Hp} {a : List Int} (hbig : a.length < 4611686018427387904) (he : bZ a ≠ 0) {x : CV} (hx : Row h x (ah a)) : Comes K 70 [x] h (.tup [.nils, .nu .i64 (bZ a)]) h := by
 have hf : K.P.funcs[70]? = some Tryz.f70 := by rw [H.hP]; exact Tryz.func70
 obtain ⟨s1, r1, a0, as1⟩ : ∃ s1, fT K [0] (entry 0 [x]) h .normal s1 h ∧ s1.at 0 = x ∧ s1.at ai = .undef := ⟨_, Bg H.hk, rfl, rfl⟩
 exact ck hf rfl (H.memo 70 (by decide)) h70 rfl (Runs.seq r1 (aE (Bm H.hk H.prim PD a0 (iN H hbig hx) (by rw [nG, gN he]; rfl)) (by simp))) (.inr rfl) (Nat.le_refl _) as1 rfl rfl
end
theorem ww {s : List Int} : ∀ {a : List Int} {n : Nat}, s ∈ cD a n ↔ s.Sublist a ∧ s.length = n
 | a, 0 => by
  rw [nT, List.mem_singleton]
  constructor
  · rintro rfl; exact ⟨List.nil_sublist _, rfl⟩
  · rintro ⟨_, h⟩; exact List.eq_nil_of_length_eq_zero h
 | [], n + 1 => by
  simp only [cD, List.not_mem_nil, List.sublist_nil, false_iff, not_and]
  rintro rfl; simp
 | x :: a, n + 1 => by
  simp only [cD, List.mem_append, List.mem_map, ww (a := a)]
  constructor
  · rintro (⟨t, ⟨h1, h2⟩, rfl⟩ | ⟨h1, h2⟩)
    · exact ⟨h1.cons_cons x, by simp [h2]⟩
    · exact ⟨h1.cons x, h2⟩
  · rintro ⟨h1, h2⟩
    cases h1 with
    | cons _ h1 => exact .inr ⟨h1, h2⟩
    | cons_cons _ h1 => exact .inl ⟨_, ⟨h1, by simpa using h2⟩, rfl⟩
theorem qM {a s : List Int} : s ∈ eT a ↔ s.Sublist a ∧ s ≠ [] := by
 unfold eT fG
 simp only [List.mem_flatMap, List.mem_range, ww]
 constructor
 · rintro ⟨n, hn, h1, h2⟩
   exact ⟨h1, by rintro rfl; simp at h2⟩
 · rintro ⟨h1, h2⟩
   have := h1.length_le
   have : 0 < s.length := List.length_pos_iff.2 h2
   exact ⟨s.length - 1, by omega, h1, by omega⟩
theorem OkS.face {a s : List Int} (h : OkS a) (hs : s ∈ eT a) : OkS s := by
 obtain ⟨h1, h2⟩ := qM.1 hs
 exact ⟨h2, Nat.le_trans h1.length_le h.le, fun v hv => h.rng v (h1.subset hv), h.asc.sublist h1⟩
def iW : List (List Int) → Int
 | [] => 0
 | a :: l => if bZ a ≠ 0 then bZ a else iW l
theorem tR : ∀ {l : List (List Int)}, iW l = 0 ↔ ∀ a ∈ l, OkS a
 | [] => by simp [iW]
 | a :: l => by
  simp only [iW, List.mem_cons, forall_eq_or_imp]
  by_cases h : bZ a = 0
  · rw [if_neg (fun hn => hn h), tR (l := l)]
    exact ⟨fun h1 => ⟨cJ.1 h, h1⟩, fun h1 => h1.2⟩
  · rw [if_pos h]
    exact ⟨fun h1 => absurd h1 h, fun h1 => absurd (cJ.2 h1.1) h⟩
theorem yv : ∀ {l : List (List Int)} {i : Nat} (hi : i < l.length), (∀ a ∈ l.take i, OkS a) → bZ l[i] ≠ 0 → iW l = bZ l[i]
 | a :: l, 0, _, _, he => by simp only [List.getElem_cons_zero] at he ⊢; rw [iW, if_pos he]
 | a :: l, i + 1, hi, ho, he => by
  simp only [List.getElem_cons_succ] at he ⊢
  have h1 := cJ.2 (ho a (by simp))
  rw [iW, if_neg (fun hn => hn h1)]
  exact yv (by simpa using hi) (fun b hb => ho b (by simp [hb])) he
def er (l : List (List Int)) : List (List Int) := fP (l.flatMap eT)
theorem zD {l : List (List Int)} {s : List Int} : s ∈ er l ↔ ∃ a ∈ l, s.Sublist a ∧ s ≠ [] := by
 unfold er
 rw [kc, List.mem_flatMap]
 simp only [qM]
def kZ (l : List (List Int)) : Int := if 1024 < l.length then 3 else if iW l ≠ 0 then iW l else if 1024 < (er l).length then 3 else 0
theorem Row.mp {h : Hp} {x : CV} {cs : List CV} {km : Nat} {es : List (CV × CV)} (r : Row h x cs) (hg : h.get km = .mp es) (b : HB) : Row (h.set km b) x cs := by
 cases r with
 | nils => exact .nils
 | sle => exact .sle
 | none k o c => exact .none k o c
 | @some k o c cs hne hs hc hf =>
  have hk : k ≠ km := by rintro rfl; rw [hg] at hs; simp [bk] at hs
  have e : (h.set km b).get k = h.get k := by rw [Hp.get_set, if_neg hk]
  exact .some hne (by rw [e]; exact hs) hc (by rw [e]; exact hf)
theorem Rows.mp {h : Hp} {xs : List CV} {l : List (List Int)} {km : Nat} {es : List (CV × CV)} (r : Rows h xs l) (hg : h.get km = .mp es) (b : HB) : Rows (h.set km b) xs l := by
 induction r with
 | nil => exact .nil
 | cons hx _ ih => exact .cons (hx.mp hg b) ih
theorem Ir {h : Hp} (ok : HpOk h) {x : CV} {cs : List CV} (r : Row h x cs) (hne : cs ≠ []) : ∀ k, own x k → k < h.n := by
 intro k hk
 cases r with
 | nils => exact hk.elim
 | sle => exact hk.elim
 | none j o c => exact absurd rfl hne
 | @some j o c cs hn hs hc hf =>
  have : k = j := hk
  subst this
  rcases Nat.lt_or_ge k h.n with h1 | h1
  · exact h1
  · exact absurd (ok k h1) (gL hs)
def Wr (N : Nat) (h : Hp) (c : CV) : Prop := ∃ k n cs m, c = .sl k 0 n n ∧ N ≤ k ∧ k < h.n ∧ h.get k = .cells cs m 3 ∧ cs.length = n
theorem Wr.low {N M : Nat} {h : Hp} {c : CV} (hMN : M ≤ N) : Wr N h c → Wr M h c
 | ⟨k, n, cs, m, e, h1, h2, h3, h4⟩ => ⟨k, n, cs, m, e, by omega, h2, h3, h4⟩
theorem K6 {h : Hp} {l : List (List Int)} {cs : List CV} (O : Own h.n (bw l h).2 46 (bw l h).1 cs l) : ∀ c ∈ cs, Wr h.n (bw l h).2 c := by
 cases hq : l with
 | nil =>
  subst hq
  have := O.rows.length
  intro c hc
  rw [List.eq_nil_of_length_eq_zero this] at hc; cases hc
 | cons a0 l0 =>
  rw [← hq]
  have hlr : bw l h = (.sl (aJ l h).2.n 0 l.length l.length, (aJ l h).2.push (.cells (aJ l h).1 1 46)) := by rw [hq]; rfl
  have hn := gF l h
  obtain ⟨hfl, hfg⟩ := iw l h
  have hcs : cs = (aJ l h).1 := by
   have hg : (bw l h).2.get (aJ l h).2.n = .cells (aJ l h).1 1 46 := by rw [hlr, ag, if_pos rfl]
   have hO := O.out
   rw [hlr] at hO
   generalize hy : CV.sl (aJ l h).2.n 0 l.length l.length = y at hO
   cases hO with
   | nils => cases hy
   | some h1 h2 h3 h4 =>
    injection hy with hk _ _ _
    rw [← hk, ag, if_pos rfl] at h4
    injection h4 with h4; exact h4.symm
  intro c hc
  rw [hcs] at hc
  obtain ⟨i, hi, rfl⟩ := List.getElem_of_mem hc
  have hi2 : i < l.length := by omega
  refine ⟨h.n + i, l[i].length, ah l[i], 1, hfg i hi hi2, by omega, ?_, ?_, aw _⟩
  · rw [hlr]; show h.n + i < (aJ l h).2.n + 1; omega
  · rw [hlr]
    show ((aJ l h).2.push _).get (h.n + i) = _
    rw [ag, if_neg (by omega)]; exact iu l h i hi2
section
variable {K : Ctx} {h : Hp}
theorem CD (H : Std K) (T : fx K) (ok : HpOk h) {km : Nat} {es : List (CV × CV)} {ls : List (List Int)} (hg : h.get km = .mp es) (M : MapR h es ls) (hfew : ls.length ≤ 1024) : fV K 72 [.mp km] h fun r h' => ∃ cs, Own h.n h' 46 r cs (fP ls) ∧ ∀ c ∈ cs, Wr h.n h' c := by
 have hl : es.length = ls.length := by have := congrArg List.length M.key; simpa using this
 have hs : K.spec 72 [.mp km] h = some (bw (fP ls) h) := by
  rw [T]
  have h1 : Nat.ble es.length 1024 = true := Nat.ble_eq_true_of_le (by omega)
  simp only [oJ, hg, sP, h1, ph M.rows M.ok, tO M.nd]
 obtain ⟨S, ok', cs, O⟩ := Iq ok (l := fP ls)
 exact ⟨_, _, Comes.told (H.memo 72 (by decide)) hs, S, ok', cs, O, K6 O⟩
def FC (K : Ctx) (f : FuncId) (args : List CV) (h : Hp) (e : Int) (l : List (List Int)) : Prop := fV K f args h fun r h' => ∃ o ds, r = .tup [o, .nu .i64 e] ∧ Own h.n h' 46 o ds (if e = 0 then l else []) ∧ ∀ c ∈ ds, Wr h.n h' c
theorem Fails.w {f : FuncId} {args : List CV} {e : Int} {l : List (List Int)} (he : e ≠ 0) (k : Fails K f args h e) : FC K f args h e l := by
 obtain ⟨r, h', c, S, ok, hr⟩ := k
 exact ⟨r, h', c, S, ok, .nils, [], hr, by rw [if_neg he]; exact Own.nil, by simp⟩
end
section
variable {K : Ctx} {h : Hp}
theorem zE (H : Std K) (PD : cj K) {h0 : Hp} {km : Nat} (hkm : h0.n ≤ km) {ok : HpOk h} {fs : List (List Int)} (hfs : fs.length < 549755813888) (hok : ∀ a ∈ fs, OkS a) {o : CV} {cs : List CV} (ho : Row h o cs) (hcs : Rows h cs fs) (hkn : km < h.n) {es : List (CV × CV)} {ls : List (List Int)} (hg : h.get km = .mp es) (M : MapR h es ls) {x15 x16 x17 : CV} {s : Fr} (s4 : s.at 4 = .mp km) (s15 : s.at 15 = x15) (s16 : s.at 16 = x16) (s17 : s.at 17 = x17) (s29 : s.at 29 = o) (s30 : s.at 30 = .nu .i64 (.ofNat fs.length)) (s31 : s.at 31 = .nu .i64 (.ofNat 0)) (hs : s.at ai = .undef) (S0 : Same h0.n h0 h) :
  ∃ s' h' es' ls', cS K [1, 1, 1, 0, 1, 0, 0, 1, 1, 0, 0, 1, 1, 1, 1] s h .normal s' h' ∧ HpOk h' ∧ Same h0.n h0 h' ∧ km < h'.n ∧ s'.at 4 = .mp km ∧ s'.at 15 = x15 ∧ s'.at 16 = x16 ∧ s'.at 17 = x17 ∧ s'.at ai = .undef ∧ h'.get km = .mp es' ∧ MapR h' es' ls' ∧ ∀ a, a ∈ ls' ↔ a ∈ ls ∨ a ∈ fs := by
 have hcl := hcs.length
 obtain ⟨s', h', r, ok', S, hkn', p4, p15, p16, p17, ps, es', ls', hg', M', hm'⟩ := qj (K := K) (f := 25) (n := 46) (c := aD [1, 1, 1, 0, 1, 0, 0, 1, 1, 0, 0, 1, 1, 1, 1, 0, 0] (an Tryz.f25)) (s := s) (h := h) (m := fs.length) (b := 2)
  (I := fun i s g => HpOk g ∧ Same h0.n h0 g ∧ km < g.n ∧ s.at 4 = .mp km ∧ s.at 15 = x15 ∧ s.at 16 = x16 ∧ s.at 17 = x17 ∧ s.at 29 = o ∧ s.at 30 = .nu .i64 (.ofNat fs.length) ∧ s.at 31 = .nu .i64 (.ofNat i) ∧ s.at ai = .undef ∧ Row g o cs ∧ Rows g cs fs ∧ ∃ es' ls', g.get km = .mp es' ∧ MapR g es' ls' ∧ ∀ a, a ∈ ls' ↔ a ∈ ls ∨ a ∈ fs.take i)
  (E := fun s g => HpOk g ∧ Same h0.n h0 g ∧ km < g.n ∧ s.at 4 = .mp km ∧ s.at 15 = x15 ∧ s.at 16 = x16 ∧ s.at 17 = x17 ∧ s.at ai = .undef ∧ ∃ es' ls', g.get km = .mp es' ∧ MapR g es' ls' ∧ ∀ a, a ∈ ls' ↔ a ∈ ls ∨ a ∈ fs)
  ⟨ok, S0, hkn, s4, s15, s16, s17, s29, s30, s31, hs, ho, hcs, es, ls, hg, M, by simp⟩
  (fun i s g hi ⟨okg, S, hkn, g4, g15, g16, g17, g29, g30, g31, gs, hx, hxs, es1, ls1, hg1, M1, hm1⟩ => by
    obtain ⟨p, hp1, hp2⟩ := j8 H hx (i := i) (by omega)
    have hxi := hxs.get (i := i) (by omega) hi
    have okS := hok _ (List.getElem_mem hi)
    obtain ⟨h1, c71, S1, aX⟩ := pM H okg okS.le okS.rng hxi
    have hg2 : h1.get km = .mp es1 := by rw [S1.get km hkn]; exact hg1
    have hkn1 : km < h1.n := Nat.lt_of_lt_of_le hkn S1.n
    obtain ⟨es', ls', u1, M', hm'⟩ := (M1.mono S1 okg (Nat.le_refl _)).put okS (hxi.mono S1 okg (Nat.le_refl _))
    have w3 : iQ K.P h1 (.mp km) (.agg (bB fs[i])) cs[i] (ae K.P 100) = some (.undef, h1.set km (.mp es')) := by
     rw [show ae K.P 100 = .map 103 46 by rw [H.hP]; exact vU]
     simp only [iQ, kH H okS.le, uC, hg2, u1, uB]
    refine ⟨_, _, jU H.hk H.prim PD g31 g30 g29 g4 (aV hi) hp1 hp2 c71 w3 (cI (by omega)), aX.set hkn1 _, (S.trans (S1.le S.n)).trans (Same.set hkm _), hkn1, g4, g15, g16, g17, g29, g30, rfl, gs, (hx.mono S1 okg (Nat.le_refl _)).mp hg2 _, (hxs.mono S1 okg (Nat.le_refl _)).mp hg2 _, es', ls', by rw [Hp.get_set, if_pos rfl], ⟨M'.key, M'.rows.mp hg2 _, M'.nd, M'.ok⟩, fun a => ?_⟩
    rw [hm', hm1, fw hi, List.mem_append, List.mem_singleton, or_assoc])
  (fun s g ⟨okg, S, hkn, g4, g15, g16, g17, g29, g30, g31, gs, hx, hxs, es1, ls1, hg1, M1, hm1⟩ =>
    ⟨_, _, jV H.hk H.prim PD g31 g30 (bu (Nat.le_refl _)), okg, S, hkn, g4, g15, g16, g17, gs, es1, ls1, hg1, M1, by rw [List.take_length] at hm1; exact hm1⟩)
 exact ⟨s', h', es', ls', r, ok', S, hkn', p4, p15, p16, p17, ps, hg', M', hm'⟩
theorem wx (H : Std K) (TT : fx K) (PD : cj K) (PY : da K) (h70 : ∀ args h, K.spec 70 args h = none) (ok : HpOk h) {l : List (List Int)} (hl : gU l) {x : CV} {cs : List CV} (hx : Row h x cs) (hxs : Rows h cs l) : FC K 25 [x] h (kZ l) (er l) := by
 have hf : K.P.funcs[25]? = some Tryz.f25 := by rw [H.hP]; exact Tryz.func25
 have hcl := hxs.length
 have hlen := fc H hx
 rw [hcl] at hlen
 obtain ⟨s0, r0, a0, as0⟩ : ∃ s0, cS K [0] (entry 0 [x]) h .normal s0 h ∧ s0.at 0 = x ∧ s0.at ai = .undef := ⟨_, JW H.hk, rfl, rfl⟩
 unfold kZ
 by_cases hbig : 1024 < l.length
 · rw [if_pos hbig]
   exact Fails.w (by decide) ⟨_, h, H.go hf (Runs.seq r0 (aE (Bk H.hk H.prim PD a0 hlen (nL (by show (1024 : Int) < Int.ofNat _; simp; omega))) (by simp))) (.inr rfl) (Nat.le_refl _) as0 rfl rfl, Same.refl _ _, ok, rfl⟩
 rw [if_neg hbig]
 obtain ⟨s1, r1, b0, bs⟩ : ∃ s1, cS K [1, 0] s0 h .normal s1 h ∧ s1.at 0 = x ∧ s1.at ai = .undef := ⟨_, Bl H.hk H.prim PD a0 hlen (sH (by simp; omega)), a0, as0⟩
 have Sp : Same h.n h (h.push (.mp [])) := Same.push (Nat.le_refl _) _
 have okp : HpOk (h.push (.mp [])) := ok.push _
 have hxp := hx.mono Sp ok (Nat.le_refl _)
 have hlen1 := fc H hxp
 rw [hcl] at hlen1
 obtain ⟨s2, r2, c0, c4, c2s⟩ : ∃ s2, cS K [1, 1, 0] s1 h .normal s2 (h.push (.mp [])) ∧ s2.at 0 = x ∧ s2.at 4 = .mp h.n ∧ s2.at ai = .undef := ⟨_, JY H.hk, b0, rfl, bs⟩
 obtain ⟨s3, r3, d4, d15, d16, d17, ds⟩ : ∃ s3, cS K [1, 1, 1, 0, 0] s2 (h.push (.mp [])) .normal s3 (h.push (.mp [])) ∧ s3.at 4 = .mp h.n ∧ s3.at 15 = x ∧ s3.at 16 = .nu .i64 (.ofNat l.length) ∧ s3.at 17 = .nu .i64 (.ofNat 0) ∧ s3.at ai = .undef := ⟨_, JZ H.hk c0 hlen1, c4, rfl, rfl, rfl, c2s⟩
 rcases dU (K := K) (f := 25) (n := 46) (c := aD [1, 1, 1, 0, 1, 0, 0] (an Tryz.f25)) (s := s3) (h := h.push (.mp [])) (m := l.length) (b := 0)
  (I := fun i s g => HpOk g ∧ Same h.n h g ∧ h.n < g.n ∧ s.at 4 = .mp h.n ∧ s.at 15 = x ∧ s.at 16 = .nu .i64 (.ofNat l.length) ∧ s.at 17 = .nu .i64 (.ofNat i) ∧ s.at ai = .undef ∧ (∀ a ∈ l.take i, OkS a) ∧ ∃ es ls, g.get h.n = .mp es ∧ MapR g es ls ∧ ∀ a, a ∈ ls ↔ a ∈ (l.take i).flatMap eT)
  (E := fun s g => HpOk g ∧ Same h.n h g ∧ h.n < g.n ∧ s.at 4 = .mp h.n ∧ s.at ai = .undef ∧ (∀ a ∈ l, OkS a) ∧ ∃ es ls, g.get h.n = .mp es ∧ MapR g es ls ∧ ∀ a, a ∈ ls ↔ a ∈ l.flatMap eT)
  (R := fun s g => HpOk g ∧ Same h.n h g ∧ s.at ai = .undef ∧ iW l ≠ 0 ∧ s.at 2 = .nils ∧ s.at 3 = .nu .i64 (iW l))
  ⟨okp, Sp, by simp, d4, d15, d16, d17, ds, by simp, [], [], by rw [ag, if_pos rfl], ⟨rfl, .nil, List.nodup_nil, by simp⟩, by simp⟩
  (fun i s g hi ⟨okg, S, hkn, g4, g15, g16, g17, gs, hoks, es, ls, hg, M, hm⟩ => by
    have hr := hx.mono S ok (Nat.le_refl _)
    obtain ⟨p, hp1, hp2⟩ := j8 H hr (i := i) (by omega)
    have hx0 := hxs.get (i := i) (by omega) hi
    have hxi := hx0.mono S ok (Nat.le_refl _)
    obtain ⟨sA, rA, e4, e15, e16, e17, e6, es6⟩ : ∃ sA, cS K [1, 1, 1, 0, 1, 0, 0, 1, 1, 0, 0, 0] (T.set s 18 (.bo true)) g .normal sA g ∧ sA.at 4 = .mp h.n ∧ sA.at 15 = x ∧ sA.at 16 = .nu .i64 (.ofNat l.length) ∧ sA.at 17 = .nu .i64 (.ofNat i) ∧ sA.at 6 = cs[i] ∧ sA.at ai = .undef := ⟨_, J0 H.hk g15 g17 hp1 hp2, g4, g15, g16, g17, rfl, gs⟩
    have rpre := Bd H.hk (K := K) (h := g) g17 g16 (aV hi)
    by_cases he : bZ l[i] = 0
    case neg =>
     have c70 := zC H PD h70 (by have := hl.each _ (List.getElem_mem hi); omega) he hxi
     have heF := yv hi hoks he
     refine .inr (.inl ⟨_, _, Runs.seq rpre (Runs.seq (Runs.condT (o := .tmp 18) (y := .exit 0) rfl Runs.skip) (aE (aG (Runs.seq rA (Runs.seq (Be (r24 := .nils) (r25 := .nu .i64 (bZ l[i])) H.hk e6 (H.prim _ _) c70 rfl rfl) (aE (lA H.hk H.prim PD rfl (ka he)) (by simp))))) (by simp))), okg, S, es6, by rw [heF]; exact he, rfl, by rw [heF]; rfl⟩)
    have hoS := cJ.1 he
    have hne := ep hoS.ne
    obtain ⟨o, fcs, h1, c70, O1, _, S1, aX⟩ := wv H PD PY h70 okg hoS hxi (Ir okg hxi hne)
    have hfl : (eT l[i]).length ≤ 160 := by have := kY hoS.le l[i].length; have := hoS.le; unfold eT; omega
    have hlo := fc H O1.out.row
    rw [O1.rows.length] at hlo
    have hkn1 : h.n < h1.n := Nat.lt_of_lt_of_le hkn S1.n
    obtain ⟨sZ, rZ, z4, z15, z16, z17, z7, z8, zs⟩ : ∃ sZ, cS K [1, 1, 1, 0, 1, 0, 0, 1, 1, 0, 0, 1, 0] sA g .normal sZ h1 ∧ sZ.at 4 = .mp h.n ∧ sZ.at 15 = x ∧ sZ.at 16 = .nu .i64 (.ofNat l.length) ∧ sZ.at 17 = .nu .i64 (.ofNat i) ∧ sZ.at 7 = o ∧ sZ.at 8 = .nu .i64 0 ∧ sZ.at ai = .undef := ⟨_, Be (r24 := o) (r25 := .nu .i64 0) H.hk e6 (H.prim _ _) c70 rfl rfl, e4, e15, e16, e17, rfl, rfl, es6⟩
    obtain ⟨sY, rY, y4, y15, y16, y17, y7, ys⟩ : ∃ sY, cS K [1, 1, 1, 0, 1, 0, 0, 1, 1, 0, 0, 1, 1, 0] sZ h1 .normal sY h1 ∧ sY.at 4 = .mp h.n ∧ sY.at 15 = x ∧ sY.at 16 = .nu .i64 (.ofNat l.length) ∧ sY.at 17 = .nu .i64 (.ofNat i) ∧ sY.at 7 = o ∧ sY.at ai = .undef := ⟨_, lB H.hk H.prim PD z8 (eM rfl), z4, z15, z16, z17, z7, zs⟩
    obtain ⟨sB, rB, f4, f15, f16, f17, f29, f30, f31, fs⟩ : ∃ sB, cS K [1, 1, 1, 0, 1, 0, 0, 1, 1, 0, 0, 1, 1, 1, 0] sY h1 .normal sB h1 ∧ sB.at 4 = .mp h.n ∧ sB.at 15 = x ∧ sB.at 16 = .nu .i64 (.ofNat l.length) ∧ sB.at 17 = .nu .i64 (.ofNat i) ∧ sB.at 29 = o ∧ sB.at 30 = .nu .i64 (.ofNat (eT l[i]).length) ∧ sB.at 31 = .nu .i64 (.ofNat 0) ∧ sB.at ai = .undef :=
     ⟨_, Hy H.hk y7 hlo, y4, y15, y16, y17, rfl, rfl, rfl, ys⟩
    obtain ⟨sC, h2, es', ls', rC, bz, S2, hkn2, q4, q15, q16, q17, qs, hg2, M2, hm2⟩ := zE H PD (h0 := h) (km := h.n) (Nat.le_refl _) (ok := aX) (fs := eT l[i]) (by omega) (fun a ha => hoS.face ha) O1.out.row O1.all hkn1 (by rw [S1.get h.n hkn]; exact hg) (M.mono S1 okg (Nat.le_refl _)) f4 f15 f16 f17 f29 f30 f31 fs (S.trans (S1.le S.n))
    refine .inl ⟨_, h2, Runs.seq rpre (Runs.seq (Runs.condT (o := .tmp 18) (y := .exit 0) rfl Runs.skip) (Runs.seq (aF (Runs.seq rA ?_)) (HD H.hk q17 (cI (by omega))))), bz, S2, hkn2, q4, q15, q16, rfl, qs, fun a ha => ?_, es', ls', hg2, M2, fun a => ?_⟩
    · exact Runs.seq rZ (Runs.seq rY (Runs.seq rB rC))
    · rw [fw hi] at ha
      rcases List.mem_append.1 ha with ha | ha
      · exact hoks a ha
      · rw [List.mem_singleton] at ha; subst ha; exact hoS
    · rw [hm2, hm, fw hi, List.flatMap_append, List.mem_append]; simp)
  (fun s g ⟨okg, S, hkn, g4, g15, g16, g17, gs, hoks, es, ls, hg, M, hm⟩ =>
    ⟨_, _, Runs.seq (Bd H.hk g17 g16 (bu (Nat.le_refl _))) (aE (Runs.condF (o := .tmp 18) (x := .skip) rfl Runs.exit) (by simp)), okg, S, hkn, g4, gs, by rw [List.take_length] at hoks; exact hoks, es, ls, hg, M, by rw [List.take_length] at hm; exact hm⟩)
  with ⟨s4, h1, r4, aX, S1, hkn, k4, ks, hoks, es, ls, hg, M, hm⟩ | ⟨s4, h1, r4, aX, S1, ks, he, k2, k3⟩
 case inr =>
  rw [if_pos he]
  refine Fails.w he ⟨_, h1, H.go hf (Runs.seq r0 (Runs.seq r1 (Runs.seq r2 (aE (Runs.seq r3 r4) (by simp))))) (.inr rfl) S1.n ks (vs := [s4.at 2, s4.at 3]) rfl rfl, S1, aX, ?_⟩
  rw [k2, k3]; rfl
 have heF := tR.2 hoks
 rw [if_neg (fun hn => hn heF)]
 have hel : es.length = ls.length := by have := congrArg List.length M.key; simpa using this
 have hun : fP ls = er l := sN (mw _) (mw _) fun a => by unfold er; rw [kc, kc, hm]
 have hul : (er l).length = ls.length := by rw [← hun, xo M.nd]
 have o42 : aB h1 (.mp h.n) (ae K.P 100) = some (.nu .i64 (.ofNat es.length)) := by
  rw [show ae K.P 100 = .map 103 46 by rw [H.hP]; exact vU]
  simp only [aB, hg, yC]
 by_cases hb2 : 1024 < (er l).length
 · rw [if_pos hb2]
   exact Fails.w (by decide) ⟨_, h1, H.go hf (Runs.seq r0 (Runs.seq r1 (Runs.seq r2 (Runs.seq (Runs.seq r3 r4) (wV H.hk H.prim PD k4 o42 (nL (by show (1024 : Int) < Int.ofNat _; simp; omega))))))) (.inr rfl) S1.n ks rfl rfl, S1, aX, rfl⟩
 · rw [if_neg hb2]
   obtain ⟨r, h4, c4', S4, ez, os, O4, W4⟩ := CD H TT aX hg M (by omega)
   rw [hun] at O4
   have Sall := S1.trans (S4.le S1.n)
   exact ⟨_, h4, H.go hf (Runs.seq r0 (Runs.seq r1 (Runs.seq r2 (Runs.seq (Runs.seq r3 r4) (wW H.hk H.prim PD k4 o42 (sH (by simp; omega)) c4'))))) (.inr rfl) Sall.n ks rfl rfl, Sall, ez, r, os, rfl, by rw [if_pos rfl]; exact O4.low S1.n, fun c hc => (W4 c hc).low S1.n⟩
theorem la (H : Std K) (TT : fx K) (PD : cj K) (PY : da K) (h70 : ∀ args h, K.spec 70 args h = none) (ok : HpOk h) {l : List (List Int)} (hl : gU l) {x : CV} {cs : List CV} (hx : Row h x cs) (hxs : Rows h cs l) : jm K 25 [x] h (kZ l) (er l) := by
 obtain ⟨r, h', c, S, ok', o, ds, hr, hO, _⟩ := wx H TT PD PY h70 ok hl hx hxs
 exact ⟨r, h', c, S, ok', o, ds, hr, hO⟩
end
end Go.CP
