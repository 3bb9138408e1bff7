import Derived.Test.YtadagifjonbmjaaGreatDoorKl2
import Derived.Test.YtadagifjonbmjaaGreatDoorKw3
import Derived.Test.YtadagifjonbmjaaGreatDoorKq0
set_option linter.all false
namespace Go.CP
open Go.Proofs
variable [LG] [HK]
section
variable {P : Program} {t : TypeId} {x y : Int}
theorem KU (h : x < y) : ac P .lss t (.nu .i64 x) (.nu .i64 y) = some (.bo true) := by rw [nE, fE h]; rfl
theorem KV (h : y ≤ x) : ac P .lss t (.nu .i64 x) (.nu .i64 y) = some (.bo false) := by rw [nE, fZ h]; rfl
theorem nL (h : y < x) : ac P .gtr t (.nu .i64 x) (.nu .i64 y) = some (.bo true) := by rw [aO, fE h]; rfl
theorem sH (h : x ≤ y) : ac P .gtr t (.nu .i64 x) (.nu .i64 y) = some (.bo false) := by rw [aO, fZ h]; rfl
theorem L9 (h : x ≤ y) : ac P .leq t (.nu .i64 x) (.nu .i64 y) = some (.bo true) := by rw [nI, fZ h]
theorem Ma (h : y < x) : ac P .leq t (.nu .i64 x) (.nu .i64 y) = some (.bo false) := by rw [nI, fE h]
theorem Ep (h : x = y) : ac P .eql t (.nu .i64 x) (.nu .i64 y) = some (.bo true) := by rw [nF, ip h]
theorem nM (h : x ≠ y) : ac P .eql t (.nu .i64 x) (.nu .i64 y) = some (.bo false) := by rw [nF, gN h]
theorem ka (h : x ≠ y) : ac P .neq t (.nu .i64 x) (.nu .i64 y) = some (.bo true) := by
 show some (CV.bo (!(eu x y))) = _
 rw [gN h]; rfl
theorem eM (h : x = y) : ac P .neq t (.nu .i64 x) (.nu .i64 y) = some (.bo false) := by
 show some (CV.bo (!(eu x y))) = _
 rw [ip h]; rfl
end
theorem ofNat_lt {a b : Nat} (h : a < b) : Int.ofNat a < Int.ofNat b := by simpa using h
theorem ofNat_le {a b : Nat} (h : a ≤ b) : Int.ofNat a ≤ Int.ofNat b := by simpa using h
theorem Er {a b : Nat} (h : a ≠ b) : Int.ofNat a ≠ Int.ofNat b := fun e => h (Int.ofNat.inj e)
theorem fw {α : Type} {l : List α} {i : Nat} (hi : i < l.length) : l.take (i + 1) = l.take i ++ [l[i]] := by rw [List.take_succ_eq_append_getElem hi]
theorem pO {α : Type} {p : α → Bool} {l : List α} {i : Nat} (hi : i < l.length) (h : (l.take i).all p = true) (hp : p l[i] = true) : (l.take (i + 1)).all p = true := by
 rw [fw hi, List.all_append, h]; simp [hp]
theorem wa {α : Type} {p : α → Bool} {l : List α} {i : Nat} (hi : i < l.length) (hp : p l[i] = false) : l.all p = false := by
 rw [List.all_eq_false]; exact ⟨_, List.getElem_mem hi, by simp [hp]⟩
theorem wb {α : Type} {p : α → Bool} {l : List α} {i : Nat} (hi : i < l.length) (h : (l.take i).any p = false) (hp : p l[i] = false) : (l.take (i + 1)).any p = false := by
 rw [fw hi, List.any_append, h]; simp [hp]
theorem yq {α : Type} {p : α → Bool} {l : List α} {i : Nat} (hi : i < l.length) (hp : p l[i] = true) : l.any p = true := List.any_eq_true.2 ⟨_, List.getElem_mem hi, hp⟩
section
variable {K : Ctx} {h : Hp}
def wc (a b : List Int) : Bool := b.all (jX a)
theorem Cl (H : Std K) {x : CV} {a : List Int} (r : Row h x (ah a)) : aB h x (ae K.P 45) = some (.nu .i64 (.ofNat a.length)) := by
 have := oD H r
 rwa [aw] at this
end
def kW (v : Int) : Bool := decide (v < 0) || decide (64 ≤ v)
def wd (a : List Int) : Bool := (List.range (a.length - 1)).all fun i => decide (a.getD i 0 < a.getD (i + 1) 0)
def nN (a : List Int) : Int := if a = [] then 1 else if 5 < a.length then 3 else if a.any kW then 1 else 0
def bZ (a : List Int) : Int := if nN a ≠ 0 then nN a else if wd a then 0 else 6
theorem we (a : List Int) : wd a = true ↔ a.Pairwise (· < ·) := by
 constructor
 · intro h
   have h1 : ∀ i (hi : i + 1 < a.length), a[i] < a[i + 1] := by
    intro i hi
    have := List.all_eq_true.1 h i (List.mem_range.2 (by omega))
    simpa [List.getD_eq_getElem?_getD, List.getElem?_eq_getElem (show i < a.length by omega), List.getElem?_eq_getElem hi] using this
   rw [List.pairwise_iff_getElem]
   intro i j hi hj hij
   obtain ⟨d, rfl⟩ : ∃ d, j = i + 1 + d := ⟨j - (i + 1), by omega⟩
   clear hij
   induction d with
   | zero => exact h1 i hj
   | succ d ih =>
    have e := ih (by omega)
    have e2 := h1 (i + 1 + d) (by omega)
    have : a[i + 1 + (d + 1)] = a[i + 1 + d + 1] := rfl
    omega
 · intro h
   refine List.all_eq_true.2 fun i hi => ?_
   have hi' := List.mem_range.1 hi
   have := List.pairwise_iff_getElem.1 h i (i + 1) (by omega) (by omega) (by omega)
   simpa [List.getD_eq_getElem?_getD, List.getElem?_eq_getElem (show i < a.length by omega), List.getElem?_eq_getElem (show i + 1 < a.length by omega)] using this
theorem Cm {v : Int} : kW v = false ↔ 0 ≤ v ∧ v < 64 := by simp [kW]
theorem nP {a : List Int} : nN a = 0 ↔ a ≠ [] ∧ a.length ≤ 5 ∧ ∀ v ∈ a, 0 ≤ v ∧ v < 64 := by
 unfold nN
 by_cases h1 : a = []
 · simp [h1]
 rw [if_neg h1]
 by_cases h2 : 5 < a.length
 · rw [if_pos h2]; constructor
   · intro h; exact absurd h (by decide)
   · rintro ⟨_, h, _⟩; omega
 rw [if_neg h2]
 cases h3 : a.any kW with
 | true =>
  rw [if_pos rfl]; constructor
  · intro h; exact absurd h (by decide)
  · rintro ⟨_, _, h⟩
    obtain ⟨v, hv, hb⟩ := List.any_eq_true.1 h3
    rw [Cm.2 (h v hv)] at hb; cases hb
 | false =>
  rw [if_neg (by simp)]
  refine ⟨fun _ => ⟨h1, by omega, fun v hv => ?_⟩, fun _ => rfl⟩
  exact Cm.1 (by simpa using List.any_eq_false.1 h3 v hv)
theorem cJ {a : List Int} : bZ a = 0 ↔ OkS a := by
 unfold bZ
 by_cases h : nN a = 0
 · rw [if_neg (by simp [h])]
   obtain ⟨h1, h2, h3⟩ := nP.1 h
   cases hs : wd a with
   | true => exact ⟨fun _ => ⟨h1, h2, h3, (we a).1 hs⟩, fun _ => rfl⟩
   | false =>
    refine ⟨fun e => absurd e (by decide), fun o => ?_⟩
    rw [(we a).2 o.asc] at hs; cases hs
 · rw [if_pos h]
   exact ⟨fun e => absurd e h, fun o => absurd (nP.2 ⟨o.ne, o.le, o.rng⟩) h⟩
section
variable {K : Ctx} {h : Hp}
theorem Cn (H : Std K) (v : Int) : Comes K 139 [.nu .i64 v] h (.bo (kW v)) h := by
 have hf : K.P.funcs[139]? = some Tryz.f139 := by rw [H.hP]; exact Tryz.func139
 by_cases h0 : v < 0
 · have : kW v = true := by simp [kW, h0]
   rw [this]
   exact H.go hf (DX H.hk H.prim H.pl (s := entry 0 [.nu .i64 v]) rfl (KU h0) rfl) (.inr rfl) (Nat.le_refl _) rfl rfl rfl
 · have o7 := pK (P := K.P) (t := 3) v 64
   have : kW v = cr 64 v := by simp [kW, h0, de]
   rw [this]
   exact H.go hf (vI H.hk H.prim H.pl (s := entry 0 [.nu .i64 v]) rfl (KV (by omega)) o7 rfl) (.inr rfl) (Nat.le_refl _) rfl rfl rfl
theorem zm (H : Std K) {a : List Int} {G : FuncId} {C : List CV} {p : Int → Bool} (hbig : a.length < 4611686018427387904) {x : CV} (ha : Row h x (ah a)) (hg : ∀ v ∈ a, Comes K G ([.nu .i64 v] ++ C) h (.bo (p v)) h) : ∃ n, Comes K 166 [x, .fn G C] h (.nu .i64 n) h ∧ cr 0 n = a.any p := by
 have hf : K.P.funcs[166]? = some Tryz.f166 := by rw [H.hP]; exact Tryz.func166
 have hlen := Cl H ha
 obtain ⟨s1, r1, k0, k1, k7, k8, ks⟩ : ∃ s1, fN K [1, 0, 0] (T.set (entry 0 [x, .fn G C]) 4 (.nu .i64 0)) h .normal s1 h ∧ s1.at 0 = x ∧ s1.at 1 = .fn G C ∧ s1.at 7 = .nu .i64 (.ofNat a.length) ∧ s1.at 8 = .nu .i64 (.ofNat 0) ∧ s1.at ai = .undef := ⟨_, xO H.hk rfl hlen, rfl, rfl, rfl, rfl, rfl⟩
 have L := dU (K := K) (f := 166) (n := 19) (c := aD [1, 0, 1, 0, 0] (an Tryz.f166)) (s := s1) (h := h) (m := a.length) (b := 0) (I := fun i s g => g = h ∧ s.at 0 = x ∧ s.at 1 = .fn G C ∧ s.at 7 = .nu .i64 (.ofNat a.length) ∧ s.at 8 = .nu .i64 (.ofNat i) ∧ s.at ai = .undef ∧ (a.take i).any p = false)
  (E := fun s g => g = h ∧ s.at ai = .undef ∧ a.any p = false) (R := fun s g => g = h ∧ s.at ai = .undef ∧ a.any p = true ∧ ∃ j : Nat, s.at 4 = .nu .i64 (.ofNat j)) ⟨rfl, k0, k1, k7, k8, ks, rfl⟩
  (fun i s g hi ⟨e, g0, g1, g7, g8, gs, hall⟩ => by
    subst e
    obtain ⟨q, hp1, hp2⟩ := zc H ha hi
    have hin := hg a[i] (List.getElem_mem hi)
    cases hq : p a[i] with
    | false =>
     rw [hq] at hin
     exact .inl ⟨_, _, lz H.hk H.prim H.pl g8 g7 g1 g0 (aV hi) hp1 hp2 rfl hin (cI (by omega)), rfl, g0, g1, g7, rfl, gs, wb hi hall hq⟩
    | true =>
     rw [hq] at hin
     exact .inr (.inl ⟨_, _, rT H.hk H.prim H.pl g8 g7 g1 g0 (aV hi) hp1 hp2 rfl hin, rfl, gs, yq hi hq, i, rfl⟩))
  (fun s g ⟨e, g0, g1, g7, g8, gs, hall⟩ => by
    subst e
    exact ⟨_, _, mK H.hk H.prim H.pl g8 g7 (bu (Nat.le_refl _)), rfl, gs, by rw [List.take_length] at hall; exact hall⟩)
 rcases L with ⟨s', h', r, rfl, hs, hv⟩ | ⟨s', h', r, rfl, hs, hv, j, hj⟩
 · rw [hv]
   exact ⟨-1, H.go hf (Runs.seq (rj H.hk) (Runs.seq (Runs.seq r1 r) (vH H.hk H.prim H.pl))) (.inr rfl) (Nat.le_refl _) hs rfl rfl, rfl⟩
 · rw [hv]
   exact ⟨.ofNat j, H.go hf (Runs.seq (rj H.hk) (aE (Runs.seq r1 r) (by simp))) (.inr rfl) (Nat.le_refl _) hs (by show some [Fr.at s' 4] = _; rw [hj]) rfl, fZ (by simp)⟩
theorem xj (H : Std K) {a : List Int} {G : FuncId} {C : List CV} {p : Int → Bool} (hbig : a.length < 4611686018427387904) {x : CV} (ha : Row h x (ah a)) (hg : ∀ v ∈ a, Comes K G ([.nu .i64 v] ++ C) h (.bo (p v)) h) : Comes K 138 [x, .fn G C] h (.bo (a.any p)) h := by
 have hf : K.P.funcs[138]? = some Tryz.f138 := by rw [H.hP]; exact Tryz.func138
 obtain ⟨n, c, hn⟩ := zm H hbig ha hg
 have o8 := pK (P := K.P) (t := 3) n 0
 rw [hn] at o8
 exact H.go hf (A8 H.hk H.prim H.pl (s := entry 0 [x, .fn G C]) rfl rfl c o8) (.inr rfl) (Nat.le_refl _) rfl rfl rfl
theorem wh (H : Std K) {a : List Int} (hbig : a.length < 4611686018427387904) {x : CV} (ha : Row h x (ah a)) : Comes K 110 [x] h (.nu .i64 (nN a)) h := by
 have hf : K.P.funcs[110]? = some Tryz.f110 := by rw [H.hP]; exact Tryz.func110
 have hlen := Cl H ha
 unfold nN
 by_cases h1 : a = []
 · rw [if_pos h1]
   exact H.go hf (DT H.hk H.prim H.pl (s := entry 0 [x]) rfl hlen (Ep (by rw [h1]; rfl))) (.inr rfl) (Nat.le_refl _) rfl rfl rfl
 have h1' : Int.ofNat a.length ≠ 0 := by
  intro e; exact h1 (List.eq_nil_of_length_eq_zero (by simpa using e))
 rw [if_neg h1]
 by_cases h2 : 5 < a.length
 · rw [if_pos h2]
   exact H.go hf (A7 H.hk H.prim H.pl (s := entry 0 [x]) rfl hlen (nM h1') (nL (by show (5 : Int) < Int.ofNat a.length; simp; omega))) (.inr rfl) (Nat.le_refl _) rfl rfl rfl
 rw [if_neg h2]
 have hle : Int.ofNat a.length ≤ 5 := by simp; omega
 have c := xj H hbig ha (G := 139) (C := []) fun v _ => Cn H v
 cases h3 : a.any kW with
 | true =>
  rw [h3] at c
  exact H.go hf (y0 H.hk H.prim H.pl (s := entry 0 [x]) rfl hlen (nM h1') (sH hle) c) (.inr rfl) (Nat.le_refl _) rfl rfl rfl
 | false =>
  rw [h3] at c
  exact H.go hf (qt H.hk H.prim H.pl (s := entry 0 [x]) rfl hlen (nM h1') (sH hle) c) (.inr rfl) (Nat.le_refl _) rfl rfl rfl
theorem mr {a : List Int} {i : Nat} (hi : i < a.length) : a.getD i 0 = a[i] := by rw [List.getD_eq_getElem?_getD, List.getElem?_eq_getElem hi]; rfl
theorem iN (H : Std K) {a : List Int} (hbig : a.length < 4611686018427387904) {x : CV} (ha : Row h x (ah a)) : Comes K 66 [x] h (.nu .i64 (bZ a)) h := by
 have hf : K.P.funcs[66]? = some Tryz.f66 := by rw [H.hP]; exact Tryz.func66
 have cv := wh H hbig ha
 unfold bZ
 by_cases h0 : nN a = 0
 · rw [if_neg (by simp [h0])]
   rw [h0] at cv
   obtain ⟨hne, hle, _⟩ := nP.1 h0
   have hl : 1 ≤ a.length := by cases hq : a with | nil => exact absurd hq hne | cons => simp
   obtain ⟨y, hy1, hy2⟩ := oF H hne ha (lo := some (.nu .i64 1)) (hi := none) (i := 1) (j := a.length) rfl rfl hl (Nat.le_refl _)
   have ht : (a.drop 1).take (a.length - 1) = a.drop 1 := List.take_of_length_le (by simp)
   rw [ht] at hy2
   have hlen := cA H hy2
   rw [aw, List.length_drop] at hlen
   obtain ⟨s0, r0, j0, js⟩ : ∃ s1, fq K [1, 0] (T.set (entry 0 [x]) 2 (.nu .i64 0)) h .normal s1 h ∧ s1.at 0 = x ∧ s1.at ai = .undef := ⟨_, tj H.hk H.prim H.pl rfl cv rfl, rfl, rfl⟩
   obtain ⟨s1, r1, k0, k12, k13, k14, ks⟩ : ∃ s2, fq K [1, 1, 0, 0] s0 h .normal s2 h ∧ s2.at 0 = x ∧ s2.at 12 = y ∧ s2.at 13 = .nu .i64 (.ofNat (a.length - 1)) ∧ s2.at 14 = .nu .i64 (.ofNat 0) ∧ s2.at ai = .undef := ⟨_, Ay H.hk j0 hy1 hlen, j0, rfl, rfl, rfl, js⟩
   have L := dU (K := K) (f := 66) (n := 26) (c := aD [1, 1, 0, 1, 0, 0] (an Tryz.f66)) (s := s1) (h := h) (m := a.length - 1) (b := 0) (I := fun i s g => g = h ∧ s.at 0 = x ∧ s.at 12 = y ∧ s.at 13 = .nu .i64 (.ofNat (a.length - 1)) ∧ s.at 14 = .nu .i64 (.ofNat i) ∧ s.at ai = .undef ∧ ((List.range (a.length - 1)).take i).all (fun i => decide (a.getD i 0 < a.getD (i + 1) 0)) = true)
    (E := fun s g => g = h ∧ s.at ai = .undef ∧ wd a = true) (R := fun s g => g = h ∧ s.at ai = .undef ∧ wd a = false ∧ s.at 2 = .nu .i64 6) ⟨rfl, k0, k12, k13, k14, ks, rfl⟩
    (fun i s g hi ⟨e, g0, g12, g13, g14, gs, hall⟩ => by
      subst e
      have hi1 : i < (a.drop 1).length := by simp; omega
      obtain ⟨p, hp1, hp2⟩ := gM H ha (i := i) (by omega)
      obtain ⟨q, hq1, hq2⟩ := gM H hy2 hi1
      have e1 : (a.drop 1)[i] = a[i + 1]'(by omega) := by rw [List.getElem_drop]; congr 1; omega
      rw [e1] at hq2
      by_cases hlt : a[i]'(by omega) < a[i + 1]'(by omega)
      · exact .inl ⟨_, _, ly H.hk H.prim H.pl g14 g13 g12 g0 (aV hi) hq1 hq2 hp1 hp2 (Ma hlt) (cI (by omega)), rfl, g0, g12, g13, rfl, gs, pO (by simpa using hi) hall (by simp only [List.getElem_range, mr (show i < a.length by omega), mr (show i + 1 < a.length by omega), hlt, decide_true])⟩
      · exact .inr (.inl ⟨_, _, rO H.hk H.prim H.pl g14 g13 g12 g0 (aV hi) hq1 hq2 hp1 hp2 (L9 (by omega)), rfl, gs, wa (i := i) (by simpa using hi) (by simp only [List.getElem_range, mr (show i < a.length by omega), mr (show i + 1 < a.length by omega), hlt, decide_false]), rfl⟩))
    (fun s g ⟨e, g0, g12, g13, g14, gs, hall⟩ => by
      subst e
      exact ⟨_, _, mJ H.hk H.prim H.pl g14 g13 (bu (Nat.le_refl _)), rfl, gs, by rw [List.take_of_length_le (by simp)] at hall; exact hall⟩)
   rcases L with ⟨s', h', r, rfl, hs, hv⟩ | ⟨s', h', r, rfl, hs, hv, h2⟩
   · rw [hv]
     exact H.go hf (Runs.seq (qm H.hk) (Runs.seq r0 (Runs.seq (Runs.seq r1 r) (vE H.hk H.prim H.pl)))) (.inr rfl) (Nat.le_refl _) hs rfl rfl
   · rw [hv]
     exact H.go hf (Runs.seq (qm H.hk) (Runs.seq r0 (aE (Runs.seq r1 r) (by simp)))) (.inr rfl) (Nat.le_refl _) hs (by show some [Fr.at s' 2] = _; rw [h2]) rfl
 · rw [if_pos h0]
   exact H.go hf (Runs.seq (qm H.hk) (aE (A0 H.hk H.prim H.pl rfl cv (ka h0)) (by simp))) (.inr rfl) (Nat.le_refl _) rfl rfl rfl
theorem zn (H : Std K) {a : List Int} (hbig : a.length < 4611686018427387904) (hbad : bZ a ≠ 0) {x : CV} (ha : Row h x (ah a)) : Comes K 73 [x] h (.tup [.nils, .nu .i64 (bZ a)]) h := by
 have hf : K.P.funcs[73]? = some Tryz.f73 := by rw [H.hP]; exact Tryz.func73
 exact H.go hf (Runs.seq (vj H.hk) (aE (yV H.hk H.prim H.pl rfl (iN H hbig ha) (ka hbad) rfl) (by simp))) (.inr rfl) (Nat.le_refl _) rfl rfl rfl
end
structure gU (l : List (List Int)) : Prop where
 len : l.length < 549755813888
 each : ∀ a ∈ l, a.length < 549755813888
section
variable {K : Ctx} {h : Hp}
def qH (l m : List (List Int)) : Bool := decide (l.length = m.length) && (List.range l.length).all fun i => decide (l.getD i [] = m.getD i [])
theorem Co {l m : List (List Int)} : qH l m = true ↔ l = m := by
 constructor
 · intro h
   unfold qH at h
   rw [Bool.and_eq_true, decide_eq_true_iff] at h
   refine List.ext_getElem h.1 fun i h1 h2 => ?_
   have := List.all_eq_true.1 h.2 i (List.mem_range.2 h1)
   simpa [List.getD_eq_getElem?_getD, List.getElem?_eq_getElem h1, List.getElem?_eq_getElem h2] using this
 · rintro rfl
   unfold qH
   simp
theorem nQ {l : List (List Int)} {i : Nat} (hi : i < l.length) : l.getD i [] = l[i] := by rw [List.getD_eq_getElem?_getD, List.getElem?_eq_getElem hi]; rfl
theorem zo (H : Std K) (PB : eo K) {l m : List (List Int)} (hl : l.length < 4611686018427387904) (hm : ∀ a ∈ l, a.length < 4611686018427387904) {x y : CV} {cs ds : List CV} (hx : Row h x cs) (hxs : Rows h cs l) (hy : Row h y ds) (hys : Rows h ds m) : Comes K 23 [x, y] h (.bo (qH l m)) h := by
 have hf : K.P.funcs[23]? = some Tryz.f23 := by rw [H.hP]; exact Tryz.func23
 have hlen := fc H hx
 have hlem := LK H hy
 have hcl := hxs.length
 have hcm := hys.length
 rw [hcl] at hlen
 rw [hcm] at hlem
 unfold qH
 by_cases h1 : l.length ≠ m.length
 · simp only [h1, decide_false, Bool.false_and]
   exact H.go hf (Runs.seq (vO H.hk) (aE (BY H.hk H.prim PB rfl rfl hlen hlem (ka (Er h1))) (by simp))) (.inr rfl) (Nat.le_refl _) rfl rfl rfl
 replace h1 : l.length = m.length := Decidable.not_not.1 h1
 simp only [h1, decide_true, Bool.true_and]
 obtain ⟨sa, ra, a0, a1, as'⟩ : ∃ s1, ja K [1, 0] (T.set (entry 0 [x, y]) 4 (.bo false)) h .normal s1 h ∧ s1.at 0 = x ∧ s1.at 1 = y ∧ s1.at ai = .undef := ⟨_, BZ H.hk H.prim PB rfl rfl hlen hlem (eM (by rw [h1])), rfl, rfl, rfl⟩
 have L := dU (K := K) (f := 23) (n := 27) (c := aD [1, 1, 0, 1, 0, 0] (an Tryz.f23)) (s := T.set sa 5 (.nu .i64 0)) (h := h) (m := m.length) (b := 0) (I := fun i s g => g = h ∧ s.at 0 = x ∧ s.at 1 = y ∧ s.at 5 = .nu .i64 (.ofNat i) ∧ s.at ai = .undef ∧ ((List.range m.length).take i).all (fun i => decide (l.getD i [] = m.getD i [])) = true)
  (E := fun s g => g = h ∧ s.at ai = .undef ∧ (List.range m.length).all (fun i => decide (l.getD i [] = m.getD i [])) = true) (R := fun s g => g = h ∧ s.at ai = .undef ∧ (List.range m.length).all (fun i => decide (l.getD i [] = m.getD i [])) = false ∧ s.at 4 = .bo false) ⟨rfl, a0, a1, rfl, as', rfl⟩
  (fun i s g hi ⟨e, g0, g1, g5, gs, hall⟩ => by
    subst e
    obtain ⟨p, hp1, hp2⟩ := j8 H hx (i := i) (by omega)
    obtain ⟨q, hq1, hq2⟩ := L3 H hy (i := i) (by omega)
    have hr := hxs.get (i := i) (by omega) (by omega)
    have hr' := hys.get (i := i) (by omega) (by omega)
    have c := tu H (hm l[i] (List.getElem_mem (by omega))) hr hr'
    by_cases hq : l[i]'(by omega) = m[i]
    · exact .inl ⟨_, _, sm H.hk H.prim PB g5 g0 g1 hlen (aV (by omega)) hp1 hp2 hr.ceq hq1 hq2 c (eM ((ew _ _).2 hq)) (cI (by omega)), rfl, g0, g1, rfl, gs, pO (by simpa using hi) hall (by simp only [List.getElem_range, nQ (show i < l.length by omega), nQ hi, hq, decide_true])⟩
    · exact .inr (.inl ⟨_, _, sj H.hk H.prim PB g5 g0 g1 hlen (aV (by omega)) hp1 hp2 hr.ceq hq1 hq2 c (ka fun e => hq ((ew _ _).1 e)), rfl, gs, wa (i := i) (by simpa using hi) (by simp only [List.getElem_range, nQ (show i < l.length by omega), nQ hi, hq, decide_false]), rfl⟩))
  (fun s g ⟨e, g0, g1, g5, gs, hall⟩ => by
    subst e
    exact ⟨_, _, uv H.hk H.prim PB g5 g0 hlen (bu (by omega)), rfl, gs, by rw [List.take_of_length_le (by simp)] at hall; exact hall⟩)
 rcases L with ⟨s', h', r, rfl, hs, hv⟩ | ⟨s', h', r, rfl, hs, hv, h4⟩
 · rw [hv]
   exact H.go hf (Runs.seq (vO H.hk) (Runs.seq ra (Runs.seq (Runs.seq (BW H.hk) r) (Ed H.hk H.prim PB)))) (.inr rfl) (Nat.le_refl _) hs rfl rfl
 · rw [hv]
   exact H.go hf (Runs.seq (vO H.hk) (Runs.seq ra (aE (Runs.seq (BW H.hk) r) (by simp)))) (.inr rfl) (Nat.le_refl _) hs (by show some [Fr.at s' 4] = _; rw [h4]) rfl
theorem Mb {P : Program} {t : TypeId} {n : Nat} (hn : n < 9223372036854775807) : ac P .sub t (.nu .i64 (.ofNat n)) (.nu .i64 1) = some (.nu .i64 (Int.ofNat n - 1)) := by
 show some (fK .i64 (Int.ofNat n - 1)) = _
 rw [dO]; exact congrArg _ (congrArg _ (Fx (by have : (0 : Int) ≤ Int.ofNat n := Int.natCast_nonneg n; omega) (by simp; omega)))
def oH (d : Int) (a : List Int) : Bool := decide (Int.ofNat a.length - 1 ≤ d)
end
def cY (l : List (List Int)) (i : Nat) : Int :=
 if bZ (l.getD i []) ≠ 0 then bZ (l.getD i [])
 else if 0 < i ∧ aZ (l.getD i []) (l.getD (i - 1) []) = 0 then 5
 else if 0 < i ∧ aZ (l.getD i []) (l.getD (i - 1) []) < 0 then 6
 else if (bW (l.getD i [])).all (fun f => decide (f ∈ l)) then 0 else 7
def mt (l : List (List Int)) : Nat → Nat → Int
 | 0, _ => 0
 | n + 1, i => if cY l i ≠ 0 then cY l i else mt l n (i + 1)
def cd (l : List (List Int)) : Int := if 1024 < l.length then 3 else mt l l.length 0
theorem Cp {l : List (List Int)} : ∀ (n i k : Nat), i ≤ k → k < i + n → (∀ j, i ≤ j → j < k → cY l j = 0) → cY l k ≠ 0 → mt l n i = cY l k := by
 intro n
 induction n with
 | zero => intro i k h1 h2; omega
 | succ n ih =>
  intro i k h1 h2 h3 h4
  rcases Nat.eq_or_lt_of_le h1 with rfl | hlt
  · rw [mt, if_pos h4]
  · rw [mt, if_neg (by simp [h3 i (Nat.le_refl _) hlt])]
    exact ih (i + 1) k hlt (by omega) (fun j hj => h3 j (by omega)) h4
theorem Il {l : List (List Int)} : ∀ (n i : Nat), (∀ j, i ≤ j → j < i + n → cY l j = 0) → mt l n i = 0 := by
 intro n
 induction n with
 | zero => intro i _; rfl
 | succ n ih =>
  intro i h
  rw [mt, if_neg (by simp [h i (Nat.le_refl _) (by omega)])]
  exact ih (i + 1) fun j h1 h2 => h j (by omega) (by omega)
theorem Cq {l : List (List Int)} : ∀ (n i : Nat), mt l n i = 0 → ∀ j, i ≤ j → j < i + n → cY l j = 0 := by
 intro n
 induction n with
 | zero => intro i _ j h1 h2; omega
 | succ n ih =>
  intro i h j h1 h2
  rw [mt] at h
  by_cases h0 : cY l i = 0
  · rw [if_neg (by simp [h0])] at h
    rcases Nat.eq_or_lt_of_le h1 with rfl | hlt
    · exact h0
    · exact ih (i + 1) h j hlt (by omega)
  · rw [if_pos h0] at h; exact absurd h h0
section
variable {K : Ctx} {h : Hp}
theorem zp {l : List (List Int)} {i : Nat} (h1 : bZ (l.getD i []) = 0) (h2 : 0 < i → aZ (l.getD i []) (l.getD (i - 1) []) ≠ 0 ∧ ¬ aZ (l.getD i []) (l.getD (i - 1) []) < 0) : cY l i = if (bW (l.getD i [])).all (fun f => decide (f ∈ l)) then 0 else 7 := by
 unfold cY
 rw [if_neg (fun hn => hn h1), if_neg (fun h => (h2 h.1).1 h.2), if_neg (fun h => (h2 h.1).2 h.2)]
end
end Go.CP
