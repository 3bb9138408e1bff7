import Derived.Test.YtadagifjonbmjaaGreatDoorKl2
import Derived.Test.YtadagifjonbmjaaGreatDoorKw3
import Derived.Test.YtadagifjonbmjaaGreatDoorKq0
set_option linter.all false
namespace Go.CP
open Go.Proofs
variable [LG] [HK]
section
variable {P : Program} {t : TypeId} {x y : Int}
theorem Me (h : x < y) : ab P .lss t (.nu .i64 x) (.nu .i64 y) = some (.bo true) := by rw [li, iu h]; rfl
theorem Mf (h : y ≤ x) : ab P .lss t (.nu .i64 x) (.nu .i64 y) = some (.bo false) := by rw [li, ir h]; rfl
theorem mL (h : y < x) : ab P .gtr t (.nu .i64 x) (.nu .i64 y) = some (.bo true) := by rw [aP, iu h]; rfl
theorem qf (h : x ≤ y) : ab P .gtr t (.nu .i64 x) (.nu .i64 y) = some (.bo false) := by rw [aP, ir h]; rfl
theorem Nq (h : x ≤ y) : ab P .leq t (.nu .i64 x) (.nu .i64 y) = some (.bo true) := by rw [tw, ir h]
theorem Nr (h : y < x) : ab P .leq t (.nu .i64 x) (.nu .i64 y) = some (.bo false) := by rw [tw, iu h]
theorem AJ (h : x = y) : ab P .eql t (.nu .i64 x) (.nu .i64 y) = some (.bo true) := by rw [iW, jq h]
theorem ol (h : x ≠ y) : ab P .eql t (.nu .i64 x) (.nu .i64 y) = some (.bo false) := by rw [iW, jr h]
theorem om (h : x ≠ y) : ab P .neq t (.nu .i64 x) (.nu .i64 y) = some (.bo true) := by
 show some (CV.bo (!(dT x y))) = _
 rw [jr h]; rfl
theorem xj (h : x = y) : ab P .neq t (.nu .i64 x) (.nu .i64 y) = some (.bo false) := by
 show some (CV.bo (!(dT x y))) = _
 rw [jq h]; rfl
end
theorem ofNat_lt {a b : Nat} (h : a < b) : Int.ofNat a < Int.ofNat b := by simpa using h
theorem ofNat_le {a b : Nat} (h : a ≤ b) : Int.ofNat a ≤ Int.ofNat b := by simpa using h
theorem xk {a b : Nat} (h : a ≠ b) : Int.ofNat a ≠ Int.ofNat b := fun e => h (Int.ofNat.inj e)
theorem cB {α : Type} {l : List α} {i : Nat} (hi : i < l.length) : l.take (i + 1) = l.take i ++ [l[i]] := by rw [List.take_succ_eq_append_getElem hi]
theorem qg {α : Type} {p : α → Bool} {l : List α} {i : Nat} (hi : i < l.length) (h : (l.take i).all p = true) (hp : p l[i] = true) : (l.take (i + 1)).all p = true := by
 rw [cB hi, List.all_append, h]; simp [hp]
theorem xl {α : Type} {p : α → Bool} {l : List α} {i : Nat} (hi : i < l.length) (hp : p l[i] = false) : l.all p = false := by
 rw [List.all_eq_false]; exact ⟨_, List.getElem_mem hi, by simp [hp]⟩
theorem mM {α : Type} {p : α → Bool} {l : List α} {i : Nat} (hi : i < l.length) (h : (l.take i).any p = false) (hp : p l[i] = false) : (l.take (i + 1)).any p = false := by
 rw [cB hi, List.any_append, h]; simp [hp]
theorem tG {α : Type} {p : α → Bool} {l : List α} {i : Nat} (hi : i < l.length) (hp : p l[i] = true) : l.any p = true := List.any_eq_true.2 ⟨_, List.getElem_mem hi, hp⟩
theorem Fx {α : Type} {p : α → Bool} {l : List α} {i : Nat} (hi : i < l.length) (hp : p l[i] = true) : (l.take (i + 1)).filter p = (l.take i).filter p ++ [l[i]] := by
 rw [cB hi, List.filter_append]; simp [hp]
theorem Fy {α : Type} {p : α → Bool} {l : List α} {i : Nat} (hi : i < l.length) (hp : p l[i] = false) : (l.take (i + 1)).filter p = (l.take i).filter p := by
 rw [cB hi, List.filter_append]; simp [hp]
section
variable {K : Ctx} {h : Hp}
def oo (a b : List Int) : Bool := b.all (eo a)
theorem Dp (H : Std K) {x : CV} {a : List Int} (r : Row h x (ak a)) : an h x (ae K.P 45) = some (.nu .i64 (.ofNat a.length)) := by
 have := fj H r
 rwa [ax] at this
end
section
variable {K : Ctx} {h : Hp}
theorem qh {α : Type} (p : α → Bool) (l : List α) (i : Nat) : ((l.take i).filter p).length ≤ l.length := by
 have := List.length_filter_le p (l.take i)
 have h2 : (l.take i).length ≤ l.length := by simp; omega
 omega
end
def lw (v : Int) : Bool := decide (v < 0) || decide (64 ≤ v)
def xm (a : List Int) : Bool := (List.range (a.length - 1)).all fun i => decide (a.getD i 0 < a.getD (i + 1) 0)
def oq (a : List Int) : Int := if a = [] then 1 else if 5 < a.length then 3 else if a.any lw then 1 else 0
def co (a : List Int) : Int := if oq a ≠ 0 then oq a else if xm a then 0 else 6
theorem xo (a : List Int) : xm a = true ↔ a.Pairwise (· < ·) := by
 constructor
 · intro h
   have h1 : ∀ i (hi : i + 1 < a.length), a[i] < a[i + 1] := by
    intro i hi
    have := List.all_eq_true.1 h i (List.mem_range.2 (by omega))
    simpa [List.getD_eq_getElem?_getD, List.getElem?_eq_getElem (show i < a.length by omega), List.getElem?_eq_getElem hi] using this
   rw [List.pairwise_iff_getElem]
   intro i j hi hj hij
   obtain ⟨d, rfl⟩ : ∃ d, j = i + 1 + d := ⟨j - (i + 1), by omega⟩
   clear hij
   induction d with
   | zero => exact h1 i hj
   | succ d ih =>
    have e := ih (by omega)
    have e2 := h1 (i + 1 + d) (by omega)
    have : a[i + 1 + (d + 1)] = a[i + 1 + d + 1] := rfl
    omega
 · intro h
   refine List.all_eq_true.2 fun i hi => ?_
   have hi' := List.mem_range.1 hi
   have := List.pairwise_iff_getElem.1 h i (i + 1) (by omega) (by omega) (by omega)
   simpa [List.getD_eq_getElem?_getD, List.getElem?_eq_getElem (show i < a.length by omega), List.getElem?_eq_getElem (show i + 1 < a.length by omega)] using this
theorem Dq {v : Int} : lw v = false ↔ 0 ≤ v ∧ v < 64 := by simp [lw]
theorem ot {a : List Int} : oq a = 0 ↔ a ≠ [] ∧ a.length ≤ 5 ∧ ∀ v ∈ a, 0 ≤ v ∧ v < 64 := by
 unfold oq
 by_cases h1 : a = []
 · simp [h1]
 rw [if_neg h1]
 by_cases h2 : 5 < a.length
 · rw [if_pos h2]; constructor
   · intro h; exact absurd h (by decide)
   · rintro ⟨_, h, _⟩; omega
 rw [if_neg h2]
 cases h3 : a.any lw with
 | true =>
  rw [if_pos rfl]; constructor
  · intro h; exact absurd h (by decide)
  · rintro ⟨_, _, h⟩
    obtain ⟨v, hv, hb⟩ := List.any_eq_true.1 h3
    rw [Dq.2 (h v hv)] at hb; cases hb
 | false =>
  rw [if_neg (by simp)]
  refine ⟨fun _ => ⟨h1, by omega, fun v hv => ?_⟩, fun _ => rfl⟩
  exact Dq.1 (by simpa using List.any_eq_false.1 h3 v hv)
theorem dd {a : List Int} : co a = 0 ↔ OkS a := by
 unfold co
 by_cases h : oq a = 0
 · rw [if_neg (by simp [h])]
   obtain ⟨h1, h2, h3⟩ := ot.1 h
   cases hs : xm a with
   | true => exact ⟨fun _ => ⟨h1, h2, h3, (xo a).1 hs⟩, fun _ => rfl⟩
   | false =>
    refine ⟨fun e => absurd e (by decide), fun o => ?_⟩
    rw [(xo a).2 o.asc] at hs; cases hs
 · rw [if_pos h]
   exact ⟨fun e => absurd e h, fun o => absurd (ot.2 ⟨o.ne, o.le, o.rng⟩) h⟩
section
variable {K : Ctx} {h : Hp}
theorem Dr (H : Std K) (v : Int) : Comes K 139 [.nu .i64 v] h (.bo (lw v)) h := by
 have hf : K.P.funcs[139]? = some Tryz.f139 := by rw [H.hP]; exact Tryz.func139
 by_cases h0 : v < 0
 · have : lw v = true := by simp [lw, h0]
   rw [this]
   exact H.go hf (ER H.hk H.prim H.pl (s := entry 0 [.nu .i64 v]) rfl (Me h0) rfl) (.inr rfl) (Nat.le_refl _) rfl rfl rfl
 · have o7 := tu (P := K.P) (t := 3) v 64
   have : lw v = cI 64 v := by simp [lw, h0, dD]
   rw [this]
   exact H.go hf (wM H.hk H.prim H.pl (s := entry 0 [.nu .i64 v]) rfl (Mf (by omega)) o7 rfl) (.inr rfl) (Nat.le_refl _) rfl rfl rfl
theorem AK (H : Std K) {a : List Int} {G : FuncId} {C : List CV} {p : Int → Bool} (hbig : a.length < 4611686018427387904) {x : CV} (ha : Row h x (ak a)) (hg : ∀ v ∈ a, Comes K G ([.nu .i64 v] ++ C) h (.bo (p v)) h) : ∃ n, Comes K 166 [x, .fn G C] h (.nu .i64 n) h ∧ cI 0 n = a.any p := by
 have hf : K.P.funcs[166]? = some Tryz.f166 := by rw [H.hP]; exact Tryz.func166
 have hlen := Dp H ha
 obtain ⟨s1, r1, k0, k1, k7, k8, ks⟩ : ∃ s1, fL K [1, 0, 0] (T.set (entry 0 [x, .fn G C]) 4 (.nu .i64 0)) h .normal s1 h ∧ s1.at 0 = x ∧ s1.at 1 = .fn G C ∧ s1.at 7 = .nu .i64 (.ofNat a.length) ∧ s1.at 8 = .nu .i64 (.ofNat 0) ∧ s1.at ag = .undef := ⟨_, y9 H.hk rfl hlen, rfl, rfl, rfl, rfl, rfl⟩
 have L := dY (K := K) (f := 166) (n := 19) (c := aD [1, 0, 1, 0, 0] (am Tryz.f166)) (s := s1) (h := h) (m := a.length) (b := 0) (I := fun i s g => g = h ∧ s.at 0 = x ∧ s.at 1 = .fn G C ∧ s.at 7 = .nu .i64 (.ofNat a.length) ∧ s.at 8 = .nu .i64 (.ofNat i) ∧ s.at ag = .undef ∧ (a.take i).any p = false)
  (E := fun s g => g = h ∧ s.at ag = .undef ∧ a.any p = false) (R := fun s g => g = h ∧ s.at ag = .undef ∧ a.any p = true ∧ ∃ j : Nat, s.at 4 = .nu .i64 (.ofNat j)) ⟨rfl, k0, k1, k7, k8, ks, rfl⟩
  (fun i s g hi ⟨e, g0, g1, g7, g8, gs, hall⟩ => by
    subst e
    obtain ⟨q, hp1, hp2⟩ := p8 H ha hi
    have hin := hg a[i] (List.getElem_mem hi)
    cases hq : p a[i] with
    | false =>
     rw [hq] at hin
     exact .inl ⟨_, _, lN H.hk H.prim H.pl g8 g7 g1 g0 (aM hi) hp1 hp2 rfl hin (bI (by omega)), rfl, g0, g1, g7, rfl, gs, mM hi hall hq⟩
    | true =>
     rw [hq] at hin
     exact .inr (.inl ⟨_, _, sX H.hk H.prim H.pl g8 g7 g1 g0 (aM hi) hp1 hp2 rfl hin, rfl, gs, tG hi hq, i, rfl⟩))
  (fun s g ⟨e, g0, g1, g7, g8, gs, hall⟩ => by
    subst e
    exact ⟨_, _, mY H.hk H.prim H.pl g8 g7 (aY (Nat.le_refl _)), rfl, gs, by rw [List.take_length] at hall; exact hall⟩)
 rcases L with ⟨s', h', r, rfl, hs, hv⟩ | ⟨s', h', r, rfl, hs, hv, j, hj⟩
 · rw [hv]
   exact ⟨-1, H.go hf (Runs.seq (sv H.hk) (Runs.seq (Runs.seq r1 r) (wL H.hk H.prim H.pl))) (.inr rfl) (Nat.le_refl _) hs rfl rfl, rfl⟩
 · rw [hv]
   exact ⟨.ofNat j, H.go hf (Runs.seq (sv H.hk) (aC (Runs.seq r1 r) (by simp))) (.inr rfl) (Nat.le_refl _) hs (by show some [Fr.at s' 4] = _; rw [hj]) rfl, ir (by simp)⟩
theorem yk (H : Std K) {a : List Int} {G : FuncId} {C : List CV} {p : Int → Bool} (hbig : a.length < 4611686018427387904) {x : CV} (ha : Row h x (ak a)) (hg : ∀ v ∈ a, Comes K G ([.nu .i64 v] ++ C) h (.bo (p v)) h) : Comes K 138 [x, .fn G C] h (.bo (a.any p)) h := by
 have hf : K.P.funcs[138]? = some Tryz.f138 := by rw [H.hP]; exact Tryz.func138
 obtain ⟨n, c, hn⟩ := AK H hbig ha hg
 have o8 := tu (P := K.P) (t := 3) n 0
 rw [hn] at o8
 exact H.go hf (Cs H.hk H.prim H.pl (s := entry 0 [x, .fn G C]) rfl rfl c o8) (.inr rfl) (Nat.le_refl _) rfl rfl rfl
theorem xp (H : Std K) {a : List Int} (hbig : a.length < 4611686018427387904) {x : CV} (ha : Row h x (ak a)) : Comes K 110 [x] h (.nu .i64 (oq a)) h := by
 have hf : K.P.funcs[110]? = some Tryz.f110 := by rw [H.hP]; exact Tryz.func110
 have hlen := Dp H ha
 unfold oq
 by_cases h1 : a = []
 · rw [if_pos h1]
   exact H.go hf (EQ H.hk H.prim H.pl (s := entry 0 [x]) rfl hlen (AJ (by rw [h1]; rfl))) (.inr rfl) (Nat.le_refl _) rfl rfl rfl
 have h1' : Int.ofNat a.length ≠ 0 := by
  intro e; exact h1 (List.eq_nil_of_length_eq_zero (by simpa using e))
 rw [if_neg h1]
 by_cases h2 : 5 < a.length
 · rw [if_pos h2]
   exact H.go hf (Cr H.hk H.prim H.pl (s := entry 0 [x]) rfl hlen (ol h1') (mL (by show (5 : Int) < Int.ofNat a.length; simp; omega))) (.inr rfl) (Nat.le_refl _) rfl rfl rfl
 rw [if_neg h2]
 have hle : Int.ofNat a.length ≤ 5 := by simp; omega
 have c := yk H hbig ha (G := 139) (C := []) fun v _ => Dr H v
 cases h3 : a.any lw with
 | true =>
  rw [h3] at c
  exact H.go hf (At H.hk H.prim H.pl (s := entry 0 [x]) rfl hlen (ol h1') (qf hle) c) (.inr rfl) (Nat.le_refl _) rfl rfl rfl
 | false =>
  rw [h3] at c
  exact H.go hf (rj H.hk H.prim H.pl (s := entry 0 [x]) rfl hlen (ol h1') (qf hle) c) (.inr rfl) (Nat.le_refl _) rfl rfl rfl
theorem mN {a : List Int} {i : Nat} (hi : i < a.length) : a.getD i 0 = a[i] := by rw [List.getD_eq_getElem?_getD, List.getElem?_eq_getElem hi]; rfl
theorem kU (H : Std K) {a : List Int} (hbig : a.length < 4611686018427387904) {x : CV} (ha : Row h x (ak a)) : Comes K 66 [x] h (.nu .i64 (co a)) h := by
 have hf : K.P.funcs[66]? = some Tryz.f66 := by rw [H.hP]; exact Tryz.func66
 have cv := xp H hbig ha
 unfold co
 by_cases h0 : oq a = 0
 · rw [if_neg (by simp [h0])]
   rw [h0] at cv
   obtain ⟨hne, hle, _⟩ := ot.1 h0
   have hl : 1 ≤ a.length := by cases hq : a with | nil => exact absurd hq hne | cons => simp
   obtain ⟨y, hy1, hy2⟩ := oT H hne ha (lo := some (.nu .i64 1)) (hi := none) (i := 1) (j := a.length) rfl rfl hl (Nat.le_refl _)
   have ht : (a.drop 1).take (a.length - 1) = a.drop 1 := List.take_of_length_le (by simp)
   rw [ht] at hy2
   have hlen := dM H hy2
   rw [ax, List.length_drop] at hlen
   obtain ⟨s0, r0, j0, js⟩ : ∃ s1, fx K [1, 0] (T.set (entry 0 [x]) 2 (.nu .i64 0)) h .normal s1 h ∧ s1.at 0 = x ∧ s1.at ag = .undef := ⟨_, tZ H.hk H.prim H.pl rfl cv rfl, rfl, rfl⟩
   obtain ⟨s1, r1, k0, k12, k13, k14, ks⟩ : ∃ s2, fx K [1, 1, 0, 0] s0 h .normal s2 h ∧ s2.at 0 = x ∧ s2.at 12 = y ∧ s2.at 13 = .nu .i64 (.ofNat (a.length - 1)) ∧ s2.at 14 = .nu .i64 (.ofNat 0) ∧ s2.at ag = .undef := ⟨_, Ca H.hk j0 hy1 hlen, j0, rfl, rfl, rfl, js⟩
   have L := dY (K := K) (f := 66) (n := 26) (c := aD [1, 1, 0, 1, 0, 0] (am Tryz.f66)) (s := s1) (h := h) (m := a.length - 1) (b := 0) (I := fun i s g => g = h ∧ s.at 0 = x ∧ s.at 12 = y ∧ s.at 13 = .nu .i64 (.ofNat (a.length - 1)) ∧ s.at 14 = .nu .i64 (.ofNat i) ∧ s.at ag = .undef ∧ ((List.range (a.length - 1)).take i).all (fun i => decide (a.getD i 0 < a.getD (i + 1) 0)) = true)
    (E := fun s g => g = h ∧ s.at ag = .undef ∧ xm a = true) (R := fun s g => g = h ∧ s.at ag = .undef ∧ xm a = false ∧ s.at 2 = .nu .i64 6) ⟨rfl, k0, k12, k13, k14, ks, rfl⟩
    (fun i s g hi ⟨e, g0, g12, g13, g14, gs, hall⟩ => by
      subst e
      have hi1 : i < (a.drop 1).length := by simp; omega
      obtain ⟨p, hp1, hp2⟩ := iY H ha (i := i) (by omega)
      obtain ⟨q, hq1, hq2⟩ := iY H hy2 hi1
      have e1 : (a.drop 1)[i] = a[i + 1]'(by omega) := by rw [List.getElem_drop]; congr 1; omega
      rw [e1] at hq2
      by_cases hlt : a[i]'(by omega) < a[i + 1]'(by omega)
      · exact .inl ⟨_, _, lJ H.hk H.prim H.pl g14 g13 g12 g0 (aM hi) hq1 hq2 hp1 hp2 (Nr hlt) (bI (by omega)), rfl, g0, g12, g13, rfl, gs, qg (by simpa using hi) hall (by simp only [List.getElem_range, mN (show i < a.length by omega), mN (show i + 1 < a.length by omega), hlt, decide_true])⟩
      · exact .inr (.inl ⟨_, _, sT H.hk H.prim H.pl g14 g13 g12 g0 (aM hi) hq1 hq2 hp1 hp2 (Nq (by omega)), rfl, gs, xl (i := i) (by simpa using hi) (by simp only [List.getElem_range, mN (show i < a.length by omega), mN (show i + 1 < a.length by omega), hlt, decide_false]), rfl⟩))
    (fun s g ⟨e, g0, g12, g13, g14, gs, hall⟩ => by
      subst e
      exact ⟨_, _, mX H.hk H.prim H.pl g14 g13 (aY (Nat.le_refl _)), rfl, gs, by rw [List.take_of_length_le (by simp)] at hall; exact hall⟩)
   rcases L with ⟨s', h', r, rfl, hs, hv⟩ | ⟨s', h', r, rfl, hs, hv, h2⟩
   · rw [hv]
     exact H.go hf (Runs.seq (qN H.hk) (Runs.seq r0 (Runs.seq (Runs.seq r1 r) (wI H.hk H.prim H.pl)))) (.inr rfl) (Nat.le_refl _) hs rfl rfl
   · rw [hv]
     exact H.go hf (Runs.seq (qN H.hk) (Runs.seq r0 (aC (Runs.seq r1 r) (by simp)))) (.inr rfl) (Nat.le_refl _) hs (by show some [Fr.at s' 2] = _; rw [h2]) rfl
 · rw [if_pos h0]
   exact H.go hf (Runs.seq (qN H.hk) (aC (Co H.hk H.prim H.pl rfl cv (om h0)) (by simp))) (.inr rfl) (Nat.le_refl _) rfl rfl rfl
theorem AM (H : Std K) {a : List Int} (hbig : a.length < 4611686018427387904) (hbad : co a ≠ 0) {x : CV} (ha : Row h x (ak a)) : Comes K 73 [x] h (.tup [.nils, .nu .i64 (co a)]) h := by
 have hf : K.P.funcs[73]? = some Tryz.f73 := by rw [H.hP]; exact Tryz.func73
 exact H.go hf (Runs.seq (wx H.hk) (aC (Aq H.hk H.prim H.pl rfl (kU H hbig ha) (om hbad) rfl) (by simp))) (.inr rfl) (Nat.le_refl _) rfl rfl rfl
end
structure ux (l : List (List Int)) : Prop where
 len : l.length < 549755813888
 each : ∀ a ∈ l, a.length < 549755813888
section
variable {K : Ctx} {h : Hp}
def rH (l m : List (List Int)) : Bool := decide (l.length = m.length) && (List.range l.length).all fun i => decide (l.getD i [] = m.getD i [])
theorem Ds {l m : List (List Int)} : rH l m = true ↔ l = m := by
 constructor
 · intro h
   unfold rH at h
   rw [Bool.and_eq_true, decide_eq_true_iff] at h
   refine List.ext_getElem h.1 fun i h1 h2 => ?_
   have := List.all_eq_true.1 h.2 i (List.mem_range.2 h1)
   simpa [List.getD_eq_getElem?_getD, List.getElem?_eq_getElem h1, List.getElem?_eq_getElem h2] using this
 · rintro rfl
   unfold rH
   simp
theorem lx {l : List (List Int)} {i : Nat} (hi : i < l.length) : l.getD i [] = l[i] := by rw [List.getD_eq_getElem?_getD, List.getElem?_eq_getElem hi]; rfl
theorem AN (H : Std K) (PB : fT K) {l m : List (List Int)} (hl : l.length < 4611686018427387904) (hm : ∀ a ∈ l, a.length < 4611686018427387904) {x y : CV} {cs ds : List CV} (hx : Row h x cs) (hxs : Rows h cs l) (hy : Row h y ds) (hys : Rows h ds m) : Comes K 23 [x, y] h (.bo (rH l m)) h := by
 have hf : K.P.funcs[23]? = some Tryz.f23 := by rw [H.hP]; exact Tryz.func23
 have hlen := fk H hx
 have hlem := gK H hy
 have hcl := hxs.length
 have hcm := hys.length
 rw [hcl] at hlen
 rw [hcm] at hlem
 unfold rH
 by_cases h1 : l.length ≠ m.length
 · simp only [h1, decide_false, Bool.false_and]
   exact H.go hf (Runs.seq (wW H.hk) (aC (Dd H.hk H.prim PB rfl rfl hlen hlem (om (xk h1))) (by simp))) (.inr rfl) (Nat.le_refl _) rfl rfl rfl
 replace h1 : l.length = m.length := Decidable.not_not.1 h1
 simp only [h1, decide_true, Bool.true_and]
 obtain ⟨sa, ra, a0, a1, as'⟩ : ∃ s1, jd K [1, 0] (T.set (entry 0 [x, y]) 4 (.bo false)) h .normal s1 h ∧ s1.at 0 = x ∧ s1.at 1 = y ∧ s1.at ag = .undef := ⟨_, De H.hk H.prim PB rfl rfl hlen hlem (xj (by rw [h1])), rfl, rfl, rfl⟩
 have L := dY (K := K) (f := 23) (n := 27) (c := aD [1, 1, 0, 1, 0, 0] (am Tryz.f23)) (s := T.set sa 5 (.nu .i64 0)) (h := h) (m := m.length) (b := 0) (I := fun i s g => g = h ∧ s.at 0 = x ∧ s.at 1 = y ∧ s.at 5 = .nu .i64 (.ofNat i) ∧ s.at ag = .undef ∧ ((List.range m.length).take i).all (fun i => decide (l.getD i [] = m.getD i [])) = true)
  (E := fun s g => g = h ∧ s.at ag = .undef ∧ (List.range m.length).all (fun i => decide (l.getD i [] = m.getD i [])) = true) (R := fun s g => g = h ∧ s.at ag = .undef ∧ (List.range m.length).all (fun i => decide (l.getD i [] = m.getD i [])) = false ∧ s.at 4 = .bo false) ⟨rfl, a0, a1, rfl, as', rfl⟩
  (fun i s g hi ⟨e, g0, g1, g5, gs, hall⟩ => by
    subst e
    obtain ⟨p, hp1, hp2⟩ := ke H hx (i := i) (by omega)
    obtain ⟨q, hq1, hq2⟩ := p9 H hy (i := i) (by omega)
    have hr := hxs.get (i := i) (by omega) (by omega)
    have hr' := hys.get (i := i) (by omega) (by omega)
    have c := uc H (hm l[i] (List.getElem_mem (by omega))) hr hr'
    by_cases hq : l[i]'(by omega) = m[i]
    · exact .inl ⟨_, _, tk H.hk H.prim PB g5 g0 g1 hlen (aM (by omega)) hp1 hp2 hr.ceq hq1 hq2 c (xj ((fA _ _).2 hq)) (bI (by omega)), rfl, g0, g1, rfl, gs, qg (by simpa using hi) hall (by simp only [List.getElem_range, lx (show i < l.length by omega), lx hi, hq, decide_true])⟩
    · exact .inr (.inl ⟨_, _, tj H.hk H.prim PB g5 g0 g1 hlen (aM (by omega)) hp1 hp2 hr.ceq hq1 hq2 c (om fun e => hq ((fA _ _).1 e)), rfl, gs, xl (i := i) (by simpa using hi) (by simp only [List.getElem_range, lx (show i < l.length by omega), lx hi, hq, decide_false]), rfl⟩))
  (fun s g ⟨e, g0, g1, g5, gs, hall⟩ => by
    subst e
    exact ⟨_, _, ve H.hk H.prim PB g5 g0 hlen (aY (by omega)), rfl, gs, by rw [List.take_of_length_le (by simp)] at hall; exact hall⟩)
 rcases L with ⟨s', h', r, rfl, hs, hv⟩ | ⟨s', h', r, rfl, hs, hv, h4⟩
 · rw [hv]
   exact H.go hf (Runs.seq (wW H.hk) (Runs.seq ra (Runs.seq (Runs.seq (C4 H.hk) r) (Fk H.hk H.prim PB)))) (.inr rfl) (Nat.le_refl _) hs rfl rfl
 · rw [hv]
   exact H.go hf (Runs.seq (wW H.hk) (Runs.seq ra (aC (Runs.seq (C4 H.hk) r) (by simp)))) (.inr rfl) (Nat.le_refl _) hs (by show some [Fr.at s' 4] = _; rw [h4]) rfl
end
theorem Fz {N M : Nat} {h h1 : Hp} {el el' : Nat} {x y : CV} {cs ys : List CV} (o : Out N h el x cs) (hM : h.n ≤ M) (r : New M h1 el' y ys) : Row (wipe h1 x) y ys := by
 cases r with
 | emp => exact .none _ _ _
 | out r => exact Row.off o hM r
section
variable {K : Ctx} {h : Hp}
theorem MV (H : Std K) {N : Nat} {h : Hp} {x y : CV} {a b : List Int} {t' : Nat} (ht' : ∃ e' b' z', ae K.P t' = .slice e' 1 b' z') (ok : HpOk h) (hN : N ≤ h.n) (r : New N h 3 x (ak a)) (hy : Row h y (ak b)) (hb : a.length + b.length < 1099511627776) : ∃ x' h', aQ h x y (ae K.P 45) (ae K.P t') = some (x', h') ∧ New N h' 3 x' (ak (a ++ b)) ∧ Same N h h' ∧ HpOk h' := by
 obtain ⟨x', h', h1, h2, h3, h4⟩ := r.app (z := [.nu .i64 0]) (t' := ae K.P t') (bytes := 8) ok hN hy (hZ b) rfl ht' (by simp only [ax]; omega) (by simp only [ax]; omega)
 refine ⟨x', h', by rw [← h1, H.hP, t45], ?_, h3, h4⟩
 have : ak (a ++ b) = ak a ++ ak b := by simp [ak]
 rw [this]; exact h2
theorem uy (H : Std K) (ok : HpOk h) {l : List (List Int)} (hl : ux l) {x : CV} {cs : List CV} (hx : Row h x cs) (hxs : Rows h cs l) : nX K 16 [x] h fun r h' => ∃ cs', Own h.n h' 45 r cs' l := by
 have hf : K.P.funcs[16]? = some Tryz.f16 := by rw [H.hP]; exact Tryz.func16
 have hcl := hxs.length
 obtain ⟨s', h', r, ok', S, hs, cs', ho⟩ := dZ (K := K) (f := 16) (n := 21) (c := aD [1, 1, 0, 1, 0, 0] (am Tryz.f16)) (s := T.set (T.set (T.set (entry 0 [x]) 2 .nils) 3 .nils) 4 (.nu .i64 0)) (h := h) (m := l.length) (b := 0)
  (I := fun i s g => HpOk g ∧ Same h.n h g ∧ s.at 0 = x ∧ s.at 4 = .nu .i64 (.ofNat i) ∧ s.at ag = .undef ∧ ∃ cs', Own h.n g 45 (s.at 3) cs' (l.take i))
  (E := fun s g => HpOk g ∧ Same h.n h g ∧ s.at ag = .undef ∧ ∃ cs', Own h.n g 45 (s.at 3) cs' l) ⟨ok, Same.refl _ _, rfl, rfl, rfl, [], Own.nil⟩
  (fun i s g hi ⟨okg, S, g0, g4, gs, cs', ho⟩ => by
    have hr := hx.mono S ok (Nat.le_refl _)
    have hlen := fk H hr
    rw [hcl] at hlen
    have hxi := (hxs.mono S ok (Nat.le_refl _)).get (i := i) (by omega) hi
    have hbig := hl.each l[i] (List.getElem_mem hi)
    obtain ⟨F, B, e1, e2⟩ := zI (P := K.P) (t := 45) (h := g) (by rw [H.hP]; exact t45)
    have Sp : Same g.n g (g.push B) := Same.push (Nat.le_refl _) B
    obtain ⟨y, h1, a1, a2, a3, a4⟩ := MV (t' := 46) H (a := []) (b := l[i]) ⟨_, _, _, by rw [H.hP]; exact t46⟩ (okg.push B) Sp.n e2 (hxi.mono Sp okg (Nat.le_refl _)) (by simp; omega)
    rw [List.nil_append] at a2
    have S1 : Same g.n g h1 := Sp.trans a3
    obtain ⟨p, hp1, hp2⟩ := ke H (hr.mono Sp okg (Nat.le_refl _)) (i := i) (by omega)
    have hol := ho.rows.length
    rw [List.length_take] at hol
    have hll := hl.len
    obtain ⟨F2, B2, x', h2, b1, b2, b3, b4, b5⟩ := Own.app (P := K.P) (t := 26) (by rw [H.hP]; exact wZ) a4 (S.trans (S1.le S.n)).n (ho.mono S1 okg) (Fz ho.out (Nat.le_refl _) a2) (by decide) (by omega)
    exact ⟨_, _, uU H.hk H.prim H.pl g4 g0 rfl hlen (aM hi) e1 hp1 hp2 a1 b1 b2 (bI (by omega)), b5, (S.trans (S1.le S.n)).trans b4, g0, rfl, gs, _, by rw [cB hi]; exact b3⟩)
  (fun s g ⟨okg, S, g0, g4, gs, cs', ho⟩ => by
    have hlen := fk H (hx.mono S ok (Nat.le_refl _))
    rw [hcl] at hlen
    exact ⟨_, _, uV H.hk H.prim H.pl g4 g0 hlen (aY (Nat.le_refl _)), okg, S, gs, cs', by rw [List.take_length] at ho; exact ho⟩)
 exact ⟨_, h', H.go hf (Runs.seq (JU H.hk) (Runs.seq (JV H.hk) (Runs.seq (Runs.seq (JW H.hk) r) (EM H.hk H.prim H.pl rfl)))) (.inr rfl) S.n hs rfl rfl, S, ok', cs', ho⟩
end
def c9 (l : List (List Int)) (i : Nat) : Int :=
 if co (l.getD i []) ≠ 0 then co (l.getD i [])
 else if 0 < i ∧ a8 (l.getD i []) (l.getD (i - 1) []) = 0 then 5
 else if 0 < i ∧ a8 (l.getD i []) (l.getD (i - 1) []) < 0 then 6
 else if (bT (l.getD i [])).all (fun f => decide (f ∈ l)) then 0 else 7
def mO (l : List (List Int)) : Nat → Nat → Int
 | 0, _ => 0
 | n + 1, i => if c9 l i ≠ 0 then c9 l i else mO l n (i + 1)
def cU (l : List (List Int)) : Int := if 1024 < l.length then 3 else mO l l.length 0
theorem Dt {l : List (List Int)} : ∀ (n i k : Nat), i ≤ k → k < i + n → (∀ j, i ≤ j → j < k → c9 l j = 0) → c9 l k ≠ 0 → mO l n i = c9 l k := by
 intro n
 induction n with
 | zero => intro i k h1 h2; omega
 | succ n ih =>
  intro i k h1 h2 h3 h4
  rcases Nat.eq_or_lt_of_le h1 with rfl | hlt
  · rw [mO, if_pos h4]
  · rw [mO, if_neg (by simp [h3 i (Nat.le_refl _) hlt])]
    exact ih (i + 1) k hlt (by omega) (fun j hj => h3 j (by omega)) h4
theorem zM {l : List (List Int)} : ∀ (n i : Nat), (∀ j, i ≤ j → j < i + n → c9 l j = 0) → mO l n i = 0 := by
 intro n
 induction n with
 | zero => intro i _; rfl
 | succ n ih =>
  intro i h
  rw [mO, if_neg (by simp [h i (Nat.le_refl _) (by omega)])]
  exact ih (i + 1) fun j h1 h2 => h j (by omega) (by omega)
theorem Du {l : List (List Int)} : ∀ (n i : Nat), mO l n i = 0 → ∀ j, i ≤ j → j < i + n → c9 l j = 0 := by
 intro n
 induction n with
 | zero => intro i _ j h1 h2; omega
 | succ n ih =>
  intro i h j h1 h2
  rw [mO] at h
  by_cases h0 : c9 l i = 0
  · rw [if_neg (by simp [h0])] at h
    rcases Nat.eq_or_lt_of_le h1 with rfl | hlt
    · exact h0
    · exact ih (i + 1) h j hlt (by omega)
  · rw [if_pos h0] at h; exact absurd h h0
section
variable {K : Ctx} {h : Hp}
theorem rI {l : List (List Int)} {i : Nat} (h1 : co (l.getD i []) = 0) (h2 : 0 < i → a8 (l.getD i []) (l.getD (i - 1) []) ≠ 0 ∧ ¬ a8 (l.getD i []) (l.getD (i - 1) []) < 0) : c9 l i = if (bT (l.getD i [])).all (fun f => decide (f ∈ l)) then 0 else 7 := by
 unfold c9
 rw [if_neg (fun hn => hn h1), if_neg (fun h => (h2 h.1).1 h.2), if_neg (fun h => (h2 h.1).2 h.2)]
end
end Go.CP
