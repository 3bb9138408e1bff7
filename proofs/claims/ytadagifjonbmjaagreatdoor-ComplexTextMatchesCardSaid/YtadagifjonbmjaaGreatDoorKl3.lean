import Derived.Test.YtadagifjonbmjaaGreatDoorKl2
import Derived.Test.YtadagifjonbmjaaGreatDoorKw3
import Derived.Test.YtadagifjonbmjaaGreatDoorKq0
set_option linter.all false
namespace Go.CP
open Go.Proofs
variable [LG] [HK]
section
variable {P : Program} {t : TypeId} {x y : Int}
theorem CZ (h : x < y) : ab P .lss t (.nu .i64 x) (.nu .i64 y) = some (.bo true) := by rw [jn, iL h]; rfl
theorem yX (h : y ≤ x) : ab P .lss t (.nu .i64 x) (.nu .i64 y) = some (.bo false) := by rw [jn, hD h]; rfl
theorem eb (h : y < x) : ab P .gtr t (.nu .i64 x) (.nu .i64 y) = some (.bo true) := by rw [aW, iL h]; rfl
theorem fM (h : x ≤ y) : ab P .gtr t (.nu .i64 x) (.nu .i64 y) = some (.bo false) := by rw [aW, hD h]; rfl
theorem Qj (h : x ≤ y) : ab P .leq t (.nu .i64 x) (.nu .i64 y) = some (.bo true) := by rw [vc, hD h]
theorem Qk (h : y < x) : ab P .leq t (.nu .i64 x) (.nu .i64 y) = some (.bo false) := by rw [vc, iL h]
theorem Rt (h : y ≤ x) : ab P .geq t (.nu .i64 x) (.nu .i64 y) = some (.bo true) := by rw [pv, hD h]
theorem Ru (h : x < y) : ab P .geq t (.nu .i64 x) (.nu .i64 y) = some (.bo false) := by rw [pv, iL h]
theorem rp (h : x = y) : ab P .eql t (.nu .i64 x) (.nu .i64 y) = some (.bo true) := by rw [fI, jM h]
theorem iC (h : x ≠ y) : ab P .eql t (.nu .i64 x) (.nu .i64 y) = some (.bo false) := by rw [fI, jN h]
theorem jt (h : x ≠ y) : ab P .neq t (.nu .i64 x) (.nu .i64 y) = some (.bo true) := by
 show some (CV.bo (!(dK x y))) = _
 rw [jN h]; rfl
theorem mb (h : x = y) : ab P .neq t (.nu .i64 x) (.nu .i64 y) = some (.bo false) := by
 show some (CV.bo (!(dK x y))) = _
 rw [jM h]; rfl
end
theorem ofNat_lt {a b : Nat} (h : a < b) : Int.ofNat a < Int.ofNat b := by simpa using h
theorem ofNat_le {a b : Nat} (h : a ≤ b) : Int.ofNat a ≤ Int.ofNat b := by simpa using h
theorem nI {a b : Nat} (h : a ≠ b) : Int.ofNat a ≠ Int.ofNat b := fun e => h (Int.ofNat.inj e)
theorem cr {α : Type} {l : List α} {i : Nat} (hi : i < l.length) : l.take (i + 1) = l.take i ++ [l[i]] := by rw [List.take_succ_eq_append_getElem hi]
theorem iD {α : Type} {p : α → Bool} {l : List α} {i : Nat} (hi : i < l.length) (h : (l.take i).all p = true) (hp : p l[i] = true) : (l.take (i + 1)).all p = true := by
 rw [cr hi, List.all_append, h]; simp [hp]
theorem mL {α : Type} {p : α → Bool} {l : List α} {i : Nat} (hi : i < l.length) (hp : p l[i] = false) : l.all p = false := by
 rw [List.all_eq_false]; exact ⟨_, List.getElem_mem hi, by simp [hp]⟩
theorem iE {α : Type} {p : α → Bool} {l : List α} {i : Nat} (hi : i < l.length) (h : (l.take i).any p = false) (hp : p l[i] = false) : (l.take (i + 1)).any p = false := by
 rw [cr hi, List.any_append, h]; simp [hp]
theorem jZ {α : Type} {p : α → Bool} {l : List α} {i : Nat} (hi : i < l.length) (hp : p l[i] = true) : l.any p = true := List.any_eq_true.2 ⟨_, List.getElem_mem hi, hp⟩
theorem rq {α : Type} {p : α → Bool} {l : List α} {i : Nat} (hi : i < l.length) (hp : p l[i] = true) : (l.take (i + 1)).filter p = (l.take i).filter p ++ [l[i]] := by
 rw [cr hi, List.filter_append]; simp [hp]
theorem rr {α : Type} {p : α → Bool} {l : List α} {i : Nat} (hi : i < l.length) (hp : p l[i] = false) : (l.take (i + 1)).filter p = (l.take i).filter p := by
 rw [cr hi, List.filter_append]; simp [hp]
section
variable {K : Ctx} {h : Hp}
def fN (a b : List Int) : Bool := b.all (dW a)
theorem hF (H : Std K) {x : CV} {a : List Int} (r : Row h x (ao a)) : aj h x (ae K.P 45) = some (.nu .i64 (.ofNat a.length)) := by
 have := fx H r
 rwa [aB] at this
theorem Gx (H : Std K) (PB : cz K) {a b : List Int} (hab : a.length < 4611686018427387904) (hbb : b.length < 4611686018427387904) {x y : CV} (ha : Row h x (ao a)) (hb : Row h y (ao b)) : Comes K 107 [x, y] h (.bo (fN a b)) h := by
 have hf : K.P.funcs[107]? = some Tryz.f107 := by rw [H.hP]; exact Tryz.func107
 have hlen := hF H hb
 have L := bS (K := K) (f := 107) (n := 19) (c := aG [1, 0, 1, 0, 0] (aq Tryz.f107)) (s := T.set (T.set (entry 0 [x, y]) 4 (.bo false)) 5 (.nu .i64 0)) (h := h) (m := b.length) (b := 0) (I := fun i s g => g = h ∧ s.at 0 = x ∧ s.at 1 = y ∧ s.at 5 = .nu .i64 (.ofNat i) ∧ s.at ah = .undef ∧ (b.take i).all (dW a) = true)
  (E := fun s g => g = h ∧ s.at ah = .undef ∧ fN a b = true) (R := fun s g => g = h ∧ s.at ah = .undef ∧ s.at 4 = .bo false ∧ fN a b = false) ⟨rfl, rfl, rfl, rfl, rfl, rfl⟩
  (fun i s g hi ⟨e, g0, g1, g5, gs, hall⟩ => by
    subst e
    obtain ⟨p, hp1, hp2⟩ := iu H hb hi
    have hin := yJ H (v := b[i]) hab ha
    cases hq : dW a b[i] with
    | true =>
     rw [hq] at hin
     exact .inl ⟨_, _, uY H.hk H.prim PB g5 g1 g0 hlen (aJ hi) hp1 hp2 hin rfl (bh (by omega)), rfl, g0, g1, rfl, gs, iD hi hall hq⟩
    | false =>
     rw [hq] at hin
     exact .inr (.inl ⟨_, _, uX H.hk H.prim PB g5 g1 g0 hlen (aJ hi) hp1 hp2 hin rfl, rfl, gs, rfl, mL hi hq⟩))
  (fun s g ⟨e, g0, g1, g5, gs, hall⟩ => by
    subst e
    exact ⟨_, _, wT H.hk H.prim PB g5 g1 hlen (aS (Nat.le_refl _)), rfl, gs, by rw [List.take_length] at hall; exact hall⟩)
 rcases L with ⟨s', h', r, rfl, hs, hv⟩ | ⟨s', h', r, rfl, hs, h4, hv⟩
 · rw [hv]
   exact H.go hf (Runs.seq (BG H.hk) (Runs.seq (Runs.seq (BH H.hk) r) (Ip H.hk H.prim PB))) (.inr rfl) (Nat.le_refl _) hs rfl rfl
 · rw [hv]
   exact H.go hf (Runs.seq (BG H.hk) (ax (Runs.seq (BH H.hk) r) (by simp))) (.inr rfl) (Nat.le_refl _) hs (by show some [Fr.at s' 4] = _; rw [h4]) rfl
end
section
variable {K : Ctx} {h : Hp}
theorem gC {α : Type} (p : α → Bool) (l : List α) (i : Nat) : ((l.take i).filter p).length ≤ l.length := by
 have := List.length_filter_le p (l.take i)
 have h2 : (l.take i).length ≤ l.length := by simp; omega
 omega
theorem yY (H : Std K) (PB : cz K) (ok : HpOk h) {a : List Int} (ha' : a.length < 549755813888) {k : Nat} (hk : k < 549755813888) {x : CV} (ha : Row h x (ao a)) : jz K 106 [x, .nu .i64 (.ofNat k)] h fun r h' => Out h.n h' 3 r (ao (a.eraseIdx k)) := by
 have hf : K.P.funcs[106]? = some Tryz.f106 := by rw [H.hP]; exact Tryz.func106
 have step : ∀ i (hi : i < a.length), i ≠ k → (a.take (i + 1)).eraseIdx k = (a.take i).eraseIdx k ++ [a[i]] := by
  intro i hi hne
  rw [cr hi]
  rcases Nat.lt_or_ge k i with hlt | hge
  · rw [List.eraseIdx_append_of_lt_length (by simp; omega)]
  · rw [List.eraseIdx_of_length_le (by simp; omega), List.eraseIdx_of_length_le (by simp; omega)]
 have step' : (hk : k < a.length) → (a.take (k + 1)).eraseIdx k = (a.take k).eraseIdx k := by
  intro hk'
  have hl : (a.take k).length = k := by simp; omega
  rw [cr hk', List.eraseIdx_append_of_length_le (by omega), hl, Nat.sub_self, List.eraseIdx_of_length_le (by omega : (a.take k).length ≤ k)]
  simp
 obtain ⟨s', h', r, ok', S, hs, h5⟩ := cV (K := K) (f := 106) (n := 24) (c := aG [1, 1, 0, 1, 0, 0] (aq Tryz.f106)) (s := T.set (T.set (T.set (entry 0 [x, .nu .i64 (.ofNat k)]) 4 .nils) 5 .nils) 6 (.nu .i64 0)) (h := h) (m := a.length) (b := 0)
  (I := fun i s g => HpOk g ∧ Same h.n h g ∧ s.at 0 = x ∧ s.at 1 = .nu .i64 (.ofNat k) ∧ s.at 6 = .nu .i64 (.ofNat i) ∧ s.at ah = .undef ∧ Out h.n g 3 (s.at 5) (ao ((a.take i).eraseIdx k)))
  (E := fun s g => HpOk g ∧ Same h.n h g ∧ s.at ah = .undef ∧ Out h.n g 3 (s.at 5) (ao (a.eraseIdx k))) ⟨ok, Same.refl _ _, rfl, rfl, rfl, rfl, .nils⟩
  (fun i s g hi ⟨okg, S, g0, g1, g6, gs, ho⟩ => by
    have ha2 := ha.mono S ok (Nat.le_refl _)
    have hlen := hF H ha2
    obtain ⟨p, hp1, hp2⟩ := iu H ha2 hi
    by_cases hq : i = k
    · subst hq
      exact ⟨_, _, tg H.hk H.prim PB g6 g0 g1 hlen (aJ hi) (mb rfl) (bh (by omega)), okg, S, g0, g1, rfl, gs, by rw [step' hi]; exact ho⟩
    · have hlo : ((a.take i).eraseIdx k).length ≤ a.length := by
       have := List.length_eraseIdx_le (a.take i) k
       have h2 : (a.take i).length ≤ a.length := by simp; omega
       omega
      obtain ⟨F, B, x', h', a1, a2, a3, a4, a5⟩ := yN H okg S.n ho a[i] (by omega)
      exact ⟨_, _, tf H.hk H.prim PB g6 g0 g1 rfl hlen (aJ hi) (jt (nI hq)) hp1 hp2 a1 a2 (bh (by omega)), a5, S.trans a4, g0, g1, rfl, gs, by rw [step i hi hq]; exact a3⟩)
  (fun s g ⟨okg, S, g0, g1, g6, gs, ho⟩ => by
    have hlen := hF H (ha.mono S ok (Nat.le_refl _))
    exact ⟨_, _, uW H.hk H.prim PB g6 g0 hlen (aS (Nat.le_refl _)), okg, S, gs, by rw [List.take_length] at ho; exact ho⟩)
 exact ⟨_, h', H.go hf (Runs.seq (LS H.hk) (Runs.seq (LU H.hk) (Runs.seq (Runs.seq (LV H.hk) r) (Gi H.hk H.prim PB rfl)))) (.inr rfl) S.n hs rfl rfl, S, ok', h5⟩
theorem zX (H : Std K) (PB : cz K) (ok : HpOk h) {a : List Int} (hne : a ≠ []) (ha' : a.length < 549755813888) {x : CV} (ha : Row h x (ao a)) : jz K 58 [x] h fun r h' => ∃ cs, Own h.n h' 45 r cs (bg a) := by
 have hf : K.P.funcs[58]? = some Tryz.f58 := by rw [H.hP]; exact Tryz.func58
 have hl0 : a.length ≠ 0 := fun e => hne (List.eq_nil_of_length_eq_zero e)
 obtain ⟨s', h', r, ok', S, hs, cs, h5⟩ := cV (K := K) (f := 58) (n := 23) (c := aG [1, 1, 0, 1, 0, 0] (aq Tryz.f58)) (s := T.set (T.set (T.set (entry 0 [x]) 2 .nils) 3 .nils) 4 (.nu .i64 0)) (h := h) (m := if a.length = 1 then 0 else a.length) (b := 0)
  (I := fun i s g => HpOk g ∧ Same h.n h g ∧ s.at 0 = x ∧ s.at 4 = .nu .i64 (.ofNat i) ∧ s.at ah = .undef ∧ ∃ cs, Own h.n g 45 (s.at 3) cs ((List.range i).map a.eraseIdx))
  (E := fun s g => HpOk g ∧ Same h.n h g ∧ s.at ah = .undef ∧ ∃ cs, Own h.n g 45 (s.at 3) cs (bg a)) ⟨ok, Same.refl _ _, rfl, rfl, rfl, [], .nil⟩
  (fun i s g hi ⟨okg, S, g0, g4, gs, cs, ho⟩ => by
    have ha2 := ha.mono S ok (Nat.le_refl _)
    have hlen := hF H ha2
    have h1 : a.length ≠ 1 := by intro e; rw [if_pos e] at hi; omega
    rw [if_neg h1] at hi
    obtain ⟨y, g1, c1, S1, bP, o1⟩ := yY H PB okg ha' (k := i) (by omega) ha2
    have hcl : cs.length = i := by have := ho.rows.length; simpa using this
    have hO1 : Own h.n g1 45 (s.at 3) cs ((List.range i).map a.eraseIdx) := ho.mono S1 okg
    obtain ⟨F, B, x', h', a1, a2, a3, a4, a5⟩ := hO1.app (P := K.P) (t := 26) (a := a.eraseIdx i) (by rw [H.hP]; exact pj) bP (Nat.le_trans S.n S1.n) (Row.off ho.out (Nat.le_refl _) o1) (by decide) (by omega)
    refine ⟨_, _, uR H.hk H.prim PB g0 g4 rfl hlen (eb (by show (1 : Int) < Int.ofNat a.length; simp; omega)) (aJ hi) rfl c1 a1 a2 (bh (by omega)), a5, S.trans ((S1.le S.n).trans a4), g0, rfl, gs, _, by rw [List.range_succ, List.map_append]; exact a3⟩)
  (fun s g ⟨okg, S, g0, g4, gs, cs, ho⟩ => by
    have hlen := hF H (ha.mono S ok (Nat.le_refl _))
    by_cases h1 : a.length = 1
    · rw [if_pos h1] at g4 ho
      exact ⟨_, _, uT H.hk H.prim PB g0 hlen (fM (by rw [h1]; decide)) rfl, okg, S, gs, cs, by rw [bg, if_pos h1]; exact ho⟩
    · rw [if_neg h1] at g4 ho
      exact ⟨_, _, uS H.hk H.prim PB g0 g4 hlen (eb (by show (1 : Int) < Int.ofNat a.length; simp; omega)) (aS (Nat.le_refl _)) rfl, okg, S, gs, cs, by rw [bg, if_neg h1]; exact ho⟩)
 exact ⟨_, h', H.go hf (Runs.seq (PS H.hk) (Runs.seq (PU H.hk) (Runs.seq (Runs.seq (PV H.hk) r) (In H.hk H.prim PB rfl)))) (.inr rfl) S.n hs rfl rfl, S, ok', cs, h5⟩
end
def fY (v : Int) : Bool := decide (v < 0) || decide (64 ≤ v)
def rs (a : List Int) : Bool := (List.range (a.length - 1)).all fun i => decide (a.getD i 0 < a.getD (i + 1) 0)
def nJ (a : List Int) : Int := if a = [] then 1 else if 5 < a.length then 3 else if a.any fY then 1 else 0
def bU (a : List Int) : Int := if nJ a ≠ 0 then nJ a else if rs a then 0 else 6
theorem yZ (a : List Int) : rs a = true ↔ a.Pairwise (· < ·) := by
 constructor
 · intro h
   have h1 : ∀ i (hi : i + 1 < a.length), a[i] < a[i + 1] := by
    intro i hi
    have := List.all_eq_true.1 h i (List.mem_range.2 (by omega))
    simpa [List.getD_eq_getElem?_getD, List.getElem?_eq_getElem (show i < a.length by omega), List.getElem?_eq_getElem hi] using this
   rw [List.pairwise_iff_getElem]
   intro i j hi hj hij
   obtain ⟨d, rfl⟩ : ∃ d, j = i + 1 + d := ⟨j - (i + 1), by omega⟩
   clear hij
   induction d with
   | zero => exact h1 i hj
   | succ d ih =>
    have e := ih (by omega)
    have e2 := h1 (i + 1 + d) (by omega)
    have : a[i + 1 + (d + 1)] = a[i + 1 + d + 1] := rfl
    omega
 · intro h
   refine List.all_eq_true.2 fun i hi => ?_
   have hi' := List.mem_range.1 hi
   have := List.pairwise_iff_getElem.1 h i (i + 1) (by omega) (by omega) (by omega)
   simpa [List.getD_eq_getElem?_getD, List.getElem?_eq_getElem (show i < a.length by omega), List.getElem?_eq_getElem (show i + 1 < a.length by omega)] using this
theorem Gy {v : Int} : fY v = false ↔ 0 ≤ v ∧ v < 64 := by simp [fY]
theorem pC {a : List Int} : nJ a = 0 ↔ a ≠ [] ∧ a.length ≤ 5 ∧ ∀ v ∈ a, 0 ≤ v ∧ v < 64 := by
 unfold nJ
 by_cases h1 : a = []
 · simp [h1]
 rw [if_neg h1]
 by_cases h2 : 5 < a.length
 · rw [if_pos h2]; constructor
   · intro h; exact absurd h (by decide)
   · rintro ⟨_, h, _⟩; omega
 rw [if_neg h2]
 cases h3 : a.any fY with
 | true =>
  rw [if_pos rfl]; constructor
  · intro h; exact absurd h (by decide)
  · rintro ⟨_, _, h⟩
    obtain ⟨v, hv, hb⟩ := List.any_eq_true.1 h3
    rw [Gy.2 (h v hv)] at hb; cases hb
 | false =>
  rw [if_neg (by simp)]
  refine ⟨fun _ => ⟨h1, by omega, fun v hv => ?_⟩, fun _ => rfl⟩
  exact Gy.1 (by simpa using List.any_eq_false.1 h3 v hv)
theorem c6 {a : List Int} : bU a = 0 ↔ OkS a := by
 unfold bU
 by_cases h : nJ a = 0
 · rw [if_neg (by simp [h])]
   obtain ⟨h1, h2, h3⟩ := pC.1 h
   cases hs : rs a with
   | true => exact ⟨fun _ => ⟨h1, h2, h3, (yZ a).1 hs⟩, fun _ => rfl⟩
   | false =>
    refine ⟨fun e => absurd e (by decide), fun o => ?_⟩
    rw [(yZ a).2 o.asc] at hs; cases hs
 · rw [if_pos h]
   exact ⟨fun e => absurd e h, fun o => absurd (pC.2 ⟨o.ne, o.le, o.rng⟩) h⟩
section
variable {K : Ctx} {h : Hp}
theorem Gz (H : Std K) (v : Int) : Comes K 139 [.nu .i64 v] h (.bo (fY v)) h := by
 have hf : K.P.funcs[139]? = some Tryz.f139 := by rw [H.hP]; exact Tryz.func139
 by_cases h0 : v < 0
 · have : fY v = true := by simp [fY, h0]
   rw [this]
   exact H.go hf (HZ H.hk H.prim H.pl (s := entry 0 [.nu .i64 v]) rfl (CZ h0) rfl) (.inr rfl) (Nat.le_refl _) rfl rfl rfl
 · have o7 := pv (P := K.P) (t := 3) v 64
   have : fY v = cI 64 v := by simp [fY, h0, dO]
   rw [this]
   exact H.go hf (yn H.hk H.prim H.pl (s := entry 0 [.nu .i64 v]) rfl (yX (by omega)) o7 rfl) (.inr rfl) (Nat.le_refl _) rfl rfl rfl
theorem C0 (H : Std K) {a : List Int} {G : FuncId} {C : List CV} {p : Int → Bool} (hbig : a.length < 4611686018427387904) {x : CV} (ha : Row h x (ao a)) (hg : ∀ v ∈ a, Comes K G ([.nu .i64 v] ++ C) h (.bo (p v)) h) : ∃ n, Comes K 166 [x, .fn G C] h (.nu .i64 n) h ∧ cI 0 n = a.any p := by
 have hf : K.P.funcs[166]? = some Tryz.f166 := by rw [H.hP]; exact Tryz.func166
 have hlen := hF H ha
 obtain ⟨s1, r1, k0, k1, k7, k8, ks⟩ : ∃ s1, fX K [1, 0, 0] (T.set (entry 0 [x, .fn G C]) 4 (.nu .i64 0)) h .normal s1 h ∧ s1.at 0 = x ∧ s1.at 1 = .fn G C ∧ s1.at 7 = .nu .i64 (.ofNat a.length) ∧ s1.at 8 = .nu .i64 (.ofNat 0) ∧ s1.at ah = .undef := ⟨_, AR H.hk rfl hlen, rfl, rfl, rfl, rfl, rfl⟩
 have L := bS (K := K) (f := 166) (n := 19) (c := aG [1, 0, 1, 0, 0] (aq Tryz.f166)) (s := s1) (h := h) (m := a.length) (b := 0) (I := fun i s g => g = h ∧ s.at 0 = x ∧ s.at 1 = .fn G C ∧ s.at 7 = .nu .i64 (.ofNat a.length) ∧ s.at 8 = .nu .i64 (.ofNat i) ∧ s.at ah = .undef ∧ (a.take i).any p = false)
  (E := fun s g => g = h ∧ s.at ah = .undef ∧ a.any p = false) (R := fun s g => g = h ∧ s.at ah = .undef ∧ a.any p = true ∧ ∃ j : Nat, s.at 4 = .nu .i64 (.ofNat j)) ⟨rfl, k0, k1, k7, k8, ks, rfl⟩
  (fun i s g hi ⟨e, g0, g1, g7, g8, gs, hall⟩ => by
    subst e
    obtain ⟨q, hp1, hp2⟩ := iu H ha hi
    have hin := hg a[i] (List.getElem_mem hi)
    cases hq : p a[i] with
    | false =>
     rw [hq] at hin
     exact .inl ⟨_, _, mA H.hk H.prim H.pl g8 g7 g1 g0 (aJ hi) hp1 hp2 rfl hin (bh (by omega)), rfl, g0, g1, g7, rfl, gs, iE hi hall hq⟩
    | true =>
     rw [hq] at hin
     exact .inr (.inl ⟨_, _, up H.hk H.prim H.pl g8 g7 g1 g0 (aJ hi) hp1 hp2 rfl hin, rfl, gs, jZ hi hq, i, rfl⟩))
  (fun s g ⟨e, g0, g1, g7, g8, gs, hall⟩ => by
    subst e
    exact ⟨_, _, nU H.hk H.prim H.pl g8 g7 (aS (Nat.le_refl _)), rfl, gs, by rw [List.take_length] at hall; exact hall⟩)
 rcases L with ⟨s', h', r, rfl, hs, hv⟩ | ⟨s', h', r, rfl, hs, hv, j, hj⟩
 · rw [hv]
   exact ⟨-1, H.go hf (Runs.seq (tT H.hk) (Runs.seq (Runs.seq r1 r) (ym H.hk H.prim H.pl))) (.inr rfl) (Nat.le_refl _) hs rfl rfl, rfl⟩
 · rw [hv]
   exact ⟨.ofNat j, H.go hf (Runs.seq (tT H.hk) (ax (Runs.seq r1 r) (by simp))) (.inr rfl) (Nat.le_refl _) hs (by show some [Fr.at s' 4] = _; rw [hj]) rfl, hD (by simp)⟩
theorem zY (H : Std K) {a : List Int} {G : FuncId} {C : List CV} {p : Int → Bool} (hbig : a.length < 4611686018427387904) {x : CV} (ha : Row h x (ao a)) (hg : ∀ v ∈ a, Comes K G ([.nu .i64 v] ++ C) h (.bo (p v)) h) : Comes K 138 [x, .fn G C] h (.bo (a.any p)) h := by
 have hf : K.P.funcs[138]? = some Tryz.f138 := by rw [H.hP]; exact Tryz.func138
 obtain ⟨n, c, hn⟩ := C0 H hbig ha hg
 have o8 := pv (P := K.P) (t := 3) n 0
 rw [hn] at o8
 exact H.go hf (EC H.hk H.prim H.pl (s := entry 0 [x, .fn G C]) rfl rfl c o8) (.inr rfl) (Nat.le_refl _) rfl rfl rfl
theorem y0 (H : Std K) {a : List Int} (hbig : a.length < 4611686018427387904) {x : CV} (ha : Row h x (ao a)) : Comes K 110 [x] h (.nu .i64 (nJ a)) h := by
 have hf : K.P.funcs[110]? = some Tryz.f110 := by rw [H.hP]; exact Tryz.func110
 have hlen := hF H ha
 unfold nJ
 by_cases h1 : a = []
 · rw [if_pos h1]
   exact H.go hf (HY H.hk H.prim H.pl (s := entry 0 [x]) rfl hlen (rp (by rw [h1]; rfl))) (.inr rfl) (Nat.le_refl _) rfl rfl rfl
 have h1' : Int.ofNat a.length ≠ 0 := by
  intro e; exact h1 (List.eq_nil_of_length_eq_zero (by simpa using e))
 rw [if_neg h1]
 by_cases h2 : 5 < a.length
 · rw [if_pos h2]
   exact H.go hf (EB H.hk H.prim H.pl (s := entry 0 [x]) rfl hlen (iC h1') (eb (by show (5 : Int) < Int.ofNat a.length; simp; omega))) (.inr rfl) (Nat.le_refl _) rfl rfl rfl
 rw [if_neg h2]
 have hle : Int.ofNat a.length ≤ 5 := by simp; omega
 have c := zY H hbig ha (G := 139) (C := []) fun v _ => Gz H v
 cases h3 : a.any fY with
 | true =>
  rw [h3] at c
  exact H.go hf (Cw H.hk H.prim H.pl (s := entry 0 [x]) rfl hlen (iC h1') (fM hle) c) (.inr rfl) (Nat.le_refl _) rfl rfl rfl
 | false =>
  rw [h3] at c
  exact H.go hf (sO H.hk H.prim H.pl (s := entry 0 [x]) rfl hlen (iC h1') (fM hle) c) (.inr rfl) (Nat.le_refl _) rfl rfl rfl
theorem fO {a : List Int} {i : Nat} (hi : i < a.length) : a.getD i 0 = a[i] := by rw [List.getD_eq_getElem?_getD, List.getElem?_eq_getElem hi]; rfl
theorem lL (H : Std K) {a : List Int} (hbig : a.length < 4611686018427387904) {x : CV} (ha : Row h x (ao a)) : Comes K 66 [x] h (.nu .i64 (bU a)) h := by
 have hf : K.P.funcs[66]? = some Tryz.f66 := by rw [H.hP]; exact Tryz.func66
 have cv := y0 H hbig ha
 unfold bU
 by_cases h0 : nJ a = 0
 · rw [if_neg (by simp [h0])]
   rw [h0] at cv
   obtain ⟨hne, hle, _⟩ := pC.1 h0
   have hl : 1 ≤ a.length := by cases hq : a with | nil => exact absurd hq hne | cons => simp
   obtain ⟨y, hy1, hy2⟩ := qb H hne ha (lo := some (.nu .i64 1)) (hi := none) (i := 1) (j := a.length) rfl rfl hl (Nat.le_refl _)
   have ht : (a.drop 1).take (a.length - 1) = a.drop 1 := List.take_of_length_le (by simp)
   rw [ht] at hy2
   have hlen := dJ H hy2
   rw [aB, List.length_drop] at hlen
   obtain ⟨s0, r0, j0, js⟩ : ∃ s1, fH K [1, 0] (T.set (entry 0 [x]) 2 (.nu .i64 0)) h .normal s1 h ∧ s1.at 0 = x ∧ s1.at ah = .undef := ⟨_, vK H.hk H.prim H.pl rfl cv rfl, rfl, rfl⟩
   obtain ⟨s1, r1, k0, k12, k13, k14, ks⟩ : ∃ s2, fH K [1, 1, 0, 0] s0 h .normal s2 h ∧ s2.at 0 = x ∧ s2.at 12 = y ∧ s2.at 13 = .nu .i64 (.ofNat (a.length - 1)) ∧ s2.at 14 = .nu .i64 (.ofNat 0) ∧ s2.at ah = .undef := ⟨_, Ej H.hk j0 hy1 hlen, j0, rfl, rfl, rfl, js⟩
   have L := bS (K := K) (f := 66) (n := 26) (c := aG [1, 1, 0, 1, 0, 0] (aq Tryz.f66)) (s := s1) (h := h) (m := a.length - 1) (b := 0) (I := fun i s g => g = h ∧ s.at 0 = x ∧ s.at 12 = y ∧ s.at 13 = .nu .i64 (.ofNat (a.length - 1)) ∧ s.at 14 = .nu .i64 (.ofNat i) ∧ s.at ah = .undef ∧ ((List.range (a.length - 1)).take i).all (fun i => decide (a.getD i 0 < a.getD (i + 1) 0)) = true)
    (E := fun s g => g = h ∧ s.at ah = .undef ∧ rs a = true) (R := fun s g => g = h ∧ s.at ah = .undef ∧ rs a = false ∧ s.at 2 = .nu .i64 6) ⟨rfl, k0, k12, k13, k14, ks, rfl⟩
    (fun i s g hi ⟨e, g0, g12, g13, g14, gs, hall⟩ => by
      subst e
      have hi1 : i < (a.drop 1).length := by simp; omega
      obtain ⟨p, hp1, hp2⟩ := jq H ha (i := i) (by omega)
      obtain ⟨q, hq1, hq2⟩ := jq H hy2 hi1
      have e1 : (a.drop 1)[i] = a[i + 1]'(by omega) := by rw [List.getElem_drop]; congr 1; omega
      rw [e1] at hq2
      by_cases hlt : a[i]'(by omega) < a[i + 1]'(by omega)
      · exact .inl ⟨_, _, mv H.hk H.prim H.pl g14 g13 g12 g0 (aJ hi) hq1 hq2 hp1 hp2 (Qk hlt) (bh (by omega)), rfl, g0, g12, g13, rfl, gs, iD (by simpa using hi) hall (by simp only [List.getElem_range, fO (show i < a.length by omega), fO (show i + 1 < a.length by omega), hlt, decide_true])⟩
      · exact .inr (.inl ⟨_, _, uk H.hk H.prim H.pl g14 g13 g12 g0 (aJ hi) hq1 hq2 hp1 hp2 (Qj (by omega)), rfl, gs, mL (i := i) (by simpa using hi) (by simp only [List.getElem_range, fO (show i < a.length by omega), fO (show i + 1 < a.length by omega), hlt, decide_false]), rfl⟩))
    (fun s g ⟨e, g0, g12, g13, g14, gs, hall⟩ => by
      subst e
      exact ⟨_, _, nT H.hk H.prim H.pl g14 g13 (aS (Nat.le_refl _)), rfl, gs, by rw [List.take_of_length_le (by simp)] at hall; exact hall⟩)
   rcases L with ⟨s', h', r, rfl, hs, hv⟩ | ⟨s', h', r, rfl, hs, hv, h2⟩
   · rw [hv]
     exact H.go hf (Runs.seq (ss H.hk) (Runs.seq r0 (Runs.seq (Runs.seq r1 r) (yi H.hk H.prim H.pl)))) (.inr rfl) (Nat.le_refl _) hs rfl rfl
   · rw [hv]
     exact H.go hf (Runs.seq (ss H.hk) (Runs.seq r0 (ax (Runs.seq r1 r) (by simp)))) (.inr rfl) (Nat.le_refl _) hs (by show some [Fr.at s' 2] = _; rw [h2]) rfl
 · rw [if_pos h0]
   exact H.go hf (Runs.seq (ss H.hk) (ax (Ey H.hk H.prim H.pl rfl cv (jt h0)) (by simp))) (.inr rfl) (Nat.le_refl _) rfl rfl rfl
theorem C1 (H : Std K) {a : List Int} (hbig : a.length < 4611686018427387904) (hbad : bU a ≠ 0) {x : CV} (ha : Row h x (ao a)) : Comes K 73 [x] h (.tup [.nils, .nu .i64 (bU a)]) h := by
 have hf : K.P.funcs[73]? = some Tryz.f73 := by rw [H.hP]; exact Tryz.func73
 exact H.go hf (Runs.seq (x6 H.hk) (ax (Ct H.hk H.prim H.pl rfl (lL H hbig ha) (jt hbad) rfl) (by simp))) (.inr rfl) (Nat.le_refl _) rfl rfl rfl
theorem kQ (H : Std K) (PB : cz K) {a : List Int} (hbig : a.length < 4611686018427387904) {x : CV} (ha : Row h x (ao a)) : Comes K 57 [x] h (.nu .i64 (bU a)) h := by
 have hf : K.P.funcs[57]? = some Tryz.f57 := by rw [H.hP]; exact Tryz.func57
 have hlen := hF H ha
 unfold bU nJ
 by_cases h1 : a = []
 · rw [if_pos (by rw [if_pos h1]; decide), if_pos h1]
   exact H.go hf (Runs.seq (ph H.hk) (ax (Gh H.hk H.prim PB rfl hlen (rp (by rw [h1]; rfl))) (by simp))) (.inr rfl) (Nat.le_refl _) rfl rfl rfl
 have h1' : Int.ofNat a.length ≠ 0 := by
  intro e; exact h1 (List.eq_nil_of_length_eq_zero (by simpa using e))
 simp only [if_neg h1]
 by_cases h2 : 5 < a.length
 · rw [if_pos (by rw [if_pos h2]; decide), if_pos h2]
   exact H.go hf (Runs.seq (ph H.hk) (Runs.seq (vP H.hk H.prim PB rfl hlen (iC h1')) (ax (CM H.hk H.prim PB rfl hlen (eb (by show (5 : Int) < Int.ofNat a.length; simp; omega))) (by simp)))) (.inr rfl) (Nat.le_refl _) rfl rfl rfl
 simp only [if_neg h2]
 have hle : Int.ofNat a.length ≤ 5 := by simp; omega
 obtain ⟨sa, ra, a0, as'⟩ : ∃ s1, dM K [1, 0] (T.set (entry 0 [x]) 2 (.nu .i64 0)) h .normal s1 h ∧ s1.at 0 = x ∧ s1.at ah = .undef := ⟨_, vP H.hk H.prim PB rfl hlen (iC h1'), rfl, rfl⟩
 obtain ⟨sb, rb, b0, bs'⟩ : ∃ s1, dM K [1, 1, 0] sa h .normal s1 h ∧ s1.at 0 = x ∧ s1.at ah = .undef := ⟨_, CN H.hk H.prim PB a0 hlen (fM hle), a0, as'⟩
 obtain ⟨s1, r1, k0, k3, ks⟩ : ∃ s1, dM K [1, 1, 1, 0, 0] sb h .normal s1 h ∧ s1.at 0 = x ∧ s1.at 3 = .nu .i64 (.ofNat 0) ∧ s1.at ah = .undef := ⟨_, PQ H.hk, b0, rfl, bs'⟩
 have L := bS (K := K) (f := 57) (n := 45) (c := aG [1, 1, 1, 0, 1, 0, 0] (aq Tryz.f57)) (s := s1) (h := h) (m := a.length) (b := 0) (I := fun i s g => g = h ∧ s.at 0 = x ∧ s.at 3 = .nu .i64 (.ofNat i) ∧ s.at ah = .undef ∧ (a.take i).any fY = false)
  (E := fun s g => g = h ∧ s.at 0 = x ∧ s.at ah = .undef ∧ a.any fY = false) (R := fun s g => g = h ∧ s.at ah = .undef ∧ a.any fY = true ∧ s.at 2 = .nu .i64 1) ⟨rfl, k0, k3, ks, rfl⟩
  (fun i s g hi ⟨e, g0, g3, gs, hall⟩ => by
    subst e
    obtain ⟨p, hp1, hp2⟩ := iu H ha hi
    by_cases hq : a[i] < 0
    · exact .inr (.inl ⟨_, _, q9 H.hk H.prim PB g3 g0 hlen (aJ hi) hp1 hp2 (CZ hq) rfl, rfl, gs, jZ hi (by simp [fY, hq]), rfl⟩)
    · by_cases hq2 : 64 ≤ a[i]
      · exact .inr (.inl ⟨_, _, re H.hk H.prim PB g3 g0 hlen (aJ hi) hp1 hp2 (yX (by omega)) (Rt hq2) rfl, rfl, gs, jZ hi (by simp [fY, hq2]), rfl⟩)
      · exact .inl ⟨_, _, rh H.hk H.prim PB g3 g0 hlen (aJ hi) hp1 hp2 (yX (by omega)) (Ru (by omega)) rfl (bh (by omega)), rfl, g0, rfl, gs, iE hi hall (by simp [fY]; omega)⟩)
  (fun s g ⟨e, g0, g3, gs, hall⟩ => by
    subst e
    exact ⟨_, _, uQ H.hk H.prim PB g3 g0 hlen (aS (Nat.le_refl _)), rfl, g0, gs, by rw [List.take_length] at hall; exact hall⟩)
 rcases L with ⟨s', h', r, rfl, q0, hs, hv⟩ | ⟨s', h', r, rfl, hs, hv, hr2⟩
 · rw [hv]
   simp only [Bool.false_eq_true, if_false, ne_eq, not_true_eq_false]
   have L2 := bS (K := K) (f := 57) (n := 45) (c := aG [1, 1, 1, 1, 0, 1, 0, 0] (aq Tryz.f57)) (s := T.set s' 4 (.nu .i64 1)) (h := h') (m := a.length - 1) (b := 2) (I := fun i s g => g = h' ∧ s.at 0 = x ∧ s.at 4 = .nu .i64 (.ofNat (i + 1)) ∧ s.at ah = .undef ∧ ((List.range (a.length - 1)).take i).all (fun i => decide (a.getD i 0 < a.getD (i + 1) 0)) = true)
    (E := fun s g => g = h' ∧ s.at ah = .undef ∧ rs a = true) (R := fun s g => g = h' ∧ s.at ah = .undef ∧ rs a = false ∧ s.at 2 = .nu .i64 6) ⟨rfl, q0, rfl, hs, rfl⟩
    (fun i s g hi ⟨e, g0, g4, gs, hall⟩ => by
      subst e
      obtain ⟨p, hp1, hp2⟩ := iu H ha (i := i) (by omega)
      obtain ⟨q, hq1, hq2⟩ := iu H ha (i := i + 1) (by omega)
      by_cases hlt : a[i]'(by omega) < a[i + 1]'(by omega)
      · exact .inl ⟨_, _, rj H.hk H.prim PB g4 g0 hlen (aJ (by omega)) hq1 hq2 (fF _) (nY (by omega)) hp1 hp2 (Qk hlt) (bh (by omega)), rfl, g0, rfl, gs, iD (by simpa using hi) hall (by simp only [List.getElem_range, fO (show i < a.length by omega), fO (show i + 1 < a.length by omega), hlt, decide_true])⟩
      · exact .inr (.inl ⟨_, _, ri H.hk H.prim PB g4 g0 hlen (aJ (by omega)) hq1 hq2 (fF _) (nY (by omega)) hp1 hp2 (Qj (by omega)), rfl, gs, mL (i := i) (by simpa using hi) (by simp only [List.getElem_range, fO (show i < a.length by omega), fO (show i + 1 < a.length by omega), hlt, decide_false]), rfl⟩))
    (fun s g ⟨e, g0, g4, gs, hall⟩ => by
      subst e
      have hl : a.length ≠ 0 := fun e => h1 (List.eq_nil_of_length_eq_zero e)
      exact ⟨_, _, td H.hk H.prim PB g4 g0 hlen (aS (by omega)), rfl, gs, by rw [List.take_of_length_le (by simp)] at hall; exact hall⟩)
   rcases L2 with ⟨s2, h2', r2, rfl, hs2, hv2⟩ | ⟨s2, h2', r2, rfl, hs2, hv2, h22⟩
   · rw [hv2]
     exact H.go hf (Runs.seq (ph H.hk) (Runs.seq ra (Runs.seq rb (Runs.seq (Runs.seq r1 r) (Runs.seq (Runs.seq (Bz H.hk) r2) (CO H.hk H.prim PB)))))) (.inr rfl) (Nat.le_refl _) hs2 rfl rfl
   · rw [hv2]
     exact H.go hf (Runs.seq (ph H.hk) (Runs.seq ra (Runs.seq rb (Runs.seq (Runs.seq r1 r) (ax (Runs.seq (Bz H.hk) r2) (by simp)))))) (.inr rfl) (Nat.le_refl _) hs2 (by show some [Fr.at s2 2] = _; rw [h22]) rfl
 · rw [hv]
   simp only [if_true]
   exact H.go hf (Runs.seq (ph H.hk) (Runs.seq ra (Runs.seq rb (ax (Runs.seq r1 r) (by simp))))) (.inr rfl) (Nat.le_refl _) hs (by show some [Fr.at s' 2] = _; rw [hr2]) rfl
end
structure hK (l : List (List Int)) : Prop where
 len : l.length < 549755813888
 each : ∀ a ∈ l, a.length < 549755813888
section
variable {K : Ctx} {h : Hp}
def tl (l : List (List Int)) (n : Int) : Bool := decide (n < Int.ofNat l.length) || l.any fun a => decide (12 < a.length)
theorem C2 (H : Std K) (PB : cz K) {l : List (List Int)} {n : Int} (hn : n < 4611686018427387904) {x : CV} {cs : List CV} (hx : Row h x cs) (hxs : Rows h cs l) : Comes K 13 [x, .nu .i64 n] h (.bo (tl l n)) h := by
 have hf : K.P.funcs[13]? = some Tryz.f13 := by rw [H.hP]; exact Tryz.func13
 have hlen := fd H hx
 have hcl := hxs.length
 rw [hcl] at hlen
 unfold tl
 by_cases h1 : n < Int.ofNat l.length
 · simp only [h1, decide_true, Bool.true_or]
   exact H.go hf (Runs.seq (yz H.hk) (ax (Gb H.hk H.prim PB rfl rfl hlen (eb h1)) (by simp))) (.inr rfl) (Nat.le_refl _) rfl rfl rfl
 simp only [h1, decide_false, Bool.false_or]
 have hl : l.length < 4611686018427387904 := by simp at h1; omega
 obtain ⟨sa, ra, a0, as'⟩ : ∃ s1, ic K [1, 0] (T.set (entry 0 [x, .nu .i64 n]) 4 (.bo false)) h .normal s1 h ∧ s1.at 0 = x ∧ s1.at ah = .undef := ⟨_, Gc H.hk H.prim PB rfl rfl hlen (fM (by omega)), rfl, rfl⟩
 obtain ⟨s1, r1, k11, k12, k13, ks⟩ : ∃ s1, ic K [1, 1, 0, 0] sa h .normal s1 h ∧ s1.at 11 = x ∧ s1.at 12 = .nu .i64 (.ofNat l.length) ∧ s1.at 13 = .nu .i64 (.ofNat 0) ∧ s1.at ah = .undef := ⟨_, Pq H.hk a0 hlen, rfl, rfl, rfl, as'⟩
 have L := bS (K := K) (f := 13) (n := 21) (c := aG [1, 1, 0, 1, 0, 0] (aq Tryz.f13)) (s := s1) (h := h) (m := l.length) (b := 0) (I := fun i s g => g = h ∧ s.at 11 = x ∧ s.at 12 = .nu .i64 (.ofNat l.length) ∧ s.at 13 = .nu .i64 (.ofNat i) ∧ s.at ah = .undef ∧ (l.take i).any (fun a => decide (12 < a.length)) = false)
  (E := fun s g => g = h ∧ s.at ah = .undef ∧ l.any (fun a => decide (12 < a.length)) = false) (R := fun s g => g = h ∧ s.at ah = .undef ∧ l.any (fun a => decide (12 < a.length)) = true ∧ s.at 4 = .bo true) ⟨rfl, k11, k12, k13, ks, rfl⟩
  (fun i s g hi ⟨e, g11, g12, g13, gs, hall⟩ => by
    subst e
    obtain ⟨p, hp1, hp2⟩ := jp H hx (i := i) (by omega)
    have hr := hxs.get (i := i) (by omega) hi
    have hln := dJ H hr
    rw [aB] at hln
    by_cases hq : 12 < l[i].length
    · exact .inr (.inl ⟨_, _, uI H.hk H.prim PB g13 g12 g11 (aJ hi) hp1 hp2 hln (eb (by show (12 : Int) < Int.ofNat _; simp; omega)), rfl, gs, jZ hi (by simpa using hq), rfl⟩)
    · exact .inl ⟨_, _, uJ H.hk H.prim PB g13 g12 g11 (aJ hi) hp1 hp2 hln (fM (by simp; omega)) (bh (by omega)), rfl, g11, g12, rfl, gs, iE hi hall (by simpa using hq)⟩)
  (fun s g ⟨e, g11, g12, g13, gs, hall⟩ => by
    subst e
    exact ⟨_, _, wP H.hk H.prim PB g13 g12 (aS (Nat.le_refl _)), rfl, gs, by rw [List.take_length] at hall; exact hall⟩)
 rcases L with ⟨s', h', r, rfl, hs, hv⟩ | ⟨s', h', r, rfl, hs, hv, h4⟩
 · rw [hv]
   exact H.go hf (Runs.seq (yz H.hk) (Runs.seq ra (Runs.seq (Runs.seq r1 r) (Ii H.hk H.prim PB)))) (.inr rfl) (Nat.le_refl _) hs rfl rfl
 · rw [hv]
   exact H.go hf (Runs.seq (yz H.hk) (Runs.seq ra (ax (Runs.seq r1 r) (by simp)))) (.inr rfl) (Nat.le_refl _) hs (by show some [Fr.at s' 4] = _; rw [h4]) rfl
def tp (l m : List (List Int)) : Bool := decide (l.length = m.length) && (List.range l.length).all fun i => decide (l.getD i [] = m.getD i [])
theorem GA {l m : List (List Int)} : tp l m = true ↔ l = m := by
 constructor
 · intro h
   unfold tp at h
   rw [Bool.and_eq_true, decide_eq_true_iff] at h
   refine List.ext_getElem h.1 fun i h1 h2 => ?_
   have := List.all_eq_true.1 h.2 i (List.mem_range.2 h1)
   simpa [List.getD_eq_getElem?_getD, List.getElem?_eq_getElem h1, List.getElem?_eq_getElem h2] using this
 · rintro rfl
   unfold tp
   simp
theorem kR {l : List (List Int)} {i : Nat} (hi : i < l.length) : l.getD i [] = l[i] := by rw [List.getD_eq_getElem?_getD, List.getElem?_eq_getElem hi]; rfl
theorem C3 (H : Std K) (PB : cz K) {l m : List (List Int)} (hl : l.length < 4611686018427387904) (hm : ∀ a ∈ l, a.length < 4611686018427387904) {x y : CV} {cs ds : List CV} (hx : Row h x cs) (hxs : Rows h cs l) (hy : Row h y ds) (hys : Rows h ds m) : Comes K 23 [x, y] h (.bo (tp l m)) h := by
 have hf : K.P.funcs[23]? = some Tryz.f23 := by rw [H.hP]; exact Tryz.func23
 have hlen := fd H hx
 have hlem := cL H hy
 have hcl := hxs.length
 have hcm := hys.length
 rw [hcl] at hlen
 rw [hcm] at hlem
 unfold tp
 by_cases h1 : l.length ≠ m.length
 · simp only [h1, decide_false, Bool.false_and]
   exact H.go hf (Runs.seq (yE H.hk) (ax (Gf H.hk H.prim PB rfl rfl hlen hlem (jt (nI h1))) (by simp))) (.inr rfl) (Nat.le_refl _) rfl rfl rfl
 replace h1 : l.length = m.length := Decidable.not_not.1 h1
 simp only [h1, decide_true, Bool.true_and]
 obtain ⟨sa, ra, a0, a1, as'⟩ : ∃ s1, jy K [1, 0] (T.set (entry 0 [x, y]) 4 (.bo false)) h .normal s1 h ∧ s1.at 0 = x ∧ s1.at 1 = y ∧ s1.at ah = .undef := ⟨_, Gg H.hk H.prim PB rfl rfl hlen hlem (mb (by rw [h1])), rfl, rfl, rfl⟩
 have L := bS (K := K) (f := 23) (n := 27) (c := aG [1, 1, 0, 1, 0, 0] (aq Tryz.f23)) (s := T.set sa 5 (.nu .i64 0)) (h := h) (m := m.length) (b := 0) (I := fun i s g => g = h ∧ s.at 0 = x ∧ s.at 1 = y ∧ s.at 5 = .nu .i64 (.ofNat i) ∧ s.at ah = .undef ∧ ((List.range m.length).take i).all (fun i => decide (l.getD i [] = m.getD i [])) = true)
  (E := fun s g => g = h ∧ s.at ah = .undef ∧ (List.range m.length).all (fun i => decide (l.getD i [] = m.getD i [])) = true) (R := fun s g => g = h ∧ s.at ah = .undef ∧ (List.range m.length).all (fun i => decide (l.getD i [] = m.getD i [])) = false ∧ s.at 4 = .bo false) ⟨rfl, a0, a1, rfl, as', rfl⟩
  (fun i s g hi ⟨e, g0, g1, g5, gs, hall⟩ => by
    subst e
    obtain ⟨p, hp1, hp2⟩ := jp H hx (i := i) (by omega)
    obtain ⟨q, hq1, hq2⟩ := fJ H hy (i := i) (by omega)
    have hr := hxs.get (i := i) (by omega) (by omega)
    have hr' := hys.get (i := i) (by omega) (by omega)
    have c := jc H (hm l[i] (List.getElem_mem (by omega))) hr hr'
    by_cases hq : l[i]'(by omega) = m[i]
    · exact .inl ⟨_, _, uP H.hk H.prim PB g5 g0 g1 hlen (aJ (by omega)) hp1 hp2 hr.ceq hq1 hq2 c (mb ((fL _ _).2 hq)) (bh (by omega)), rfl, g0, g1, rfl, gs, iD (by simpa using hi) hall (by simp only [List.getElem_range, kR (show i < l.length by omega), kR hi, hq, decide_true])⟩
    · exact .inr (.inl ⟨_, _, uO H.hk H.prim PB g5 g0 g1 hlen (aJ (by omega)) hp1 hp2 hr.ceq hq1 hq2 c (jt fun e => hq ((fL _ _).1 e)), rfl, gs, mL (i := i) (by simpa using hi) (by simp only [List.getElem_range, kR (show i < l.length by omega), kR hi, hq, decide_false]), rfl⟩))
  (fun s g ⟨e, g0, g1, g5, gs, hall⟩ => by
    subst e
    exact ⟨_, _, wR H.hk H.prim PB g5 g0 hlen (aS (by omega)), rfl, gs, by rw [List.take_of_length_le (by simp)] at hall; exact hall⟩)
 rcases L with ⟨s', h', r, rfl, hs, hv⟩ | ⟨s', h', r, rfl, hs, hv, h4⟩
 · rw [hv]
   exact H.go hf (Runs.seq (yE H.hk) (Runs.seq ra (Runs.seq (Runs.seq (FQ H.hk) r) (Il H.hk H.prim PB)))) (.inr rfl) (Nat.le_refl _) hs rfl rfl
 · rw [hv]
   exact H.go hf (Runs.seq (yE H.hk) (Runs.seq ra (ax (Runs.seq (FQ H.hk) r) (by simp)))) (.inr rfl) (Nat.le_refl _) hs (by show some [Fr.at s' 4] = _; rw [h4]) rfl
def Sel (h : Hp) (h' : Hp) (r : CV) (l : List (List Int)) : Prop := ∃ cs, Out h.n h' 45 r cs ∧ Rows h cs l
theorem zZ (H : Std K) (PB : cz K) (ok : HpOk h) {l : List (List Int)} {b : List Int} (hl : hK l) (hb' : b.length < 4611686018427387904) {x y : CV} {cs : List CV} (hx : Row h x cs) (hxs : Rows h cs l) (hb : Row h y (ao b)) : jz K 60 [x, y] h fun r h' => Sel h h' r (l.filter fun a => fN a b) := by
 have hf : K.P.funcs[60]? = some Tryz.f60 := by rw [H.hP]; exact Tryz.func60
 have hcl := hxs.length
 obtain ⟨s', h', r, ok', S, hs, cs', ho, hr⟩ := cV (K := K) (f := 60) (n := 27) (c := aG [1, 1, 0, 1, 0, 0] (aq Tryz.f60)) (s := T.set (T.set (T.set (entry 0 [x, y]) 4 .nils) 5 .nils) 6 (.nu .i64 0)) (h := h) (m := l.length) (b := 0)
  (I := fun i s g => HpOk g ∧ Same h.n h g ∧ s.at 0 = x ∧ s.at 1 = y ∧ s.at 6 = .nu .i64 (.ofNat i) ∧ s.at ah = .undef ∧ Sel h g (s.at 5) ((l.take i).filter fun a => fN a b))
  (E := fun s g => HpOk g ∧ Same h.n h g ∧ s.at ah = .undef ∧ Sel h g (s.at 5) (l.filter fun a => fN a b)) ⟨ok, Same.refl _ _, rfl, rfl, rfl, rfl, [], .nils, .nil⟩
  (fun i s g hi ⟨okg, S, g0, g1, g6, gs, cs', ho, hr⟩ => by
    have hx2 := hx.mono S ok (Nat.le_refl _)
    have hlen := cL H hx2
    rw [hcl] at hlen
    obtain ⟨p, hp1, hp2⟩ := fJ H hx2 (i := i) (by omega)
    have hri := hxs.get (i := i) (by omega) hi
    have hin := Gx H PB (by have := hl.each l[i] (List.getElem_mem hi); omega) hb' (hri.mono S ok (Nat.le_refl _)) (hb.mono S ok (Nat.le_refl _))
    have hlr := hr.length
    have hfl := gC (fun a => fN a b) l i
    have hll := hl.len
    cases hq : fN l[i] b with
    | true =>
     rw [hq] at hin
     obtain ⟨F, B, x', h', a1, a2, a3, a4, a5⟩ := nE (P := K.P) (t := 26) (v := cs[i]) (by rw [H.hP]; exact pj) okg S.n ho hri.one (by decide) (by omega)
     exact ⟨_, _, uU H.hk H.prim PB g6 g0 g1 rfl hlen (aJ hi) hp1 hp2 hin hp2 a1 a2 (bh (by omega)), a5, S.trans a4, g0, g1, rfl, gs, _, a3, by rw [rq hi hq]; exact hr.snoc hri⟩
    | false =>
     rw [hq] at hin
     exact ⟨_, _, uV H.hk H.prim PB g6 g0 g1 hlen (aJ hi) hp1 hp2 hin (bh (by omega)), okg, S, g0, g1, rfl, gs, cs', ho, by rw [rr hi hq]; exact hr⟩)
  (fun s g ⟨okg, S, g0, g1, g6, gs, cs', ho, hr⟩ => by
    have hlen := cL H (hx.mono S ok (Nat.le_refl _))
    rw [hcl] at hlen
    exact ⟨_, _, wS H.hk H.prim PB g6 g0 hlen (aS (Nat.le_refl _)), okg, S, gs, cs', ho, by rw [List.take_length] at hr; exact hr⟩)
 exact ⟨_, h', H.go hf (Runs.seq (P0 H.hk) (Runs.seq (P1 H.hk) (Runs.seq (Runs.seq (P2 H.hk) r) (Io H.hk H.prim PB rfl)))) (.inr rfl) S.n hs rfl rfl, S, ok', cs', ho, hr⟩
def fZ (l : List (List Int)) (b : List Int) : List (List Int) := l.filter fun a => fN a b
theorem IC (H : Std K) (PB : cz K) (ok : HpOk h) {l : List (List Int)} (hl : hK l) {x : CV} {cs : List CV} (hx : Row h x cs) (hxs : Rows h cs l) : jz K 19 [x] h fun r h' => Sel h h' r (l.filter fun a => decide ((fZ l a).length = 1)) := by
 have hf : K.P.funcs[19]? = some Tryz.f19 := by rw [H.hP]; exact Tryz.func19
 have hcl := hxs.length
 obtain ⟨s', h', r, ok', S, hs, cs', ho, hr⟩ := cV (K := K) (f := 19) (n := 27) (c := aG [1, 1, 0, 1, 0, 0] (aq Tryz.f19)) (s := T.set (T.set (T.set (entry 0 [x]) 2 .nils) 3 .nils) 4 (.nu .i64 0)) (h := h) (m := l.length) (b := 0)
  (I := fun i s g => HpOk g ∧ Same h.n h g ∧ s.at 0 = x ∧ s.at 4 = .nu .i64 (.ofNat i) ∧ s.at ah = .undef ∧ Sel h g (s.at 3) ((l.take i).filter fun a => decide ((fZ l a).length = 1)))
  (E := fun s g => HpOk g ∧ Same h.n h g ∧ s.at ah = .undef ∧ Sel h g (s.at 3) (l.filter fun a => decide ((fZ l a).length = 1))) ⟨ok, Same.refl _ _, rfl, rfl, rfl, [], .nils, .nil⟩
  (fun i s g hi ⟨okg, S, g0, g4, gs, cs', ho, hr⟩ => by
    have hx2 := hx.mono S ok (Nat.le_refl _)
    have hlen := cL H hx2
    rw [hcl] at hlen
    obtain ⟨p, hp1, hp2⟩ := fJ H hx2 (i := i) (by omega)
    have hri := hxs.get (i := i) (by omega) hi
    obtain ⟨rc, g1, c, S1, bP, cc, hoc, hrc⟩ := zZ H PB okg hl (by have := hl.each l[i] (List.getElem_mem hi); omega) hx2 (hxs.mono S ok (Nat.le_refl _)) (hri.mono S ok (Nat.le_refl _))
    have hlc := cL H hoc.row
    rw [hrc.length] at hlc
    have hlr := hr.length
    have hfl := gC (fun a => decide ((fZ l a).length = 1)) l i
    have hll := hl.len
    have S2 : Same h.n h g1 := S.trans (S1.le S.n)
    obtain ⟨p', hp1', hp2'⟩ := fJ H (hx.mono S2 ok (Nat.le_refl _)) (i := i) (by omega)
    rw [hp1] at hp1'; cases hp1'
    by_cases hq : (fZ l l[i]).length = 1
    · obtain ⟨F, B, x', h', a1, a2, a3, a4, a5⟩ := nE (P := K.P) (t := 26) (v := cs[i]) (by rw [H.hP]; exact pj) bP S2.n (ho.mono S1 (Nat.le_refl _)) hri.one (by decide) (by omega)
      exact ⟨_, _, uM H.hk H.prim PB g4 g0 rfl hlen (aJ hi) hp1 hp2 c hlc (rp (by show Int.ofNat (fZ l l[i]).length = 1; rw [hq]; rfl)) hp2' a1 a2 (bh (by omega)), a5, S2.trans a4, g0, rfl, gs, _, a3, by rw [rq hi (by simpa using hq)]; exact hr.snoc hri⟩
    · exact ⟨_, _, uN H.hk H.prim PB g4 g0 hlen (aJ hi) hp1 hp2 c hlc (iC (by show Int.ofNat (fZ l l[i]).length ≠ Int.ofNat 1; exact nI hq)) (bh (by omega)), bP, S2, g0, rfl, gs, cs', ho.mono S1 (Nat.le_refl _), by rw [rr hi (by simpa using hq)]; exact hr⟩)
  (fun s g ⟨okg, S, g0, g4, gs, cs', ho, hr⟩ => by
    have hlen := cL H (hx.mono S ok (Nat.le_refl _))
    rw [hcl] at hlen
    exact ⟨_, _, wQ H.hk H.prim PB g4 g0 hlen (aS (Nat.le_refl _)), okg, S, gs, cs', ho, by rw [List.take_length] at hr; exact hr⟩)
 exact ⟨_, h', H.go hf (Runs.seq (Px H.hk) (Runs.seq (Py H.hk) (Runs.seq (Runs.seq (Pz H.hk) r) (Ik H.hk H.prim PB rfl)))) (.inr rfl) S.n hs rfl rfl, S, ok', cs', ho, hr⟩
end
theorem ID {N M : Nat} {h h1 : Hp} {el el' : Nat} {x y : CV} {cs ys : List CV} (o : Out N h el x cs) (hM : h.n ≤ M) (r : New M h1 el' y ys) : Row (wipe h1 x) y ys := by
 cases r with
 | emp => exact .none _ _ _
 | out r => exact Row.off o hM r
section
variable {K : Ctx} {h : Hp}
theorem Q2 (H : Std K) {N : Nat} {h : Hp} {x y : CV} {a b : List Int} {t' : Nat} (ht' : ∃ e' b' z', ae K.P t' = .slice e' 1 b' z') (ok : HpOk h) (hN : N ≤ h.n) (r : New N h 3 x (ao a)) (hy : Row h y (ao b)) (hb : a.length + b.length < 1099511627776) : ∃ x' h', aT h x y (ae K.P 45) (ae K.P t') = some (x', h') ∧ New N h' 3 x' (ao (a ++ b)) ∧ Same N h h' ∧ HpOk h' := by
 obtain ⟨x', h', h1, h2, h3, h4⟩ := r.app (z := [.nu .i64 0]) (t' := ae K.P t') (bytes := 8) ok hN hy (iw b) rfl ht' (by simp only [aB]; omega) (by simp only [aB]; omega)
 refine ⟨x', h', by rw [← h1, H.hP, t45], ?_, h3, h4⟩
 have : ao (a ++ b) = ao a ++ ao b := by simp [ao]
 rw [this]; exact h2
theorem wk (H : Std K) (ok : HpOk h) {l : List (List Int)} (hl : hK l) {x : CV} {cs : List CV} (hx : Row h x cs) (hxs : Rows h cs l) : jz K 16 [x] h fun r h' => ∃ cs', Own h.n h' 45 r cs' l := by
 have hf : K.P.funcs[16]? = some Tryz.f16 := by rw [H.hP]; exact Tryz.func16
 have hcl := hxs.length
 obtain ⟨s', h', r, ok', S, hs, cs', ho⟩ := cV (K := K) (f := 16) (n := 21) (c := aG [1, 1, 0, 1, 0, 0] (aq Tryz.f16)) (s := T.set (T.set (T.set (entry 0 [x]) 2 .nils) 3 .nils) 4 (.nu .i64 0)) (h := h) (m := l.length) (b := 0)
  (I := fun i s g => HpOk g ∧ Same h.n h g ∧ s.at 0 = x ∧ s.at 4 = .nu .i64 (.ofNat i) ∧ s.at ah = .undef ∧ ∃ cs', Own h.n g 45 (s.at 3) cs' (l.take i))
  (E := fun s g => HpOk g ∧ Same h.n h g ∧ s.at ah = .undef ∧ ∃ cs', Own h.n g 45 (s.at 3) cs' l) ⟨ok, Same.refl _ _, rfl, rfl, rfl, [], Own.nil⟩
  (fun i s g hi ⟨okg, S, g0, g4, gs, cs', ho⟩ => by
    have hr := hx.mono S ok (Nat.le_refl _)
    have hlen := fd H hr
    rw [hcl] at hlen
    have hxi := (hxs.mono S ok (Nat.le_refl _)).get (i := i) (by omega) hi
    have hbig := hl.each l[i] (List.getElem_mem hi)
    obtain ⟨F, B, e1, e2⟩ := BN (P := K.P) (t := 45) (h := g) (by rw [H.hP]; exact t45)
    have Sp : Same g.n g (g.push B) := Same.push (Nat.le_refl _) B
    obtain ⟨y, h1, a1, a2, a3, a4⟩ := Q2 (t' := 46) H (a := []) (b := l[i]) ⟨_, _, _, by rw [H.hP]; exact t46⟩ (okg.push B) Sp.n e2 (hxi.mono Sp okg (Nat.le_refl _)) (by simp; omega)
    rw [List.nil_append] at a2
    have S1 : Same g.n g h1 := Sp.trans a3
    obtain ⟨p, hp1, hp2⟩ := jp H (hr.mono Sp okg (Nat.le_refl _)) (i := i) (by omega)
    have hol := ho.rows.length
    rw [List.length_take] at hol
    have hll := hl.len
    obtain ⟨F2, B2, x', h2, b1, b2, b3, b4, b5⟩ := Own.app (P := K.P) (t := 26) (by rw [H.hP]; exact pj) a4 (S.trans (S1.le S.n)).n (ho.mono S1 okg) (ID ho.out (Nat.le_refl _) a2) (by decide) (by omega)
    exact ⟨_, _, wC H.hk H.prim H.pl g4 g0 rfl hlen (aJ hi) e1 hp1 hp2 a1 b1 b2 (bh (by omega)), b5, (S.trans (S1.le S.n)).trans b4, g0, rfl, gs, _, by rw [cr hi]; exact b3⟩)
  (fun s g ⟨okg, S, g0, g4, gs, cs', ho⟩ => by
    have hlen := fd H (hx.mono S ok (Nat.le_refl _))
    rw [hcl] at hlen
    exact ⟨_, _, wD H.hk H.prim H.pl g4 g0 hlen (aS (Nat.le_refl _)), okg, S, gs, cs', by rw [List.take_length] at ho; exact ho⟩)
 exact ⟨_, h', H.go hf (Runs.seq (M8 H.hk) (Runs.seq (M9 H.hk) (Runs.seq (Runs.seq (Na H.hk) r) (HU H.hk H.prim H.pl rfl)))) (.inr rfl) S.n hs rfl rfl, S, ok', cs', ho⟩
end
def bW (l : List (List Int)) (i : Nat) : Int :=
 if bU (l.getD i []) ≠ 0 then bU (l.getD i [])
 else if 0 < i ∧ a8 (l.getD i []) (l.getD (i - 1) []) = 0 then 5
 else if 0 < i ∧ a8 (l.getD i []) (l.getD (i - 1) []) < 0 then 6
 else if (bg (l.getD i [])).all (fun f => decide (f ∈ l)) then 0 else 7
def nK (l : List (List Int)) : Nat → Nat → Int
 | 0, _ => 0
 | n + 1, i => if bW l i ≠ 0 then bW l i else nK l n (i + 1)
def bI (l : List (List Int)) : Int := if 1024 < l.length then 3 else nK l l.length 0
theorem wl {l : List (List Int)} : ∀ (n i k : Nat), i ≤ k → k < i + n → (∀ j, i ≤ j → j < k → bW l j = 0) → bW l k ≠ 0 → nK l n i = bW l k := by
 intro n
 induction n with
 | zero => intro i k h1 h2; omega
 | succ n ih =>
  intro i k h1 h2 h3 h4
  rcases Nat.eq_or_lt_of_le h1 with rfl | hlt
  · rw [nK, if_pos h4]
  · rw [nK, if_neg (by simp [h3 i (Nat.le_refl _) hlt])]
    exact ih (i + 1) k hlt (by omega) (fun j hj => h3 j (by omega)) h4
theorem BT {l : List (List Int)} : ∀ (n i : Nat), (∀ j, i ≤ j → j < i + n → bW l j = 0) → nK l n i = 0 := by
 intro n
 induction n with
 | zero => intro i _; rfl
 | succ n ih =>
  intro i h
  rw [nK, if_neg (by simp [h i (Nat.le_refl _) (by omega)])]
  exact ih (i + 1) fun j h1 h2 => h j (by omega) (by omega)
theorem GB {l : List (List Int)} : ∀ (n i : Nat), nK l n i = 0 → ∀ j, i ≤ j → j < i + n → bW l j = 0 := by
 intro n
 induction n with
 | zero => intro i _ j h1 h2; omega
 | succ n ih =>
  intro i h j h1 h2
  rw [nK] at h
  by_cases h0 : bW l i = 0
  · rw [if_neg (by simp [h0])] at h
    rcases Nat.eq_or_lt_of_le h1 with rfl | hlt
    · exact h0
    · exact ih (i + 1) h j hlt (by omega)
  · rw [if_pos h0] at h; exact absurd h h0
section
variable {K : Ctx} {h : Hp}
theorem tq {l : List (List Int)} {i : Nat} (h1 : bU (l.getD i []) = 0) (h2 : 0 < i → a8 (l.getD i []) (l.getD (i - 1) []) ≠ 0 ∧ ¬ a8 (l.getD i []) (l.getD (i - 1) []) < 0) : bW l i = if (bg (l.getD i [])).all (fun f => decide (f ∈ l)) then 0 else 7 := by
 unfold bW
 rw [if_neg (fun hn => hn h1), if_neg (fun h => (h2 h.1).1 h.2), if_neg (fun h => (h2 h.1).2 h.2)]
theorem z6 (H : Std K) (PB : cz K) (ok : HpOk h) {l : List (List Int)} (hl : hK l) {x : CV} {cs : List CV} (hx : Row h x cs) (hxs : Rows h cs l) : jz K 17 [x] h fun r _ => r = .nu .i64 (bI l) := by
 have hf : K.P.funcs[17]? = some Tryz.f17 := by rw [H.hP]; exact Tryz.func17
 have hcl := hxs.length
 have hll := hl.len
 have hsm : ∀ a ∈ l, a.length < 4611686018427387904 := fun a ha => by have := hl.each a ha; omega
 have hlen0 := cL H hx
 rw [hcl] at hlen0
 by_cases hbig : 1024 < l.length
 · refine ⟨_, h, H.go hf (Runs.seq (yB H.hk) (ax (Gd H.hk H.prim PB rfl hlen0 (eb (by show (1024 : Int) < Int.ofNat _; simp; omega))) (by simp))) (.inr rfl) (Nat.le_refl _) rfl rfl rfl, Same.refl _ _, ok, ?_⟩
   show CV.nu .i64 3 = _
   rw [bI, if_pos hbig]
 obtain ⟨sa, ra, a0, as'⟩ : ∃ s1, ct K [1, 0] (T.set (entry 0 [x]) 2 (.nu .i64 0)) h .normal s1 h ∧ s1.at 0 = x ∧ s1.at ah = .undef := ⟨_, Ge H.hk H.prim PB rfl hlen0 (fM (by simp; omega)), rfl, rfl⟩
 have L := bS (K := K) (f := 17) (n := 72) (c := aG [1, 1, 0, 1, 0, 0] (aq Tryz.f17)) (s := T.set sa 3 (.nu .i64 0)) (h := h) (m := l.length) (b := 0) (I := fun i s g => HpOk g ∧ Same h.n h g ∧ s.at 0 = x ∧ s.at 3 = .nu .i64 (.ofNat i) ∧ s.at ah = .undef ∧ ∀ j, j < i → bW l j = 0)
  (E := fun s g => HpOk g ∧ Same h.n h g ∧ s.at ah = .undef ∧ bI l = 0) (R := fun s g => HpOk g ∧ Same h.n h g ∧ s.at ah = .undef ∧ s.at 2 = .nu .i64 (bI l)) ⟨ok, Same.refl _ _, a0, rfl, as', fun j hj => absurd hj (Nat.not_lt_zero _)⟩
  (fun i s g hi ⟨okg, S, g0, g3, gs, hall⟩ => by
    have hC : bW l i ≠ 0 → bI l = bW l i := fun hne => by
     rw [bI, if_neg hbig]; exact wl _ 0 i (Nat.zero_le _) (by omega) (fun j _ hj => hall j hj) hne
    have hx2 := hx.mono S ok (Nat.le_refl _)
    have hxs2 := hxs.mono S ok (Nat.le_refl _)
    have hlen := cL H hx2
    rw [hcl] at hlen
    obtain ⟨p, hp1, hp2⟩ := fJ H hx2 (i := i) (by omega)
    have hri := hxs2.get (i := i) (by omega) hi
    have hle := hl.each l[i] (List.getElem_mem hi)
    have e0 := kR hi
    have c57 := kQ H PB (by omega) hri
    obtain ⟨s1, r1, k0, k3, ks⟩ : ∃ s1, ct K [1, 1, 0, 1, 0, 0, 0] s g .normal s1 g ∧ s1.at 0 = x ∧ s1.at 3 = .nu .i64 (.ofNat i) ∧ s1.at ah = .undef := ⟨_, uK H.hk H.prim PB g3 g0 hlen (aJ hi), g0, g3, gs⟩
    by_cases h1 : bU l[i] = 0
    case neg =>
     rw [← e0] at h1
     have hat : bW l i = bU l[i] := by unfold bW; rw [if_pos h1, e0]
     rw [e0] at h1
     exact .inr (.inl ⟨_, _, Runs.seq r1 (ax (az (ax (qr H.hk H.prim PB k0 k3 hp1 hp2 c57 (jt h1)) (by simp))) (by simp)), okg, S, ks, by rw [hC (by rw [hat]; exact h1), hat]; rfl⟩)
    obtain ⟨s2, r2, l0, l3, ls⟩ : ∃ s2, ct K [1, 1, 0, 1, 0, 0, 1, 0, 0, 0] s1 g .normal s2 g ∧ s2.at 0 = x ∧ s2.at 3 = .nu .i64 (.ofNat i) ∧ s2.at ah = .undef := ⟨_, qt H.hk H.prim PB k0 k3 hp1 hp2 c57 (mb h1), k0, k3, ks⟩
    have h1' : bU (l.getD i []) = 0 := by rw [e0]; exact h1
    have hnb : (0 < i ∧ a8 (l.getD i []) (l.getD (i - 1) []) = 0 ∧ ∃ s3, ct K [1, 1, 0, 1, 0, 0, 1, 0, 0, 1, 0] s2 g .ret s3 g ∧ s3.at 2 = .nu .i64 5 ∧ s3.at ah = .undef) ∨
     ((0 < i → a8 (l.getD i []) (l.getD (i - 1) []) ≠ 0) ∧ ∃ s3, ct K [1, 1, 0, 1, 0, 0, 1, 0, 0, 1, 0] s2 g .normal s3 g ∧ s3.at 0 = x ∧ s3.at 3 = .nu .i64 (.ofNat i) ∧ s3.at ah = .undef) := by
     cases i with
     | zero => exact .inr ⟨fun h => absurd h (Nat.lt_irrefl _), _, ou H.hk H.prim PB l3 (fM (by decide)) rfl, l0, l3, ls⟩
     | succ k =>
      obtain ⟨q, hq1, hq2⟩ := fJ H hx2 (i := k) (by omega)
      have hrk := hxs2.get (i := k) (by omega) (by omega)
      have cc := jc H (hsm _ (List.getElem_mem hi)) hri hrk
      have ek : l.getD (k + 1 - 1) [] = l[k]'(by omega) := kR (i := k) (by omega)
      rw [e0, ek]
      have hpos : (0 : Int) < Int.ofNat (k + 1) := by simp
      by_cases hc : a8 l[k + 1] (l[k]'(by omega)) = 0
      · exact .inl ⟨by omega, hc, _, oq H.hk H.prim PB l3 l0 (eb hpos) hp1 hp2 hri.ceq (nY (by omega)) hq1 hq2 cc (rp hc) rfl, rfl, ls⟩
      · exact .inr ⟨fun _ => hc, _, ot H.hk H.prim PB l3 l0 (eb hpos) hp1 hp2 hri.ceq (nY (by omega)) hq1 hq2 cc (iC hc) rfl, l0, l3, ls⟩
    rcases hnb with ⟨hpos, hc, s3, r3, h32, h3s⟩ | ⟨hc, s3, r3, l0, l3, ls⟩
    · have hat : bW l i = 5 := by unfold bW; rw [if_neg (fun hn => hn h1'), if_pos ⟨hpos, hc⟩]
      exact .inr (.inl ⟨_, _, Runs.seq r1 (ax (az (Runs.seq r2 (ax r3 (by simp)))) (by simp)), okg, S, h3s, by rw [hC (by rw [hat]; decide), hat]; exact h32⟩)
    have hnb2 : (0 < i ∧ a8 (l.getD i []) (l.getD (i - 1) []) < 0 ∧ ∃ s4, ct K [1, 1, 0, 1, 0, 0, 1, 0, 0, 1, 1, 0] s3 g .ret s4 g ∧ s4.at 2 = .nu .i64 6 ∧ s4.at ah = .undef) ∨
     ((0 < i → ¬ a8 (l.getD i []) (l.getD (i - 1) []) < 0) ∧ ∃ s4, ct K [1, 1, 0, 1, 0, 0, 1, 0, 0, 1, 1, 0] s3 g .normal s4 g ∧ s4.at 0 = x ∧ s4.at 3 = .nu .i64 (.ofNat i) ∧ s4.at ah = .undef) := by
     cases i with
     | zero => exact .inr ⟨fun h => absurd h (Nat.lt_irrefl _), _, nD H.hk H.prim PB l3 (fM (by decide)) rfl, l0, l3, ls⟩
     | succ k =>
      obtain ⟨q, hq1, hq2⟩ := fJ H hx2 (i := k) (by omega)
      have hrk := hxs2.get (i := k) (by omega) (by omega)
      have cc := jc H (hsm _ (List.getElem_mem hi)) hri hrk
      have ek : l.getD (k + 1 - 1) [] = l[k]'(by omega) := kR (i := k) (by omega)
      rw [e0, ek]
      have hpos : (0 : Int) < Int.ofNat (k + 1) := by simp
      by_cases hc : a8 l[k + 1] (l[k]'(by omega)) < 0
      · exact .inl ⟨by omega, hc, _, nB H.hk H.prim PB l3 l0 (eb hpos) hp1 hp2 hri.ceq (nY (by omega)) hq1 hq2 cc (CZ hc) rfl, rfl, ls⟩
      · exact .inr ⟨fun _ => hc, _, nC H.hk H.prim PB l3 l0 (eb hpos) hp1 hp2 hri.ceq (nY (by omega)) hq1 hq2 cc (yX (by omega)) rfl, l0, l3, ls⟩
    rcases hnb2 with ⟨hpos, hc2, s4, r4, h42, h4s⟩ | ⟨hc2, s4, r4, l0, l3, ls⟩
    · have hat : bW l i = 6 := by unfold bW; rw [if_neg (fun hn => hn h1'), if_neg (fun h => hc h.1 h.2), if_pos ⟨hpos, hc2⟩]
      exact .inr (.inl ⟨_, _, Runs.seq r1 (ax (az (Runs.seq r2 (Runs.seq r3 (ax r4 (by simp))))) (by simp)), okg, S, h4s, by rw [hC (by rw [hat]; decide), hat]; exact h42⟩)
    have hat := tq h1' (fun hp => ⟨hc hp, hc2 hp⟩)
    rw [e0] at hat
    have okS := c6.1 h1
    obtain ⟨y, g1, cf, Sf, okf, fs, hof⟩ := zX H PB okg okS.ne hle hri
    have S1 : Same h.n h g1 := S.trans (Sf.le S.n)
    obtain ⟨s5, r5, m0, m3, m5, m6, ms⟩ : ∃ s5, ct K [1, 1, 0, 1, 0, 0, 1, 0, 0, 1, 1, 1, 0] s4 g .normal s5 g1 ∧ s5.at 0 = x ∧ s5.at 3 = .nu .i64 (.ofNat i) ∧ s5.at 5 = y ∧ True ∧ s5.at ah = .undef := ⟨_, LI H.hk l0 l3 hp1 hp2 (H.prim _ _) cf, l0, l3, rfl, trivial, ls⟩
    have hfa := hof.all
    have hfr := hof.out.row
    have hfl := hfa.length
    have hfm : (bg l[i]).length ≤ 5 := Nat.le_trans (mK _) okS.le
    have L2 := bS (K := K) (f := 17) (n := 72) (c := aG [1, 1, 0, 1, 0, 0, 1, 0, 0, 1, 1, 1, 1, 1, 0, 0] (aq Tryz.f17)) (s := T.set s5 6 (.nu .i64 0)) (h := g1) (m := (bg l[i]).length) (b := 2) (I := fun k s g => g = g1 ∧ s.at 0 = x ∧ s.at 3 = .nu .i64 (.ofNat i) ∧ s.at 5 = y ∧ s.at 6 = .nu .i64 (.ofNat k) ∧ s.at ah = .undef ∧ ((bg l[i]).take k).all (fun f => decide (f ∈ l)) = true)
     (E := fun s g => g = g1 ∧ s.at 0 = x ∧ s.at 3 = .nu .i64 (.ofNat i) ∧ s.at ah = .undef ∧ (bg l[i]).all (fun f => decide (f ∈ l)) = true) (R := fun s g => g = g1 ∧ s.at ah = .undef ∧ s.at 2 = .nu .i64 7 ∧ (bg l[i]).all (fun f => decide (f ∈ l)) = false) ⟨rfl, m0, m3, m5, rfl, ms, rfl⟩
     (fun k s g hk ⟨e, g0, g3, g5, g6, gs, hallk⟩ => by
       subst e
       have hlf := cL H hfr
       rw [hfl] at hlf
       obtain ⟨q, hq1, hq2⟩ := fJ H hfr (i := k) (by omega)
       have hrk := hfa.get (i := k) (by omega) hk
       have ci := Gn H hll hsm (hx.mono S1 ok (Nat.le_refl _)) (hxs.mono S1 ok (Nat.le_refl _)) hrk
       cases hin : cI 0 (CS l (bg l[i])[k]) with
       | true =>
        have hmem := BS.1 hin
        exact .inl ⟨_, _, kJ H.hk H.prim PB g6 g5 g0 hlf (aJ hk) hq1 hq2 ci (by rw [jn, hin]; rfl) (bh (by omega)), rfl, g0, g3, g5, rfl, gs, iD hk hallk (by simpa using hmem)⟩
       | false =>
        have hmem : (bg l[i])[k] ∉ l := fun hm => by rw [BS.2 hm] at hin; cases hin
        exact .inr (.inl ⟨_, _, kI H.hk H.prim PB g6 g5 g0 hlf (aJ hk) hq1 hq2 ci (by rw [jn, hin]; rfl), rfl, gs, rfl, mL hk (by simpa using hmem)⟩))
     (fun s g ⟨e, g0, g3, g5, g6, gs, hallk⟩ => by
       subst e
       have hlf := cL H hfr
       rw [hfl] at hlf
       exact ⟨_, _, ld H.hk H.prim PB g6 g5 hlf (aS (Nat.le_refl _)), rfl, g0, g3, gs, by rw [List.take_length] at hallk; exact hallk⟩)
    rcases L2 with ⟨s6, h6, r6, rfl, n0, n3, ns, hv⟩ | ⟨s6, h6, r6, rfl, ns, n2, hv⟩
    · rw [hv, if_pos rfl] at hat
      exact .inl ⟨_, _, Runs.seq r1 (Runs.seq (au (Runs.seq r2 (Runs.seq r3 (Runs.seq r4 (Runs.seq r5 (Runs.seq (Bu H.hk) r6)))))) (Pw H.hk n3 (bh (by omega)))), okf, S1, n0, rfl, ns, fun j hj => by
       rcases Nat.lt_or_ge j i with hlt | hge
       · exact hall j hlt
       · obtain rfl : j = i := by omega
         exact hat⟩
    · rw [hv, if_neg (by simp)] at hat
      exact .inr (.inl ⟨_, _, Runs.seq r1 (ax (az (Runs.seq r2 (Runs.seq r3 (Runs.seq r4 (Runs.seq r5 (Runs.seq (Bu H.hk) r6)))))) (by simp)), okf, S1, ns, by rw [hC (by rw [hat]; decide), hat]; exact n2⟩))
  (fun s g ⟨okg, S, g0, g3, gs, hall⟩ => by
    have hlen := cL H (hx.mono S ok (Nat.le_refl _))
    rw [hcl] at hlen
    refine ⟨_, _, ax (uL H.hk H.prim PB g3 g0 hlen (aS (Nat.le_refl _))) (by simp), okg, S, gs, ?_⟩
    rw [bI, if_neg hbig]; exact BT _ 0 fun j _ hj => hall j (by omega))
 rcases L with ⟨s', h', r, ok', S, hs, hv⟩ | ⟨s', h', r, ok', S, hs, h2⟩
 · exact ⟨_, h', H.go hf (Runs.seq (yB H.hk) (Runs.seq ra (Runs.seq (Runs.seq (FI H.hk) r) (Ij H.hk H.prim PB)))) (.inr rfl) S.n hs rfl rfl, S, ok', by rw [hv]; rfl⟩
 · exact ⟨_, h', H.go hf (Runs.seq (yB H.hk) (Runs.seq ra (ax (Runs.seq (FI H.hk) r) (by simp)))) (.inr rfl) S.n hs (by show some [Fr.at s' 2] = _; rw [h2]) rfl, S, ok', rfl⟩
end
end Go.CP
