import Derived.Test.YtadagifjonbmjaaGreatDoorKw1
import Derived.Test.YtadagifjonbmjaaGreatDoorKl4
import Derived.Test.YtadagifjonbmjaaGreatDoorKv3
import Derived.Test.YtadagifjonbmjaaGreatDoorKs0
import Derived.Test.YtadagifjonbmjaaGreatDoorKv1
import Derived.Test.YtadagifjonbmjaaGreatDoorKv2
set_option linter.all false
namespace Go.CP
open Go.Proofs
variable [LG] [HK]
def gQ (c : Nat) : Bool := Nat.ble 48 c && Nat.ble c 57
def dw (t : List Nat) (a : Nat) : Nat → Nat → Nat → Option Nat × Nat
 | 0, i, n => (some n, i)
 | m + 1, i, n => match t[i]? with
  | none => (some n, i)
  | some c => match gQ c with
   | false => (some n, i)
   | true => if i = a + 9 ∨ (a < i ∧ t[a]? = some 48) then (none, i) else dw t a m (i + 1) (10 * n + (c - 48))
def dQ (t : List Nat) (a : Nat) : Option Nat × Nat := match t[a]? with
 | none => (none, a)
 | some c => match gQ c with
  | false => (none, a)
  | true => dw t a (t.length - a) a 0
theorem oC (t : List Nat) (a : Nat) : ∀ m i n, i ≤ (dw t a m i n).2 ∧ (dw t a m i n).2 ≤ i + m
 | 0, i, n => ⟨Nat.le_refl _, Nat.le_refl _⟩
 | m + 1, i, n => by
  unfold dw
  split
  · exact ⟨Nat.le_refl _, Nat.le_add_right _ _⟩
  · split
    · exact ⟨Nat.le_refl _, Nat.le_add_right _ _⟩
    · split
      · exact ⟨Nat.le_refl _, Nat.le_add_right _ _⟩
      · have := oC t a m (i + 1) (10 * n + (‹Nat› - 48))
        constructor <;> omega
theorem xG {t : List Nat} {a : Nat} (ha : a ≤ t.length) : a ≤ (dQ t a).2 ∧ (dQ t a).2 ≤ t.length := by
 unfold dQ
 split
 · exact ⟨Nat.le_refl _, ha⟩
 · split
   · exact ⟨Nat.le_refl _, ha⟩
   · have := oC t a (t.length - a) a 0
     constructor <;> omega
theorem tK {t : List Nat} {a n j : Nat} (h : dQ t a = (some n, j)) : a < j := by
 unfold dQ at h
 split at h
 · cases h
 · rename_i c hc
   split at h
   · cases h
   · rename_i hd
     have hl : a < t.length := by
      rcases Nat.lt_or_ge a t.length with h1 | h1
      · exact h1
      · rw [List.getElem?_eq_none h1] at hc; cases hc
     obtain ⟨m, hm⟩ : ∃ m, t.length - a = m + 1 := ⟨t.length - a - 1, by omega⟩
     rw [hm, dw, hc] at h
     simp only [hd] at h
     rw [if_neg (by omega)] at h
     have := (oC t a m (a + 1) (10 * 0 + (c - 48))).1
     rw [h] at this; exact this
section
variable {K : Ctx} {h : Hp}
theorem cZ (H : Std K) (t : List Nat) : an h (.st t) (ae K.P 9) = some (.nu .i64 (.ofNat t.length)) := by rw [H.hP, t9]; rfl
theorem FP (H : Std K) {t : List Nat} {i c : Nat} (hc : t[i]? = some c) : bC (.st t) (.nu .i64 (.ofNat i)) (ae K.P 9) = some (.nu .u8 (.ofNat c)) := by
 rw [H.hP, t9]; simp only [bC, hc]
theorem tL {α : Type} {t : List α} {i : Nat} {c : α} (h : t[i]? = some c) : i < t.length := by
 rcases Nat.lt_or_ge i t.length with h1 | h1
 · exact h1
 · rw [List.getElem?_eq_none h1] at h; cases h
theorem FQ {P : Program} {t : TypeId} (x y : Nat) : ab P .eql t (.nu .i64 (.ofNat x)) (.nu .i64 (.ofNat y)) = some (.bo (Nat.beq x y)) := rfl
theorem DI {x y : Nat} (h : x = y) : Nat.beq x y = true := by rw [h]; exact Nat.beq_refl _
theorem oD {x y : Nat} (h : x ≠ y) : Nat.beq x y = false := by
 cases hq : Nat.beq x y with
 | false => rfl
 | true => exact absurd (Nat.eq_of_beq_eq_true hq) h
theorem qk {P : Program} {t : TypeId} (x y : Nat) : ab P .gtr t (.nu .i64 (.ofNat x)) (.nu .i64 (.ofNat y)) = some (.bo (!(Nat.ble x y))) := rfl
theorem vI {P : Program} {t : TypeId} {x y : Nat} (h : x + y < 9223372036854775808) : ab P .add t (.nu .i64 (.ofNat x)) (.nu .i64 (.ofNat y)) = some (.nu .i64 (.ofNat (x + y))) := by
 rw [w9 (by simp only [Int.ofNat_eq_natCast]; omega) (by simp only [Int.ofNat_eq_natCast]; omega)]; rfl
theorem Mn {P : Program} {t : TypeId} {x y : Nat} (h : y ≤ x) (hx : x < 9223372036854775808) : ab P .sub t (.nu .i64 (.ofNat x)) (.nu .i64 (.ofNat y)) = some (.nu .i64 (.ofNat (x - y))) := by
 show some (gu .i64 (Int.ofNat x - Int.ofNat y)) = _
 rw [ez, show Int.ofNat x - Int.ofNat y = Int.ofNat (x - y) by simp only [Int.ofNat_eq_natCast]; omega, fq _ (by omega)]
theorem Mo {P : Program} {t : TypeId} {x y : Nat} (h : x * y < 9223372036854775808) : ab P .mul t (.nu .i64 (.ofNat x)) (.nu .i64 (.ofNat y)) = some (.nu .i64 (.ofNat (x * y))) := by
 show some (gu .i64 (Int.ofNat x * Int.ofNat y)) = _
 rw [ez, show Int.ofNat x * Int.ofNat y = Int.ofNat (x * y) from rfl, fq _ h]
theorem Mp {P : Program} {t : TypeId} {c : Nat} (h : gQ c = true) : ab P .sub t (.nu .u8 (.ofNat c)) (.nu .u8 48) = some (.nu .u8 (.ofNat (c - 48))) := by
 unfold gQ at h
 rw [Bool.and_eq_true] at h
 have h1 := Nat.le_of_ble_eq_true h.1
 have h2 := Nat.le_of_ble_eq_true h.2
 have h3 : Nat.blt (c - 48) 256 = true := by simp; omega
 show some (gu .u8 (Int.ofNat c - 48)) = _
 rw [show Int.ofNat c - 48 = Int.ofNat (c - 48) by simp only [Int.ofNat_eq_natCast]; omega]
 simp only [gu, vn, h3, cond_true]
theorem MY (H : Std K) {n : Nat} (hn : n < 100) : fO K.P (.nu .u8 (.ofNat n)) (ae K.P 5) (ae K.P 3) = none ∧ fV K.P h (.nu .u8 (.ofNat n)) (ae K.P 5) (ae K.P 3) = some (.nu .i64 (.ofNat n)) := by
 rw [H.hP, t5, t3]
 refine ⟨rfl, ?_⟩
 show some (gu .i64 (.ofNat n)) = _
 rw [ez, fq _ (by omega)]
theorem MZ {c : Nat} (h : gQ c = true) : 48 ≤ c ∧ c ≤ 57 := by
 unfold gQ at h
 rw [Bool.and_eq_true] at h
 exact ⟨Nat.le_of_ble_eq_true h.1, Nat.le_of_ble_eq_true h.2⟩
theorem M6 {n k c : Nat} (hn : n < 10 ^ k) (hc : c ≤ 57) : 10 * n + (c - 48) < 10 ^ (k + 1) := by
 rw [Nat.pow_succ]; omega
theorem FR (H : Std K) (PT : eX K) {t : List Nat} (ht : t.length < 4611686018427387904) {a : Nat} : ∀ (m i n : Nat) (s : Fr), i + m = t.length → a ≤ i → i ≤ a + 9 → n < 10 ^ (i - a) → s.at 0 = .st t → s.at 1 = .nu .i64 (.ofNat a) → s.at 4 = .nu .i64 (.ofNat n) → s.at 5 = .nu .i64 (.ofNat i) → s.at ag = .undef →
  ∃ e s', fi K [1, 1, 0, 0] s h e s' h ∧ s'.at ag = .undef ∧ match dw t a m i n with
   | (some n', j) => e = .exit 0 ∧ s'.at 1 = .nu .i64 (.ofNat a) ∧ s'.at 4 = .nu .i64 (.ofNat n') ∧ s'.at 5 = .nu .i64 (.ofNat j)
   | (none, j) => e = .ret ∧ s'.at 4 = .nu .i64 0 ∧ s'.at 5 = .nu .i64 (.ofNat j) ∧ s'.at 6 = .bo false := by
 intro m
 induction m with
 | zero =>
  intro i n s him ha h9 hn h0 h1 h4 h5 hs
  exact ⟨_, _, aE (vc H.hk H.prim PT h5 h0 (cZ H t) (aY (by omega)) rfl) (by simp), hs, rfl, h1, h4, h5⟩
 | succ m ih =>
  intro i n s him ha h9 hn h0 h1 h4 h5 hs
  have hi : i < t.length := by omega
  have hc := List.getElem?_eq_getElem hi
  generalize t[i] = c at hc
  have hix := FP (K := K) H hc
  have o16 : ab K.P .geq 5 (.nu .u8 (.ofNat c)) (.nu .u8 48) = some (.bo (Nat.ble 48 c)) := rfl
  have o22 : ab K.P .leq 5 (.nu .u8 (.ofNat c)) (.nu .u8 57) = some (.bo (Nat.ble c 57)) := rfl
  have hnum : dw t a (m + 1) i n = match gQ c with
   | false => (some n, i)
   | true => if i = a + 9 ∨ (a < i ∧ t[a]? = some 48) then (none, i) else dw t a m (i + 1) (10 * n + (c - 48)) := by rw [dw, hc]
  rw [hnum]
  cases h48 : Nat.ble 48 c with
  | false =>
   rw [h48] at o16
   have hd : gQ c = false := by unfold gQ; rw [h48]; rfl
   rw [hd]
   exact ⟨_, _, aE (th H.hk H.prim PT h5 h0 (cZ H t) (aM hi) hix o16 rfl rfl) (by simp), hs, rfl, h1, h4, h5⟩
  | true =>
  rw [h48] at o16
  cases h57 : Nat.ble c 57 with
  | false =>
   rw [h57] at o22
   have hd : gQ c = false := by unfold gQ; rw [h57, Bool.and_false]
   rw [hd]
   exact ⟨_, _, aE (tg H.hk H.prim PT h5 h0 (cZ H t) (aM hi) hix o16 rfl o22 rfl) (by simp), hs, rfl, h1, h4, h5⟩
  | true =>
  rw [h57] at o22
  have hd : gQ c = true := by unfold gQ; rw [h48, h57]; rfl
  rw [hd]
  obtain ⟨hc1, hc2⟩ := MZ hd
  have o26 : ab K.P .add 3 (.nu .i64 (.ofNat a)) (.nu .i64 9) = some (.nu .i64 (.ofNat (a + 9))) := vI (x := a) (y := 9) (by omega)
  by_cases hi9 : i = a + 9
  · have o27 : ab K.P .eql 3 (.nu .i64 (.ofNat i)) (.nu .i64 (.ofNat (a + 9))) = some (.bo true) := by rw [FQ, DI hi9]
    show ∃ e s', _ ∧ _ ∧ (match (if i = a + 9 ∨ (a < i ∧ t[a]? = some 48) then _ else _ : Option Nat × Nat) with | (some n', j) => _ | (none, j) => _)
    rw [if_pos (.inl hi9)]
    exact ⟨_, _, aE (ph H.hk H.prim PT h5 h0 h1 (cZ H t) (aM hi) hix o16 rfl o22 rfl o26 o27 rfl) (by simp), hs, rfl, rfl, rfl, rfl⟩
  · have o27 : ab K.P .eql 3 (.nu .i64 (.ofNat i)) (.nu .i64 (.ofNat (a + 9))) = some (.bo false) := by rw [FQ, oD hi9]
    have hk8 : n < 100000000 := Nat.lt_of_lt_of_le hn (Nat.le_trans (Nat.pow_le_pow_right (by decide) (show i - a ≤ 8 by omega)) (by decide))
    have o41 : ab K.P .mul 3 (.nu .i64 10) (.nu .i64 (.ofNat n)) = some (.nu .i64 (.ofNat (10 * n))) := Mo (x := 10) (y := n) (by omega)
    obtain ⟨l46, o46⟩ := MY (h := h) H (n := c - 48) (by omega)
    have o47 := vI (P := K.P) (t := 3) (x := 10 * n) (y := c - 48) (by omega)
    have hn' : 10 * n + (c - 48) < 10 ^ (i + 1 - a) := by
     rw [show i + 1 - a = (i - a) + 1 by omega]; exact M6 hn hc2
    by_cases hai : a < i
    · have o31 : ab K.P .gtr 3 (.nu .i64 (.ofNat i)) (.nu .i64 (.ofNat a)) = some (.bo true) := by rw [qk, jp hai]; rfl
      have hca := List.getElem?_eq_getElem (show a < t.length by omega)
      generalize t[a] = ca at hca
      have hix2 := FP (K := K) H hca
      have o36 : ab K.P .eql 5 (.nu .u8 (.ofNat ca)) (.nu .u8 48) = some (.bo (Nat.beq ca 48)) := rfl
      cases hz : Nat.beq ca 48 with
      | true =>
       rw [hz] at o36
       have hz' : t[a]? = some 48 := by rw [hca, Nat.eq_of_beq_eq_true hz]
       show ∃ e s', _ ∧ _ ∧ (match (if i = a + 9 ∨ (a < i ∧ t[a]? = some 48) then _ else _ : Option Nat × Nat) with | (some n', j) => _ | (none, j) => _)
       rw [if_pos (.inr ⟨hai, hz'⟩)]
       exact ⟨_, _, aE (pj H.hk H.prim PT h5 h0 h1 (cZ H t) (aM hi) hix o16 rfl o22 rfl o26 o27 o31 hix2 o36 rfl rfl) (by simp), hs, rfl, rfl, rfl, rfl⟩
      | false =>
       rw [hz] at o36
       have hz' : ¬ (i = a + 9 ∨ (a < i ∧ t[a]? = some 48)) := by
        rintro (h1 | ⟨_, h1⟩)
        · exact hi9 h1
        · rw [hca] at h1; injection h1 with h1; rw [h1] at hz; cases hz
       obtain ⟨s1, r1, k0, k1, k4, k5, ks⟩ : ∃ s1, fi K [1, 1, 0, 0, 0] s h .normal s1 h ∧ s1.at 0 = .st t ∧ s1.at 1 = .nu .i64 (.ofNat a) ∧ s1.at 4 = .nu .i64 (.ofNat (10 * n + (c - 48))) ∧ s1.at 5 = .nu .i64 (.ofNat (i + 1)) ∧ s1.at ag = .undef :=
        ⟨_, pk H.hk H.prim PT h5 h0 h1 h4 (cZ H t) (aM hi) hix o16 rfl o22 rfl o26 o27 o31 hix2 o36 rfl rfl o41 (Mp hd) l46 o46 o47 (bI (by omega)), h0, h1, rfl, rfl, hs⟩
       obtain ⟨e, s', r2, rest⟩ := ih (i + 1) _ s1 (by omega) (by omega) (by omega) hn' k0 k1 k4 k5 ks
       refine ⟨e, s', Runs.loop r1 r2, ?_⟩
       show _ ∧ (match (if i = a + 9 ∨ (a < i ∧ t[a]? = some 48) then _ else _ : Option Nat × Nat) with | (some n', j) => _ | (none, j) => _)
       rw [if_neg hz']; exact rest
    · have o31 : ab K.P .gtr 3 (.nu .i64 (.ofNat i)) (.nu .i64 (.ofNat a)) = some (.bo false) := by rw [qk, cC (by omega)]; rfl
      have hz' : ¬ (i = a + 9 ∨ (a < i ∧ t[a]? = some 48)) := by omega
      obtain ⟨s1, r1, k0, k1, k4, k5, ks⟩ : ∃ s1, fi K [1, 1, 0, 0, 0] s h .normal s1 h ∧ s1.at 0 = .st t ∧ s1.at 1 = .nu .i64 (.ofNat a) ∧ s1.at 4 = .nu .i64 (.ofNat (10 * n + (c - 48))) ∧ s1.at 5 = .nu .i64 (.ofNat (i + 1)) ∧ s1.at ag = .undef :=
       ⟨_, pm H.hk H.prim PT h5 h0 h1 h4 (cZ H t) (aM hi) hix o16 rfl o22 rfl o26 o27 o31 rfl rfl o41 (Mp hd) l46 o46 o47 (bI (by omega)), h0, h1, rfl, rfl, hs⟩
      obtain ⟨e, s', r2, rest⟩ := ih (i + 1) _ s1 (by omega) (by omega) (by omega) hn' k0 k1 k4 k5 ks
      refine ⟨e, s', Runs.loop r1 r2, ?_⟩
      show _ ∧ (match (if i = a + 9 ∨ (a < i ∧ t[a]? = some 48) then _ else _ : Option Nat × Nat) with | (some n', j) => _ | (none, j) => _)
      rw [if_neg hz']; exact rest
def Nt : Option Nat × Nat → CV
 | (some n, j) => .tup [.nu .i64 (.ofNat n), .nu .i64 (.ofNat j), .bo true]
 | (none, j) => .tup [.nu .i64 0, .nu .i64 (.ofNat j), .bo false]
theorem DJ (H : Std K) (PT : eX K) {t : List Nat} (ht : t.length < 4611686018427387904) {a : Nat} (ha : a ≤ t.length) : Comes K 65 [.st t, .nu .i64 (.ofNat a)] h (Nt (dQ t a)) h := by
 have hf : K.P.funcs[65]? = some Tryz.f65 := by rw [H.hP]; exact Tryz.func65
 obtain ⟨s1, r1, k0, k1, k4, k5, ks⟩ : ∃ s1, (∀ {e s' h'}, fi K [1, 1] s1 h e s' h' → Runs K 65 55 none (am Tryz.f65) (entry 0 [.st t, .nu .i64 (.ofNat a)]) h e s' h') ∧ s1.at 0 = .st t ∧ s1.at 1 = .nu .i64 (.ofNat a) ∧ s1.at 4 = .nu .i64 (.ofNat 0) ∧ s1.at 5 = .nu .i64 (.ofNat a) ∧ s1.at ag = .undef :=
  ⟨_, fun r => Runs.seq (LE H.hk) (Runs.seq (LF H.hk rfl) r), rfl, rfl, rfl, rfl, rfl⟩
 obtain ⟨e, s2, r2, hs2, hr⟩ := FR (h := h) H PT ht (t.length - a) a 0 s1 (by omega) (Nat.le_refl _) (by omega) (by simp) k0 k1 k4 k5 ks
 by_cases hd : ∃ c, t[a]? = some c ∧ gQ c = true
 · obtain ⟨c, hc, hd⟩ := hd
   have hn : dQ t a = dw t a (t.length - a) a 0 := by rw [dQ, hc]; simp only [hd]
   have hlt := fun n j (e : dQ t a = (some n, j)) => tK e
   rw [hn] at hlt
   rw [hn]
   generalize dw t a (t.length - a) a 0 = q at hr hlt
   obtain ⟨o, j⟩ := q
   cases o with
   | some n =>
    obtain ⟨rfl, h1, h4, h5⟩ := hr
    have o54 : ab K.P .gtr 3 (.nu .i64 (.ofNat j)) (.nu .i64 (.ofNat a)) = some (.bo true) := by rw [qk, jp (hlt n j rfl)]; rfl
    exact H.go hf (r1 (Runs.seq (aN r2) (wS H.hk H.prim PT h4 h5 h1 o54))) (.inr rfl) (Nat.le_refl _) hs2 rfl rfl
   | none =>
    obtain ⟨rfl, h4, h5, h6⟩ := hr
    refine H.go hf (r1 (aC (aF r2) (by simp))) (.inr rfl) (Nat.le_refl _) hs2 (vs := [s2.at 4, s2.at 5, s2.at 6]) rfl ?_
    rw [h4, h5, h6]; rfl
 · have hq : dw t a (t.length - a) a 0 = (some 0, a) ∧ dQ t a = (none, a) := by
    cases hc : t[a]? with
    | none =>
     have : t.length - a = 0 := by
      rcases Nat.lt_or_ge a t.length with h1 | h1
      · rw [List.getElem?_eq_getElem h1] at hc; cases hc
      · omega
     rw [this, dQ, hc]; exact ⟨rfl, rfl⟩
    | some c =>
     have hdf : gQ c = false := by
      cases hq : gQ c with
      | false => rfl
      | true => exact absurd ⟨c, hc, hq⟩ hd
     have := tL hc
     obtain ⟨m, hm⟩ : ∃ m, t.length - a = m + 1 := ⟨t.length - a - 1, by omega⟩
     rw [hm, dw, dQ, hc]; simp only [hdf]; exact ⟨trivial, trivial⟩
   rw [hq.1] at hr
   rw [hq.2]
   obtain ⟨rfl, h1, h4, h5⟩ := hr
   have o54 : ab K.P .gtr 3 (.nu .i64 (.ofNat a)) (.nu .i64 (.ofNat a)) = some (.bo false) := by rw [qk, cC (Nat.le_refl _)]; rfl
   exact H.go hf (r1 (Runs.seq (aN r2) (wS H.hk H.prim PT h4 h5 h1 o54))) (.inr rfl) (Nat.le_refl _) hs2 rfl rfl
end
inductive Nu where
 | form (j : Nat)
 | bad (f : Nat) (e : Int)
 | ok (l : List (List Int))
def fa (t : List Nat) : Nat → Nat → List Int → Sum Nat (List Int × Nat)
 | 0, a, _ => .inl a
 | m + 1, a, line => match dQ t a with
  | (none, j) => .inl j
  | (some n, j) => match t[j]? with
   | none => .inl j
   | some c => if c = 32 then fa t m (j + 1) (line ++ [Int.ofNat n]) else if c = 10 then .inr (line ++ [Int.ofNat n], j + 1) else .inl j
def fH (t : List Nat) : Nat → Nat → List (List Int) → Nu
 | 0, _, l => .ok l
 | m + 1, a, l => if a < t.length then (match fa t (t.length + 1) a [] with
  | .inl j => .form j
  | .inr (line, b) => if co line ≠ 0 then .bad a (co line) else fH t m b (l ++ [line])) else .ok l
def iP (t : List Nat) : List (List Int) × Nat × Int :=
 if 65536 < t.length then ([], 0, 3) else match fH t (t.length + 1) 0 [] with
  | .form j => ([], j, 2)
  | .bad f e => ([], f, e)
  | .ok l => (if qj l = 0 then de l else [], 0, qj l)
theorem mS {t : List Nat} : ∀ (m a : Nat) (line line' : List Int) (b : Nat), a ≤ t.length → fa t m a line = .inr (line', b) → a + 2 ≤ b ∧ b ≤ t.length ∧ line'.length ≤ line.length + (b - a)
 | 0, a, line, line', b, ha, h => by cases h
 | m + 1, a, line, line', b, ha, h => by
  unfold fa at h
  have hr := xG ha
  have hl := fun n j (e : dQ t a = (some n, j)) => tK e
  generalize dQ t a = q at h hr hl
  obtain ⟨o, j⟩ := q
  cases o with
  | none => cases h
  | some n =>
   have hj := hl n j rfl
   simp only at h hr
   cases hc : t[j]? with
   | none => rw [hc] at h; cases h
   | some c =>
    have hjl := tL hc
    rw [hc] at h
    simp only at h
    split at h
    · have := mS m (j + 1) _ line' b (by omega) h
      simp only [List.length_append, List.length_cons, List.length_nil] at this
      refine ⟨?_, ?_, ?_⟩ <;> omega
    · split at h
      · injection h with h
        obtain ⟨rfl, rfl⟩ := Prod.mk.inj h
        simp only [List.length_append, List.length_cons, List.length_nil]
        refine ⟨?_, ?_, ?_⟩ <;> omega
      · cases h
section
variable {K : Ctx} {h : Hp}
theorem Ng {P : Program} {t : TypeId} {c d : Nat} (h : c ≠ d) : ab P .neq t (.nu .u8 (.ofNat c)) (.nu .u8 (.ofNat d)) = some (.bo true) := by
 show some (CV.bo (!(Nat.beq c d))) = _
 rw [oD h]; rfl
theorem DK (H : Std K) (PT : eX K) {t : List Nat} (ht : t.length < 1099511627776) {N1 fr : Nat} {v2 : CV} : ∀ (m a : Nat) (line : List Int) (s : Fr) (g : Hp) (v5 : CV), t.length < a + m → a ≤ t.length → (a < t.length ∨ line ≠ []) → HpOk g → N1 ≤ g.n → Out N1 g 3 v5 (ak line) → line.length ≤ a → s.at 0 = .st t → s.at 2 = v2 → s.at 3 = .nu .i64 (.ofNat a) → s.at 5 = v5 → s.at 6 = .nu .i64 (.ofNat fr) → s.at ag = .undef →
  match fa t m a line with
  | .inl j => ∃ s' g', cA K [1, 1, 1, 1, 0, 0] s g .ret s' g' ∧ HpOk g' ∧ Same N1 g g' ∧ s'.at ag = .undef ∧ s'.at 2 = .nils ∧ s'.at 3 = .nu .i64 (.ofNat j) ∧ s'.at 4 = .nu .i64 2
  | .inr (line', b) => ∃ g' v5', HpOk g' ∧ Same N1 g g' ∧ Out N1 g' 3 v5' (ak line') ∧
   (co line' ≠ 0 → ∃ s', cA K [1, 1, 1, 1, 0, 0] s g .ret s' g' ∧ s'.at ag = .undef ∧ s'.at 2 = .nils ∧ s'.at 3 = .nu .i64 (.ofNat fr) ∧ s'.at 4 = .nu .i64 (co line')) ∧
   (co line' = 0 → ∀ F B x' g'', aL 1 [(0, v5')] (ae K.P 22) = some (F, B) → aQ (g'.push B) v2 (F g'.n) (ae K.P 22) (ae K.P 22) = some (x', g'') → ∃ s1, (∀ e s2 h2, cA K [1, 1, 1, 1, 0, 0] s1 g'' e s2 h2 → cA K [1, 1, 1, 1, 0, 0] s g e s2 h2) ∧ s1.at 0 = .st t ∧ s1.at 2 = x' ∧ s1.at 3 = .nu .i64 (.ofNat b) ∧ s1.at 5 = .nils ∧ s1.at 6 = .nu .i64 (.ofNat b) ∧ s1.at ag = .undef) := by
 intro m
 induction m with
 | zero => intro a line s g v5 h1 h2; omega
 | succ m ih =>
  intro a line s g v5 hm ha hor ok hN ho hll s0 s2 s3 s5 s6 hs
  have c65 := DJ (h := g) H PT (t := t) (by omega) ha
  have hr := xG ha
  have hl := fun n j (e : dQ t a = (some n, j)) => tK e
  by_cases hat : a < t.length
  case neg =>
   have hn : dQ t a = (none, a) := by rw [dQ, List.getElem?_eq_none (by omega)]
   have hne : line ≠ [] := by rcases hor with h1 | h1 <;> first | exact absurd h1 hat | exact h1
   have hpos : 0 < line.length := List.length_pos_iff.2 hne
   have hlen := dM H ho.row
   rw [ax] at hlen
   unfold fa
   rw [hn]
   rw [hn] at c65
   have o21 : ab K.P .gtr 3 (.nu .i64 (.ofNat line.length)) (.nu .i64 0) = some (.bo true) := by
    have := qk (P := K.P) (t := 3) line.length 0
    rw [jp hpos] at this; exact this
   exact ⟨_, _, aE (nT H.hk H.prim PT s3 s0 s5 (cZ H t) (aY (by omega)) hlen o21 rfl c65 rfl rfl rfl rfl rfl) (by simp), ok, Same.refl _ _, hs, rfl, rfl, rfl⟩
  unfold fa
  generalize dQ t a = q at c65 hr hl
  obtain ⟨o, j⟩ := q
  cases o with
  | none => exact ⟨_, _, aE (nR H.hk H.prim PT s3 s0 (cZ H t) (aM hat) rfl c65 rfl rfl rfl rfl) (by simp), ok, Same.refl _ _, hs, rfl, rfl, rfl⟩
  | some n =>
  have hj := hl n j rfl
  have o36 := FQ (P := K.P) (t := 3) j t.length
  simp only at hr
  simp only
  cases hc : t[j]? with
  | none =>
   have hje : j = t.length := by
    rcases Nat.lt_or_ge j t.length with h1 | h1
    · rw [List.getElem?_eq_getElem h1] at hc; cases hc
    · omega
   rw [DI hje] at o36
   exact ⟨_, _, aE (nS H.hk H.prim PT s3 s0 (cZ H t) (aM hat) rfl c65 rfl rfl rfl rfl (cZ H t) o36 rfl) (by simp), ok, Same.refl _ _, hs, rfl, rfl, rfl⟩
  | some c =>
   have hjl := tL hc
   rw [oD (by omega)] at o36
   have hix := FP (K := K) H hc
   have hjl2 : j < 9223372036854775807 := by omega
   obtain ⟨F, B, x', g2, a1, a2, a3, a4, a5⟩ := MU H ok hN ho (Int.ofNat n) (by omega)
   simp only
   by_cases h32 : c = 32
   · subst h32
     rw [if_pos rfl]
     obtain ⟨s1, r1, k0, k2, k3, k5, k6, ks⟩ : ∃ s1, cA K [1, 1, 1, 1, 0, 0, 0] s g .normal s1 g2 ∧ s1.at 0 = .st t ∧ s1.at 2 = v2 ∧ s1.at 3 = .nu .i64 (.ofNat (j + 1)) ∧ s1.at 5 = x' ∧ s1.at 6 = .nu .i64 (.ofNat fr) ∧ s1.at ag = .undef :=
      ⟨_, mG H.hk H.prim PT s3 s0 s5 (cZ H t) (aM hat) rfl c65 rfl rfl rfl rfl (cZ H t) o36 rfl hix rfl rfl rfl a1 a2 (bI hjl2) rfl, s0, s2, rfl, rfl, s6, hs⟩
     have hi := ih (j + 1) _ s1 g2 x' (by omega) (by omega) (.inr (by simp)) a5 (Nat.le_trans hN a4.n) a3 (by simp; omega) k0 k2 k3 k5 k6 ks
     generalize fa t m (j + 1) (line ++ [Int.ofNat n]) = w at hi
     cases w with
     | inl j' =>
      obtain ⟨s', g', r2, ok', S', rest⟩ := hi
      exact ⟨s', g', Runs.loop r1 r2, ok', a4.trans S', rest⟩
     | inr p =>
      obtain ⟨line', b⟩ := p
      obtain ⟨g', v5', ok', S', O', hb, hg⟩ := hi
      refine ⟨g', v5', ok', a4.trans S', O', fun he => ?_, fun he F B x' g'' e1 e2 => ?_⟩
      · obtain ⟨s', r2, rest⟩ := hb he
        exact ⟨s', Runs.loop r1 r2, rest⟩
      · obtain ⟨s1', r2, rest⟩ := hg he F B x' g'' e1 e2
        exact ⟨s1', fun e s2 h2 r => Runs.loop r1 (r2 e s2 h2 r), rest⟩
   · rw [if_neg h32]
     have o42 : ab K.P .neq 5 (.nu .u8 (.ofNat c)) (.nu .u8 32) = some (.bo true) := Ng h32
     by_cases h10 : c = 10
     · subst h10
       rw [if_pos rfl]
       have c66 := kU H (a := line ++ [Int.ofNat n]) (by simp; omega) a3.row
       refine ⟨g2, x', a5, a4, a3, fun he => ?_, fun he F2 B2 x2 g'' e1 e2 => ?_⟩
       · exact ⟨_, aE (lQ H.hk H.prim PT s3 s0 s5 s6 (cZ H t) (aM hat) rfl c65 rfl rfl rfl rfl (cZ H t) o36 rfl hix o42 rfl rfl rfl a1 a2 (bI hjl2) rfl c66 (om he)) (by simp), hs, rfl, rfl, rfl⟩
       · exact ⟨_, fun e s2' h2 r => Runs.loop (lR H.hk H.prim PT s3 s0 s5 s2 (cZ H t) (aM hat) rfl c65 rfl rfl rfl rfl (cZ H t) o36 rfl hix o42 rfl rfl rfl a1 a2 (bI hjl2) rfl c66 (xj he) e1 e2) r, s0, rfl, rfl, rfl, rfl, hs⟩
     · rw [if_neg h10]
       have o47 : ab K.P .neq 5 (.nu .u8 (.ofNat c)) (.nu .u8 10) = some (.bo true) := Ng h10
       exact ⟨_, _, aE (nh H.hk H.prim PT s3 s0 (cZ H t) (aM hat) rfl c65 rfl rfl rfl rfl (cZ H t) o36 rfl hix o42 o47 rfl rfl) (by simp), ok, Same.refl _ _, hs, rfl, rfl, rfl⟩
theorem A2 (H : Std K) (PT : eX K) {t : List Nat} (ht : t.length < 1099511627776) {h0 : Hp} : ∀ (m a : Nat) (l : List (List Int)) (s : Fr) (g : Hp) (v2 : CV) (cs : List CV), t.length < a + m → a ≤ t.length → HpOk g → Same h0.n h0 g → Own h0.n g 46 v2 cs l → 2 * l.length ≤ a → (∀ x ∈ l, OkS x) → s.at 0 = .st t → s.at 2 = v2 → s.at 3 = .nu .i64 (.ofNat a) → s.at 5 = .nils → s.at 6 = .nu .i64 (.ofNat a) → s.at ag = .undef →
  match fH t m a l with
  | .form j => ∃ s' g', cA K [1, 1, 1, 1, 0, 0] s g .ret s' g' ∧ HpOk g' ∧ Same h0.n h0 g' ∧ s'.at ag = .undef ∧ s'.at 2 = .nils ∧ s'.at 3 = .nu .i64 (.ofNat j) ∧ s'.at 4 = .nu .i64 2
  | .bad f e => ∃ s' g', cA K [1, 1, 1, 1, 0, 0] s g .ret s' g' ∧ HpOk g' ∧ Same h0.n h0 g' ∧ s'.at ag = .undef ∧ s'.at 2 = .nils ∧ s'.at 3 = .nu .i64 (.ofNat f) ∧ s'.at 4 = .nu .i64 e
  | .ok l' => ∃ s' g' v cs', cA K [1, 1, 1, 1, 0, 0] s g (.exit 0) s' g' ∧ HpOk g' ∧ Same h0.n h0 g' ∧ s'.at ag = .undef ∧ s'.at 2 = v ∧ Own h0.n g' 46 v cs' l' ∧ 2 * l'.length ≤ t.length ∧ ∀ x ∈ l', OkS x := by
 intro m
 induction m with
 | zero => intro a l s g v2 cs h1 h2; omega
 | succ m ih =>
  intro a l s g v2 cs hm ha ok S O hll hok s0 s2 s3 s5 s6 hs
  unfold fH
  by_cases hat : a < t.length
  case neg =>
   rw [if_neg hat]
   have o20 : an g .nils (ae K.P 46) = some (.nu .i64 0) := by rw [H.hP, t46]; rfl
   exact ⟨_, _, v2, cs, aE (rq H.hk H.prim PT s3 s0 s5 (cZ H t) (aY (by omega)) o20 rfl rfl) (by simp), ok, S, hs, s2, O, by omega, hok⟩
  rw [if_pos hat]
  have w := DK H PT ht (N1 := g.n) (fr := a) (v2 := v2) (t.length + 1) a [] s g .nils (by omega) ha (.inl hat) ok (Nat.le_refl _) .nils (by simp) s0 s2 s3 s5 s6 hs
  have hrng := fun line' b => mS (t := t) (t.length + 1) a [] line' b ha
  generalize fa t (t.length + 1) a [] = q at w hrng
  cases q with
  | inl j =>
   obtain ⟨s', g', r, ok', S', rest⟩ := w
   exact ⟨s', g', r, ok', S.trans (S'.le S.n), rest⟩
  | inr p =>
   obtain ⟨line, b⟩ := p
   obtain ⟨g', v5', ok', S', O', hb, hg⟩ := w
   obtain ⟨hb1, hb2, hb3⟩ := hrng line b rfl
   simp only
   by_cases he : co line = 0
   case neg =>
    rw [if_pos he]
    obtain ⟨s', r, rest⟩ := hb he
    exact ⟨s', g', r, ok', S.trans (S'.le S.n), rest⟩
   rw [if_neg (fun hn => hn he)]
   have O2 := O.mono S' ok
   have hcl := O.rows.length
   obtain ⟨F, B, x', g'', a1, a2, a3, a4, a5⟩ := Own.app (P := K.P) (t := 22) (el := 46) (by rw [H.hP]; exact t22) ok' (Nat.le_trans S.n S'.n) O2 (Row.off O.out (Nat.le_refl _) O') (by decide) (by omega)
   obtain ⟨s1, r1, k0, k2, k3, k5, k6, ks⟩ := hg he F B x' g'' a1 a2
   have hi := ih b (l ++ [line]) s1 g'' x' _ (by omega) hb2 a5 ((S.trans (S'.le S.n)).trans a4) a3 (by simp; omega) (fun x hx => by
    rcases List.mem_append.1 hx with hx | hx
    · exact hok x hx
    · rw [List.mem_singleton] at hx; subst hx; exact dd.1 he) k0 k2 k3 k5 k6 ks
   generalize fH t m b (l ++ [line]) = w at hi
   cases w with
   | form j =>
    obtain ⟨s', g', r, rest⟩ := hi
    exact ⟨s', g', r1 _ _ _ r, rest⟩
   | bad f e =>
    obtain ⟨s', g', r, rest⟩ := hi
    exact ⟨s', g', r1 _ _ _ r, rest⟩
   | ok l' =>
    obtain ⟨s', g', v, cs', r, rest⟩ := hi
    exact ⟨s', g', v, cs', r1 _ _ _ r, rest⟩
def DM (K : Ctx) (f : FuncId) (t : List Nat) (h : Hp) : Prop := nX K f [.st t] h fun r h' => ∃ o, r = .tup [o, .nu .i64 (.ofNat (iP t).2.1), .nu .i64 (iP t).2.2] ∧ Val h' o (iP t).1
theorem uH (H : Std K) (TT : lW K) (PD : dG K) (PY : eY K) (PT : eX K) (h70 : ∀ args h, K.spec 70 args h = none) (ok : HpOk h) (t : List Nat) : DM K 21 t h := by
 have hf : K.P.funcs[21]? = some Tryz.f21 := by rw [H.hP]; exact Tryz.func21
 unfold DM iP
 by_cases hbig : 65536 < t.length
 · rw [if_pos hbig]
   have o13 : ab K.P .gtr 3 (.nu .i64 (.ofNat t.length)) (.nu .i64 65536) = some (.bo true) := mL (by show (65536 : Int) < Int.ofNat _; simp only [Int.ofNat_eq_natCast]; omega)
   exact ⟨_, h, H.go hf (Runs.seq (CN H.hk) (aC (C0 H.hk H.prim PT (s := T.set (T.set (T.set (entry 0 [.st t]) 2 .nils) 3 (.nu .i64 0)) 4 (.nu .i64 0)) rfl (cZ H t) o13) (by simp))) (.inr rfl) (Nat.le_refl _) rfl rfl rfl, Same.refl _ _, ok, .nils, rfl, [], .nils, .nil⟩
 rw [if_neg hbig]
 have ht2 : t.length ≤ 65536 := by omega
 have o13 : ab K.P .gtr 3 (.nu .i64 (.ofNat t.length)) (.nu .i64 65536) = some (.bo false) := qf (by show Int.ofNat _ ≤ (65536 : Int); simp only [Int.ofNat_eq_natCast]; omega)
 obtain ⟨s1, r1, k0, k2, k3, k5, k6, ks⟩ : ∃ s1, (∀ {e s' h'}, cA K [1, 1, 1, 1] s1 h e s' h' → Runs K 21 79 none (am Tryz.f21) (entry 0 [.st t]) h e s' h') ∧ s1.at 0 = .st t ∧ s1.at 2 = .nils ∧ s1.at 3 = .nu .i64 (.ofNat 0) ∧ s1.at 5 = .nils ∧ s1.at 6 = .nu .i64 (.ofNat 0) ∧ s1.at ag = .undef :=
  ⟨_, fun r => Runs.seq (CN H.hk) (Runs.seq (C1 H.hk H.prim PT (s := T.set (T.set (T.set (entry 0 [.st t]) 2 .nils) 3 (.nu .i64 0)) 4 (.nu .i64 0)) rfl (cZ H t) o13) (Runs.seq (Lu H.hk) (Runs.seq (Lv H.hk) r))), rfl, rfl, rfl, rfl, rfl, rfl⟩
 have w := A2 H PT (by omega) (h0 := h) (t.length + 1) 0 [] s1 h .nils [] (by omega) (Nat.zero_le _) ok (Same.refl _ _) Own.nil (by simp) (by simp) k0 k2 k3 k5 k6 ks
 generalize fH t (t.length + 1) 0 [] = q at w
 cases q with
 | form j =>
  obtain ⟨s', g', r, ok', S', hs', h2, h3, h4⟩ := w
  refine ⟨_, g', H.go hf (r1 (aC (aF r) (by simp))) (.inr rfl) S'.n hs' (vs := [s'.at 2, s'.at 3, s'.at 4]) rfl rfl, S', ok', .nils, ?_, [], .nils, .nil⟩
  rw [h2, h3, h4]; rfl
 | bad f e =>
  obtain ⟨s', g', r, ok', S', hs', h2, h3, h4⟩ := w
  refine ⟨_, g', H.go hf (r1 (aC (aF r) (by simp))) (.inr rfl) S'.n hs' (vs := [s'.at 2, s'.at 3, s'.at 4]) rfl rfl, S', ok', .nils, ?_, [], .nils, .nil⟩
  rw [h2, h3, h4]; rfl
 | ok l =>
  obtain ⟨s', g', v, cs', r, ok', S', hs', h2, O, hlen, hok⟩ := w
  obtain ⟨_, g2, c25, S2, bt, o, ds, rfl, O2⟩ := yq H TT PD PY h70 ok' (l := l) ⟨by omega, fun a ha => by have := (hok a ha).le; omega⟩ O.out.row O.all
  exact ⟨_, g2, H.go hf (r1 (Runs.seq (aN r) (Az H.hk H.prim PT h2 c25 rfl rfl))) (.inr rfl) (S'.trans (S2.le S'.n)).n hs' rfl rfl, S'.trans (S2.le S'.n), bt, o, rfl, O2.val⟩
end
def dg (n : Nat) : List Nat := if n < 10 then [48 + n] else [48 + n / 10, 48 + n % 10]
theorem DN (n : Nat) : (dg n).length ≤ 2 := by unfold dg; split <;> simp
def FS : List Nat := [48, 49, 50, 51, 52, 53, 54, 55, 56, 57]
def xH : List Nat := (List.range 100).flatMap fun n => [48 + n / 10, 48 + n % 10]
theorem Ji : ∀ n, n < 10 → (FS.drop n).take (n + 1 - n) = [48 + n] := of_decide_eq_true (by kernel_rfl)
theorem DO (l : List Nat) {n : Nat} (hn : n < 10) : ((FS ++ l).drop n).take (n + 1 - n) = [48 + n] := by
 rw [← Ji n hn, List.drop_append_of_le_length (by show n ≤ 10; omega), List.take_append_of_le_length (by rw [List.length_drop]; show n + 1 - n ≤ 10 - n; omega)]
theorem DP : ∀ n, n < 100 → (xH.drop (n * 2)).take (n * 2 + 2 - n * 2) = [48 + n / 10, 48 + n % 10] := of_decide_eq_true (by kernel_rfl)
theorem A3 : xH.length = 200 := by kernel_rfl
section
variable {K : Ctx} {h : Hp}
theorem Mq (H : Std K) {x : CV} {S r : List Nat} {a b : Nat} (hx : x = .st S) (hab : a ≤ b) (hb : b ≤ S.length) (hr : (S.drop a).take (b - a) = r) : ba (some (.nu .i64 (.ofNat a))) (some (.nu .i64 (.ofNat b))) h x (ae K.P 9) = some (.st r) := by
 subst hx
 rw [H.hP, t9]
 have h1 : (Nat.ble a b && Nat.ble b S.length) = true := by rw [cC hab, cC hb]; rfl
 show dU S (some a) (some b) = _
 simp only [dU, h1, hr]
theorem Mr {P : Program} {t : TypeId} {x y : List Nat} (h : x.length + y.length < 9223372036854775808) : ab P .add t (.st x) (.st y) = some (.st (x ++ y)) := by
 have : Nat.ble (x.length + y.length) 9223372036854775807 = true := cC (by omega)
 simp only [ab, kZ, this]
theorem rO (H : Std K) (PT : eX K) {n : Nat} (hn : n < 100) : Comes K 63 [.nu .i64 (.ofNat n)] h (.st (dg n)) h := by
 have h162 : Comes K 162 [.nu .i64 (.ofNat n)] h (.st (dg n)) h := by
  have hf : K.P.funcs[162]? = some Tryz.f162 := by rw [H.hP]; exact Tryz.func162
  unfold dg
  by_cases h10 : n < 10
  · rw [if_pos h10]
    have o4 : ab K.P .lss 3 (.nu .i64 (.ofNat n)) (.nu .i64 10) = some (.bo true) := aM (x := n) (y := 10) h10
    exact H.go hf (E7 H.hk H.prim PT (s := entry 0 [.nu .i64 (.ofNat n)]) rfl o4 (bI (by omega)) (Mq H (S := FS ++ [97, 98, 99, 100, 101, 102, 103, 104, 105, 106, 107, 108, 109, 110, 111, 112, 113, 114, 115, 116, 117, 118, 119, 120, 121, 122]) rfl (Nat.le_succ n) (by show n + 1 ≤ 36; omega) (DO _ h10))) (.inr rfl) (Nat.le_refl _) rfl rfl rfl
  · rw [if_neg h10]
    have o4 : ab K.P .lss 3 (.nu .i64 (.ofNat n)) (.nu .i64 10) = some (.bo false) := aY (x := n) (y := 10) (by omega)
    have o10 : ab K.P .mul 3 (.nu .i64 (.ofNat n)) (.nu .i64 2) = some (.nu .i64 (.ofNat (n * 2))) := Mo (x := n) (y := 2) (by omega)
    have o13 : ab K.P .add 3 (.nu .i64 (.ofNat (n * 2))) (.nu .i64 2) = some (.nu .i64 (.ofNat (n * 2 + 2))) := vI (x := n * 2) (y := 2) (by omega)
    exact H.go hf (E8 H.hk H.prim PT (s := entry 0 [.nu .i64 (.ofNat n)]) rfl o4 o10 o13 (Mq H (S := xH) (by kernel_rfl) (by omega) (by rw [A3]; omega) (DP n hn))) (.inr rfl) (Nat.le_refl _) rfl rfl rfl
 have h137 : Comes K 137 [.nu .i64 (.ofNat n), .nu .i64 10] h (.st (dg n)) h := by
  have hf : K.P.funcs[137]? = some Tryz.f137 := by rw [H.hP]; exact Tryz.func137
  have o13 : ab K.P .leq 2 (.nu .i64 0) (.nu .i64 (.ofNat n)) = some (.bo true) := by
   show some (CV.bo (Nat.ble 0 n)) = _
   rw [cC (Nat.zero_le _)]
  have o16 : ab K.P .lss 2 (.nu .i64 (.ofNat n)) (.nu .i64 100) = some (.bo true) := aM (x := n) (y := 100) hn
  exact H.go hf (AA H.hk H.prim PT (s := entry 0 [.nu .i64 (.ofNat n), .nu .i64 10]) rfl rfl rfl o13 o16 rfl h162) (.inr rfl) (Nat.le_refl _) rfl rfl rfl
 have h109 : Comes K 109 [.nu .i64 (.ofNat n)] h (.st (dg n)) h := by
  have hf : K.P.funcs[109]? = some Tryz.f109 := by rw [H.hP]; exact Tryz.func109
  exact H.go hf (LI H.hk H.prim PT (s := entry 0 [.nu .i64 (.ofNat n)]) rfl h137) (.inr rfl) (Nat.le_refl _) rfl rfl rfl
 have hf : K.P.funcs[63]? = some Tryz.f63 := by rw [H.hP]; exact Tryz.func63
 exact H.go hf (MQ H.hk H.prim PT (s := entry 0 [.nu .i64 (.ofNat n)]) rfl h109) (.inr rfl) (Nat.le_refl _) rfl rfl rfl
end
def bz (first : Bool) : List Int → List Nat
 | [] => []
 | v :: r => (if first then [] else [32]) ++ dg v.toNat ++ bz false r
def bD (l : List (List Int)) : List Nat := l.flatMap fun a => bz true a ++ [10]
theorem kY : ∀ (a : List Int) (b : Bool), (bz b a).length ≤ 3 * a.length
 | [], b => by simp [bz]
 | v :: r, b => by
  have h1 := kY r false
  have h2 := DN v.toNat
  unfold bz
  cases b <;> simp only [Bool.false_eq_true, if_false, if_true, List.length_append, List.length_cons, List.length_nil] <;> omega
def Txt (l : List (List Int)) : Prop := ∀ a ∈ l, a.length ≤ 16 ∧ ∀ v ∈ a, 0 ≤ v ∧ v < 64
theorem xI {v : Int} (h : 0 ≤ v ∧ v < 64) : ∃ n : Nat, v = Int.ofNat n ∧ n < 64 ∧ v.toNat = n := by
 obtain ⟨n, rfl⟩ := Int.eq_ofNat_of_zero_le h.1
 exact ⟨n, rfl, by omega, by simp⟩
theorem xJ : ae Tryz.prog 82 = .ptr 85 := by kernel_rfl
theorem Gs : ae Tryz.prog 83 = .slice 5 1 1 [.nu .u8 0] := by kernel_rfl
theorem Nh : ae Tryz.prog 85 = .strct [(0, 1, false), (1, 1, false)] [.nilp, .nils] := by kernel_rfl
theorem A5 : ae Tryz.prog 162 = .uptr := by kernel_rfl
theorem Ms : ae Tryz.prog 135 = .ptr 5 := by kernel_rfl
theorem Ni : ar Tryz.prog 82 = some (1, false) := by kernel_rfl
theorem Nj : ar Tryz.prog 83 = some (1, false) := by kernel_rfl
theorem Mt : ar Tryz.prog 85 = some (2, true) := by kernel_rfl
theorem Nx : dh Tryz.prog 85 = some (.agg [.nilp, .nils]) := by kernel_rfl
theorem c5 : Tryz.prog.cellsOf 5 = 1 := by kernel_rfl
theorem Mu : liesAt Tryz.prog Tryz.prog.depth 85 (2 / Tryz.prog.cellsOf 85) 0 85 1 = true := by kernel_rfl
def dO (t : List Nat) : List CV := t.map fun c => .nu .u8 (.ofNat c)
theorem jD (t : List Nat) : (dO t).length = t.length := by simp [dO]
theorem zQ (t u : List Nat) : dO (t ++ u) = dO t ++ dO u := by simp [dO]
theorem Jj (t : List Nat) : (dO t).all CV.one = true := by simp [dO, CV.one]
theorem RunL.prim {K : Ctx} {s s2 : Fr} {h h2 : Hp} {ops : Array Oper} {o : Oper} {l : List Oper} {v : CV} {cl : Call} {g : Operand} {f : FuncId} {caps args : List CV} (hw : bU ops o s = some true) (ho : o.op = .call cl) (hc : cl.callee = .value g) (hg : ev s g = .fn f caps) (ha : cl.args.toList.map (ev s) ++ caps = args) (hp : K.prim f args = some v) (rest : RunL K ops l (Fr.putO s o.dst v) h s2 h2) : RunL K ops (o :: l) s h s2 h2 := by
 obtain ⟨N, r⟩ := rest
 refine ⟨N, fun d fu hd hfu => ?_⟩
 simp only [er, hw, fP, ho, hc, hg, ha, hp, r d fu hd hfu]
section
variable {K : Ctx} {h : Hp}
theorem DQ (hP : K.P = Tryz.prog) {k : Nat} {a b : CV} (hg : h.get k = .cells [a, b] 0 85) : cK 0 (.ptr k 0) (ae K.P 85) = some (.ptr k 0) ∧ ap h (.ptr k 0) (ar K.P 82) = some a := by
 rw [hP, Nh, Ni]
 refine ⟨rfl, ?_⟩
 show eK 0 1 false (h.get k) = _
 rw [hg]; rfl
theorem xK (hP : K.P = Tryz.prog) {k : Nat} {a b : CV} (hg : h.get k = .cells [a, b] 0 85) : cK 1 (.ptr k 0) (ae K.P 85) = some (.ptr k 1) ∧ ap h (.ptr k 1) (ar K.P 83) = some b := by
 rw [hP, Nh, Nj]
 refine ⟨rfl, ?_⟩
 show eK 1 1 false (h.get k) = _
 rw [hg]; rfl
theorem Jk (hP : K.P = Tryz.prog) {k : Nat} {a b x : CV} (hg : h.get k = .cells [a, b] 0 85) (hx : x.one = true) : bc h (.ptr k 0) x (ar K.P 82) = some (.undef, h.set k (.cells [x, b] 0 85)) := by
 rw [hP, Ni]
 have hc := fv hx
 have hs : x.sol = true := by simp [CV.sol, hc, hx]
 have h1l : Nat.ble (0 + 1) [a, b].length = true := rfl
 have hset : setAt [a, b] 0 [x] = [x, b] := rfl
 simp only [bc, hg, dz, hs, hc, List.length_cons, List.length_nil, Nat.beq_refl, hset, Bool.and_self, Nat.zero_add]
 rfl
theorem zR (hP : K.P = Tryz.prog) {k : Nat} {a b x : CV} (hg : h.get k = .cells [a, b] 0 85) (hx : x.one = true) : bc h (.ptr k 1) x (ar K.P 83) = some (.undef, h.set k (.cells [a, x] 0 85)) := by
 rw [hP, Nj]
 have hc := fv hx
 have hs : x.sol = true := by simp [CV.sol, hc, hx]
 have hset : setAt [a, b] 1 [x] = [a, x] := rfl
 simp only [bc, hg, dz, hs, hc, List.length_cons, List.length_nil, Nat.beq_refl, hset, Bool.and_self, Nat.zero_add]
 rfl
theorem DR (hk : ∀ o, HK.keep o = false) (hP : K.P = Tryz.prog) (hm : K.memo 108 = []) (hsp : ∀ args h, K.spec 108 args h = none) (hpr : ∀ x, K.prim 136 [x] = some x) {k : Nat} {b : CV} (hg : h.get k = .cells [.nilp, b] 0 85) : Comes K 108 [.ptr k 0] h (.tup []) (h.set k (.cells [.ptr k 0, b] 0 85)) := by
 have hf : K.P.funcs[108]? = some Tryz.f108 := by rw [hP]; exact Tryz.func108
 obtain ⟨o4, o5⟩ := DQ (K := K) hP hg
 have o6 : ab K.P .eql 82 .nilp .nilp = some (.bo true) := by
  rw [hP]
  have : kz Tryz.prog 82 .nilp .nilp = some true := by simp only [kz, xJ]; rfl
  simp only [ab, kZ, this]
 have l9 : fO K.P (.ptr k 0) (ae K.P 82) (ae K.P 162) = none := by rw [hP, xJ, A5]; rfl
 have o9 : fV K.P h (.ptr k 0) (ae K.P 82) (ae K.P 162) = some (.ptr k 0) := by
  rw [hP, xJ, A5]
  have hb : Nat.blt 0 [CV.nilp, b].length = true := rfl
  simp only [fV, D3, Mt, hg, Jn, hb]
  rfl
 have l11 : fO K.P (.ptr k 0) (ae K.P 162) (ae K.P 82) = none := by rw [hP, xJ, A5]; rfl
 have o11 : fV K.P h (.ptr k 0) (ae K.P 162) (ae K.P 82) = some (.ptr k 0) := by
  rw [hP, xJ, A5]
  have hl : [CV.nilp, b].length = 2 := rfl
  simp only [fV, vN, Mt, hg, vo, hl, Mu]
  rfl
 have r1 : EU K [1, 0] (T.set (T.set (T.set (T.set (T.set (entry 0 [.ptr k 0]) 2 (.ptr k 0)) 3 (.ptr k 0)) 4 (.ptr k 0)) 5 .nilp) 6 (.bo true)) h .normal (T.set (T.set (T.set (T.set (T.set (T.set (T.set (T.set (T.set (T.set (T.set (T.set (entry 0 [.ptr k 0]) 2 (.ptr k 0)) 3 (.ptr k 0)) 4 (.ptr k 0)) 5 .nilp) 6 (.bo true)) 7 (.ptr k 0)) 8 (.ptr k 0)) 9 (.ptr k 0)) 10 (.ptr k 0)) 11 (.ptr k 0)) 12 (.ptr k 0)) 13 (.ptr k 0)) (h.set k (.cells [.ptr k 0, b] 0 85)) := by
  refine Runs.region ?_
  refine RunL.op (v := .ptr k 0) rfl (Q1.e (aS rfl rfl)) ?_
  refine RunL.op (v := .ptr k 0) rfl (Q1.e (aS rfl rfl)) ?_
  refine RunL.op (v := .ptr k 0) rfl (Q1.e (wl rfl rfl l9 o9)) ?_
  refine RunL.prim (v := .ptr k 0) rfl rfl rfl rfl rfl (hpr _) ?_
  refine RunL.op (v := .ptr k 0) rfl (Q1.e (wl rfl rfl l11 o11)) ?_
  refine RunL.op (v := .ptr k 0) rfl (Q1.e (jm rfl rfl rfl)) ?_
  refine RunL.op (v := .ptr k 0) rfl (Q1.e (mB rfl rfl o4)) ?_
  refine RunL.op (v := .undef) rfl (dA rfl rfl rfl (Jk hP hg rfl)) ?_
  exact RunL.nil
 exact bO hf rfl hm hsp rfl (Runs.seq (zy hk rfl rfl o4 o5 o6) (Runs.condT rfl r1)) (.inl rfl) (Nat.le_refl _) rfl rfl rfl
theorem A6 (hk : ∀ o, HK.keep o = false) (hP : K.P = Tryz.prog) (hm : K.memo 108 = []) (hsp : ∀ args h, K.spec 108 args h = none) {k : Nat} {b : CV} (hg : h.get k = .cells [.ptr k 0, b] 0 85) : Comes K 108 [.ptr k 0] h (.tup []) h := by
 have hf : K.P.funcs[108]? = some Tryz.f108 := by rw [hP]; exact Tryz.func108
 obtain ⟨o4, o5⟩ := DQ (K := K) hP hg
 have o6 : ab K.P .eql 82 (.ptr k 0) .nilp = some (.bo false) := by
  rw [hP]
  have : kz Tryz.prog 82 (.ptr k 0) .nilp = some false := by simp only [kz, xJ]; rfl
  simp only [ab, kZ, this]
 have o19 : ab K.P .neq 82 (.ptr k 0) (.ptr k 0) = some (.bo false) := by
  rw [hP]
  have : kz Tryz.prog 82 (.ptr k 0) (.ptr k 0) = some true := by
   simp only [kz, xJ, Mt, FX, Nat.beq_refl]
   rfl
  simp only [ab, kZ, this]
  rfl
 exact bO hf rfl hm hsp rfl (Runs.seq (zy hk rfl rfl o4 o5 o6) (Runs.condF rfl (Runs.seq (In hk rfl rfl o4 o5 o19) (Runs.condF rfl Runs.skip)))) (.inl rfl) (Nat.le_refl _) rfl rfl rfl
end
def jE (args : List CV) (h : Hp) : Option (CV × Hp) := match args with
 | [.ptr k 0] => match h.get k with
  | .cells [.nilp, b] 0 85 => some (.tup [], h.set k (.cells [.ptr k 0, b] 0 85))
  | .cells [.ptr k' 0, _] 0 85 => if k' = k then some (.tup [], h) else none
  | _ => none
 | _ => none
theorem vi {K : Ctx} (hk : ∀ o, HK.keep o = false) (hP : K.P = Tryz.prog) (hm : K.memo 108 = []) (hsp : ∀ args h, K.spec 108 args h = none) (hpr : ∀ x, K.prim 136 [x] = some x) {args : List CV} {h h' : Hp} {r : CV} (hs : jE args h = some (r, h')) : Comes K 108 args h r h' := by
 unfold jE at hs
 split at hs
 · rename_i k
   split at hs
   · rename_i b hg
     injection hs with hs
     obtain ⟨rfl, rfl⟩ := Prod.mk.inj hs
     exact DR hk hP hm hsp hpr hg
   · rename_i k' b hg
     split at hs
     · rename_i hkk
       subst hkk
       injection hs with hs
       obtain ⟨rfl, rfl⟩ := Prod.mk.inj hs
       exact A6 hk hP hm hsp hg
     · cases hs
   · cases hs
 · cases hs
def ig (K : Ctx) : Prop := ∀ args h, K.spec 108 args h = jE args h
structure ng (h : Hp) (k : Nat) (t : List Nat) : Prop where
 ex : ∃ a b, h.get k = .cells [a, b] 0 85 ∧ (a = .nilp ∨ a = .ptr k 0) ∧ Out (k + 1) h 5 b (dO t)
theorem Out.setO {N k el : Nat} {h : Hp} {x : CV} {cs : List CV} (hk : k < N) (b : HB) (r : Out N h el x cs) : Out N (h.set k b) el x cs := by
 cases r with
 | nils => exact .nils
 | @some j cs hj hn hne hs => exact .some hj hn hne (by rw [Hp.get_set, if_neg (by omega)]; exact hs)
theorem FT {N el bytes : Nat} {h : Hp} {z : List CV} {x : CV} {cs : List CV} {ys : List Nat} (ok : HpOk h) (hNn : N ≤ h.n) (r : Out N h el x cs) (hne : ys ≠ []) (hz : z.length = 1) (hb : (cs.length + ys.length) * bytes ≤ 70368744177664) (hn : cs.length + ys.length ≤ 4611686018427387904) :
  ∃ x' h', aQ h x (.st ys) (.slice el 1 bytes z) .str = Option.some (x', h') ∧ Out N h' el x' (cs ++ dO ys) ∧ Same N h h' ∧ HpOk h' := by
 have hyl := jD ys
 have hyne : dO ys ≠ [] := by
  intro e; rw [e] at hyl; exact hne (List.eq_nil_of_length_eq_zero hyl.symm)
 have hm : Nat.beq ys.length 0 = false := by
  cases ys with
  | nil => exact absurd rfl hne
  | cons a l => rfl
 have hx : CP.lenV x = cs.length := r.row.lenV
 have hc : ((dO ys).all CV.one && Nat.beq z.length 1 && Nat.blt 0 1 && Nat.ble ((CP.lenV x + ys.length) * bytes) 70368744177664 && Nat.ble (CP.lenV x + ys.length) 4611686018427387904) = true := by
  rw [Jj, hz, hx, Nat.ble_eq_true_of_le hb, Nat.ble_eq_true_of_le hn]; rfl
 have h1 : aQ h x (.st ys) (.slice el 1 bytes z) .str = eM h el 1 x (dO ys) ys.length := by
  have h2 : aQ h x (.st ys) (.slice el 1 bytes z) .str = gw h el 1 bytes z x ys.length (Option.some (dO ys)) := rfl
  rw [h2]
  simp only [gw, hc]
 rw [h1]
 have fin : ∀ h2 : Hp, h2.n = h.n → HpOk h2 → Same N h h2 → Out N (h2.push (.cells (cs ++ dO ys) 1 el)) el (.sl h.n 0 (cs.length + ys.length) (cs.length + ys.length)) (cs ++ dO ys) ∧ Same N h (h2.push (.cells (cs ++ dO ys) 1 el)) ∧ HpOk (h2.push (.cells (cs ++ dO ys) 1 el)) := by
  intro h2 hn2 bt S2
  refine ⟨?_, S2.trans (Same.push (by omega) _), bt.push _⟩
  have := Out.some (N := N) (h := h2.push (.cells (cs ++ dO ys) 1 el)) (el := el) (k := h.n) (cs := cs ++ dO ys) hNn (by simp; omega) (by simp [hyne]) (by rw [ah, if_pos hn2.symm])
  rw [List.length_append, hyl] at this
  exact this
 cases r with
 | nils =>
  refine ⟨.sl h.n 0 ys.length ys.length, h.push (.cells (dO ys) 1 el), by simp only [eM, hm], ?_⟩
  have := fin h rfl ok (Same.refl N h)
  simpa using this
 | @some k cs hk hkn hcne hs =>
  have h0 : Nat.ble (cs.length + ys.length) cs.length = false := by
   cases hq : Nat.ble (cs.length + ys.length) cs.length with
   | false => rfl
   | true =>
    have := bk hq
    have : ys.length = 0 := by omega
    exact absurd (List.eq_nil_of_length_eq_zero this) hne
  have h2 : Nat.ble (0 + cs.length * 1) cs.length = true := Nat.ble_eq_true_of_le (by omega)
  have h3 : fg cs 1 0 cs.length = false := by
   simp only [fg, Nat.zero_add, Nat.mul_one, Nat.beq_refl, Bool.not_true, Bool.or_false]; rfl
  have h4 : sub cs 0 (cs.length * 1) = cs := by simp [sub]
  refine ⟨.sl h.n 0 (cs.length + ys.length) (cs.length + ys.length), (h.set k .dead).push (.cells (cs ++ dO ys) 1 el), ?_, fin (h.set k .dead) rfl (ok.set hkn _) (Same.set hk _)⟩
  simp only [eM, hm, h0, hs, iC, h2, h3, Nat.beq_refl, Bool.and_self, h4]
section
variable {K : Ctx} {h : Hp}
theorem dJ {cs : List CV} {m e k : Nat} (ok : HpOk h) (hg : h.get k = .cells cs m e) : k < h.n := by
 rcases Nat.lt_or_ge k h.n with h1 | h1
 · exact h1
 · rw [ok k h1] at hg; cases hg
theorem uJ (H : Std K) (T : ig K) (ok : HpOk h) {k : Nat} {t : List Nat} (B : ng h k t) : ∃ h' b, Comes K 108 [.ptr k 0] h (.tup []) h' ∧ HpOk h' ∧ Same k h h' ∧ h'.get k = .cells [.ptr k 0, b] 0 85 ∧ Out (k + 1) h' 5 b (dO t) := by
 obtain ⟨a, b, hg, ha, ho⟩ := B.ex
 have hkn := dJ ok hg
 rcases ha with rfl | rfl
 · refine ⟨h.set k (.cells [.ptr k 0, b] 0 85), b, Comes.told (H.memo 108 (by decide)) (by rw [T]; simp only [jE, hg]), ok.set hkn _, Same.set (Nat.le_refl _) _, by rw [Hp.get_set, if_pos rfl], ho.setO (Nat.lt_succ_self k) _⟩
 · exact ⟨h, b, Comes.told (H.memo 108 (by decide)) (by rw [T]; simp only [jE, hg, if_true]), ok, Same.refl _ _, hg, ho⟩
theorem uK (H : Std K) (T : ig K) (ok : HpOk h) {k : Nat} {t : List Nat} (ht : t.length < 1000000) (B : ng h k t) (c : Nat) : ∃ r h', Comes K 61 [.ptr k 0, .nu .u8 (.ofNat c)] h r h' ∧ HpOk h' ∧ Same k h h' ∧ ng h' k (t ++ [c]) := by
 have hf : K.P.funcs[61]? = some Tryz.f61 := by rw [H.hP]; exact Tryz.func61
 obtain ⟨s0, r0, a0, a1, as0⟩ : ∃ s', zm K [0] (entry 0 [.ptr k 0, .nu .u8 (.ofNat c)]) h .normal s' h ∧ s'.at 0 = .ptr k 0 ∧ s'.at 1 = .nu .u8 (.ofNat c) ∧ s'.at ag = .undef :=
  ⟨_, Runs.region (RunL.op rfl (Q1.e (cY rfl rfl)) RunL.nil), rfl, rfl, rfl⟩
 obtain ⟨h1, b, c108, cm, S1, hg1, ho1⟩ := uJ H T ok B
 have hkn1 := dJ cm hg1
 obtain ⟨s1, r1, b0, b1, bs1⟩ : ∃ s', zm K [1, 0] s0 h .normal s' h1 ∧ s'.at 0 = .ptr k 0 ∧ s'.at 1 = .nu .u8 (.ofNat c) ∧ s'.at ag = .undef :=
  ⟨_, Lw H.hk a0 (H.prim _ _) c108, a0, a1, as0⟩
 obtain ⟨o10, o11⟩ := xK (K := K) H.hP hg1
 obtain ⟨F, Bl, x', h2, l1, w1, ho2, S2, bt⟩ := qa (P := K.P) (t := 83) (v := .nu .u8 (.ofNat c)) (by rw [H.hP]; exact Gs) cm hkn1 ho1 rfl (by decide) (by rw [jD]; omega)
 have hg2 : h2.get k = .cells [.ptr k 0, b] 0 85 := by rw [S2.get k (Nat.lt_succ_self k)]; exact hg1
 have hkn2 := dJ bt hg2
 have w2 := zR (K := K) H.hP hg2 (x := x') ho2.row.one
 obtain ⟨s2, r2, cs2⟩ : ∃ s', zm K [1, 1, 0] s1 h1 .normal s' (h2.set k (.cells [.ptr k 0, x'] 0 85)) ∧ s'.at ag = .undef :=
  ⟨_, Lx H.hk b0 b1 rfl o10 o11 l1 w1 w2, bs1⟩
 obtain ⟨s3, r3, ds3⟩ : ∃ s', zm K [1, 1, 1, 0] s2 (h2.set k (.cells [.ptr k 0, x'] 0 85)) .normal s' (h2.set k (.cells [.ptr k 0, x'] 0 85)) ∧ s'.at ag = .undef :=
  ⟨_, Runs.region (RunL.op rfl (Q1.e (cY rfl rfl)) RunL.nil), cs2⟩
 have Sall : Same k h (h2.set k (.cells [.ptr k 0, x'] 0 85)) := (S1.trans (S2.le (Nat.le_succ k))).trans (Same.set (Nat.le_refl _) _)
 refine ⟨_, _, H.go hf (Runs.seq r0 (Runs.seq r1 (Runs.seq r2 (Runs.seq r3 Runs.ret)))) (.inr rfl) Sall.n ds3 rfl rfl, bt.set hkn2 _, Sall, ⟨.ptr k 0, x', by rw [Hp.get_set, if_pos rfl], .inr rfl, ?_⟩⟩
 rw [zQ]
 exact ho2.setO (Nat.lt_succ_self k) _
theorem xL (H : Std K) (T : ig K) (ok : HpOk h) {k : Nat} {t u : List Nat} (ht : t.length < 1000000) (hu : u.length < 1000000) (hne : u ≠ []) (B : ng h k t) : ∃ r h', Comes K 62 [.ptr k 0, .st u] h r h' ∧ HpOk h' ∧ Same k h h' ∧ ng h' k (t ++ u) := by
 have hf : K.P.funcs[62]? = some Tryz.f62 := by rw [H.hP]; exact Tryz.func62
 obtain ⟨s0, r0, a0, a1, as0⟩ : ∃ s', zn K [0] (entry 0 [.ptr k 0, .st u]) h .normal s' h ∧ s'.at 0 = .ptr k 0 ∧ s'.at 1 = .st u ∧ s'.at ag = .undef :=
  ⟨_, Runs.region (RunL.op rfl (Q1.e (cY rfl rfl)) (RunL.op rfl (Q1.e (cY rfl rfl)) RunL.nil)), rfl, rfl, rfl⟩
 obtain ⟨h1, b, c108, cm, S1, hg1, ho1⟩ := uJ H T ok B
 have hkn1 := dJ cm hg1
 obtain ⟨s1, r1, b0, b1, bs1⟩ : ∃ s', zn K [1, 0] s0 h .normal s' h1 ∧ s'.at 0 = .ptr k 0 ∧ s'.at 1 = .st u ∧ s'.at ag = .undef :=
  ⟨_, Ly H.hk a0 (H.prim _ _) c108, a0, a1, as0⟩
 obtain ⟨o10, o11⟩ := xK (K := K) H.hP hg1
 obtain ⟨x', h2, w1, ho2, S2, bt⟩ := FT (bytes := 1) (z := [.nu .u8 0]) cm hkn1 ho1 hne rfl (by rw [jD]; omega) (by rw [jD]; omega)
 have w1' : aQ h1 b (.st u) (ae K.P 83) (ae K.P 9) = some (x', h2) := by rw [H.hP, Gs, t9]; exact w1
 have hg2 : h2.get k = .cells [.ptr k 0, b] 0 85 := by rw [S2.get k (Nat.lt_succ_self k)]; exact hg1
 have hkn2 := dJ bt hg2
 have w2 := zR (K := K) H.hP hg2 (x := x') ho2.row.one
 obtain ⟨s2, r2, c1, cs2⟩ : ∃ s', zn K [1, 1, 0] s1 h1 .normal s' (h2.set k (.cells [.ptr k 0, x'] 0 85)) ∧ s'.at 1 = .st u ∧ s'.at ag = .undef :=
  ⟨_, Lz H.hk b0 b1 rfl o10 o11 w1' w2, b1, bs1⟩
 obtain ⟨s3, r3, ds3⟩ : ∃ s', zn K [1, 1, 1, 0] s2 (h2.set k (.cells [.ptr k 0, x'] 0 85)) .normal s' (h2.set k (.cells [.ptr k 0, x'] 0 85)) ∧ s'.at ag = .undef :=
  ⟨_, Runs.region (RunL.op (v := .st u) rfl (Q1.e (aS rfl c1)) (RunL.op (v := .nu .i64 (.ofNat u.length)) rfl (Q1.e (aK rfl rfl rfl rfl rfl (cZ H u))) (RunL.op rfl (Q1.e (cY rfl rfl)) (RunL.op rfl (Q1.e (cY rfl rfl)) RunL.nil)))), cs2⟩
 have Sall : Same k h (h2.set k (.cells [.ptr k 0, x'] 0 85)) := (S1.trans (S2.le (Nat.le_succ k))).trans (Same.set (Nat.le_refl _) _)
 refine ⟨_, _, H.go hf (Runs.seq r0 (Runs.seq r1 (Runs.seq r2 (Runs.seq r3 Runs.ret)))) (.inr rfl) Sall.n ds3 rfl rfl, bt.set hkn2 _, Sall, ⟨.ptr k 0, x', by rw [Hp.get_set, if_pos rfl], .inr rfl, ?_⟩⟩
 rw [zQ]
 exact ho2.setO (Nat.lt_succ_self k) _
end
theorem Mv {K : Ctx} {o : Oper} {s : Fr} {h : Hp} {x : Operand} {a v : CV} {cl : Call} (ho : o.op = .call cl) (hc : cl.callee = .builtin .unsafeSliceData) (ha : cl.args.toList = [x]) (hx : ev s x = a) (hr : oF a = some v) : Q1 K o s h v := ⟨by simp [bA, ho], by simp only [qX, ho, jf, hc, eL, ha, nl, hx, hr], by rintro c g h1; rw [ho] at h1; injection h1 with h1; subst h1; simp [hc]⟩
theorem Mw {K : Ctx} {o : Oper} {s : Fr} {h h1 : Hp} {x y : Operand} {a b v : CV} {t t' : TypeId} {cl : Call} (ho : o.op = .call cl) (hc : cl.callee = .builtin .unsafeString) (ha : cl.args.toList = [x, y]) (ht : cl.argTypes.toList = [t, t']) (hx : ev s x = a) (hy : ev s y = b) (hr : me K.P h a b (ae K.P t) = some (v, h1)) : E1 K o s h v h1 := E1.wr (by simp [qX, ho, jf, hc, eL]) (by simp [bA, ho]) (by rintro c g h1; rw [ho] at h1; injection h1 with h1; subst h1; simp [hc]) (by simp only [wX, ho, jH, hc, jG, ha, ht, hx, hy, hr])
theorem Mx {K : Ctx} {s : Fr} {h : Hp} {v0 r5 r6 r7 r12 r13 : CV} {g1 : Hp} (hp : K.plan 64 1 = some [.t 0,.t 1,.t 2,.t 3,.t 5,.t 6,.t 7,.t 8,.t 9,.o 4 [9, 8, 7, 6, 5],.o 10 [],.o 11 []]) (m83 : zX (ae K.P 83) = false) (i0 : s.at 0 = v0) (o4 : mb v0 = some v0) (o5 : cK 1 v0 (ae K.P 85) = some r5) (o6 : ap h r5 (ar K.P 83) = some r6) (q6 : ceq r6 r6 = true) (o12 : an h r6 (ae K.P 83) = some r12) (o7 : oF r6 = some r7) (w13 : me K.P h r7 r12 (ae K.P 135) = some (r13, g1)) :
  Na K [1, 0] s h .normal (T.set (T.set (T.set (T.set (T.set (T.set (T.set (T.set (T.set (T.set (T.set (T.set s 3 v0) 4 v0) 5 r5) 6 r6) 8 v0) 9 v0) 10 r5) 11 r6) 12 r12) 7 r7) 13 r13) 2 r13) g1 := by
 refine Runs.drawn hp ?_
 refine RunP.q (v := v0) rfl rfl (aS rfl i0) ?_
 refine RunP.q (v := v0) rfl rfl (jm rfl rfl o4) ?_
 refine RunP.q (v := r5) rfl rfl (mB rfl rfl o5) ?_
 refine RunP.q (v := r6) rfl rfl (aJ rfl rfl o6) ?_
 refine RunP.q (v := v0) rfl rfl (aS rfl i0) ?_
 refine RunP.q (v := v0) rfl rfl (jm rfl rfl o4) ?_
 refine RunP.q (v := r5) rfl rfl (mB rfl rfl o5) ?_
 refine RunP.q (v := r6) rfl rfl (aJ rfl rfl o6) ?_
 refine RunP.q (v := r12) rfl rfl (aK rfl rfl rfl rfl rfl o12) ?_
 refine RunP.only (v := r7) rfl rfl (Q1.e (Mv rfl rfl rfl rfl o7)) (by simp (decide := true) only [bV, bS, qX, ev, Fr.putO, aI, reduceIte, Nat.reduceEqDiff, List.filter_cons, List.filter_nil, List.any_cons, List.any_nil, List.all_cons, List.all_nil, List.getElem_toArray, List.getElem_cons_succ, List.getElem_cons_zero, Option.map_some, Option.map_none, Bool.and_true, Bool.true_and, Bool.and_self, o6, q6, m83]) ?_
 refine RunP.only (v := r13) rfl rfl (Mw rfl rfl rfl rfl rfl rfl w13) rfl ?_
 refine RunP.only (v := r13) rfl rfl (Q1.e (cY rfl rfl)) rfl ?_
 exact RunP.nil
theorem xM : ∀ t : List Nat, (∀ c ∈ t, c < 256) → (dO t).all md = true ∧ (dO t).map eV = t
 | [], _ => ⟨rfl, rfl⟩
 | c :: t, h => by
  obtain ⟨h1, h2⟩ := xM t (fun x hx => h x (by simp [hx]))
  have h3 : md (.nu .u8 (.ofNat c)) = true := by
   have := h c (by simp)
   show Nat.blt c 256 = true
   simpa using this
  refine ⟨?_, ?_⟩
  · show ((CV.nu .u8 (.ofNat c)) :: dO t).all md = true
    rw [List.all_cons, h3, h1]; rfl
  · show eV (.nu .u8 (.ofNat c)) :: (dO t).map eV = c :: t
    rw [h2]; rfl
section
variable {K : Ctx} {h : Hp}
theorem yr (H : Std K) (PT : eX K) (ok : HpOk h) {k : Nat} {t : List Nat} (ht : t.length < 1000000) (hb : ∀ c ∈ t, c < 256) (B : ng h k t) : ∃ h', Comes K 64 [.ptr k 0] h (.st t) h' ∧ HpOk h' ∧ Same k h h' := by
 have hf : K.P.funcs[64]? = some Tryz.f64 := by rw [H.hP]; exact Tryz.func64
 obtain ⟨a, b, hg, ha, ho⟩ := B.ex
 obtain ⟨o10, o11⟩ := xK (K := K) H.hP hg
 have m83 : zX (ae K.P 83) = false := by rw [H.hP, Gs]; rfl
 have hlen : an h b (ae K.P 83) = some (.nu .i64 (.ofNat (dO t).length)) := by rw [H.hP, Gs]; exact ho.row.len
 have key : ∀ {r7 : CV} {g1 : Hp}, ceq b b = true → oF b = some r7 → me K.P h r7 (.nu .i64 (.ofNat (dO t).length)) (ae K.P 135) = some (.st t, g1) → h.n ≤ g1.n → Comes K 64 [.ptr k 0] h (.st t) g1 := fun q6 o7 w hn =>
  H.go hf (Runs.seq (LD H.hk) (Runs.seq (Mx PT.p64_1 m83 (s := T.set (entry 0 [.ptr k 0]) 2 (ofValue (.string ⟨#[]⟩))) rfl rfl o10 o11 q6 hlen o7 w) Runs.ret)) (.inr rfl) hn rfl rfl rfl
 generalize hB : dO t = cs at ho hlen key
 cases ho with
 | nils =>
  have ht0 : t = [] := by
   have := jD t
   rw [hB] at this
   exact List.eq_nil_of_length_eq_zero this.symm
  subst ht0
  exact ⟨h, key rfl rfl (by rw [H.hP, Ms]; rfl) (Nat.le_refl _), ok, Same.refl _ _⟩
 | @some j cs hj hjn hne hs =>
  obtain ⟨b1, b2⟩ := xM t hb
  rw [hB] at b1 b2
  have hl0 : Nat.beq cs.length 0 = false := by
   cases cs with
   | nil => exact absurd rfl hne
   | cons _ _ => rfl
  have hcl : cs.length = t.length := by rw [← hB, jD]
  have w : me K.P h (.ptr j 0) (.nu .i64 (.ofNat cs.length)) (ae K.P 135) = some (.st t, h.set j (.fz cs)) := by
   rw [H.hP, Ms]
   have hsub : sub cs 0 cs.length = cs := by simp [sub]
   have hle : Nat.ble (0 + cs.length) cs.length = true := cC (by omega)
   have hle2 : Nat.ble cs.length 9223372036854775807 = true := cC (by omega)
   simp only [me, hl0, hs, vO, c5, Nat.beq_refl, hsub, hle, hle2, b1, b2, Bool.and_self]
  exact ⟨_, key (wk _ _ _ _) (by simp only [oF, hl0]) w (Nat.le_refl _), ok.set hjn _, Same.set (by omega) _⟩
theorem rP (v : Int) : ∀ (a : List Int) (b : Bool), bz b (a ++ [v]) = bz b a ++ (if b && a.isEmpty then [] else [32]) ++ dg v.toNat
 | [], b => by cases b <;> simp [bz]
 | x :: a, b => by
  show (if b then [] else [32]) ++ dg x.toNat ++ bz false (a ++ [v]) = _
  rw [rP v a false]
  simp [bz]
theorem Gt (n : Nat) : dg n ≠ [] := by unfold dg; split <;> simp
theorem Jl {n : Nat} (hn : n < 64) : ∀ c ∈ dg n, c < 256 := by
 unfold dg
 split
 · intro c hc; rw [List.mem_singleton] at hc; omega
 · intro c hc
   simp only [List.mem_cons, List.not_mem_nil, or_false] at hc
   omega
theorem rQ : ∀ (a : List Int) (b : Bool), (∀ v ∈ a, 0 ≤ v ∧ v < 64) → ∀ c ∈ bz b a, c < 256
 | [], b, _, c, hc => by simp [bz] at hc
 | v :: a, b, h, c, hc => by
  have hv := h v (by simp)
  have ih := rQ a false (fun x hx => h x (by simp [hx]))
  have hc' : c ∈ (if b then [] else [32]) ++ dg v.toNat ++ bz false a := hc
  rw [List.mem_append, List.mem_append] at hc'
  rcases hc' with (hc | hc) | hc
  · cases b
    · simp at hc; omega
    · simp at hc
  · exact Jl (by omega) c hc
  · exact ih c hc
theorem A7 {l : List (List Int)} (h : Txt l) : ∀ c ∈ bD l, c < 256 := by
 intro c hc
 obtain ⟨a, ha, hc⟩ := List.mem_flatMap.1 hc
 rcases List.mem_append.1 hc with hc | hc
 · exact rQ a true (h a ha).2 c hc
 · rw [List.mem_singleton] at hc; omega
theorem iQ : ∀ {l : List (List Int)}, Txt l → (bD l).length ≤ 49 * l.length
 | [], _ => by simp [bD]
 | a :: l, h => by
  have h1 := iQ (l := l) (fun x hx => h x (by simp [hx]))
  have h2 := kY a true
  have h3 := (h a (by simp)).1
  have e : bD (a :: l) = bz true a ++ [10] ++ bD l := rfl
  rw [e]
  simp only [List.length_append, List.length_cons, List.length_nil]
  omega
theorem A8 (l : List (List Int)) (a : List Int) : bD (l ++ [a]) = bD l ++ (bz true a ++ [10]) := by simp [bD]
theorem Txt.take {l : List (List Int)} (h : Txt l) (i : Nat) : Txt (l.take i) := fun a ha => h a (List.mem_of_mem_take ha)
theorem yu (H : Std K) (T8 : ig K) (PT : eX K) {k : Nat} {h1 : Hp} (hk : k = h1.n) (cm : HpOk h1) {a : List Int} (ha : a.length ≤ 16 ∧ ∀ v ∈ a, 0 ≤ v ∧ v < 64) {x : CV} (hx : Row h1 x (ak a)) {T0 : List Nat} (hT : T0.length < 900000) {g : Hp} (okg : HpOk g) (S : Same k h1 g) (B : ng g k T0) {s : Fr} {v5 v16 v17 v18 : CV} (s5 : s.at 5 = v5) (s6 : s.at 6 = .ptr k 0) (s16 : s.at 16 = v16) (s17 : s.at 17 = v17) (s18 : s.at 18 = v18) (s22 : s.at 22 = x) (s23 : s.at 23 = .nu .i64 (.ofNat a.length)) (s24 : s.at 24 = .nu .i64 (.ofNat 0)) (hs : s.at ag = .undef) :
  ∃ s' g', ei K [1, 1, 1, 0, 1, 0, 0, 1, 1, 0, 0, 1, 0, 1] s g .normal s' g' ∧ HpOk g' ∧ Same k g g' ∧ ng g' k (T0 ++ bz true a) ∧ s'.at 5 = v5 ∧ s'.at 6 = .ptr k 0 ∧ s'.at 16 = v16 ∧ s'.at 17 = v17 ∧ s'.at 18 = v18 ∧ s'.at ag = .undef := by
 have hmono : ∀ {g2 : Hp}, Same k g g2 → Row g2 x (ak a) := fun S2 => hx.mono (S.trans S2) cm (by omega)
 obtain ⟨s', g', r, q⟩ := dZ (K := K) (f := 20) (n := 40) (c := aD [1, 1, 1, 0, 1, 0, 0, 1, 1, 0, 0, 1, 0, 1, 0, 0] (am Tryz.f20)) (s := s) (h := g) (m := a.length) (b := 2)
  (I := fun i s g2 => HpOk g2 ∧ Same k g g2 ∧ ng g2 k (T0 ++ bz true (a.take i)) ∧ s.at 5 = v5 ∧ s.at 6 = .ptr k 0 ∧ s.at 16 = v16 ∧ s.at 17 = v17 ∧ s.at 18 = v18 ∧ s.at 22 = x ∧ s.at 23 = .nu .i64 (.ofNat a.length) ∧ s.at 24 = .nu .i64 (.ofNat i) ∧ s.at ag = .undef)
  (E := fun s g2 => HpOk g2 ∧ Same k g g2 ∧ ng g2 k (T0 ++ bz true a) ∧ s.at 5 = v5 ∧ s.at 6 = .ptr k 0 ∧ s.at 16 = v16 ∧ s.at 17 = v17 ∧ s.at 18 = v18 ∧ s.at ag = .undef)
  ⟨okg, Same.refl _ _, by simpa [bz] using B, s5, s6, s16, s17, s18, s22, s23, s24, hs⟩
  (fun i s g2 hi ⟨bt, S2, B2, g5, g6, g16, g17, g18, g22, g23, g24, gs⟩ => by
    obtain ⟨p, hp1, hp2⟩ := iY H (hmono S2) hi
    obtain ⟨n, hv, hn, hvn⟩ := xI (ha.2 _ (List.getElem_mem hi))
    rw [hv] at hp2
    have hll := kY (a.take i) true
    have htl : (a.take i).length ≤ 16 := by rw [List.length_take]; omega
    have hdl := DN n
    have hsn : bz true (a.take (i + 1)) = bz true (a.take i) ++ (if i = 0 then [] else [32]) ++ dg n := by
     rw [cB hi, rP, hvn]
     by_cases h0 : i = 0
     · subst h0; simp
     · have : (a.take i).isEmpty = false := by
        cases hq : a.take i with
        | nil =>
         have h1 := congrArg List.length hq
         rw [List.length_take, List.length_nil] at h1; omega
        | cons _ _ => rfl
       rw [this, if_neg h0]; simp
    by_cases h0 : i = 0
    · have o30 : ab K.P .gtr 3 (.nu .i64 (.ofNat i)) (.nu .i64 0) = some (.bo false) := by
       have := qk (P := K.P) (t := 3) i 0
       rw [cC (by omega)] at this; exact this
      obtain ⟨r34, g3, c62, dj, S3, B3⟩ := xL H T8 bt (k := k) (u := dg n) (by simp only [List.length_append]; omega) (by omega) (Gt n) B2
      refine ⟨_, _, ka H.hk H.prim PT g24 g23 g22 g6 (aM hi) hp1 hp2 o30 (rO H PT (by omega)) c62 (bI (by omega)), dj, S2.trans S3, ?_, g5, g6, g16, g17, g18, g22, g23, rfl, gs⟩
      rw [hsn, if_pos h0, List.append_nil, ← List.append_assoc]; exact B3
    · have o30 : ab K.P .gtr 3 (.nu .i64 (.ofNat i)) (.nu .i64 0) = some (.bo true) := by
       have := qk (P := K.P) (t := 3) i 0
       rw [jp (by omega)] at this; exact this
      obtain ⟨r31, g3, c61, dj, S3, B3⟩ := uK H T8 bt (k := k) (by simp only [List.length_append]; omega) B2 32
      obtain ⟨r34, g4, c62, je, S4, B4⟩ := xL H T8 dj (k := k) (u := dg n) (by simp only [List.length_append, List.length_cons, List.length_nil]; omega) (by omega) (Gt n) B3
      refine ⟨_, _, j9 H.hk H.prim PT g24 g23 g22 g6 (aM hi) hp1 hp2 o30 c61 (rO H PT (by omega)) c62 (bI (by omega)), je, (S2.trans S3).trans S4, ?_, g5, g6, g16, g17, g18, g22, g23, rfl, gs⟩
      rw [hsn, if_neg h0]
      simpa [List.append_assoc] using B4)
  (fun s g2 ⟨bt, S2, B2, g5, g6, g16, g17, g18, g22, g23, g24, gs⟩ =>
    ⟨_, _, kw H.hk H.prim PT g24 g23 (aY (Nat.le_refl _)), bt, S2, by rw [List.take_length] at B2; exact B2, g5, g6, g16, g17, g18, gs⟩)
 exact ⟨s', g', r, q⟩
theorem A9 (H : Std K) (T8 : ig K) (PB : fT K) (PT : eX K) (ok : HpOk h) {l : List (List Int)} (hl : ux l) {x : CV} {cs : List CV} (hx : Row h x cs) (hxs : Rows h cs l) : nX K 20 [x] h fun r h' => r = .tup [.st (bD (if cU l = 0 then l.filter (eG l) else [])), .nu .i64 (cU l)] := by
 have hf : K.P.funcs[20]? = some Tryz.f20 := by rw [H.hP]; exact Tryz.func20
 obtain ⟨_, h1, c24, S1, cm, o, ds, rfl, O⟩ := Jb H PB ok hl hx hxs
 have hL : Txt (if cU l = 0 then l.filter (eG l) else []) ∧ (if cU l = 0 then l.filter (eG l) else []).length ≤ 1024 := by
  by_cases he : cU l = 0
  · rw [if_pos he]
    have hC := xq he
    refine ⟨fun a ha => ?_, Nat.le_trans (List.length_filter_le _ _) hC.le⟩
    have := hC.simp a (List.mem_filter.1 ha).1
    exact ⟨by have := this.le; omega, fun v hv => this.rng v hv⟩
  · rw [if_neg he]; exact ⟨fun a ha => (by cases ha), by simp⟩
 generalize (if cU l = 0 then l.filter (eG l) else []) = L at O hL
 obtain ⟨hT, hLl⟩ := hL
 have hrow := O.out.row
 have hrows := O.all
 have hdl := hrows.length
 have hlen := fk H hrow
 rw [hdl] at hlen
 obtain ⟨s1, r1, a4, a5, as1⟩ : ∃ s', ei K [1, 0] (T.set (T.set (entry 0 [x]) 2 (ofValue (.string ⟨#[]⟩))) 3 (.nu .i64 0)) h .normal s' h1 ∧ s'.at 4 = o ∧ s'.at 5 = .nu .i64 (cU l) ∧ s'.at ag = .undef :=
  ⟨_, Lm H.hk rfl (H.prim _ _) c24 rfl rfl, rfl, rfl, rfl⟩
 have o6 : fN 85 (dh K.P 85) = some (fun k => .ptr k 0, .cells [.nilp, .nils] 0 85) := by rw [H.hP, Nx]; rfl
 obtain ⟨s2, r2, b4, b5, b6, bs2⟩ : ∃ s', ei K [1, 1, 0] s1 h1 .normal s' (h1.push (.cells [.nilp, .nils] 0 85)) ∧ s'.at 4 = o ∧ s'.at 5 = .nu .i64 (cU l) ∧ s'.at 6 = .ptr h1.n 0 ∧ s'.at ag = .undef :=
  ⟨_, Ln H.hk o6, a4, a5, rfl, as1⟩
 have S2 : Same h1.n h1 (h1.push (.cells [.nilp, .nils] 0 85)) := Same.push (Nat.le_refl _) _
 have bt : HpOk (h1.push (.cells [.nilp, .nils] 0 85)) := cm.push _
 have hlen2 := fk H (hrow.mono S2 cm (Nat.le_refl _))
 rw [hdl] at hlen2
 obtain ⟨s3, r3, d5, d6, d16, d17, d18, ds3⟩ : ∃ s', ei K [1, 1, 1, 0, 0] s2 (h1.push (.cells [.nilp, .nils] 0 85)) .normal s' (h1.push (.cells [.nilp, .nils] 0 85)) ∧ s'.at 5 = .nu .i64 (cU l) ∧ s'.at 6 = .ptr h1.n 0 ∧ s'.at 16 = o ∧ s'.at 17 = .nu .i64 (.ofNat L.length) ∧ s'.at 18 = .nu .i64 (.ofNat 0) ∧ s'.at ag = .undef :=
  ⟨_, Lo H.hk b4 hlen2, b5, b6, rfl, rfl, rfl, bs2⟩
 obtain ⟨s4, g4, r4, je, S4, B4, e5, e6, es⟩ := dZ (K := K) (f := 20) (n := 40) (c := aD [1, 1, 1, 0, 1, 0, 0] (am Tryz.f20)) (s := s3) (h := h1.push (.cells [.nilp, .nils] 0 85)) (m := L.length) (b := 0)
  (I := fun i s g => HpOk g ∧ Same h1.n h1 g ∧ ng g h1.n (bD (L.take i)) ∧ s.at 5 = .nu .i64 (cU l) ∧ s.at 6 = .ptr h1.n 0 ∧ s.at 16 = o ∧ s.at 17 = .nu .i64 (.ofNat L.length) ∧ s.at 18 = .nu .i64 (.ofNat i) ∧ s.at ag = .undef)
  (E := fun s g => HpOk g ∧ Same h1.n h1 g ∧ ng g h1.n (bD L) ∧ s.at 5 = .nu .i64 (cU l) ∧ s.at 6 = .ptr h1.n 0 ∧ s.at ag = .undef)
  ⟨bt, S2, ⟨.nilp, .nils, by rw [ah, if_pos rfl], .inl rfl, .nils⟩, d5, d6, d16, d17, d18, ds3⟩
  (fun i s g hi ⟨okg, S, B, g5, g6, g16, g17, g18, gs⟩ => by
    obtain ⟨p, hp1, hp2⟩ := ke H (hrow.mono S cm (Nat.le_refl _)) (i := i) (by omega)
    have hxi := hrows.get (i := i) (by omega) hi
    have ha := hT _ (List.getElem_mem hi)
    have hlx := dM H (hxi.mono S cm (Nat.le_refl _))
    rw [ax] at hlx
    have htl := iQ (hT.take i)
    rw [List.length_take] at htl
    have hll := kY L[i] true
    obtain ⟨sA, rA, p5, p6, p16, p17, p18, p19, ps⟩ : ∃ s', ei K [1, 1, 1, 0, 1, 0, 0, 0] s g .normal s' g ∧ s'.at 5 = .nu .i64 (cU l) ∧ s'.at 6 = .ptr h1.n 0 ∧ s'.at 16 = o ∧ s'.at 17 = .nu .i64 (.ofNat L.length) ∧ s'.at 18 = .nu .i64 (.ofNat i) ∧ s'.at 19 = .bo true ∧ s'.at ag = .undef :=
     ⟨_, CK H.hk g18 g17 (aM hi), g5, g6, g16, g17, g18, rfl, gs⟩
    obtain ⟨sB, rB, q5, q6, q8, q16, q17, q18, qs⟩ : ∃ s', ei K [1, 1, 1, 0, 1, 0, 0, 1, 1, 0, 0, 0] sA g .normal s' g ∧ s'.at 5 = .nu .i64 (cU l) ∧ s'.at 6 = .ptr h1.n 0 ∧ s'.at 8 = ds[i] ∧ s'.at 16 = o ∧ s'.at 17 = .nu .i64 (.ofNat L.length) ∧ s'.at 18 = .nu .i64 (.ofNat i) ∧ s'.at ag = .undef :=
     ⟨_, Lq H.hk p16 p18 hp1 hp2, p5, p6, rfl, p16, p17, p18, ps⟩
    obtain ⟨sC, rC, u5, u6, u16, u17, u18, u22, u23, u24, us⟩ : ∃ s', ei K [1, 1, 1, 0, 1, 0, 0, 1, 1, 0, 0, 1, 0, 0] sB g .normal s' g ∧ s'.at 5 = .nu .i64 (cU l) ∧ s'.at 6 = .ptr h1.n 0 ∧ s'.at 16 = o ∧ s'.at 17 = .nu .i64 (.ofNat L.length) ∧ s'.at 18 = .nu .i64 (.ofNat i) ∧ s'.at 22 = ds[i] ∧ s'.at 23 = .nu .i64 (.ofNat L[i].length) ∧ s'.at 24 = .nu .i64 (.ofNat 0) ∧ s'.at ag = .undef :=
     ⟨_, Lr H.hk q8 hlx, q5, q6, q16, q17, q18, rfl, rfl, rfl, qs⟩
    obtain ⟨sD, gD, rD, okD, SD, BD, w5, w6, w16, w17, w18, ws⟩ := yu H T8 PT rfl cm ha hxi (by omega) okg S B u5 u6 u16 u17 u18 u22 u23 u24 us
    obtain ⟨r36, gE, c61, okE, SE, BE⟩ := uK H T8 okD (k := h1.n) (by simp only [List.length_append]; omega) BD 10
    obtain ⟨sE, rE, y5, y6, y16, y17, y18, ys⟩ : ∃ s', ei K [1, 1, 1, 0, 1, 0, 0, 1, 1, 0, 0, 1, 1] sD gD .normal s' gE ∧ s'.at 5 = .nu .i64 (cU l) ∧ s'.at 6 = .ptr h1.n 0 ∧ s'.at 16 = o ∧ s'.at 17 = .nu .i64 (.ofNat L.length) ∧ s'.at 18 = .nu .i64 (.ofNat i) ∧ s'.at ag = .undef :=
     ⟨_, If H.hk w6 (H.prim _ _) c61, w5, w6, w16, w17, w18, ws⟩
    refine ⟨_, gE, Runs.seq rA (Runs.seq (Runs.condT (o := .tmp 19) (y := .exit 0) p19 Runs.skip) (Runs.seq (aB (Runs.seq rB (Runs.seq (Runs.seq rC rD) rE))) (Ig H.hk y18 (bI (by omega))))), okE, (S.trans SD).trans SE, ?_, y5, y6, y16, y17, rfl, ys⟩
    rw [cB hi, A8, ← List.append_assoc]; exact BE)
  (fun s g ⟨okg, S, B, g5, g6, g16, g17, g18, gs⟩ =>
    ⟨_, _, Runs.seq (CK H.hk g18 g17 (aY (Nat.le_refl _))) (aC (Runs.condF (o := .tmp 19) (x := .skip) rfl Runs.exit) (by simp)), okg, S, by rw [List.take_length] at B; exact B, g5, g6, gs⟩)
 have htl := iQ hT
 obtain ⟨g5, c64, gS, S5⟩ := yr H PT je (by omega) (A7 hT) B4
 have Sall : Same h.n h g5 := S1.trans ((S4.trans S5).le S1.n)
 exact ⟨_, g5, H.go hf (Runs.seq (Ll H.hk) (Runs.seq r1 (Runs.seq r2 (Runs.seq (Runs.seq r3 r4) (CZ H.hk H.prim PT e6 e5 c64))))) (.inr rfl) Sall.n es rfl rfl, Sall, gS, rfl⟩
end
theorem kl {t : List Nat} {a i : Nat} {l : List Nat} (hd : t.drop a = l) : t[a + i]? = l[i]? := by rw [← hd, List.getElem?_drop]
theorem jF {t : List Nat} {a : Nat} {l : List Nat} (hd : t.drop a = l) (hn : 0 < l.length) : a + l.length = t.length := by
 have := congrArg List.length hd
 rw [List.length_drop] at this; omega
theorem Ba {d : Nat} (h : d < 10) : gQ (48 + d) = true := by
 unfold gQ
 rw [cC (by omega), cC (by omega)]; rfl
theorem xN {t : List Nat} {a n c : Nat} {rest : List Nat} (hn : n < 64) (hd : t.drop a = dg n ++ c :: rest) (hc : gQ c = false) : dQ t a = (some n, a + (dg n).length) := by
 unfold dg at hd ⊢
 by_cases h10 : n < 10
 · rw [if_pos h10] at hd ⊢
   have h0 : t[a]? = some (48 + n) := by have := kl (i := 0) hd; simpa using this
   have h1 : t[a + 1]? = some c := by have := kl (i := 1) hd; simpa using this
   have hl := jF hd (by simp)
   simp only [List.cons_append, List.nil_append, List.length_cons] at hl
   obtain ⟨m, hm⟩ : ∃ m, t.length - a = m + 2 := ⟨t.length - a - 2, by omega⟩
   have hdn := Ba h10
   rw [dQ, h0]
   simp only [hdn]
   rw [hm, dw, h0]
   simp only [hdn]
   rw [if_neg (by omega), dw, h1]
   simp only [hc, List.length_cons, List.length_nil]
   congr 2; omega
 · rw [if_neg h10] at hd ⊢
   have h0 : t[a]? = some (48 + n / 10) := by have := kl (i := 0) hd; simpa using this
   have h1 : t[a + 1]? = some (48 + n % 10) := by have := kl (i := 1) hd; simpa using this
   have h2 : t[a + 2]? = some c := by have := kl (i := 2) hd; simpa using this
   have hl := jF hd (by simp)
   simp only [List.cons_append, List.nil_append, List.length_cons] at hl
   obtain ⟨m, hm⟩ : ∃ m, t.length - a = m + 3 := ⟨t.length - a - 3, by omega⟩
   have hd0 := Ba (d := n / 10) (by omega)
   have hd1 := Ba (d := n % 10) (by omega)
   rw [dQ, h0]
   simp only [hd0]
   rw [hm, dw, h0]
   simp only [hd0]
   rw [if_neg (by omega), dw, h1]
   simp only [hd1]
   rw [if_neg (by
    rintro (h | ⟨_, h⟩)
    · omega
    · rw [h0] at h; injection h with h; omega), dw, h2]
   simp only [hc, List.length_cons, List.length_nil]
   congr 2; omega
theorem uL {t : List Nat} : ∀ (r : List Int) (v : Int) (acc : List Int) (a m : Nat) (rest : List Nat), (∀ x ∈ v :: r, 0 ≤ x ∧ x < 64) → t.drop a = dg v.toNat ++ (bz false r ++ 10 :: rest) → t.length < a + m → ∃ b, fa t m a acc = .inr (acc ++ v :: r, b) ∧ t.drop b = rest ∧ b ≤ t.length
 | r, v, acc, a, 0, rest, h, hd, hm => by
  have := jF hd (by simp only [List.length_append, List.length_cons]; omega)
  simp only [List.length_append, List.length_cons] at this; omega
 | [], v, acc, a, m + 1, rest, h, hd, hm => by
  obtain ⟨n, hv, hn, hvn⟩ := xI (h v (by simp))
  rw [hvn] at hd
  have hd' : t.drop a = dg n ++ 10 :: rest := hd
  have hN := xN hn hd' rfl
  have hj : t[a + (dg n).length]? = some 10 := by rw [kl hd']; simp
  have hl := jF hd' (by simp only [List.length_append, List.length_cons]; omega)
  rw [List.length_append, List.length_cons] at hl
  refine ⟨a + (dg n).length + 1, ?_, ?_, by omega⟩
  · rw [fa, hN]
    simp only [hj, if_true, if_false, Nat.reduceEqDiff]
    rw [hv]
  · rw [show a + (dg n).length + 1 = a + ((dg n).length + 1) by omega, ← List.drop_drop, hd', ← List.drop_drop, List.drop_left]; rfl
 | w :: r, v, acc, a, m + 1, rest, h, hd, hm => by
  obtain ⟨n, hv, hn, hvn⟩ := xI (h v (by simp))
  rw [hvn] at hd
  have hd' : t.drop a = dg n ++ 32 :: (dg w.toNat ++ (bz false r ++ 10 :: rest)) := by
   rw [hd, bz]; simp
  have hN := xN hn hd' rfl
  have hj : t[a + (dg n).length]? = some 32 := by rw [kl hd']; simp
  have hl := jF hd' (by simp only [List.length_append, List.length_cons]; omega)
  rw [List.length_append, List.length_cons] at hl
  have hd2 : t.drop (a + (dg n).length + 1) = dg w.toNat ++ (bz false r ++ 10 :: rest) := by
   rw [show a + (dg n).length + 1 = a + ((dg n).length + 1) by omega, ← List.drop_drop, hd', ← List.drop_drop, List.drop_left]; rfl
  obtain ⟨b, h1, h2, h3⟩ := uL r w (acc ++ [v]) (a + (dg n).length + 1) m rest (fun x hx => h x (by simp [List.mem_cons] at hx ⊢; exact .inr hx)) hd2 (by omega)
  refine ⟨b, ?_, h2, h3⟩
  rw [fa, hN]
  simp only [hj, if_true]
  rw [← hv, h1]; simp
theorem rR {t : List Nat} : ∀ (L : List (List Int)) (a m : Nat) (acc : List (List Int)), (∀ x ∈ L, OkS x) → t.drop a = bD L → a ≤ t.length → t.length < a + m → fH t m a acc = .ok (acc ++ L)
 | L, a, 0, acc, h, hd, ha, hm => by omega
 | [], a, m + 1, acc, h, hd, ha, hm => by
  have hl := congrArg List.length hd
  rw [List.length_drop] at hl
  have : (bD []).length = 0 := rfl
  rw [fH, if_neg (by omega), List.append_nil]
 | [] :: L, a, m + 1, acc, h, hd, ha, hm => absurd rfl (h [] (by simp)).ne
 | (v :: r) :: L, a, m + 1, acc, h, hd, ha, hm => by
  have hok := h (v :: r) (by simp)
  have hd' : t.drop a = dg v.toNat ++ (bz false r ++ 10 :: bD L) := by
   rw [hd, show bD ((v :: r) :: L) = bz true (v :: r) ++ [10] ++ bD L from rfl, bz]; simp
  have hl := jF hd' (by simp only [List.length_append, List.length_cons]; omega)
  simp only [List.length_append, List.length_cons] at hl
  obtain ⟨b, h1, h2, h3⟩ := uL r v [] a (t.length + 1) (bD L) hok.rng hd' (by omega)
  have hr := mS (t := t) (t.length + 1) a [] _ b ha h1
  rw [fH, if_pos (by omega), h1]
  simp only [List.nil_append]
  rw [if_neg (fun hn => hn (dd.2 hok)), rR L b m (acc ++ [v :: r]) (fun x hx => h x (by simp [hx])) h2 h3 (by omega)]
  simp
theorem pN {L : List (List Int)} (h : ∀ x ∈ L, OkS x) (hl : L.length ≤ 1024) (hc : (de L).length ≤ 1024) (ht : (bD L).length ≤ 65536) : iP (bD L) = (de L, 0, 0) := by
 have e := Jh hl h hc
 rw [iP, if_neg (by omega), rR (t := bD L) L 0 _ [] h rfl (Nat.zero_le _) (by omega), List.nil_append]
 simp only [e, if_true]
theorem Bb {L M : List (List Int)} (h : ∀ s, s ∈ L ↔ s ∈ M) : de L = de M := by
 refine lT (gj _) (gj _) fun s => ?_
 have h1 := mR (l := L) (s := s)
 have h2 := mR (l := M) (s := s)
 exact h1.trans ((by simp only [h] : (∃ a ∈ L, s.Sublist a ∧ s ≠ []) ↔ (∃ a ∈ M, s.Sublist a ∧ s ≠ [])).trans h2.symm)
def ci (ls : List (List Nat)) : List Nat := ls.flatMap fun a => a ++ [10]
theorem uM (L : List (List Int)) : bD L = ci (L.map (bz true)) := by
 unfold bD ci
 rw [List.flatMap_map]
theorem M7 {n : Nat} : ∀ c ∈ dg n, c ≠ 10 := by
 unfold dg
 split
 · intro c hc; rw [List.mem_singleton] at hc; omega
 · intro c hc
   simp only [List.mem_cons, List.not_mem_nil, or_false] at hc
   omega
theorem xO : ∀ (a : List Int) (b : Bool), ∀ c ∈ bz b a, c ≠ 10
 | [], b, c, hc => by simp [bz] at hc
 | v :: a, b, c, hc => by
  have hc' : c ∈ (if b then [] else [32]) ++ dg v.toNat ++ bz false a := hc
  rw [List.mem_append, List.mem_append] at hc'
  rcases hc' with (hc | hc) | hc
  · cases b
    · simp at hc; omega
    · simp at hc
  · exact M7 c hc
  · exact xO a false c hc
theorem xP (rest : List Nat) : ∀ (a : List Nat) (i : Nat), (∀ c ∈ a, c ≠ 10) → dv 10 i (a ++ 10 :: rest) = Int.ofNat (i + a.length)
 | [], i, _ => rfl
 | c :: a, i, h => by
  have hc : Nat.beq c 10 = false := oD (h c (by simp))
  show (match Nat.beq c 10 with
   | true => Int.ofNat i
   | false => dv 10 (i + 1) (a ++ 10 :: rest)) = _
  rw [hc]
  simp only
  rw [xP rest a (i + 1) (fun x hx => h x (by simp [hx])), List.length_cons]
  congr 1; omega
def fB (c : Nat) (s : List Nat) : Nat := s.countP (fun x => Nat.beq x c)
theorem uN : ∀ (a : List Nat), (∀ c ∈ a, c ≠ 10) → fB 10 a = 0
 | [], _ => rfl
 | c :: a, h => by
  have ih := uN a (fun x hx => h x (by simp [hx]))
  unfold fB at ih ⊢
  rw [List.countP_cons, ih, oD (h c (by simp))]; rfl
theorem xQ : ∀ (ls : List (List Nat)), (∀ a ∈ ls, ∀ c ∈ a, c ≠ 10) → fB 10 (ci ls) = ls.length
 | [], _ => rfl
 | a :: ls, h => by
  have ih := xQ ls (fun x hx => h x (by simp [hx]))
  have h1 := uN a (h a (by simp))
  unfold fB at ih h1 ⊢
  show ((a ++ [10]) ++ ci ls).countP _ = _
  rw [List.countP_append, List.countP_append, ih, h1, List.length_cons]
  show 0 + 1 + ls.length = _
  omega
theorem zS : ∀ (ls : List (List Nat)), ls.length ≤ (ci ls).length
 | [] => Nat.le_refl _
 | a :: ls => by
  have := zS ls
  show ls.length + 1 ≤ ((a ++ [10]) ++ ci ls).length
  simp only [List.length_append, List.length_cons, List.length_nil]; omega
def fU (ls : List (List Nat)) : List CV := (ls.map fun a => CV.st (a ++ [10])) ++ [.st []]
theorem t76 : ae Tryz.prog 76 = .slice 9 1 16 [.st []] := by kernel_rfl
theorem z9 : ar Tryz.prog 9 = some (1, false) := by kernel_rfl
def oY (args : List CV) (h : Hp) : Option (CV × Hp) := match args with
 | [.st s, .nu .u8 (.ofNat c)] => if c < 256 then some (.nu .i64 (dv c 0 s), h) else none
 | _ => none
def oZ (args : List CV) (h : Hp) : Option (CV × Hp) := match args with
 | [.st s, .st [c]] => if c < 256 then some (.nu .i64 (.ofNat (fB c s)), h) else none
 | _ => none
section
variable {K : Ctx} {h : Hp}
theorem vj (hk : ∀ o, HK.keep o = false) (hP : K.P = Tryz.prog) (hm : K.memo 181 = []) (hsp : ∀ args h, K.spec 181 args h = none) (hpr : ∀ s c, c < 256 → K.prim 193 [.st s, .nu .u8 (.ofNat c)] = some (.nu .i64 (dv c 0 s))) {args : List CV} {h h' : Hp} {r : CV} (hs : oY args h = some (r, h')) : Comes K 181 args h r h' := by
 unfold oY at hs
 split at hs
 · rename_i s c
   split at hs
   · rename_i hc
     injection hs with hs
     obtain ⟨rfl, rfl⟩ := Prod.mk.inj hs
     have hf : K.P.funcs[181]? = some Tryz.f181 := by rw [hP]; exact Tryz.func181
     have r1 : KR K [1, 0] (T.set (entry 0 [.st s, .nu .u8 (.ofNat c)]) 4 (.nu .i64 0)) h .normal (T.set (T.set (T.set (T.set (T.set (entry 0 [.st s, .nu .u8 (.ofNat c)]) 4 (.nu .i64 0)) 5 (.st s)) 6 (.nu .u8 (.ofNat c))) 7 (.nu .i64 (dv c 0 s))) 4 (.nu .i64 (dv c 0 s))) h := by
      refine Runs.region ?_
      refine RunL.op (v := .st s) rfl (Q1.e (aS rfl rfl)) ?_
      refine RunL.op (v := .nu .u8 (.ofNat c)) rfl (Q1.e (aS rfl rfl)) ?_
      refine RunL.prim (v := .nu .i64 (dv c 0 s)) rfl rfl rfl rfl rfl (hpr s c hc) ?_
      refine RunL.op (v := .nu .i64 (dv c 0 s)) rfl (Q1.e (cY rfl rfl)) ?_
      exact RunL.nil
     exact bO hf rfl hm hsp rfl (Runs.seq (IQ hk) (Runs.seq r1 Runs.ret)) (.inr rfl) (Nat.le_refl _) rfl rfl rfl
   · cases hs
 · cases hs
theorem vk (hk : ∀ o, HK.keep o = false) (hP : K.P = Tryz.prog) (hm : K.memo 134 = []) (hsp : ∀ args h, K.spec 134 args h = none) (hpr : ∀ s c, c < 256 → K.prim 160 [.st s, .nu .u8 (.ofNat c)] = some (.nu .i64 (.ofNat (fB c s)))) {args : List CV} {h h' : Hp} {r : CV} (hs : oZ args h = some (r, h')) : Comes K 134 args h r h' := by
 unfold oZ at hs
 split at hs
 · rename_i s c
   split at hs
   · rename_i hc
     injection hs with hs
     obtain ⟨rfl, rfl⟩ := Prod.mk.inj hs
     have hf : K.P.funcs[134]? = some Tryz.f134 := by rw [hP]; exact Tryz.func134
     have l1 : ∀ g : Hp, an g (.st [c]) (ae K.P 9) = some (.nu .i64 (.ofNat 1)) := fun g => by rw [hP, t9]; rfl
     have o18 : bC (.st [c]) (.nu .i64 0) (ae K.P 9) = some (.nu .u8 (.ofNat c)) := by rw [hP, t9]; rfl
     obtain ⟨s2, r2, a0, a1, as_⟩ : ∃ s2, (∀ {e s' h'}, wO K [1, 1, 0, 1, 0] s2 h e s' h' → e ≠ .normal → Runs K 134 34 none (am Tryz.f134) (entry 0 [.st s, .st [c]]) h e s' h') ∧ s2.at 0 = .st s ∧ s2.at 1 = .st [c] ∧ s2.at ag = .undef :=
      ⟨_, fun r he => Runs.seq (IE hk) (Runs.seq (Runs.seq (IF hk rfl (l1 _) (r9 := .bo false) rfl) (Runs.condF (o := .tmp 9) rfl Runs.skip)) (aC (Runs.seq (IG hk rfl (l1 _) (r15 := .bo true) rfl) (Runs.condT (o := .tmp 15) rfl r)) he)), rfl, rfl, rfl⟩
     have r4 : wO K [1, 1, 0, 1, 0, 0] s2 h .normal (T.set (T.set (T.set (T.set (T.set s2 16 (.st s)) 17 (.st [c])) 18 (.nu .u8 (.ofNat c))) 19 (.nu .i64 (.ofNat (fB c s)))) 4 (.nu .i64 (.ofNat (fB c s)))) h := by
      refine Runs.region ?_
      refine RunL.op (v := .st s) rfl (Q1.e (aS rfl a0)) ?_
      refine RunL.op (v := .st [c]) rfl (Q1.e (aS rfl a1)) ?_
      refine RunL.op (v := .nu .u8 (.ofNat c)) rfl (Q1.e (eD rfl rfl rfl o18)) ?_
      refine RunL.prim (v := .nu .i64 (.ofNat (fB c s))) rfl rfl rfl rfl rfl (hpr s c hc) ?_
      refine RunL.op (v := .nu .i64 (.ofNat (fB c s))) rfl (Q1.e (cY rfl rfl)) ?_
      exact RunL.nil
     exact bO hf rfl hm hsp rfl (r2 (Runs.seq r4 Runs.ret) (by simp)) (.inr rfl) (Nat.le_refl _) as_ rfl rfl
   · cases hs
 · cases hs
end
structure vJ (K : Ctx) : Prop where
 k181 : ∀ args h, K.spec 181 args h = oY args h
 k134 : ∀ args h, K.spec 134 args h = oZ args h
theorem pO {K : Ctx} {f : FuncId} {args : List CV} {h h' : Hp} {r : CV} (H : Std K) (hs : K.spec f args h = some (r, h')) (hf : f ≠ 14 := by decide) : Comes K f args h r h' := Comes.told (H.memo f hf) hs
section
variable {K : Ctx} {h : Hp}
theorem FU (H : Std K) (TB : vJ K) (PR : rr K) (s : List Nat) : Comes K 135 [.st s, .st [10]] h (.nu .i64 (dv 10 0 s)) h := by
 have h161 : Comes K 161 [.st s, .st [10]] h (.nu .i64 (dv 10 0 s)) h := by
  have hf : K.P.funcs[161]? = some Tryz.f161 := by rw [H.hP]; exact Tryz.func161
  have o22 : ab K.P .eql 9 (.st [10]) (.st s) = some (.bo (eJ [10] s)) := rfl
  have o29 : bC (.st [10]) (.nu .i64 0) (ae K.P 9) = some (.nu .u8 (.ofNat 10)) := by rw [H.hP, t9]; rfl
  obtain ⟨s1, r1, a0, a1, a5, as_⟩ : ∃ s1, (∀ {e s' h'}, mE K [1, 1, 0] s1 h e s' h' → e ≠ .normal → Runs K 161 143 none (am Tryz.f161) (entry 0 [.st s, .st [10]]) h e s' h') ∧ s1.at 0 = .st s ∧ s1.at 1 = .st [10] ∧ s1.at 5 = .nu .i64 (.ofNat 1) ∧ s1.at ag = .undef :=
   ⟨_, fun r he => Runs.seq (IK H.hk) (Runs.seq (IL H.hk rfl (cZ H [10])) (aC r he)), rfl, rfl, rfl, rfl⟩
  cases hq : eJ [10] s with
  | true =>
   rw [hq] at o22
   have hs : s = [10] := (nD hq).symm
   subst hs
   exact H.go hf (r1 (wV H.hk H.prim PR a5 a1 a0 rfl o22 rfl) (by simp)) (.inr rfl) (Nat.le_refl _) as_ rfl rfl
  | false =>
   rw [hq] at o22
   have c181 : Comes K 181 [.st s, .nu .u8 (.ofNat 10)] h (.nu .i64 (dv 10 0 s)) h := pO H (by rw [TB.k181]; rfl)
   exact H.go hf (r1 (vd H.hk H.prim PR a5 a1 a0 rfl o22 rfl rfl o29 c181) (by simp)) (.inr rfl) (Nat.le_refl _) as_ rfl rfl
 have hf : K.P.funcs[135]? = some Tryz.f135 := by rw [H.hP]; exact Tryz.func135
 exact H.go hf (LL H.hk H.prim PR (s := entry 0 [.st s, .st [10]]) rfl rfl h161) (.inr rfl) (Nat.le_refl _) rfl rfl rfl
theorem zT (ls : List (List Nat)) : (fU ls).length = ls.length + 1 := by simp [fU]
theorem My {ls : List (List Nat)} {i : Nat} (hi : i < ls.length) : (fU ls)[i]? = some (.st (ls[i] ++ [10])) := by
 unfold fU
 rw [List.getElem?_append_left (by simpa using hi), List.getElem?_map, List.getElem?_eq_getElem hi]; rfl
theorem FV (ls : List (List Nat)) : (fU ls)[ls.length]? = some (.st []) := by
 unfold fU
 rw [List.getElem?_append_right (by simp)]; simp
theorem zU (z : CV) : ∀ n, (dN [z] n).length = n
 | 0 => rfl
 | n + 1 => by show (z :: dN [z] n).length = _; rw [List.length_cons, zU z n]
theorem Mz (hP : K.P = Tryz.prog) {g : Hp} {kb n i : Nat} {D : List CV} (hg : g.get kb = .cells D 0 9) (hD : D.length = n) (hi : i < n) (x : List Nat) : ai (.sl kb 0 n n) (.nu .i64 (.ofNat i)) (ae K.P 76) = some (.ptr kb (0 + i * 1)) ∧ bc g (.ptr kb (0 + i * 1)) (.st x) (ar K.P 9) = some (.undef, g.set kb (.cells (D.set i (.st x)) 0 9)) := by
 rw [hP, t76, z9]
 have hb : Nat.blt i n = true := by simpa using hi
 refine ⟨by simp only [ai, tM, hb], ?_⟩
 have hle : Nat.ble (0 + i * 1 + 1) D.length = true := cC (by omega)
 have hset : setAt D (0 + i * 1) [CV.st x] = D.set i (.st x) := by
  rw [c7, dy, Nat.zero_add, Nat.mul_one]
 have hc : (CV.st x).cells = [.st x] := rfl
 have hs : (CV.st x).sol = true := rfl
 simp only [bc, hg, dz, hs, hc, List.length_cons, List.length_nil, Nat.zero_add, Nat.beq_refl, Bool.and_self]
 have hle' : Nat.ble (i * 1 + 1) D.length = true := cC (by omega)
 rw [Nat.zero_add] at hset
 simp only [hle', hset, Bool.and_self]
theorem DS (H : Std K) (TB : vJ K) (PR : rr K) (ok : HpOk h) {ls : List (List Nat)} (hls : ∀ a ∈ ls, ∀ c ∈ a, c ≠ 10) (hlen : (ci ls).length < 1000000) : nX K 54 [.st (ci ls), .st [10]] h fun r h' => Row h' r (fU ls) := by
 have hcl := zS ls
 have hf3 : K.P.funcs[103]? = some Tryz.f103 := by rw [H.hP]; exact Tryz.func103
 have c134 : Comes K 134 [.st (ci ls), .st [10]] h (.nu .i64 (.ofNat ls.length)) h := pO H (by rw [TB.k134, ← xQ ls hls]; rfl)
 have o31 : ma (.nu .i64 (.ofNat (ls.length + 1))) (.nu .i64 (.ofNat (ls.length + 1))) (ae K.P 76) = some (fun k => .sl k 0 (ls.length + 1) (ls.length + 1), .cells (dN [.st []] (ls.length + 1)) 0 9) := by
  rw [H.hP, t76]
  have h1 : (Nat.beq [CV.st []].length 1 && Nat.ble (ls.length + 1) (ls.length + 1) && Nat.ble ((ls.length + 1) * 16) 140737488355328 && Nat.ble (ls.length + 1) 9223372036854775807) = true := by
   rw [cC (Nat.le_refl _), cC (by omega), cC (by omega)]; rfl
  simp only [ma, h1]
 have o29 : rT (.nu .i64 (.ofNat (ls.length + 1))) (.nu .i64 (.ofNat ((ci ls).length + 1))) = some (.nu .i64 (.ofNat (ls.length + 1))) := by
  have h1 : cI (.ofNat (ls.length + 1)) (.ofNat ((ci ls).length + 1)) = true := cC (by omega)
  simp only [rT, h1]
 have o33 : ab K.P .sub 3 (.nu .i64 (.ofNat (ls.length + 1))) (.nu .i64 1) = some (.nu .i64 (.ofNat ls.length)) := Mn (x := ls.length + 1) (y := 1) (by omega) (by omega)
 have Sp : Same h.n h (h.push (.cells (dN [.st []] (ls.length + 1)) 0 9)) := Same.push (Nat.le_refl _) _
 obtain ⟨sa, ra, a0, a1, a2, a3, as_⟩ : ∃ s1, cn K [0] (entry 0 [.st (ci ls), .st [10], .nu .i64 (.ofNat 1), .nu .i64 (-1)]) h .normal s1 h ∧ s1.at 0 = .st (ci ls) ∧ s1.at 1 = .st [10] ∧ s1.at 2 = .nu .i64 (.ofNat 1) ∧ s1.at 3 = .nu .i64 (-1) ∧ s1.at ag = .undef := ⟨_, Iv H.hk, rfl, rfl, rfl, rfl, rfl⟩
 obtain ⟨sb, rb, b0, b1, b2, b3, bs⟩ : ∃ s1, cn K [1, 0] sa h .normal s1 h ∧ s1.at 0 = .st (ci ls) ∧ s1.at 1 = .st [10] ∧ s1.at 2 = .nu .i64 (.ofNat 1) ∧ s1.at 3 = .nu .i64 (-1) ∧ s1.at ag = .undef := ⟨_, AB H.hk H.prim PR a3 rfl, a0, a1, a2, a3, as_⟩
 obtain ⟨sc, rc, d0, d1, d2, d3, ds⟩ : ∃ s1, cn K [1, 1, 0] sb h .normal s1 h ∧ s1.at 0 = .st (ci ls) ∧ s1.at 1 = .st [10] ∧ s1.at 2 = .nu .i64 (.ofNat 1) ∧ s1.at 3 = .nu .i64 (-1) ∧ s1.at ag = .undef := ⟨_, yb H.hk H.prim PR b1 rfl, b0, b1, b2, b3, bs⟩
 obtain ⟨sd, rd, i0, i1, i2, i3, is⟩ : ∃ s1, cn K [1, 1, 1, 0] sc h .normal s1 h ∧ s1.at 0 = .st (ci ls) ∧ s1.at 1 = .st [10] ∧ s1.at 2 = .nu .i64 (.ofNat 1) ∧ s1.at 3 = .nu .i64 (.ofNat (ls.length + 1)) ∧ s1.at ag = .undef := ⟨_, wU H.hk H.prim PR d3 d0 d1 rfl c134 (bI (by omega)), d0, d1, d2, rfl, ds⟩
 obtain ⟨se, re, k0, k1, k2, k3, ks⟩ : ∃ s1, cn K [1, 1, 1, 1, 0] sd h .normal s1 h ∧ s1.at 0 = .st (ci ls) ∧ s1.at 1 = .st [10] ∧ s1.at 2 = .nu .i64 (.ofNat 1) ∧ s1.at 3 = .nu .i64 (.ofNat (ls.length + 1)) ∧ s1.at ag = .undef := ⟨_, IB H.hk i3 i0 (cZ H _) (bI (by omega)) o29, i0, i1, i2, rfl, is⟩
 obtain ⟨sf, rf, m0, m1, m2, m3, m9, ms⟩ : ∃ s1, cn K [1, 1, 1, 1, 1, 0] se h .normal s1 (h.push (.cells (dN [.st []] (ls.length + 1)) 0 9)) ∧ s1.at 0 = .st (ci ls) ∧ s1.at 1 = .st [10] ∧ s1.at 2 = .nu .i64 (.ofNat 1) ∧ s1.at 3 = .nu .i64 (.ofNat (ls.length + 1)) ∧ s1.at 9 = .sl h.n 0 (ls.length + 1) (ls.length + 1) ∧ s1.at ag = .undef := ⟨_, IC H.hk k3 o31, k0, k1, k2, k3, rfl, ks⟩
 obtain ⟨sg, rg', n0', n1, n2, n3, n9, ns⟩ : ∃ s1, cn K [1, 1, 1, 1, 1, 1, 0] sf (h.push (.cells (dN [.st []] (ls.length + 1)) 0 9)) .normal s1 (h.push (.cells (dN [.st []] (ls.length + 1)) 0 9)) ∧ s1.at 0 = .st (ci ls) ∧ s1.at 1 = .st [10] ∧ s1.at 2 = .nu .i64 (.ofNat 1) ∧ s1.at 3 = .nu .i64 (.ofNat ls.length) ∧ s1.at 9 = .sl h.n 0 (ls.length + 1) (ls.length + 1) ∧ s1.at ag = .undef := ⟨_, ID H.hk m3 o33, m0, m1, m2, rfl, m9, ms⟩
 obtain ⟨s1, rh, a0, a1, a2, a3, a9, a10, as_⟩ : ∃ s1, cn K [1, 1, 1, 1, 1, 1, 1, 0] sg (h.push (.cells (dN [.st []] (ls.length + 1)) 0 9)) .normal s1 (h.push (.cells (dN [.st []] (ls.length + 1)) 0 9)) ∧ s1.at 0 = .st (ci (ls.drop 0)) ∧ s1.at 1 = .st [10] ∧ s1.at 2 = .nu .i64 (.ofNat 1) ∧ s1.at 3 = .nu .i64 (.ofNat ls.length) ∧ s1.at 9 = .sl h.n 0 (ls.length + 1) (ls.length + 1) ∧ s1.at 10 = .nu .i64 (.ofNat 0) ∧ s1.at ag = .undef := ⟨_, E9 H.hk, n0', n1, n2, n3, n9, rfl, ns⟩
 have r1 : ∀ {e s' h'}, cn K [1, 1, 1, 1, 1, 1, 1, 1] s1 (h.push (.cells (dN [.st []] (ls.length + 1)) 0 9)) e s' h' → Runs K 103 66 none (am Tryz.f103) (entry 0 [.st (ci ls), .st [10], .nu .i64 (.ofNat 1), .nu .i64 (-1)]) h e s' h' := fun r => Runs.seq ra (Runs.seq rb (Runs.seq rc (Runs.seq rd (Runs.seq re (Runs.seq rf (Runs.seq rg' (Runs.seq rh r)))))))
 obtain ⟨s4, g4, r4, je, S4, D, hD, hg4, hDj, e0, e3, e9, e10, es⟩ := dZ (K := K) (f := 103) (n := 66) (c := aD [1, 1, 1, 1, 1, 1, 1, 1, 0, 0, 0] (am Tryz.f103)) (s := s1) (h := h.push (.cells (dN [.st []] (ls.length + 1)) 0 9)) (m := ls.length) (b := 0)
  (I := fun i s g => HpOk g ∧ Same h.n h g ∧ (∃ D, D.length = ls.length + 1 ∧ g.get h.n = .cells D 0 9 ∧ ∀ j, j < i → D[j]? = (fU ls)[j]?) ∧ s.at 0 = .st (ci (ls.drop i)) ∧ s.at 1 = .st [10] ∧ s.at 2 = .nu .i64 (.ofNat 1) ∧ s.at 3 = .nu .i64 (.ofNat ls.length) ∧ s.at 9 = .sl h.n 0 (ls.length + 1) (ls.length + 1) ∧ s.at 10 = .nu .i64 (.ofNat i) ∧ s.at ag = .undef)
  (E := fun s g => HpOk g ∧ Same h.n h g ∧ ∃ D, D.length = ls.length + 1 ∧ g.get h.n = .cells D 0 9 ∧ (∀ j, j < ls.length → D[j]? = (fU ls)[j]?) ∧ s.at 0 = .st [] ∧ s.at 3 = .nu .i64 (.ofNat ls.length) ∧ s.at 9 = .sl h.n 0 (ls.length + 1) (ls.length + 1) ∧ s.at 10 = .nu .i64 (.ofNat ls.length) ∧ s.at ag = .undef)
  ⟨ok.push _, Sp, ⟨_, zU _ _, by rw [ah, if_pos rfl], fun j hj => by omega⟩, a0, a1, a2, a3, a9, a10, as_⟩
  (fun i s g hi ⟨okg, S, ⟨D, hD, hg, hDj⟩, g0, g1, g2, g3, g9, g10, gs⟩ => by
    have hd : ls.drop i = ls[i] :: ls.drop (i + 1) := List.drop_eq_getElem_cons hi
    have hcat : ci (ls.drop i) = ls[i] ++ 10 :: ci (ls.drop (i + 1)) := by
     rw [hd]; show (ls[i] ++ [10]) ++ ci (ls.drop (i + 1)) = _; simp
    have hfb := xP (ci (ls.drop (i + 1))) ls[i] 0 (hls _ (List.getElem_mem hi))
    rw [Nat.zero_add] at hfb
    have hle : ls[i].length + 1 ≤ (ci ls).length := by
     have h1 : ci ls = ci (ls.take i) ++ ci (ls.drop i) := by unfold ci; rw [← List.flatMap_append, List.take_append_drop]
     rw [h1, hcat]
     simp only [List.length_append, List.length_cons]; omega
    have c135 := FU (h := g) H TB PR (ls[i] ++ 10 :: ci (ls.drop (i + 1)))
    rw [hfb] at c135
    rw [hcat] at g0
    have o41 : ab K.P .lss 3 (.nu .i64 (.ofNat ls[i].length)) (.nu .i64 0) = some (.bo false) := aY (x := ls[i].length) (y := 0) (Nat.zero_le _)
    have o47 := vI (P := K.P) (t := 3) (x := ls[i].length) (y := 1) (by omega)
    have o48 : ∀ g' : Hp, ba none (some (.nu .i64 (.ofNat (ls[i].length + 1)))) g' (.st (ls[i] ++ 10 :: ci (ls.drop (i + 1)))) (ae K.P 9) = some (.st (ls[i] ++ [10])) := fun g' => by
     rw [H.hP, t9]
     have h1 : (Nat.ble 0 (ls[i].length + 1) && Nat.ble (ls[i].length + 1) (ls[i] ++ 10 :: ci (ls.drop (i + 1))).length) = true := by
      rw [cC (Nat.zero_le _), cC (by simp)]; rfl
     show dU _ (some 0) (some (ls[i].length + 1)) = _
     simp only [dU, h1, List.drop_zero, Nat.sub_zero]
     congr 2
     rw [show ls[i] ++ 10 :: ci (ls.drop (i + 1)) = (ls[i] ++ [10]) ++ ci (ls.drop (i + 1)) by simp]
     exact List.take_left' (by simp)
    have o55 : ∀ g' : Hp, ba (some (.nu .i64 (.ofNat (ls[i].length + 1)))) none g' (.st (ls[i] ++ 10 :: ci (ls.drop (i + 1)))) (ae K.P 9) = some (.st (ci (ls.drop (i + 1)))) := fun g' => by
     rw [H.hP, t9]
     have h1 : (Nat.ble (ls[i].length + 1) (ls[i] ++ 10 :: ci (ls.drop (i + 1))).length && Nat.ble (ls[i] ++ 10 :: ci (ls.drop (i + 1))).length (ls[i] ++ 10 :: ci (ls.drop (i + 1))).length) = true := by
      rw [cC (by simp), cC (Nat.le_refl _)]; rfl
     show dU _ (some (ls[i].length + 1)) (some _) = _
     simp only [dU, h1]
     congr 2
     rw [show ls[i] ++ 10 :: ci (ls.drop (i + 1)) = (ls[i] ++ [10]) ++ ci (ls.drop (i + 1)) by simp, List.drop_left' (by simp)]
     exact List.take_of_length_le (by simp; omega)
    obtain ⟨o49, w⟩ := Mz (K := K) H.hP hg hD (i := i) (by omega) (ls[i] ++ [10])
    refine ⟨_, _, mH H.hk H.prim PR g10 g3 g0 g1 g9 g2 (aM hi) c135 o41 o47 (o48 _) o49 w (cZ H [10]) o47 (o55 _) (bI (by omega)), okg.set (dJ okg hg) _, S.trans (Same.set (Nat.le_refl _) _), ⟨D.set i (.st (ls[i] ++ [10])), by rw [List.length_set, hD], by rw [Hp.get_set, if_pos rfl], fun j hj => ?_⟩, rfl, g1, g2, g3, g9, rfl, gs⟩
    rw [List.getElem?_set]
    by_cases hij : i = j
    · subst hij
      rw [if_pos rfl, if_pos (by omega), My hi]
    · rw [if_neg hij]; exact hDj j (by omega))
  (fun s g ⟨okg, S, ⟨D, hD, hg, hDj⟩, g0, g1, g2, g3, g9, g10, gs⟩ =>
    ⟨_, _, nj H.hk H.prim PR g10 g3 (aY (Nat.le_refl _)), okg, S, D, hD, hg, hDj, by rw [List.drop_length] at g0; exact g0, g3, g9, g10, gs⟩)
 obtain ⟨o61, w⟩ := Mz (K := K) H.hP hg4 hD (i := ls.length) (by omega) []
 have hD' : D.set ls.length (.st []) = fU ls := by
  apply List.ext_getElem?
  intro j
  rw [List.getElem?_set]
  by_cases hj : ls.length = j
  · subst hj
    rw [if_pos rfl, if_pos (by omega), FV]
  · rw [if_neg hj]
    rcases Nat.lt_or_ge j ls.length with h1 | h1
    · exact hDj j h1
    · rw [List.getElem?_eq_none (by omega), List.getElem?_eq_none (by rw [zT]; omega)]
 rw [hD'] at w
 have hll := zT ls
 have hrow : Row (g4.set h.n (.cells (fU ls) 0 9)) (.sl h.n 0 (ls.length + 1) (ls.length + 1)) (fU ls) := by
  have hget : (g4.set h.n (.cells (fU ls) 0 9)).get h.n = .cells (fU ls) 0 9 := by rw [Hp.get_set, if_pos rfl]
  have := Row.some (h := g4.set h.n (.cells (fU ls) 0 9)) (k := h.n) (o := 0) (c := ls.length + 1) (cs := fU ls) (by intro e; rw [e] at hll; simp at hll) (by
   rw [hget]
   simp only [bl, Nat.zero_add, Nat.ble_eq_true_of_le (Nat.le_refl _), sub, List.drop_zero, List.take_length]) (by omega) (by rw [hget]; rfl)
  rwa [hll] at this
 obtain ⟨y, y1, y2⟩ := hrow.cut (by intro e; rw [e] at hll; simp at hll) (lo := none) (hi := some (.nu .i64 (.ofNat (ls.length + 1)))) (a := 0) (b := ls.length + 1) (e := 9) (by' := 16) (z := [.st []]) rfl rfl (Nat.zero_le _) (by omega)
 rw [List.drop_zero, Nat.sub_zero, List.take_of_length_le (by omega)] at y2
 have y1' : ba none (some (.nu .i64 (.ofNat (ls.length + 1)))) (g4.set h.n (.cells (fU ls) 0 9)) (.sl h.n 0 (ls.length + 1) (ls.length + 1)) (ae K.P 76) = some y := by rw [H.hP, t76]; exact y1
 have Sall : Same h.n h (g4.set h.n (.cells (fU ls) 0 9)) := S4.trans (Same.set (Nat.le_refl _) _)
 have c103 : Comes K 103 [.st (ci ls), .st [10], .nu .i64 (.ofNat 1), .nu .i64 (-1)] h y (g4.set h.n (.cells (fU ls) 0 9)) :=
  bO hf3 rfl (H.memo 103 (by decide)) (H.spec 103) rfl (r1 (Runs.seq r4 (rs H.hk H.prim PR e9 e10 e0 o61 w (bI (by omega)) y1'))) (.inr rfl) Sall.n es rfl rfl
 have hf : K.P.funcs[54]? = some Tryz.f54 := by rw [H.hP]; exact Tryz.func54
 exact ⟨y, _, H.go hf (MS H.hk H.prim PR (s := entry 0 [.st (ci ls), .st [10]]) rfl rfl (cZ H [10]) c103) (.inr rfl) Sall.n rfl rfl rfl, Sall, je.set (dJ je hg4) _, y2⟩
end
structure xR (K : Ctx) : Prop where
 p12_11 : K.plan 12 11 = some [.t 0,.t 1,.t 2,.t 3,.t 4,.t 5,.t 6,.o 7 [6, 5, 4, 3, 2, 1, 0],.o 8 [5, 4, 3, 2, 1, 0],.o 9 [5, 4, 3, 2, 1, 0],.o 10 [],.o 11 []]
def gR (L : List (List Int)) : List (List Int) := L.reverse.flatMap fun a => [a, a]
theorem ql {L : List (List Int)} {s : List Int} : s ∈ gR L ↔ s ∈ L := by
 unfold gR
 simp [List.mem_flatMap]
theorem xS (L : List (List Int)) : (gR L).length = 2 * L.length := by
 have key : ∀ M : List (List Int), (M.flatMap fun a => [a, a]).length = 2 * M.length := by
  intro M
  induction M with
  | nil => rfl
  | cons a M ih => rw [List.flatMap_cons, List.length_append, ih, List.length_cons]; simp; omega
 unfold gR
 rw [key, List.length_reverse]
def bF (L : List (List Int)) : List (List Nat) := (L.map fun a => bz true a ++ [10]) ++ [[]]
theorem DT (L : List (List Int)) : fU (L.map (bz true)) = (bF L).map CV.st := by
 unfold fU bF
 simp
theorem rS (L : List (List Int)) : (bF L).length = L.length + 1 := by simp [bF]
theorem uO (L : List (List Int)) : ((bF L).reverse.flatMap fun a => a ++ a) = bD (gR L) := by
 have key : ∀ M : List (List Int), ((M.map fun a => bz true a ++ [10]).flatMap fun a => a ++ a) = bD (M.flatMap fun a => [a, a]) := by
  intro M
  induction M with
  | nil => rfl
  | cons a M ih =>
   rw [List.map_cons, List.flatMap_cons, ih, List.flatMap_cons]
   simp [bD]
 unfold bF gR
 rw [List.reverse_append, ← key, List.map_reverse]
 simp
theorem M8 {P : Program} {t : TypeId} {x y : Int} (h1 : -9223372036854775808 ≤ x - y) (h2 : x - y < 9223372036854775808) : ab P .sub t (.nu .i64 x) (.nu .i64 y) = some (.nu .i64 (x - y)) := by
 show some (gu .i64 (x - y)) = _
 rw [ez, Gn h1 h2]
section
variable {K : Ctx} {h : Hp}
theorem DU (H : Std K) (PX : xR K) {L : List (List Int)} (hlen : (bD (gR L)).length < 1000000) (hLl : L.length < 1000000) {y : CV} (hy : Row h y ((bF L).map CV.st)) {s : Fr} {v3 v5 v6 v7 v8 : CV} (s3 : s.at 3 = v3) (s5 : s.at 5 = v5) (s6 : s.at 6 = v6) (s7 : s.at 7 = v7) (s8 : s.at 8 = v8) (s9 : s.at 9 = y) (s10 : s.at 10 = .st []) (s11 : s.at 11 = .nu .i64 (Int.ofNat L.length)) (hs : s.at ag = .undef) :
  ∃ s', fh K [1, 1, 1, 1, 1, 1, 1, 0, 1] s h .normal s' h ∧ s'.at 3 = v3 ∧ s'.at 5 = v5 ∧ s'.at 6 = v6 ∧ s'.at 7 = v7 ∧ s'.at 8 = v8 ∧ s'.at 10 = .st (bD (gR L)) ∧ s'.at ag = .undef := by
 have hll := rS L
 have hml : ((bF L).map CV.st).length = L.length + 1 := by rw [List.length_map, hll]
 obtain ⟨s', h', r, rfl, q⟩ := dZ (K := K) (f := 12) (n := 92) (c := aD [1, 1, 1, 1, 1, 1, 1, 0, 1, 0, 0] (am Tryz.f12)) (s := s) (h := h) (m := L.length + 1) (b := 0)
  (I := fun i s g => g = h ∧ s.at 3 = v3 ∧ s.at 5 = v5 ∧ s.at 6 = v6 ∧ s.at 7 = v7 ∧ s.at 8 = v8 ∧ s.at 9 = y ∧ s.at 10 = .st (((bF L).reverse.take i).flatMap fun a => a ++ a) ∧ s.at 11 = .nu .i64 (Int.ofNat L.length - Int.ofNat i) ∧ s.at ag = .undef)
  (E := fun s g => g = h ∧ s.at 3 = v3 ∧ s.at 5 = v5 ∧ s.at 6 = v6 ∧ s.at 7 = v7 ∧ s.at 8 = v8 ∧ s.at 10 = .st (bD (gR L)) ∧ s.at ag = .undef)
  ⟨rfl, s3, s5, s6, s7, s8, s9, s10, by rw [s11]; simp, hs⟩
  (fun i s g hi ⟨hg, g3, g5, g6, g7, g8, g9, g10, g11, gs⟩ => by
    subst hg
    have hri : i < (bF L).reverse.length := by rw [List.length_reverse, hll]; omega
    have hidx : L.length - i < ((bF L).map CV.st).length := by omega
    have hx : Int.ofNat L.length - Int.ofNat i = Int.ofNat (L.length - i) := by simp only [Int.ofNat_eq_natCast]; omega
    have hel : ((bF L).map CV.st)[L.length - i] = .st ((bF L).reverse[i]) := by
     rw [List.getElem_map, List.getElem_reverse]
     congr 2; omega
    obtain ⟨k, o, hp1, hp2⟩ := hy.at (i := L.length - i) hidx (e := 9) (b := 16) (z := [.st []])
    rw [hel] at hp2
    have o48 : ai y (.nu .i64 (Int.ofNat L.length - Int.ofNat i)) (ae K.P 76) = some (.ptr k (o + (L.length - i) * 1)) := by rw [H.hP, t76, hx]; exact hp1
    have o49 : ap g (.ptr k (o + (L.length - i) * 1)) (ar K.P 9) = some (.st ((bF L).reverse[i])) := by rw [H.hP, z9]; exact hp2
    have o42 : ab K.P .geq 3 (.nu .i64 (Int.ofNat L.length - Int.ofNat i)) (.nu .i64 0) = some (.bo true) := by
     rw [hx]
     show some (CV.bo (Nat.ble 0 (L.length - i))) = _
     rw [cC (Nat.zero_le _)]
    have htk : ((bF L).reverse.take (i + 1)).flatMap (fun a => a ++ a) = ((bF L).reverse.take i).flatMap (fun a => a ++ a) ++ (bF L).reverse[i] ++ (bF L).reverse[i] := by
     rw [cB hri, List.flatMap_append]; simp
    have htot : (((bF L).reverse.take (i + 1)).flatMap fun a => a ++ a).length ≤ (bD (gR L)).length := by
     rw [← uO]
     have e : (bF L).reverse.flatMap (fun a => a ++ a) = ((bF L).reverse.take (i + 1)).flatMap (fun a => a ++ a) ++ ((bF L).reverse.drop (i + 1)).flatMap (fun a => a ++ a) := by rw [← List.flatMap_append, List.take_append_drop]
     rw [e, List.length_append]; omega
    rw [htk] at htot
    simp only [List.length_append] at htot
    have o50 := Mr (P := K.P) (t := 9) (x := ((bF L).reverse.take i).flatMap fun a => a ++ a) (y := (bF L).reverse[i]) (by omega)
    have o55 := Mr (P := K.P) (t := 9) (x := (((bF L).reverse.take i).flatMap fun a => a ++ a) ++ (bF L).reverse[i]) (y := (bF L).reverse[i]) (by rw [List.length_append]; omega)
    have o44 : ab K.P .sub 3 (.nu .i64 (Int.ofNat L.length - Int.ofNat i)) (.nu .i64 1) = some (.nu .i64 (Int.ofNat L.length - Int.ofNat (i + 1))) := by
     rw [M8 (by simp only [Int.ofNat_eq_natCast]; omega) (by simp only [Int.ofNat_eq_natCast]; omega)]
     congr 2; simp only [Int.ofNat_eq_natCast]; omega
    refine ⟨_, _, Runs.seq (Runs.seq (CJ H.hk g11 o42) (Runs.condT (o := .tmp 42) (y := .exit 0) rfl Runs.skip)) (Runs.seq (aB (HY H.hk PX.p12_11 g10 g9 g11 o48 o49 (JJ _) o50 o55)) (HZ H.hk g11 o44)), rfl, g3, g5, g6, g7, g8, g9, ?_, rfl, gs⟩
    show CV.st _ = _
    rw [htk])
  (fun s g ⟨hg, g3, g5, g6, g7, g8, g9, g10, g11, gs⟩ => by
    have o42 : ab K.P .geq 3 (.nu .i64 (Int.ofNat L.length - Int.ofNat (L.length + 1))) (.nu .i64 0) = some (.bo false) := by
     show some (CV.bo (cI 0 (Int.ofNat L.length - Int.ofNat (L.length + 1)))) = _
     rw [iu (by simp only [Int.ofNat_eq_natCast]; omega)]
    refine ⟨_, _, aC (Runs.seq (CJ H.hk g11 o42) (Runs.condF (o := .tmp 42) (x := .skip) rfl Runs.exit)) (by simp), hg, g3, g5, g6, g7, g8, ?_, gs⟩
    rw [← uO, ← List.take_length (l := (bF L).reverse), List.length_reverse, hll]
    exact g10)
 exact ⟨s', r, q⟩
theorem yv (H : Std K) (A : Awake K) (TT : lW K) (T8 : ig K) (TB : vJ K) (PB : fT K) (PD : dG K) (PY : eY K) (PT : eX K) (PR : rr K) (PX : xR K) (h70 : ∀ args h, K.spec 70 args h = none) (ok : HpOk h) {m : List (List Int)} (hsm : ∀ a ∈ m, a.length ≤ 9223372036854775807) {x : CV} (vx : Val h x m) :
  ∃ h', Comes K 12 [x] h (.bo true) h' ∧ Same h.n h h' := by
 obtain ⟨cs, hx, hxs⟩ := vx
 have hf : K.P.funcs[12]? = some Tryz.f12 := by rw [H.hP]; exact Tryz.func12
 have hlen := gK H hx
 rw [hxs.length] at hlen
 have aw : ∀ g, Comes K 14 [] g (.bo true) g := fun g => A.comes
 by_cases hbig : 40 < m.length
 · exact ⟨h, H.go hf (Runs.seq (CI H.hk) (aC (Runs.seq (EY H.hk rfl hlen (mL (by show (40 : Int) < Int.ofNat _; simp only [Int.ofNat_eq_natCast]; omega)) rfl) (Runs.condT (o := .tmp 21) rfl (Runs.seq (Le H.hk (H.prim _ _) (aw h)) Runs.ret))) (by simp))) (.inr rfl) (Nat.le_refl _) rfl rfl rfl, Same.refl _ _⟩
 obtain ⟨s1, r1, a0, as1⟩ : ∃ s1, fh K [1, 0] (T.set (entry 0 [x]) 2 (.bo false)) h .normal s1 h ∧ s1.at 0 = x ∧ s1.at ag = .undef :=
  ⟨_, Runs.seq (EZ H.hk rfl hlen (qf (by show Int.ofNat _ ≤ (40 : Int); simp only [Int.ofNat_eq_natCast]; omega)) (H.prim _ _) (aw h) rfl rfl) (Runs.condF (o := .tmp 21) rfl Runs.skip), rfl, rfl⟩
 obtain ⟨u, us, h2, c2, S2, bt, hu, hus⟩ := xb H ok (l := m) (most := 8) (dim := 4) (n := 64) (by omega) hsm (by decide) (by decide) (by decide) (by decide) hx hxs
 have hX : Cx (iM m 8 4 64) := Do (by decide) (by decide) (by decide) (by decide)
 have hXl := AW (l := m) (most := 8) (dim := 4) (n := 64) (by decide) (by decide) (by decide)
 generalize iM m 8 4 64 = X at hus hX hXl
 have vu : Val h2 u X := ⟨us, hu, hus⟩
 have hle := hX.le
 have hsml := hX.sml
 have hXe := Je hX.okC
 obtain ⟨s2, r2, b3, bs⟩ : ∃ s2, fh K [1, 1, 0] s1 h .normal s2 h2 ∧ s2.at 3 = u ∧ s2.at ag = .undef := ⟨_, Lf H.hk a0 (H.prim _ _) c2, rfl, as1⟩
 have hLl : (X.filter (eG X)).length ≤ 256 := Nat.le_trans (List.length_filter_le _ _) (by omega)
 have hLo : ∀ a ∈ X.filter (eG X), OkS a := fun a ha => hX.ok a (List.mem_filter.1 ha).1
 have hcm := DH hX
 obtain ⟨_, h3, c20, S3, dj, rfl⟩ := A9 H T8 PB PT bt hsml hu hus
 rw [if_pos hXe, hXe] at c20
 have hTx : Txt (X.filter (eG X)) := fun a ha => ⟨by have := (hLo a ha).le; omega, fun v hv => (hLo a ha).rng v hv⟩
 have hTd : Txt (gR (X.filter (eG X))) := fun a ha => hTx a (ql.1 ha)
 have ht1 := iQ hTx
 have ht2 := iQ hTd
 rw [xS] at ht2
 generalize hLL : X.filter (eG X) = L at c20 hLl hLo hcm ht1 ht2
 obtain ⟨s3, r3, d3, d4, d5, ds⟩ : ∃ s3, fh K [1, 1, 1, 0] s2 h2 .normal s3 h3 ∧ s3.at 3 = u ∧ s3.at 4 = .st (bD L) ∧ s3.at 5 = .nu .i64 0 ∧ s3.at ag = .undef := ⟨_, Lg H.hk b3 (H.prim _ _) c20 rfl rfl, b3, rfl, rfl, bs⟩
 have hp1 : iP (bD L) = (X, 0, 0) := by rw [pN hLo (by omega) (by rw [hcm]; exact hle) (by omega), hcm]
 have hp2 : iP (bD (gR L)) = (X, 0, 0) := by
  have e : de (gR L) = X := by rw [Bb (fun s => ql), hcm]
  rw [pN (fun a ha => hLo a (ql.1 ha)) (by rw [xS]; omega) (by rw [e]; exact hle) (by omega), e]
 obtain ⟨_, h4, c21, S4, je, oy, rfl, vy⟩ := uH H TT PD PY PT h70 dj (bD L)
 rw [hp1] at c21 vy
 obtain ⟨s4, r4, e3, e4, e5, e6, e7, e8, es⟩ : ∃ s4, fh K [1, 1, 1, 1, 0] s3 h3 .normal s4 h4 ∧ s4.at 3 = u ∧ s4.at 4 = .st (bD L) ∧ s4.at 5 = .nu .i64 0 ∧ s4.at 6 = oy ∧ s4.at 7 = .nu .i64 (.ofNat 0) ∧ s4.at 8 = .nu .i64 0 ∧ s4.at ag = .undef := ⟨_, Lh H.hk d4 (H.prim _ _) c21 rfl rfl rfl, d3, d4, d5, rfl, rfl, rfl, ds⟩
 have hnl : ∀ a ∈ L.map (bz true), ∀ c ∈ a, c ≠ 10 := fun a ha => by
  obtain ⟨b, _, rfl⟩ := List.mem_map.1 ha
  exact xO b true
 obtain ⟨rl, h5, c54, S5, gS, hrl⟩ := DS H TB PR je hnl (by rw [← uM]; omega)
 rw [← uM] at c54
 rw [DT] at hrl
 have o39 : an h5 rl (ae K.P 76) = some (.nu .i64 (.ofNat (L.length + 1))) := by
  have := hrl.len (e := 9) (b := 16) (z := [.st []])
  rw [List.length_map, rS] at this
  rw [H.hP, t76]; exact this
 have o40 : ab K.P .sub 3 (.nu .i64 (.ofNat (L.length + 1))) (.nu .i64 1) = some (.nu .i64 (Int.ofNat L.length)) := Mn (x := L.length + 1) (y := 1) (by omega) (by omega)
 obtain ⟨s5, r5, f3, f5, f6, f7, f8, f9, fs⟩ : ∃ s5, fh K [1, 1, 1, 1, 1, 0] s4 h4 .normal s5 h5 ∧ s5.at 3 = u ∧ s5.at 5 = .nu .i64 0 ∧ s5.at 6 = oy ∧ s5.at 7 = .nu .i64 (.ofNat 0) ∧ s5.at 8 = .nu .i64 0 ∧ s5.at 9 = rl ∧ s5.at ag = .undef := ⟨_, Li H.hk e4 (H.prim _ _) c54, e3, e5, e6, e7, e8, rfl, es⟩
 obtain ⟨s6, r6, g3, g5, g6, g7, g8, g9, g10, gs⟩ : ∃ s6, fh K [1, 1, 1, 1, 1, 1, 0] s5 h5 .normal s6 h5 ∧ s6.at 3 = u ∧ s6.at 5 = .nu .i64 0 ∧ s6.at 6 = oy ∧ s6.at 7 = .nu .i64 (.ofNat 0) ∧ s6.at 8 = .nu .i64 0 ∧ s6.at 9 = rl ∧ s6.at 10 = .st [] ∧ s6.at ag = .undef := ⟨_, Lj H.hk, f3, f5, f6, f7, f8, f9, rfl, fs⟩
 obtain ⟨s7, r7, i3, i5, i6, i7, i8, i9, i10, i11, is⟩ : ∃ s7, fh K [1, 1, 1, 1, 1, 1, 1, 0, 0] s6 h5 .normal s7 h5 ∧ s7.at 3 = u ∧ s7.at 5 = .nu .i64 0 ∧ s7.at 6 = oy ∧ s7.at 7 = .nu .i64 (.ofNat 0) ∧ s7.at 8 = .nu .i64 0 ∧ s7.at 9 = rl ∧ s7.at 10 = .st [] ∧ s7.at 11 = .nu .i64 (Int.ofNat L.length) ∧ s7.at ag = .undef := ⟨_, Lk H.hk g9 o39 o40, g3, g5, g6, g7, g8, g9, g10, rfl, gs⟩
 obtain ⟨s8, r8, j3, j5, j6, j7, j8, j10, js⟩ := DU H PX (L := L) (by omega) (by omega) hrl i3 i5 i6 i7 i8 i9 i10 i11 is
 obtain ⟨_, h6, c21', S6, ok6, oz, rfl, vz⟩ := uH H TT PD PY PT h70 gS (bD (gR L))
 rw [hp2] at c21' vz
 obtain ⟨s9, r9, k3, k5, k6, k7, k8, k12, k13, k14, ks⟩ : ∃ s9, fh K [1, 1, 1, 1, 1, 1, 1, 1, 0] s8 h5 .normal s9 h6 ∧ s9.at 3 = u ∧ s9.at 5 = .nu .i64 0 ∧ s9.at 6 = oy ∧ s9.at 7 = .nu .i64 (.ofNat 0) ∧ s9.at 8 = .nu .i64 0 ∧ s9.at 12 = oz ∧ s9.at 13 = .nu .i64 (.ofNat 0) ∧ s9.at 14 = .nu .i64 0 ∧ s9.at ag = .undef := ⟨_, H0 H.hk j10 (H.prim _ _) c21' rfl rfl rfl, j3, j5, j6, j7, j8, rfl, rfl, rfl, js⟩
 have T3 := S2.trans (S3.le S2.n)
 have T4 := T3.trans (S4.le T3.n)
 have T5 := T4.trans (S5.le T4.n)
 have T6 := T5.trans (S6.le T5.n)
 have vu6 := (((vu.mono S3 bt).mono S4 dj).mono S5 je).mono S6 gS
 have vy6 := (vy.mono S5 je).mono S6 gS
 obtain ⟨_, hu6, hus6⟩ := id vu6
 obtain ⟨p1, h7, c16, S7, ok7, ps1, hP1⟩ := uy H ok6 hsml hu6 hus6
 have c23 := xt H PB hsml (vy6.mono S7 ok6) hP1.val rfl
 have vu7 := vu6.mono S7 ok6
 obtain ⟨_, hu7, hus7⟩ := id vu7
 obtain ⟨p2, h8, c16', S8, ok8, ps2, hP2⟩ := uy H ok7 hsml hu7 hus7
 have c23' := xt H PB hsml ((vz.mono S7 ok6).mono S8 ok7) hP2.val rfl
 have T7 := T6.trans (S7.le T6.n)
 have T8 := T7.trans (S8.le T7.n)
 exact ⟨h8, H.go hf (Runs.seq (CI H.hk) (Runs.seq r1 (Runs.seq r2 (Runs.seq r3 (Runs.seq r4 (Runs.seq r5 (Runs.seq r6 (Runs.seq (Runs.seq r7 r8) (Runs.seq r9 (Runs.seq (C2 H.hk k5 k8 k14 k7 k13 k6 k3 k12 rfl rfl rfl rfl rfl rfl rfl rfl rfl (H.prim _ _) c16 (H.prim _ _) c23 rfl (H.prim _ _) c16' (H.prim _ _) c23' rfl) Runs.ret)))))))))) (.inr rfl) T8.n ks rfl rfl, T8⟩
end
end Go.CP
