import Derived.Test.YtadagifjonbmjaaGreatDoorKv3
set_option linter.all false
namespace Go.CP
open Go.Proofs
variable [LG] [HK]
def eu (c : Nat) : Bool := Nat.ble 48 c && Nat.ble c 57
def dz (t : List Nat) (a : Nat) : Nat → Nat → Nat → Option Nat × Nat
 | 0, i, n => (some n, i)
 | m + 1, i, n => match t[i]? with
  | none => (some n, i)
  | some c => match eu c with
   | false => (some n, i)
   | true => if i = a + 9 ∨ (a < i ∧ t[a]? = some 48) then (none, i) else dz t a m (i + 1) (10 * n + (c - 48))
def de (t : List Nat) (a : Nat) : Option Nat × Nat := match t[a]? with
 | none => (none, a)
 | some c => match eu c with
  | false => (none, a)
  | true => dz t a (t.length - a) a 0
theorem pI (t : List Nat) (a : Nat) : ∀ m i n, i ≤ (dz t a m i n).2 ∧ (dz t a m i n).2 ≤ i + m
 | 0, i, n => ⟨Nat.le_refl _, Nat.le_refl _⟩
 | m + 1, i, n => by
  unfold dz
  split
  · exact ⟨Nat.le_refl _, Nat.le_add_right _ _⟩
  · split
    · exact ⟨Nat.le_refl _, Nat.le_add_right _ _⟩
    · split
      · exact ⟨Nat.le_refl _, Nat.le_add_right _ _⟩
      · have := pI t a m (i + 1) (10 * n + (‹Nat› - 48))
        constructor <;> omega
theorem rG {t : List Nat} {a : Nat} (ha : a ≤ t.length) : a ≤ (de t a).2 ∧ (de t a).2 ≤ t.length := by
 unfold de
 split
 · exact ⟨Nat.le_refl _, ha⟩
 · split
   · exact ⟨Nat.le_refl _, ha⟩
   · have := pI t a (t.length - a) a 0
     constructor <;> omega
theorem qh {t : List Nat} {a n j : Nat} (h : de t a = (some n, j)) : a < j := by
 unfold de at h
 split at h
 · cases h
 · rename_i c hc
   split at h
   · cases h
   · rename_i hd
     have hl : a < t.length := by
      rcases Nat.lt_or_ge a t.length with h1 | h1
      · exact h1
      · rw [List.getElem?_eq_none h1] at hc; cases hc
     obtain ⟨m, hm⟩ : ∃ m, t.length - a = m + 1 := ⟨t.length - a - 1, by omega⟩
     rw [hm, dz, hc] at h
     simp only [hd] at h
     rw [if_neg (by omega)] at h
     have := (pI t a m (a + 1) (10 * 0 + (c - 48))).1
     rw [h] at this; exact this
section
variable {K : Ctx} {h : Hp}
theorem bG (H : Std K) (t : List Nat) : aj h (.st t) (ae K.P 9) = some (.nu .i64 (.ofNat t.length)) := by rw [H.hP, t9]; rfl
theorem rH (H : Std K) {t : List Nat} {i c : Nat} (hc : t[i]? = some c) : aV (.st t) (.nu .i64 (.ofNat i)) (ae K.P 9) = some (.nu .u8 (.ofNat c)) := by
 rw [H.hP, t9]; simp only [aV, hc]
theorem mP {α : Type} {t : List α} {i : Nat} {c : α} (h : t[i]? = some c) : i < t.length := by
 rcases Nat.lt_or_ge i t.length with h1 | h1
 · exact h1
 · rw [List.getElem?_eq_none h1] at h; cases h
theorem vt {P : Program} {t : TypeId} (x y : Nat) : ab P .eql t (.nu .i64 (.ofNat x)) (.nu .i64 (.ofNat y)) = some (.bo (Nat.beq x y)) := rfl
theorem tB {x y : Nat} (h : x = y) : Nat.beq x y = true := by rw [h]; exact Nat.beq_refl _
theorem mQ {x y : Nat} (h : x ≠ y) : Nat.beq x y = false := by
 cases hq : Nat.beq x y with
 | false => rfl
 | true => exact absurd (Nat.eq_of_beq_eq_true hq) h
theorem kX {P : Program} {t : TypeId} (x y : Nat) : ab P .gtr t (.nu .i64 (.ofNat x)) (.nu .i64 (.ofNat y)) = some (.bo (!(Nat.ble x y))) := rfl
theorem Jo {P : Program} {t : TypeId} (x y : Nat) : ab P .geq t (.nu .i64 (.ofNat x)) (.nu .i64 (.ofNat y)) = some (.bo (Nat.ble y x)) := rfl
theorem xo {P : Program} {t : TypeId} {x y : Nat} (h : x + y < 9223372036854775808) : ab P .add t (.nu .i64 (.ofNat x)) (.nu .i64 (.ofNat y)) = some (.nu .i64 (.ofNat (x + y))) := by
 rw [yM (by simp only [Int.ofNat_eq_natCast]; omega) (by simp only [Int.ofNat_eq_natCast]; omega)]; rfl
theorem Qw {P : Program} {t : TypeId} {x y : Nat} (h : y ≤ x) (hx : x < 9223372036854775808) : ab P .sub t (.nu .i64 (.ofNat x)) (.nu .i64 (.ofNat y)) = some (.nu .i64 (.ofNat (x - y))) := by
 show some (gN .i64 (Int.ofNat x - Int.ofNat y)) = _
 rw [eK, show Int.ofNat x - Int.ofNat y = Int.ofNat (x - y) by simp only [Int.ofNat_eq_natCast]; omega, fj _ (by omega)]
theorem IV {P : Program} {t : TypeId} {x y : Nat} (h : x * y < 9223372036854775808) : ab P .mul t (.nu .i64 (.ofNat x)) (.nu .i64 (.ofNat y)) = some (.nu .i64 (.ofNat (x * y))) := by
 show some (gN .i64 (Int.ofNat x * Int.ofNat y)) = _
 rw [eK, show Int.ofNat x * Int.ofNat y = Int.ofNat (x * y) from rfl, fj _ h]
theorem Di {P : Program} {t : TypeId} {c : Nat} (h : eu c = true) : ab P .sub t (.nu .u8 (.ofNat c)) (.nu .u8 48) = some (.nu .u8 (.ofNat (c - 48))) := by
 unfold eu at h
 rw [Bool.and_eq_true] at h
 have h1 := Nat.le_of_ble_eq_true h.1
 have h2 := Nat.le_of_ble_eq_true h.2
 have h3 : Nat.blt (c - 48) 256 = true := by simp; omega
 show some (gN .u8 (Int.ofNat c - 48)) = _
 rw [show Int.ofNat c - 48 = Int.ofNat (c - 48) by simp only [Int.ofNat_eq_natCast]; omega]
 simp only [gN, w8, h3, cond_true]
theorem Jp (H : Std K) {n : Nat} (hn : n < 100) : eH K.P (.nu .u8 (.ofNat n)) (ae K.P 5) (ae K.P 3) = none ∧ eU K.P h (.nu .u8 (.ofNat n)) (ae K.P 5) (ae K.P 3) = some (.nu .i64 (.ofNat n)) := by
 rw [H.hP, t5, t3]
 refine ⟨rfl, ?_⟩
 show some (gN .i64 (.ofNat n)) = _
 rw [eK, fj _ (by omega)]
theorem Jq {c : Nat} (h : eu c = true) : 48 ≤ c ∧ c ≤ 57 := by
 unfold eu at h
 rw [Bool.and_eq_true] at h
 exact ⟨Nat.le_of_ble_eq_true h.1, Nat.le_of_ble_eq_true h.2⟩
theorem Jr {n k c : Nat} (hn : n < 10 ^ k) (hc : c ≤ 57) : 10 * n + (c - 48) < 10 ^ (k + 1) := by
 rw [Nat.pow_succ]; omega
theorem IW (H : Std K) (PT : ck K) {t : List Nat} (ht : t.length < 4611686018427387904) {a : Nat} : ∀ (m i n : Nat) (s : Fr), i + m = t.length → a ≤ i → i ≤ a + 9 → n < 10 ^ (i - a) → s.at 0 = .st t → s.at 1 = .nu .i64 (.ofNat a) → s.at 4 = .nu .i64 (.ofNat n) → s.at 5 = .nu .i64 (.ofNat i) → s.at ah = .undef →
  ∃ e s', fw K [1, 1, 0, 0] s h e s' h ∧ s'.at ah = .undef ∧ match dz t a m i n with
   | (some n', j) => e = .exit 0 ∧ s'.at 1 = .nu .i64 (.ofNat a) ∧ s'.at 4 = .nu .i64 (.ofNat n') ∧ s'.at 5 = .nu .i64 (.ofNat j)
   | (none, j) => e = .ret ∧ s'.at 4 = .nu .i64 0 ∧ s'.at 5 = .nu .i64 (.ofNat j) ∧ s'.at 6 = .bo false := by
 intro m
 induction m with
 | zero =>
  intro i n s him ha h9 hn h0 h1 h4 h5 hs
  exact ⟨_, _, aD (wO H.hk H.prim PT h5 h0 (bG H t) (aS (by omega)) rfl) (by simp), hs, rfl, h1, h4, h5⟩
 | succ m ih =>
  intro i n s him ha h9 hn h0 h1 h4 h5 hs
  have hi : i < t.length := by omega
  have hc := List.getElem?_eq_getElem hi
  generalize t[i] = c at hc
  have hix := rH (K := K) H hc
  have o16 : ab K.P .geq 5 (.nu .u8 (.ofNat c)) (.nu .u8 48) = some (.bo (Nat.ble 48 c)) := rfl
  have o22 : ab K.P .leq 5 (.nu .u8 (.ofNat c)) (.nu .u8 57) = some (.bo (Nat.ble c 57)) := rfl
  have hnum : dz t a (m + 1) i n = match eu c with
   | false => (some n, i)
   | true => if i = a + 9 ∨ (a < i ∧ t[a]? = some 48) then (none, i) else dz t a m (i + 1) (10 * n + (c - 48)) := by rw [dz, hc]
  rw [hnum]
  cases h48 : Nat.ble 48 c with
  | false =>
   rw [h48] at o16
   have hd : eu c = false := by unfold eu; rw [h48]; rfl
   rw [hd]
   exact ⟨_, _, aD (uB H.hk H.prim PT h5 h0 (bG H t) (aJ hi) hix o16 rfl rfl) (by simp), hs, rfl, h1, h4, h5⟩
  | true =>
  rw [h48] at o16
  cases h57 : Nat.ble c 57 with
  | false =>
   rw [h57] at o22
   have hd : eu c = false := by unfold eu; rw [h57, Bool.and_false]
   rw [hd]
   exact ⟨_, _, aD (uA H.hk H.prim PT h5 h0 (bG H t) (aJ hi) hix o16 rfl o22 rfl) (by simp), hs, rfl, h1, h4, h5⟩
  | true =>
  rw [h57] at o22
  have hd : eu c = true := by unfold eu; rw [h48, h57]; rfl
  rw [hd]
  obtain ⟨hc1, hc2⟩ := Jq hd
  have o26 : ab K.P .add 3 (.nu .i64 (.ofNat a)) (.nu .i64 9) = some (.nu .i64 (.ofNat (a + 9))) := xo (x := a) (y := 9) (by omega)
  by_cases hi9 : i = a + 9
  · have o27 : ab K.P .eql 3 (.nu .i64 (.ofNat i)) (.nu .i64 (.ofNat (a + 9))) = some (.bo true) := by rw [vt, tB hi9]
    show ∃ e s', _ ∧ _ ∧ (match (if i = a + 9 ∨ (a < i ∧ t[a]? = some 48) then _ else _ : Option Nat × Nat) with | (some n', j) => _ | (none, j) => _)
    rw [if_pos (.inl hi9)]
    exact ⟨_, _, aD (qn H.hk H.prim PT h5 h0 h1 (bG H t) (aJ hi) hix o16 rfl o22 rfl o26 o27 rfl) (by simp), hs, rfl, rfl, rfl, rfl⟩
  · have o27 : ab K.P .eql 3 (.nu .i64 (.ofNat i)) (.nu .i64 (.ofNat (a + 9))) = some (.bo false) := by rw [vt, mQ hi9]
    have hk8 : n < 100000000 := Nat.lt_of_lt_of_le hn (Nat.le_trans (Nat.pow_le_pow_right (by decide) (show i - a ≤ 8 by omega)) (by decide))
    have o41 : ab K.P .mul 3 (.nu .i64 10) (.nu .i64 (.ofNat n)) = some (.nu .i64 (.ofNat (10 * n))) := IV (x := 10) (y := n) (by omega)
    obtain ⟨l46, o46⟩ := Jp (h := h) H (n := c - 48) (by omega)
    have o47 := xo (P := K.P) (t := 3) (x := 10 * n) (y := c - 48) (by omega)
    have hn' : 10 * n + (c - 48) < 10 ^ (i + 1 - a) := by
     rw [show i + 1 - a = (i - a) + 1 by omega]; exact Jr hn hc2
    by_cases hai : a < i
    · have o31 : ab K.P .gtr 3 (.nu .i64 (.ofNat i)) (.nu .i64 (.ofNat a)) = some (.bo true) := by rw [kX, fS hai]; rfl
      have hca := List.getElem?_eq_getElem (show a < t.length by omega)
      generalize t[a] = ca at hca
      have hix2 := rH (K := K) H hca
      have o36 : ab K.P .eql 5 (.nu .u8 (.ofNat ca)) (.nu .u8 48) = some (.bo (Nat.beq ca 48)) := rfl
      cases hz : Nat.beq ca 48 with
      | true =>
       rw [hz] at o36
       have hz' : t[a]? = some 48 := by rw [hca, Nat.eq_of_beq_eq_true hz]
       show ∃ e s', _ ∧ _ ∧ (match (if i = a + 9 ∨ (a < i ∧ t[a]? = some 48) then _ else _ : Option Nat × Nat) with | (some n', j) => _ | (none, j) => _)
       rw [if_pos (.inr ⟨hai, hz'⟩)]
       exact ⟨_, _, aD (qo H.hk H.prim PT h5 h0 h1 (bG H t) (aJ hi) hix o16 rfl o22 rfl o26 o27 o31 hix2 o36 rfl rfl) (by simp), hs, rfl, rfl, rfl, rfl⟩
      | false =>
       rw [hz] at o36
       have hz' : ¬ (i = a + 9 ∨ (a < i ∧ t[a]? = some 48)) := by
        rintro (h1 | ⟨_, h1⟩)
        · exact hi9 h1
        · rw [hca] at h1; injection h1 with h1; rw [h1] at hz; cases hz
       obtain ⟨s1, r1, k0, k1, k4, k5, ks⟩ : ∃ s1, fw K [1, 1, 0, 0, 0] s h .normal s1 h ∧ s1.at 0 = .st t ∧ s1.at 1 = .nu .i64 (.ofNat a) ∧ s1.at 4 = .nu .i64 (.ofNat (10 * n + (c - 48))) ∧ s1.at 5 = .nu .i64 (.ofNat (i + 1)) ∧ s1.at ah = .undef :=
        ⟨_, qp H.hk H.prim PT h5 h0 h1 h4 (bG H t) (aJ hi) hix o16 rfl o22 rfl o26 o27 o31 hix2 o36 rfl rfl o41 (Di hd) l46 o46 o47 (bh (by omega)), h0, h1, rfl, rfl, hs⟩
       obtain ⟨e, s', r2, rest⟩ := ih (i + 1) _ s1 (by omega) (by omega) (by omega) hn' k0 k1 k4 k5 ks
       refine ⟨e, s', Runs.loop r1 r2, ?_⟩
       show _ ∧ (match (if i = a + 9 ∨ (a < i ∧ t[a]? = some 48) then _ else _ : Option Nat × Nat) with | (some n', j) => _ | (none, j) => _)
       rw [if_neg hz']; exact rest
    · have o31 : ab K.P .gtr 3 (.nu .i64 (.ofNat i)) (.nu .i64 (.ofNat a)) = some (.bo false) := by rw [kX, fb (by omega)]; rfl
      have hz' : ¬ (i = a + 9 ∨ (a < i ∧ t[a]? = some 48)) := by omega
      obtain ⟨s1, r1, k0, k1, k4, k5, ks⟩ : ∃ s1, fw K [1, 1, 0, 0, 0] s h .normal s1 h ∧ s1.at 0 = .st t ∧ s1.at 1 = .nu .i64 (.ofNat a) ∧ s1.at 4 = .nu .i64 (.ofNat (10 * n + (c - 48))) ∧ s1.at 5 = .nu .i64 (.ofNat (i + 1)) ∧ s1.at ah = .undef :=
       ⟨_, qq H.hk H.prim PT h5 h0 h1 h4 (bG H t) (aJ hi) hix o16 rfl o22 rfl o26 o27 o31 rfl rfl o41 (Di hd) l46 o46 o47 (bh (by omega)), h0, h1, rfl, rfl, hs⟩
      obtain ⟨e, s', r2, rest⟩ := ih (i + 1) _ s1 (by omega) (by omega) (by omega) hn' k0 k1 k4 k5 ks
      refine ⟨e, s', Runs.loop r1 r2, ?_⟩
      show _ ∧ (match (if i = a + 9 ∨ (a < i ∧ t[a]? = some 48) then _ else _ : Option Nat × Nat) with | (some n', j) => _ | (none, j) => _)
      rw [if_neg hz']; exact rest
def Rx : Option Nat × Nat → CV
 | (some n, j) => .tup [.nu .i64 (.ofNat n), .nu .i64 (.ofNat j), .bo true]
 | (none, j) => .tup [.nu .i64 0, .nu .i64 (.ofNat j), .bo false]
def Q6 : Option Nat × Nat → CV
 | (some n, j) => .tup [.nu .i64 (.ofNat n), .nu .i64 (.ofNat j), .nu .i64 0]
 | (none, j) => .tup [.nu .i64 0, .nu .i64 (-1), .nu .i64 (.ofNat j)]
theorem GO (H : Std K) (PT : ck K) {t : List Nat} (ht : t.length < 4611686018427387904) {a : Nat} (ha : a ≤ t.length) : Comes K 65 [.st t, .nu .i64 (.ofNat a)] h (Rx (de t a)) h := by
 have hf : K.P.funcs[65]? = some Tryz.f65 := by rw [H.hP]; exact Tryz.func65
 obtain ⟨s1, r1, k0, k1, k4, k5, ks⟩ : ∃ s1, (∀ {e s' h'}, fw K [1, 1] s1 h e s' h' → Runs K 65 55 none (aq Tryz.f65) (entry 0 [.st t, .nu .i64 (.ofNat a)]) h e s' h') ∧ s1.at 0 = .st t ∧ s1.at 1 = .nu .i64 (.ofNat a) ∧ s1.at 4 = .nu .i64 (.ofNat 0) ∧ s1.at 5 = .nu .i64 (.ofNat a) ∧ s1.at ah = .undef :=
  ⟨_, fun r => Runs.seq (Pg H.hk) (Runs.seq (Ph H.hk rfl) r), rfl, rfl, rfl, rfl, rfl⟩
 obtain ⟨e, s2, r2, hs2, hr⟩ := IW (h := h) H PT ht (t.length - a) a 0 s1 (by omega) (Nat.le_refl _) (by omega) (by simp) k0 k1 k4 k5 ks
 by_cases hd : ∃ c, t[a]? = some c ∧ eu c = true
 · obtain ⟨c, hc, hd⟩ := hd
   have hn : de t a = dz t a (t.length - a) a 0 := by rw [de, hc]; simp only [hd]
   have hlt := fun n j (e : de t a = (some n, j)) => qh e
   rw [hn] at hlt
   rw [hn]
   generalize dz t a (t.length - a) a 0 = q at hr hlt
   obtain ⟨o, j⟩ := q
   cases o with
   | some n =>
    obtain ⟨rfl, h1, h4, h5⟩ := hr
    have o54 : ab K.P .gtr 3 (.nu .i64 (.ofNat j)) (.nu .i64 (.ofNat a)) = some (.bo true) := by rw [kX, fS (hlt n j rfl)]; rfl
    exact H.go hf (r1 (Runs.seq (aO r2) (yy H.hk H.prim PT h4 h5 h1 o54))) (.inr rfl) (Nat.le_refl _) hs2 rfl rfl
   | none =>
    obtain ⟨rfl, h4, h5, h6⟩ := hr
    refine H.go hf (r1 (ax (az r2) (by simp))) (.inr rfl) (Nat.le_refl _) hs2 (vs := [s2.at 4, s2.at 5, s2.at 6]) rfl ?_
    rw [h4, h5, h6]; rfl
 · have hq : dz t a (t.length - a) a 0 = (some 0, a) ∧ de t a = (none, a) := by
    cases hc : t[a]? with
    | none =>
     have : t.length - a = 0 := by
      rcases Nat.lt_or_ge a t.length with h1 | h1
      · rw [List.getElem?_eq_getElem h1] at hc; cases hc
      · omega
     rw [this, de, hc]; exact ⟨rfl, rfl⟩
    | some c =>
     have hdf : eu c = false := by
      cases hq : eu c with
      | false => rfl
      | true => exact absurd ⟨c, hc, hq⟩ hd
     have := mP hc
     obtain ⟨m, hm⟩ : ∃ m, t.length - a = m + 1 := ⟨t.length - a - 1, by omega⟩
     rw [hm, dz, de, hc]; simp only [hdf]; exact ⟨trivial, trivial⟩
   rw [hq.1] at hr
   rw [hq.2]
   obtain ⟨rfl, h1, h4, h5⟩ := hr
   have o54 : ab K.P .gtr 3 (.nu .i64 (.ofNat a)) (.nu .i64 (.ofNat a)) = some (.bo false) := by rw [kX, fb (Nat.le_refl _)]; rfl
   exact H.go hf (r1 (Runs.seq (aO r2) (yy H.hk H.prim PT h4 h5 h1 o54))) (.inr rfl) (Nat.le_refl _) hs2 rfl rfl
theorem GP (H : Std K) (PT : ck K) {t : List Nat} (ht : t.length < 4611686018427387904) {a : Nat} : ∀ (m i n : Nat) (s : Fr), i + m = t.length → a ≤ i → i ≤ a + 9 → n < 10 ^ (i - a) → s.at 0 = .st t → s.at 1 = .nu .i64 (.ofNat i) → s.at 4 = .nu .i64 (.ofNat n) → s.at 7 = .nu .i64 (.ofNat a) → s.at ah = .undef →
  ∃ e s', dF K [1, 1, 1, 0, 0] s h e s' h ∧ s'.at ah = .undef ∧ match dz t a m i n with
   | (some n', j) => e = .exit 0 ∧ s'.at 4 = .nu .i64 (.ofNat n') ∧ s'.at 1 = .nu .i64 (.ofNat j)
   | (none, j) => e = .ret ∧ s'.at 4 = .nu .i64 0 ∧ s'.at 5 = .nu .i64 (-1) ∧ s'.at 6 = .nu .i64 (.ofNat j) := by
 intro m
 induction m with
 | zero =>
  intro i n s him ha h9 hn h0 h1 h4 h7 hs
  exact ⟨_, _, aD (uC H.hk H.prim PT h1 h0 (bG H t) (aS (by omega)) rfl) (by simp), hs, rfl, h4, h1⟩
 | succ m ih =>
  intro i n s him ha h9 hn h0 h1 h4 h7 hs
  have hi : i < t.length := by omega
  have hc := List.getElem?_eq_getElem hi
  generalize t[i] = c at hc
  have hix := rH (K := K) H hc
  have o16 : ab K.P .geq 5 (.nu .u8 (.ofNat c)) (.nu .u8 48) = some (.bo (Nat.ble 48 c)) := rfl
  have o22 : ab K.P .leq 5 (.nu .u8 (.ofNat c)) (.nu .u8 57) = some (.bo (Nat.ble c 57)) := rfl
  have hnum : dz t a (m + 1) i n = match eu c with
   | false => (some n, i)
   | true => if i = a + 9 ∨ (a < i ∧ t[a]? = some 48) then (none, i) else dz t a m (i + 1) (10 * n + (c - 48)) := by rw [dz, hc]
  rw [hnum]
  cases h48 : Nat.ble 48 c with
  | false =>
   rw [h48] at o16
   have hd : eu c = false := by unfold eu; rw [h48]; rfl
   rw [hd]
   exact ⟨_, _, aD (tb H.hk H.prim PT h1 h0 (bG H t) (aJ hi) hix o16 rfl rfl) (by simp), hs, rfl, h4, h1⟩
  | true =>
  rw [h48] at o16
  cases h57 : Nat.ble c 57 with
  | false =>
   rw [h57] at o22
   have hd : eu c = false := by unfold eu; rw [h57, Bool.and_false]
   rw [hd]
   exact ⟨_, _, aD (ta H.hk H.prim PT h1 h0 (bG H t) (aJ hi) hix o16 rfl o22 rfl) (by simp), hs, rfl, h4, h1⟩
  | true =>
  rw [h57] at o22
  have hd : eu c = true := by unfold eu; rw [h48, h57]; rfl
  rw [hd]
  obtain ⟨hc1, hc2⟩ := Jq hd
  have o44 := Qw (P := K.P) (t := 3) (x := i) (y := a) ha (by omega)
  by_cases hi9 : i = a + 9
  · have o45 : ab K.P .eql 3 (.nu .i64 (.ofNat (i - a))) (.nu .i64 9) = some (.bo true) := by
     have := vt (P := K.P) (t := 3) (i - a) 9
     rw [tB (show i - a = 9 by omega)] at this; exact this
    show ∃ e s', _ ∧ _ ∧ (match (if i = a + 9 ∨ (a < i ∧ t[a]? = some 48) then _ else _ : Option Nat × Nat) with | (some n', j) => _ | (none, j) => _)
    rw [if_pos (.inl hi9)]
    exact ⟨_, _, aD (pb H.hk H.prim PT h1 h0 h7 (bG H t) (aJ hi) hix o16 rfl o22 rfl o44 o45 rfl) (by simp), hs, rfl, rfl, rfl, rfl⟩
  · have o45 : ab K.P .eql 3 (.nu .i64 (.ofNat (i - a))) (.nu .i64 9) = some (.bo false) := by
     have := vt (P := K.P) (t := 3) (i - a) 9
     rw [mQ (show i - a ≠ 9 by omega)] at this; exact this
    have hk8 : n < 100000000 := Nat.lt_of_lt_of_le hn (Nat.le_trans (Nat.pow_le_pow_right (by decide) (show i - a ≤ 8 by omega)) (by decide))
    have o41 : ab K.P .mul 3 (.nu .i64 10) (.nu .i64 (.ofNat n)) = some (.nu .i64 (.ofNat (10 * n))) := IV (x := 10) (y := n) (by omega)
    obtain ⟨l46, o46⟩ := Jp (h := h) H (n := c - 48) (by omega)
    have o47 := xo (P := K.P) (t := 3) (x := 10 * n) (y := c - 48) (by omega)
    have hn' : 10 * n + (c - 48) < 10 ^ (i + 1 - a) := by
     rw [show i + 1 - a = (i - a) + 1 by omega]; exact Jr hn hc2
    by_cases hai : a < i
    · have o31 : ab K.P .gtr 3 (.nu .i64 (.ofNat i)) (.nu .i64 (.ofNat a)) = some (.bo true) := by rw [kX, fS hai]; rfl
      have hca := List.getElem?_eq_getElem (show a < t.length by omega)
      generalize t[a] = ca at hca
      have hix2 := rH (K := K) H hca
      have o36 : ab K.P .eql 5 (.nu .u8 (.ofNat ca)) (.nu .u8 48) = some (.bo (Nat.beq ca 48)) := rfl
      cases hz : Nat.beq ca 48 with
      | true =>
       rw [hz] at o36
       have hz' : t[a]? = some 48 := by rw [hca, Nat.eq_of_beq_eq_true hz]
       show ∃ e s', _ ∧ _ ∧ (match (if i = a + 9 ∨ (a < i ∧ t[a]? = some 48) then _ else _ : Option Nat × Nat) with | (some n', j) => _ | (none, j) => _)
       rw [if_pos (.inr ⟨hai, hz'⟩)]
       exact ⟨_, _, aD (pc H.hk H.prim PT h1 h0 h7 (bG H t) (aJ hi) hix o16 rfl o22 rfl o44 o45 o31 hix2 o36 rfl rfl) (by simp), hs, rfl, rfl, rfl, rfl⟩
      | false =>
       rw [hz] at o36
       have hz' : ¬ (i = a + 9 ∨ (a < i ∧ t[a]? = some 48)) := by
        rintro (h1 | ⟨_, h1⟩)
        · exact hi9 h1
        · rw [hca] at h1; injection h1 with h1; rw [h1] at hz; cases hz
       obtain ⟨s1, r1, k0, k1, k4, k7, ks⟩ : ∃ s1, dF K [1, 1, 1, 0, 0, 0] s h .normal s1 h ∧ s1.at 0 = .st t ∧ s1.at 1 = .nu .i64 (.ofNat (i + 1)) ∧ s1.at 4 = .nu .i64 (.ofNat (10 * n + (c - 48))) ∧ s1.at 7 = .nu .i64 (.ofNat a) ∧ s1.at ah = .undef :=
        ⟨_, pf H.hk H.prim PT h1 h0 h7 h4 (bG H t) (aJ hi) hix o16 rfl o22 rfl o44 o45 o31 hix2 o36 rfl rfl o41 (Di hd) l46 o46 o47 (bh (by omega)), h0, rfl, rfl, h7, hs⟩
       obtain ⟨e, s', r2, rest⟩ := ih (i + 1) _ s1 (by omega) (by omega) (by omega) hn' k0 k1 k4 k7 ks
       refine ⟨e, s', Runs.loop r1 r2, ?_⟩
       show _ ∧ (match (if i = a + 9 ∨ (a < i ∧ t[a]? = some 48) then _ else _ : Option Nat × Nat) with | (some n', j) => _ | (none, j) => _)
       rw [if_neg hz']; exact rest
    · have o31 : ab K.P .gtr 3 (.nu .i64 (.ofNat i)) (.nu .i64 (.ofNat a)) = some (.bo false) := by rw [kX, fb (by omega)]; rfl
      have hz' : ¬ (i = a + 9 ∨ (a < i ∧ t[a]? = some 48)) := by omega
      obtain ⟨s1, r1, k0, k1, k4, k7, ks⟩ : ∃ s1, dF K [1, 1, 1, 0, 0, 0] s h .normal s1 h ∧ s1.at 0 = .st t ∧ s1.at 1 = .nu .i64 (.ofNat (i + 1)) ∧ s1.at 4 = .nu .i64 (.ofNat (10 * n + (c - 48))) ∧ s1.at 7 = .nu .i64 (.ofNat a) ∧ s1.at ah = .undef :=
       ⟨_, pg H.hk H.prim PT h1 h0 h7 h4 (bG H t) (aJ hi) hix o16 rfl o22 rfl o44 o45 o31 rfl rfl o41 (Di hd) l46 o46 o47 (bh (by omega)), h0, rfl, rfl, h7, hs⟩
      obtain ⟨e, s', r2, rest⟩ := ih (i + 1) _ s1 (by omega) (by omega) (by omega) hn' k0 k1 k4 k7 ks
      refine ⟨e, s', Runs.loop r1 r2, ?_⟩
      show _ ∧ (match (if i = a + 9 ∨ (a < i ∧ t[a]? = some 48) then _ else _ : Option Nat × Nat) with | (some n', j) => _ | (none, j) => _)
      rw [if_neg hz']; exact rest
theorem Dj (H : Std K) (PT : ck K) {t : List Nat} (ht : t.length < 4611686018427387904) {a : Nat} (ha : a ≤ t.length) : Comes K 67 [.st t, .nu .i64 (.ofNat a)] h (Q6 (de t a)) h := by
 have hf : K.P.funcs[67]? = some Tryz.f67 := by rw [H.hP]; exact Tryz.func67
 have rb : ∀ {e s' h'}, dF K [1] (T.set (T.set (T.set (entry 0 [.st t, .nu .i64 (.ofNat a)]) 4 (.nu .i64 0)) 5 (.nu .i64 0)) 6 (.nu .i64 0)) h e s' h' → Runs K 67 70 none (aq Tryz.f67) (entry 0 [.st t, .nu .i64 (.ofNat a)]) h e s' h' := fun r => Runs.seq (Pj H.hk) r
 cases hc : t[a]? with
 | none =>
  have hle : t.length ≤ a := by
   rcases Nat.lt_or_ge a t.length with h1 | h1
   · rw [List.getElem?_eq_getElem h1] at hc; cases hc
   · exact h1
  have o11 : ab K.P .geq 3 (.nu .i64 (.ofNat a)) (.nu .i64 (.ofNat t.length)) = some (.bo true) := by rw [Jo, fb hle]
  rw [de, hc]
  exact H.go hf (rb (ax (CK H.hk H.prim PT rfl rfl (bG H t) o11 rfl) (by simp))) (.inr rfl) (Nat.le_refl _) rfl rfl rfl
 | some c =>
  have hi := mP hc
  have o11 : ab K.P .geq 3 (.nu .i64 (.ofNat a)) (.nu .i64 (.ofNat t.length)) = some (.bo false) := by rw [Jo, fS hi]
  have hix := rH (K := K) H hc
  have o16 : ab K.P .lss 5 (.nu .u8 (.ofNat c)) (.nu .u8 48) = some (.bo (!(Nat.ble 48 c))) := rfl
  have o22 : ab K.P .gtr 5 (.nu .u8 (.ofNat c)) (.nu .u8 57) = some (.bo (!(Nat.ble c 57))) := rfl
  cases h48 : Nat.ble 48 c with
  | false =>
   rw [h48] at o16
   have hd : eu c = false := by unfold eu; rw [h48]; rfl
   rw [de, hc]; simp only [hd]
   exact H.go hf (rb (ax (zL H.hk H.prim PT rfl rfl (bG H t) o11 hix o16 rfl rfl) (by simp))) (.inr rfl) (Nat.le_refl _) rfl rfl rfl
  | true =>
  rw [h48] at o16
  cases h57 : Nat.ble c 57 with
  | false =>
   rw [h57] at o22
   have hd : eu c = false := by unfold eu; rw [h57, Bool.and_false]
   rw [de, hc]; simp only [hd]
   exact H.go hf (rb (ax (zM H.hk H.prim PT rfl rfl (bG H t) o11 hix o16 rfl o22 rfl) (by simp))) (.inr rfl) (Nat.le_refl _) rfl rfl rfl
  | true =>
  rw [h57] at o22
  have hd : eu c = true := by unfold eu; rw [h48, h57]; rfl
  have hn : de t a = dz t a (t.length - a) a 0 := by rw [de, hc]; simp only [hd]
  rw [hn]
  obtain ⟨s1, r1, k0, k1, k4, k7, ks⟩ : ∃ s1, (∀ {e s' h'}, dF K [1, 1, 1] s1 h e s' h' → Runs K 67 70 none (aq Tryz.f67) (entry 0 [.st t, .nu .i64 (.ofNat a)]) h e s' h') ∧ s1.at 0 = .st t ∧ s1.at 1 = .nu .i64 (.ofNat a) ∧ s1.at 4 = .nu .i64 (.ofNat 0) ∧ s1.at 7 = .nu .i64 (.ofNat a) ∧ s1.at ah = .undef :=
   ⟨_, fun r => rb (Runs.seq (zN H.hk H.prim PT rfl rfl (bG H t) o11 hix o16 rfl o22 rfl) (Runs.seq (Pk H.hk rfl) r)), rfl, rfl, rfl, rfl, rfl⟩
  obtain ⟨e, s2, r2, hs2, hr⟩ := GP (h := h) H PT ht (t.length - a) a 0 s1 (by omega) (Nat.le_refl _) (by omega) (by simp) k0 k1 k4 k7 ks
  generalize dz t a (t.length - a) a 0 = q at hr
  obtain ⟨o, j⟩ := q
  cases o with
  | some n =>
   obtain ⟨rfl, h4, h1⟩ := hr
   exact H.go hf (r1 (Runs.seq (aO r2) (FC H.hk H.prim PT h4 h1))) (.inr rfl) (Nat.le_refl _) hs2 rfl rfl
  | none =>
   obtain ⟨rfl, h4, h5, h6⟩ := hr
   refine H.go hf (r1 (ax (az r2) (by simp))) (.inr rfl) (Nat.le_refl _) hs2 (vs := [s2.at 4, s2.at 5, s2.at 6]) rfl ?_
   rw [h4, h5, h6]; rfl
end
inductive Ry where
 | form (j : Nat)
 | bad (f : Nat) (e : Int)
 | ok (l : List (List Int))
def eP (t : List Nat) : Nat → Nat → List Int → Sum Nat (List Int × Nat)
 | 0, a, _ => .inl a
 | m + 1, a, line => match de t a with
  | (none, j) => .inl j
  | (some n, j) => match t[j]? with
   | none => .inl j
   | some c => if c = 32 then eP t m (j + 1) (line ++ [Int.ofNat n]) else if c = 10 then .inr (line ++ [Int.ofNat n], j + 1) else .inl j
def fq (t : List Nat) : Nat → Nat → List (List Int) → Ry
 | 0, _, l => .ok l
 | m + 1, a, l => if a < t.length then (match eP t (t.length + 1) a [] with
  | .inl j => .form j
  | .inr (line, b) => if bU line ≠ 0 then .bad a (bU line) else fq t m b (l ++ [line])) else .ok l
def dw (t : List Nat) : List (List Int) × Nat × Int :=
 if 65536 < t.length then ([], 0, 3) else match fq t (t.length + 1) 0 [] with
  | .form j => ([], j, 2)
  | .bad f e => ([], f, e)
  | .ok l => (if ju l = 0 then dG l else [], 0, ju l)
theorem nN {t : List Nat} : ∀ (m a : Nat) (line line' : List Int) (b : Nat), a ≤ t.length → eP t m a line = .inr (line', b) → a + 2 ≤ b ∧ b ≤ t.length ∧ line'.length ≤ line.length + (b - a)
 | 0, a, line, line', b, ha, h => by cases h
 | m + 1, a, line, line', b, ha, h => by
  unfold eP at h
  have hr := rG ha
  have hl := fun n j (e : de t a = (some n, j)) => qh e
  generalize de t a = q at h hr hl
  obtain ⟨o, j⟩ := q
  cases o with
  | none => cases h
  | some n =>
   have hj := hl n j rfl
   simp only at h hr
   cases hc : t[j]? with
   | none => rw [hc] at h; cases h
   | some c =>
    have hjl := mP hc
    rw [hc] at h
    simp only at h
    split at h
    · have := nN m (j + 1) _ line' b (by omega) h
      simp only [List.length_append, List.length_cons, List.length_nil] at this
      refine ⟨?_, ?_, ?_⟩ <;> omega
    · split at h
      · injection h with h
        obtain ⟨rfl, rfl⟩ := Prod.mk.inj h
        simp only [List.length_append, List.length_cons, List.length_nil]
        refine ⟨?_, ?_, ?_⟩ <;> omega
      · cases h
section
variable {K : Ctx} {h : Hp}
theorem Js {P : Program} {t : TypeId} {c d : Nat} (h : c ≠ d) : ab P .neq t (.nu .u8 (.ofNat c)) (.nu .u8 (.ofNat d)) = some (.bo true) := by
 show some (CV.bo (!(Nat.beq c d))) = _
 rw [mQ h]; rfl
theorem GQ (H : Std K) (PT : ck K) {t : List Nat} (ht : t.length < 1099511627776) {N1 fr : Nat} {v2 : CV} : ∀ (m a : Nat) (line : List Int) (s : Fr) (g : Hp) (v5 : CV), t.length < a + m → a ≤ t.length → (a < t.length ∨ line ≠ []) → HpOk g → N1 ≤ g.n → Out N1 g 3 v5 (ao line) → line.length ≤ a → s.at 0 = .st t → s.at 2 = v2 → s.at 3 = .nu .i64 (.ofNat a) → s.at 5 = v5 → s.at 6 = .nu .i64 (.ofNat fr) → s.at ah = .undef →
  match eP t m a line with
  | .inl j => ∃ s' g', cK K [1, 1, 1, 1, 0, 0] s g .ret s' g' ∧ HpOk g' ∧ Same N1 g g' ∧ s'.at ah = .undef ∧ s'.at 2 = .nils ∧ s'.at 3 = .nu .i64 (.ofNat j) ∧ s'.at 4 = .nu .i64 2
  | .inr (line', b) => ∃ g' v5', HpOk g' ∧ Same N1 g g' ∧ Out N1 g' 3 v5' (ao line') ∧
   (bU line' ≠ 0 → ∃ s', cK K [1, 1, 1, 1, 0, 0] s g .ret s' g' ∧ s'.at ah = .undef ∧ s'.at 2 = .nils ∧ s'.at 3 = .nu .i64 (.ofNat fr) ∧ s'.at 4 = .nu .i64 (bU line')) ∧
   (bU line' = 0 → ∀ F B x' g'', aM 1 [(0, v5')] (ae K.P 22) = some (F, B) → aT (g'.push B) v2 (F g'.n) (ae K.P 22) (ae K.P 22) = some (x', g'') → ∃ s1, (∀ e s2 h2, cK K [1, 1, 1, 1, 0, 0] s1 g'' e s2 h2 → cK K [1, 1, 1, 1, 0, 0] s g e s2 h2) ∧ s1.at 0 = .st t ∧ s1.at 2 = x' ∧ s1.at 3 = .nu .i64 (.ofNat b) ∧ s1.at 5 = .nils ∧ s1.at 6 = .nu .i64 (.ofNat b) ∧ s1.at ah = .undef) := by
 intro m
 induction m with
 | zero => intro a line s g v5 h1 h2; omega
 | succ m ih =>
  intro a line s g v5 hm ha hor ok hN ho hll s0 s2 s3 s5 s6 hs
  have c65 := GO (h := g) H PT (t := t) (by omega) ha
  have hr := rG ha
  have hl := fun n j (e : de t a = (some n, j)) => qh e
  by_cases hat : a < t.length
  case neg =>
   have hn : de t a = (none, a) := by rw [de, List.getElem?_eq_none (by omega)]
   have hne : line ≠ [] := by rcases hor with h1 | h1 <;> first | exact absurd h1 hat | exact h1
   have hpos : 0 < line.length := List.length_pos_iff.2 hne
   have hlen := dJ H ho.row
   rw [aB] at hlen
   unfold eP
   rw [hn]
   rw [hn] at c65
   have o21 : ab K.P .gtr 3 (.nu .i64 (.ofNat line.length)) (.nu .i64 0) = some (.bo true) := by
    have := kX (P := K.P) (t := 3) line.length 0
    rw [fS hpos] at this; exact this
   exact ⟨_, _, aD (o0 H.hk H.prim PT s3 s0 s5 (bG H t) (aS (by omega)) hlen o21 rfl c65 rfl rfl rfl rfl rfl) (by simp), ok, Same.refl _ _, hs, rfl, rfl, rfl⟩
  unfold eP
  generalize de t a = q at c65 hr hl
  obtain ⟨o, j⟩ := q
  cases o with
  | none => exact ⟨_, _, aD (oY H.hk H.prim PT s3 s0 (bG H t) (aJ hat) rfl c65 rfl rfl rfl rfl) (by simp), ok, Same.refl _ _, hs, rfl, rfl, rfl⟩
  | some n =>
  have hj := hl n j rfl
  have o36 := vt (P := K.P) (t := 3) j t.length
  simp only at hr
  simp only
  cases hc : t[j]? with
  | none =>
   have hje : j = t.length := by
    rcases Nat.lt_or_ge j t.length with h1 | h1
    · rw [List.getElem?_eq_getElem h1] at hc; cases hc
    · omega
   rw [tB hje] at o36
   exact ⟨_, _, aD (oZ H.hk H.prim PT s3 s0 (bG H t) (aJ hat) rfl c65 rfl rfl rfl rfl (bG H t) o36 rfl) (by simp), ok, Same.refl _ _, hs, rfl, rfl, rfl⟩
  | some c =>
   have hjl := mP hc
   rw [mQ (by omega)] at o36
   have hix := rH (K := K) H hc
   have hjl2 : j < 9223372036854775807 := by omega
   obtain ⟨F, B, x', g2, a1, a2, a3, a4, a5⟩ := Q0 H ok hN ho (Int.ofNat n) (by omega)
   simp only
   by_cases h32 : c = 32
   · subst h32
     rw [if_pos rfl]
     obtain ⟨s1, r1, k0, k2, k3, k5, k6, ks⟩ : ∃ s1, cK K [1, 1, 1, 1, 0, 0, 0] s g .normal s1 g2 ∧ s1.at 0 = .st t ∧ s1.at 2 = v2 ∧ s1.at 3 = .nu .i64 (.ofNat (j + 1)) ∧ s1.at 5 = x' ∧ s1.at 6 = .nu .i64 (.ofNat fr) ∧ s1.at ah = .undef :=
      ⟨_, nA H.hk H.prim PT s3 s0 s5 (bG H t) (aJ hat) rfl c65 rfl rfl rfl rfl (bG H t) o36 rfl hix rfl rfl rfl a1 a2 (bh hjl2) rfl, s0, s2, rfl, rfl, s6, hs⟩
     have hi := ih (j + 1) _ s1 g2 x' (by omega) (by omega) (.inr (by simp)) a5 (Nat.le_trans hN a4.n) a3 (by simp; omega) k0 k2 k3 k5 k6 ks
     generalize eP t m (j + 1) (line ++ [Int.ofNat n]) = w at hi
     cases w with
     | inl j' =>
      obtain ⟨s', g', r2, ok', S', rest⟩ := hi
      exact ⟨s', g', Runs.loop r1 r2, ok', a4.trans S', rest⟩
     | inr p =>
      obtain ⟨line', b⟩ := p
      obtain ⟨g', v5', ok', S', O', hb, hg⟩ := hi
      refine ⟨g', v5', ok', a4.trans S', O', fun he => ?_, fun he F B x' g'' e1 e2 => ?_⟩
      · obtain ⟨s', r2, rest⟩ := hb he
        exact ⟨s', Runs.loop r1 r2, rest⟩
      · obtain ⟨s1', r2, rest⟩ := hg he F B x' g'' e1 e2
        exact ⟨s1', fun e s2 h2 r => Runs.loop r1 (r2 e s2 h2 r), rest⟩
   · rw [if_neg h32]
     have o42 : ab K.P .neq 5 (.nu .u8 (.ofNat c)) (.nu .u8 32) = some (.bo true) := Js h32
     by_cases h10 : c = 10
     · subst h10
       rw [if_pos rfl]
       have c66 := lL H (a := line ++ [Int.ofNat n]) (by simp; omega) a3.row
       refine ⟨g2, x', a5, a4, a3, fun he => ?_, fun he F2 B2 x2 g'' e1 e2 => ?_⟩
       · exact ⟨_, aD (mF H.hk H.prim PT s3 s0 s5 s6 (bG H t) (aJ hat) rfl c65 rfl rfl rfl rfl (bG H t) o36 rfl hix o42 rfl rfl rfl a1 a2 (bh hjl2) rfl c66 (jt he)) (by simp), hs, rfl, rfl, rfl⟩
       · exact ⟨_, fun e s2' h2 r => Runs.loop (mG H.hk H.prim PT s3 s0 s5 s2 (bG H t) (aJ hat) rfl c65 rfl rfl rfl rfl (bG H t) o36 rfl hix o42 rfl rfl rfl a1 a2 (bh hjl2) rfl c66 (mb he) e1 e2) r, s0, rfl, rfl, rfl, rfl, hs⟩
     · rw [if_neg h10]
       have o47 : ab K.P .neq 5 (.nu .u8 (.ofNat c)) (.nu .u8 10) = some (.bo true) := Js h10
       exact ⟨_, _, aD (ol H.hk H.prim PT s3 s0 (bG H t) (aJ hat) rfl c65 rfl rfl rfl rfl (bG H t) o36 rfl hix o42 o47 rfl rfl) (by simp), ok, Same.refl _ _, hs, rfl, rfl, rfl⟩
theorem Dk (H : Std K) (PT : ck K) {t : List Nat} (ht : t.length < 1099511627776) {h0 : Hp} : ∀ (m a : Nat) (l : List (List Int)) (s : Fr) (g : Hp) (v2 : CV) (cs : List CV), t.length < a + m → a ≤ t.length → HpOk g → Same h0.n h0 g → Own h0.n g 46 v2 cs l → 2 * l.length ≤ a → (∀ x ∈ l, OkS x) → s.at 0 = .st t → s.at 2 = v2 → s.at 3 = .nu .i64 (.ofNat a) → s.at 5 = .nils → s.at 6 = .nu .i64 (.ofNat a) → s.at ah = .undef →
  match fq t m a l with
  | .form j => ∃ s' g', cK K [1, 1, 1, 1, 0, 0] s g .ret s' g' ∧ HpOk g' ∧ Same h0.n h0 g' ∧ s'.at ah = .undef ∧ s'.at 2 = .nils ∧ s'.at 3 = .nu .i64 (.ofNat j) ∧ s'.at 4 = .nu .i64 2
  | .bad f e => ∃ s' g', cK K [1, 1, 1, 1, 0, 0] s g .ret s' g' ∧ HpOk g' ∧ Same h0.n h0 g' ∧ s'.at ah = .undef ∧ s'.at 2 = .nils ∧ s'.at 3 = .nu .i64 (.ofNat f) ∧ s'.at 4 = .nu .i64 e
  | .ok l' => ∃ s' g' v cs', cK K [1, 1, 1, 1, 0, 0] s g (.exit 0) s' g' ∧ HpOk g' ∧ Same h0.n h0 g' ∧ s'.at ah = .undef ∧ s'.at 2 = v ∧ Own h0.n g' 46 v cs' l' ∧ 2 * l'.length ≤ t.length ∧ ∀ x ∈ l', OkS x := by
 intro m
 induction m with
 | zero => intro a l s g v2 cs h1 h2; omega
 | succ m ih =>
  intro a l s g v2 cs hm ha ok S O hll hok s0 s2 s3 s5 s6 hs
  unfold fq
  by_cases hat : a < t.length
  case neg =>
   rw [if_neg hat]
   have o20 : aj g .nils (ae K.P 46) = some (.nu .i64 0) := by rw [H.hP, t46]; rfl
   exact ⟨_, _, v2, cs, aD (sW H.hk H.prim PT s3 s0 s5 (bG H t) (aS (by omega)) o20 rfl rfl) (by simp), ok, S, hs, s2, O, by omega, hok⟩
  rw [if_pos hat]
  have w := GQ H PT ht (N1 := g.n) (fr := a) (v2 := v2) (t.length + 1) a [] s g .nils (by omega) ha (.inl hat) ok (Nat.le_refl _) .nils (by simp) s0 s2 s3 s5 s6 hs
  have hrng := fun line' b => nN (t := t) (t.length + 1) a [] line' b ha
  generalize eP t (t.length + 1) a [] = q at w hrng
  cases q with
  | inl j =>
   obtain ⟨s', g', r, ok', S', rest⟩ := w
   exact ⟨s', g', r, ok', S.trans (S'.le S.n), rest⟩
  | inr p =>
   obtain ⟨line, b⟩ := p
   obtain ⟨g', v5', ok', S', O', hb, hg⟩ := w
   obtain ⟨hb1, hb2, hb3⟩ := hrng line b rfl
   simp only
   by_cases he : bU line = 0
   case neg =>
    rw [if_pos he]
    obtain ⟨s', r, rest⟩ := hb he
    exact ⟨s', g', r, ok', S.trans (S'.le S.n), rest⟩
   rw [if_neg (fun hn => hn he)]
   have O2 := O.mono S' ok
   have hcl := O.rows.length
   obtain ⟨F, B, x', g'', a1, a2, a3, a4, a5⟩ := Own.app (P := K.P) (t := 22) (el := 46) (by rw [H.hP]; exact t22) ok' (Nat.le_trans S.n S'.n) O2 (Row.off O.out (Nat.le_refl _) O') (by decide) (by omega)
   obtain ⟨s1, r1, k0, k2, k3, k5, k6, ks⟩ := hg he F B x' g'' a1 a2
   have hi := ih b (l ++ [line]) s1 g'' x' _ (by omega) hb2 a5 ((S.trans (S'.le S.n)).trans a4) a3 (by simp; omega) (fun x hx => by
    rcases List.mem_append.1 hx with hx | hx
    · exact hok x hx
    · rw [List.mem_singleton] at hx; subst hx; exact c6.1 he) k0 k2 k3 k5 k6 ks
   generalize fq t m b (l ++ [line]) = w at hi
   cases w with
   | form j =>
    obtain ⟨s', g', r, rest⟩ := hi
    exact ⟨s', g', r1 _ _ _ r, rest⟩
   | bad f e =>
    obtain ⟨s', g', r, rest⟩ := hi
    exact ⟨s', g', r1 _ _ _ r, rest⟩
   | ok l' =>
    obtain ⟨s', g', v, cs', r, rest⟩ := hi
    exact ⟨s', g', v, cs', r1 _ _ _ r, rest⟩
def pJ (K : Ctx) (f : FuncId) (t : List Nat) (h : Hp) : Prop := jz K f [.st t] h fun r h' => ∃ o, r = .tup [o, .nu .i64 (.ofNat (dw t).2.1), .nu .i64 (dw t).2.2] ∧ Val h' o (dw t).1
theorem GR (H : Std K) (TT : kU K) (PD : db K) (PY : eO K) (PT : ck K) (h70 : ∀ args h, K.spec 70 args h = none) (ok : HpOk h) (t : List Nat) : pJ K 21 t h := by
 have hf : K.P.funcs[21]? = some Tryz.f21 := by rw [H.hP]; exact Tryz.func21
 unfold pJ dw
 by_cases hbig : 65536 < t.length
 · rw [if_pos hbig]
   have o13 : ab K.P .gtr 3 (.nu .i64 (.ofNat t.length)) (.nu .i64 65536) = some (.bo true) := eb (by show (65536 : Int) < Int.ofNat _; simp only [Int.ofNat_eq_natCast]; omega)
   exact ⟨_, h, H.go hf (Runs.seq (E7 H.hk) (ax (Fy H.hk H.prim PT (s := T.set (T.set (T.set (entry 0 [.st t]) 2 .nils) 3 (.nu .i64 0)) 4 (.nu .i64 0)) rfl (bG H t) o13) (by simp))) (.inr rfl) (Nat.le_refl _) rfl rfl rfl, Same.refl _ _, ok, .nils, rfl, [], .nils, .nil⟩
 rw [if_neg hbig]
 have ht2 : t.length ≤ 65536 := by omega
 have o13 : ab K.P .gtr 3 (.nu .i64 (.ofNat t.length)) (.nu .i64 65536) = some (.bo false) := fM (by show Int.ofNat _ ≤ (65536 : Int); simp only [Int.ofNat_eq_natCast]; omega)
 obtain ⟨s1, r1, k0, k2, k3, k5, k6, ks⟩ : ∃ s1, (∀ {e s' h'}, cK K [1, 1, 1, 1] s1 h e s' h' → Runs K 21 79 none (aq Tryz.f21) (entry 0 [.st t]) h e s' h') ∧ s1.at 0 = .st t ∧ s1.at 2 = .nils ∧ s1.at 3 = .nu .i64 (.ofNat 0) ∧ s1.at 5 = .nils ∧ s1.at 6 = .nu .i64 (.ofNat 0) ∧ s1.at ah = .undef :=
  ⟨_, fun r => Runs.seq (E7 H.hk) (Runs.seq (Fz H.hk H.prim PT (s := T.set (T.set (T.set (entry 0 [.st t]) 2 .nils) 3 (.nu .i64 0)) 4 (.nu .i64 0)) rfl (bG H t) o13) (Runs.seq (OT H.hk) (Runs.seq (OU H.hk) r))), rfl, rfl, rfl, rfl, rfl, rfl⟩
 have w := Dk H PT (by omega) (h0 := h) (t.length + 1) 0 [] s1 h .nils [] (by omega) (Nat.zero_le _) ok (Same.refl _ _) Own.nil (by simp) (by simp) k0 k2 k3 k5 k6 ks
 generalize fq t (t.length + 1) 0 [] = q at w
 cases q with
 | form j =>
  obtain ⟨s', g', r, ok', S', hs', h2, h3, h4⟩ := w
  refine ⟨_, g', H.go hf (r1 (ax (az r) (by simp))) (.inr rfl) S'.n hs' (vs := [s'.at 2, s'.at 3, s'.at 4]) rfl rfl, S', ok', .nils, ?_, [], .nils, .nil⟩
  rw [h2, h3, h4]; rfl
 | bad f e =>
  obtain ⟨s', g', r, ok', S', hs', h2, h3, h4⟩ := w
  refine ⟨_, g', H.go hf (r1 (ax (az r) (by simp))) (.inr rfl) S'.n hs' (vs := [s'.at 2, s'.at 3, s'.at 4]) rfl rfl, S', ok', .nils, ?_, [], .nils, .nil⟩
  rw [h2, h3, h4]; rfl
 | ok l =>
  obtain ⟨s', g', v, cs', r, ok', S', hs', h2, O, hlen, hok⟩ := w
  obtain ⟨_, g2, c25, S2, bk, o, ds, rfl, O2⟩ := Ae H TT PD PY h70 ok' (l := l) ⟨by omega, fun a ha => by have := (hok a ha).le; omega⟩ O.out.row O.all
  exact ⟨_, g2, H.go hf (r1 (Runs.seq (aO r) (CI H.hk H.prim PT h2 c25 rfl rfl))) (.inr rfl) (S'.trans (S2.le S'.n)).n hs' rfl rfl, S'.trans (S2.le S'.n), bk, o, rfl, O2.val⟩
theorem GS (H : Std K) (TT : kU K) (PD : db K) (PY : eO K) (PT : ck K) (h70 : ∀ args h, K.spec 70 args h = none) (ok : HpOk h) {t : List Nat} (ht : t.length ≤ 2000 ∨ 65536 < t.length) : pJ K 21 t h := GR H TT PD PY PT h70 ok t
theorem Dl (H : Std K) (PT : ck K) {t : List Nat} (ht : t.length < 1099511627776) {N1 fr : Nat} {v5 : CV} : ∀ (m a : Nat) (line : List Int) (s : Fr) (g : Hp) (v8 : CV), t.length < a + m → a ≤ t.length → HpOk g → N1 ≤ g.n → Out N1 g 3 v8 (ao line) → line.length ≤ a → s.at 0 = .st t → s.at 5 = v5 → s.at 6 = .nu .i64 (.ofNat a) → s.at 7 = .nu .i64 (.ofNat fr) → s.at 8 = v8 → s.at ah = .undef →
  match eP t m a line with
  | .inl j => ∃ s' g', co K [1, 1, 1, 1, 0, 0, 0, 1, 0, 1, 1, 0, 0] s g .ret s' g' ∧ HpOk g' ∧ Same N1 g g' ∧ s'.at ah = .undef ∧ s'.at 2 = .nils ∧ s'.at 3 = .nu .i64 (.ofNat j) ∧ s'.at 4 = .nu .i64 2
  | .inr (line', b) => ∃ s' g' v8', co K [1, 1, 1, 1, 0, 0, 0, 1, 0, 1, 1, 0, 0] s g (.exit 2) s' g' ∧ HpOk g' ∧ Same N1 g g' ∧ s'.at ah = .undef ∧ Out N1 g' 3 v8' (ao line') ∧ s'.at 0 = .st t ∧ s'.at 5 = v5 ∧ s'.at 6 = .nu .i64 (.ofNat b) ∧ s'.at 7 = .nu .i64 (.ofNat fr) ∧ s'.at 8 = v8' := by
 intro m
 induction m with
 | zero => intro a line s g v5 h1 h2; omega
 | succ m ih =>
  intro a line s g v8 hm ha ok hN ho hll s0 s5 s6 s7 s8 hs
  have c67 := Dj (h := g) H PT (t := t) (by omega) ha
  have hr := rG ha
  have hl := fun n j (e : de t a = (some n, j)) => qh e
  unfold eP
  generalize de t a = q at c67 hr hl
  obtain ⟨o, j⟩ := q
  cases o with
  | none => exact ⟨_, _, aD (mH H.hk H.prim PT s0 s6 c67 rfl rfl rfl rfl) (by simp), ok, Same.refl _ _, hs, rfl, rfl, rfl⟩
  | some n =>
  have hj := hl n j rfl
  have o41 := vt (P := K.P) (t := 3) j t.length
  have o31 : ab K.P .lss 3 (.nu .i64 (.ofNat j)) (.nu .i64 0) = some (.bo false) := aS (x := j) (y := 0) (Nat.zero_le _)
  obtain ⟨F, B, x', g2, a1, a2, a3, a4, a5⟩ := yN H ok hN ho (Int.ofNat n) (by omega)
  simp only at hr
  simp only
  cases hc : t[j]? with
  | none =>
   have hje : j = t.length := by
    rcases Nat.lt_or_ge j t.length with h1 | h1
    · rw [List.getElem?_eq_getElem h1] at hc; cases hc
    · omega
   rw [tB hje] at o41
   exact ⟨_, _, aD (kF H.hk H.prim PT s0 s6 s8 c67 rfl rfl rfl o31 a1 a2 (bG H t) o41 rfl) (by simp), a5, a4, hs, rfl, rfl, rfl⟩
  | some c =>
   have hjl := mP hc
   rw [mQ (by omega)] at o41
   have hix := rH (K := K) H hc
   have hjl2 : j < 9223372036854775807 := by omega
   have o59 : ab K.P .sub 3 (.nu .i64 (.ofNat (j + 1))) (.nu .i64 1) = some (.nu .i64 (.ofNat j)) := Qw (x := j + 1) (y := 1) (by omega) (by omega)
   simp only
   by_cases h32 : c = 32
   · subst h32
     rw [if_pos rfl]
     obtain ⟨s1, r1, k0, k5, k6, k7, k8, ks⟩ : ∃ s1, co K [1, 1, 1, 1, 0, 0, 0, 1, 0, 1, 1, 0, 0, 0] s g .normal s1 g2 ∧ s1.at 0 = .st t ∧ s1.at 5 = v5 ∧ s1.at 6 = .nu .i64 (.ofNat (j + 1)) ∧ s1.at 7 = .nu .i64 (.ofNat fr) ∧ s1.at 8 = x' ∧ s1.at ah = .undef :=
      ⟨_, jK H.hk H.prim PT s0 s6 s8 c67 rfl rfl rfl o31 a1 a2 (bG H t) o41 hix rfl rfl rfl (bh hjl2) o59 hix rfl, s0, s5, rfl, s7, rfl, hs⟩
     have hi := ih (j + 1) _ s1 g2 x' (by omega) (by omega) a5 (Nat.le_trans hN a4.n) a3 (by simp; omega) k0 k5 k6 k7 k8 ks
     generalize eP t m (j + 1) (line ++ [Int.ofNat n]) = w at hi
     cases w with
     | inl j' =>
      obtain ⟨s', g', r2, ok', S', rest⟩ := hi
      exact ⟨s', g', Runs.loop r1 r2, ok', a4.trans S', rest⟩
     | inr p =>
      obtain ⟨line', b⟩ := p
      obtain ⟨s', g', v8', r2, ok', S', rest⟩ := hi
      exact ⟨s', g', v8', Runs.loop r1 r2, ok', a4.trans S', rest⟩
   · rw [if_neg h32]
     have o46 : ab K.P .neq 5 (.nu .u8 (.ofNat c)) (.nu .u8 32) = some (.bo true) := Js h32
     by_cases h10 : c = 10
     · subst h10
       rw [if_pos rfl]
       exact ⟨_, _, x', aD (jJ H.hk H.prim PT s0 s6 s8 c67 rfl rfl rfl o31 a1 a2 (bG H t) o41 hix o46 rfl rfl rfl (bh hjl2) o59 hix rfl) (by simp), a5, a4, hs, a3, s0, s5, rfl, s7, rfl⟩
     · rw [if_neg h10]
       have o51 : ab K.P .neq 5 (.nu .u8 (.ofNat c)) (.nu .u8 10) = some (.bo true) := Js h10
       exact ⟨_, _, aD (kG H.hk H.prim PT s0 s6 s8 c67 rfl rfl rfl o31 a1 a2 (bG H t) o41 hix o46 o51 rfl rfl) (by simp), a5, a4, hs, rfl, rfl, rfl⟩
theorem Af (H : Std K) (PB : cz K) (PT : ck K) {t : List Nat} (ht : t.length < 1099511627776) {h0 : Hp} : ∀ (m a : Nat) (l : List (List Int)) (s : Fr) (g : Hp) (v5 : CV) (cs : List CV), t.length < a + m → a ≤ t.length → HpOk g → Same h0.n h0 g → Own h0.n g 45 v5 cs l → 2 * l.length ≤ a → (∀ x ∈ l, OkS x) → s.at 0 = .st t → s.at 5 = v5 → s.at 6 = .nu .i64 (.ofNat a) → s.at ah = .undef →
  match fq t m a l with
  | .form j => ∃ s' g', co K [1, 1, 1, 1, 0, 0] s g .ret s' g' ∧ HpOk g' ∧ Same h0.n h0 g' ∧ s'.at ah = .undef ∧ s'.at 2 = .nils ∧ s'.at 3 = .nu .i64 (.ofNat j) ∧ s'.at 4 = .nu .i64 2
  | .bad f e => ∃ s' g', co K [1, 1, 1, 1, 0, 0] s g .ret s' g' ∧ HpOk g' ∧ Same h0.n h0 g' ∧ s'.at ah = .undef ∧ s'.at 2 = .nils ∧ s'.at 3 = .nu .i64 (.ofNat f) ∧ s'.at 4 = .nu .i64 e
  | .ok l' => ∃ s' g' v cs', co K [1, 1, 1, 1, 0, 0] s g (.exit 0) s' g' ∧ HpOk g' ∧ Same h0.n h0 g' ∧ s'.at ah = .undef ∧ s'.at 5 = v ∧ Own h0.n g' 45 v cs' l' ∧ 2 * l'.length ≤ t.length ∧ ∀ x ∈ l', OkS x := by
 intro m
 induction m with
 | zero => intro a l s g v2 cs h1 h2; omega
 | succ m ih =>
  intro a l s g v5 cs hm ha ok S O hll hok s0 s5 s6 hs
  unfold fq
  by_cases hat : a < t.length
  case neg =>
   rw [if_neg hat]
   exact ⟨_, _, v5, cs, aD (ax (s9 H.hk H.prim PT s6 s0 (bG H t) (aS (by omega))) (by simp)) (by simp), ok, S, hs, s5, O, by omega, hok⟩
  rw [if_pos hat]
  have rA := sX (h := g) H.hk H.prim PT s6 s0 (bG H t) (aJ hat)
  obtain ⟨sB, rB, b0, b5, b6, b7, b8, bs⟩ : ∃ sB, (∀ {e s' h'}, co K [1, 1, 1, 1, 0, 0, 0, 1, 0, 1, 1] sB g e s' h' → co K [1, 1, 1, 1, 0, 0, 0, 1, 0] (T.set (T.set (T.set (T.set s 18 (.nu .i64 (.ofNat a))) 19 (.st t)) 20 (.nu .i64 (.ofNat t.length))) 21 (.bo true)) g e s' h') ∧ sB.at 0 = .st t ∧ sB.at 5 = v5 ∧ sB.at 6 = .nu .i64 (.ofNat a) ∧ sB.at 7 = .nu .i64 (.ofNat a) ∧ sB.at 8 = .nils ∧ sB.at ah = .undef :=
   ⟨_, fun r => Runs.seq (OY H.hk s6) (Runs.seq (OZ H.hk) r), s0, s5, s6, rfl, rfl, hs⟩
  have w := Dl H PT ht (N1 := g.n) (fr := a) (v5 := v5) (t.length + 1) a [] sB g .nils (by omega) ha ok (Nat.le_refl _) .nils (by simp) b0 b5 b6 b7 b8 bs
  have hrng := fun line' b => nN (t := t) (t.length + 1) a [] line' b ha
  generalize eP t (t.length + 1) a [] = q at w hrng
  cases q with
  | inl j =>
   obtain ⟨s', g', r, ok', S', rest⟩ := w
   exact ⟨s', g', aD (Runs.seq rA (az (rB (ax (az r) (by simp))))) (by simp), ok', S.trans (S'.le S.n), rest⟩
  | inr p =>
   obtain ⟨line, b⟩ := p
   obtain ⟨s', g', v8', r, ok', S', hs', O', k0, k5, k6, k7, k8⟩ := w
   obtain ⟨hb1, hb2, hb3⟩ := hrng line b rfl
   have c57 := kQ H PB (a := line) (by simp at hb3; omega) O'.row
   simp only
   by_cases he : bU line = 0
   case neg =>
    rw [if_pos he]
    exact ⟨_, g', aD (Runs.seq rA (az (rB (Runs.seq (aO r) (om H.hk H.prim PT k8 k7 c57 (jt he)))))) (by simp), ok', S.trans (S'.le S.n), hs', rfl, rfl, rfl⟩
   rw [if_neg (fun hn => hn he)]
   have O2 := O.mono S' ok
   have hcl := O.rows.length
   obtain ⟨F, B, x', g'', a1, a2, a3, a4, a5⟩ := Own.app (P := K.P) (t := 26) (el := 45) (by rw [H.hP]; exact pj) ok' (Nat.le_trans S.n S'.n) O2 (Row.off O.out (Nat.le_refl _) O') (by decide) (by omega)
   obtain ⟨s1, r1, m0, m5, m6, ms⟩ : ∃ s1, co K [1, 1, 1, 1, 0, 0, 0] s g .normal s1 g'' ∧ s1.at 0 = .st t ∧ s1.at 5 = x' ∧ s1.at 6 = .nu .i64 (.ofNat b) ∧ s1.at ah = .undef :=
    ⟨_, Runs.seq rA (au (rB (Runs.seq (aO r) (oo H.hk H.prim PT k8 k5 c57 (mb he) a1 a2)))), k0, rfl, k6, hs'⟩
   have hi := ih b (l ++ [line]) s1 g'' x' _ (by omega) hb2 a5 ((S.trans (S'.le S.n)).trans a4) a3 (by simp; omega) (fun x hx => by
    rcases List.mem_append.1 hx with hx | hx
    · exact hok x hx
    · rw [List.mem_singleton] at hx; subst hx; exact c6.1 he) m0 m5 m6 ms
   generalize fq t m b (l ++ [line]) = w at hi
   cases w with
   | form j =>
    obtain ⟨s', g', r, rest⟩ := hi
    exact ⟨s', g', Runs.loop r1 r, rest⟩
   | bad f e =>
    obtain ⟨s', g', r, rest⟩ := hi
    exact ⟨s', g', Runs.loop r1 r, rest⟩
   | ok l' =>
    obtain ⟨s', g', v, cs', r, rest⟩ := hi
    exact ⟨s', g', v, cs', Runs.loop r1 r, rest⟩
theorem Dm (H : Std K) (PB : cz K) (PD : db K) (PT : ck K) (ok : HpOk h) {t : List Nat} (ht : t.length ≤ 2000 ∨ 65536 < t.length) : pJ K 22 t h := by
 have hf : K.P.funcs[22]? = some Tryz.f22 := by rw [H.hP]; exact Tryz.func22
 unfold pJ dw
 by_cases hbig : 65536 < t.length
 · rw [if_pos hbig]
   have o13 : ab K.P .gtr 3 (.nu .i64 (.ofNat t.length)) (.nu .i64 65536) = some (.bo true) := eb (by show (65536 : Int) < Int.ofNat _; simp only [Int.ofNat_eq_natCast]; omega)
   exact ⟨_, h, H.go hf (Runs.seq (E9 H.hk) (ax (FA H.hk H.prim PT (s := T.set (T.set (T.set (entry 0 [.st t]) 2 .nils) 3 (.nu .i64 0)) 4 (.nu .i64 0)) rfl (bG H t) o13) (by simp))) (.inr rfl) (Nat.le_refl _) rfl rfl rfl, Same.refl _ _, ok, .nils, rfl, [], .nils, .nil⟩
 rw [if_neg hbig]
 have ht2 : t.length ≤ 2000 := by omega
 have o13 : ab K.P .gtr 3 (.nu .i64 (.ofNat t.length)) (.nu .i64 65536) = some (.bo false) := fM (by show Int.ofNat _ ≤ (65536 : Int); simp only [Int.ofNat_eq_natCast]; omega)
 obtain ⟨s1, r1, k0, k5, k6, ks⟩ : ∃ s1, (∀ {e s' h'}, co K [1, 1, 1, 1] s1 h e s' h' → Runs K 22 79 none (aq Tryz.f22) (entry 0 [.st t]) h e s' h') ∧ s1.at 0 = .st t ∧ s1.at 5 = .nils ∧ s1.at 6 = .nu .i64 (.ofNat 0) ∧ s1.at ah = .undef :=
  ⟨_, fun r => Runs.seq (E9 H.hk) (Runs.seq (FB H.hk H.prim PT (s := T.set (T.set (T.set (entry 0 [.st t]) 2 .nils) 3 (.nu .i64 0)) 4 (.nu .i64 0)) rfl (bG H t) o13) (Runs.seq (OW H.hk) (Runs.seq (OX H.hk) r))), rfl, rfl, rfl, rfl⟩
 have w := Af H PB PT (by omega) (h0 := h) (t.length + 1) 0 [] s1 h .nils [] (by omega) (Nat.zero_le _) ok (Same.refl _ _) Own.nil (by simp) (by simp) k0 k5 k6 ks
 generalize fq t (t.length + 1) 0 [] = q at w
 cases q with
 | form j =>
  obtain ⟨s', g', r, ok', S', hs', h2, h3, h4⟩ := w
  refine ⟨_, g', H.go hf (r1 (ax (az r) (by simp))) (.inr rfl) S'.n hs' (vs := [s'.at 2, s'.at 3, s'.at 4]) rfl rfl, S', ok', .nils, ?_, [], .nils, .nil⟩
  rw [h2, h3, h4]; rfl
 | bad f e =>
  obtain ⟨s', g', r, ok', S', hs', h2, h3, h4⟩ := w
  refine ⟨_, g', H.go hf (r1 (ax (az r) (by simp))) (.inr rfl) S'.n hs' (vs := [s'.at 2, s'.at 3, s'.at 4]) rfl rfl, S', ok', .nils, ?_, [], .nils, .nil⟩
  rw [h2, h3, h4]; rfl
 | ok l =>
  obtain ⟨s', g', v, cs', r, ok', S', hs', h2, O, hlen, hok⟩ := w
  obtain ⟨_, g2, c44, S2, bk, o, rfl, V⟩ := zl H PB PD ok' (l := l) ⟨by omega, fun a ha => by have := (hok a ha).le; omega⟩ (by omega) O.out.row O.all
  exact ⟨_, g2, H.go hf (r1 (Runs.seq (aO r) (CJ H.hk H.prim PT h2 c44 rfl rfl))) (.inr rfl) (S'.trans (S2.le S'.n)).n hs' rfl rfl, S'.trans (S2.le S'.n), bk, o, rfl, V⟩
end
def dg (n : Nat) : List Nat := if n < 10 then [48 + n] else [48 + n / 10, 48 + n % 10]
theorem zm (n : Nat) : (dg n).length ≤ 2 := by unfold dg; split <;> simp
def zn : List Nat := [48, 49, 50, 51, 52, 53, 54, 55, 56, 57]
def zo : List Nat := (List.range 100).flatMap fun n => [48 + n / 10, 48 + n % 10]
theorem vu : ∀ n, n < 10 → (zn.drop n).take (n + 1 - n) = [48 + n] := of_decide_eq_true (by kernel_rfl)
theorem GU (l : List Nat) {n : Nat} (hn : n < 10) : ((zn ++ l).drop n).take (n + 1 - n) = [48 + n] := by
 rw [← vu n hn, List.drop_append_of_le_length (by show n ≤ 10; omega), List.take_append_of_le_length (by rw [List.length_drop]; show n + 1 - n ≤ 10 - n; omega)]
theorem GV : ∀ n, n < 100 → (zo.drop (n * 2)).take (n * 2 + 2 - n * 2) = [48 + n / 10, 48 + n % 10] := of_decide_eq_true (by kernel_rfl)
theorem Dn : zo.length = 200 := by kernel_rfl
section
variable {K : Ctx} {h : Hp}
theorem Do (H : Std K) {x : CV} {S r : List Nat} {a b : Nat} (hx : x = .st S) (hab : a ≤ b) (hb : b ≤ S.length) (hr : (S.drop a).take (b - a) = r) : bj (some (.nu .i64 (.ofNat a))) (some (.nu .i64 (.ofNat b))) h x (ae K.P 9) = some (.st r) := by
 subst hx
 rw [H.hP, t9]
 have h1 : (Nat.ble a b && Nat.ble b S.length) = true := by rw [fb hab, fb hb]; rfl
 show iQ S (some a) (some b) = _
 simp only [iQ, h1, hr]
theorem zp {P : Program} {t : TypeId} {x y : List Nat} (h : x.length + y.length < 9223372036854775808) : ab P .add t (.st x) (.st y) = some (.st (x ++ y)) := by
 have : Nat.ble (x.length + y.length) 9223372036854775807 = true := fb (by omega)
 simp only [ab, lQ, this]
theorem qK (H : Std K) (PT : ck K) {n : Nat} (hn : n < 10) : Comes K 59 [.nu .i64 (.ofNat n)] h (.st [48 + n]) h := by
 have hf : K.P.funcs[59]? = some Tryz.f59 := by rw [H.hP]; exact Tryz.func59
 have o4 : ab K.P .lss 3 (.nu .i64 (.ofNat n)) (.nu .i64 10) = some (.bo true) := aJ (x := n) (y := 10) hn
 exact H.go hf (LD H.hk H.prim PT (s := entry 0 [.nu .i64 (.ofNat n)]) rfl o4 (bh (by omega)) (Do H (S := zn) rfl (Nat.le_succ n) (by show n + 1 ≤ 10; omega) (vu n hn))) (.inr rfl) (Nat.le_refl _) rfl rfl rfl
theorem zq (H : Std K) (PT : ck K) {n : Nat} (hn : n < 100) : Comes K 59 [.nu .i64 (.ofNat n)] h (.st (dg n)) h := by
 unfold dg
 by_cases h10 : n < 10
 · rw [if_pos h10]; exact qK H PT h10
 · rw [if_neg h10]
   have hf : K.P.funcs[59]? = some Tryz.f59 := by rw [H.hP]; exact Tryz.func59
   have o4 : ab K.P .lss 3 (.nu .i64 (.ofNat n)) (.nu .i64 10) = some (.bo false) := aS (x := n) (y := 10) (by omega)
   have o10 : ab K.P .quo 3 (.nu .i64 (.ofNat n)) (.nu .i64 10) = some (.nu .i64 (.ofNat (n / 10))) := by
    show some (gN .i64 (Int.ofNat (n / 10))) = _
    rw [eK, fj _ (by omega)]
   have o13 : ab K.P .rem 3 (.nu .i64 (.ofNat n)) (.nu .i64 10) = some (.nu .i64 (.ofNat (n % 10))) := rfl
   have hm : n % 10 < 10 := Nat.mod_lt _ (by decide)
   have o17 := fun g : Hp => Do (h := g) H (x := ofValue (.string ⟨#[48, 49, 50, 51, 52, 53, 54, 55, 56, 57]⟩)) (S := zn) rfl (Nat.le_succ (n % 10)) (by show n % 10 + 1 ≤ 10; omega) (vu (n % 10) hm)
   exact H.go hf (LE H.hk H.prim PT (s := entry 0 [.nu .i64 (.ofNat n)]) rfl o4 o10 o13 (bh (by omega)) (o17 h) (MS _) (qK H PT (by omega)) (o17 h) (zp (x := [48 + n / 10]) (y := [48 + n % 10]) (by show 1 + 1 < 9223372036854775808; omega))) (.inr rfl) (Nat.le_refl _) rfl rfl rfl
theorem tC (H : Std K) (PT : ck K) {n : Nat} (hn : n < 100) : Comes K 63 [.nu .i64 (.ofNat n)] h (.st (dg n)) h := by
 have h162 : Comes K 162 [.nu .i64 (.ofNat n)] h (.st (dg n)) h := by
  have hf : K.P.funcs[162]? = some Tryz.f162 := by rw [H.hP]; exact Tryz.func162
  unfold dg
  by_cases h10 : n < 10
  · rw [if_pos h10]
    have o4 : ab K.P .lss 3 (.nu .i64 (.ofNat n)) (.nu .i64 10) = some (.bo true) := aJ (x := n) (y := 10) h10
    exact H.go hf (Ia H.hk H.prim PT (s := entry 0 [.nu .i64 (.ofNat n)]) rfl o4 (bh (by omega)) (Do H (S := zn ++ [97, 98, 99, 100, 101, 102, 103, 104, 105, 106, 107, 108, 109, 110, 111, 112, 113, 114, 115, 116, 117, 118, 119, 120, 121, 122]) rfl (Nat.le_succ n) (by show n + 1 ≤ 36; omega) (GU _ h10))) (.inr rfl) (Nat.le_refl _) rfl rfl rfl
  · rw [if_neg h10]
    have o4 : ab K.P .lss 3 (.nu .i64 (.ofNat n)) (.nu .i64 10) = some (.bo false) := aS (x := n) (y := 10) (by omega)
    have o10 : ab K.P .mul 3 (.nu .i64 (.ofNat n)) (.nu .i64 2) = some (.nu .i64 (.ofNat (n * 2))) := IV (x := n) (y := 2) (by omega)
    have o13 : ab K.P .add 3 (.nu .i64 (.ofNat (n * 2))) (.nu .i64 2) = some (.nu .i64 (.ofNat (n * 2 + 2))) := xo (x := n * 2) (y := 2) (by omega)
    exact H.go hf (Ib H.hk H.prim PT (s := entry 0 [.nu .i64 (.ofNat n)]) rfl o4 o10 o13 (Do H (S := zo) (by kernel_rfl) (by omega) (by rw [Dn]; omega) (GV n hn))) (.inr rfl) (Nat.le_refl _) rfl rfl rfl
 have h137 : Comes K 137 [.nu .i64 (.ofNat n), .nu .i64 10] h (.st (dg n)) h := by
  have hf : K.P.funcs[137]? = some Tryz.f137 := by rw [H.hP]; exact Tryz.func137
  have o13 : ab K.P .leq 2 (.nu .i64 0) (.nu .i64 (.ofNat n)) = some (.bo true) := by
   show some (CV.bo (Nat.ble 0 n)) = _
   rw [fb (Nat.zero_le _)]
  have o16 : ab K.P .lss 2 (.nu .i64 (.ofNat n)) (.nu .i64 100) = some (.bo true) := aJ (x := n) (y := 100) hn
  exact H.go hf (CL H.hk H.prim PT (s := entry 0 [.nu .i64 (.ofNat n), .nu .i64 10]) rfl rfl rfl o13 o16 rfl h162) (.inr rfl) (Nat.le_refl _) rfl rfl rfl
 have h109 : Comes K 109 [.nu .i64 (.ofNat n)] h (.st (dg n)) h := by
  have hf : K.P.funcs[109]? = some Tryz.f109 := by rw [H.hP]; exact Tryz.func109
  exact H.go hf (Pn H.hk H.prim PT (s := entry 0 [.nu .i64 (.ofNat n)]) rfl h137) (.inr rfl) (Nat.le_refl _) rfl rfl rfl
 have hf : K.P.funcs[63]? = some Tryz.f63 := by rw [H.hP]; exact Tryz.func63
 exact H.go hf (QX H.hk H.prim PT (s := entry 0 [.nu .i64 (.ofNat n)]) rfl h109) (.inr rfl) (Nat.le_refl _) rfl rfl rfl
end
def bR (first : Bool) : List Int → List Nat
 | [] => []
 | v :: r => (if first then [] else [32]) ++ dg v.toNat ++ bR false r
def dl (l : List (List Int)) : List Nat := l.flatMap fun a => bR true a ++ [10]
theorem jg : ∀ (a : List Int) (b : Bool), (bR b a).length ≤ 3 * a.length
 | [], b => by simp [bR]
 | v :: r, b => by
  have h1 := jg r false
  have h2 := zm v.toNat
  unfold bR
  cases b <;> simp only [Bool.false_eq_true, if_false, if_true, List.length_append, List.length_cons, List.length_nil] <;> omega
def Txt (l : List (List Int)) : Prop := ∀ a ∈ l, a.length ≤ 16 ∧ ∀ v ∈ a, 0 ≤ v ∧ v < 64
theorem GW {v : Int} (h : 0 ≤ v ∧ v < 64) : ∃ n : Nat, v = Int.ofNat n ∧ n < 64 ∧ v.toNat = n := by
 obtain ⟨n, rfl⟩ := Int.eq_ofNat_of_zero_le h.1
 exact ⟨n, rfl, by omega, by simp⟩
section
variable {K : Ctx} {h : Hp}
theorem wZ (H : Std K) (PT : ck K) {xs : List CV} {l : List (List Int)} {x : CV} (hx : Row h x xs) (hxs : Rows h xs l) {i : Nat} (hi : i < l.length) (ha : l[i].length ≤ 16 ∧ ∀ v ∈ l[i], 0 ≤ v ∧ v < 64) : ∀ (m k : Nat) (s : Fr) (T0 : List Nat), k + m = l[i].length → T0.length + 3 * m < 4611686018427387904 → s.at 0 = x → s.at 4 = .nu .i64 (.ofNat i) → s.at 3 = .st T0 → s.at 5 = .nu .i64 (.ofNat k) → s.at ah = .undef →
  ∃ s', eR K [1, 1, 0, 1, 0, 0, 1, 0, 0, 0, 1, 0] s h (.exit 2) s' h ∧ s'.at 0 = x ∧ s'.at 4 = .nu .i64 (.ofNat i) ∧ s'.at 3 = .st (T0 ++ bR (Nat.beq k 0) (l[i].drop k)) ∧ s'.at ah = .undef := by
 have hcl := hxs.length
 obtain ⟨p, hp1, hp2⟩ := fJ H hx (i := i) (by omega)
 have hxi := hxs.get (i := i) (by omega) hi
 have hlen := hF H hxi
 intro m
 induction m with
 | zero =>
  intro k s T0 hk hT s0 s4 s3 s5 hs
  refine ⟨_, aD (nz H.hk H.prim PT s5 s0 s4 hp1 hp2 hlen (aS (by omega))) (by simp), s0, s4, ?_, hs⟩
  rw [List.drop_of_length_le (by omega)]
  simp only [bR, List.append_nil]; exact s3
 | succ m ih =>
  intro k s T0 hk hT s0 s4 s3 s5 hs
  have hkl : k < l[i].length := by omega
  have hd : l[i].drop k = l[i][k] :: l[i].drop (k + 1) := List.drop_eq_getElem_cons hkl
  obtain ⟨q, hq1, hq2⟩ := iu H hxi hkl
  obtain ⟨n, hv, hn, hvn⟩ := GW (ha.2 _ (List.getElem_mem hkl))
  have c59 := zq (h := h) H PT (n := n) (by omega)
  rw [hv] at hq2
  have h2 := zm n
  rw [hd]
  have hb : Nat.beq (k + 1) 0 = false := rfl
  by_cases hk0 : k = 0
  · have o22 : ab K.P .gtr 3 (.nu .i64 (.ofNat k)) (.nu .i64 0) = some (.bo false) := by
     have := kX (P := K.P) (t := 3) k 0
     rw [fb (by omega)] at this; exact this
    obtain ⟨s1, r1, k0, k4, k3, k5, ks⟩ : ∃ s1, eR K [1, 1, 0, 1, 0, 0, 1, 0, 0, 0, 1, 0, 0] s h .normal s1 h ∧ s1.at 0 = x ∧ s1.at 4 = .nu .i64 (.ofNat i) ∧ s1.at 3 = .st (T0 ++ dg n) ∧ s1.at 5 = .nu .i64 (.ofNat (k + 1)) ∧ s1.at ah = .undef :=
     ⟨_, mE H.hk H.prim PT s5 s0 s4 s3 hp1 hp2 hlen (aJ hkl) o22 hq1 hq2 c59 (zp (by omega)) (bh (by omega)), s0, s4, rfl, rfl, hs⟩
    obtain ⟨s', r2, e0, e4, e3, es⟩ := ih (k + 1) s1 _ (by omega) (by simp only [List.length_append]; omega) k0 k4 k3 k5 ks
    refine ⟨s', Runs.loop r1 r2, e0, e4, ?_, es⟩
    rw [e3, hb, show Nat.beq k 0 = true by rw [hk0]; rfl]
    unfold bR
    rw [hvn]
    cases hq : l[i].drop (k + 1) with
    | nil => simp [bR]
    | cons _ _ => simp [bR]
  · have o22 : ab K.P .gtr 3 (.nu .i64 (.ofNat k)) (.nu .i64 0) = some (.bo true) := by
     have := kX (P := K.P) (t := 3) k 0
     rw [fS (by omega)] at this; exact this
    have o24 : ab K.P .add 9 (.st T0) (ofValue (.string ⟨#[32]⟩)) = some (.st (T0 ++ [32])) := zp (x := T0) (y := [32]) (by simp only [List.length_cons, List.length_nil]; omega)
    obtain ⟨s1, r1, k0, k4, k3, k5, ks⟩ : ∃ s1, eR K [1, 1, 0, 1, 0, 0, 1, 0, 0, 0, 1, 0, 0] s h .normal s1 h ∧ s1.at 0 = x ∧ s1.at 4 = .nu .i64 (.ofNat i) ∧ s1.at 3 = .st (T0 ++ [32] ++ dg n) ∧ s1.at 5 = .nu .i64 (.ofNat (k + 1)) ∧ s1.at ah = .undef :=
     ⟨_, mD H.hk H.prim PT s5 s0 s4 s3 hp1 hp2 hlen (aJ hkl) o22 o24 hq1 hq2 c59 (zp (by simp only [List.length_append, List.length_cons, List.length_nil]; omega)) (bh (by omega)), s0, s4, rfl, rfl, hs⟩
    obtain ⟨s', r2, e0, e4, e3, es⟩ := ih (k + 1) s1 _ (by omega) (by simp only [List.length_append, List.length_cons, List.length_nil]; omega) k0 k4 k3 k5 ks
    refine ⟨s', Runs.loop r1 r2, e0, e4, ?_, es⟩
    rw [e3, hb, show Nat.beq k 0 = false from mQ hk0]
    show _ = CV.st (T0 ++ ([32] ++ dg (l[i][k]).toNat ++ bR false (l[i].drop (k + 1))))
    rw [hvn]; simp
theorem GX (H : Std K) (PT : ck K) {xs : List CV} {l : List (List Int)} {x : CV} (hx : Row h x xs) (hxs : Rows h xs l) (hl : l.length < 1099511627776) (ht : Txt l) : ∀ (m i : Nat) (s : Fr) (T0 : List Nat), i + m = l.length → T0.length + 100 * m < 4611686018427387904 → s.at 0 = x → s.at 4 = .nu .i64 (.ofNat i) → s.at 3 = .st T0 → s.at ah = .undef →
  ∃ s', eR K [1, 1, 0, 1, 0] s h (.exit 0) s' h ∧ s'.at 3 = .st (T0 ++ dl (l.drop i)) ∧ s'.at ah = .undef := by
 have hcl := hxs.length
 have hlen := cL H hx
 rw [hcl] at hlen
 intro m
 induction m with
 | zero =>
  intro i s T0 hi hT s0 s4 s3 hs
  refine ⟨_, aD (ax (uz H.hk H.prim PT s4 s0 hlen (aS (by omega))) (by simp)) (by simp), ?_, hs⟩
  rw [List.drop_of_length_le (by omega)]
  simp only [dl, List.flatMap_nil, List.append_nil]; exact s3
 | succ m ih =>
  intro i s T0 him hT s0 s4 s3 hs
  have hi : i < l.length := by omega
  have hd : l.drop i = l[i] :: l.drop (i + 1) := List.drop_eq_getElem_cons hi
  have ha := ht _ (List.getElem_mem hi)
  obtain ⟨s1, r1, k0, k4, k3, k5, ks⟩ : ∃ s1 : Fr, (∀ {e s' h'}, eR K [1, 1, 0, 1, 0, 0, 1] (T.set (T.set (T.set (T.set s 6 (.nu .i64 (.ofNat i))) 7 x) 8 (.nu .i64 (.ofNat l.length))) 9 (.bo true)) h e s' h' → eR K [1, 1, 0, 1, 0, 0] s h e s' h') ∧ s1 = T.set (T.set (T.set (T.set (T.set s 6 (.nu .i64 (.ofNat i))) 7 x) 8 (.nu .i64 (.ofNat l.length))) 9 (.bo true)) 5 (.nu .i64 0) ∧ s1.at 0 = x ∧ s1.at 4 = .nu .i64 (.ofNat i) ∧ s1.at 3 = .st T0 ∧ s1.at ah = .undef :=
   ⟨_, fun r => Runs.seq (uy H.hk H.prim PT s4 s0 hlen (aJ hi)) r, rfl, s0, s4, s3, hs⟩
  have hll := jg l[i] true
  subst k0
  obtain ⟨s2, r2, e0, e4, e3, es⟩ := wZ H PT hx hxs hi ha l[i].length 0 _ T0 (by omega) (by omega) k4 k3 k5 rfl ks
  rw [List.drop_zero] at e3
  have o36 : ab K.P .add 9 (.st (T0 ++ bR (Nat.beq 0 0) l[i])) (ofValue (.string ⟨#[10]⟩)) = some (.st (T0 ++ bR true l[i] ++ [10])) := zp (x := T0 ++ bR true l[i]) (y := [10]) (by simp only [List.length_append, List.length_cons, List.length_nil]; omega)
  obtain ⟨s3', r3, g0, g4, g3, gs⟩ : ∃ s3', eR K [1, 1, 0, 1, 0, 0] s h .normal s3' h ∧ s3'.at 0 = x ∧ s3'.at 4 = .nu .i64 (.ofNat (i + 1)) ∧ s3'.at 3 = .st (T0 ++ bR true l[i] ++ [10]) ∧ s3'.at ah = .undef :=
   ⟨_, r1 (Runs.seq (au (Runs.seq (Runs.seq (OJ H.hk) (aO r2)) (Ld H.hk e3 o36))) (OL H.hk e4 (bh (by omega)))), e0, rfl, rfl, es⟩
  obtain ⟨s', r4, p3, ps⟩ := ih (i + 1) s3' _ (by omega) (by simp only [List.length_append, List.length_cons, List.length_nil]; omega) g0 g4 g3 gs
  refine ⟨s', Runs.loop r3 r4, ?_, ps⟩
  rw [p3, hd, show dl (l[i] :: l.drop (i + 1)) = (bR true l[i] ++ [10]) ++ dl (l.drop (i + 1)) from rfl]
  simp only [List.append_assoc]
theorem Dp (H : Std K) (PT : ck K) {xs : List CV} {l : List (List Int)} {x : CV} (hx : Row h x xs) (hxs : Rows h xs l) (hl : l.length < 1099511627776) (ht : Txt l) : Comes K 18 [x] h (.st (dl l)) h := by
 have hf : K.P.funcs[18]? = some Tryz.f18 := by rw [H.hP]; exact Tryz.func18
 obtain ⟨s', r, h3, hs⟩ := GX H PT hx hxs hl ht l.length 0 (T.set (T.set (T.set (entry 0 [x]) 2 (ofValue (.string ⟨#[]⟩))) 3 (ofValue (.string ⟨#[]⟩))) 4 (.nu .i64 0)) [] (by omega) (by simp; omega) rfl rfl rfl rfl
 rw [List.drop_zero, List.nil_append] at h3
 exact H.go hf (Runs.seq (OG H.hk) (Runs.seq (OH H.hk) (Runs.seq (Runs.seq (OI H.hk) (aO r)) (H9 H.hk H.prim PT h3)))) (.inr rfl) (Nat.le_refl _) hs rfl rfl
end
theorem zr : ae Tryz.prog 82 = .ptr 85 := by kernel_rfl
theorem Jt : ae Tryz.prog 83 = .slice 5 1 1 [.nu .u8 0] := by kernel_rfl
theorem Rd : ae Tryz.prog 85 = .strct [(0, 1, false), (1, 1, false)] [.nilp, .nils] := by kernel_rfl
theorem Dq : ae Tryz.prog 162 = .uptr := by kernel_rfl
theorem Qx : ae Tryz.prog 135 = .ptr 5 := by kernel_rfl
theorem Re : ar Tryz.prog 82 = some (1, false) := by kernel_rfl
theorem Rg : ar Tryz.prog 83 = some (1, false) := by kernel_rfl
theorem Qy : ar Tryz.prog 85 = some (2, true) := by kernel_rfl
theorem RB : dx Tryz.prog 85 = some (.agg [.nilp, .nils]) := by kernel_rfl
theorem c5 : Tryz.prog.cellsOf 5 = 1 := by kernel_rfl
theorem Qz : liesAt Tryz.prog Tryz.prog.depth 85 (2 / Tryz.prog.cellsOf 85) 0 85 1 = true := by kernel_rfl
def dY (t : List Nat) : List CV := t.map fun c => .nu .u8 (.ofNat c)
theorem j2 (t : List Nat) : (dY t).length = t.length := by simp [dY]
theorem BW (t u : List Nat) : dY (t ++ u) = dY t ++ dY u := by simp [dY]
theorem Mp (t : List Nat) : (dY t).all CV.one = true := by simp [dY, CV.one]
theorem RunL.prim {K : Ctx} {s s2 : Fr} {h h2 : Hp} {ops : Array Oper} {o : Oper} {l : List Oper} {v : CV} {cl : Call} {g : Operand} {f : FuncId} {caps args : List CV} (hw : cm ops o s = some true) (ho : o.op = .call cl) (hc : cl.callee = .value g) (hg : ev s g = .fn f caps) (ha : cl.args.toList.map (ev s) ++ caps = args) (hp : K.prim f args = some v) (rest : RunL K ops l (Fr.putO s o.dst v) h s2 h2) : RunL K ops (o :: l) s h s2 h2 := by
 obtain ⟨N, r⟩ := rest
 refine ⟨N, fun d fu hd hfu => ?_⟩
 simp only [eG, hw, gf, ho, hc, hg, ha, hp, r d fu hd hfu]
section
variable {K : Ctx} {h : Hp}
theorem GY (hP : K.P = Tryz.prog) {k : Nat} {a b : CV} (hg : h.get k = .cells [a, b] 0 85) : cS 0 (.ptr k 0) (ae K.P 85) = some (.ptr k 0) ∧ al h (.ptr k 0) (ar K.P 82) = some a := by
 rw [hP, Rd, Re]
 refine ⟨rfl, ?_⟩
 show eT 0 1 false (h.get k) = _
 rw [hg]; rfl
theorem zt (hP : K.P = Tryz.prog) {k : Nat} {a b : CV} (hg : h.get k = .cells [a, b] 0 85) : cS 1 (.ptr k 0) (ae K.P 85) = some (.ptr k 1) ∧ al h (.ptr k 1) (ar K.P 83) = some b := by
 rw [hP, Rd, Rg]
 refine ⟨rfl, ?_⟩
 show eT 1 1 false (h.get k) = _
 rw [hg]; rfl
theorem Mq (hP : K.P = Tryz.prog) {k : Nat} {a b x : CV} (hg : h.get k = .cells [a, b] 0 85) (hx : x.one = true) : bC h (.ptr k 0) x (ar K.P 82) = some (.undef, h.set k (.cells [x, b] 0 85)) := by
 rw [hP, Re]
 have hc := er hx
 have hs : x.sol = true := by simp [CV.sol, hc, hx]
 have h1l : Nat.ble (0 + 1) [a, b].length = true := rfl
 have hset : setAt [a, b] 0 [x] = [x, b] := rfl
 simp only [bC, hg, ec, hs, hc, List.length_cons, List.length_nil, Nat.beq_refl, hset, Bool.and_self, Nat.zero_add]
 rfl
theorem BX (hP : K.P = Tryz.prog) {k : Nat} {a b x : CV} (hg : h.get k = .cells [a, b] 0 85) (hx : x.one = true) : bC h (.ptr k 1) x (ar K.P 83) = some (.undef, h.set k (.cells [a, x] 0 85)) := by
 rw [hP, Rg]
 have hc := er hx
 have hs : x.sol = true := by simp [CV.sol, hc, hx]
 have hset : setAt [a, b] 1 [x] = [a, x] := rfl
 simp only [bC, hg, ec, hs, hc, List.length_cons, List.length_nil, Nat.beq_refl, hset, Bool.and_self, Nat.zero_add]
 rfl
theorem GZ (hk : ∀ o, HK.keep o = false) (hP : K.P = Tryz.prog) (hm : K.memo 108 = []) (hsp : ∀ args h, K.spec 108 args h = none) (hpr : ∀ x, K.prim 136 [x] = some x) {k : Nat} {b : CV} (hg : h.get k = .cells [.nilp, b] 0 85) : Comes K 108 [.ptr k 0] h (.tup []) (h.set k (.cells [.ptr k 0, b] 0 85)) := by
 have hf : K.P.funcs[108]? = some Tryz.f108 := by rw [hP]; exact Tryz.func108
 obtain ⟨o4, o5⟩ := GY (K := K) hP hg
 have o6 : ab K.P .eql 82 .nilp .nilp = some (.bo true) := by
  rw [hP]
  have : lg Tryz.prog 82 .nilp .nilp = some true := by simp only [lg, zr]; rfl
  simp only [ab, lQ, this]
 have l9 : eH K.P (.ptr k 0) (ae K.P 82) (ae K.P 162) = none := by rw [hP, zr, Dq]; rfl
 have o9 : eU K.P h (.ptr k 0) (ae K.P 82) (ae K.P 162) = some (.ptr k 0) := by
  rw [hP, zr, Dq]
  have hb : Nat.blt 0 [CV.nilp, b].length = true := rfl
  simp only [eU, G8, Qy, hg, Mu, hb]
  rfl
 have l11 : eH K.P (.ptr k 0) (ae K.P 162) (ae K.P 82) = none := by rw [hP, zr, Dq]; rfl
 have o11 : eU K.P h (.ptr k 0) (ae K.P 162) (ae K.P 82) = some (.ptr k 0) := by
  rw [hP, zr, Dq]
  have hl : [CV.nilp, b].length = 2 := rfl
  simp only [eU, xv, Qy, hg, w9, hl, Qz]
  rfl
 have r1 : H2 K [1, 0] (T.set (T.set (T.set (T.set (T.set (entry 0 [.ptr k 0]) 2 (.ptr k 0)) 3 (.ptr k 0)) 4 (.ptr k 0)) 5 .nilp) 6 (.bo true)) h .normal (T.set (T.set (T.set (T.set (T.set (T.set (T.set (T.set (T.set (T.set (T.set (T.set (entry 0 [.ptr k 0]) 2 (.ptr k 0)) 3 (.ptr k 0)) 4 (.ptr k 0)) 5 .nilp) 6 (.bo true)) 7 (.ptr k 0)) 8 (.ptr k 0)) 9 (.ptr k 0)) 10 (.ptr k 0)) 11 (.ptr k 0)) 12 (.ptr k 0)) 13 (.ptr k 0)) (h.set k (.cells [.ptr k 0, b] 0 85)) := by
  refine Runs.region ?_
  refine RunL.op (v := .ptr k 0) rfl (Q1.e (aQ rfl rfl)) ?_
  refine RunL.op (v := .ptr k 0) rfl (Q1.e (aQ rfl rfl)) ?_
  refine RunL.op (v := .ptr k 0) rfl (Q1.e (sj rfl rfl l9 o9)) ?_
  refine RunL.prim (v := .ptr k 0) rfl rfl rfl rfl rfl (hpr _) ?_
  refine RunL.op (v := .ptr k 0) rfl (Q1.e (sj rfl rfl l11 o11)) ?_
  refine RunL.op (v := .ptr k 0) rfl (Q1.e (jG rfl rfl rfl)) ?_
  refine RunL.op (v := .ptr k 0) rfl (Q1.e (nq rfl rfl o4)) ?_
  refine RunL.op (v := .undef) rfl (eM rfl rfl rfl (Mq hP hg rfl)) ?_
  exact RunL.nil
 exact cR hf rfl hm hsp rfl (Runs.seq (Bp hk rfl rfl o4 o5 o6) (Runs.condT rfl r1)) (.inl rfl) (Nat.le_refl _) rfl rfl rfl
theorem Dr (hk : ∀ o, HK.keep o = false) (hP : K.P = Tryz.prog) (hm : K.memo 108 = []) (hsp : ∀ args h, K.spec 108 args h = none) {k : Nat} {b : CV} (hg : h.get k = .cells [.ptr k 0, b] 0 85) : Comes K 108 [.ptr k 0] h (.tup []) h := by
 have hf : K.P.funcs[108]? = some Tryz.f108 := by rw [hP]; exact Tryz.func108
 obtain ⟨o4, o5⟩ := GY (K := K) hP hg
 have o6 : ab K.P .eql 82 (.ptr k 0) .nilp = some (.bo false) := by
  rw [hP]
  have : lg Tryz.prog 82 (.ptr k 0) .nilp = some false := by simp only [lg, zr]; rfl
  simp only [ab, lQ, this]
 have o19 : ab K.P .neq 82 (.ptr k 0) (.ptr k 0) = some (.bo false) := by
  rw [hP]
  have : lg Tryz.prog 82 (.ptr k 0) (.ptr k 0) = some true := by
   simp only [lg, zr, Qy, IZ, Nat.beq_refl]
   rfl
  simp only [ab, lQ, this]
  rfl
 exact cR hf rfl hm hsp rfl (Runs.seq (Bp hk rfl rfl o4 o5 o6) (Runs.condF rfl (Runs.seq (Lu hk rfl rfl o4 o5 o19) (Runs.condF rfl Runs.skip)))) (.inl rfl) (Nat.le_refl _) rfl rfl rfl
end
def j4 (args : List CV) (h : Hp) : Option (CV × Hp) := match args with
 | [.ptr k 0] => match h.get k with
  | .cells [.nilp, b] 0 85 => some (.tup [], h.set k (.cells [.ptr k 0, b] 0 85))
  | .cells [.ptr k' 0, _] 0 85 => if k' = k then some (.tup [], h) else none
  | _ => none
 | _ => none
theorem w7 {K : Ctx} (hk : ∀ o, HK.keep o = false) (hP : K.P = Tryz.prog) (hm : K.memo 108 = []) (hsp : ∀ args h, K.spec 108 args h = none) (hpr : ∀ x, K.prim 136 [x] = some x) {args : List CV} {h h' : Hp} {r : CV} (hs : j4 args h = some (r, h')) : Comes K 108 args h r h' := by
 unfold j4 at hs
 split at hs
 · rename_i k
   split at hs
   · rename_i b hg
     injection hs with hs
     obtain ⟨rfl, rfl⟩ := Prod.mk.inj hs
     exact GZ hk hP hm hsp hpr hg
   · rename_i k' b hg
     split at hs
     · rename_i hkk
       subst hkk
       injection hs with hs
       obtain ⟨rfl, rfl⟩ := Prod.mk.inj hs
       exact Dr hk hP hm hsp hg
     · cases hs
   · cases hs
 · cases hs
def gM (K : Ctx) : Prop := ∀ args h, K.spec 108 args h = j4 args h
structure oh (h : Hp) (k : Nat) (t : List Nat) : Prop where
 ex : ∃ a b, h.get k = .cells [a, b] 0 85 ∧ (a = .nilp ∨ a = .ptr k 0) ∧ Out (k + 1) h 5 b (dY t)
theorem Out.setO {N k el : Nat} {h : Hp} {x : CV} {cs : List CV} (hk : k < N) (b : HB) (r : Out N h el x cs) : Out N (h.set k b) el x cs := by
 cases r with
 | nils => exact .nils
 | @some j cs hj hn hne hs => exact .some hj hn hne (by rw [Hp.get_set, if_neg (by omega)]; exact hs)
theorem IX {N el bytes : Nat} {h : Hp} {z : List CV} {x : CV} {cs : List CV} {ys : List Nat} (ok : HpOk h) (hNn : N ≤ h.n) (r : Out N h el x cs) (hne : ys ≠ []) (hz : z.length = 1) (hb : (cs.length + ys.length) * bytes ≤ 70368744177664) (hn : cs.length + ys.length ≤ 4611686018427387904) :
  ∃ x' h', aT h x (.st ys) (.slice el 1 bytes z) .str = Option.some (x', h') ∧ Out N h' el x' (cs ++ dY ys) ∧ Same N h h' ∧ HpOk h' := by
 have hyl := j2 ys
 have hyne : dY ys ≠ [] := by
  intro e; rw [e] at hyl; exact hne (List.eq_nil_of_length_eq_zero hyl.symm)
 have hm : Nat.beq ys.length 0 = false := by
  cases ys with
  | nil => exact absurd rfl hne
  | cons a l => rfl
 have hx : CP.lenV x = cs.length := r.row.lenV
 have hc : ((dY ys).all CV.one && Nat.beq z.length 1 && Nat.blt 0 1 && Nat.ble ((CP.lenV x + ys.length) * bytes) 70368744177664 && Nat.ble (CP.lenV x + ys.length) 4611686018427387904) = true := by
  rw [Mp, hz, hx, Nat.ble_eq_true_of_le hb, Nat.ble_eq_true_of_le hn]; rfl
 have h1 : aT h x (.st ys) (.slice el 1 bytes z) .str = eV h el 1 x (dY ys) ys.length := by
  have h2 : aT h x (.st ys) (.slice el 1 bytes z) .str = gO h el 1 bytes z x ys.length (Option.some (dY ys)) := rfl
  rw [h2]
  simp only [gO, hc]
 rw [h1]
 have fin : ∀ h2 : Hp, h2.n = h.n → HpOk h2 → Same N h h2 → Out N (h2.push (.cells (cs ++ dY ys) 1 el)) el (.sl h.n 0 (cs.length + ys.length) (cs.length + ys.length)) (cs ++ dY ys) ∧ Same N h (h2.push (.cells (cs ++ dY ys) 1 el)) ∧ HpOk (h2.push (.cells (cs ++ dY ys) 1 el)) := by
  intro h2 hn2 bk S2
  refine ⟨?_, S2.trans (Same.push (by omega) _), bk.push _⟩
  have := Out.some (N := N) (h := h2.push (.cells (cs ++ dY ys) 1 el)) (el := el) (k := h.n) (cs := cs ++ dY ys) hNn (by simp; omega) (by simp [hyne]) (by rw [ai, if_pos hn2.symm])
  rw [List.length_append, hyl] at this
  exact this
 cases r with
 | nils =>
  refine ⟨.sl h.n 0 ys.length ys.length, h.push (.cells (dY ys) 1 el), by simp only [eV, hm], ?_⟩
  have := fin h rfl ok (Same.refl N h)
  simpa using this
 | @some k cs hk hkn hcne hs =>
  have h0 : Nat.ble (cs.length + ys.length) cs.length = false := by
   cases hq : Nat.ble (cs.length + ys.length) cs.length with
   | false => rfl
   | true =>
    have := br hq
    have : ys.length = 0 := by omega
    exact absurd (List.eq_nil_of_length_eq_zero this) hne
  have h2 : Nat.ble (0 + cs.length * 1) cs.length = true := Nat.ble_eq_true_of_le (by omega)
  have h3 : fv cs 1 0 cs.length = false := by
   simp only [fv, Nat.zero_add, Nat.mul_one, Nat.beq_refl, Bool.not_true, Bool.or_false]; rfl
  have h4 : sub cs 0 (cs.length * 1) = cs := by simp [sub]
  refine ⟨.sl h.n 0 (cs.length + ys.length) (cs.length + ys.length), (h.set k .dead).push (.cells (cs ++ dY ys) 1 el), ?_, fin (h.set k .dead) rfl (ok.set hkn _) (Same.set hk _)⟩
  simp only [eV, hm, h0, hs, iS, h2, h3, Nat.beq_refl, Bool.and_self, h4]
section
variable {K : Ctx} {h : Hp}
theorem fP {cs : List CV} {m e k : Nat} (ok : HpOk h) (hg : h.get k = .cells cs m e) : k < h.n := by
 rcases Nat.lt_or_ge k h.n with h1 | h1
 · exact h1
 · rw [ok k h1] at hg; cases hg
theorem wv (H : Std K) (T : gM K) (ok : HpOk h) {k : Nat} {t : List Nat} (B : oh h k t) : ∃ h' b, Comes K 108 [.ptr k 0] h (.tup []) h' ∧ HpOk h' ∧ Same k h h' ∧ h'.get k = .cells [.ptr k 0, b] 0 85 ∧ Out (k + 1) h' 5 b (dY t) := by
 obtain ⟨a, b, hg, ha, ho⟩ := B.ex
 have hkn := fP ok hg
 rcases ha with rfl | rfl
 · refine ⟨h.set k (.cells [.ptr k 0, b] 0 85), b, Comes.told (H.memo 108 (by decide)) (by rw [T]; simp only [j4, hg]), ok.set hkn _, Same.set (Nat.le_refl _) _, by rw [Hp.get_set, if_pos rfl], ho.setO (Nat.lt_succ_self k) _⟩
 · exact ⟨h, b, Comes.told (H.memo 108 (by decide)) (by rw [T]; simp only [j4, hg, if_true]), ok, Same.refl _ _, hg, ho⟩
theorem ww (H : Std K) (T : gM K) (ok : HpOk h) {k : Nat} {t : List Nat} (ht : t.length < 1000000) (B : oh h k t) (c : Nat) : ∃ r h', Comes K 61 [.ptr k 0, .nu .u8 (.ofNat c)] h r h' ∧ HpOk h' ∧ Same k h h' ∧ oh h' k (t ++ [c]) := by
 have hf : K.P.funcs[61]? = some Tryz.f61 := by rw [H.hP]; exact Tryz.func61
 obtain ⟨s0, r0, a0, a1, as0⟩ : ∃ s', A6 K [0] (entry 0 [.ptr k 0, .nu .u8 (.ofNat c)]) h .normal s' h ∧ s'.at 0 = .ptr k 0 ∧ s'.at 1 = .nu .u8 (.ofNat c) ∧ s'.at ah = .undef :=
  ⟨_, Runs.region (RunL.op rfl (Q1.e (dR rfl rfl)) RunL.nil), rfl, rfl, rfl⟩
 obtain ⟨h1, b, c108, bP, S1, hg1, ho1⟩ := wv H T ok B
 have hkn1 := fP bP hg1
 obtain ⟨s1, r1, b0, b1, bs1⟩ : ∃ s', A6 K [1, 0] s0 h .normal s' h1 ∧ s'.at 0 = .ptr k 0 ∧ s'.at 1 = .nu .u8 (.ofNat c) ∧ s'.at ah = .undef :=
  ⟨_, O8 H.hk a0 (H.prim _ _) c108, a0, a1, as0⟩
 obtain ⟨o10, o11⟩ := zt (K := K) H.hP hg1
 obtain ⟨F, Bl, x', h2, l1, w1, ho2, S2, bk⟩ := nE (P := K.P) (t := 83) (v := .nu .u8 (.ofNat c)) (by rw [H.hP]; exact Jt) bP hkn1 ho1 rfl (by decide) (by rw [j2]; omega)
 have hg2 : h2.get k = .cells [.ptr k 0, b] 0 85 := by rw [S2.get k (Nat.lt_succ_self k)]; exact hg1
 have hkn2 := fP bk hg2
 have w2 := BX (K := K) H.hP hg2 (x := x') ho2.row.one
 obtain ⟨s2, r2, cs2⟩ : ∃ s', A6 K [1, 1, 0] s1 h1 .normal s' (h2.set k (.cells [.ptr k 0, x'] 0 85)) ∧ s'.at ah = .undef :=
  ⟨_, O9 H.hk b0 b1 rfl o10 o11 l1 w1 w2, bs1⟩
 obtain ⟨s3, r3, ds3⟩ : ∃ s', A6 K [1, 1, 1, 0] s2 (h2.set k (.cells [.ptr k 0, x'] 0 85)) .normal s' (h2.set k (.cells [.ptr k 0, x'] 0 85)) ∧ s'.at ah = .undef :=
  ⟨_, Runs.region (RunL.op rfl (Q1.e (dR rfl rfl)) RunL.nil), cs2⟩
 have Sall : Same k h (h2.set k (.cells [.ptr k 0, x'] 0 85)) := (S1.trans (S2.le (Nat.le_succ k))).trans (Same.set (Nat.le_refl _) _)
 refine ⟨_, _, H.go hf (Runs.seq r0 (Runs.seq r1 (Runs.seq r2 (Runs.seq r3 Runs.ret)))) (.inr rfl) Sall.n ds3 rfl rfl, bk.set hkn2 _, Sall, ⟨.ptr k 0, x', by rw [Hp.get_set, if_pos rfl], .inr rfl, ?_⟩⟩
 rw [BW]
 exact ho2.setO (Nat.lt_succ_self k) _
theorem zu (H : Std K) (T : gM K) (ok : HpOk h) {k : Nat} {t u : List Nat} (ht : t.length < 1000000) (hu : u.length < 1000000) (hne : u ≠ []) (B : oh h k t) : ∃ r h', Comes K 62 [.ptr k 0, .st u] h r h' ∧ HpOk h' ∧ Same k h h' ∧ oh h' k (t ++ u) := by
 have hf : K.P.funcs[62]? = some Tryz.f62 := by rw [H.hP]; exact Tryz.func62
 obtain ⟨s0, r0, a0, a1, as0⟩ : ∃ s', A7 K [0] (entry 0 [.ptr k 0, .st u]) h .normal s' h ∧ s'.at 0 = .ptr k 0 ∧ s'.at 1 = .st u ∧ s'.at ah = .undef :=
  ⟨_, Runs.region (RunL.op rfl (Q1.e (dR rfl rfl)) (RunL.op rfl (Q1.e (dR rfl rfl)) RunL.nil)), rfl, rfl, rfl⟩
 obtain ⟨h1, b, c108, bP, S1, hg1, ho1⟩ := wv H T ok B
 have hkn1 := fP bP hg1
 obtain ⟨s1, r1, b0, b1, bs1⟩ : ∃ s', A7 K [1, 0] s0 h .normal s' h1 ∧ s'.at 0 = .ptr k 0 ∧ s'.at 1 = .st u ∧ s'.at ah = .undef :=
  ⟨_, Pa H.hk a0 (H.prim _ _) c108, a0, a1, as0⟩
 obtain ⟨o10, o11⟩ := zt (K := K) H.hP hg1
 obtain ⟨x', h2, w1, ho2, S2, bk⟩ := IX (bytes := 1) (z := [.nu .u8 0]) bP hkn1 ho1 hne rfl (by rw [j2]; omega) (by rw [j2]; omega)
 have w1' : aT h1 b (.st u) (ae K.P 83) (ae K.P 9) = some (x', h2) := by rw [H.hP, Jt, t9]; exact w1
 have hg2 : h2.get k = .cells [.ptr k 0, b] 0 85 := by rw [S2.get k (Nat.lt_succ_self k)]; exact hg1
 have hkn2 := fP bk hg2
 have w2 := BX (K := K) H.hP hg2 (x := x') ho2.row.one
 obtain ⟨s2, r2, c1, cs2⟩ : ∃ s', A7 K [1, 1, 0] s1 h1 .normal s' (h2.set k (.cells [.ptr k 0, x'] 0 85)) ∧ s'.at 1 = .st u ∧ s'.at ah = .undef :=
  ⟨_, Pb H.hk b0 b1 rfl o10 o11 w1' w2, b1, bs1⟩
 obtain ⟨s3, r3, ds3⟩ : ∃ s', A7 K [1, 1, 1, 0] s2 (h2.set k (.cells [.ptr k 0, x'] 0 85)) .normal s' (h2.set k (.cells [.ptr k 0, x'] 0 85)) ∧ s'.at ah = .undef :=
  ⟨_, Runs.region (RunL.op (v := .st u) rfl (Q1.e (aQ rfl c1)) (RunL.op (v := .nu .i64 (.ofNat u.length)) rfl (Q1.e (aH rfl rfl rfl rfl rfl (bG H u))) (RunL.op rfl (Q1.e (dR rfl rfl)) (RunL.op rfl (Q1.e (dR rfl rfl)) RunL.nil)))), cs2⟩
 have Sall : Same k h (h2.set k (.cells [.ptr k 0, x'] 0 85)) := (S1.trans (S2.le (Nat.le_succ k))).trans (Same.set (Nat.le_refl _) _)
 refine ⟨_, _, H.go hf (Runs.seq r0 (Runs.seq r1 (Runs.seq r2 (Runs.seq r3 Runs.ret)))) (.inr rfl) Sall.n ds3 rfl rfl, bk.set hkn2 _, Sall, ⟨.ptr k 0, x', by rw [Hp.get_set, if_pos rfl], .inr rfl, ?_⟩⟩
 rw [BW]
 exact ho2.setO (Nat.lt_succ_self k) _
end
theorem QA {K : Ctx} {o : Oper} {s : Fr} {h : Hp} {x : Operand} {a v : CV} {cl : Call} (ho : o.op = .call cl) (hc : cl.callee = .builtin .unsafeSliceData) (ha : cl.args.toList = [x]) (hx : ev s x = a) (hr : pO a = some v) : Q1 K o s h v := ⟨by simp [bJ, ho], by simp only [qX, ho, ll, hc, fB, ha, ow, hx, hr], by rintro c g h1; rw [ho] at h1; injection h1 with h1; subst h1; simp [hc]⟩
theorem QB {K : Ctx} {o : Oper} {s : Fr} {h h1 : Hp} {x y : Operand} {a b v : CV} {t t' : TypeId} {cl : Call} (ho : o.op = .call cl) (hc : cl.callee = .builtin .unsafeString) (ha : cl.args.toList = [x, y]) (ht : cl.argTypes.toList = [t, t']) (hx : ev s x = a) (hy : ev s y = b) (hr : mU K.P h a b (ae K.P t) = some (v, h1)) : E1 K o s h v h1 := E1.wr (by simp [qX, ho, ll, hc, fB]) (by simp [bJ, ho]) (by rintro c g h1; rw [ho] at h1; injection h1 with h1; subst h1; simp [hc]) (by simp only [wX, ho, j7, hc, j6, ha, ht, hx, hy, hr])
theorem QC {K : Ctx} {s : Fr} {h : Hp} {v0 r5 r6 r7 r12 r13 : CV} {g1 : Hp} (hp : K.plan 64 1 = some [.t 0,.t 1,.t 2,.t 3,.t 5,.t 6,.t 7,.t 8,.t 9,.o 4 [9, 8, 7, 6, 5],.o 10 [],.o 11 []]) (m83 : B7 (ae K.P 83) = false) (i0 : s.at 0 = v0) (o4 : mS v0 = some v0) (o5 : cS 1 v0 (ae K.P 85) = some r5) (o6 : al h r5 (ar K.P 83) = some r6) (q6 : ceq r6 r6 = true) (o12 : aj h r6 (ae K.P 83) = some r12) (o7 : pO r6 = some r7) (w13 : mU K.P h r7 r12 (ae K.P 135) = some (r13, g1)) :
  Q8 K [1, 0] s h .normal (T.set (T.set (T.set (T.set (T.set (T.set (T.set (T.set (T.set (T.set (T.set (T.set s 3 v0) 4 v0) 5 r5) 6 r6) 8 v0) 9 v0) 10 r5) 11 r6) 12 r12) 7 r7) 13 r13) 2 r13) g1 := by
 refine Runs.drawn hp ?_
 refine RunP.q (v := v0) rfl rfl (aQ rfl i0) ?_
 refine RunP.q (v := v0) rfl rfl (jG rfl rfl o4) ?_
 refine RunP.q (v := r5) rfl rfl (nq rfl rfl o5) ?_
 refine RunP.q (v := r6) rfl rfl (aI rfl rfl o6) ?_
 refine RunP.q (v := v0) rfl rfl (aQ rfl i0) ?_
 refine RunP.q (v := v0) rfl rfl (jG rfl rfl o4) ?_
 refine RunP.q (v := r5) rfl rfl (nq rfl rfl o5) ?_
 refine RunP.q (v := r6) rfl rfl (aI rfl rfl o6) ?_
 refine RunP.q (v := r12) rfl rfl (aH rfl rfl rfl rfl rfl o12) ?_
 refine RunP.only (v := r7) rfl rfl (Q1.e (QA rfl rfl rfl rfl o7)) (by simp (decide := true) only [bF, bA, qX, ev, Fr.putO, aK, reduceIte, Nat.reduceEqDiff, List.filter_cons, List.filter_nil, List.any_cons, List.any_nil, List.all_cons, List.all_nil, List.getElem_toArray, List.getElem_cons_succ, List.getElem_cons_zero, Option.map_some, Option.map_none, Bool.and_true, Bool.true_and, Bool.and_self, o6, q6, m83]) ?_
 refine RunP.only (v := r13) rfl rfl (QB rfl rfl rfl rfl rfl rfl w13) rfl ?_
 refine RunP.only (v := r13) rfl rfl (Q1.e (dR rfl rfl)) rfl ?_
 exact RunP.nil
theorem zw : ∀ t : List Nat, (∀ c ∈ t, c < 256) → (dY t).all mT = true ∧ (dY t).map fh = t
 | [], _ => ⟨rfl, rfl⟩
 | c :: t, h => by
  obtain ⟨h1, h2⟩ := zw t (fun x hx => h x (by simp [hx]))
  have h3 : mT (.nu .u8 (.ofNat c)) = true := by
   have := h c (by simp)
   show Nat.blt c 256 = true
   simpa using this
  refine ⟨?_, ?_⟩
  · show ((CV.nu .u8 (.ofNat c)) :: dY t).all mT = true
    rw [List.all_cons, h3, h1]; rfl
  · show fh (.nu .u8 (.ofNat c)) :: (dY t).map fh = c :: t
    rw [h2]; rfl
section
variable {K : Ctx} {h : Hp}
theorem Ag (H : Std K) (PT : ck K) (ok : HpOk h) {k : Nat} {t : List Nat} (ht : t.length < 1000000) (hb : ∀ c ∈ t, c < 256) (B : oh h k t) : ∃ h', Comes K 64 [.ptr k 0] h (.st t) h' ∧ HpOk h' ∧ Same k h h' := by
 have hf : K.P.funcs[64]? = some Tryz.f64 := by rw [H.hP]; exact Tryz.func64
 obtain ⟨a, b, hg, ha, ho⟩ := B.ex
 obtain ⟨o10, o11⟩ := zt (K := K) H.hP hg
 have m83 : B7 (ae K.P 83) = false := by rw [H.hP, Jt]; rfl
 have hlen : aj h b (ae K.P 83) = some (.nu .i64 (.ofNat (dY t).length)) := by rw [H.hP, Jt]; exact ho.row.len
 have key : ∀ {r7 : CV} {g1 : Hp}, ceq b b = true → pO b = some r7 → mU K.P h r7 (.nu .i64 (.ofNat (dY t).length)) (ae K.P 135) = some (.st t, g1) → h.n ≤ g1.n → Comes K 64 [.ptr k 0] h (.st t) g1 := fun q6 o7 w hn =>
  H.go hf (Runs.seq (Pf H.hk) (Runs.seq (QC PT.p64_1 m83 (s := T.set (entry 0 [.ptr k 0]) 2 (ofValue (.string ⟨#[]⟩))) rfl rfl o10 o11 q6 hlen o7 w) Runs.ret)) (.inr rfl) hn rfl rfl rfl
 generalize hB : dY t = cs at ho hlen key
 cases ho with
 | nils =>
  have ht0 : t = [] := by
   have := j2 t
   rw [hB] at this
   exact List.eq_nil_of_length_eq_zero this.symm
  subst ht0
  exact ⟨h, key rfl rfl (by rw [H.hP, Qx]; rfl) (Nat.le_refl _), ok, Same.refl _ _⟩
 | @some j cs hj hjn hne hs =>
  obtain ⟨b1, b2⟩ := zw t hb
  rw [hB] at b1 b2
  have hl0 : Nat.beq cs.length 0 = false := by
   cases cs with
   | nil => exact absurd rfl hne
   | cons _ _ => rfl
  have hcl : cs.length = t.length := by rw [← hB, j2]
  have w : mU K.P h (.ptr j 0) (.nu .i64 (.ofNat cs.length)) (ae K.P 135) = some (.st t, h.set j (.fz cs)) := by
   rw [H.hP, Qx]
   have hsub : sub cs 0 cs.length = cs := by simp [sub]
   have hle : Nat.ble (0 + cs.length) cs.length = true := fb (by omega)
   have hle2 : Nat.ble cs.length 9223372036854775807 = true := fb (by omega)
   simp only [mU, hl0, hs, xw, c5, Nat.beq_refl, hsub, hle, hle2, b1, b2, Bool.and_self]
  exact ⟨_, key (xQ _ _ _ _) (by simp only [pO, hl0]) w (Nat.le_refl _), ok.set hjn _, Same.set (by omega) _⟩
theorem tE (v : Int) : ∀ (a : List Int) (b : Bool), bR b (a ++ [v]) = bR b a ++ (if b && a.isEmpty then [] else [32]) ++ dg v.toNat
 | [], b => by cases b <;> simp [bR]
 | x :: a, b => by
  show (if b then [] else [32]) ++ dg x.toNat ++ bR false (a ++ [v]) = _
  rw [tE v a false]
  simp [bR]
theorem Ju (n : Nat) : dg n ≠ [] := by unfold dg; split <;> simp
theorem Mr {n : Nat} (hn : n < 64) : ∀ c ∈ dg n, c < 256 := by
 unfold dg
 split
 · intro c hc; rw [List.mem_singleton] at hc; omega
 · intro c hc
   simp only [List.mem_cons, List.not_mem_nil, or_false] at hc
   omega
theorem tF : ∀ (a : List Int) (b : Bool), (∀ v ∈ a, 0 ≤ v ∧ v < 64) → ∀ c ∈ bR b a, c < 256
 | [], b, _, c, hc => by simp [bR] at hc
 | v :: a, b, h, c, hc => by
  have hv := h v (by simp)
  have ih := tF a false (fun x hx => h x (by simp [hx]))
  have hc' : c ∈ (if b then [] else [32]) ++ dg v.toNat ++ bR false a := hc
  rw [List.mem_append, List.mem_append] at hc'
  rcases hc' with (hc | hc) | hc
  · cases b
    · simp at hc; omega
    · simp at hc
  · exact Mr (by omega) c hc
  · exact ih c hc
theorem Ds {l : List (List Int)} (h : Txt l) : ∀ c ∈ dl l, c < 256 := by
 intro c hc
 obtain ⟨a, ha, hc⟩ := List.mem_flatMap.1 hc
 rcases List.mem_append.1 hc with hc | hc
 · exact tF a true (h a ha).2 c hc
 · rw [List.mem_singleton] at hc; omega
theorem pK : ∀ {l : List (List Int)}, Txt l → (dl l).length ≤ 49 * l.length
 | [], _ => by simp [dl]
 | a :: l, h => by
  have h1 := pK (l := l) (fun x hx => h x (by simp [hx]))
  have h2 := jg a true
  have h3 := (h a (by simp)).1
  have e : dl (a :: l) = bR true a ++ [10] ++ dl l := rfl
  rw [e]
  simp only [List.length_append, List.length_cons, List.length_nil]
  omega
theorem Dt (l : List (List Int)) (a : List Int) : dl (l ++ [a]) = dl l ++ (bR true a ++ [10]) := by simp [dl]
theorem Txt.take {l : List (List Int)} (h : Txt l) (i : Nat) : Txt (l.take i) := fun a ha => h a (List.mem_of_mem_take ha)
theorem Ah (H : Std K) (T8 : gM K) (PT : ck K) {k : Nat} {h1 : Hp} (hk : k = h1.n) (bP : HpOk h1) {a : List Int} (ha : a.length ≤ 16 ∧ ∀ v ∈ a, 0 ≤ v ∧ v < 64) {x : CV} (hx : Row h1 x (ao a)) {T0 : List Nat} (hT : T0.length < 900000) {g : Hp} (okg : HpOk g) (S : Same k h1 g) (B : oh g k T0) {s : Fr} {v5 v16 v17 v18 : CV} (s5 : s.at 5 = v5) (s6 : s.at 6 = .ptr k 0) (s16 : s.at 16 = v16) (s17 : s.at 17 = v17) (s18 : s.at 18 = v18) (s22 : s.at 22 = x) (s23 : s.at 23 = .nu .i64 (.ofNat a.length)) (s24 : s.at 24 = .nu .i64 (.ofNat 0)) (hs : s.at ah = .undef) :
  ∃ s' g', eE K [1, 1, 1, 0, 1, 0, 0, 1, 1, 0, 0, 1, 0, 1] s g .normal s' g' ∧ HpOk g' ∧ Same k g g' ∧ oh g' k (T0 ++ bR true a) ∧ s'.at 5 = v5 ∧ s'.at 6 = .ptr k 0 ∧ s'.at 16 = v16 ∧ s'.at 17 = v17 ∧ s'.at 18 = v18 ∧ s'.at ah = .undef := by
 have hmono : ∀ {g2 : Hp}, Same k g g2 → Row g2 x (ao a) := fun S2 => hx.mono (S.trans S2) bP (by omega)
 obtain ⟨s', g', r, q⟩ := cV (K := K) (f := 20) (n := 40) (c := aG [1, 1, 1, 0, 1, 0, 0, 1, 1, 0, 0, 1, 0, 1, 0, 0] (aq Tryz.f20)) (s := s) (h := g) (m := a.length) (b := 2)
  (I := fun i s g2 => HpOk g2 ∧ Same k g g2 ∧ oh g2 k (T0 ++ bR true (a.take i)) ∧ s.at 5 = v5 ∧ s.at 6 = .ptr k 0 ∧ s.at 16 = v16 ∧ s.at 17 = v17 ∧ s.at 18 = v18 ∧ s.at 22 = x ∧ s.at 23 = .nu .i64 (.ofNat a.length) ∧ s.at 24 = .nu .i64 (.ofNat i) ∧ s.at ah = .undef)
  (E := fun s g2 => HpOk g2 ∧ Same k g g2 ∧ oh g2 k (T0 ++ bR true a) ∧ s.at 5 = v5 ∧ s.at 6 = .ptr k 0 ∧ s.at 16 = v16 ∧ s.at 17 = v17 ∧ s.at 18 = v18 ∧ s.at ah = .undef)
  ⟨okg, Same.refl _ _, by simpa [bR] using B, s5, s6, s16, s17, s18, s22, s23, s24, hs⟩
  (fun i s g2 hi ⟨bk, S2, B2, g5, g6, g16, g17, g18, g22, g23, g24, gs⟩ => by
    obtain ⟨p, hp1, hp2⟩ := jq H (hmono S2) hi
    obtain ⟨n, hv, hn, hvn⟩ := GW (ha.2 _ (List.getElem_mem hi))
    rw [hv] at hp2
    have hll := jg (a.take i) true
    have htl : (a.take i).length ≤ 16 := by rw [List.length_take]; omega
    have hdl := zm n
    have hsn : bR true (a.take (i + 1)) = bR true (a.take i) ++ (if i = 0 then [] else [32]) ++ dg n := by
     rw [cr hi, tE, hvn]
     by_cases h0 : i = 0
     · subst h0; simp
     · have : (a.take i).isEmpty = false := by
        cases hq : a.take i with
        | nil =>
         have h1 := congrArg List.length hq
         rw [List.length_take, List.length_nil] at h1; omega
        | cons _ _ => rfl
       rw [this, if_neg h0]; simp
    by_cases h0 : i = 0
    · have o30 : ab K.P .gtr 3 (.nu .i64 (.ofNat i)) (.nu .i64 0) = some (.bo false) := by
       have := kX (P := K.P) (t := 3) i 0
       rw [fb (by omega)] at this; exact this
      obtain ⟨r34, g3, c62, cZ, S3, B3⟩ := zu H T8 bk (k := k) (u := dg n) (by simp only [List.length_append]; omega) (by omega) (Ju n) B2
      refine ⟨_, _, kE H.hk H.prim PT g24 g23 g22 g6 (aJ hi) hp1 hp2 o30 (tC H PT (by omega)) c62 (bh (by omega)), cZ, S2.trans S3, ?_, g5, g6, g16, g17, g18, g22, g23, rfl, gs⟩
      rw [hsn, if_pos h0, List.append_nil, ← List.append_assoc]; exact B3
    · have o30 : ab K.P .gtr 3 (.nu .i64 (.ofNat i)) (.nu .i64 0) = some (.bo true) := by
       have := kX (P := K.P) (t := 3) i 0
       rw [fS (by omega)] at this; exact this
      obtain ⟨r31, g3, c61, cZ, S3, B3⟩ := ww H T8 bk (k := k) (by simp only [List.length_append]; omega) B2 32
      obtain ⟨r34, g4, c62, pM, S4, B4⟩ := zu H T8 cZ (k := k) (u := dg n) (by simp only [List.length_append, List.length_cons, List.length_nil]; omega) (by omega) (Ju n) B3
      refine ⟨_, _, kD H.hk H.prim PT g24 g23 g22 g6 (aJ hi) hp1 hp2 o30 c61 (tC H PT (by omega)) c62 (bh (by omega)), pM, (S2.trans S3).trans S4, ?_, g5, g6, g16, g17, g18, g22, g23, rfl, gs⟩
      rw [hsn, if_neg h0]
      simpa [List.append_assoc] using B4)
  (fun s g2 ⟨bk, S2, B2, g5, g6, g16, g17, g18, g22, g23, g24, gs⟩ =>
    ⟨_, _, lc H.hk H.prim PT g24 g23 (aS (Nat.le_refl _)), bk, S2, by rw [List.take_length] at B2; exact B2, g5, g6, g16, g17, g18, gs⟩)
 exact ⟨s', g', r, q⟩
theorem Du (H : Std K) (T8 : gM K) (PB : cz K) (PT : ck K) (ok : HpOk h) {l : List (List Int)} (hl : hK l) {x : CV} {cs : List CV} (hx : Row h x cs) (hxs : Rows h cs l) : jz K 20 [x] h fun r h' => r = .tup [.st (dl (if bI l = 0 then l.filter (eC l) else [])), .nu .i64 (bI l)] := by
 have hf : K.P.funcs[20]? = some Tryz.f20 := by rw [H.hP]; exact Tryz.func20
 obtain ⟨_, h1, c24, S1, bP, o, ds, rfl, O⟩ := Mj H PB ok hl hx hxs
 have hL : Txt (if bI l = 0 then l.filter (eC l) else []) ∧ (if bI l = 0 then l.filter (eC l) else []).length ≤ 1024 := by
  by_cases he : bI l = 0
  · rw [if_pos he]
    have hC := ru he
    refine ⟨fun a ha => ?_, Nat.le_trans (List.length_filter_le _ _) hC.le⟩
    have := hC.simp a (List.mem_filter.1 ha).1
    exact ⟨by have := this.le; omega, fun v hv => this.rng v hv⟩
  · rw [if_neg he]; exact ⟨fun a ha => (by cases ha), by simp⟩
 generalize (if bI l = 0 then l.filter (eC l) else []) = L at O hL
 obtain ⟨hT, hLl⟩ := hL
 have hrow := O.out.row
 have hrows := O.all
 have hdl := hrows.length
 have hlen := fd H hrow
 rw [hdl] at hlen
 obtain ⟨s1, r1, a4, a5, as1⟩ : ∃ s', eE K [1, 0] (T.set (T.set (entry 0 [x]) 2 (ofValue (.string ⟨#[]⟩))) 3 (.nu .i64 0)) h .normal s' h1 ∧ s'.at 4 = o ∧ s'.at 5 = .nu .i64 (bI l) ∧ s'.at ah = .undef :=
  ⟨_, ON H.hk rfl (H.prim _ _) c24 rfl rfl, rfl, rfl, rfl⟩
 have o6 : gd 85 (dx K.P 85) = some (fun k => .ptr k 0, .cells [.nilp, .nils] 0 85) := by rw [H.hP, RB]; rfl
 obtain ⟨s2, r2, b4, b5, b6, bs2⟩ : ∃ s', eE K [1, 1, 0] s1 h1 .normal s' (h1.push (.cells [.nilp, .nils] 0 85)) ∧ s'.at 4 = o ∧ s'.at 5 = .nu .i64 (bI l) ∧ s'.at 6 = .ptr h1.n 0 ∧ s'.at ah = .undef :=
  ⟨_, OO H.hk o6, a4, a5, rfl, as1⟩
 have S2 : Same h1.n h1 (h1.push (.cells [.nilp, .nils] 0 85)) := Same.push (Nat.le_refl _) _
 have bk : HpOk (h1.push (.cells [.nilp, .nils] 0 85)) := bP.push _
 have hlen2 := fd H (hrow.mono S2 bP (Nat.le_refl _))
 rw [hdl] at hlen2
 obtain ⟨s3, r3, d5, d6, d16, d17, d18, ds3⟩ : ∃ s', eE K [1, 1, 1, 0, 0] s2 (h1.push (.cells [.nilp, .nils] 0 85)) .normal s' (h1.push (.cells [.nilp, .nils] 0 85)) ∧ s'.at 5 = .nu .i64 (bI l) ∧ s'.at 6 = .ptr h1.n 0 ∧ s'.at 16 = o ∧ s'.at 17 = .nu .i64 (.ofNat L.length) ∧ s'.at 18 = .nu .i64 (.ofNat 0) ∧ s'.at ah = .undef :=
  ⟨_, OP H.hk b4 hlen2, b5, b6, rfl, rfl, rfl, bs2⟩
 obtain ⟨s4, g4, r4, pM, S4, B4, e5, e6, es⟩ := cV (K := K) (f := 20) (n := 40) (c := aG [1, 1, 1, 0, 1, 0, 0] (aq Tryz.f20)) (s := s3) (h := h1.push (.cells [.nilp, .nils] 0 85)) (m := L.length) (b := 0)
  (I := fun i s g => HpOk g ∧ Same h1.n h1 g ∧ oh g h1.n (dl (L.take i)) ∧ s.at 5 = .nu .i64 (bI l) ∧ s.at 6 = .ptr h1.n 0 ∧ s.at 16 = o ∧ s.at 17 = .nu .i64 (.ofNat L.length) ∧ s.at 18 = .nu .i64 (.ofNat i) ∧ s.at ah = .undef)
  (E := fun s g => HpOk g ∧ Same h1.n h1 g ∧ oh g h1.n (dl L) ∧ s.at 5 = .nu .i64 (bI l) ∧ s.at 6 = .ptr h1.n 0 ∧ s.at ah = .undef)
  ⟨bk, S2, ⟨.nilp, .nils, by rw [ai, if_pos rfl], .inl rfl, .nils⟩, d5, d6, d16, d17, d18, ds3⟩
  (fun i s g hi ⟨okg, S, B, g5, g6, g16, g17, g18, gs⟩ => by
    obtain ⟨p, hp1, hp2⟩ := jp H (hrow.mono S bP (Nat.le_refl _)) (i := i) (by omega)
    have hxi := hrows.get (i := i) (by omega) hi
    have ha := hT _ (List.getElem_mem hi)
    have hlx := dJ H (hxi.mono S bP (Nat.le_refl _))
    rw [aB] at hlx
    have htl := pK (hT.take i)
    rw [List.length_take] at htl
    have hll := jg L[i] true
    obtain ⟨sA, rA, p5, p6, p16, p17, p18, p19, ps⟩ : ∃ s', eE K [1, 1, 1, 0, 1, 0, 0, 0] s g .normal s' g ∧ s'.at 5 = .nu .i64 (bI l) ∧ s'.at 6 = .ptr h1.n 0 ∧ s'.at 16 = o ∧ s'.at 17 = .nu .i64 (.ofNat L.length) ∧ s'.at 18 = .nu .i64 (.ofNat i) ∧ s'.at 19 = .bo true ∧ s'.at ah = .undef :=
     ⟨_, EY H.hk g18 g17 (aJ hi), g5, g6, g16, g17, g18, rfl, gs⟩
    obtain ⟨sB, rB, q5, q6, q8, q16, q17, q18, qs⟩ : ∃ s', eE K [1, 1, 1, 0, 1, 0, 0, 1, 1, 0, 0, 0] sA g .normal s' g ∧ s'.at 5 = .nu .i64 (bI l) ∧ s'.at 6 = .ptr h1.n 0 ∧ s'.at 8 = ds[i] ∧ s'.at 16 = o ∧ s'.at 17 = .nu .i64 (.ofNat L.length) ∧ s'.at 18 = .nu .i64 (.ofNat i) ∧ s'.at ah = .undef :=
     ⟨_, OQ H.hk p16 p18 hp1 hp2, p5, p6, rfl, p16, p17, p18, ps⟩
    obtain ⟨sC, rC, u5, u6, u16, u17, u18, u22, u23, u24, us⟩ : ∃ s', eE K [1, 1, 1, 0, 1, 0, 0, 1, 1, 0, 0, 1, 0, 0] sB g .normal s' g ∧ s'.at 5 = .nu .i64 (bI l) ∧ s'.at 6 = .ptr h1.n 0 ∧ s'.at 16 = o ∧ s'.at 17 = .nu .i64 (.ofNat L.length) ∧ s'.at 18 = .nu .i64 (.ofNat i) ∧ s'.at 22 = ds[i] ∧ s'.at 23 = .nu .i64 (.ofNat L[i].length) ∧ s'.at 24 = .nu .i64 (.ofNat 0) ∧ s'.at ah = .undef :=
     ⟨_, OR H.hk q8 hlx, q5, q6, q16, q17, q18, rfl, rfl, rfl, qs⟩
    obtain ⟨sD, gD, rD, okD, SD, BD, w5, w6, w16, w17, w18, ws⟩ := Ah H T8 PT rfl bP ha hxi (by omega) okg S B u5 u6 u16 u17 u18 u22 u23 u24 us
    obtain ⟨r36, gE, c61, okE, SE, BE⟩ := ww H T8 okD (k := h1.n) (by simp only [List.length_append]; omega) BD 10
    obtain ⟨sE, rE, y5, y6, y16, y17, y18, ys⟩ : ∃ s', eE K [1, 1, 1, 0, 1, 0, 0, 1, 1, 0, 0, 1, 1] sD gD .normal s' gE ∧ s'.at 5 = .nu .i64 (bI l) ∧ s'.at 6 = .ptr h1.n 0 ∧ s'.at 16 = o ∧ s'.at 17 = .nu .i64 (.ofNat L.length) ∧ s'.at 18 = .nu .i64 (.ofNat i) ∧ s'.at ah = .undef :=
     ⟨_, Lg H.hk w6 (H.prim _ _) c61, w5, w6, w16, w17, w18, ws⟩
    refine ⟨_, gE, Runs.seq rA (Runs.seq (Runs.condT (o := .tmp 19) (y := .exit 0) p19 Runs.skip) (Runs.seq (au (Runs.seq rB (Runs.seq (Runs.seq rC rD) rE))) (Lh H.hk y18 (bh (by omega))))), okE, (S.trans SD).trans SE, ?_, y5, y6, y16, y17, rfl, ys⟩
    rw [cr hi, Dt, ← List.append_assoc]; exact BE)
  (fun s g ⟨okg, S, B, g5, g6, g16, g17, g18, gs⟩ =>
    ⟨_, _, Runs.seq (EY H.hk g18 g17 (aS (Nat.le_refl _))) (ax (Runs.condF (o := .tmp 19) (x := .skip) rfl Runs.exit) (by simp)), okg, S, by rw [List.take_length] at B; exact B, g5, g6, gs⟩)
 have htl := pK hT
 obtain ⟨g5, c64, kY, S5⟩ := Ag H PT pM (by omega) (Ds hT) B4
 have Sall : Same h.n h g5 := S1.trans ((S4.trans S5).le S1.n)
 exact ⟨_, g5, H.go hf (Runs.seq (OM H.hk) (Runs.seq r1 (Runs.seq r2 (Runs.seq (Runs.seq r3 r4) (Fx H.hk H.prim PT e6 e5 c64))))) (.inr rfl) Sall.n es rfl rfl, Sall, kY, rfl⟩
end
theorem Dv (t : List Nat) : hK (dw t).1 := by
 unfold dw
 split
 · exact qg
 · split
   · exact qg
   · exact qg
   · rename_i l _
     show hK (if ju l = 0 then dG l else [])
     by_cases he : ju l = 0
     · rw [if_pos he]; exact Dh he
     · rw [if_neg he]; exact qg
theorem Ms {l : List (List Int)} (hC : OkC l) : Txt (l.filter (eC l)) := fun a ha => by
 have := hC.simp a (List.mem_filter.1 ha).1
 exact ⟨by have := this.le; omega, fun v hv => this.rng v hv⟩
section
variable {K : Ctx} {h : Hp}
theorem G0 (H : Std K) (T8 : gM K) (PB : cz K) (PT : ck K) {g : Hp} (ok : HpOk g) {l : List (List Int)} (hl : hK l) {x : CV} (V : Val g x l) {s : Fr} {x1 x35 x36 x37 : CV} (s1 : s.at 1 = x1) (s6 : s.at 6 = x) (s35 : s.at 35 = x35) (s36 : s.at 36 = x36) (s37 : s.at 37 = x37) (hs : s.at ah = .undef) :
  ∃ s' g', X3 K [1, 1, 0, 1, 0, 0, 1, 1, 0, 0, 1] s g .normal s' g' ∧ HpOk g' ∧ Same g.n g g' ∧ s'.at 1 = x1 ∧ s'.at 35 = x35 ∧ s'.at 36 = x36 ∧ s'.at 37 = x37 ∧ s'.at ah = .undef := by
 obtain ⟨cs, hx, hxs⟩ := id V
 obtain ⟨p, g1, c16, S1, bP, ps, hO⟩ := wk H ok hl hx hxs
 have Vx1 : Val g1 x l := V.mono S1 ok
 have Vp1 : Val g1 p l := hO.val
 obtain ⟨sA, rA, a1, a6, a7, a35, a36, a37, as1⟩ : ∃ sA, X3 K [1, 1, 0, 1, 0, 0, 1, 1, 0, 0, 1, 0] s g .normal sA g1 ∧ sA.at 1 = x1 ∧ sA.at 6 = x ∧ sA.at 7 = p ∧ sA.at 35 = x35 ∧ sA.at 36 = x36 ∧ sA.at 37 = x37 ∧ sA.at ah = .undef := ⟨_, QU H.hk s6 (H.prim _ _) c16, s1, s6, rfl, s35, s36, s37, hs⟩
 obtain ⟨_, hp1, hps1⟩ := id Vp1
 obtain ⟨_, g2, c17, S2, bk, rfl⟩ := z6 H PB bP hl hp1 hps1
 have Vx2 := Vx1.mono S2 bP
 have Vp2 := Vp1.mono S2 bP
 obtain ⟨sB, rB, b1, b6, b7, b8, b9, b35, b36, b37, bs⟩ : ∃ sB, (∀ {e s' h'}, X3 K [1, 1, 0, 1, 0, 0, 1, 1, 0, 0, 1, 1, 1, 1] sB g2 e s' h' → X3 K [1, 1, 0, 1, 0, 0, 1, 1, 0, 0, 1, 1] sA g1 e s' h') ∧ sB.at 1 = x1 ∧ sB.at 6 = x ∧ sB.at 7 = p ∧ sB.at 8 = .nu .i64 (bI l) ∧ sB.at 9 = .st [] ∧ sB.at 35 = x35 ∧ sB.at 36 = x36 ∧ sB.at 37 = x37 ∧ sB.at ah = .undef :=
  ⟨_, fun r => Runs.seq (QV H.hk a7 (H.prim _ _) c17) (Runs.seq (QW H.hk) r), a1, a6, a7, rfl, rfl, a35, a36, a37, as1⟩
 obtain ⟨sC, g3, rC, cZ, S3, d1, d6, d8, d9, d35, d36, d37, ds⟩ : ∃ sC g3, X3 K [1, 1, 0, 1, 0, 0, 1, 1, 0, 0, 1, 1, 1, 1, 0] sB g2 .normal sC g3 ∧ HpOk g3 ∧ Same g2.n g2 g3 ∧ sC.at 1 = x1 ∧ sC.at 6 = x ∧ sC.at 8 = .nu .i64 (bI l) ∧ sC.at 9 = .st (dl (if bI l = 0 then l.filter (eC l) else [])) ∧ sC.at 35 = x35 ∧ sC.at 36 = x36 ∧ sC.at 37 = x37 ∧ sC.at ah = .undef := by
  by_cases he : bI l = 0
  · have hC := ru he
    obtain ⟨_, hp2, hps2⟩ := id Vp2
    obtain ⟨r, g3, c19, S3, cZ, hsel⟩ := IC H PB bk hl hp2 hps2
    obtain ⟨ms, hm, hms⟩ := hsel.val S3 bk
    rw [← Qm hC] at hms
    have c18 := Dp H PT hm hms (by have := List.length_filter_le (eC l) l; have := hC.le; omega) (Ms hC)
    rw [if_pos he]
    have o46 : ab K.P .eql 29 (.nu .i64 (bI l)) (.nu .i64 0) = some (.bo true) := by rw [fI, he]; rfl
    exact ⟨_, g3, Runs.seq (Jk H.hk b8 o46) (Runs.condT (o := .tmp 46) rfl (OB H.hk b7 (H.prim _ _) c19 (H.prim _ _) c18)), cZ, S3, b1, b6, b8, rfl, b35, b36, b37, bs⟩
  · rw [if_neg he]
    exact ⟨_, g2, Runs.seq (Jk H.hk b8 (iC he)) (Runs.condF (o := .tmp 46) rfl Runs.skip), bk, Same.refl _ _, b1, b6, b8, b9, b35, b36, b37, bs⟩
 have Vx3 := Vx2.mono S3 bk
 obtain ⟨_, hx3, hxs3⟩ := id Vx3
 obtain ⟨_, g4, c20, S4, pM, rfl⟩ := Du H T8 PB PT cZ hl hx3 hxs3
 obtain ⟨sD, rD, e1, e8, e9, e10, e11, e35, e36, e37, es⟩ : ∃ sD, X3 K [1, 1, 0, 1, 0, 0, 1, 1, 0, 0, 1, 1, 1, 1, 1, 0] sC g3 .normal sD g4 ∧ sD.at 1 = x1 ∧ sD.at 8 = .nu .i64 (bI l) ∧ sD.at 9 = .st (dl (if bI l = 0 then l.filter (eC l) else [])) ∧ sD.at 10 = .st (dl (if bI l = 0 then l.filter (eC l) else [])) ∧ sD.at 11 = .nu .i64 (bI l) ∧ sD.at 35 = x35 ∧ sD.at 36 = x36 ∧ sD.at 37 = x37 ∧ sD.at ah = .undef :=
  ⟨_, OC H.hk d6 (H.prim _ _) c20 rfl rfl, d1, d8, d9, rfl, rfl, d35, d36, d37, ds⟩
 have o61 : ab K.P .neq 9 (.st (dl (if bI l = 0 then l.filter (eC l) else []))) (.st (dl (if bI l = 0 then l.filter (eC l) else []))) = some (.bo false) := by
  show some (CV.bo (!(ft _ _))) = _
  rw [oS]; rfl
 have T4 := ((S1.trans (S2.le S1.n)).trans (S3.le (S1.trans (S2.le S1.n)).n))
 exact ⟨_, g4, Runs.seq rA (rB (Runs.seq rC (Runs.seq rD (Runs.seq (H7 H.hk e11 e8 e10 e9 (mb rfl) o61 rfl) (Runs.condF (o := .tmp 62) rfl Runs.skip))))), pM, T4.trans (S4.le T4.n), e1, e35, e36, e37, es⟩
theorem Ai (H : Std K) (A : Awake K) (TT : kU K) (T8 : gM K) (PB : cz K) (PD : db K) (PY : eO K) (PT : ck K) (h70 : ∀ args h, K.spec 70 args h = none) (ok : HpOk h) {l : List (List Int)} {x : CV} (vx : Val h x l) (t : List Nat) :
  ∃ h', Comes K 3 [x, .st t] h (.bo true) h' ∧ Same h.n h h' := by
 have hf : K.P.funcs[3]? = some Tryz.f3 := by rw [H.hP]; exact Tryz.func3
 obtain ⟨cs, hx, hxs⟩ := id vx
 have c13 := C2 H PB (n := 40) (by decide) hx hxs
 have aw : ∀ g, Comes K 14 [] g (.bo true) g := fun g => A.comes
 cases hlong : tl l 40 with
 | true =>
  rw [hlong] at c13
  exact ⟨h, H.go hf (Runs.seq (CC H.hk) (ax (Runs.seq (H5 H.hk rfl (H.prim _ _) c13 rfl) (Runs.condT (o := .tmp 29) rfl (Runs.seq (Ji H.hk (H.prim _ _) (aw h)) Runs.ret))) (by simp))) (.inr rfl) (Nat.le_refl _) rfl rfl rfl, Same.refl _ _⟩
 | false =>
 rw [hlong] at c13
 by_cases hmid : 2000 < t.length ∧ t.length ≤ 65536
 · have o23 : ab K.P .gtr 3 (.nu .i64 (.ofNat t.length)) (.nu .i64 2000) = some (.bo true) := eb (by show (2000 : Int) < Int.ofNat _; simp only [Int.ofNat_eq_natCast]; omega)
   have o27 : ab K.P .leq 3 (.nu .i64 (.ofNat t.length)) (.nu .i64 65536) = some (.bo true) := by
    show some (CV.bo (Nat.ble t.length 65536)) = _
    rw [fb hmid.2]
   exact ⟨h, H.go hf (Runs.seq (CC H.hk) (ax (Runs.seq (yq H.hk rfl rfl (H.prim _ _) c13 (bG H t) o23 o27 rfl rfl) (Runs.condT (o := .tmp 29) rfl (Runs.seq (Ji H.hk (H.prim _ _) (aw h)) Runs.ret))) (by simp))) (.inr rfl) (Nat.le_refl _) rfl rfl rfl, Same.refl _ _⟩
 have ht : t.length ≤ 2000 ∨ 65536 < t.length := by omega
 obtain ⟨hl40, hl12⟩ := Mk hlong
 have hl40' : l.length ≤ 40 := by simp at hl40; omega
 have hl : hK l := ⟨by omega, fun a ha => by have := hl12 a ha; omega⟩
 obtain ⟨sa, ra, a0, a1, as'⟩ : ∃ s1, X3 K [1, 0] (T.set (entry 0 [x, .st t]) 4 (.bo false)) h .normal s1 h ∧ s1.at 0 = x ∧ s1.at 1 = .st t ∧ s1.at ah = .undef := by
  by_cases h2 : t.length ≤ 2000
  · have o23 : ab K.P .gtr 3 (.nu .i64 (.ofNat t.length)) (.nu .i64 2000) = some (.bo false) := fM (by show Int.ofNat _ ≤ (2000 : Int); simp only [Int.ofNat_eq_natCast]; omega)
    exact ⟨_, Runs.seq (H6 H.hk rfl rfl (H.prim _ _) c13 (bG H t) o23 rfl rfl) (Runs.condF (o := .tmp 29) rfl Runs.skip), rfl, rfl, rfl⟩
  · have o23 : ab K.P .gtr 3 (.nu .i64 (.ofNat t.length)) (.nu .i64 2000) = some (.bo true) := eb (by show (2000 : Int) < Int.ofNat _; simp only [Int.ofNat_eq_natCast]; omega)
    have o27 : ab K.P .leq 3 (.nu .i64 (.ofNat t.length)) (.nu .i64 65536) = some (.bo false) := by
     show some (CV.bo (Nat.ble t.length 65536)) = _
     rw [fS (by omega)]
    exact ⟨_, Runs.seq (yq H.hk rfl rfl (H.prim _ _) c13 (bG H t) o23 o27 rfl rfl) (Runs.condF (o := .tmp 29) rfl Runs.skip), rfl, rfl, rfl⟩
 obtain ⟨p, h1, c16, S1, bP, dp, hO⟩ := wk H ok hl hx hxs
 obtain ⟨v, vs, h2, c15, S2, bk, hv, hvs⟩ := yO H bP (most := 6) (dim := 3) (n := 64) hl.len (fun a ha => by have := hl12 a ha; omega) (by decide) (by decide) (by decide) (by decide) hO.out.row hO.all
 have hcx : Cx (mJ l 6 3 64) := Gw (by decide) (by decide) (by decide) (by decide)
 have T2 : Same h.n h h2 := S1.trans (S2.le S1.n)
 have o22 : aM 2 [(0, x), (1, v)] (ae K.P 28) = some (fun k => .sl k 0 2 2, .cells [x, v] 0 22) := by rw [H.hP, Qn]; exact Gu hx.one hv.one
 have hrow := Me (h := h2) (v := x) (w := v) (el := 22)
 have S3 : Same h2.n h2 (h2.push (.cells [x, v] 0 22)) := Same.push (Nat.le_refl _) _
 have cZ : HpOk (h2.push (.cells [x, v] 0 22)) := bk.push _
 have hlen := Q3 H hrow
 have vx3 : Val (h2.push (.cells [x, v] 0 22)) x l := Val.mono (T2.trans (S3.le T2.n)) ok ⟨cs, hx, hxs⟩
 have vv3 : Val (h2.push (.cells [x, v] 0 22)) v (mJ l 6 3 64) := Val.mono S3 bk ⟨vs, hv, hvs⟩
 obtain ⟨sd, rd, e1, e35, e36, e37, es'⟩ : ∃ s1, X3 K [1, 1, 0, 0] sa h .normal s1 (h2.push (.cells [x, v] 0 22)) ∧ s1.at 1 = .st t ∧ s1.at 35 = .sl h2.n 0 2 2 ∧ s1.at 36 = .nu .i64 (.ofNat 2) ∧ s1.at 37 = .nu .i64 (.ofNat 0) ∧ s1.at ah = .undef := ⟨_, QS H.hk a0 (H.prim _ _) c16 (H.prim _ _) c15 o22 hlen, a1, rfl, rfl, rfl, as'⟩
 obtain ⟨s', h', r, ok', S, g1, hs⟩ := cV (K := K) (f := 3) (n := 92) (c := aG [1, 1, 0, 1, 0, 0] (aq Tryz.f3)) (s := sd) (h := h2.push (.cells [x, v] 0 22)) (m := 2) (b := 0)
  (I := fun i s g => HpOk g ∧ Same (h2.push (.cells [x, v] 0 22)).n (h2.push (.cells [x, v] 0 22)) g ∧ s.at 1 = .st t ∧ s.at 35 = .sl h2.n 0 2 2 ∧ s.at 36 = .nu .i64 (.ofNat 2) ∧ s.at 37 = .nu .i64 (.ofNat i) ∧ s.at ah = .undef)
  (E := fun s g => HpOk g ∧ Same (h2.push (.cells [x, v] 0 22)).n (h2.push (.cells [x, v] 0 22)) g ∧ s.at 1 = .st t ∧ s.at ah = .undef) ⟨cZ, Same.refl _ _, e1, e35, e36, e37, es'⟩
  (fun i s g hi ⟨okg, S, g1, g35, g36, g37, gs⟩ => by
    obtain ⟨q, hq1, hq2⟩ := Rv H (hrow.mono S cZ (Nat.le_refl _)) (i := i) hi
    obtain ⟨s1, r1, j1, j35, j36, j37, j38, js⟩ : ∃ s1, X3 K [1, 1, 0, 1, 0, 0, 0] s g .normal s1 g ∧ s1.at 1 = .st t ∧ s1.at 35 = .sl h2.n 0 2 2 ∧ s1.at 36 = .nu .i64 (.ofNat 2) ∧ s1.at 37 = .nu .i64 (.ofNat i) ∧ s1.at 38 = .bo true ∧ s1.at ah = .undef := ⟨_, Jj H.hk g37 g36 (aJ hi), g1, g35, g36, g37, rfl, gs⟩
    obtain ⟨s2, r2, k1, k35, k36, k37, k6, ks⟩ : ∃ s2, X3 K [1, 1, 0, 1, 0, 0, 1, 1, 0, 0, 0] s1 g .normal s2 g ∧ s2.at 1 = .st t ∧ s2.at 35 = .sl h2.n 0 2 2 ∧ s2.at 36 = .nu .i64 (.ofNat 2) ∧ s2.at 37 = .nu .i64 (.ofNat i) ∧ s2.at 6 = [x, v][i] ∧ s2.at ah = .undef := ⟨_, QT H.hk j35 j37 hq1 hq2, j1, j35, j36, j37, rfl, js⟩
    obtain ⟨li, hli, vi⟩ : ∃ li, hK li ∧ Val (h2.push (.cells [x, v] 0 22)) [x, v][i] li := by
     match i, hi with
     | 0, _ => exact ⟨l, hl, vx3⟩
     | 1, _ => exact ⟨_, hcx.sml, vv3⟩
    obtain ⟨s3, h3, r3, ok3', S3', m1, m35, m36, m37, ms⟩ := G0 H T8 PB PT okg hli (vi.mono S cZ) k1 k6 k35 k36 k37 ks
    exact ⟨_, _, Runs.seq r1 (Runs.seq (Runs.condT (o := .tmp 38) (y := .exit 0) j38 Runs.skip) (Runs.seq (au (Runs.seq r2 r3)) (OD H.hk m37 (bh (by omega))))), ok3', S.trans (S3'.le S.n), m1, m35, m36, rfl, ms⟩)
  (fun s g ⟨okg, S, g1, g35, g36, g37, gs⟩ => ⟨_, _, Runs.seq (Jj H.hk g37 g36 (aS (Nat.le_refl _))) (ax (Runs.condF (o := .tmp 38) (x := .skip) rfl Runs.exit) (by simp)), okg, S, g1, gs⟩)
 have T5 := (T2.trans (S3.le T2.n)).trans (S.le (T2.trans (S3.le T2.n)).n)
 obtain ⟨_, h6, c21, S6, ok6, o12, rfl, v12⟩ := GS H TT PD PY PT h70 ok' ht
 obtain ⟨_, h7, c22, S7, ok7, o15, rfl, v15⟩ := Dm H PB PD PT ok6 ht
 have T6 := T5.trans (S6.le T5.n)
 have T7 := T6.trans (S7.le T6.n)
 have c23 := IJ H PB (Dv t) (v12.mono S7 ok6) v15 rfl
 obtain ⟨sP, rP, p1, p12, p13, p14, ps⟩ : ∃ s1, X3 K [1, 1, 1, 0] s' h' .normal s1 h6 ∧ s1.at 1 = .st t ∧ s1.at 12 = o12 ∧ s1.at 13 = .nu .i64 (.ofNat (dw t).2.1) ∧ s1.at 14 = .nu .i64 (dw t).2.2 ∧ s1.at ah = .undef := ⟨_, OE H.hk g1 (H.prim _ _) c21 rfl rfl rfl, g1, rfl, rfl, rfl, hs⟩
 obtain ⟨sQ, rQ, q12, q13, q14, q15, q16, q17, qs⟩ : ∃ s1, X3 K [1, 1, 1, 1, 0] sP h6 .normal s1 h7 ∧ s1.at 12 = o12 ∧ s1.at 13 = .nu .i64 (.ofNat (dw t).2.1) ∧ s1.at 14 = .nu .i64 (dw t).2.2 ∧ s1.at 15 = o15 ∧ s1.at 16 = .nu .i64 (.ofNat (dw t).2.1) ∧ s1.at 17 = .nu .i64 (dw t).2.2 ∧ s1.at ah = .undef := ⟨_, OF H.hk p1 (H.prim _ _) c22 rfl rfl rfl, p12, p13, p14, rfl, rfl, rfl, ps⟩
 have o78 : ab K.P .eql 29 (.nu .i64 (dw t).2.2) (.nu .i64 (dw t).2.2) = some (.bo true) := by rw [fI, np]
 have o82 : ab K.P .eql 3 (.nu .i64 (.ofNat (dw t).2.1)) (.nu .i64 (.ofNat (dw t).2.1)) = some (.bo true) := by rw [fI, np]
 exact ⟨h7, H.go hf (Runs.seq (CC H.hk) (Runs.seq ra (Runs.seq (Runs.seq rd r) (Runs.seq rP (Runs.seq rQ (Runs.seq (CD H.hk q14 q17 q13 q16 q12 q15 o78 o82 rfl (H.prim _ _) c23 rfl (H.prim _ _) (aw h7) rfl) Runs.ret)))))) (.inr rfl) T7.n qs rfl rfl, T7⟩
end
end Go.CP
