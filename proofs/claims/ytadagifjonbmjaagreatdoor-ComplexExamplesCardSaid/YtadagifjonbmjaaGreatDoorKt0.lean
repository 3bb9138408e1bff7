import Derived.Test.YtadagifjonbmjaaGreatDoorKw1
import Derived.Test.YtadagifjonbmjaaGreatDoorKl4
import Derived.Test.YtadagifjonbmjaaGreatDoorKv3
import Derived.Test.YtadagifjonbmjaaGreatDoorKs0
set_option linter.all false
namespace Go.CP
open Go.Proofs
variable [LG] [HK]
def gQ (c : Nat) : Bool := Nat.ble 48 c && Nat.ble c 57
def dw (t : List Nat) (a : Nat) : Nat → Nat → Nat → Option Nat × Nat
 | 0, i, n => (some n, i)
 | m + 1, i, n => match t[i]? with
  | none => (some n, i)
  | some c => match gQ c with
   | false => (some n, i)
   | true => if i = a + 9 ∨ (a < i ∧ t[a]? = some 48) then (none, i) else dw t a m (i + 1) (10 * n + (c - 48))
def dI (t : List Nat) (a : Nat) : Option Nat × Nat := match t[a]? with
 | none => (none, a)
 | some c => match gQ c with
  | false => (none, a)
  | true => dw t a (t.length - a) a 0
theorem nV (t : List Nat) (a : Nat) : ∀ m i n, i ≤ (dw t a m i n).2 ∧ (dw t a m i n).2 ≤ i + m
 | 0, i, n => ⟨Nat.le_refl _, Nat.le_refl _⟩
 | m + 1, i, n => by
  unfold dw
  split
  · exact ⟨Nat.le_refl _, Nat.le_add_right _ _⟩
  · split
    · exact ⟨Nat.le_refl _, Nat.le_add_right _ _⟩
    · split
      · exact ⟨Nat.le_refl _, Nat.le_add_right _ _⟩
      · have := nV t a m (i + 1) (10 * n + (‹Nat› - 48))
        constructor <;> omega
theorem wy {t : List Nat} {a : Nat} (ha : a ≤ t.length) : a ≤ (dI t a).2 ∧ (dI t a).2 ≤ t.length := by
 unfold dI
 split
 · exact ⟨Nat.le_refl _, ha⟩
 · split
   · exact ⟨Nat.le_refl _, ha⟩
   · have := nV t a (t.length - a) a 0
     constructor <;> omega
theorem sR {t : List Nat} {a n j : Nat} (h : dI t a = (some n, j)) : a < j := by
 unfold dI at h
 split at h
 · cases h
 · rename_i c hc
   split at h
   · cases h
   · rename_i hd
     have hl : a < t.length := by
      rcases Nat.lt_or_ge a t.length with h1 | h1
      · exact h1
      · rw [List.getElem?_eq_none h1] at hc; cases hc
     obtain ⟨m, hm⟩ : ∃ m, t.length - a = m + 1 := ⟨t.length - a - 1, by omega⟩
     rw [hm, dw, hc] at h
     simp only [hd] at h
     rw [if_neg (by omega)] at h
     have := (nV t a m (a + 1) (10 * 0 + (c - 48))).1
     rw [h] at this; exact this
section
variable {K : Ctx} {h : Hp}
theorem dJ (H : Std K) (t : List Nat) : aB h (.st t) (ae K.P 9) = some (.nu .i64 (.ofNat t.length)) := by rw [H.hP, t9]; rfl
theorem EG (H : Std K) {t : List Nat} {i c : Nat} (hc : t[i]? = some c) : bD (.st t) (.nu .i64 (.ofNat i)) (ae K.P 9) = some (.nu .u8 (.ofNat c)) := by
 rw [H.hP, t9]; simp only [bD, hc]
theorem sS {α : Type} {t : List α} {i : Nat} {c : α} (h : t[i]? = some c) : i < t.length := by
 rcases Nat.lt_or_ge i t.length with h1 | h1
 · exact h1
 · rw [List.getElem?_eq_none h1] at h; cases h
theorem EH {P : Program} {t : TypeId} (x y : Nat) : ac P .eql t (.nu .i64 (.ofNat x)) (.nu .i64 (.ofNat y)) = some (.bo (Nat.beq x y)) := rfl
theorem CE {x y : Nat} (h : x = y) : Nat.beq x y = true := by rw [h]; exact Nat.beq_refl _
theorem wz {x y : Nat} (h : x ≠ y) : Nat.beq x y = false := by
 cases hq : Nat.beq x y with
 | false => rfl
 | true => exact absurd (Nat.eq_of_beq_eq_true hq) h
theorem wA {P : Program} {t : TypeId} (x y : Nat) : ac P .gtr t (.nu .i64 (.ofNat x)) (.nu .i64 (.ofNat y)) = some (.bo (!(Nat.ble x y))) := rfl
theorem FD {P : Program} {t : TypeId} {x y : Nat} (h : x + y < 9223372036854775808) : ac P .add t (.nu .i64 (.ofNat x)) (.nu .i64 (.ofNat y)) = some (.nu .i64 (.ofNat (x + y))) := by
 rw [sr (by simp only [Int.ofNat_eq_natCast]; omega) (by simp only [Int.ofNat_eq_natCast]; omega)]; rfl
theorem Md {P : Program} {t : TypeId} {x y : Nat} (h : x * y < 9223372036854775808) : ac P .mul t (.nu .i64 (.ofNat x)) (.nu .i64 (.ofNat y)) = some (.nu .i64 (.ofNat (x * y))) := by
 show some (fK .i64 (Int.ofNat x * Int.ofNat y)) = _
 rw [dO, show Int.ofNat x * Int.ofNat y = Int.ofNat (x * y) from rfl, eQ _ h]
theorem K7 {P : Program} {t : TypeId} {c : Nat} (h : gQ c = true) : ac P .sub t (.nu .u8 (.ofNat c)) (.nu .u8 48) = some (.nu .u8 (.ofNat (c - 48))) := by
 unfold gQ at h
 rw [Bool.and_eq_true] at h
 have h1 := Nat.le_of_ble_eq_true h.1
 have h2 := Nat.le_of_ble_eq_true h.2
 have h3 : Nat.blt (c - 48) 256 = true := by simp; omega
 show some (fK .u8 (Int.ofNat c - 48)) = _
 rw [show Int.ofNat c - 48 = Int.ofNat (c - 48) by simp only [Int.ofNat_eq_natCast]; omega]
 simp only [fK, oa, h3, cond_true]
theorem LO (H : Std K) {n : Nat} (hn : n < 100) : cZ K.P (.nu .u8 (.ofNat n)) (ae K.P 5) (ae K.P 3) = none ∧ dl K.P h (.nu .u8 (.ofNat n)) (ae K.P 5) (ae K.P 3) = some (.nu .i64 (.ofNat n)) := by
 rw [H.hP, t5, t3]
 refine ⟨rfl, ?_⟩
 show some (fK .i64 (.ofNat n)) = _
 rw [dO, eQ _ (by omega)]
theorem LP {c : Nat} (h : gQ c = true) : 48 ≤ c ∧ c ≤ 57 := by
 unfold gQ at h
 rw [Bool.and_eq_true] at h
 exact ⟨Nat.le_of_ble_eq_true h.1, Nat.le_of_ble_eq_true h.2⟩
theorem LQ {n k c : Nat} (hn : n < 10 ^ k) (hc : c ≤ 57) : 10 * n + (c - 48) < 10 ^ (k + 1) := by
 rw [Nat.pow_succ]; omega
theorem EI (H : Std K) (PT : fU K) {t : List Nat} (ht : t.length < 4611686018427387904) {a : Nat} : ∀ (m i n : Nat) (s : Fr), i + m = t.length → a ≤ i → i ≤ a + 9 → n < 10 ^ (i - a) → s.at 0 = .st t → s.at 1 = .nu .i64 (.ofNat a) → s.at 4 = .nu .i64 (.ofNat n) → s.at 5 = .nu .i64 (.ofNat i) → s.at ai = .undef →
  ∃ e s', fb K [1, 1, 0, 0] s h e s' h ∧ s'.at ai = .undef ∧ match dw t a m i n with
   | (some n', j) => e = .exit 0 ∧ s'.at 1 = .nu .i64 (.ofNat a) ∧ s'.at 4 = .nu .i64 (.ofNat n') ∧ s'.at 5 = .nu .i64 (.ofNat j)
   | (none, j) => e = .ret ∧ s'.at 4 = .nu .i64 0 ∧ s'.at 5 = .nu .i64 (.ofNat j) ∧ s'.at 6 = .bo false := by
 intro m
 induction m with
 | zero =>
  intro i n s him ha h9 hn h0 h1 h4 h5 hs
  exact ⟨_, _, aH (uu H.hk H.prim PT h5 h0 (dJ H t) (bu (by omega)) rfl) (by simp), hs, rfl, h1, h4, h5⟩
 | succ m ih =>
  intro i n s him ha h9 hn h0 h1 h4 h5 hs
  have hi : i < t.length := by omega
  have hc := List.getElem?_eq_getElem hi
  generalize t[i] = c at hc
  have hix := EG (K := K) H hc
  have o16 : ac K.P .geq 5 (.nu .u8 (.ofNat c)) (.nu .u8 48) = some (.bo (Nat.ble 48 c)) := rfl
  have o22 : ac K.P .leq 5 (.nu .u8 (.ofNat c)) (.nu .u8 57) = some (.bo (Nat.ble c 57)) := rfl
  have hnum : dw t a (m + 1) i n = match gQ c with
   | false => (some n, i)
   | true => if i = a + 9 ∨ (a < i ∧ t[a]? = some 48) then (none, i) else dw t a m (i + 1) (10 * n + (c - 48)) := by rw [dw, hc]
  rw [hnum]
  cases h48 : Nat.ble 48 c with
  | false =>
   rw [h48] at o16
   have hd : gQ c = false := by unfold gQ; rw [h48]; rfl
   rw [hd]
   exact ⟨_, _, aH (sh H.hk H.prim PT h5 h0 (dJ H t) (aV hi) hix o16 rfl rfl) (by simp), hs, rfl, h1, h4, h5⟩
  | true =>
  rw [h48] at o16
  cases h57 : Nat.ble c 57 with
  | false =>
   rw [h57] at o22
   have hd : gQ c = false := by unfold gQ; rw [h57, Bool.and_false]
   rw [hd]
   exact ⟨_, _, aH (sg H.hk H.prim PT h5 h0 (dJ H t) (aV hi) hix o16 rfl o22 rfl) (by simp), hs, rfl, h1, h4, h5⟩
  | true =>
  rw [h57] at o22
  have hd : gQ c = true := by unfold gQ; rw [h48, h57]; rfl
  rw [hd]
  obtain ⟨hc1, hc2⟩ := LP hd
  have o26 : ac K.P .add 3 (.nu .i64 (.ofNat a)) (.nu .i64 9) = some (.nu .i64 (.ofNat (a + 9))) := FD (x := a) (y := 9) (by omega)
  by_cases hi9 : i = a + 9
  · have o27 : ac K.P .eql 3 (.nu .i64 (.ofNat i)) (.nu .i64 (.ofNat (a + 9))) = some (.bo true) := by rw [EH, CE hi9]
    show ∃ e s', _ ∧ _ ∧ (match (if i = a + 9 ∨ (a < i ∧ t[a]? = some 48) then _ else _ : Option Nat × Nat) with | (some n', j) => _ | (none, j) => _)
    rw [if_pos (.inl hi9)]
    exact ⟨_, _, aH (oN H.hk H.prim PT h5 h0 h1 (dJ H t) (aV hi) hix o16 rfl o22 rfl o26 o27 rfl) (by simp), hs, rfl, rfl, rfl, rfl⟩
  · have o27 : ac K.P .eql 3 (.nu .i64 (.ofNat i)) (.nu .i64 (.ofNat (a + 9))) = some (.bo false) := by rw [EH, wz hi9]
    have hk8 : n < 100000000 := Nat.lt_of_lt_of_le hn (Nat.le_trans (Nat.pow_le_pow_right (by decide) (show i - a ≤ 8 by omega)) (by decide))
    have o41 : ac K.P .mul 3 (.nu .i64 10) (.nu .i64 (.ofNat n)) = some (.nu .i64 (.ofNat (10 * n))) := Md (x := 10) (y := n) (by omega)
    obtain ⟨l46, o46⟩ := LO (h := h) H (n := c - 48) (by omega)
    have o47 := FD (P := K.P) (t := 3) (x := 10 * n) (y := c - 48) (by omega)
    have hn' : 10 * n + (c - 48) < 10 ^ (i + 1 - a) := by
     rw [show i + 1 - a = (i - a) + 1 by omega]; exact LQ hn hc2
    by_cases hai : a < i
    · have o31 : ac K.P .gtr 3 (.nu .i64 (.ofNat i)) (.nu .i64 (.ofNat a)) = some (.bo true) := by rw [wA, il hai]; rfl
      have hca := List.getElem?_eq_getElem (show a < t.length by omega)
      generalize t[a] = ca at hca
      have hix2 := EG (K := K) H hca
      have o36 : ac K.P .eql 5 (.nu .u8 (.ofNat ca)) (.nu .u8 48) = some (.bo (Nat.beq ca 48)) := rfl
      cases hz : Nat.beq ca 48 with
      | true =>
       rw [hz] at o36
       have hz' : t[a]? = some 48 := by rw [hca, Nat.eq_of_beq_eq_true hz]
       show ∃ e s', _ ∧ _ ∧ (match (if i = a + 9 ∨ (a < i ∧ t[a]? = some 48) then _ else _ : Option Nat × Nat) with | (some n', j) => _ | (none, j) => _)
       rw [if_pos (.inr ⟨hai, hz'⟩)]
       exact ⟨_, _, aH (oO H.hk H.prim PT h5 h0 h1 (dJ H t) (aV hi) hix o16 rfl o22 rfl o26 o27 o31 hix2 o36 rfl rfl) (by simp), hs, rfl, rfl, rfl, rfl⟩
      | false =>
       rw [hz] at o36
       have hz' : ¬ (i = a + 9 ∨ (a < i ∧ t[a]? = some 48)) := by
        rintro (h1 | ⟨_, h1⟩)
        · exact hi9 h1
        · rw [hca] at h1; injection h1 with h1; rw [h1] at hz; cases hz
       obtain ⟨s1, r1, k0, k1, k4, k5, ks⟩ : ∃ s1, fb K [1, 1, 0, 0, 0] s h .normal s1 h ∧ s1.at 0 = .st t ∧ s1.at 1 = .nu .i64 (.ofNat a) ∧ s1.at 4 = .nu .i64 (.ofNat (10 * n + (c - 48))) ∧ s1.at 5 = .nu .i64 (.ofNat (i + 1)) ∧ s1.at ai = .undef :=
        ⟨_, oP H.hk H.prim PT h5 h0 h1 h4 (dJ H t) (aV hi) hix o16 rfl o22 rfl o26 o27 o31 hix2 o36 rfl rfl o41 (K7 hd) l46 o46 o47 (cI (by omega)), h0, h1, rfl, rfl, hs⟩
       obtain ⟨e, s', r2, rest⟩ := ih (i + 1) _ s1 (by omega) (by omega) (by omega) hn' k0 k1 k4 k5 ks
       refine ⟨e, s', Runs.loop r1 r2, ?_⟩
       show _ ∧ (match (if i = a + 9 ∨ (a < i ∧ t[a]? = some 48) then _ else _ : Option Nat × Nat) with | (some n', j) => _ | (none, j) => _)
       rw [if_neg hz']; exact rest
    · have o31 : ac K.P .gtr 3 (.nu .i64 (.ofNat i)) (.nu .i64 (.ofNat a)) = some (.bo false) := by rw [wA, ik (by omega)]; rfl
      have hz' : ¬ (i = a + 9 ∨ (a < i ∧ t[a]? = some 48)) := by omega
      obtain ⟨s1, r1, k0, k1, k4, k5, ks⟩ : ∃ s1, fb K [1, 1, 0, 0, 0] s h .normal s1 h ∧ s1.at 0 = .st t ∧ s1.at 1 = .nu .i64 (.ofNat a) ∧ s1.at 4 = .nu .i64 (.ofNat (10 * n + (c - 48))) ∧ s1.at 5 = .nu .i64 (.ofNat (i + 1)) ∧ s1.at ai = .undef :=
       ⟨_, oQ H.hk H.prim PT h5 h0 h1 h4 (dJ H t) (aV hi) hix o16 rfl o22 rfl o26 o27 o31 rfl rfl o41 (K7 hd) l46 o46 o47 (cI (by omega)), h0, h1, rfl, rfl, hs⟩
      obtain ⟨e, s', r2, rest⟩ := ih (i + 1) _ s1 (by omega) (by omega) (by omega) hn' k0 k1 k4 k5 ks
      refine ⟨e, s', Runs.loop r1 r2, ?_⟩
      show _ ∧ (match (if i = a + 9 ∨ (a < i ∧ t[a]? = some 48) then _ else _ : Option Nat × Nat) with | (some n', j) => _ | (none, j) => _)
      rw [if_neg hz']; exact rest
def Me : Option Nat × Nat → CV
 | (some n, j) => .tup [.nu .i64 (.ofNat n), .nu .i64 (.ofNat j), .bo true]
 | (none, j) => .tup [.nu .i64 0, .nu .i64 (.ofNat j), .bo false]
theorem CF (H : Std K) (PT : fU K) {t : List Nat} (ht : t.length < 4611686018427387904) {a : Nat} (ha : a ≤ t.length) : Comes K 65 [.st t, .nu .i64 (.ofNat a)] h (Me (dI t a)) h := by
 have hf : K.P.funcs[65]? = some Tryz.f65 := by rw [H.hP]; exact Tryz.func65
 obtain ⟨s1, r1, k0, k1, k4, k5, ks⟩ : ∃ s1, (∀ {e s' h'}, fb K [1, 1] s1 h e s' h' → Runs K 65 55 none (an Tryz.f65) (entry 0 [.st t, .nu .i64 (.ofNat a)]) h e s' h') ∧ s1.at 0 = .st t ∧ s1.at 1 = .nu .i64 (.ofNat a) ∧ s1.at 4 = .nu .i64 (.ofNat 0) ∧ s1.at 5 = .nu .i64 (.ofNat a) ∧ s1.at ai = .undef :=
  ⟨_, fun r => Runs.seq (Km H.hk) (Runs.seq (Kn H.hk rfl) r), rfl, rfl, rfl, rfl, rfl⟩
 obtain ⟨e, s2, r2, hs2, hr⟩ := EI (h := h) H PT ht (t.length - a) a 0 s1 (by omega) (Nat.le_refl _) (by omega) (by simp) k0 k1 k4 k5 ks
 by_cases hd : ∃ c, t[a]? = some c ∧ gQ c = true
 · obtain ⟨c, hc, hd⟩ := hd
   have hn : dI t a = dw t a (t.length - a) a 0 := by rw [dI, hc]; simp only [hd]
   have hlt := fun n j (e : dI t a = (some n, j)) => sR e
   rw [hn] at hlt
   rw [hn]
   generalize dw t a (t.length - a) a 0 = q at hr hlt
   obtain ⟨o, j⟩ := q
   cases o with
   | some n =>
    obtain ⟨rfl, h1, h4, h5⟩ := hr
    have o54 : ac K.P .gtr 3 (.nu .i64 (.ofNat j)) (.nu .i64 (.ofNat a)) = some (.bo true) := by rw [wA, il (hlt n j rfl)]; rfl
    exact H.go hf (r1 (Runs.seq (aS r2) (vN H.hk H.prim PT h4 h5 h1 o54))) (.inr rfl) (Nat.le_refl _) hs2 rfl rfl
   | none =>
    obtain ⟨rfl, h4, h5, h6⟩ := hr
    refine H.go hf (r1 (aE (aG r2) (by simp))) (.inr rfl) (Nat.le_refl _) hs2 (vs := [s2.at 4, s2.at 5, s2.at 6]) rfl ?_
    rw [h4, h5, h6]; rfl
 · have hq : dw t a (t.length - a) a 0 = (some 0, a) ∧ dI t a = (none, a) := by
    cases hc : t[a]? with
    | none =>
     have : t.length - a = 0 := by
      rcases Nat.lt_or_ge a t.length with h1 | h1
      · rw [List.getElem?_eq_getElem h1] at hc; cases hc
      · omega
     rw [this, dI, hc]; exact ⟨rfl, rfl⟩
    | some c =>
     have hdf : gQ c = false := by
      cases hq : gQ c with
      | false => rfl
      | true => exact absurd ⟨c, hc, hq⟩ hd
     have := sS hc
     obtain ⟨m, hm⟩ : ∃ m, t.length - a = m + 1 := ⟨t.length - a - 1, by omega⟩
     rw [hm, dw, dI, hc]; simp only [hdf]; exact ⟨trivial, trivial⟩
   rw [hq.1] at hr
   rw [hq.2]
   obtain ⟨rfl, h1, h4, h5⟩ := hr
   have o54 : ac K.P .gtr 3 (.nu .i64 (.ofNat a)) (.nu .i64 (.ofNat a)) = some (.bo false) := by rw [wA, ik (Nat.le_refl _)]; rfl
   exact H.go hf (r1 (Runs.seq (aS r2) (vN H.hk H.prim PT h4 h5 h1 o54))) (.inr rfl) (Nat.le_refl _) hs2 rfl rfl
end
inductive Mf where
 | form (j : Nat)
 | bad (f : Nat) (e : Int)
 | ok (l : List (List Int))
def eU (t : List Nat) : Nat → Nat → List Int → Sum Nat (List Int × Nat)
 | 0, a, _ => .inl a
 | m + 1, a, line => match dI t a with
  | (none, j) => .inl j
  | (some n, j) => match t[j]? with
   | none => .inl j
   | some c => if c = 32 then eU t m (j + 1) (line ++ [Int.ofNat n]) else if c = 10 then .inr (line ++ [Int.ofNat n], j + 1) else .inl j
def fH (t : List Nat) : Nat → Nat → List (List Int) → Mf
 | 0, _, l => .ok l
 | m + 1, a, l => if a < t.length then (match eU t (t.length + 1) a [] with
  | .inl j => .form j
  | .inr (line, b) => if bZ line ≠ 0 then .bad a (bZ line) else fH t m b (l ++ [line])) else .ok l
def cm (t : List Nat) : List (List Int) × Nat × Int :=
 if 65536 < t.length then ([], 0, 3) else match fH t (t.length + 1) 0 [] with
  | .form j => ([], j, 2)
  | .bad f e => ([], f, e)
  | .ok l => (if kZ l = 0 then er l else [], 0, kZ l)
theorem mz {t : List Nat} : ∀ (m a : Nat) (line line' : List Int) (b : Nat), a ≤ t.length → eU t m a line = .inr (line', b) → a + 2 ≤ b ∧ b ≤ t.length ∧ line'.length ≤ line.length + (b - a)
 | 0, a, line, line', b, ha, h => by cases h
 | m + 1, a, line, line', b, ha, h => by
  unfold eU at h
  have hr := wy ha
  have hl := fun n j (e : dI t a = (some n, j)) => sR e
  generalize dI t a = q at h hr hl
  obtain ⟨o, j⟩ := q
  cases o with
  | none => cases h
  | some n =>
   have hj := hl n j rfl
   simp only at h hr
   cases hc : t[j]? with
   | none => rw [hc] at h; cases h
   | some c =>
    have hjl := sS hc
    rw [hc] at h
    simp only at h
    split at h
    · have := mz m (j + 1) _ line' b (by omega) h
      simp only [List.length_append, List.length_cons, List.length_nil] at this
      refine ⟨?_, ?_, ?_⟩ <;> omega
    · split at h
      · injection h with h
        obtain ⟨rfl, rfl⟩ := Prod.mk.inj h
        simp only [List.length_append, List.length_cons, List.length_nil]
        refine ⟨?_, ?_, ?_⟩ <;> omega
      · cases h
section
variable {K : Ctx} {h : Hp}
theorem LY {P : Program} {t : TypeId} {c d : Nat} (h : c ≠ d) : ac P .neq t (.nu .u8 (.ofNat c)) (.nu .u8 (.ofNat d)) = some (.bo true) := by
 show some (CV.bo (!(Nat.beq c d))) = _
 rw [wz h]; rfl
theorem CG (H : Std K) (PT : fU K) {t : List Nat} (ht : t.length < 1099511627776) {N1 fr : Nat} {v2 : CV} : ∀ (m a : Nat) (line : List Int) (s : Fr) (g : Hp) (v5 : CV), t.length < a + m → a ≤ t.length → (a < t.length ∨ line ≠ []) → HpOk g → N1 ≤ g.n → Out N1 g 3 v5 (ah line) → line.length ≤ a → s.at 0 = .st t → s.at 2 = v2 → s.at 3 = .nu .i64 (.ofNat a) → s.at 5 = v5 → s.at 6 = .nu .i64 (.ofNat fr) → s.at ai = .undef →
  match eU t m a line with
  | .inl j => ∃ s' g', cx K [1, 1, 1, 1, 0, 0] s g .ret s' g' ∧ HpOk g' ∧ Same N1 g g' ∧ s'.at ai = .undef ∧ s'.at 2 = .nils ∧ s'.at 3 = .nu .i64 (.ofNat j) ∧ s'.at 4 = .nu .i64 2
  | .inr (line', b) => ∃ g' v5', HpOk g' ∧ Same N1 g g' ∧ Out N1 g' 3 v5' (ah line') ∧
   (bZ line' ≠ 0 → ∃ s', cx K [1, 1, 1, 1, 0, 0] s g .ret s' g' ∧ s'.at ai = .undef ∧ s'.at 2 = .nils ∧ s'.at 3 = .nu .i64 (.ofNat fr) ∧ s'.at 4 = .nu .i64 (bZ line')) ∧
   (bZ line' = 0 → ∀ F B x' g'', aC 1 [(0, v5')] (ae K.P 22) = some (F, B) → be (g'.push B) v2 (F g'.n) (ae K.P 22) (ae K.P 22) = some (x', g'') → ∃ s1, (∀ e s2 h2, cx K [1, 1, 1, 1, 0, 0] s1 g'' e s2 h2 → cx K [1, 1, 1, 1, 0, 0] s g e s2 h2) ∧ s1.at 0 = .st t ∧ s1.at 2 = x' ∧ s1.at 3 = .nu .i64 (.ofNat b) ∧ s1.at 5 = .nils ∧ s1.at 6 = .nu .i64 (.ofNat b) ∧ s1.at ai = .undef) := by
 intro m
 induction m with
 | zero => intro a line s g v5 h1 h2; omega
 | succ m ih =>
  intro a line s g v5 hm ha hor ok hN ho hll s0 s2 s3 s5 s6 hs
  have c65 := CF (h := g) H PT (t := t) (by omega) ha
  have hr := wy ha
  have hl := fun n j (e : dI t a = (some n, j)) => sR e
  by_cases hat : a < t.length
  case neg =>
   have hn : dI t a = (none, a) := by rw [dI, List.getElem?_eq_none (by omega)]
   have hne : line ≠ [] := by rcases hor with h1 | h1 <;> first | exact absurd h1 hat | exact h1
   have hpos : 0 < line.length := List.length_pos_iff.2 hne
   have hlen := cA H ho.row
   rw [aw] at hlen
   unfold eU
   rw [hn]
   rw [hn] at c65
   have o21 : ac K.P .gtr 3 (.nu .i64 (.ofNat line.length)) (.nu .i64 0) = some (.bo true) := by
    have := wA (P := K.P) (t := 3) line.length 0
    rw [il hpos] at this; exact this
   exact ⟨_, _, aH (nC H.hk H.prim PT s3 s0 s5 (dJ H t) (bu (by omega)) hlen o21 rfl c65 rfl rfl rfl rfl rfl) (by simp), ok, Same.refl _ _, hs, rfl, rfl, rfl⟩
  unfold eU
  generalize dI t a = q at c65 hr hl
  obtain ⟨o, j⟩ := q
  cases o with
  | none => exact ⟨_, _, aH (nA H.hk H.prim PT s3 s0 (dJ H t) (aV hat) rfl c65 rfl rfl rfl rfl) (by simp), ok, Same.refl _ _, hs, rfl, rfl, rfl⟩
  | some n =>
  have hj := hl n j rfl
  have o36 := EH (P := K.P) (t := 3) j t.length
  simp only at hr
  simp only
  cases hc : t[j]? with
  | none =>
   have hje : j = t.length := by
    rcases Nat.lt_or_ge j t.length with h1 | h1
    · rw [List.getElem?_eq_getElem h1] at hc; cases hc
    · omega
   rw [CE hje] at o36
   exact ⟨_, _, aH (nB H.hk H.prim PT s3 s0 (dJ H t) (aV hat) rfl c65 rfl rfl rfl rfl (dJ H t) o36 rfl) (by simp), ok, Same.refl _ _, hs, rfl, rfl, rfl⟩
  | some c =>
   have hjl := sS hc
   rw [wz (by omega)] at o36
   have hix := EG (K := K) H hc
   have hjl2 : j < 9223372036854775807 := by omega
   obtain ⟨F, B, x', g2, a1, a2, a3, a4, a5⟩ := Fz H ok hN ho (Int.ofNat n) (by omega)
   simp only
   by_cases h32 : c = 32
   · subst h32
     rw [if_pos rfl]
     obtain ⟨s1, r1, k0, k2, k3, k5, k6, ks⟩ : ∃ s1, cx K [1, 1, 1, 1, 0, 0, 0] s g .normal s1 g2 ∧ s1.at 0 = .st t ∧ s1.at 2 = v2 ∧ s1.at 3 = .nu .i64 (.ofNat (j + 1)) ∧ s1.at 5 = x' ∧ s1.at 6 = .nu .i64 (.ofNat fr) ∧ s1.at ai = .undef :=
      ⟨_, mg H.hk H.prim PT s3 s0 s5 (dJ H t) (aV hat) rfl c65 rfl rfl rfl rfl (dJ H t) o36 rfl hix rfl rfl rfl a1 a2 (cI hjl2) rfl, s0, s2, rfl, rfl, s6, hs⟩
     have hi := ih (j + 1) _ s1 g2 x' (by omega) (by omega) (.inr (by simp)) a5 (Nat.le_trans hN a4.n) a3 (by simp; omega) k0 k2 k3 k5 k6 ks
     generalize eU t m (j + 1) (line ++ [Int.ofNat n]) = w at hi
     cases w with
     | inl j' =>
      obtain ⟨s', g', r2, ok', S', rest⟩ := hi
      exact ⟨s', g', Runs.loop r1 r2, ok', a4.trans S', rest⟩
     | inr p =>
      obtain ⟨line', b⟩ := p
      obtain ⟨g', v5', ok', S', O', hb, hg⟩ := hi
      refine ⟨g', v5', ok', a4.trans S', O', fun he => ?_, fun he F B x' g'' e1 e2 => ?_⟩
      · obtain ⟨s', r2, rest⟩ := hb he
        exact ⟨s', Runs.loop r1 r2, rest⟩
      · obtain ⟨s1', r2, rest⟩ := hg he F B x' g'' e1 e2
        exact ⟨s1', fun e s2 h2 r => Runs.loop r1 (r2 e s2 h2 r), rest⟩
   · rw [if_neg h32]
     have o42 : ac K.P .neq 5 (.nu .u8 (.ofNat c)) (.nu .u8 32) = some (.bo true) := LY h32
     by_cases h10 : c = 10
     · subst h10
       rw [if_pos rfl]
       have c66 := iN H (a := line ++ [Int.ofNat n]) (by simp; omega) a3.row
       refine ⟨g2, x', a5, a4, a3, fun he => ?_, fun he F2 B2 x2 g'' e1 e2 => ?_⟩
       · exact ⟨_, aH (lC H.hk H.prim PT s3 s0 s5 s6 (dJ H t) (aV hat) rfl c65 rfl rfl rfl rfl (dJ H t) o36 rfl hix o42 rfl rfl rfl a1 a2 (cI hjl2) rfl c66 (ka he)) (by simp), hs, rfl, rfl, rfl⟩
       · exact ⟨_, fun e s2' h2 r => Runs.loop (lD H.hk H.prim PT s3 s0 s5 s2 (dJ H t) (aV hat) rfl c65 rfl rfl rfl rfl (dJ H t) o36 rfl hix o42 rfl rfl rfl a1 a2 (cI hjl2) rfl c66 (eM he) e1 e2) r, s0, rfl, rfl, rfl, rfl, hs⟩
     · rw [if_neg h10]
       have o47 : ac K.P .neq 5 (.nu .u8 (.ofNat c)) (.nu .u8 10) = some (.bo true) := LY h10
       exact ⟨_, _, aH (mO H.hk H.prim PT s3 s0 (dJ H t) (aV hat) rfl c65 rfl rfl rfl rfl (dJ H t) o36 rfl hix o42 o47 rfl rfl) (by simp), ok, Same.refl _ _, hs, rfl, rfl, rfl⟩
theorem zF (H : Std K) (PT : fU K) {t : List Nat} (ht : t.length < 1099511627776) {h0 : Hp} : ∀ (m a : Nat) (l : List (List Int)) (s : Fr) (g : Hp) (v2 : CV) (cs : List CV), t.length < a + m → a ≤ t.length → HpOk g → Same h0.n h0 g → Own h0.n g 46 v2 cs l → 2 * l.length ≤ a → (∀ x ∈ l, OkS x) → s.at 0 = .st t → s.at 2 = v2 → s.at 3 = .nu .i64 (.ofNat a) → s.at 5 = .nils → s.at 6 = .nu .i64 (.ofNat a) → s.at ai = .undef →
  match fH t m a l with
  | .form j => ∃ s' g', cx K [1, 1, 1, 1, 0, 0] s g .ret s' g' ∧ HpOk g' ∧ Same h0.n h0 g' ∧ s'.at ai = .undef ∧ s'.at 2 = .nils ∧ s'.at 3 = .nu .i64 (.ofNat j) ∧ s'.at 4 = .nu .i64 2
  | .bad f e => ∃ s' g', cx K [1, 1, 1, 1, 0, 0] s g .ret s' g' ∧ HpOk g' ∧ Same h0.n h0 g' ∧ s'.at ai = .undef ∧ s'.at 2 = .nils ∧ s'.at 3 = .nu .i64 (.ofNat f) ∧ s'.at 4 = .nu .i64 e
  | .ok l' => ∃ s' g' v cs', cx K [1, 1, 1, 1, 0, 0] s g (.exit 0) s' g' ∧ HpOk g' ∧ Same h0.n h0 g' ∧ s'.at ai = .undef ∧ s'.at 2 = v ∧ Own h0.n g' 46 v cs' l' ∧ 2 * l'.length ≤ t.length ∧ ∀ x ∈ l', OkS x := by
 intro m
 induction m with
 | zero => intro a l s g v2 cs h1 h2; omega
 | succ m ih =>
  intro a l s g v2 cs hm ha ok S O hll hok s0 s2 s3 s5 s6 hs
  unfold fH
  by_cases hat : a < t.length
  case neg =>
   rw [if_neg hat]
   have o20 : aB g .nils (ae K.P 46) = some (.nu .i64 0) := by rw [H.hP, t46]; rfl
   exact ⟨_, _, v2, cs, aH (qz H.hk H.prim PT s3 s0 s5 (dJ H t) (bu (by omega)) o20 rfl rfl) (by simp), ok, S, hs, s2, O, by omega, hok⟩
  rw [if_pos hat]
  have w := CG H PT ht (N1 := g.n) (fr := a) (v2 := v2) (t.length + 1) a [] s g .nils (by omega) ha (.inl hat) ok (Nat.le_refl _) .nils (by simp) s0 s2 s3 s5 s6 hs
  have hrng := fun line' b => mz (t := t) (t.length + 1) a [] line' b ha
  generalize eU t (t.length + 1) a [] = q at w hrng
  cases q with
  | inl j =>
   obtain ⟨s', g', r, ok', S', rest⟩ := w
   exact ⟨s', g', r, ok', S.trans (S'.le S.n), rest⟩
  | inr p =>
   obtain ⟨line, b⟩ := p
   obtain ⟨g', v5', ok', S', O', hb, hg⟩ := w
   obtain ⟨hb1, hb2, hb3⟩ := hrng line b rfl
   simp only
   by_cases he : bZ line = 0
   case neg =>
    rw [if_pos he]
    obtain ⟨s', r, rest⟩ := hb he
    exact ⟨s', g', r, ok', S.trans (S'.le S.n), rest⟩
   rw [if_neg (fun hn => hn he)]
   have O2 := O.mono S' ok
   have hcl := O.rows.length
   obtain ⟨F, B, x', g'', a1, a2, a3, a4, a5⟩ := Own.app (P := K.P) (t := 22) (el := 46) (by rw [H.hP]; exact t22) ok' (Nat.le_trans S.n S'.n) O2 (Row.off O.out (Nat.le_refl _) O') (by decide) (by omega)
   obtain ⟨s1, r1, k0, k2, k3, k5, k6, ks⟩ := hg he F B x' g'' a1 a2
   have hi := ih b (l ++ [line]) s1 g'' x' _ (by omega) hb2 a5 ((S.trans (S'.le S.n)).trans a4) a3 (by simp; omega) (fun x hx => by
    rcases List.mem_append.1 hx with hx | hx
    · exact hok x hx
    · rw [List.mem_singleton] at hx; subst hx; exact cJ.1 he) k0 k2 k3 k5 k6 ks
   generalize fH t m b (l ++ [line]) = w at hi
   cases w with
   | form j =>
    obtain ⟨s', g', r, rest⟩ := hi
    exact ⟨s', g', r1 _ _ _ r, rest⟩
   | bad f e =>
    obtain ⟨s', g', r, rest⟩ := hi
    exact ⟨s', g', r1 _ _ _ r, rest⟩
   | ok l' =>
    obtain ⟨s', g', v, cs', r, rest⟩ := hi
    exact ⟨s', g', v, cs', r1 _ _ _ r, rest⟩
def CH (K : Ctx) (f : FuncId) (t : List Nat) (h : Hp) : Prop := fV K f [.st t] h fun r h' => ∃ o, r = .tup [o, .nu .i64 (.ofNat (cm t).2.1), .nu .i64 (cm t).2.2] ∧ Val h' o (cm t).1
theorem CI (H : Std K) (TT : fx K) (PD : cj K) (PY : da K) (PT : fU K) (h70 : ∀ args h, K.spec 70 args h = none) (ok : HpOk h) (t : List Nat) : CH K 21 t h := by
 have hf : K.P.funcs[21]? = some Tryz.f21 := by rw [H.hP]; exact Tryz.func21
 unfold CH cm
 by_cases hbig : 65536 < t.length
 · rw [if_pos hbig]
   have o13 : ac K.P .gtr 3 (.nu .i64 (.ofNat t.length)) (.nu .i64 65536) = some (.bo true) := nL (by show (65536 : Int) < Int.ofNat _; simp only [Int.ofNat_eq_natCast]; omega)
   exact ⟨_, h, H.go hf (Runs.seq (Bq H.hk) (aE (BD H.hk H.prim PT (s := T.set (T.set (T.set (entry 0 [.st t]) 2 .nils) 3 (.nu .i64 0)) 4 (.nu .i64 0)) rfl (dJ H t) o13) (by simp))) (.inr rfl) (Nat.le_refl _) rfl rfl rfl, Same.refl _ _, ok, .nils, rfl, [], .nils, .nil⟩
 rw [if_neg hbig]
 have ht2 : t.length ≤ 65536 := by omega
 have o13 : ac K.P .gtr 3 (.nu .i64 (.ofNat t.length)) (.nu .i64 65536) = some (.bo false) := sH (by show Int.ofNat _ ≤ (65536 : Int); simp only [Int.ofNat_eq_natCast]; omega)
 obtain ⟨s1, r1, k0, k2, k3, k5, k6, ks⟩ : ∃ s1, (∀ {e s' h'}, cx K [1, 1, 1, 1] s1 h e s' h' → Runs K 21 79 none (an Tryz.f21) (entry 0 [.st t]) h e s' h') ∧ s1.at 0 = .st t ∧ s1.at 2 = .nils ∧ s1.at 3 = .nu .i64 (.ofNat 0) ∧ s1.at 5 = .nils ∧ s1.at 6 = .nu .i64 (.ofNat 0) ∧ s1.at ai = .undef :=
  ⟨_, fun r => Runs.seq (Bq H.hk) (Runs.seq (BE H.hk H.prim PT (s := T.set (T.set (T.set (entry 0 [.st t]) 2 .nils) 3 (.nu .i64 0)) 4 (.nu .i64 0)) rfl (dJ H t) o13) (Runs.seq (Kk H.hk) (Runs.seq (Kl H.hk) r))), rfl, rfl, rfl, rfl, rfl, rfl⟩
 have w := zF H PT (by omega) (h0 := h) (t.length + 1) 0 [] s1 h .nils [] (by omega) (Nat.zero_le _) ok (Same.refl _ _) Own.nil (by simp) (by simp) k0 k2 k3 k5 k6 ks
 generalize fH t (t.length + 1) 0 [] = q at w
 cases q with
 | form j =>
  obtain ⟨s', g', r, ok', S', hs', h2, h3, h4⟩ := w
  refine ⟨_, g', H.go hf (r1 (aE (aG r) (by simp))) (.inr rfl) S'.n hs' (vs := [s'.at 2, s'.at 3, s'.at 4]) rfl rfl, S', ok', .nils, ?_, [], .nils, .nil⟩
  rw [h2, h3, h4]; rfl
 | bad f e =>
  obtain ⟨s', g', r, ok', S', hs', h2, h3, h4⟩ := w
  refine ⟨_, g', H.go hf (r1 (aE (aG r) (by simp))) (.inr rfl) S'.n hs' (vs := [s'.at 2, s'.at 3, s'.at 4]) rfl rfl, S', ok', .nils, ?_, [], .nils, .nil⟩
  rw [h2, h3, h4]; rfl
 | ok l =>
  obtain ⟨s', g', v, cs', r, ok', S', hs', h2, O, hlen, hok⟩ := w
  obtain ⟨_, g2, c25, S2, bz, o, ds, rfl, O2⟩ := la H TT PD PY h70 ok' (l := l) ⟨by omega, fun a ha => by have := (hok a ha).le; omega⟩ O.out.row O.all
  exact ⟨_, g2, H.go hf (r1 (Runs.seq (aS r) (zb H.hk H.prim PT h2 c25 rfl rfl))) (.inr rfl) (S'.trans (S2.le S'.n)).n hs' rfl rfl, S'.trans (S2.le S'.n), bz, o, rfl, O2.val⟩
end
def dg (n : Nat) : List Nat := if n < 10 then [48 + n] else [48 + n / 10, 48 + n % 10]
section
variable {K : Ctx} {h : Hp}
theorem Mg {P : Program} {t : TypeId} {x y : List Nat} (h : x.length + y.length < 9223372036854775808) : ac P .add t (.st x) (.st y) = some (.st (x ++ y)) := by
 have : Nat.ble (x.length + y.length) 9223372036854775807 = true := ik (by omega)
 simp only [ac, qQ, this]
end
def iy (first : Bool) : List Int → List Nat
 | [] => []
 | v :: r => (if first then [] else [32]) ++ dg v.toNat ++ iy false r
def iA (l : List (List Int)) : List Nat := l.flatMap fun a => iy true a ++ [10]
theorem CJ {v : Int} (h : 0 ≤ v ∧ v < 64) : ∃ n : Nat, v = Int.ofNat n ∧ n < 64 ∧ v.toNat = n := by
 obtain ⟨n, rfl⟩ := Int.eq_ofNat_of_zero_le h.1
 exact ⟨n, rfl, by omega, by simp⟩
theorem MP : ae Tryz.prog 82 = .ptr 85 := by kernel_rfl
theorem MQ : ae Tryz.prog 83 = .slice 5 1 1 [.nu .u8 0] := by kernel_rfl
theorem MS : ae Tryz.prog 85 = .strct [(0, 1, false), (1, 1, false)] [.nilp, .nils] := by kernel_rfl
theorem MN : ae Tryz.prog 162 = .uptr := by kernel_rfl
theorem MO : ae Tryz.prog 135 = .ptr 5 := by kernel_rfl
theorem c5 : Tryz.prog.cellsOf 5 = 1 := by kernel_rfl
theorem kf {t : List Nat} {a i : Nat} {l : List Nat} (hd : t.drop a = l) : t[a + i]? = l[i]? := by rw [← hd, List.getElem?_drop]
theorem jB {t : List Nat} {a : Nat} {l : List Nat} (hd : t.drop a = l) (hn : 0 < l.length) : a + l.length = t.length := by
 have := congrArg List.length hd
 rw [List.length_drop] at this; omega
theorem zG {d : Nat} (h : d < 10) : gQ (48 + d) = true := by
 unfold gQ
 rw [ik (by omega), ik (by omega)]; rfl
theorem wB {t : List Nat} {a n c : Nat} {rest : List Nat} (hn : n < 64) (hd : t.drop a = dg n ++ c :: rest) (hc : gQ c = false) : dI t a = (some n, a + (dg n).length) := by
 unfold dg at hd ⊢
 by_cases h10 : n < 10
 · rw [if_pos h10] at hd ⊢
   have h0 : t[a]? = some (48 + n) := by have := kf (i := 0) hd; simpa using this
   have h1 : t[a + 1]? = some c := by have := kf (i := 1) hd; simpa using this
   have hl := jB hd (by simp)
   simp only [List.cons_append, List.nil_append, List.length_cons] at hl
   obtain ⟨m, hm⟩ : ∃ m, t.length - a = m + 2 := ⟨t.length - a - 2, by omega⟩
   have hdn := zG h10
   rw [dI, h0]
   simp only [hdn]
   rw [hm, dw, h0]
   simp only [hdn]
   rw [if_neg (by omega), dw, h1]
   simp only [hc, List.length_cons, List.length_nil]
   congr 2; omega
 · rw [if_neg h10] at hd ⊢
   have h0 : t[a]? = some (48 + n / 10) := by have := kf (i := 0) hd; simpa using this
   have h1 : t[a + 1]? = some (48 + n % 10) := by have := kf (i := 1) hd; simpa using this
   have h2 : t[a + 2]? = some c := by have := kf (i := 2) hd; simpa using this
   have hl := jB hd (by simp)
   simp only [List.cons_append, List.nil_append, List.length_cons] at hl
   obtain ⟨m, hm⟩ : ∃ m, t.length - a = m + 3 := ⟨t.length - a - 3, by omega⟩
   have hd0 := zG (d := n / 10) (by omega)
   have hd1 := zG (d := n % 10) (by omega)
   rw [dI, h0]
   simp only [hd0]
   rw [hm, dw, h0]
   simp only [hd0]
   rw [if_neg (by omega), dw, h1]
   simp only [hd1]
   rw [if_neg (by
    rintro (h | ⟨_, h⟩)
    · omega
    · rw [h0] at h; injection h with h; omega), dw, h2]
   simp only [hc, List.length_cons, List.length_nil]
   congr 2; omega
theorem tS {t : List Nat} : ∀ (r : List Int) (v : Int) (acc : List Int) (a m : Nat) (rest : List Nat), (∀ x ∈ v :: r, 0 ≤ x ∧ x < 64) → t.drop a = dg v.toNat ++ (iy false r ++ 10 :: rest) → t.length < a + m → ∃ b, eU t m a acc = .inr (acc ++ v :: r, b) ∧ t.drop b = rest ∧ b ≤ t.length
 | r, v, acc, a, 0, rest, h, hd, hm => by
  have := jB hd (by simp only [List.length_append, List.length_cons]; omega)
  simp only [List.length_append, List.length_cons] at this; omega
 | [], v, acc, a, m + 1, rest, h, hd, hm => by
  obtain ⟨n, hv, hn, hvn⟩ := CJ (h v (by simp))
  rw [hvn] at hd
  have hd' : t.drop a = dg n ++ 10 :: rest := hd
  have hN := wB hn hd' rfl
  have hj : t[a + (dg n).length]? = some 10 := by rw [kf hd']; simp
  have hl := jB hd' (by simp only [List.length_append, List.length_cons]; omega)
  rw [List.length_append, List.length_cons] at hl
  refine ⟨a + (dg n).length + 1, ?_, ?_, by omega⟩
  · rw [eU, hN]
    simp only [hj, if_true, if_false, Nat.reduceEqDiff]
    rw [hv]
  · rw [show a + (dg n).length + 1 = a + ((dg n).length + 1) by omega, ← List.drop_drop, hd', ← List.drop_drop, List.drop_left]; rfl
 | w :: r, v, acc, a, m + 1, rest, h, hd, hm => by
  obtain ⟨n, hv, hn, hvn⟩ := CJ (h v (by simp))
  rw [hvn] at hd
  have hd' : t.drop a = dg n ++ 32 :: (dg w.toNat ++ (iy false r ++ 10 :: rest)) := by
   rw [hd, iy]; simp
  have hN := wB hn hd' rfl
  have hj : t[a + (dg n).length]? = some 32 := by rw [kf hd']; simp
  have hl := jB hd' (by simp only [List.length_append, List.length_cons]; omega)
  rw [List.length_append, List.length_cons] at hl
  have hd2 : t.drop (a + (dg n).length + 1) = dg w.toNat ++ (iy false r ++ 10 :: rest) := by
   rw [show a + (dg n).length + 1 = a + ((dg n).length + 1) by omega, ← List.drop_drop, hd', ← List.drop_drop, List.drop_left]; rfl
  obtain ⟨b, h1, h2, h3⟩ := tS r w (acc ++ [v]) (a + (dg n).length + 1) m rest (fun x hx => h x (by simp [List.mem_cons] at hx ⊢; exact .inr hx)) hd2 (by omega)
  refine ⟨b, ?_, h2, h3⟩
  rw [eU, hN]
  simp only [hj, if_true]
  rw [← hv, h1]; simp
theorem qN {t : List Nat} : ∀ (L : List (List Int)) (a m : Nat) (acc : List (List Int)), (∀ x ∈ L, OkS x) → t.drop a = iA L → a ≤ t.length → t.length < a + m → fH t m a acc = .ok (acc ++ L)
 | L, a, 0, acc, h, hd, ha, hm => by omega
 | [], a, m + 1, acc, h, hd, ha, hm => by
  have hl := congrArg List.length hd
  rw [List.length_drop] at hl
  have : (iA []).length = 0 := rfl
  rw [fH, if_neg (by omega), List.append_nil]
 | [] :: L, a, m + 1, acc, h, hd, ha, hm => absurd rfl (h [] (by simp)).ne
 | (v :: r) :: L, a, m + 1, acc, h, hd, ha, hm => by
  have hok := h (v :: r) (by simp)
  have hd' : t.drop a = dg v.toNat ++ (iy false r ++ 10 :: iA L) := by
   rw [hd, show iA ((v :: r) :: L) = iy true (v :: r) ++ [10] ++ iA L from rfl, iy]; simp
  have hl := jB hd' (by simp only [List.length_append, List.length_cons]; omega)
  simp only [List.length_append, List.length_cons] at hl
  obtain ⟨b, h1, h2, h3⟩ := tS r v [] a (t.length + 1) (iA L) hok.rng hd' (by omega)
  have hr := mz (t := t) (t.length + 1) a [] _ b ha h1
  rw [fH, if_pos (by omega), h1]
  simp only [List.nil_append]
  rw [if_neg (fun hn => hn (cJ.2 hok)), qN L b m (acc ++ [v :: r]) (fun x hx => h x (by simp [hx])) h2 h3 (by omega)]
  simp
end Go.CP
