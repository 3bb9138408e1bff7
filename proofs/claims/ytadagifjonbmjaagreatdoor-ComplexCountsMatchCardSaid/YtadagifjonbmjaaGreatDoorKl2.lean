import Derived.Test.YtadagifjonbmjaaGreatDoorKl1
import Derived.Test.YtadagifjonbmjaaGreatDoorKw1
set_option linter.all false
namespace Go.CP
variable [LG] [HK]
theorem iP (x y : Int) (a b : List Int) : cP (x :: a) (y :: b) = if x < y then -1 else if y < x then 1 else cP a b := by
 rw [vA]
 unfold ir
 split
 · simp
 · split <;> simp
theorem vE : ∀ (a b : List Int), cP b a = - cP a b
 | [], [] => rfl
 | [], _ :: _ => rfl
 | _ :: _, [] => rfl
 | x :: a, y :: b => by
  rw [iP, iP, vE a b]
  split
  · rw [if_neg (by omega)]
  · split <;> simp
theorem vF : ∀ (a b : List Int), cP a b = -1 ∨ cP a b = 0 ∨ cP a b = 1
 | [], [] => .inr (.inl rfl)
 | [], _ :: _ => .inr (.inl rfl)
 | _ :: _, [] => .inr (.inl rfl)
 | x :: a, y :: b => by
  rw [iP]
  split
  · exact .inl rfl
  · split
    · exact .inr (.inr rfl)
    · exact vF a b
theorem vG : ∀ (a b : List Int), a.length = b.length → (cP a b = 0 ↔ a = b)
 | [], [], _ => by simp [cP]
 | [], _ :: _, h => by simp at h
 | _ :: _, [], h => by simp at h
 | x :: a, y :: b, h => by
  rw [iP]
  have := vG a b (by simpa using h)
  split
  · simp; omega
  · split
    · simp; omega
    · rw [this]; simp; omega
theorem sL : ∀ (a b c : List Int), a.length = b.length → b.length = c.length → cP a b = -1 → cP b c = -1 → cP a c = -1
 | [], _, _, _, _, h, _ => by rename_i b _ _ _ _; cases b <;> simp [cP] at h
 | _ :: _, [], _, h, _, _, _ => by simp at h
 | _ :: _, _ :: _, [], _, h, _, _ => by simp at h
 | x :: a, y :: b, z :: c, h1, h2, h3, h4 => by
  rw [iP] at h3 h4 ⊢
  have ih := sL a b c (by simpa using h1) (by simpa using h2)
  by_cases e1 : x < y
  · by_cases e2 : y < z
    · rw [if_pos (by omega)]
    · rw [if_neg e2] at h4
      by_cases e3 : z < y
      · rw [if_pos e3] at h4; simp at h4
      · rw [if_pos (by omega)]
  · rw [if_neg e1] at h3
    by_cases e4 : y < x
    · rw [if_pos e4] at h3; simp at h3
    · rw [if_neg e4] at h3
      by_cases e2 : y < z
      · rw [if_pos (by omega)]
      · rw [if_neg e2] at h4
        by_cases e3 : z < y
        · rw [if_pos e3] at h4; simp at h4
        · rw [if_neg e3] at h4
          rw [if_neg (by omega), if_neg (by omega)]
          exact ih h3 h4
theorem eG (a b : List Int) : aW a b = 0 ↔ a = b := by
 unfold aW
 by_cases h : a.length = b.length
 · rw [if_pos h]; exact vG a b h
 · rw [if_neg h]
   constructor
   · intro e; split at e <;> simp at e
   · intro e; rw [e] at h; exact absurd rfl h
theorem oT (a b : List Int) : aW b a = - aW a b := by
 unfold aW
 by_cases h : a.length = b.length
 · rw [if_pos h, if_pos h.symm]; exact vE a b
 · rw [if_neg h, if_neg (Ne.symm h)]
   split
   · rw [if_neg (by omega)]
   · rw [if_pos (by omega)]; rfl
theorem lk (a b : List Int) : aW a b = -1 ∨ aW a b = 0 ∨ aW a b = 1 := by
 unfold aW
 split
 · exact vF a b
 · split
   · exact .inl rfl
   · exact .inr (.inr rfl)
def LtS (a b : List Int) : Prop := aW a b = -1
theorem LtS.trans {a b c : List Int} (h : LtS a b) (h' : LtS b c) : LtS a c := by
 unfold LtS aW at *
 by_cases e1 : a.length = b.length
 · rw [if_pos e1] at h
   by_cases e2 : b.length = c.length
   · rw [if_pos e2] at h'
     rw [if_pos (by omega)]
     exact sL a b c e1 e2 h h'
   · rw [if_neg e2] at h'
     by_cases e3 : b.length < c.length
     · rw [if_neg (by omega), if_pos (by omega)]
     · rw [if_neg e3] at h'; simp at h'
 · rw [if_neg e1] at h
   by_cases e4 : a.length < b.length
   · by_cases e2 : b.length = c.length
     · rw [if_neg (by omega), if_pos (by omega)]
     · rw [if_neg e2] at h'
       by_cases e3 : b.length < c.length
       · rw [if_neg (by omega), if_pos (by omega)]
       · rw [if_neg e3] at h'; simp at h'
   · rw [if_neg e4] at h; simp at h
theorem LtS.of {a b : List Int} (h1 : a ≠ b) (h2 : aW a b ≠ -1) : LtS b a := by
 unfold LtS
 rw [oT]
 rcases lk a b with h | h | h
 · exact absurd h h2
 · exact absurd ((eG a b).1 h) h1
 · rw [h]
theorem jS (a b : List Int) : dJ (aW a b) 0 = true ↔ a = b := by rw [fm, decide_eq_true_iff, eG]
def ji (s : List Int) : List (List Int) → List (List Int)
 | [] => [s]
 | a :: r => if aW s a = -1 then s :: a :: r else a :: ji s r
theorem sM (s : List Int) : ∀ (r out : List (List Int)), da s r out true = if s ∈ r then none else some (out ++ r)
 | [], out => by simp [da]
 | a :: r, out => by
  unfold da
  cases hq : dJ (aW s a) 0 with
  | true => rw [jS] at hq; simp [hq]
  | false =>
   have hne : s ≠ a := fun e => by rw [(jS s a).2 e] at hq; cases hq
   have := sM s r (out ++ [a])
   cases ck 0 (aW s a) <;> simp only [] <;> rw [this] <;> simp [hne]
theorem qg (s : List Int) : ∀ (r out : List (List Int)), da s r out false = if s ∈ r then none else some (out ++ ji s r)
 | [], out => by simp [da, ji]
 | a :: r, out => by
  unfold da
  cases hq : dJ (aW s a) 0 with
  | true => rw [jS] at hq; simp [hq]
  | false =>
   have hne : s ≠ a := fun e => by rw [(jS s a).2 e] at hq; cases hq
   cases hl : ck 0 (aW s a) with
   | false =>
    rw [dN] at hl
    have hl := of_decide_eq_false hl
    have hc : aW s a = -1 := by rcases lk s a with h | h | h <;> omega
    simp only []
    rw [sM, ji, if_pos hc]
    simp [hne]
   | true =>
    rw [dN] at hl
    have hl := of_decide_eq_true hl
    have hc : aW s a ≠ -1 := by omega
    simp only []
    rw [qg s r, ji, if_neg hc]
    simp [hne]
theorem Bz (l : List (List Int)) (s : List Int) : eL l s = if s ∈ l then l else ji s l := by
 unfold eL
 rw [qg]
 split <;> simp
theorem qM {s x : List Int} : ∀ {l : List (List Int)}, x ∈ ji s l ↔ x = s ∨ x ∈ l
 | [] => by simp [ji]
 | a :: r => by
  unfold ji
  split
  · simp
  · simp only [List.mem_cons, qM (l := r)]
    constructor
    · rintro (h | h | h) <;> simp [h]
    · rintro (h | h | h) <;> simp [h]
theorem oU {l : List (List Int)} {s x : List Int} : x ∈ eL l s ↔ x = s ∨ x ∈ l := by
 rw [Bz]
 split
 · rename_i h
   constructor
   · exact .inr
   · rintro (rfl | h') <;> assumption
 · exact qM
abbrev Srt (l : List (List Int)) : Prop := l.Pairwise LtS
theorem yL {s : List Int} : ∀ {l : List (List Int)}, Srt l → s ∉ l → Srt (ji s l)
 | [], _, _ => by simp [ji]
 | a :: r, h, hn => by
  have h1 := List.pairwise_cons.1 h
  have hsa : s ≠ a := fun e => hn (by simp [e])
  unfold ji
  split
  · rename_i hc
    refine List.pairwise_cons.2 ⟨fun x hx => ?_, h⟩
    rcases List.mem_cons.1 hx with rfl | hx
    · exact hc
    · exact LtS.trans hc (h1.1 x hx)
  · rename_i hc
    refine List.pairwise_cons.2 ⟨fun x hx => ?_, yL h1.2 (fun e => hn (by simp [e]))⟩
    rcases qM.1 hx with rfl | hx
    · exact LtS.of hsa hc
    · exact h1.1 x hx
theorem H5 {l : List (List Int)} (h : Srt l) (s : List Int) : Srt (eL l s) := by
 rw [Bz]
 split
 · exact h
 · exact yL h (by assumption)
theorem ll {a x : List Int} : ∀ (c m : Nat) (out : List (List Int)), x ∈ fo a c m out ↔ (∃ k, m ≤ k ∧ k < m + c ∧ x = cQ k 0 a) ∨ x ∈ out
 | 0, m, out => by
  simp only [fo]
  constructor
  · exact .inr
  · rintro (⟨k, h1, h2, _⟩ | h)
    · omega
    · exact h
 | c + 1, m, out => by
  simp only [fo]
  rw [ll c (m + 1), oU]
  constructor
  · rintro (⟨k, h1, h2, h3⟩ | h | h)
    · exact .inl ⟨k, by omega, by omega, h3⟩
    · exact .inl ⟨m, by omega, by omega, h⟩
    · exact .inr h
  · rintro (⟨k, h1, h2, h3⟩ | h)
    · rcases Nat.eq_or_lt_of_le h1 with rfl | h1
      · exact .inr (.inl h3)
      · exact .inl ⟨k, h1, by omega, h3⟩
    · exact .inr (.inr h)
theorem kA (m : Nat) : ∀ (a : List Int) (i : Nat), (cQ m i a).Sublist a
 | [], i => by simp [cQ]
 | y :: r, i => by
  unfold cQ
  split
  · exact (kA m r (i + 1)).cons_cons y
  · exact (kA m r (i + 1)).cons y
theorem Lv {x a : List Int} (h : x.Sublist a) : ∃ m, m < 2 ^ a.length ∧ ∀ i r, r < 2 ^ i → cQ (m * 2 ^ i + r) i a = x := by
 induction h with
 | slnil => exact ⟨0, by simp, fun i r _ => rfl⟩
 | @cons x a y h ih =>
  obtain ⟨m, hm, hs⟩ := ih
  refine ⟨2 * m, by rw [List.length_cons, Nat.pow_succ]; omega, fun i r hr => ?_⟩
  have h2 : 0 < 2 ^ i := Nat.pow_pos (by decide)
  have e1 : (2 * m * 2 ^ i + r) / 2 ^ i = 2 * m := by
   rw [Nat.add_comm, Nat.add_mul_div_right _ _ h2, Nat.div_eq_of_lt hr]; omega
  have e2 : 2 * m * 2 ^ i + r = m * 2 ^ (i + 1) + r := by rw [Nat.pow_succ, Nat.mul_comm 2 m, Nat.mul_assoc, Nat.mul_comm 2 (2 ^ i)]
  unfold cQ
  rw [e1, if_neg (by omega), e2]
  exact hs (i + 1) r (by rw [Nat.pow_succ]; omega)
 | @cons_cons x a y h ih =>
  obtain ⟨m, hm, hs⟩ := ih
  refine ⟨2 * m + 1, by rw [List.length_cons, Nat.pow_succ]; omega, fun i r hr => ?_⟩
  have h2 : 0 < 2 ^ i := Nat.pow_pos (by decide)
  have e1 : ((2 * m + 1) * 2 ^ i + r) / 2 ^ i = 2 * m + 1 := by
   rw [Nat.add_comm, Nat.add_mul_div_right _ _ h2, Nat.div_eq_of_lt hr]; omega
  have e2 : (2 * m + 1) * 2 ^ i + r = m * 2 ^ (i + 1) + (2 ^ i + r) := by
   rw [Nat.pow_succ, Nat.add_mul, Nat.mul_comm 2 m, Nat.mul_assoc, Nat.mul_comm 2 (2 ^ i)]; omega
  unfold cQ
  rw [e1, if_pos (by omega), e2, hs (i + 1) (2 ^ i + r) (by rw [Nat.pow_succ]; omega)]
theorem yM {m : Nat} : ∀ (a : List Int) (i : Nat), cQ m i a = [] → m / 2 ^ i % 2 ^ a.length = 0
 | [], i, _ => by simp [Nat.mod_one]
 | y :: r, i, h => by
  unfold cQ at h
  split at h
  · cases h
  · rename_i hb
    have ih := yM r (i + 1) h
    rw [List.length_cons, Nat.pow_succ, Nat.mul_comm, Nat.mod_mul]
    rw [Nat.pow_succ, ← Nat.div_div_eq_div_mul] at ih
    rw [ih]; omega
theorem vH : ∀ (a : List Int) (i : Nat), cQ 0 i a = []
 | [], i => rfl
 | y :: r, i => by unfold cQ; rw [Nat.zero_div, if_neg (by simp)]; exact vH r (i + 1)
theorem CM {a x : List Int} : x ∈ eh a ↔ x.Sublist a ∧ x ≠ [] := by
 unfold eh
 rw [ll]
 have hp : 0 < 2 ^ a.length := Nat.pow_pos (by decide)
 constructor
 · rintro (⟨k, h1, h2, rfl⟩ | h)
   · refine ⟨kA _ _ _, fun e => ?_⟩
     have := yM a 0 e
     rw [Nat.pow_zero, Nat.div_one, Nat.mod_eq_of_lt (by omega)] at this
     omega
   · simp at h
 · rintro ⟨h1, h2⟩
   obtain ⟨m, hm, hs⟩ := Lv h1
   have := hs 0 0 (by simp)
   rw [Nat.pow_zero, Nat.mul_one, Nat.add_zero] at this
   refine .inl ⟨m, ?_, by omega, this.symm⟩
   rcases Nat.eq_zero_or_pos m with rfl | h
   · rw [vH] at this; exact absurd this.symm h2
   · exact h
theorem oV {x : List Int} : ∀ (f out : List (List Int)), x ∈ fe out f ↔ x ∈ out ∨ x ∈ f
 | [], out => by simp [fe]
 | s :: f, out => by
  have := oV (x := x) f (eL out s)
  simp only [fe, List.foldl_cons] at this ⊢
  rw [this, oU, List.mem_cons]
  constructor
  · rintro ((h | h) | h) <;> simp [h]
  · rintro (h | h | h) <;> simp [h]
theorem oW : ∀ (f out : List (List Int)), Srt out → Srt (fe out f)
 | [], _, h => h
 | s :: f, out, h => by
  have := oW f (eL out s) (H5 h s)
  simpa only [fe, List.foldl_cons] using this
theorem oX {x : List Int} : ∀ (l out : List (List Int)), x ∈ cR l out ↔ x ∈ out ∨ ∃ a ∈ l, x ∈ eh a
 | [], out => by simp [cR]
 | a :: r, out => by
  rw [cR, oX r, oV]
  constructor
  · rintro ((h | h) | ⟨b, h1, h2⟩)
    · exact .inl h
    · exact .inr ⟨a, by simp, h⟩
    · exact .inr ⟨b, by simp [h1], h2⟩
  · rintro (h | ⟨b, h1, h2⟩)
    · exact .inl (.inl h)
    · rcases List.mem_cons.1 h1 with rfl | h1
      · exact .inl (.inr h2)
      · exact .inr ⟨b, h1, h2⟩
theorem oY : ∀ (l out : List (List Int)), Srt out → Srt (cR l out)
 | [], _, h => h
 | a :: r, out, h => oY r _ (oW _ _ h)
theorem lM {l : List (List Int)} {x : List Int} : x ∈ fW l ↔ ∃ a ∈ l, x.Sublist a ∧ x ≠ [] := by
 unfold fW
 rw [oX]
 simp only [CM, List.not_mem_nil, false_or]
theorem kB {q : Nat} : ∀ (l out : List (List Int)), (∀ a ∈ l, a.length ≤ q) → (cR l out).length ≤ out.length + 2 ^ q * l.length
 | [], out, _ => by simp [cR]
 | a :: r, out, h => by
  have h1 := kB r (fe out (eh a)) (fun b hb => h b (List.mem_cons_of_mem _ hb))
  have h2 := gT (eh a) out
  have h3 := jg a
  have h4 : 2 ^ a.length ≤ 2 ^ q := Nat.pow_le_pow_right (by decide) (h a List.mem_cons_self)
  simp only [cR, List.length_cons, Nat.mul_succ] at h1 ⊢
  omega
def fh (v : Int) : List Int → List Int
 | [] => [v]
 | u :: p => if u ≤ v then v :: u :: p else u :: fh v p
theorem BA : ∀ (p : List Int) (v : Int) (post : List Int), kk (p.reverse ++ v :: post) p.length = (fh v p).reverse ++ post
 | [], v, post => by simp [kk, fh]
 | u :: p, v, post => by
  have e0 : (u :: p).reverse ++ v :: post = p.reverse ++ u :: v :: post := by simp
  have g1 : (p.reverse ++ u :: v :: post).getD p.length 0 = u := by
   rw [List.getD_eq_getElem?_getD, List.getElem?_append_right (by simp)]; simp
  have g2 : (p.reverse ++ u :: v :: post).getD (p.length + 1) 0 = v := by
   rw [List.getD_eq_getElem?_getD, List.getElem?_append_right (by simp)]; simp
  rw [e0, List.length_cons, kk, g1, g2]
  by_cases h : u ≤ v
  · rw [fA h]; simp [fh, h]
  · rw [gp (by omega)]
    have hs : Bu (p.reverse ++ u :: v :: post) p.length = p.reverse ++ v :: u :: post := by
     rw [Bu, g1, g2, List.set_append_right _ _ (by simp), List.set_append_right _ _ (by simp)]
     simp
    simp only [hs]
    rw [BA p v (u :: post)]
    simp [fh, h]
theorem vI : ∀ (rest p : List Int), iO rest.length p.length (p.reverse ++ rest) = (rest.foldl (fun p v => fh v p) p).reverse
 | [], p => by simp [iO]
 | v :: rest, p => by
  rw [List.length_cons, iO, BA]
  have hl : (fh v p).length = p.length + 1 := by
   have : ∀ p : List Int, (fh v p).length = p.length + 1 := by
    intro p; induction p with
    | nil => rfl
    | cons u p ih => unfold fh; split <;> simp [ih]
   exact this p
  rw [← hl, vI rest (fh v p)]
  simp
theorem yN (c : List Int) : sortI c = (c.foldl (fun p v => fh v p) []).reverse := by
 have := vI c []
 simpa [sortI] using this
theorem oZ (v : Int) : ∀ p : List Int, (fh v p).Perm (v :: p)
 | [] => .refl _
 | u :: p => by
  unfold fh; split
  · exact .refl _
  · exact ((oZ v p).cons u).trans (.swap v u p)
theorem vJ (v : Int) : ∀ {p : List Int}, p.Pairwise (fun a b => b ≤ a) → (fh v p).Pairwise (fun a b => b ≤ a)
 | [], _ => by simp [fh]
 | u :: p, h => by
  have h1 := List.pairwise_cons.1 h
  unfold fh; split
  · refine List.pairwise_cons.2 ⟨fun x hx => ?_, h⟩
    rcases List.mem_cons.1 hx with rfl | hx
    · assumption
    · have := h1.1 x hx; omega
  · refine List.pairwise_cons.2 ⟨fun x hx => ?_, vJ v h1.2⟩
    have := (oZ v p).mem_iff.1 hx
    rcases List.mem_cons.1 this with rfl | hx
    · omega
    · exact h1.1 x hx
theorem vK : ∀ (c p : List Int), (c.foldl (fun p v => fh v p) p).Perm (c.reverse ++ p)
 | [], p => .refl _
 | v :: c, p => by
  have := vK c (fh v p)
  simp only [List.foldl_cons, List.reverse_cons, List.append_assoc]
  exact this.trans ((oZ v p).append_left _)
theorem vL : ∀ (c p : List Int), p.Pairwise (fun a b => b ≤ a) → (c.foldl (fun p v => fh v p) p).Pairwise (fun a b => b ≤ a)
 | [], p, h => h
 | v :: c, p, h => vL c _ (vJ v h)
theorem gU (c : List Int) : (sortI c).Perm c := by
 rw [yN]
 have := vK c []
 rw [List.append_nil] at this
 exact (List.reverse_perm _).trans (this.trans (List.reverse_perm _))
theorem yO (c : List Int) : (sortI c).Pairwise (· ≤ ·) := by
 rw [yN, List.pairwise_reverse]
 exact vL c [] List.Pairwise.nil
theorem PT {c : List Int} (h : c.Pairwise (· ≤ ·)) (hn : c.Nodup) : c.Pairwise (· < ·) := by
 have := h.and hn
 exact this.imp fun ⟨h1, h2⟩ => by omega
theorem o0 {c : List Int} (h : c.Nodup) : (sortI c).Pairwise (· < ·) := PT (yO c) ((gU c).nodup_iff.2 h)
theorem gl : ∀ {u w : List Int}, u.Pairwise (· < ·) → w.Pairwise (· < ·) → (∀ v ∈ u, v ∈ w) → u.Sublist w
 | [], w, _, _, _ => List.nil_sublist w
 | x :: u, [], _, _, h => absurd (h x (by simp)) (by simp)
 | x :: u, y :: w, hu, hw, h => by
  have h1 := List.pairwise_cons.1 hu
  have h2 := List.pairwise_cons.1 hw
  by_cases e : x = y
  · subst e
    refine List.Sublist.cons_cons x (gl h1.2 h2.2 fun v hv => ?_)
    rcases List.mem_cons.1 (h v (by simp [hv])) with rfl | h3
    · have := h1.1 v hv; omega
    · exact h3
  · refine List.Sublist.cons y (gl hu h2.2 fun v hv => ?_)
    rcases List.mem_cons.1 (h v hv) with rfl | h3
    · exfalso
      rcases List.mem_cons.1 (h x (by simp)) with h4 | h4
      · exact e h4
      · have := h2.1 x h4
        rcases List.mem_cons.1 hv with h5 | h5
        · exact e h5.symm
        · have := h1.1 v h5; omega
    · exact h3
theorem pc {c : List Int} (h : c.Pairwise (· < ·)) : c.Nodup := h.imp fun h => by omega
theorem mF (a : List Int) (v : Int) : dy a v = true ↔ v ∈ a := by
 simp [dy, List.any_eq_true, fm]
theorem Lw {n : Int} (hn : 0 < n) (x : Int) : 0 ≤ oL n x ∧ oL n x < n := by
 unfold oL
 have h1 := uR (x := x) hn
 constructor
 · exact Int.tmod_nonneg _ (by omega)
 · exact Int.tmod_lt_of_pos _ hn
theorem nr {most : Nat} {n : Int} (hn : 0 < n) : ∀ (a c : List Int), c.Nodup → (∀ v ∈ c, 0 ≤ v ∧ v < n) → (cC most n a c).Nodup ∧ ∀ v ∈ cC most n a c, 0 ≤ v ∧ v < n
 | [], c, h1, h2 => ⟨h1, h2⟩
 | y :: r, c, h1, h2 => by
  unfold cC
  split
  · cases hq : dy c (oL n y) with
    | true => exact nr hn r c h1 h2
    | false =>
     refine nr hn r _ ?_ ?_
     · rw [List.nodup_append]
       refine ⟨h1, by simp, fun x hx y' hy => ?_⟩
       rw [List.mem_singleton] at hy
       subst hy
       intro e; subst e
       rw [(mF c _).2 hx] at hq; cases hq
     · intro v hv
       rcases List.mem_append.1 hv with hv | hv
       · exact h2 v hv
       · rw [List.mem_singleton] at hv; subst hv; exact Lw hn y
  · exact ⟨h1, h2⟩
theorem FR {most : Nat} {n : Int} (hm : 1 ≤ most) (hm5 : most ≤ 5) (hn : 0 < n) (hn64 : n ≤ 64) (a : List Int) : OkS (ef a most n) := by
 have h := nr (most := most) hn a [] (by simp) (by simp)
 have hl := nL a most n hm
 refine ⟨?_, by omega, ?_, ?_⟩
 · intro e
   have hlen : (ef a most n).length = 0 := by rw [e]; rfl
   unfold ef at hlen
   split at hlen
   · rw [dG] at hlen; simp at hlen
   · rename_i o
     rw [dG] at hlen
     exact o (List.eq_nil_of_length_eq_zero hlen)
 · intro v hv
   unfold ef at hv
   split at hv
   · rw [(gU _).mem_iff] at hv; simp at hv; omega
   · rw [(gU _).mem_iff] at hv
     have := h.2 v hv; omega
 · unfold ef
   split
   · exact o0 (by simp)
   · exact o0 h.1
theorem OkS.sub {a f : List Int} (h : OkS a) (hs : f.Sublist a) (hne : f ≠ []) : OkS f :=
 ⟨hne, Nat.le_trans hs.length_le h.le, fun v hv => h.rng v (hs.mem hv), h.asc.sublist hs⟩
theorem lN {a f : List Int} (h : f ∈ be a) : f.Sublist a ∧ (a ≠ [] → f ≠ []) := by
 unfold be at h
 split at h
 · simp at h
 · rename_i hl
   obtain ⟨i, hi, rfl⟩ := List.mem_map.1 h
   rw [List.mem_range] at hi
   refine ⟨List.eraseIdx_sublist a i, fun hne e => ?_⟩
   have := congrArg List.length e
   rw [List.length_eraseIdx, if_pos hi, List.length_nil] at this
   omega
theorem Lx {l : List (List Int)} (h : Srt l) : ∀ i (hi : i + 1 < l.length), aW l[i + 1] l[i] = 1 := by
 intro i hi
 have := List.pairwise_iff_getElem.1 h i (i + 1) (by omega) hi (by omega)
 rw [oT, this]; rfl
structure Cx (l : List (List Int)) : Prop where
 ok : ∀ a ∈ l, OkS a
 srt : Srt l
 sub : ∀ a ∈ l, ∀ f : List Int, f.Sublist a → f ≠ [] → f ∈ l
 le : l.length ≤ 1024
theorem Cx.okC {l : List (List Int)} (h : Cx l) : OkC l := ⟨h.ok, Lx h.srt, fun a ha f hf => h.sub a ha f (lN hf).1 ((lN hf).2 (h.ok a ha).ne), h.le⟩
theorem FS {l : List (List Int)} {most dim : Nat} {n : Int} (hmost : most ≤ 8) (hdim : dim ≤ 4) (hn : 0 < n) (hn64 : n ≤ 64) : Cx (mD l most dim n) := by
 have hf : ∀ a ∈ db most (dim + 1) n l, OkS a := by
  intro a ha
  obtain ⟨b, rfl⟩ := oO l most ha
  exact FR (by omega) (by omega) hn hn64 b
 refine ⟨fun a ha => ?_, oY _ _ List.Pairwise.nil, fun a ha f hs hne => ?_, ?_⟩
 · obtain ⟨b, hb, hs, hne⟩ := lM.1 ha
   exact (hf b hb).sub hs hne
 · obtain ⟨b, hb, hs', _⟩ := lM.1 ha
   exact lM.2 ⟨b, hb, hs.trans hs', hne⟩
 · have h1 := kB (q := 5) (db most (dim + 1) n l) [] (fun a ha => (hf a ha).le)
   have h2 := ku (dim + 1) n l most
   have h3 : (2 : Nat) ^ 5 = 32 := by decide
   rw [h3] at h1
   simp only [mD, fW]
   simp at h1
   omega
theorem yP {s : List Int} : ∀ (l : List (List Int)) (i : Nat), ck 0 (jG s i l) = true ↔ s ∈ l
 | [], i => by simp [jG]; rfl
 | a :: r, i => by
  unfold jG
  cases hq : dJ (aW a s) 0 with
  | true => rw [jS] at hq; simp [hq]; rfl
  | false =>
   have hne : a ≠ s := fun e => by rw [(jS a s).2 e] at hq; cases hq
   simp only []
   rw [yP r (i + 1), List.mem_cons]
   simp [Ne.symm hne]
theorem pJ {l : List (List Int)} {s : List Int} : ck 0 (oP l s) = true ↔ s ∈ l := yP l 0
end Go.CP
namespace Go.CP
open Go.Proofs
variable [LG] [HK]
def Awake (K : Ctx) : Prop := K.memo 14 = [(.nil, .one (.c (.bo true)))]
section
variable {K : Ctx} {h : Hp}
theorem Awake.comes (A : Awake K) : Comes K 14 [] h (.bo true) h := ⟨1, fun d fu hd _ => by
 obtain ⟨d, rfl⟩ : ∃ m, d = m + 1 := ⟨d - 1, by omega⟩
 unfold Awake at A
 simp only [dz, Ctx.env, A, kS, qZ, BV, lay]⟩
theorem t4 : ae Tryz.prog 4 = .bool := by kernel_rfl
end
end Go.CP
