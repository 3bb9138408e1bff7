import Derived.Test.YtadagifjonbmjaaGreatDoorKl1
import Derived.Test.YtadagifjonbmjaaGreatDoorKw1
set_option linter.all false
namespace Go.CP
variable [LG] [HK]
theorem je (x y : Int) (a b : List Int) : cN (x :: a) (y :: b) = if x < y then -1 else if y < x then 1 else cN a b := by
 rw [vT]
 unfold iA
 split
 · simp
 · split <;> simp
theorem vY : ∀ (a b : List Int), cN b a = - cN a b
 | [], [] => rfl
 | [], _ :: _ => rfl
 | _ :: _, [] => rfl
 | x :: a, y :: b => by
  rw [je, je, vY a b]
  split
  · rw [if_neg (by omega)]
  · split <;> simp
theorem vZ : ∀ (a b : List Int), cN a b = -1 ∨ cN a b = 0 ∨ cN a b = 1
 | [], [] => .inr (.inl rfl)
 | [], _ :: _ => .inr (.inl rfl)
 | _ :: _, [] => .inr (.inl rfl)
 | x :: a, y :: b => by
  rw [je]
  split
  · exact .inl rfl
  · split
    · exact .inr (.inr rfl)
    · exact vZ a b
theorem wa : ∀ (a b : List Int), a.length = b.length → (cN a b = 0 ↔ a = b)
 | [], [], _ => by simp [cN]
 | [], _ :: _, h => by simp at h
 | _ :: _, [], h => by simp at h
 | x :: a, y :: b, h => by
  rw [je]
  have := wa a b (by simpa using h)
  split
  · simp; omega
  · split
    · simp; omega
    · rw [this]; simp; omega
theorem tj : ∀ (a b c : List Int), a.length = b.length → b.length = c.length → cN a b = -1 → cN b c = -1 → cN a c = -1
 | [], _, _, _, _, h, _ => by rename_i b _ _ _ _; cases b <;> simp [cN] at h
 | _ :: _, [], _, h, _, _, _ => by simp at h
 | _ :: _, _ :: _, [], _, h, _, _ => by simp at h
 | x :: a, y :: b, z :: c, h1, h2, h3, h4 => by
  rw [je] at h3 h4 ⊢
  have ih := tj a b c (by simpa using h1) (by simpa using h2)
  by_cases e1 : x < y
  · by_cases e2 : y < z
    · rw [if_pos (by omega)]
    · rw [if_neg e2] at h4
      by_cases e3 : z < y
      · rw [if_pos e3] at h4; simp at h4
      · rw [if_pos (by omega)]
  · rw [if_neg e1] at h3
    by_cases e4 : y < x
    · rw [if_pos e4] at h3; simp at h3
    · rw [if_neg e4] at h3
      by_cases e2 : y < z
      · rw [if_pos (by omega)]
      · rw [if_neg e2] at h4
        by_cases e3 : z < y
        · rw [if_pos e3] at h4; simp at h4
        · rw [if_neg e3] at h4
          rw [if_neg (by omega), if_neg (by omega)]
          exact ih h3 h4
theorem fL (a b : List Int) : a8 a b = 0 ↔ a = b := by
 unfold a8
 by_cases h : a.length = b.length
 · rw [if_pos h]; exact wa a b h
 · rw [if_neg h]
   constructor
   · intro e; split at e <;> simp at e
   · intro e; rw [e] at h; exact absurd rfl h
theorem wb (a b : List Int) : a8 b a = - a8 a b := by
 unfold a8
 by_cases h : a.length = b.length
 · rw [if_pos h, if_pos h.symm]; exact vY a b
 · rw [if_neg h, if_neg (Ne.symm h)]
   split
   · rw [if_neg (by omega)]
   · rw [if_pos (by omega)]; rfl
theorem lJ (a b : List Int) : a8 a b = -1 ∨ a8 a b = 0 ∨ a8 a b = 1 := by
 unfold a8
 split
 · exact vZ a b
 · split
   · exact .inl rfl
   · exact .inr (.inr rfl)
def LtS (a b : List Int) : Prop := a8 a b = -1
theorem LtS.trans {a b c : List Int} (h : LtS a b) (h' : LtS b c) : LtS a c := by
 unfold LtS a8 at *
 by_cases e1 : a.length = b.length
 · rw [if_pos e1] at h
   by_cases e2 : b.length = c.length
   · rw [if_pos e2] at h'
     rw [if_pos (by omega)]
     exact tj a b c e1 e2 h h'
   · rw [if_neg e2] at h'
     by_cases e3 : b.length < c.length
     · rw [if_neg (by omega), if_pos (by omega)]
     · rw [if_neg e3] at h'; simp at h'
 · rw [if_neg e1] at h
   by_cases e4 : a.length < b.length
   · by_cases e2 : b.length = c.length
     · rw [if_neg (by omega), if_pos (by omega)]
     · rw [if_neg e2] at h'
       by_cases e3 : b.length < c.length
       · rw [if_neg (by omega), if_pos (by omega)]
       · rw [if_neg e3] at h'; simp at h'
   · rw [if_neg e4] at h; simp at h
theorem LtS.of {a b : List Int} (h1 : a ≠ b) (h2 : a8 a b ≠ -1) : LtS b a := by
 unfold LtS
 rw [wb]
 rcases lJ a b with h | h | h
 · exact absurd h h2
 · exact absurd ((fL a b).1 h) h1
 · rw [h]
theorem jY (a b : List Int) : dK (a8 a b) 0 = true ↔ a = b := by rw [fi, decide_eq_true_iff, fL]
def jr (s : List Int) : List (List Int) → List (List Int)
 | [] => [s]
 | a :: r => if a8 s a = -1 then s :: a :: r else a :: jr s r
theorem tk (s : List Int) : ∀ (r out : List (List Int)), cW s r out true = if s ∈ r then none else some (out ++ r)
 | [], out => by simp [cW]
 | a :: r, out => by
  unfold cW
  cases hq : dK (a8 s a) 0 with
  | true => rw [jY] at hq; simp [hq]
  | false =>
   have hne : s ≠ a := fun e => by rw [(jY s a).2 e] at hq; cases hq
   have := tk s r (out ++ [a])
   cases cI 0 (a8 s a) <;> simp only [] <;> rw [this] <;> simp [hne]
theorem qF (s : List Int) : ∀ (r out : List (List Int)), cW s r out false = if s ∈ r then none else some (out ++ jr s r)
 | [], out => by simp [cW, jr]
 | a :: r, out => by
  unfold cW
  cases hq : dK (a8 s a) 0 with
  | true => rw [jY] at hq; simp [hq]
  | false =>
   have hne : s ≠ a := fun e => by rw [(jY s a).2 e] at hq; cases hq
   cases hl : cI 0 (a8 s a) with
   | false =>
    rw [dO] at hl
    have hl := of_decide_eq_false hl
    have hc : a8 s a = -1 := by rcases lJ s a with h | h | h <;> omega
    simp only []
    rw [tk, jr, if_pos hc]
    simp [hne]
   | true =>
    rw [dO] at hl
    have hl := of_decide_eq_true hl
    have hc : a8 s a ≠ -1 := by omega
    simp only []
    rw [qF s r, jr, if_neg hc]
    simp [hne]
theorem BP (l : List (List Int)) (s : List Int) : eA l s = if s ∈ l then l else jr s l := by
 unfold eA
 rw [qF]
 split <;> simp
theorem rn {s x : List Int} : ∀ {l : List (List Int)}, x ∈ jr s l ↔ x = s ∨ x ∈ l
 | [] => by simp [jr]
 | a :: r => by
  unfold jr
  split
  · simp
  · simp only [List.mem_cons, rn (l := r)]
    constructor
    · rintro (h | h | h) <;> simp [h]
    · rintro (h | h | h) <;> simp [h]
theorem pw {l : List (List Int)} {s x : List Int} : x ∈ eA l s ↔ x = s ∨ x ∈ l := by
 rw [BP]
 split
 · rename_i h
   constructor
   · exact .inr
   · rintro (rfl | h') <;> assumption
 · exact rn
abbrev Srt (l : List (List Int)) : Prop := l.Pairwise LtS
theorem yT {s : List Int} : ∀ {l : List (List Int)}, Srt l → s ∉ l → Srt (jr s l)
 | [], _, _ => by simp [jr]
 | a :: r, h, hn => by
  have h1 := List.pairwise_cons.1 h
  have hsa : s ≠ a := fun e => hn (by simp [e])
  unfold jr
  split
  · rename_i hc
    refine List.pairwise_cons.2 ⟨fun x hx => ?_, h⟩
    rcases List.mem_cons.1 hx with rfl | hx
    · exact hc
    · exact LtS.trans hc (h1.1 x hx)
  · rename_i hc
    refine List.pairwise_cons.2 ⟨fun x hx => ?_, yT h1.2 (fun e => hn (by simp [e]))⟩
    rcases rn.1 hx with rfl | hx
    · exact LtS.of hsa hc
    · exact h1.1 x hx
theorem IA {l : List (List Int)} (h : Srt l) (s : List Int) : Srt (eA l s) := by
 rw [BP]
 split
 · exact h
 · exact yT h (by assumption)
theorem lK {a x : List Int} : ∀ (c m : Nat) (out : List (List Int)), x ∈ fl a c m out ↔ (∃ k, m ≤ k ∧ k < m + c ∧ x = cG k 0 a) ∨ x ∈ out
 | 0, m, out => by
  simp only [fl]
  constructor
  · exact .inr
  · rintro (⟨k, h1, h2, _⟩ | h)
    · omega
    · exact h
 | c + 1, m, out => by
  simp only [fl]
  rw [lK c (m + 1), pw]
  constructor
  · rintro (⟨k, h1, h2, h3⟩ | h | h)
    · exact .inl ⟨k, by omega, by omega, h3⟩
    · exact .inl ⟨m, by omega, by omega, h⟩
    · exact .inr h
  · rintro (⟨k, h1, h2, h3⟩ | h)
    · rcases Nat.eq_or_lt_of_le h1 with rfl | h1
      · exact .inr (.inl h3)
      · exact .inl ⟨k, h1, by omega, h3⟩
    · exact .inr (.inr h)
theorem kN (m : Nat) : ∀ (a : List Int) (i : Nat), (cG m i a).Sublist a
 | [], i => by simp [cG]
 | y :: r, i => by
  unfold cG
  split
  · exact (kN m r (i + 1)).cons_cons y
  · exact (kN m r (i + 1)).cons y
theorem Mg {x a : List Int} (h : x.Sublist a) : ∃ m, m < 2 ^ a.length ∧ ∀ i r, r < 2 ^ i → cG (m * 2 ^ i + r) i a = x := by
 induction h with
 | slnil => exact ⟨0, by simp, fun i r _ => rfl⟩
 | @cons x a y h ih =>
  obtain ⟨m, hm, hs⟩ := ih
  refine ⟨2 * m, by rw [List.length_cons, Nat.pow_succ]; omega, fun i r hr => ?_⟩
  have h2 : 0 < 2 ^ i := Nat.pow_pos (by decide)
  have e1 : (2 * m * 2 ^ i + r) / 2 ^ i = 2 * m := by
   rw [Nat.add_comm, Nat.add_mul_div_right _ _ h2, Nat.div_eq_of_lt hr]; omega
  have e2 : 2 * m * 2 ^ i + r = m * 2 ^ (i + 1) + r := by rw [Nat.pow_succ, Nat.mul_comm 2 m, Nat.mul_assoc, Nat.mul_comm 2 (2 ^ i)]
  unfold cG
  rw [e1, if_neg (by omega), e2]
  exact hs (i + 1) r (by rw [Nat.pow_succ]; omega)
 | @cons_cons x a y h ih =>
  obtain ⟨m, hm, hs⟩ := ih
  refine ⟨2 * m + 1, by rw [List.length_cons, Nat.pow_succ]; omega, fun i r hr => ?_⟩
  have h2 : 0 < 2 ^ i := Nat.pow_pos (by decide)
  have e1 : ((2 * m + 1) * 2 ^ i + r) / 2 ^ i = 2 * m + 1 := by
   rw [Nat.add_comm, Nat.add_mul_div_right _ _ h2, Nat.div_eq_of_lt hr]; omega
  have e2 : (2 * m + 1) * 2 ^ i + r = m * 2 ^ (i + 1) + (2 ^ i + r) := by
   rw [Nat.pow_succ, Nat.add_mul, Nat.mul_comm 2 m, Nat.mul_assoc, Nat.mul_comm 2 (2 ^ i)]; omega
  unfold cG
  rw [e1, if_pos (by omega), e2, hs (i + 1) (2 ^ i + r) (by rw [Nat.pow_succ]; omega)]
theorem yU {m : Nat} : ∀ (a : List Int) (i : Nat), cG m i a = [] → m / 2 ^ i % 2 ^ a.length = 0
 | [], i, _ => by simp [Nat.mod_one]
 | y :: r, i, h => by
  unfold cG at h
  split at h
  · cases h
  · rename_i hb
    have ih := yU r (i + 1) h
    rw [List.length_cons, Nat.pow_succ, Nat.mul_comm, Nat.mod_mul]
    rw [Nat.pow_succ, ← Nat.div_div_eq_div_mul] at ih
    rw [ih]; omega
theorem wc : ∀ (a : List Int) (i : Nat), cG 0 i a = []
 | [], i => rfl
 | y :: r, i => by unfold cG; rw [Nat.zero_div, if_neg (by simp)]; exact wc r (i + 1)
theorem CY {a x : List Int} : x ∈ dT a ↔ x.Sublist a ∧ x ≠ [] := by
 unfold dT
 rw [lK]
 have hp : 0 < 2 ^ a.length := Nat.pow_pos (by decide)
 constructor
 · rintro (⟨k, h1, h2, rfl⟩ | h)
   · refine ⟨kN _ _ _, fun e => ?_⟩
     have := yU a 0 e
     rw [Nat.pow_zero, Nat.div_one, Nat.mod_eq_of_lt (by omega)] at this
     omega
   · simp at h
 · rintro ⟨h1, h2⟩
   obtain ⟨m, hm, hs⟩ := Mg h1
   have := hs 0 0 (by simp)
   rw [Nat.pow_zero, Nat.mul_one, Nat.add_zero] at this
   refine .inl ⟨m, ?_, by omega, this.symm⟩
   rcases Nat.eq_zero_or_pos m with rfl | h
   · rw [wc] at this; exact absurd this.symm h2
   · exact h
theorem px {x : List Int} : ∀ (f out : List (List Int)), x ∈ fc out f ↔ x ∈ out ∨ x ∈ f
 | [], out => by simp [fc]
 | s :: f, out => by
  have := px (x := x) f (eA out s)
  simp only [fc, List.foldl_cons] at this ⊢
  rw [this, pw, List.mem_cons]
  constructor
  · rintro ((h | h) | h) <;> simp [h]
  · rintro (h | h | h) <;> simp [h]
theorem py : ∀ (f out : List (List Int)), Srt out → Srt (fc out f)
 | [], _, h => h
 | s :: f, out, h => by
  have := py f (eA out s) (IA h s)
  simpa only [fc, List.foldl_cons] using this
theorem pz {x : List Int} : ∀ (l out : List (List Int)), x ∈ cH l out ↔ x ∈ out ∨ ∃ a ∈ l, x ∈ dT a
 | [], out => by simp [cH]
 | a :: r, out => by
  rw [cH, pz r, px]
  constructor
  · rintro ((h | h) | ⟨b, h1, h2⟩)
    · exact .inl h
    · exact .inr ⟨a, by simp, h⟩
    · exact .inr ⟨b, by simp [h1], h2⟩
  · rintro (h | ⟨b, h1, h2⟩)
    · exact .inl (.inl h)
    · rcases List.mem_cons.1 h1 with rfl | h1
      · exact .inl (.inr h2)
      · exact .inr ⟨b, h1, h2⟩
theorem kO : ∀ (l out : List (List Int)), Srt out → Srt (cH l out)
 | [], _, h => h
 | a :: r, out, h => kO r _ (py _ _ h)
theorem iM {l : List (List Int)} {x : List Int} : x ∈ fm l ↔ ∃ a ∈ l, x.Sublist a ∧ x ≠ [] := by
 unfold fm
 rw [pz]
 simp only [CY, List.not_mem_nil, false_or]
theorem kP {q : Nat} : ∀ (l out : List (List Int)), (∀ a ∈ l, a.length ≤ q) → (cH l out).length ≤ out.length + 2 ^ q * l.length
 | [], out, _ => by simp [cH]
 | a :: r, out, h => by
  have h1 := kP r (fc out (dT a)) (fun b hb => h b (List.mem_cons_of_mem _ hb))
  have h2 := gY (dT a) out
  have h3 := jo a
  have h4 : 2 ^ a.length ≤ 2 ^ q := Nat.pow_le_pow_right (by decide) (h a List.mem_cons_self)
  simp only [cH, List.length_cons, Nat.mul_succ] at h1 ⊢
  omega
def fe (v : Int) : List Int → List Int
 | [] => [v]
 | u :: p => if u ≤ v then v :: u :: p else u :: fe v p
theorem BQ : ∀ (p : List Int) (v : Int) (post : List Int), kK (p.reverse ++ v :: post) p.length = (fe v p).reverse ++ post
 | [], v, post => by simp [kK, fe]
 | u :: p, v, post => by
  have e0 : (u :: p).reverse ++ v :: post = p.reverse ++ u :: v :: post := by simp
  have g1 : (p.reverse ++ u :: v :: post).getD p.length 0 = u := by
   rw [List.getD_eq_getElem?_getD, List.getElem?_append_right (by simp)]; simp
  have g2 : (p.reverse ++ u :: v :: post).getD (p.length + 1) 0 = v := by
   rw [List.getD_eq_getElem?_getD, List.getElem?_append_right (by simp)]; simp
  rw [e0, List.length_cons, kK, g1, g2]
  by_cases h : u ≤ v
  · rw [hD h]; simp [fe, h]
  · rw [iL (by omega)]
    have hs : BM (p.reverse ++ u :: v :: post) p.length = p.reverse ++ v :: u :: post := by
     rw [BM, g1, g2, List.set_append_right _ _ (by simp), List.set_append_right _ _ (by simp)]
     simp
    simp only [hs]
    rw [BQ p v (u :: post)]
    simp [fe, h]
theorem wd : ∀ (rest p : List Int), jd rest.length p.length (p.reverse ++ rest) = (rest.foldl (fun p v => fe v p) p).reverse
 | [], p => by simp [jd]
 | v :: rest, p => by
  rw [List.length_cons, jd, BQ]
  have hl : (fe v p).length = p.length + 1 := by
   have : ∀ p : List Int, (fe v p).length = p.length + 1 := by
    intro p; induction p with
    | nil => rfl
    | cons u p ih => unfold fe; split <;> simp [ih]
   exact this p
  rw [← hl, wd rest (fe v p)]
  simp
theorem yV (c : List Int) : gX c = (c.foldl (fun p v => fe v p) []).reverse := by
 have := wd c []
 simpa [gX] using this
theorem pB (v : Int) : ∀ p : List Int, (fe v p).Perm (v :: p)
 | [] => .refl _
 | u :: p => by
  unfold fe; split
  · exact .refl _
  · exact ((pB v p).cons u).trans (.swap v u p)
theorem we (v : Int) : ∀ {p : List Int}, p.Pairwise (fun a b => b ≤ a) → (fe v p).Pairwise (fun a b => b ≤ a)
 | [], _ => by simp [fe]
 | u :: p, h => by
  have h1 := List.pairwise_cons.1 h
  unfold fe; split
  · refine List.pairwise_cons.2 ⟨fun x hx => ?_, h⟩
    rcases List.mem_cons.1 hx with rfl | hx
    · assumption
    · have := h1.1 x hx; omega
  · refine List.pairwise_cons.2 ⟨fun x hx => ?_, we v h1.2⟩
    have := (pB v p).mem_iff.1 hx
    rcases List.mem_cons.1 this with rfl | hx
    · omega
    · exact h1.1 x hx
theorem wg : ∀ (c p : List Int), (c.foldl (fun p v => fe v p) p).Perm (c.reverse ++ p)
 | [], p => .refl _
 | v :: c, p => by
  have := wg c (fe v p)
  simp only [List.foldl_cons, List.reverse_cons, List.append_assoc]
  exact this.trans ((pB v p).append_left _)
theorem wh : ∀ (c p : List Int), p.Pairwise (fun a b => b ≤ a) → (c.foldl (fun p v => fe v p) p).Pairwise (fun a b => b ≤ a)
 | [], p, h => h
 | v :: c, p, h => wh c _ (we v h)
theorem nG (c : List Int) : (gX c).Perm c := by
 rw [yV]
 have := wg c []
 rw [List.append_nil] at this
 exact (List.reverse_perm _).trans (this.trans (List.reverse_perm _))
theorem IB (c : List Int) : (gX c).Pairwise (· ≤ ·) := by
 rw [yV, List.pairwise_reverse]
 exact wh c [] List.Pairwise.nil
theorem Qi {c : List Int} (h : c.Pairwise (· ≤ ·)) (hn : c.Nodup) : c.Pairwise (· < ·) := by
 have := h.and hn
 exact this.imp fun ⟨h1, h2⟩ => by omega
theorem wi {c : List Int} (h : c.Nodup) : (gX c).Pairwise (· < ·) := Qi (IB c) ((nG c).nodup_iff.2 h)
theorem gm : ∀ {u w : List Int}, u.Pairwise (· < ·) → w.Pairwise (· < ·) → (∀ v ∈ u, v ∈ w) → u.Sublist w
 | [], w, _, _, _ => List.nil_sublist w
 | x :: u, [], _, _, h => absurd (h x (by simp)) (by simp)
 | x :: u, y :: w, hu, hw, h => by
  have h1 := List.pairwise_cons.1 hu
  have h2 := List.pairwise_cons.1 hw
  by_cases e : x = y
  · subst e
    refine List.Sublist.cons_cons x (gm h1.2 h2.2 fun v hv => ?_)
    rcases List.mem_cons.1 (h v (by simp [hv])) with rfl | h3
    · have := h1.1 v hv; omega
    · exact h3
  · refine List.Sublist.cons y (gm hu h2.2 fun v hv => ?_)
    rcases List.mem_cons.1 (h v hv) with rfl | h3
    · exfalso
      rcases List.mem_cons.1 (h x (by simp)) with h4 | h4
      · exact e h4
      · have := h2.1 x h4
        rcases List.mem_cons.1 hv with h5 | h5
        · exact e h5.symm
        · have := h1.1 v h5; omega
    · exact h3
theorem vj (a : List Int) (v : Int) : dW a v = true ↔ v ∈ a := by
 simp [dW, List.any_eq_true, fi]
theorem Mh {n : Int} (hn : 0 < n) (x : Int) : 0 ≤ pm n x ∧ pm n x < n := by
 unfold pm
 have h1 := vb (x := x) hn
 constructor
 · exact Int.tmod_nonneg _ (by omega)
 · exact Int.tmod_lt_of_pos _ hn
theorem nH {most : Nat} {n : Int} (hn : 0 < n) : ∀ (a c : List Int), c.Nodup → (∀ v ∈ c, 0 ≤ v ∧ v < n) → (cx most n a c).Nodup ∧ ∀ v ∈ cx most n a c, 0 ≤ v ∧ v < n
 | [], c, h1, h2 => ⟨h1, h2⟩
 | y :: r, c, h1, h2 => by
  unfold cx
  split
  · cases hq : dW c (pm n y) with
    | true => exact nH hn r c h1 h2
    | false =>
     refine nH hn r _ ?_ ?_
     · rw [List.nodup_append]
       refine ⟨h1, by simp, fun x hx y' hy => ?_⟩
       rw [List.mem_singleton] at hy
       subst hy
       intro e; subst e
       rw [(vj c _).2 hx] at hq; cases hq
     · intro v hv
       rcases List.mem_append.1 hv with hv | hv
       · exact h2 v hv
       · rw [List.mem_singleton] at hv; subst hv; exact Mh hn y
  · exact ⟨h1, h2⟩
theorem Gv {most : Nat} {n : Int} (hm : 1 ≤ most) (hm5 : most ≤ 5) (hn : 0 < n) (hn64 : n ≤ 64) (a : List Int) : OkS (dS a most n) := by
 have h := nH (most := most) hn a [] (by simp) (by simp)
 have hl := oa a most n hm
 refine ⟨?_, by omega, ?_, ?_⟩
 · intro e
   have hlen : (dS a most n).length = 0 := by rw [e]; rfl
   unfold dS at hlen
   split at hlen
   · rw [gZ] at hlen; simp at hlen
   · rename_i o
     rw [gZ] at hlen
     exact o (List.eq_nil_of_length_eq_zero hlen)
 · intro v hv
   unfold dS at hv
   split at hv
   · rw [(nG _).mem_iff] at hv; simp at hv; omega
   · rw [(nG _).mem_iff] at hv
     have := h.2 v hv; omega
 · unfold dS
   split
   · exact wi (by simp)
   · exact wi h.1
theorem OkS.sub {a f : List Int} (h : OkS a) (hs : f.Sublist a) (hne : f ≠ []) : OkS f :=
 ⟨hne, Nat.le_trans hs.length_le h.le, fun v hv => h.rng v (hs.mem hv), h.asc.sublist hs⟩
theorem zW {a f : List Int} (h : f ∈ bg a) : f.Sublist a ∧ (a ≠ [] → f ≠ []) := by
 unfold bg at h
 split at h
 · simp at h
 · rename_i hl
   obtain ⟨i, hi, rfl⟩ := List.mem_map.1 h
   rw [List.mem_range] at hi
   refine ⟨List.eraseIdx_sublist a i, fun hne e => ?_⟩
   have := congrArg List.length e
   rw [List.length_eraseIdx, if_pos hi, List.length_nil] at this
   omega
structure Cx (l : List (List Int)) : Prop where
 ok : ∀ a ∈ l, OkS a
 srt : Srt l
 sub : ∀ a ∈ l, ∀ f : List Int, f.Sublist a → f ≠ [] → f ∈ l
 le : l.length ≤ 1024
theorem Gw {l : List (List Int)} {most dim : Nat} {n : Int} (hmost : most ≤ 8) (hdim : dim ≤ 4) (hn : 0 < n) (hn64 : n ≤ 64) : Cx (mJ l most dim n) := by
 have hf : ∀ a ∈ cX most (dim + 1) n l, OkS a := by
  intro a ha
  obtain ⟨b, rfl⟩ := pu l most ha
  exact Gv (by omega) (by omega) hn hn64 b
 refine ⟨fun a ha => ?_, kO _ _ List.Pairwise.nil, fun a ha f hs hne => ?_, ?_⟩
 · obtain ⟨b, hb, hs, hne⟩ := iM.1 ha
   exact (hf b hb).sub hs hne
 · obtain ⟨b, hb, hs', _⟩ := iM.1 ha
   exact iM.2 ⟨b, hb, hs.trans hs', hne⟩
 · have h1 := kP (q := 5) (cX most (dim + 1) n l) [] (fun a ha => (hf a ha).le)
   have h2 := kM (dim + 1) n l most
   have h3 : (2 : Nat) ^ 5 = 32 := by decide
   rw [h3] at h1
   simp only [mJ, fm]
   simp at h1
   omega
theorem yW {s : List Int} : ∀ (l : List (List Int)) (i : Nat), cI 0 (jL s i l) = true ↔ s ∈ l
 | [], i => by simp [jL]; rfl
 | a :: r, i => by
  unfold jL
  cases hq : dK (a8 a s) 0 with
  | true => rw [jY] at hq; simp [hq]; rfl
  | false =>
   have hne : a ≠ s := fun e => by rw [(jY a s).2 e] at hq; cases hq
   simp only []
   rw [yW r (i + 1), List.mem_cons]
   simp [Ne.symm hne]
theorem BS {l : List (List Int)} {s : List Int} : cI 0 (CS l s) = true ↔ s ∈ l := yW l 0
end Go.CP
namespace Go.CP
open Go.Proofs
variable [LG] [HK]
def Awake (K : Ctx) : Prop := K.memo 14 = [(.nil, .one (.c (.bo true)))]
section
variable {K : Ctx} {h : Hp}
theorem Awake.comes (A : Awake K) : Comes K 14 [] h (.bo true) h := ⟨1, fun d fu hd _ => by
 obtain ⟨d, rfl⟩ : ∃ m, d = m + 1 := ⟨d - 1, by omega⟩
 unfold Awake at A
 simp only [cE, Ctx.env, A, lq, rM, B9, lay]⟩
theorem t4 : ae Tryz.prog 4 = .bool := by kernel_rfl
end
end Go.CP
