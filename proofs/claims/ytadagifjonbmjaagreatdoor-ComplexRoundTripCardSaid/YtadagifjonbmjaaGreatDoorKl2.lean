import Derived.Test.YtadagifjonbmjaaGreatDoorKl1
import Derived.Test.YtadagifjonbmjaaGreatDoorKw1
set_option linter.all false
namespace Go.CP
variable [LG] [HK]
theorem iN (x y : Int) (a b : List Int) : cE (x :: a) (y :: b) = if x < y then -1 else if y < x then 1 else cE a b := by
 rw [ug]
 unfold ib
 split
 · simp
 · split <;> simp
theorem uk : ∀ (a b : List Int), cE b a = - cE a b
 | [], [] => rfl
 | [], _ :: _ => rfl
 | _ :: _, [] => rfl
 | x :: a, y :: b => by
  rw [iN, iN, uk a b]
  split
  · rw [if_neg (by omega)]
  · split <;> simp
theorem ul : ∀ (a b : List Int), cE a b = -1 ∨ cE a b = 0 ∨ cE a b = 1
 | [], [] => .inr (.inl rfl)
 | [], _ :: _ => .inr (.inl rfl)
 | _ :: _, [] => .inr (.inl rfl)
 | x :: a, y :: b => by
  rw [iN]
  split
  · exact .inl rfl
  · split
    · exact .inr (.inr rfl)
    · exact ul a b
theorem um : ∀ (a b : List Int), a.length = b.length → (cE a b = 0 ↔ a = b)
 | [], [], _ => by simp [cE]
 | [], _ :: _, h => by simp at h
 | _ :: _, [], h => by simp at h
 | x :: a, y :: b, h => by
  rw [iN]
  have := um a b (by simpa using h)
  split
  · simp; omega
  · split
    · simp; omega
    · rw [this]; simp; omega
theorem rF : ∀ (a b c : List Int), a.length = b.length → b.length = c.length → cE a b = -1 → cE b c = -1 → cE a c = -1
 | [], _, _, _, _, h, _ => by rename_i b _ _ _ _; cases b <;> simp [cE] at h
 | _ :: _, [], _, h, _, _, _ => by simp at h
 | _ :: _, _ :: _, [], _, h, _, _ => by simp at h
 | x :: a, y :: b, z :: c, h1, h2, h3, h4 => by
  rw [iN] at h3 h4 ⊢
  have ih := rF a b c (by simpa using h1) (by simpa using h2)
  by_cases e1 : x < y
  · by_cases e2 : y < z
    · rw [if_pos (by omega)]
    · rw [if_neg e2] at h4
      by_cases e3 : z < y
      · rw [if_pos e3] at h4; simp at h4
      · rw [if_pos (by omega)]
  · rw [if_neg e1] at h3
    by_cases e4 : y < x
    · rw [if_pos e4] at h3; simp at h3
    · rw [if_neg e4] at h3
      by_cases e2 : y < z
      · rw [if_pos (by omega)]
      · rw [if_neg e2] at h4
        by_cases e3 : z < y
        · rw [if_pos e3] at h4; simp at h4
        · rw [if_neg e3] at h4
          rw [if_neg (by omega), if_neg (by omega)]
          exact ih h3 h4
theorem fA (a b : List Int) : a8 a b = 0 ↔ a = b := by
 unfold a8
 by_cases h : a.length = b.length
 · rw [if_pos h]; exact um a b h
 · rw [if_neg h]
   constructor
   · intro e; split at e <;> simp at e
   · intro e; rw [e] at h; exact absurd rfl h
theorem uo (a b : List Int) : a8 b a = - a8 a b := by
 unfold a8
 by_cases h : a.length = b.length
 · rw [if_pos h, if_pos h.symm]; exact uk a b
 · rw [if_neg h, if_neg (Ne.symm h)]
   split
   · rw [if_neg (by omega)]
   · rw [if_pos (by omega)]; rfl
theorem kS (a b : List Int) : a8 a b = -1 ∨ a8 a b = 0 ∨ a8 a b = 1 := by
 unfold a8
 split
 · exact ul a b
 · split
   · exact .inl rfl
   · exact .inr (.inr rfl)
def LtS (a b : List Int) : Prop := a8 a b = -1
theorem LtS.trans {a b c : List Int} (h : LtS a b) (h' : LtS b c) : LtS a c := by
 unfold LtS a8 at *
 by_cases e1 : a.length = b.length
 · rw [if_pos e1] at h
   by_cases e2 : b.length = c.length
   · rw [if_pos e2] at h'
     rw [if_pos (by omega)]
     exact rF a b c e1 e2 h h'
   · rw [if_neg e2] at h'
     by_cases e3 : b.length < c.length
     · rw [if_neg (by omega), if_pos (by omega)]
     · rw [if_neg e3] at h'; simp at h'
 · rw [if_neg e1] at h
   by_cases e4 : a.length < b.length
   · by_cases e2 : b.length = c.length
     · rw [if_neg (by omega), if_pos (by omega)]
     · rw [if_neg e2] at h'
       by_cases e3 : b.length < c.length
       · rw [if_neg (by omega), if_pos (by omega)]
       · rw [if_neg e3] at h'; simp at h'
   · rw [if_neg e4] at h; simp at h
theorem LtS.of {a b : List Int} (h1 : a ≠ b) (h2 : a8 a b ≠ -1) : LtS b a := by
 unfold LtS
 rw [uo]
 rcases kS a b with h | h | h
 · exact absurd h h2
 · exact absurd ((fA a b).1 h) h1
 · rw [h]
theorem oU (a b : List Int) : dT (a8 a b) 0 = true ↔ a = b := by rw [eW, decide_eq_true_iff, fA]
def iZ (s : List Int) : List (List Int) → List (List Int)
 | [] => [s]
 | a :: r => if a8 s a = -1 then s :: a :: r else a :: iZ s r
theorem rG (s : List Int) : ∀ (r out : List (List Int)), cP s r out true = if s ∈ r then none else some (out ++ r)
 | [], out => by simp [cP]
 | a :: r, out => by
  unfold cP
  cases hq : dT (a8 s a) 0 with
  | true => rw [oU] at hq; simp [hq]
  | false =>
   have hne : s ≠ a := fun e => by rw [(oU s a).2 e] at hq; cases hq
   have := rG s r (out ++ [a])
   cases cI 0 (a8 s a) <;> simp only [] <;> rw [this] <;> simp [hne]
theorem pG (s : List Int) : ∀ (r out : List (List Int)), cP s r out false = if s ∈ r then none else some (out ++ iZ s r)
 | [], out => by simp [cP, iZ]
 | a :: r, out => by
  unfold cP
  cases hq : dT (a8 s a) 0 with
  | true => rw [oU] at hq; simp [hq]
  | false =>
   have hne : s ≠ a := fun e => by rw [(oU s a).2 e] at hq; cases hq
   cases hl : cI 0 (a8 s a) with
   | false =>
    rw [dD] at hl
    have hl := of_decide_eq_false hl
    have hc : a8 s a = -1 := by rcases kS s a with h | h | h <;> omega
    simp only []
    rw [rG, iZ, if_pos hc]
    simp [hne]
   | true =>
    rw [dD] at hl
    have hl := of_decide_eq_true hl
    have hc : a8 s a ≠ -1 := by omega
    simp only []
    rw [pG s r, iZ, if_neg hc]
    simp [hne]
theorem zK (l : List (List Int)) (s : List Int) : ee l s = if s ∈ l then l else iZ s l := by
 unfold ee
 rw [pG]
 split <;> simp
theorem qe {s x : List Int} : ∀ {l : List (List Int)}, x ∈ iZ s l ↔ x = s ∨ x ∈ l
 | [] => by simp [iZ]
 | a :: r => by
  unfold iZ
  split
  · simp
  · simp only [List.mem_cons, qe (l := r)]
    constructor
    · rintro (h | h | h) <;> simp [h]
    · rintro (h | h | h) <;> simp [h]
theorem nY {l : List (List Int)} {s x : List Int} : x ∈ ee l s ↔ x = s ∨ x ∈ l := by
 rw [zK]
 split
 · rename_i h
   constructor
   · exact .inr
   · rintro (rfl | h') <;> assumption
 · exact qe
abbrev Srt (l : List (List Int)) : Prop := l.Pairwise LtS
theorem xg {s : List Int} : ∀ {l : List (List Int)}, Srt l → s ∉ l → Srt (iZ s l)
 | [], _, _ => by simp [iZ]
 | a :: r, h, hn => by
  have h1 := List.pairwise_cons.1 h
  have hsa : s ≠ a := fun e => hn (by simp [e])
  unfold iZ
  split
  · rename_i hc
    refine List.pairwise_cons.2 ⟨fun x hx => ?_, h⟩
    rcases List.mem_cons.1 hx with rfl | hx
    · exact hc
    · exact LtS.trans hc (h1.1 x hx)
  · rename_i hc
    refine List.pairwise_cons.2 ⟨fun x hx => ?_, xg h1.2 (fun e => hn (by simp [e]))⟩
    rcases qe.1 hx with rfl | hx
    · exact LtS.of hsa hc
    · exact h1.1 x hx
theorem Fv {l : List (List Int)} (h : Srt l) (s : List Int) : Srt (ee l s) := by
 rw [zK]
 split
 · exact h
 · exact xg h (by assumption)
theorem kT {a x : List Int} : ∀ (c m : Nat) (out : List (List Int)), x ∈ fb a c m out ↔ (∃ k, m ≤ k ∧ k < m + c ∧ x = cw k 0 a) ∨ x ∈ out
 | 0, m, out => by
  simp only [fb]
  constructor
  · exact .inr
  · rintro (⟨k, h1, h2, _⟩ | h)
    · omega
    · exact h
 | c + 1, m, out => by
  simp only [fb]
  rw [kT c (m + 1), nY]
  constructor
  · rintro (⟨k, h1, h2, h3⟩ | h | h)
    · exact .inl ⟨k, by omega, by omega, h3⟩
    · exact .inl ⟨m, by omega, by omega, h⟩
    · exact .inr h
  · rintro (⟨k, h1, h2, h3⟩ | h)
    · rcases Nat.eq_or_lt_of_le h1 with rfl | h1
      · exact .inr (.inl h3)
      · exact .inl ⟨k, h1, by omega, h3⟩
    · exact .inr (.inr h)
theorem kf (m : Nat) : ∀ (a : List Int) (i : Nat), (cw m i a).Sublist a
 | [], i => by simp [cw]
 | y :: r, i => by
  unfold cw
  split
  · exact (kf m r (i + 1)).cons_cons y
  · exact (kf m r (i + 1)).cons y
theorem I7 {x a : List Int} (h : x.Sublist a) : ∃ m, m < 2 ^ a.length ∧ ∀ i r, r < 2 ^ i → cw (m * 2 ^ i + r) i a = x := by
 induction h with
 | slnil => exact ⟨0, by simp, fun i r _ => rfl⟩
 | @cons x a y h ih =>
  obtain ⟨m, hm, hs⟩ := ih
  refine ⟨2 * m, by rw [List.length_cons, Nat.pow_succ]; omega, fun i r hr => ?_⟩
  have h2 : 0 < 2 ^ i := Nat.pow_pos (by decide)
  have e1 : (2 * m * 2 ^ i + r) / 2 ^ i = 2 * m := by
   rw [Nat.add_comm, Nat.add_mul_div_right _ _ h2, Nat.div_eq_of_lt hr]; omega
  have e2 : 2 * m * 2 ^ i + r = m * 2 ^ (i + 1) + r := by rw [Nat.pow_succ, Nat.mul_comm 2 m, Nat.mul_assoc, Nat.mul_comm 2 (2 ^ i)]
  unfold cw
  rw [e1, if_neg (by omega), e2]
  exact hs (i + 1) r (by rw [Nat.pow_succ]; omega)
 | @cons_cons x a y h ih =>
  obtain ⟨m, hm, hs⟩ := ih
  refine ⟨2 * m + 1, by rw [List.length_cons, Nat.pow_succ]; omega, fun i r hr => ?_⟩
  have h2 : 0 < 2 ^ i := Nat.pow_pos (by decide)
  have e1 : ((2 * m + 1) * 2 ^ i + r) / 2 ^ i = 2 * m + 1 := by
   rw [Nat.add_comm, Nat.add_mul_div_right _ _ h2, Nat.div_eq_of_lt hr]; omega
  have e2 : (2 * m + 1) * 2 ^ i + r = m * 2 ^ (i + 1) + (2 ^ i + r) := by
   rw [Nat.pow_succ, Nat.add_mul, Nat.mul_comm 2 m, Nat.mul_assoc, Nat.mul_comm 2 (2 ^ i)]; omega
  unfold cw
  rw [e1, if_pos (by omega), e2, hs (i + 1) (2 ^ i + r) (by rw [Nat.pow_succ]; omega)]
theorem xh {m : Nat} : ∀ (a : List Int) (i : Nat), cw m i a = [] → m / 2 ^ i % 2 ^ a.length = 0
 | [], i, _ => by simp [Nat.mod_one]
 | y :: r, i, h => by
  unfold cw at h
  split at h
  · cases h
  · rename_i hb
    have ih := xh r (i + 1) h
    rw [List.length_cons, Nat.pow_succ, Nat.mul_comm, Nat.mod_mul]
    rw [Nat.pow_succ, ← Nat.div_div_eq_div_mul] at ih
    rw [ih]; omega
theorem up : ∀ (a : List Int) (i : Nat), cw 0 i a = []
 | [], i => rfl
 | y :: r, i => by unfold cw; rw [Nat.zero_div, if_neg (by simp)]; exact up r (i + 1)
theorem AI {a x : List Int} : x ∈ dI a ↔ x.Sublist a ∧ x ≠ [] := by
 unfold dI
 rw [kT]
 have hp : 0 < 2 ^ a.length := Nat.pow_pos (by decide)
 constructor
 · rintro (⟨k, h1, h2, rfl⟩ | h)
   · refine ⟨kf _ _ _, fun e => ?_⟩
     have := xh a 0 e
     rw [Nat.pow_zero, Nat.div_one, Nat.mod_eq_of_lt (by omega)] at this
     omega
   · simp at h
 · rintro ⟨h1, h2⟩
   obtain ⟨m, hm, hs⟩ := I7 h1
   have := hs 0 0 (by simp)
   rw [Nat.pow_zero, Nat.mul_one, Nat.add_zero] at this
   refine .inl ⟨m, ?_, by omega, this.symm⟩
   rcases Nat.eq_zero_or_pos m with rfl | h
   · rw [up] at this; exact absurd this.symm h2
   · exact h
theorem nZ {x : List Int} : ∀ (f out : List (List Int)), x ∈ eS out f ↔ x ∈ out ∨ x ∈ f
 | [], out => by simp [eS]
 | s :: f, out => by
  have := nZ (x := x) f (ee out s)
  simp only [eS, List.foldl_cons] at this ⊢
  rw [this, nY, List.mem_cons]
  constructor
  · rintro ((h | h) | h) <;> simp [h]
  · rintro (h | h | h) <;> simp [h]
theorem oa : ∀ (f out : List (List Int)), Srt out → Srt (eS out f)
 | [], _, h => h
 | s :: f, out, h => by
  have := oa f (ee out s) (Fv h s)
  simpa only [eS, List.foldl_cons] using this
theorem od {x : List Int} : ∀ (l out : List (List Int)), x ∈ cx l out ↔ x ∈ out ∨ ∃ a ∈ l, x ∈ dI a
 | [], out => by simp [cx]
 | a :: r, out => by
  rw [cx, od r, nZ]
  constructor
  · rintro ((h | h) | ⟨b, h1, h2⟩)
    · exact .inl h
    · exact .inr ⟨a, by simp, h⟩
    · exact .inr ⟨b, by simp [h1], h2⟩
  · rintro (h | ⟨b, h1, h2⟩)
    · exact .inl (.inl h)
    · rcases List.mem_cons.1 h1 with rfl | h1
      · exact .inl (.inr h2)
      · exact .inr ⟨b, h1, h2⟩
theorem oe : ∀ (l out : List (List Int)), Srt out → Srt (cx l out)
 | [], _, h => h
 | a :: r, out, h => oe r _ (oa _ _ h)
theorem ln {l : List (List Int)} {x : List Int} : x ∈ fc l ↔ ∃ a ∈ l, x.Sublist a ∧ x ≠ [] := by
 unfold fc
 rw [od]
 simp only [AI, List.not_mem_nil, false_or]
theorem gh {q : Nat} : ∀ (l out : List (List Int)), (∀ a ∈ l, a.length ≤ q) → (cx l out).length ≤ out.length + 2 ^ q * l.length
 | [], out, _ => by simp [cx]
 | a :: r, out, h => by
  have h1 := gh r (eS out (dI a)) (fun b hb => h b (List.mem_cons_of_mem _ hb))
  have h2 := gM (dI a) out
  have h3 := iX a
  have h4 : 2 ^ a.length ≤ 2 ^ q := Nat.pow_le_pow_right (by decide) (h a List.mem_cons_self)
  simp only [cx, List.length_cons, Nat.mul_succ] at h1 ⊢
  omega
def eT (v : Int) : List Int → List Int
 | [] => [v]
 | u :: p => if u ≤ v then v :: u :: p else u :: eT v p
theorem zL : ∀ (p : List Int) (v : Int) (post : List Int), kc (p.reverse ++ v :: post) p.length = (eT v p).reverse ++ post
 | [], v, post => by simp [kc, eT]
 | u :: p, v, post => by
  have e0 : (u :: p).reverse ++ v :: post = p.reverse ++ u :: v :: post := by simp
  have g1 : (p.reverse ++ u :: v :: post).getD p.length 0 = u := by
   rw [List.getD_eq_getElem?_getD, List.getElem?_append_right (by simp)]; simp
  have g2 : (p.reverse ++ u :: v :: post).getD (p.length + 1) 0 = v := by
   rw [List.getD_eq_getElem?_getD, List.getElem?_append_right (by simp)]; simp
  rw [e0, List.length_cons, kc, g1, g2]
  by_cases h : u ≤ v
  · rw [ir h]; simp [eT, h]
  · rw [iu (by omega)]
    have hs : zG (p.reverse ++ u :: v :: post) p.length = p.reverse ++ v :: u :: post := by
     rw [zG, g1, g2, List.set_append_right _ _ (by simp), List.set_append_right _ _ (by simp)]
     simp
    simp only [hs]
    rw [zL p v (u :: post)]
    simp [eT, h]
theorem uq : ∀ (rest p : List Int), iL rest.length p.length (p.reverse ++ rest) = (rest.foldl (fun p v => eT v p) p).reverse
 | [], p => by simp [iL]
 | v :: rest, p => by
  rw [List.length_cons, iL, zL]
  have hl : (eT v p).length = p.length + 1 := by
   have : ∀ p : List Int, (eT v p).length = p.length + 1 := by
    intro p; induction p with
    | nil => rfl
    | cons u p ih => unfold eT; split <;> simp [ih]
   exact this p
  rw [← hl, uq rest (eT v p)]
  simp
theorem xi (c : List Int) : gL c = (c.foldl (fun p v => eT v p) []).reverse := by
 have := uq c []
 simpa [gL] using this
theorem oh (v : Int) : ∀ p : List Int, (eT v p).Perm (v :: p)
 | [] => .refl _
 | u :: p => by
  unfold eT; split
  · exact .refl _
  · exact ((oh v p).cons u).trans (.swap v u p)
theorem ur (v : Int) : ∀ {p : List Int}, p.Pairwise (fun a b => b ≤ a) → (eT v p).Pairwise (fun a b => b ≤ a)
 | [], _ => by simp [eT]
 | u :: p, h => by
  have h1 := List.pairwise_cons.1 h
  unfold eT; split
  · refine List.pairwise_cons.2 ⟨fun x hx => ?_, h⟩
    rcases List.mem_cons.1 hx with rfl | hx
    · assumption
    · have := h1.1 x hx; omega
  · refine List.pairwise_cons.2 ⟨fun x hx => ?_, ur v h1.2⟩
    have := (oh v p).mem_iff.1 hx
    rcases List.mem_cons.1 this with rfl | hx
    · omega
    · exact h1.1 x hx
theorem ut : ∀ (c p : List Int), (c.foldl (fun p v => eT v p) p).Perm (c.reverse ++ p)
 | [], p => .refl _
 | v :: c, p => by
  have := ut c (eT v p)
  simp only [List.foldl_cons, List.reverse_cons, List.append_assoc]
  exact this.trans ((oh v p).append_left _)
theorem uu : ∀ (c p : List Int), p.Pairwise (fun a b => b ≤ a) → (c.foldl (fun p v => eT v p) p).Pairwise (fun a b => b ≤ a)
 | [], p, h => h
 | v :: c, p, h => uu c _ (ur v h)
theorem mJ (c : List Int) : (gL c).Perm c := by
 rw [xi]
 have := ut c []
 rw [List.append_nil] at this
 exact (List.reverse_perm _).trans (this.trans (List.reverse_perm _))
theorem Fw (c : List Int) : (gL c).Pairwise (· ≤ ·) := by
 rw [xi, List.pairwise_reverse]
 exact uu c [] List.Pairwise.nil
theorem Md {c : List Int} (h : c.Pairwise (· ≤ ·)) (hn : c.Nodup) : c.Pairwise (· < ·) := by
 have := h.and hn
 exact this.imp fun ⟨h1, h2⟩ => by omega
theorem uv {c : List Int} (h : c.Nodup) : (gL c).Pairwise (· < ·) := Md (Fw c) ((mJ c).nodup_iff.2 h)
theorem lq : ∀ {u w : List Int}, u.Pairwise (· < ·) → w.Pairwise (· < ·) → (∀ v ∈ u, v ∈ w) → u.Sublist w
 | [], w, _, _, _ => List.nil_sublist w
 | x :: u, [], _, _, h => absurd (h x (by simp)) (by simp)
 | x :: u, y :: w, hu, hw, h => by
  have h1 := List.pairwise_cons.1 hu
  have h2 := List.pairwise_cons.1 hw
  by_cases e : x = y
  · subst e
    refine List.Sublist.cons_cons x (lq h1.2 h2.2 fun v hv => ?_)
    rcases List.mem_cons.1 (h v (by simp [hv])) with rfl | h3
    · have := h1.1 v hv; omega
    · exact h3
  · refine List.Sublist.cons y (lq hu h2.2 fun v hv => ?_)
    rcases List.mem_cons.1 (h v hv) with rfl | h3
    · exfalso
      rcases List.mem_cons.1 (h x (by simp)) with h4 | h4
      · exact e h4
      · have := h2.1 x h4
        rcases List.mem_cons.1 hv with h5 | h5
        · exact e h5.symm
        · have := h1.1 v h5; omega
    · exact h3
theorem tF (a : List Int) (v : Int) : eo a v = true ↔ v ∈ a := by
 simp [eo, List.any_eq_true, eW]
theorem I8 {n : Int} (hn : 0 < n) (x : Int) : 0 ≤ nV n x ∧ nV n x < n := by
 unfold nV
 have h1 := tr (x := x) hn
 constructor
 · exact Int.tmod_nonneg _ (by omega)
 · exact Int.tmod_lt_of_pos _ hn
theorem mK {most : Nat} {n : Int} (hn : 0 < n) : ∀ (a c : List Int), c.Nodup → (∀ v ∈ c, 0 ≤ v ∧ v < n) → (cd most n a c).Nodup ∧ ∀ v ∈ cd most n a c, 0 ≤ v ∧ v < n
 | [], c, h1, h2 => ⟨h1, h2⟩
 | y :: r, c, h1, h2 => by
  unfold cd
  split
  · cases hq : eo c (nV n y) with
    | true => exact mK hn r c h1 h2
    | false =>
     refine mK hn r _ ?_ ?_
     · rw [List.nodup_append]
       refine ⟨h1, by simp, fun x hx y' hy => ?_⟩
       rw [List.mem_singleton] at hy
       subst hy
       intro e; subst e
       rw [(tF c _).2 hx] at hq; cases hq
     · intro v hv
       rcases List.mem_append.1 hv with hv | hv
       · exact h2 v hv
       · rw [List.mem_singleton] at hv; subst hv; exact I8 hn y
  · exact ⟨h1, h2⟩
theorem uw {most : Nat} {n : Int} (hm : 1 ≤ most) (hm5 : most ≤ 5) (hn : 0 < n) (hn64 : n ≤ 64) (a : List Int) : OkS (dH a most n) := by
 have h := mK (most := most) hn a [] (by simp) (by simp)
 have hl := na a most n hm
 refine ⟨?_, by omega, ?_, ?_⟩
 · intro e
   have hlen : (dH a most n).length = 0 := by rw [e]; rfl
   unfold dH at hlen
   split at hlen
   · rw [gO] at hlen; simp at hlen
   · rename_i o
     rw [gO] at hlen
     exact o (List.eq_nil_of_length_eq_zero hlen)
 · intro v hv
   unfold dH at hv
   split at hv
   · rw [(mJ _).mem_iff] at hv; simp at hv; omega
   · rw [(mJ _).mem_iff] at hv
     have := h.2 v hv; omega
 · unfold dH
   split
   · exact uv (by simp)
   · exact uv h.1
theorem OkS.sub {a f : List Int} (h : OkS a) (hs : f.Sublist a) (hne : f ≠ []) : OkS f :=
 ⟨hne, Nat.le_trans hs.length_le h.le, fun v hv => h.rng v (hs.mem hv), h.asc.sublist hs⟩
theorem lr {a f : List Int} (h : f ∈ bT a) : f.Sublist a ∧ (a ≠ [] → f ≠ []) := by
 unfold bT at h
 split at h
 · simp at h
 · rename_i hl
   obtain ⟨i, hi, rfl⟩ := List.mem_map.1 h
   rw [List.mem_range] at hi
   refine ⟨List.eraseIdx_sublist a i, fun hne e => ?_⟩
   have := congrArg List.length e
   rw [List.length_eraseIdx, if_pos hi, List.length_nil] at this
   omega
theorem I9 {l : List (List Int)} (h : Srt l) : ∀ i (hi : i + 1 < l.length), a8 l[i + 1] l[i] = 1 := by
 intro i hi
 have := List.pairwise_iff_getElem.1 h i (i + 1) (by omega) hi (by omega)
 rw [uo, this]; rfl
structure Cx (l : List (List Int)) : Prop where
 ok : ∀ a ∈ l, OkS a
 srt : Srt l
 sub : ∀ a ∈ l, ∀ f : List Int, f.Sublist a → f ≠ [] → f ∈ l
 le : l.length ≤ 1024
theorem Cx.okC {l : List (List Int)} (h : Cx l) : Ma l := ⟨h.ok, I9 h.srt, fun a ha f hf => h.sub a ha f (lr hf).1 ((lr hf).2 (h.ok a ha).ne), h.le⟩
theorem Do {l : List (List Int)} {most dim : Nat} {n : Int} (hmost : most ≤ 8) (hdim : dim ≤ 4) (hn : 0 < n) (hn64 : n ≤ 64) : Cx (iM l most dim n) := by
 have hf : ∀ a ∈ cu most (dim + 1) n l, OkS a := by
  intro a ha
  obtain ⟨b, rfl⟩ := kQ l most ha
  exact uw (by omega) (by omega) hn hn64 b
 refine ⟨fun a ha => ?_, oe _ _ List.Pairwise.nil, fun a ha f hs hne => ?_, ?_⟩
 · obtain ⟨b, hb, hs, hne⟩ := ln.1 ha
   exact (hf b hb).sub hs hne
 · obtain ⟨b, hb, hs', _⟩ := ln.1 ha
   exact ln.2 ⟨b, hb, hs.trans hs', hne⟩
 · have h1 := gh (q := 5) (cu most (dim + 1) n l) [] (fun a ha => (hf a ha).le)
   have h2 := gN (dim + 1) n l most
   have h3 : (2 : Nat) ^ 5 = 32 := by decide
   rw [h3] at h1
   simp only [iM, fc]
   simp at h1
   omega
end Go.CP
namespace Go.CP
open Go.Proofs
variable [LG] [HK]
def Awake (K : Ctx) : Prop := K.memo 14 = [(.nil, .one (.c (.bo true)))]
section
variable {K : Ctx} {h : Hp}
theorem Awake.comes (A : Awake K) : Comes K 14 [] h (.bo true) h := ⟨1, fun d fu hd _ => by
 obtain ⟨d, rfl⟩ : ∃ m, d = m + 1 := ⟨d - 1, by omega⟩
 unfold Awake at A
 simp only [ct, Ctx.env, A, kD, qr, zY, lay]⟩
theorem t4 : ae Tryz.prog 4 = .bool := by kernel_rfl
end
end Go.CP
