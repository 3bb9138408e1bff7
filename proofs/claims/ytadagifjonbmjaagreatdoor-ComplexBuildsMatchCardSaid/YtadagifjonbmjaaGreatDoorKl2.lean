import Derived.Test.YtadagifjonbmjaaGreatDoorKl1
import Derived.Test.YtadagifjonbmjaaGreatDoorKw1
set_option linter.all false
/- Complex: plain facts: the order of lists, insertion, faces, valid complexes. -/
namespace Go.CP
variable [LG] [HK]
theorem lexI_step (x y : Int) (a b : List Int) : lexI (x :: a) (y :: b) = if x < y then -1 else if y < x then 1 else lexI a b := by
  rw [lexI_cons]
  unfold cmp3
  split
  · simp
  · split <;> simp
theorem lexI_swap : ∀ (a b : List Int), lexI b a = - lexI a b
  | [], [] => rfl
  | [], _ :: _ => rfl
  | _ :: _, [] => rfl
  | x :: a, y :: b => by
    rw [lexI_step, lexI_step, lexI_swap a b]
    split
    · rw [if_neg (by omega)]
    · split <;> simp
theorem lexI_vals : ∀ (a b : List Int), lexI a b = -1 ∨ lexI a b = 0 ∨ lexI a b = 1
  | [], [] => .inr (.inl rfl)
  | [], _ :: _ => .inr (.inl rfl)
  | _ :: _, [] => .inr (.inl rfl)
  | x :: a, y :: b => by
    rw [lexI_step]
    split
    · exact .inl rfl
    · split
      · exact .inr (.inr rfl)
      · exact lexI_vals a b
theorem lexI_zero : ∀ (a b : List Int), a.length = b.length → (lexI a b = 0 ↔ a = b)
  | [], [], _ => by simp [lexI]
  | [], _ :: _, h => by simp at h
  | _ :: _, [], h => by simp at h
  | x :: a, y :: b, h => by
    rw [lexI_step]
    have := lexI_zero a b (by simpa using h)
    split
    · simp; omega
    · split
      · simp; omega
      · rw [this]; simp; omega
theorem lexI_trans : ∀ (a b c : List Int), a.length = b.length → b.length = c.length → lexI a b = -1 → lexI b c = -1 → lexI a c = -1
  | [], _, _, _, _, h, _ => by rename_i b _ _ _ _; cases b <;> simp [lexI] at h
  | _ :: _, [], _, h, _, _, _ => by simp at h
  | _ :: _, _ :: _, [], _, h, _, _ => by simp at h
  | x :: a, y :: b, z :: c, h1, h2, h3, h4 => by
    rw [lexI_step] at h3 h4 ⊢
    have ih := lexI_trans a b c (by simpa using h1) (by simpa using h2)
    by_cases e1 : x < y
    · by_cases e2 : y < z
      · rw [if_pos (by omega)]
      · rw [if_neg e2] at h4
        by_cases e3 : z < y
        · rw [if_pos e3] at h4; simp at h4
        · rw [if_pos (by omega)]
    · rw [if_neg e1] at h3
      by_cases e4 : y < x
      · rw [if_pos e4] at h3; simp at h3
      · rw [if_neg e4] at h3
        by_cases e2 : y < z
        · rw [if_pos (by omega)]
        · rw [if_neg e2] at h4
          by_cases e3 : z < y
          · rw [if_pos e3] at h4; simp at h4
          · rw [if_neg e3] at h4
            rw [if_neg (by omega), if_neg (by omega)]
            exact ih h3 h4
theorem cmpI_zero (a b : List Int) : cmpI a b = 0 ↔ a = b := by
  unfold cmpI
  by_cases h : a.length = b.length
  · rw [if_pos h]; exact lexI_zero a b h
  · rw [if_neg h]
    constructor
    · intro e; split at e <;> simp at e
    · intro e; rw [e] at h; exact absurd rfl h
theorem cmpI_swap (a b : List Int) : cmpI b a = - cmpI a b := by
  unfold cmpI
  by_cases h : a.length = b.length
  · rw [if_pos h, if_pos h.symm]; exact lexI_swap a b
  · rw [if_neg h, if_neg (Ne.symm h)]
    split
    · rw [if_neg (by omega)]
    · rw [if_pos (by omega)]; rfl
theorem cmpI_vals (a b : List Int) : cmpI a b = -1 ∨ cmpI a b = 0 ∨ cmpI a b = 1 := by
  unfold cmpI
  split
  · exact lexI_vals a b
  · split
    · exact .inl rfl
    · exact .inr (.inr rfl)
def LtS (a b : List Int) : Prop := cmpI a b = -1
theorem LtS.trans {a b c : List Int} (h : LtS a b) (h' : LtS b c) : LtS a c := by
  unfold LtS cmpI at *
  by_cases e1 : a.length = b.length
  · rw [if_pos e1] at h
    by_cases e2 : b.length = c.length
    · rw [if_pos e2] at h'
      rw [if_pos (by omega)]
      exact lexI_trans a b c e1 e2 h h'
    · rw [if_neg e2] at h'
      by_cases e3 : b.length < c.length
      · rw [if_neg (by omega), if_pos (by omega)]
      · rw [if_neg e3] at h'; simp at h'
  · rw [if_neg e1] at h
    by_cases e4 : a.length < b.length
    · by_cases e2 : b.length = c.length
      · rw [if_neg (by omega), if_pos (by omega)]
      · rw [if_neg e2] at h'
        by_cases e3 : b.length < c.length
        · rw [if_neg (by omega), if_pos (by omega)]
        · rw [if_neg e3] at h'; simp at h'
    · rw [if_neg e4] at h; simp at h
theorem LtS.of {a b : List Int} (h1 : a ≠ b) (h2 : cmpI a b ≠ -1) : LtS b a := by
  unfold LtS
  rw [cmpI_swap]
  rcases cmpI_vals a b with h | h | h
  · exact absurd h h2
  · exact absurd ((cmpI_zero a b).1 h) h1
  · rw [h]
theorem ieq_cmp (a b : List Int) : ieq (cmpI a b) 0 = true ↔ a = b := by rw [ieq_eq, decide_eq_true_iff, cmpI_zero]
def insS (s : List Int) : List (List Int) → List (List Int)
  | [] => [s]
  | a :: r => if cmpI s a = -1 then s :: a :: r else a :: insS s r
theorem putGo_true (s : List Int) : ∀ (r out : List (List Int)), putGo s r out true = if s ∈ r then none else some (out ++ r)
  | [], out => by simp [putGo]
  | a :: r, out => by
    unfold putGo
    cases hq : ieq (cmpI s a) 0 with
    | true => rw [ieq_cmp] at hq; simp [hq]
    | false =>
      have hne : s ≠ a := fun e => by rw [(ieq_cmp s a).2 e] at hq; cases hq
      have := putGo_true s r (out ++ [a])
      cases ile 0 (cmpI s a) <;> simp only [] <;> rw [this] <;> simp [hne]
theorem putGo_false (s : List Int) : ∀ (r out : List (List Int)), putGo s r out false = if s ∈ r then none else some (out ++ insS s r)
  | [], out => by simp [putGo, insS]
  | a :: r, out => by
    unfold putGo
    cases hq : ieq (cmpI s a) 0 with
    | true => rw [ieq_cmp] at hq; simp [hq]
    | false =>
      have hne : s ≠ a := fun e => by rw [(ieq_cmp s a).2 e] at hq; cases hq
      cases hl : ile 0 (cmpI s a) with
      | false =>
        rw [ile_eq] at hl
        have hl := of_decide_eq_false hl
        have hc : cmpI s a = -1 := by rcases cmpI_vals s a with h | h | h <;> omega
        simp only []
        rw [putGo_true, insS, if_pos hc]
        simp [hne]
      | true =>
        rw [ile_eq] at hl
        have hl := of_decide_eq_true hl
        have hc : cmpI s a ≠ -1 := by omega
        simp only []
        rw [putGo_false s r, insS, if_neg hc]
        simp [hne]
theorem putI_eq (l : List (List Int)) (s : List Int) : putI l s = if s ∈ l then l else insS s l := by
  unfold putI
  rw [putGo_false]
  split <;> simp
theorem mem_insS {s x : List Int} : ∀ {l : List (List Int)}, x ∈ insS s l ↔ x = s ∨ x ∈ l
  | [] => by simp [insS]
  | a :: r => by
    unfold insS
    split
    · simp
    · simp only [List.mem_cons, mem_insS (l := r)]
      constructor
      · rintro (h | h | h) <;> simp [h]
      · rintro (h | h | h) <;> simp [h]
theorem mem_putI_iff {l : List (List Int)} {s x : List Int} : x ∈ putI l s ↔ x = s ∨ x ∈ l := by
  rw [putI_eq]
  split
  · rename_i h
    constructor
    · exact .inr
    · rintro (rfl | h') <;> assumption
  · exact mem_insS
abbrev Srt (l : List (List Int)) : Prop := l.Pairwise LtS
theorem insS_srt {s : List Int} : ∀ {l : List (List Int)}, Srt l → s ∉ l → Srt (insS s l)
  | [], _, _ => by simp [insS]
  | a :: r, h, hn => by
    have h1 := List.pairwise_cons.1 h
    have hsa : s ≠ a := fun e => hn (by simp [e])
    unfold insS
    split
    · rename_i hc
      refine List.pairwise_cons.2 ⟨fun x hx => ?_, h⟩
      rcases List.mem_cons.1 hx with rfl | hx
      · exact hc
      · exact LtS.trans hc (h1.1 x hx)
    · rename_i hc
      refine List.pairwise_cons.2 ⟨fun x hx => ?_, insS_srt h1.2 (fun e => hn (by simp [e]))⟩
      rcases mem_insS.1 hx with rfl | hx
      · exact LtS.of hsa hc
      · exact h1.1 x hx
theorem putI_srt {l : List (List Int)} (h : Srt l) (s : List Int) : Srt (putI l s) := by
  rw [putI_eq]
  split
  · exact h
  · exact insS_srt h (by assumption)
theorem mem_facesGo_iff {a x : List Int} : ∀ (c m : Nat) (out : List (List Int)), x ∈ facesGo a c m out ↔ (∃ k, m ≤ k ∧ k < m + c ∧ x = subI k 0 a) ∨ x ∈ out
  | 0, m, out => by
    simp only [facesGo]
    constructor
    · exact .inr
    · rintro (⟨k, h1, h2, _⟩ | h)
      · omega
      · exact h
  | c + 1, m, out => by
    simp only [facesGo]
    rw [mem_facesGo_iff c (m + 1), mem_putI_iff]
    constructor
    · rintro (⟨k, h1, h2, h3⟩ | h | h)
      · exact .inl ⟨k, by omega, by omega, h3⟩
      · exact .inl ⟨m, by omega, by omega, h⟩
      · exact .inr h
    · rintro (⟨k, h1, h2, h3⟩ | h)
      · rcases Nat.eq_or_lt_of_le h1 with rfl | h1
        · exact .inr (.inl h3)
        · exact .inl ⟨k, h1, by omega, h3⟩
      · exact .inr (.inr h)
theorem subI_sublist (m : Nat) : ∀ (a : List Int) (i : Nat), (subI m i a).Sublist a
  | [], i => by simp [subI]
  | y :: r, i => by
    unfold subI
    split
    · exact (subI_sublist m r (i + 1)).cons_cons y
    · exact (subI_sublist m r (i + 1)).cons y
theorem subI_of {x a : List Int} (h : x.Sublist a) : ∃ m, m < 2 ^ a.length ∧ ∀ i r, r < 2 ^ i → subI (m * 2 ^ i + r) i a = x := by
  induction h with
  | slnil => exact ⟨0, by simp, fun i r _ => rfl⟩
  | @cons x a y h ih =>
    obtain ⟨m, hm, hs⟩ := ih
    refine ⟨2 * m, by rw [List.length_cons, Nat.pow_succ]; omega, fun i r hr => ?_⟩
    have h2 : 0 < 2 ^ i := Nat.pow_pos (by decide)
    have e1 : (2 * m * 2 ^ i + r) / 2 ^ i = 2 * m := by
      rw [Nat.add_comm, Nat.add_mul_div_right _ _ h2, Nat.div_eq_of_lt hr]; omega
    have e2 : 2 * m * 2 ^ i + r = m * 2 ^ (i + 1) + r := by rw [Nat.pow_succ, Nat.mul_comm 2 m, Nat.mul_assoc, Nat.mul_comm 2 (2 ^ i)]
    unfold subI
    rw [e1, if_neg (by omega), e2]
    exact hs (i + 1) r (by rw [Nat.pow_succ]; omega)
  | @cons_cons x a y h ih =>
    obtain ⟨m, hm, hs⟩ := ih
    refine ⟨2 * m + 1, by rw [List.length_cons, Nat.pow_succ]; omega, fun i r hr => ?_⟩
    have h2 : 0 < 2 ^ i := Nat.pow_pos (by decide)
    have e1 : ((2 * m + 1) * 2 ^ i + r) / 2 ^ i = 2 * m + 1 := by
      rw [Nat.add_comm, Nat.add_mul_div_right _ _ h2, Nat.div_eq_of_lt hr]; omega
    have e2 : (2 * m + 1) * 2 ^ i + r = m * 2 ^ (i + 1) + (2 ^ i + r) := by
      rw [Nat.pow_succ, Nat.add_mul, Nat.mul_comm 2 m, Nat.mul_assoc, Nat.mul_comm 2 (2 ^ i)]; omega
    unfold subI
    rw [e1, if_pos (by omega), e2, hs (i + 1) (2 ^ i + r) (by rw [Nat.pow_succ]; omega)]
theorem subI_nil {m : Nat} : ∀ (a : List Int) (i : Nat), subI m i a = [] → m / 2 ^ i % 2 ^ a.length = 0
  | [], i, _ => by simp [Nat.mod_one]
  | y :: r, i, h => by
    unfold subI at h
    split at h
    · cases h
    · rename_i hb
      have ih := subI_nil r (i + 1) h
      rw [List.length_cons, Nat.pow_succ, Nat.mul_comm, Nat.mod_mul]
      rw [Nat.pow_succ, ← Nat.div_div_eq_div_mul] at ih
      rw [ih]; omega
theorem subI_zero : ∀ (a : List Int) (i : Nat), subI 0 i a = []
  | [], i => rfl
  | y :: r, i => by unfold subI; rw [Nat.zero_div, if_neg (by simp)]; exact subI_zero r (i + 1)
theorem mem_facesI {a x : List Int} : x ∈ facesI a ↔ x.Sublist a ∧ x ≠ [] := by
  unfold facesI
  rw [mem_facesGo_iff]
  have hp : 0 < 2 ^ a.length := Nat.pow_pos (by decide)
  constructor
  · rintro (⟨k, h1, h2, rfl⟩ | h)
    · refine ⟨subI_sublist _ _ _, fun e => ?_⟩
      have := subI_nil a 0 e
      rw [Nat.pow_zero, Nat.div_one, Nat.mod_eq_of_lt (by omega)] at this
      omega
    · simp at h
  · rintro ⟨h1, h2⟩
    obtain ⟨m, hm, hs⟩ := subI_of h1
    have := hs 0 0 (by simp)
    rw [Nat.pow_zero, Nat.mul_one, Nat.add_zero] at this
    refine .inl ⟨m, ?_, by omega, this.symm⟩
    rcases Nat.eq_zero_or_pos m with rfl | h
    · rw [subI_zero] at this; exact absurd this.symm h2
    · exact h
theorem mem_putsI {x : List Int} : ∀ (f out : List (List Int)), x ∈ putsI out f ↔ x ∈ out ∨ x ∈ f
  | [], out => by simp [putsI]
  | s :: f, out => by
    have := mem_putsI (x := x) f (putI out s)
    simp only [putsI, List.foldl_cons] at this ⊢
    rw [this, mem_putI_iff, List.mem_cons]
    constructor
    · rintro ((h | h) | h) <;> simp [h]
    · rintro (h | h | h) <;> simp [h]
theorem putsI_srt : ∀ (f out : List (List Int)), Srt out → Srt (putsI out f)
  | [], _, h => h
  | s :: f, out, h => by
    have := putsI_srt f (putI out s) (putI_srt h s)
    simpa only [putsI, List.foldl_cons] using this
theorem mem_closedGo {x : List Int} : ∀ (l out : List (List Int)), x ∈ closedGo l out ↔ x ∈ out ∨ ∃ a ∈ l, x ∈ facesI a
  | [], out => by simp [closedGo]
  | a :: r, out => by
    rw [closedGo, mem_closedGo r, mem_putsI]
    constructor
    · rintro ((h | h) | ⟨b, h1, h2⟩)
      · exact .inl h
      · exact .inr ⟨a, by simp, h⟩
      · exact .inr ⟨b, by simp [h1], h2⟩
    · rintro (h | ⟨b, h1, h2⟩)
      · exact .inl (.inl h)
      · rcases List.mem_cons.1 h1 with rfl | h1
        · exact .inl (.inr h2)
        · exact .inr ⟨b, h1, h2⟩
theorem closedGo_srt : ∀ (l out : List (List Int)), Srt out → Srt (closedGo l out)
  | [], _, h => h
  | a :: r, out, h => closedGo_srt r _ (putsI_srt _ _ h)
theorem mem_closedI {l : List (List Int)} {x : List Int} : x ∈ closedI l ↔ ∃ a ∈ l, x.Sublist a ∧ x ≠ [] := by
  unfold closedI
  rw [mem_closedGo]
  simp only [mem_facesI, List.not_mem_nil, false_or]
theorem closedGo_length' {q : Nat} : ∀ (l out : List (List Int)), (∀ a ∈ l, a.length ≤ q) → (closedGo l out).length ≤ out.length + 2 ^ q * l.length
  | [], out, _ => by simp [closedGo]
  | a :: r, out, h => by
    have h1 := closedGo_length' r (putsI out (facesI a)) (fun b hb => h b (List.mem_cons_of_mem _ hb))
    have h2 := putsI_length (facesI a) out
    have h3 := facesI_length a
    have h4 : 2 ^ a.length ≤ 2 ^ q := Nat.pow_le_pow_right (by decide) (h a List.mem_cons_self)
    simp only [closedGo, List.length_cons, Nat.mul_succ] at h1 ⊢
    omega
def insL (v : Int) : List Int → List Int
  | [] => [v]
  | u :: p => if u ≤ v then v :: u :: p else u :: insL v p
theorem sink_eq : ∀ (p : List Int) (v : Int) (post : List Int), sink (p.reverse ++ v :: post) p.length = (insL v p).reverse ++ post
  | [], v, post => by simp [sink, insL]
  | u :: p, v, post => by
    have e0 : (u :: p).reverse ++ v :: post = p.reverse ++ u :: v :: post := by simp
    have g1 : (p.reverse ++ u :: v :: post).getD p.length 0 = u := by
      rw [List.getD_eq_getElem?_getD, List.getElem?_append_right (by simp)]; simp
    have g2 : (p.reverse ++ u :: v :: post).getD (p.length + 1) 0 = v := by
      rw [List.getD_eq_getElem?_getD, List.getElem?_append_right (by simp)]; simp
    rw [e0, List.length_cons, sink, g1, g2]
    by_cases h : u ≤ v
    · rw [ile_t h]; simp [insL, h]
    · rw [ile_f (by omega)]
      have hs : swp (p.reverse ++ u :: v :: post) p.length = p.reverse ++ v :: u :: post := by
        rw [swp, g1, g2, List.set_append_right _ _ (by simp), List.set_append_right _ _ (by simp)]
        simp
      simp only [hs]
      rw [sink_eq p v (u :: post)]
      simp [insL, h]
theorem sortGo_eq : ∀ (rest p : List Int), sortGo rest.length p.length (p.reverse ++ rest) = (rest.foldl (fun p v => insL v p) p).reverse
  | [], p => by simp [sortGo]
  | v :: rest, p => by
    rw [List.length_cons, sortGo, sink_eq]
    have hl : (insL v p).length = p.length + 1 := by
      have : ∀ p : List Int, (insL v p).length = p.length + 1 := by
        intro p; induction p with
        | nil => rfl
        | cons u p ih => unfold insL; split <;> simp [ih]
      exact this p
    rw [← hl, sortGo_eq rest (insL v p)]
    simp
theorem sortI_eq (c : List Int) : sortI c = (c.foldl (fun p v => insL v p) []).reverse := by
  have := sortGo_eq c []
  simpa [sortI] using this
theorem insL_perm (v : Int) : ∀ p : List Int, (insL v p).Perm (v :: p)
  | [] => .refl _
  | u :: p => by
    unfold insL; split
    · exact .refl _
    · exact ((insL_perm v p).cons u).trans (.swap v u p)
theorem insL_desc (v : Int) : ∀ {p : List Int}, p.Pairwise (fun a b => b ≤ a) → (insL v p).Pairwise (fun a b => b ≤ a)
  | [], _ => by simp [insL]
  | u :: p, h => by
    have h1 := List.pairwise_cons.1 h
    unfold insL; split
    · refine List.pairwise_cons.2 ⟨fun x hx => ?_, h⟩
      rcases List.mem_cons.1 hx with rfl | hx
      · assumption
      · have := h1.1 x hx; omega
    · refine List.pairwise_cons.2 ⟨fun x hx => ?_, insL_desc v h1.2⟩
      have := (insL_perm v p).mem_iff.1 hx
      rcases List.mem_cons.1 this with rfl | hx
      · omega
      · exact h1.1 x hx
theorem fold_perm : ∀ (c p : List Int), (c.foldl (fun p v => insL v p) p).Perm (c.reverse ++ p)
  | [], p => .refl _
  | v :: c, p => by
    have := fold_perm c (insL v p)
    simp only [List.foldl_cons, List.reverse_cons, List.append_assoc]
    exact this.trans ((insL_perm v p).append_left _)
theorem fold_desc : ∀ (c p : List Int), p.Pairwise (fun a b => b ≤ a) → (c.foldl (fun p v => insL v p) p).Pairwise (fun a b => b ≤ a)
  | [], p, h => h
  | v :: c, p, h => fold_desc c _ (insL_desc v h)
theorem sortI_perm (c : List Int) : (sortI c).Perm c := by
  rw [sortI_eq]
  have := fold_perm c []
  rw [List.append_nil] at this
  exact (List.reverse_perm _).trans (this.trans (List.reverse_perm _))
theorem sortI_le (c : List Int) : (sortI c).Pairwise (· ≤ ·) := by
  rw [sortI_eq, List.pairwise_reverse]
  exact fold_desc c [] List.Pairwise.nil
theorem asc_of {c : List Int} (h : c.Pairwise (· ≤ ·)) (hn : c.Nodup) : c.Pairwise (· < ·) := by
  have := h.and hn
  exact this.imp fun ⟨h1, h2⟩ => by omega
theorem sortI_asc {c : List Int} (h : c.Nodup) : (sortI c).Pairwise (· < ·) := asc_of (sortI_le c) ((sortI_perm c).nodup_iff.2 h)
theorem asc_sublist : ∀ {u w : List Int}, u.Pairwise (· < ·) → w.Pairwise (· < ·) → (∀ v ∈ u, v ∈ w) → u.Sublist w
  | [], w, _, _, _ => List.nil_sublist w
  | x :: u, [], _, _, h => absurd (h x (by simp)) (by simp)
  | x :: u, y :: w, hu, hw, h => by
    have h1 := List.pairwise_cons.1 hu
    have h2 := List.pairwise_cons.1 hw
    by_cases e : x = y
    · subst e
      refine List.Sublist.cons_cons x (asc_sublist h1.2 h2.2 fun v hv => ?_)
      rcases List.mem_cons.1 (h v (by simp [hv])) with rfl | h3
      · have := h1.1 v hv; omega
      · exact h3
    · refine List.Sublist.cons y (asc_sublist hu h2.2 fun v hv => ?_)
      rcases List.mem_cons.1 (h v hv) with rfl | h3
      · exfalso
        rcases List.mem_cons.1 (h x (by simp)) with h4 | h4
        · exact e h4
        · have := h2.1 x h4
          rcases List.mem_cons.1 hv with h5 | h5
          · exact e h5.symm
          · have := h1.1 v h5; omega
      · exact h3
theorem inI_iff (a : List Int) (v : Int) : inI a v = true ↔ v ∈ a := by
  simp [inI, List.any_eq_true, ieq_eq]
theorem red_rng {n : Int} (hn : 0 < n) (x : Int) : 0 ≤ red n x ∧ red n x < n := by
  unfold red
  have h1 := tmod_lt (x := x) hn
  constructor
  · exact Int.tmod_nonneg _ (by omega)
  · exact Int.tmod_lt_of_pos _ hn
theorem validGo_ok {most : Nat} {n : Int} (hn : 0 < n) : ∀ (a c : List Int), c.Nodup → (∀ v ∈ c, 0 ≤ v ∧ v < n) → (validGo most n a c).Nodup ∧ ∀ v ∈ validGo most n a c, 0 ≤ v ∧ v < n
  | [], c, h1, h2 => ⟨h1, h2⟩
  | y :: r, c, h1, h2 => by
    unfold validGo
    split
    · cases hq : inI c (red n y) with
      | true => exact validGo_ok hn r c h1 h2
      | false =>
        refine validGo_ok hn r _ ?_ ?_
        · rw [List.nodup_append]
          refine ⟨h1, by simp, fun x hx y' hy => ?_⟩
          rw [List.mem_singleton] at hy
          subst hy
          intro e; subst e
          rw [(inI_iff c _).2 hx] at hq; cases hq
        · intro v hv
          rcases List.mem_append.1 hv with hv | hv
          · exact h2 v hv
          · rw [List.mem_singleton] at hv; subst hv; exact red_rng hn y
    · exact ⟨h1, h2⟩
theorem validI_ok {most : Nat} {n : Int} (hm : 1 ≤ most) (hm5 : most ≤ 5) (hn : 0 < n) (hn64 : n ≤ 64) (a : List Int) : OkS (validI a most n) := by
  have h := validGo_ok (most := most) hn a [] (by simp) (by simp)
  have hl := validI_length a most n hm
  refine ⟨?_, by omega, ?_, ?_⟩
  · intro e
    have hlen : (validI a most n).length = 0 := by rw [e]; rfl
    unfold validI at hlen
    split at hlen
    · rw [sortI_length] at hlen; simp at hlen
    · rename_i o
      rw [sortI_length] at hlen
      exact o (List.eq_nil_of_length_eq_zero hlen)
  · intro v hv
    unfold validI at hv
    split at hv
    · rw [(sortI_perm _).mem_iff] at hv; simp at hv; omega
    · rw [(sortI_perm _).mem_iff] at hv
      have := h.2 v hv; omega
  · unfold validI
    split
    · exact sortI_asc (by simp)
    · exact sortI_asc h.1
theorem OkS.sub {a f : List Int} (h : OkS a) (hs : f.Sublist a) (hne : f ≠ []) : OkS f :=
  ⟨hne, Nat.le_trans hs.length_le h.le, fun v hv => h.rng v (hs.mem hv), h.asc.sublist hs⟩
theorem mem_facetsI {a f : List Int} (h : f ∈ facetsI a) : f.Sublist a ∧ (a ≠ [] → f ≠ []) := by
  unfold facetsI at h
  split at h
  · simp at h
  · rename_i hl
    obtain ⟨i, hi, rfl⟩ := List.mem_map.1 h
    rw [List.mem_range] at hi
    refine ⟨List.eraseIdx_sublist a i, fun hne e => ?_⟩
    have := congrArg List.length e
    rw [List.length_eraseIdx, if_pos hi, List.length_nil] at this
    omega
theorem asc_adj {l : List (List Int)} (h : Srt l) : ∀ i (hi : i + 1 < l.length), cmpI l[i + 1] l[i] = 1 := by
  intro i hi
  have := List.pairwise_iff_getElem.1 h i (i + 1) (by omega) hi (by omega)
  rw [cmpI_swap, this]; rfl
structure Cx (l : List (List Int)) : Prop where
  ok : ∀ a ∈ l, OkS a
  srt : Srt l
  sub : ∀ a ∈ l, ∀ f : List Int, f.Sublist a → f ≠ [] → f ∈ l
  le : l.length ≤ 1024
theorem Cx.okC {l : List (List Int)} (h : Cx l) : OkC l := ⟨h.ok, asc_adj h.srt, fun a ha f hf => h.sub a ha f (mem_facetsI hf).1 ((mem_facetsI hf).2 (h.ok a ha).ne), h.le⟩
theorem valid8_cx {l : List (List Int)} {most dim : Nat} {n : Int} (hmost : most ≤ 8) (hdim : dim ≤ 4) (hn : 0 < n) (hn64 : n ≤ 64) : Cx (valid8 l most dim n) := by
  have hf : ∀ a ∈ fewGo most (dim + 1) n l, OkS a := by
    intro a ha
    obtain ⟨b, rfl⟩ := mem_fewGo l most ha
    exact validI_ok (by omega) (by omega) hn hn64 b
  refine ⟨fun a ha => ?_, closedGo_srt _ _ List.Pairwise.nil, fun a ha f hs hne => ?_, ?_⟩
  · obtain ⟨b, hb, hs, hne⟩ := mem_closedI.1 ha
    exact (hf b hb).sub hs hne
  · obtain ⟨b, hb, hs', _⟩ := mem_closedI.1 ha
    exact mem_closedI.2 ⟨b, hb, hs.trans hs', hne⟩
  · have h1 := closedGo_length' (q := 5) (fewGo most (dim + 1) n l) [] (fun a ha => (hf a ha).le)
    have h2 := fewGo_length (dim + 1) n l most
    have h3 : (2 : Nat) ^ 5 = 32 := by decide
    rw [h3] at h1
    simp only [valid8, closedI]
    simp at h1
    omega
theorem idxGo_nn {s : List Int} : ∀ (l : List (List Int)) (i : Nat), ile 0 (idxGo s i l) = true ↔ s ∈ l
  | [], i => by simp [idxGo]; rfl
  | a :: r, i => by
    unfold idxGo
    cases hq : ieq (cmpI a s) 0 with
    | true => rw [ieq_cmp] at hq; simp [hq]; rfl
    | false =>
      have hne : a ≠ s := fun e => by rw [(ieq_cmp a s).2 e] at hq; cases hq
      simp only []
      rw [idxGo_nn r (i + 1), List.mem_cons]
      simp [Ne.symm hne]
theorem idxI_nn {l : List (List Int)} {s : List Int} : ile 0 (idxI l s) = true ↔ s ∈ l := idxGo_nn l 0
end Go.CP
namespace Go.CP
open Go.Proofs
variable [LG] [HK]
def Awake (K : Ctx) : Prop := K.memo 14 = [(.nil, .one (.c (.bo true)))]
section
variable {K : Ctx} {h : Hp}
theorem Awake.comes (A : Awake K) : Comes K 14 [] h (.bo true) h := ⟨1, fun d fu hd _ => by
  obtain ⟨d, rfl⟩ : ∃ m, d = m + 1 := ⟨d - 1, by omega⟩
  unfold Awake at A
  simp only [callX, Ctx.env, A, memoX, dmx, layR, lay]⟩
theorem t4 : tyk Tryz.prog 4 = .bool := by kernel_rfl
end
end Go.CP
