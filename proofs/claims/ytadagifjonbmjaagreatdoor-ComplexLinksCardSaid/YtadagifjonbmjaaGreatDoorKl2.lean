import Derived.Test.YtadagifjonbmjaaGreatDoorKl1
import Derived.Test.YtadagifjonbmjaaGreatDoorKw1
set_option linter.unusedVariables false
set_option linter.unusedSectionVars false
set_option linter.unusedSimpArgs false
/- Complex: plain facts: the order of lists, insertion, faces, valid complexes. -/
namespace Go.CP
variable [LG] [HK]
/-! ### The order of lists -/
theorem lexI_step (x y : Int) (a b : List Int) : lexI (x :: a) (y :: b) = if x < y then -1 else if y < x then 1 else lexI a b := by
  rw [lexI_cons]
  unfold cmp3
  split
  · simp
  · split <;> simp
theorem lexI_swap : ∀ (a b : List Int), lexI b a = - lexI a b
  | [], [] => rfl
  | [], _ :: _ => rfl
  | _ :: _, [] => rfl
  | x :: a, y :: b => by
    rw [lexI_step, lexI_step, lexI_swap a b]
    split
    · rw [if_neg (by omega)]
    · split <;> simp
theorem lexI_vals : ∀ (a b : List Int), lexI a b = -1 ∨ lexI a b = 0 ∨ lexI a b = 1
  | [], [] => .inr (.inl rfl)
  | [], _ :: _ => .inr (.inl rfl)
  | _ :: _, [] => .inr (.inl rfl)
  | x :: a, y :: b => by
    rw [lexI_step]
    split
    · exact .inl rfl
    · split
      · exact .inr (.inr rfl)
      · exact lexI_vals a b
theorem lexI_zero : ∀ (a b : List Int), a.length = b.length → (lexI a b = 0 ↔ a = b)
  | [], [], _ => by simp [lexI]
  | [], _ :: _, h => by simp at h
  | _ :: _, [], h => by simp at h
  | x :: a, y :: b, h => by
    rw [lexI_step]
    have := lexI_zero a b (by simpa using h)
    split
    · simp; omega
    · split
      · simp; omega
      · rw [this]; simp; omega
theorem lexI_trans : ∀ (a b c : List Int), a.length = b.length → b.length = c.length → lexI a b = -1 → lexI b c = -1 → lexI a c = -1
  | [], _, _, _, _, h, _ => by rename_i b _ _ _ _; cases b <;> simp [lexI] at h
  | _ :: _, [], _, h, _, _, _ => by simp at h
  | _ :: _, _ :: _, [], _, h, _, _ => by simp at h
  | x :: a, y :: b, z :: c, h1, h2, h3, h4 => by
    rw [lexI_step] at h3 h4 ⊢
    have ih := lexI_trans a b c (by simpa using h1) (by simpa using h2)
    by_cases e1 : x < y
    · by_cases e2 : y < z
      · rw [if_pos (by omega)]
      · rw [if_neg e2] at h4
        by_cases e3 : z < y
        · rw [if_pos e3] at h4; simp at h4
        · rw [if_pos (by omega)]
    · rw [if_neg e1] at h3
      by_cases e4 : y < x
      · rw [if_pos e4] at h3; simp at h3
      · rw [if_neg e4] at h3
        by_cases e2 : y < z
        · rw [if_pos (by omega)]
        · rw [if_neg e2] at h4
          by_cases e3 : z < y
          · rw [if_pos e3] at h4; simp at h4
          · rw [if_neg e3] at h4
            rw [if_neg (by omega), if_neg (by omega)]
            exact ih h3 h4
theorem cmpI_zero (a b : List Int) : cmpI a b = 0 ↔ a = b := by
  unfold cmpI
  by_cases h : a.length = b.length
  · rw [if_pos h]; exact lexI_zero a b h
  · rw [if_neg h]
    constructor
    · intro e; split at e <;> simp at e
    · intro e; rw [e] at h; exact absurd rfl h
theorem cmpI_swap (a b : List Int) : cmpI b a = - cmpI a b := by
  unfold cmpI
  by_cases h : a.length = b.length
  · rw [if_pos h, if_pos h.symm]; exact lexI_swap a b
  · rw [if_neg h, if_neg (Ne.symm h)]
    split
    · rw [if_neg (by omega)]
    · rw [if_pos (by omega)]; rfl
theorem cmpI_vals (a b : List Int) : cmpI a b = -1 ∨ cmpI a b = 0 ∨ cmpI a b = 1 := by
  unfold cmpI
  split
  · exact lexI_vals a b
  · split
    · exact .inl rfl
    · exact .inr (.inr rfl)
def LtS (a b : List Int) : Prop := cmpI a b = -1
theorem LtS.trans {a b c : List Int} (h : LtS a b) (h' : LtS b c) : LtS a c := by
  unfold LtS cmpI at *
  by_cases e1 : a.length = b.length
  · rw [if_pos e1] at h
    by_cases e2 : b.length = c.length
    · rw [if_pos e2] at h'
      rw [if_pos (by omega)]
      exact lexI_trans a b c e1 e2 h h'
    · rw [if_neg e2] at h'
      by_cases e3 : b.length < c.length
      · rw [if_neg (by omega), if_pos (by omega)]
      · rw [if_neg e3] at h'; simp at h'
  · rw [if_neg e1] at h
    by_cases e4 : a.length < b.length
    · by_cases e2 : b.length = c.length
      · rw [if_neg (by omega), if_pos (by omega)]
      · rw [if_neg e2] at h'
        by_cases e3 : b.length < c.length
        · rw [if_neg (by omega), if_pos (by omega)]
        · rw [if_neg e3] at h'; simp at h'
    · rw [if_neg e4] at h; simp at h
theorem LtS.of {a b : List Int} (h1 : a ≠ b) (h2 : cmpI a b ≠ -1) : LtS b a := by
  unfold LtS
  rw [cmpI_swap]
  rcases cmpI_vals a b with h | h | h
  · exact absurd h h2
  · exact absurd ((cmpI_zero a b).1 h) h1
  · rw [h]
theorem ieq_cmp (a b : List Int) : ieq (cmpI a b) 0 = true ↔ a = b := by rw [ieq_eq, decide_eq_true_iff, cmpI_zero]
/-! ### Insertion -/
def insS (s : List Int) : List (List Int) → List (List Int)
  | [] => [s]
  | a :: r => if cmpI s a = -1 then s :: a :: r else a :: insS s r
theorem putGo_true (s : List Int) : ∀ (r out : List (List Int)), putGo s r out true = if s ∈ r then none else some (out ++ r)
  | [], out => by simp [putGo]
  | a :: r, out => by
    unfold putGo
    cases hq : ieq (cmpI s a) 0 with
    | true => rw [ieq_cmp] at hq; simp [hq]
    | false =>
      have hne : s ≠ a := fun e => by rw [(ieq_cmp s a).2 e] at hq; cases hq
      have := putGo_true s r (out ++ [a])
      cases ile 0 (cmpI s a) <;> simp only [] <;> rw [this] <;> simp [hne]
theorem putGo_false (s : List Int) : ∀ (r out : List (List Int)), putGo s r out false = if s ∈ r then none else some (out ++ insS s r)
  | [], out => by simp [putGo, insS]
  | a :: r, out => by
    unfold putGo
    cases hq : ieq (cmpI s a) 0 with
    | true => rw [ieq_cmp] at hq; simp [hq]
    | false =>
      have hne : s ≠ a := fun e => by rw [(ieq_cmp s a).2 e] at hq; cases hq
      cases hl : ile 0 (cmpI s a) with
      | false =>
        rw [ile_eq] at hl
        have hl := of_decide_eq_false hl
        have hc : cmpI s a = -1 := by rcases cmpI_vals s a with h | h | h <;> omega
        simp only []
        rw [putGo_true, insS, if_pos hc]
        simp [hne]
      | true =>
        rw [ile_eq] at hl
        have hl := of_decide_eq_true hl
        have hc : cmpI s a ≠ -1 := by omega
        simp only []
        rw [putGo_false s r, insS, if_neg hc]
        simp [hne]
theorem putI_eq (l : List (List Int)) (s : List Int) : putI l s = if s ∈ l then l else insS s l := by
  unfold putI
  rw [putGo_false]
  split <;> simp
theorem mem_insS {s x : List Int} : ∀ {l : List (List Int)}, x ∈ insS s l ↔ x = s ∨ x ∈ l
  | [] => by simp [insS]
  | a :: r => by
    unfold insS
    split
    · simp
    · simp only [List.mem_cons, mem_insS (l := r)]
      constructor
      · rintro (h | h | h) <;> simp [h]
      · rintro (h | h | h) <;> simp [h]
theorem mem_putI_iff {l : List (List Int)} {s x : List Int} : x ∈ putI l s ↔ x = s ∨ x ∈ l := by
  rw [putI_eq]
  split
  · rename_i h
    constructor
    · exact .inr
    · rintro (rfl | h') <;> assumption
  · exact mem_insS
abbrev Srt (l : List (List Int)) : Prop := l.Pairwise LtS
theorem insS_srt {s : List Int} : ∀ {l : List (List Int)}, Srt l → s ∉ l → Srt (insS s l)
  | [], _, _ => by simp [insS]
  | a :: r, h, hn => by
    have h1 := List.pairwise_cons.1 h
    have hsa : s ≠ a := fun e => hn (by simp [e])
    unfold insS
    split
    · rename_i hc
      refine List.pairwise_cons.2 ⟨fun x hx => ?_, h⟩
      rcases List.mem_cons.1 hx with rfl | hx
      · exact hc
      · exact LtS.trans hc (h1.1 x hx)
    · rename_i hc
      refine List.pairwise_cons.2 ⟨fun x hx => ?_, insS_srt h1.2 (fun e => hn (by simp [e]))⟩
      rcases mem_insS.1 hx with rfl | hx
      · exact LtS.of hsa hc
      · exact h1.1 x hx
theorem putI_srt {l : List (List Int)} (h : Srt l) (s : List Int) : Srt (putI l s) := by
  rw [putI_eq]
  split
  · exact h
  · exact insS_srt h (by assumption)
/-! ### Faces -/
theorem mem_facesGo_iff {a x : List Int} : ∀ (c m : Nat) (out : List (List Int)), x ∈ facesGo a c m out ↔ (∃ k, m ≤ k ∧ k < m + c ∧ x = subI k 0 a) ∨ x ∈ out
  | 0, m, out => by
    simp only [facesGo]
    constructor
    · exact .inr
    · rintro (⟨k, h1, h2, _⟩ | h)
      · omega
      · exact h
  | c + 1, m, out => by
    simp only [facesGo]
    rw [mem_facesGo_iff c (m + 1), mem_putI_iff]
    constructor
    · rintro (⟨k, h1, h2, h3⟩ | h | h)
      · exact .inl ⟨k, by omega, by omega, h3⟩
      · exact .inl ⟨m, by omega, by omega, h⟩
      · exact .inr h
    · rintro (⟨k, h1, h2, h3⟩ | h)
      · rcases Nat.eq_or_lt_of_le h1 with rfl | h1
        · exact .inr (.inl h3)
        · exact .inl ⟨k, h1, by omega, h3⟩
      · exact .inr (.inr h)
theorem facesGo_srt (a : List Int) : ∀ (c m : Nat) (out : List (List Int)), Srt out → Srt (facesGo a c m out)
  | 0, _, _, h => h
  | c + 1, m, out, h => facesGo_srt a c (m + 1) _ (putI_srt h _)
theorem subI_sublist (m : Nat) : ∀ (a : List Int) (i : Nat), (subI m i a).Sublist a
  | [], i => by simp [subI]
  | y :: r, i => by
    unfold subI
    split
    · exact (subI_sublist m r (i + 1)).cons_cons y
    · exact (subI_sublist m r (i + 1)).cons y
theorem subI_of {x a : List Int} (h : x.Sublist a) : ∃ m, m < 2 ^ a.length ∧ ∀ i r, r < 2 ^ i → subI (m * 2 ^ i + r) i a = x := by
  induction h with
  | slnil => exact ⟨0, by simp, fun i r _ => rfl⟩
  | @cons x a y h ih =>
    obtain ⟨m, hm, hs⟩ := ih
    refine ⟨2 * m, by rw [List.length_cons, Nat.pow_succ]; omega, fun i r hr => ?_⟩
    have h2 : 0 < 2 ^ i := Nat.pow_pos (by decide)
    have e1 : (2 * m * 2 ^ i + r) / 2 ^ i = 2 * m := by
      rw [Nat.add_comm, Nat.add_mul_div_right _ _ h2, Nat.div_eq_of_lt hr]; omega
    have e2 : 2 * m * 2 ^ i + r = m * 2 ^ (i + 1) + r := by rw [Nat.pow_succ, Nat.mul_comm 2 m, Nat.mul_assoc, Nat.mul_comm 2 (2 ^ i)]
    unfold subI
    rw [e1, if_neg (by omega), e2]
    exact hs (i + 1) r (by rw [Nat.pow_succ]; omega)
  | @cons_cons x a y h ih =>
    obtain ⟨m, hm, hs⟩ := ih
    refine ⟨2 * m + 1, by rw [List.length_cons, Nat.pow_succ]; omega, fun i r hr => ?_⟩
    have h2 : 0 < 2 ^ i := Nat.pow_pos (by decide)
    have e1 : ((2 * m + 1) * 2 ^ i + r) / 2 ^ i = 2 * m + 1 := by
      rw [Nat.add_comm, Nat.add_mul_div_right _ _ h2, Nat.div_eq_of_lt hr]; omega
    have e2 : (2 * m + 1) * 2 ^ i + r = m * 2 ^ (i + 1) + (2 ^ i + r) := by
      rw [Nat.pow_succ, Nat.add_mul, Nat.mul_comm 2 m, Nat.mul_assoc, Nat.mul_comm 2 (2 ^ i)]; omega
    unfold subI
    rw [e1, if_pos (by omega), e2, hs (i + 1) (2 ^ i + r) (by rw [Nat.pow_succ]; omega)]
theorem subI_nil {m : Nat} : ∀ (a : List Int) (i : Nat), subI m i a = [] → m / 2 ^ i % 2 ^ a.length = 0
  | [], i, _ => by simp [Nat.mod_one]
  | y :: r, i, h => by
    unfold subI at h
    split at h
    · cases h
    · rename_i hb
      have ih := subI_nil r (i + 1) h
      rw [List.length_cons, Nat.pow_succ, Nat.mul_comm, Nat.mod_mul]
      rw [Nat.pow_succ, ← Nat.div_div_eq_div_mul] at ih
      rw [ih]; omega
theorem subI_zero : ∀ (a : List Int) (i : Nat), subI 0 i a = []
  | [], i => rfl
  | y :: r, i => by unfold subI; rw [Nat.zero_div, if_neg (by simp)]; exact subI_zero r (i + 1)
theorem mem_facesI {a x : List Int} : x ∈ facesI a ↔ x.Sublist a ∧ x ≠ [] := by
  unfold facesI
  rw [mem_facesGo_iff]
  have hp : 0 < 2 ^ a.length := Nat.pow_pos (by decide)
  constructor
  · rintro (⟨k, h1, h2, rfl⟩ | h)
    · refine ⟨subI_sublist _ _ _, fun e => ?_⟩
      have := subI_nil a 0 e
      rw [Nat.pow_zero, Nat.div_one, Nat.mod_eq_of_lt (by omega)] at this
      omega
    · simp at h
  · rintro ⟨h1, h2⟩
    obtain ⟨m, hm, hs⟩ := subI_of h1
    have := hs 0 0 (by simp)
    rw [Nat.pow_zero, Nat.mul_one, Nat.add_zero] at this
    refine .inl ⟨m, ?_, by omega, this.symm⟩
    rcases Nat.eq_zero_or_pos m with rfl | h
    · rw [subI_zero] at this; exact absurd this.symm h2
    · exact h
theorem mem_putsI {x : List Int} : ∀ (f out : List (List Int)), x ∈ putsI out f ↔ x ∈ out ∨ x ∈ f
  | [], out => by simp [putsI]
  | s :: f, out => by
    have := mem_putsI (x := x) f (putI out s)
    simp only [putsI, List.foldl_cons] at this ⊢
    rw [this, mem_putI_iff, List.mem_cons]
    constructor
    · rintro ((h | h) | h) <;> simp [h]
    · rintro (h | h | h) <;> simp [h]
theorem putsI_srt : ∀ (f out : List (List Int)), Srt out → Srt (putsI out f)
  | [], _, h => h
  | s :: f, out, h => by
    have := putsI_srt f (putI out s) (putI_srt h s)
    simpa only [putsI, List.foldl_cons] using this
theorem mem_closedGo {x : List Int} : ∀ (l out : List (List Int)), x ∈ closedGo l out ↔ x ∈ out ∨ ∃ a ∈ l, x ∈ facesI a
  | [], out => by simp [closedGo]
  | a :: r, out => by
    rw [closedGo, mem_closedGo r, mem_putsI]
    constructor
    · rintro ((h | h) | ⟨b, h1, h2⟩)
      · exact .inl h
      · exact .inr ⟨a, by simp, h⟩
      · exact .inr ⟨b, by simp [h1], h2⟩
    · rintro (h | ⟨b, h1, h2⟩)
      · exact .inl (.inl h)
      · rcases List.mem_cons.1 h1 with rfl | h1
        · exact .inl (.inr h2)
        · exact .inr ⟨b, h1, h2⟩
theorem closedGo_srt : ∀ (l out : List (List Int)), Srt out → Srt (closedGo l out)
  | [], _, h => h
  | a :: r, out, h => closedGo_srt r _ (putsI_srt _ _ h)
theorem mem_closedI {l : List (List Int)} {x : List Int} : x ∈ closedI l ↔ ∃ a ∈ l, x.Sublist a ∧ x ≠ [] := by
  unfold closedI
  rw [mem_closedGo]
  simp only [mem_facesI, List.not_mem_nil, false_or]
theorem closedGo_length' {q : Nat} : ∀ (l out : List (List Int)), (∀ a ∈ l, a.length ≤ q) → (closedGo l out).length ≤ out.length + 2 ^ q * l.length
  | [], out, _ => by simp [closedGo]
  | a :: r, out, h => by
    have h1 := closedGo_length' r (putsI out (facesI a)) (fun b hb => h b (List.mem_cons_of_mem _ hb))
    have h2 := putsI_length (facesI a) out
    have h3 := facesI_length a
    have h4 : 2 ^ a.length ≤ 2 ^ q := Nat.pow_le_pow_right (by decide) (h a List.mem_cons_self)
    simp only [closedGo, List.length_cons, Nat.mul_succ] at h1 ⊢
    omega
/-! ### Sorting -/
def insL (v : Int) : List Int → List Int
  | [] => [v]
  | u :: p => if u ≤ v then v :: u :: p else u :: insL v p
theorem sink_eq : ∀ (p : List Int) (v : Int) (post : List Int), sink (p.reverse ++ v :: post) p.length = (insL v p).reverse ++ post
  | [], v, post => by simp [sink, insL]
  | u :: p, v, post => by
    have e0 : (u :: p).reverse ++ v :: post = p.reverse ++ u :: v :: post := by simp
    have g1 : (p.reverse ++ u :: v :: post).getD p.length 0 = u := by
      rw [List.getD_eq_getElem?_getD, List.getElem?_append_right (by simp)]; simp
    have g2 : (p.reverse ++ u :: v :: post).getD (p.length + 1) 0 = v := by
      rw [List.getD_eq_getElem?_getD, List.getElem?_append_right (by simp)]; simp
    rw [e0, List.length_cons, sink, g1, g2]
    by_cases h : u ≤ v
    · rw [ile_t h]; simp [insL, h]
    · rw [ile_f (by omega)]
      have hs : swp (p.reverse ++ u :: v :: post) p.length = p.reverse ++ v :: u :: post := by
        rw [swp, g1, g2, List.set_append_right _ _ (by simp), List.set_append_right _ _ (by simp)]
        simp
      simp only [hs]
      rw [sink_eq p v (u :: post)]
      simp [insL, h]
theorem sortGo_eq : ∀ (rest p : List Int), sortGo rest.length p.length (p.reverse ++ rest) = (rest.foldl (fun p v => insL v p) p).reverse
  | [], p => by simp [sortGo]
  | v :: rest, p => by
    rw [List.length_cons, sortGo, sink_eq]
    have hl : (insL v p).length = p.length + 1 := by
      have : ∀ p : List Int, (insL v p).length = p.length + 1 := by
        intro p; induction p with
        | nil => rfl
        | cons u p ih => unfold insL; split <;> simp [ih]
      exact this p
    rw [← hl, sortGo_eq rest (insL v p)]
    simp
theorem sortI_eq (c : List Int) : sortI c = (c.foldl (fun p v => insL v p) []).reverse := by
  have := sortGo_eq c []
  simpa [sortI] using this
theorem insL_perm (v : Int) : ∀ p : List Int, (insL v p).Perm (v :: p)
  | [] => .refl _
  | u :: p => by
    unfold insL; split
    · exact .refl _
    · exact ((insL_perm v p).cons u).trans (.swap v u p)
theorem insL_desc (v : Int) : ∀ {p : List Int}, p.Pairwise (fun a b => b ≤ a) → (insL v p).Pairwise (fun a b => b ≤ a)
  | [], _ => by simp [insL]
  | u :: p, h => by
    have h1 := List.pairwise_cons.1 h
    unfold insL; split
    · refine List.pairwise_cons.2 ⟨fun x hx => ?_, h⟩
      rcases List.mem_cons.1 hx with rfl | hx
      · assumption
      · have := h1.1 x hx; omega
    · refine List.pairwise_cons.2 ⟨fun x hx => ?_, insL_desc v h1.2⟩
      have := (insL_perm v p).mem_iff.1 hx
      rcases List.mem_cons.1 this with rfl | hx
      · omega
      · exact h1.1 x hx
theorem fold_perm : ∀ (c p : List Int), (c.foldl (fun p v => insL v p) p).Perm (c.reverse ++ p)
  | [], p => .refl _
  | v :: c, p => by
    have := fold_perm c (insL v p)
    simp only [List.foldl_cons, List.reverse_cons, List.append_assoc]
    exact this.trans ((insL_perm v p).append_left _)
theorem fold_desc : ∀ (c p : List Int), p.Pairwise (fun a b => b ≤ a) → (c.foldl (fun p v => insL v p) p).Pairwise (fun a b => b ≤ a)
  | [], p, h => h
  | v :: c, p, h => fold_desc c _ (insL_desc v h)
theorem sortI_perm (c : List Int) : (sortI c).Perm c := by
  rw [sortI_eq]
  have := fold_perm c []
  rw [List.append_nil] at this
  exact (List.reverse_perm _).trans (this.trans (List.reverse_perm _))
theorem sortI_le (c : List Int) : (sortI c).Pairwise (· ≤ ·) := by
  rw [sortI_eq, List.pairwise_reverse]
  exact fold_desc c [] List.Pairwise.nil
theorem asc_of {c : List Int} (h : c.Pairwise (· ≤ ·)) (hn : c.Nodup) : c.Pairwise (· < ·) := by
  have := h.and hn
  exact this.imp fun ⟨h1, h2⟩ => by omega
theorem sortI_asc {c : List Int} (h : c.Nodup) : (sortI c).Pairwise (· < ·) := asc_of (sortI_le c) ((sortI_perm c).nodup_iff.2 h)
/-- Of two ascending lists: what is a part is a sublist. -/
theorem asc_sublist : ∀ {u w : List Int}, u.Pairwise (· < ·) → w.Pairwise (· < ·) → (∀ v ∈ u, v ∈ w) → u.Sublist w
  | [], w, _, _, _ => List.nil_sublist w
  | x :: u, [], _, _, h => absurd (h x (by simp)) (by simp)
  | x :: u, y :: w, hu, hw, h => by
    have h1 := List.pairwise_cons.1 hu
    have h2 := List.pairwise_cons.1 hw
    by_cases e : x = y
    · subst e
      refine List.Sublist.cons_cons x (asc_sublist h1.2 h2.2 fun v hv => ?_)
      rcases List.mem_cons.1 (h v (by simp [hv])) with rfl | h3
      · have := h1.1 v hv; omega
      · exact h3
    · refine List.Sublist.cons y (asc_sublist hu h2.2 fun v hv => ?_)
      rcases List.mem_cons.1 (h v hv) with rfl | h3
      · exfalso
        rcases List.mem_cons.1 (h x (by simp)) with h4 | h4
        · exact e h4
        · have := h2.1 x h4
          rcases List.mem_cons.1 hv with h5 | h5
          · exact e h5.symm
          · have := h1.1 v h5; omega
      · exact h3
theorem asc_ext {u w : List Int} (hu : u.Pairwise (· < ·)) (hw : w.Pairwise (· < ·)) (h : ∀ v, v ∈ u ↔ v ∈ w) : u = w :=
  (asc_sublist hu hw fun v => (h v).1).eq_of_length_le (asc_sublist hw hu fun v => (h v).2).length_le
theorem asc_nodup {c : List Int} (h : c.Pairwise (· < ·)) : c.Nodup := h.imp fun h => by omega
/-! ### Valid simplices -/
theorem inI_iff (a : List Int) (v : Int) : inI a v = true ↔ v ∈ a := by
  simp [inI, List.any_eq_true, ieq_eq]
theorem red_rng {n : Int} (hn : 0 < n) (x : Int) : 0 ≤ red n x ∧ red n x < n := by
  unfold red
  have h1 := tmod_lt (x := x) hn
  constructor
  · exact Int.tmod_nonneg _ (by omega)
  · exact Int.tmod_lt_of_pos _ hn
theorem validGo_ok {most : Nat} {n : Int} (hn : 0 < n) : ∀ (a c : List Int), c.Nodup → (∀ v ∈ c, 0 ≤ v ∧ v < n) → (validGo most n a c).Nodup ∧ ∀ v ∈ validGo most n a c, 0 ≤ v ∧ v < n
  | [], c, h1, h2 => ⟨h1, h2⟩
  | y :: r, c, h1, h2 => by
    unfold validGo
    split
    · cases hq : inI c (red n y) with
      | true => exact validGo_ok hn r c h1 h2
      | false =>
        refine validGo_ok hn r _ ?_ ?_
        · rw [List.nodup_append]
          refine ⟨h1, by simp, fun x hx y' hy => ?_⟩
          rw [List.mem_singleton] at hy
          subst hy
          intro e; subst e
          rw [(inI_iff c _).2 hx] at hq; cases hq
        · intro v hv
          rcases List.mem_append.1 hv with hv | hv
          · exact h2 v hv
          · rw [List.mem_singleton] at hv; subst hv; exact red_rng hn y
    · exact ⟨h1, h2⟩
theorem validI_ok {most : Nat} {n : Int} (hm : 1 ≤ most) (hm5 : most ≤ 5) (hn : 0 < n) (hn64 : n ≤ 64) (a : List Int) : OkS (validI a most n) := by
  have h := validGo_ok (most := most) hn a [] (by simp) (by simp)
  have hl := validI_length a most n hm
  refine ⟨?_, by omega, ?_, ?_⟩
  · intro e
    have hlen : (validI a most n).length = 0 := by rw [e]; rfl
    unfold validI at hlen
    split at hlen
    · rw [sortI_length] at hlen; simp at hlen
    · rename_i o
      rw [sortI_length] at hlen
      exact o (List.eq_nil_of_length_eq_zero hlen)
  · intro v hv
    unfold validI at hv
    split at hv
    · rw [(sortI_perm _).mem_iff] at hv; simp at hv; omega
    · rw [(sortI_perm _).mem_iff] at hv
      have := h.2 v hv; omega
  · unfold validI
    split
    · exact sortI_asc (by simp)
    · exact sortI_asc h.1
theorem OkS.sub {a f : List Int} (h : OkS a) (hs : f.Sublist a) (hne : f ≠ []) : OkS f :=
  ⟨hne, Nat.le_trans hs.length_le h.le, fun v hv => h.rng v (hs.mem hv), h.asc.sublist hs⟩
theorem mem_facetsI {a f : List Int} (h : f ∈ facetsI a) : f.Sublist a ∧ (a ≠ [] → f ≠ []) := by
  unfold facetsI at h
  split at h
  · simp at h
  · rename_i hl
    obtain ⟨i, hi, rfl⟩ := List.mem_map.1 h
    rw [List.mem_range] at hi
    refine ⟨List.eraseIdx_sublist a i, fun hne e => ?_⟩
    have := congrArg List.length e
    rw [List.length_eraseIdx, if_pos hi, List.length_nil] at this
    omega
theorem asc_adj {l : List (List Int)} (h : Srt l) : ∀ i (hi : i + 1 < l.length), cmpI l[i + 1] l[i] = 1 := by
  intro i hi
  have := List.pairwise_iff_getElem.1 h i (i + 1) (by omega) hi (by omega)
  rw [cmpI_swap, this]; rfl
/-- A complex that is closed. -/
structure Cx (l : List (List Int)) : Prop where
  ok : ∀ a ∈ l, OkS a
  srt : Srt l
  sub : ∀ a ∈ l, ∀ f : List Int, f.Sublist a → f ≠ [] → f ∈ l
  le : l.length ≤ 1024
theorem Cx.okC {l : List (List Int)} (h : Cx l) : OkC l := ⟨h.ok, asc_adj h.srt, fun a ha f hf => h.sub a ha f (mem_facetsI hf).1 ((mem_facetsI hf).2 (h.ok a ha).ne), h.le⟩
theorem valid8_cx {l : List (List Int)} {most dim : Nat} {n : Int} (hmost : most ≤ 8) (hdim : dim ≤ 4) (hn : 0 < n) (hn64 : n ≤ 64) : Cx (valid8 l most dim n) := by
  have hf : ∀ a ∈ fewGo most (dim + 1) n l, OkS a := by
    intro a ha
    obtain ⟨b, rfl⟩ := mem_fewGo l most ha
    exact validI_ok (by omega) (by omega) hn hn64 b
  refine ⟨fun a ha => ?_, closedGo_srt _ _ List.Pairwise.nil, fun a ha f hs hne => ?_, ?_⟩
  · obtain ⟨b, hb, hs, hne⟩ := mem_closedI.1 ha
    exact (hf b hb).sub hs hne
  · obtain ⟨b, hb, hs', _⟩ := mem_closedI.1 ha
    exact mem_closedI.2 ⟨b, hb, hs.trans hs', hne⟩
  · have h1 := closedGo_length' (q := 5) (fewGo most (dim + 1) n l) [] (fun a ha => (hf a ha).le)
    have h2 := fewGo_length (dim + 1) n l most
    have h3 : (2 : Nat) ^ 5 = 32 := by decide
    rw [h3] at h1
    simp only [valid8, closedI]
    simp at h1
    omega
theorem valid8_ne {l : List (List Int)} {most dim : Nat} {n : Int} (hl : l ≠ []) (hmost : 1 ≤ most) (hdim : dim ≤ 4) (hn : 0 < n) (hn64 : n ≤ 64) : valid8 l most dim n ≠ [] := by
  cases l with
  | nil => exact absurd rfl hl
  | cons a r =>
    obtain ⟨m, rfl⟩ : ∃ m, most = m + 1 := ⟨most - 1, by omega⟩
    have h : validI a (dim + 1) n ∈ valid8 (a :: r) (m + 1) dim n := mem_closedI.2 ⟨_, by simp [fewGo], List.Sublist.refl _, (validI_ok (by omega) (by omega) hn hn64 a).ne⟩
    intro e; rw [e] at h; simp at h
/-! ### Links -/
theorem mem_meetI {a b : List Int} {v : Int} : v ∈ meetI a b ↔ v ∈ a ∧ v ∈ b := by
  simp [meetI, List.mem_filter, inI_iff]
theorem meetI_nil {a b : List Int} : meetI a b = [] ↔ ∀ v ∈ a, v ∉ b := by
  rw [List.eq_nil_iff_forall_not_mem]
  constructor
  · intro h v h1 h2; exact h v (mem_meetI.2 ⟨h1, h2⟩)
  · intro h v hv; exact h v (mem_meetI.1 hv).1 (mem_meetI.1 hv).2
theorem join_asc {a b : List Int} (ha : OkS a) (hb : OkS b) (h : meetI a b = []) : (sortI (a ++ b)).Pairwise (· < ·) := by
  refine sortI_asc ?_
  rw [List.nodup_append]
  exact ⟨asc_nodup ha.asc, asc_nodup hb.asc, fun x hx y hy e => meetI_nil.1 h x hx (e ▸ hy)⟩
theorem joinI_some {a b j : List Int} (h : joinI a b = some j) : meetI a b = [] ∧ a.length + b.length ≤ 5 ∧ j = sortI (a ++ b) := by
  unfold joinI at h
  split at h
  · rename_i h1; cases h; exact ⟨h1.1, h1.2, rfl⟩
  · cases h
theorem linkP_iff {l : List (List Int)} {s t : List Int} : linkP l s t = true ↔ meetI s t = [] ∧ s.length + t.length ≤ 5 ∧ sortI (s ++ t) ∈ l := by
  unfold linkP
  constructor
  · intro h
    cases hj : joinI s t with
    | none => rw [hj] at h; cases h
    | some j =>
      rw [hj] at h
      obtain ⟨h1, h2, rfl⟩ := joinI_some hj
      obtain ⟨x, hx, e⟩ := List.any_eq_true.1 h
      rw [eqI_iff] at e
      exact ⟨h1, h2, e ▸ hx⟩
  · rintro ⟨h1, h2, h3⟩
    have hj : joinI s t = some (sortI (s ++ t)) := by rw [joinI, if_pos ⟨h1, h2⟩]
    rw [hj]
    exact List.any_eq_true.2 ⟨_, h3, (eqI_iff _ _).2 rfl⟩
theorem linkP_symm {l : List (List Int)} {s t : List Int} (hs : OkS s) (ht : OkS t) (h : linkP l s t = true) : linkP l t s = true := by
  rw [linkP_iff] at h ⊢
  obtain ⟨h1, h2, h3⟩ := h
  have h4 : meetI t s = [] := meetI_nil.2 fun v hv hv' => meetI_nil.1 h1 v hv' hv
  refine ⟨h4, by omega, ?_⟩
  rw [asc_ext (join_asc ht hs h4) (join_asc hs ht h1) fun v => ?_]
  · exact h3
  · rw [(sortI_perm _).mem_iff, (sortI_perm _).mem_iff, List.mem_append, List.mem_append, or_comm]
theorem link_cx {l : List (List Int)} (h : Cx l) {s : List Int} (hs : s ∈ l) : Cx (l.filter (linkP l s)) := by
  refine ⟨fun a ha => h.ok a (List.mem_filter.1 ha).1, h.srt.filter _, fun a ha f hf hne => ?_, Nat.le_trans (List.length_filter_le _ _) h.le⟩
  obtain ⟨h1, h2⟩ := List.mem_filter.1 ha
  refine List.mem_filter.2 ⟨h.sub a h1 f hf hne, ?_⟩
  rw [linkP_iff] at h2 ⊢
  obtain ⟨h3, h4, h5⟩ := h2
  have h6 : meetI s f = [] := meetI_nil.2 fun v hv hv' => meetI_nil.1 h3 v hv (hf.mem hv')
  have hfl := hf.length_le
  refine ⟨h6, by omega, h.sub _ h5 _ ?_ ?_⟩
  · refine asc_sublist (join_asc (h.ok s hs) ((h.ok a h1).sub hf hne) h6) (join_asc (h.ok s hs) (h.ok a h1) h3) fun v hv => ?_
    rw [(sortI_perm _).mem_iff, List.mem_append] at hv ⊢
    exact hv.imp id fun h => hf.mem h
  · intro e
    have := congrArg List.length e
    rw [sortI_length, List.length_append] at this
    have h7 : s.length ≠ 0 := fun e => (h.ok s hs).ne (List.eq_nil_of_length_eq_zero e)
    rw [List.length_nil] at this
    omega
theorem idxGo_nn {s : List Int} : ∀ (l : List (List Int)) (i : Nat), ile 0 (idxGo s i l) = true ↔ s ∈ l
  | [], i => by simp [idxGo]; rfl
  | a :: r, i => by
    unfold idxGo
    cases hq : ieq (cmpI a s) 0 with
    | true => rw [ieq_cmp] at hq; simp [hq]; rfl
    | false =>
      have hne : a ≠ s := fun e => by rw [(ieq_cmp a s).2 e] at hq; cases hq
      simp only []
      rw [idxGo_nn r (i + 1), List.mem_cons]
      simp [Ne.symm hne]
theorem idxI_nn {l : List (List Int)} {s : List Int} : ile 0 (idxI l s) = true ↔ s ∈ l := idxGo_nn l 0
/-- The law: links of t and s. -/
theorem links_law {l : List (List Int)} (h : Cx l) {s t : List Int} (hs : s ∈ l) (ht : t ∈ l) : ile 0 (idxI (l.filter (linkP l s)) t) = ile 0 (idxI (l.filter (linkP l t)) s) := by
  rw [Bool.eq_iff_iff, idxI_nn, idxI_nn, List.mem_filter, List.mem_filter]
  exact ⟨fun ⟨_, h1⟩ => ⟨hs, linkP_symm (h.ok s hs) (h.ok t ht) h1⟩, fun ⟨_, h1⟩ => ⟨ht, linkP_symm (h.ok t ht) (h.ok s hs) h1⟩⟩
end Go.CP
/- ComplexLinks: the law's function returns true, whatever it is called with. -/
namespace Go.CP
open Go.Proofs
variable [LG] [HK]
/-- The chapter's examples hold. -/
def Awake (K : Ctx) : Prop := K.memo 14 = [(.nil, .one (.c (.bo true)))]
section
variable {K : Ctx} {h : Hp}
theorem Awake.comes (A : Awake K) : Comes K 14 [] h (.bo true) h := ⟨1, fun d fu hd _ => by
  obtain ⟨d, rfl⟩ : ∃ m, d = m + 1 := ⟨d - 1, by omega⟩
  unfold Awake at A
  simp only [callX, Ctx.env, A, memoX, dmx, layR, lay]⟩
theorem t4 : tyk Tryz.prog 4 = .bool := by kernel_rfl
theorem conv58 (H : Std K) {i : Nat} (hi : i < 256) : lBytes K.P (.nu .u8 (.ofNat i)) (tyk K.P 5) (tyk K.P 3) = none ∧ qConv K.P h (.nu .u8 (.ofNat i)) (tyk K.P 5) (tyk K.P 3) = some (.nu .i64 (.ofNat i)) := by
  have h5 : tyk K.P 5 = .int .u8 := by rw [H.hP]; exact t5
  have h3' : tyk K.P 3 = .int .i64 := by rw [H.hP]; exact t3
  rw [h5, h3']
  refine ⟨rfl, ?_⟩
  show some (nuW .i64 (.ofNat i)) = _
  rw [nuW_eq]; exact congrArg _ (congrArg _ (wr_i64 i (by omega)))
theorem remNN {P : Program} {t : TypeId} {i n : Nat} (hn : n ≠ 0) : bineq P .rem t (.nu .i64 (.ofNat i)) (.nu .i64 (.ofNat n)) = some (.nu .i64 (.ofNat (i % n))) := remI (by simpa using hn)
theorem links_comes (H : Std K) (A : Awake K) (hp4 : K.plan 5 4 = some [.take 0, .take 1, .take 2, .take 3, .take 4, .take 5, .take 6, .take 7, .take 8, .take 9, .take 10, .take 11, .take 12, .take 13, .take 14, .take 15, .only 16 [15, 14, 13, 12, 11, 10, 9, 8], .only 17 []])
    (ok : HpOk h) {l : List (List Int)} (hsm : ∀ a ∈ l, a.length ≤ 9223372036854775807) {i j : Nat} (hi : i < 256) (hj : j < 256) {x : CV} {cs : List CV} (hx : Row h x cs) (hxs : Rows h cs l) :
    ∃ h', Comes K 5 [x, .nu .u8 (.ofNat i), .nu .u8 (.ofNat j)] h (.bo true) h' ∧ Same h.n h h' := by
  have hf : K.P.funcs[5]? = some Tryz.f5 := by rw [H.hP]; exact Tryz.func5
  have hlen := len26 H hx
  rw [hxs.length] at hlen
  have aw : ∀ g, Comes K 14 [] g (.bo true) g := fun g => A.comes
  have o16 := more (P := K.P) (t := 3) (Int.ofNat l.length) 40
  by_cases hbig : 40 < l.length
  · rw [ile_f (by simp only [Int.ofNat_eq_natCast]; omega)] at o16
    exact ⟨h, Comes.plain hf rfl (H.memo 5 (by decide)) (H.spec 5) rfl (Runs.seq (f5_r0 H.hk) (Runs.seqX (Runs.seq (f5_r1_TT H.hk rfl hlen o16 rfl) (Runs.condT (o := .tmp 25) rfl (Runs.seq (f5_r2 H.hk (H.prim _ _) (aw h)) Runs.ret))) (by simp))) (.inr rfl) (Nat.le_refl _) rfl rfl rfl, Same.refl _ _⟩
  rw [ile_t (by simp only [Int.ofNat_eq_natCast]; omega)] at o16
  have o20 := eqln (P := K.P) (t := 3) (Int.ofNat l.length) 0
  by_cases hne : l = []
  · rw [ieq_t (by simp [hne])] at o20
    exact ⟨h, Comes.plain hf rfl (H.memo 5 (by decide)) (H.spec 5) rfl (Runs.seq (f5_r0 H.hk) (Runs.seqX (Runs.seq (f5_r1_FT H.hk rfl hlen o16 o20 rfl rfl) (Runs.condT (o := .tmp 25) rfl (Runs.seq (f5_r2 H.hk (H.prim _ _) (aw h)) Runs.ret))) (by simp))) (.inr rfl) (Nat.le_refl _) rfl rfl rfl, Same.refl _ _⟩
  have hl0 : l.length ≠ 0 := fun e => hne (List.eq_nil_of_length_eq_zero e)
  rw [ieq_f (by simp only [Int.ofNat_eq_natCast]; omega)] at o20
  obtain ⟨s1, r1, a0, a1, a2, as1⟩ : ∃ s1, (∀ {e s' h'}, Runs K 5 81 none (sub1 [1, 1] (bodyOf Tryz.f5)) s1 h e s' h' → Runs K 5 81 none (bodyOf Tryz.f5) (entry 0 [x, .nu .u8 (.ofNat i), .nu .u8 (.ofNat j)]) h e s' h') ∧ s1.at 0 = x ∧ s1.at 1 = .nu .u8 (.ofNat i) ∧ s1.at 2 = .nu .u8 (.ofNat j) ∧ s1.at slot = .undef :=
    ⟨_, fun r => Runs.seq (f5_r0 H.hk) (Runs.seq (Runs.seq (f5_r1_FF H.hk rfl hlen o16 o20 rfl (H.prim _ _) (aw h) rfl rfl) (Runs.condF (o := .tmp 25) rfl Runs.skip)) r), rfl, rfl, rfl, rfl⟩
  -- the complex
  obtain ⟨y, ys, h2, c2, S2, ok2, hy, hys⟩ := valid8_comes H ok (l := l) (most := 6) (dim := 3) (n := 8) (by omega) hsm (by decide) (by decide) (by decide) (by decide) hx hxs
  have hX : Cx (valid8 l 6 3 8) := valid8_cx (by decide) (by decide) (by decide) (by decide)
  have hXn : valid8 l 6 3 8 ≠ [] := valid8_ne hne (by decide) (by decide) (by decide) (by decide)
  generalize hXe : valid8 l 6 3 8 = X at hys hX hXn
  have hXl : X.length ≠ 0 := fun e => hXn (List.eq_nil_of_length_eq_zero e)
  have hXle := hX.le
  have hyl := hys.length
  obtain ⟨s2, r2, b1, b2, b7, bs⟩ : ∃ s2, Runs K 5 81 none (sub1 [1, 1, 0] (bodyOf Tryz.f5)) s1 h .normal s2 h2 ∧ s2.at 1 = .nu .u8 (.ofNat i) ∧ s2.at 2 = .nu .u8 (.ofNat j) ∧ s2.at 7 = y ∧ s2.at slot = .undef := ⟨_, f5_r3 H.hk a0 (H.prim _ _) c2, a1, a2, rfl, as1⟩
  have hylen := len22 H hy
  rw [hyl] at hylen
  have him : i % X.length < X.length := Nat.mod_lt _ (by omega)
  have hjm : j % X.length < X.length := Nat.mod_lt _ (by omega)
  obtain ⟨p, hp1, hp2⟩ := at22 H hy (i := i % X.length) (by omega)
  obtain ⟨q, hq1, hq2⟩ := at22 H hy (i := j % X.length) (by omega)
  have rs := hys.get (i := i % X.length) (by omega) him
  have rt := hys.get (i := j % X.length) (by omega) hjm
  have hs := List.getElem_mem him
  have ht := List.getElem_mem hjm
  generalize X[i % X.length] = s at rs hs
  generalize X[j % X.length] = t at rt ht
  obtain ⟨l31, o31⟩ := conv58 (h := h2) H hi
  obtain ⟨l39, o39⟩ := conv58 (h := h2) H hj
  have m22 : mapK (tyk K.P 22) = false := by rw [H.hP, t22]; rfl
  obtain ⟨s3, r3, d7, d8, d9, ds⟩ : ∃ s3, Runs K 5 81 none (sub1 [1, 1, 1, 0] (bodyOf Tryz.f5)) s2 h2 .normal s3 h2 ∧ s3.at 7 = y ∧ s3.at 8 = ys[i % X.length] ∧ s3.at 9 = ys[j % X.length] ∧ s3.at slot = .undef :=
    ⟨_, f5_r4 H.hk hp4 b7 b1 b2 l31 o31 (ceq_nu _) hylen m22 (remNN hXl) hp1 hp2 rs.ceq l39 o39 (ceq_nu _) (remNN hXl) hq1 hq2 rt.ceq, b7, rfl, rfl, bs⟩
  -- the links
  obtain ⟨_, h4, c4, S4, ok4, oa, da, rfl, hA⟩ := link_ret H ok2 hX.okC hs hy hys rs
  obtain ⟨s4, r4, e7, e8, e9, e10, e11, es⟩ : ∃ s4, Runs K 5 81 none (sub1 [1, 1, 1, 1, 0] (bodyOf Tryz.f5)) s3 h2 .normal s4 h4 ∧ s4.at 7 = y ∧ s4.at 8 = ys[i % X.length] ∧ s4.at 9 = ys[j % X.length] ∧ s4.at 10 = oa ∧ s4.at 11 = .nu .i64 0 ∧ s4.at slot = .undef :=
    ⟨_, f5_r5 H.hk d7 d8 (H.prim _ _) c4 rfl rfl, d7, d8, d9, rfl, rfl, ds⟩
  obtain ⟨_, h5, c5, S5, ok5, ob, db, rfl, hB⟩ := link_ret H ok4 hX.okC ht (hy.mono S4 ok2 (Nat.le_refl _)) (hys.mono S4 ok2 (Nat.le_refl _)) (rt.mono S4 ok2 (Nat.le_refl _))
  obtain ⟨s5, r5, f8, f9, f10, f11, f12, f13, fs⟩ : ∃ s5, Runs K 5 81 none (sub1 [1, 1, 1, 1, 1, 0] (bodyOf Tryz.f5)) s4 h4 .normal s5 h5 ∧ s5.at 8 = ys[i % X.length] ∧ s5.at 9 = ys[j % X.length] ∧ s5.at 10 = oa ∧ s5.at 11 = .nu .i64 0 ∧ s5.at 12 = ob ∧ s5.at 13 = .nu .i64 0 ∧ s5.at slot = .undef :=
    ⟨_, f5_r6 H.hk e7 e9 (H.prim _ _) c5 rfl rfl, e8, e9, e10, e11, rfl, rfl, es⟩
  have hLa := link_cx hX hs
  have hLb := link_cx hX ht
  have small : ∀ {Y : List (List Int)}, Cx Y → ∀ a ∈ Y, a ≠ [] ∧ a.length < 549755813888 := fun hY a ha => ⟨(hY.ok a ha).ne, by have := (hY.ok a ha).le; omega⟩
  have hA5 := hA.mono S5 ok4
  obtain ⟨h6, c6, S6, ok6⟩ := ccheck_comes H ok5 hLa.okC hA5.out.row hA5.all
  have hA6 := hA5.mono S6 ok5
  have hB6 := hB.mono S6 ok5
  obtain ⟨pa, pas, h7, c7, S7, ok7, hPa⟩ := plain_comes H ok6 (by have := hLa.le; omega) (small hLa) hA6.out.row hA6.all
  have S57 : Same h2.n h2 h7 := ((S4.trans (S5.le S4.n)).trans (S6.le (S4.trans (S5.le S4.n)).n)).trans (S7.le ((S4.trans (S5.le S4.n)).trans (S6.le (S4.trans (S5.le S4.n)).n)).n)
  have ci := idx_comes H (b := t) (by have := hLa.le; omega) (fun a ha => by have := (small hLa a ha).2; omega) hPa.out.row hPa.all (rt.mono S57 ok2 (Nat.le_refl _))
  have hB7 := hB6.mono S7 ok6
  obtain ⟨pb, pbs, h8, c8, S8, ok8, hPb⟩ := plain_comes H ok7 (by have := hLb.le; omega) (small hLb) hB7.out.row hB7.all
  have S58 := S57.trans (S8.le S57.n)
  have cj := idx_comes H (b := s) (by have := hLb.le; omega) (fun a ha => by have := (small hLb a ha).2; omega) hPb.out.row hPb.all (rs.mono S58 ok2 (Nat.le_refl _))
  have o73 := geqN (P := K.P) (t := 3) (idxI (X.filter (linkP X s)) t) 0
  have o78 := geqN (P := K.P) (t := 3) (idxI (X.filter (linkP X t)) s) 0
  rw [links_law hX hs ht] at o73
  have o79 : bineq K.P .eql 4 (.bo (ile 0 (idxI (X.filter (linkP X t)) s))) (.bo (ile 0 (idxI (X.filter (linkP X t)) s))) = some (.bo true) := by
    have : tyk K.P 4 = .bool := by rw [H.hP]; exact t4
    cases ile 0 (idxI (X.filter (linkP X t)) s) <;> simp [bineq, abin, aeq, this]
  obtain ⟨s6, r6, g6, gs⟩ : ∃ s6, Runs K 5 81 none (sub1 [1, 1, 1, 1, 1, 1, 0] (bodyOf Tryz.f5)) s5 h5 .normal s6 h8 ∧ s6.at 6 = .bo true ∧ s6.at slot = .undef :=
    ⟨_, f5_r7_TTT H.hk f11 f13 f10 f9 f12 f8 rfl rfl rfl (H.prim _ _) c6 rfl rfl (H.prim _ _) c7 (H.prim _ _) ci o73 (H.prim _ _) c8 (H.prim _ _) cj o78 o79 rfl, rfl, fs⟩
  have Sall := S2.trans (S58.le S2.n)
  refine ⟨h8, Comes.plain hf rfl (H.memo 5 (by decide)) (H.spec 5) rfl (r1 (Runs.seq r2 (Runs.seq r3 (Runs.seq r4 (Runs.seq r5 (Runs.seq r6 Runs.ret)))))) (.inr rfl) Sall.n gs (vs := [s6.at 6]) rfl ?_, Sall⟩
  exact g6
end
end Go.CP
