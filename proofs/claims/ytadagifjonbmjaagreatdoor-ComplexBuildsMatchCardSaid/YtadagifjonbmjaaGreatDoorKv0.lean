import Derived.Test.YtadagifjonbmjaaGreatDoorKl4
import Derived.Test.YtadagifjonbmjaaGreatDoorKq0
import Derived.Test.YtadagifjonbmjaaGreatDoorKs0
import Derived.Test.YtadagifjonbmjaaGreatDoorKw4
set_option linter.all false
/- Complex: collapses, in plain lists. -/
namespace Go.CP
open Go.Proofs
variable [LG] [HK]
theorem mem_eraseIdx_nd {α : Type} {l : List α} (hn : l.Nodup) {k : Nat} (hk : k < l.length) {a : α} : a ∈ l.eraseIdx k ↔ a ∈ l ∧ a ≠ l[k] := by
  rw [List.mem_eraseIdx_iff_getElem]
  constructor
  · rintro ⟨i, hi, hne, rfl⟩
    exact ⟨List.getElem_mem hi, fun e => hne ((List.getElem_inj hn).1 e)⟩
  · rintro ⟨ha, hne⟩
    obtain ⟨i, hi, rfl⟩ := List.getElem_of_mem ha
    exact ⟨i, hi, fun e => hne (by subst e; rfl), rfl⟩
structure Free (l : List (List Int)) (s t : List Int) : Prop where
  sm : s ∈ l
  tm : t ∈ l
  ne : s ≠ t
  has : hasI t s = true
  only : ∀ a ∈ l, hasI a s = true → a = s ∨ a = t
def sgI (a : List Int) : Int := if a.length % 2 = 0 then -1 else 1
def chiI (l : List (List Int)) : Int := (l.map sgI).sum
theorem chi_erase : ∀ (l : List (List Int)) (k : Nat) (hk : k < l.length), chiI l = chiI (l.eraseIdx k) + sgI l[k] := by
  intro l
  induction l with
  | nil => intro k hk; simp at hk
  | cons a l ih =>
    intro k hk
    cases k with
    | zero => simp [chiI, Int.add_comm]
    | succ k =>
      have h := ih k (by simpa using hk)
      simp only [chiI, List.map_cons, List.sum_cons, List.eraseIdx_cons_succ, List.getElem_cons_succ] at h ⊢
      omega
structure Step (l m : List (List Int)) (s t : List Int) : Prop where
  free : Free l s t
  sub : m.Sublist l
  mem : ∀ a, a ∈ m ↔ a ∈ l ∧ a ≠ s ∧ a ≠ t
  chi : chiI l = chiI m + sgI s + sgI t
theorem Step.of {l : List (List Int)} (hn : l.Nodup) {i k : Nat} (hik : i < k) (hk : k < l.length) (hF : Free l (l[i]'(by omega)) l[k]) : Step l ((l.eraseIdx k).eraseIdx i) (l[i]'(by omega)) l[k] := by
  have hl1 : (l.eraseIdx k).length = l.length - 1 := by rw [List.length_eraseIdx, if_pos hk]
  have hi1 : i < (l.eraseIdx k).length := by omega
  have e : (l.eraseIdx k)[i] = l[i]'(by omega) := List.getElem_eraseIdx_of_lt hi1 hik
  refine ⟨hF, (List.eraseIdx_sublist _ _).trans (List.eraseIdx_sublist _ _), fun a => ?_, ?_⟩
  · rw [mem_eraseIdx_nd ((List.eraseIdx_sublist l k).nodup hn) hi1, mem_eraseIdx_nd hn hk, e]
    constructor
    · rintro ⟨⟨h1, h2⟩, h3⟩; exact ⟨h1, h3, h2⟩
    · rintro ⟨h1, h2, h3⟩; exact ⟨⟨h1, h3⟩, h2⟩
  · have h1 := chi_erase l k hk
    have h2 := chi_erase (l.eraseIdx k) i hi1
    rw [e] at h2
    omega
theorem Step.cx {l m : List (List Int)} {s t : List Int} (h : Cx l) (st : Step l m s t) : Cx m := by
  refine ⟨fun a ha => h.ok a ((st.mem a).1 ha).1, List.Pairwise.sublist st.sub h.srt, fun a ha f hf hne => ?_, Nat.le_trans st.sub.length_le h.le⟩
  obtain ⟨h1, h2, h3⟩ := (st.mem a).1 ha
  have key : hasI a s = true → False := fun hq => by
    rcases st.free.only a h1 hq with e | e
    · exact h2 e
    · exact h3 e
  refine (st.mem f).2 ⟨h.sub a h1 f hf hne, fun e => key ?_, fun e => key ?_⟩
  · subst e; rw [hasI_iff]; exact fun v hv => hf.subset hv
  · subst e
    rw [hasI_iff]
    exact fun v hv => hf.subset (hasI_iff.1 st.free.has v hv)
theorem Free.len {l : List (List Int)} {s t : List Int} (h : Cx l) (F : Free l s t) : t.length = s.length + 1 := by
  have hs := h.ok s F.sm
  have ht := h.ok t F.tm
  have hst : s.Sublist t := (hasI_sub ht hs).1 F.has
  have h1 := hst.length_le
  have h2 : s.length ≠ t.length := fun e => F.ne (hst.eq_of_length e)
  by_cases hq : t.length = s.length + 1
  · exact hq
  obtain ⟨t', ht', hl, hs'⟩ := h.okC.mid hs (t.length - s.length - 1) t (by omega) F.tm hst
  rcases F.only t' ht' ((hasI_sub (h.ok t' ht') hs).2 hs') with e | e
  · rw [e] at hl; omega
  · rw [e] at hl; omega
theorem Step.chi_eq {l m : List (List Int)} {s t : List Int} (h : Cx l) (st : Step l m s t) : chiI m = chiI l := by
  have h1 := st.chi
  have h2 := st.free.len h
  have h3 : sgI s + sgI t = 0 := by
    unfold sgI
    rw [h2]
    rcases Nat.mod_two_eq_zero_or_one s.length with e | e
    · rw [if_pos e, if_neg (by omega)]; rfl
    · rw [if_neg (by omega), if_pos (by omega)]; rfl
  omega
inductive Conn (l : List (List Int)) : Int → Int → Prop
  | refl (u : Int) : Conn l u u
  | edge {a b : Int} : [a, b] ∈ l → Conn l a b
  | symm {a b : Int} : Conn l a b → Conn l b a
  | trans {a b c : Int} : Conn l a b → Conn l b c → Conn l a c
theorem Conn.map {l m : List (List Int)} {r : Int → Int} (h : ∀ a b, [a, b] ∈ l → Conn m (r a) (r b)) {u v : Int} (c : Conn l u v) : Conn m (r u) (r v) := by
  induction c with
  | refl u => exact .refl _
  | edge he => exact h _ _ he
  | symm _ ih => exact .symm ih
  | trans _ _ ih1 ih2 => exact .trans ih1 ih2
theorem Conn.sub {l m : List (List Int)} (h : ∀ a ∈ m, a ∈ l) {u v : Int} (c : Conn m u v) : Conn l u v := c.map (r := _root_.id) fun a b hab => .edge (h _ hab)
structure PartOf (pre l : List (List Int)) (P : List (List Int)) : Prop where
  dis : ∀ i j (hi : i < P.length) (hj : j < P.length) v, v ∈ P[i] → v ∈ P[j] → i = j
  ne : ∀ c ∈ P, c ≠ []
  cov : ∀ v, [v] ∈ pre ↔ ∃ c ∈ P, v ∈ c
  edg : ∀ a b, [a, b] ∈ pre → ∀ c ∈ P, (a ∈ c ↔ b ∈ c)
  con : ∀ c ∈ P, ∀ u ∈ c, ∀ v ∈ c, Conn l u v
theorem PartOf.closed {l P : List (List Int)} (h : PartOf l l P) {u v : Int} (c : Conn l u v) : ∀ p ∈ P, (u ∈ p ↔ v ∈ p) := by
  induction c with
  | refl u => exact fun _ _ => Iff.rfl
  | edge he => exact h.edg _ _ he
  | symm _ ih => exact fun p hp => (ih p hp).symm
  | trans _ _ ih1 ih2 => exact fun p hp => (ih1 p hp).trans (ih2 p hp)
theorem pig : ∀ (n : Nat) (l : List Nat), l.Nodup → (∀ x ∈ l, x < n) → l.length ≤ n := by
  intro n
  induction n with
  | zero =>
    intro l _ h
    cases l with
    | nil => exact Nat.le_refl _
    | cons a l => exact absurd (h a List.mem_cons_self) (Nat.not_lt_zero _)
  | succ n ih =>
    intro l hn h
    have h1 := ih (l.erase n) (hn.erase n) fun x hx => by
      have h2 := h x (List.mem_of_mem_erase hx)
      have h3 : x ≠ n := fun e => (hn.mem_erase_iff.1 hx).1 e
      omega
    have := List.length_erase (a := n) (l := l)
    split at this <;> omega
theorem part_le {l m P Q : List (List Int)} (hP : PartOf l l P) (hQ : PartOf m m Q) {r : Int → Int} (h1 : ∀ x, [x] ∈ l → [r x] ∈ m) (h2 : ∀ x y, [x] ∈ l → [y] ∈ l → Conn m (r x) (r y) → Conn l x y) : P.length ≤ Q.length := by
  have key : ∀ i : Nat, ∃ j : Nat, ∀ hi : i < P.length, ∃ hj : j < Q.length, ∃ x, x ∈ P[i] ∧ r x ∈ Q[j] := by
    intro i
    by_cases hi : i < P.length
    · have hne := hP.ne P[i] (List.getElem_mem hi)
      obtain ⟨x, hx⟩ : ∃ x, x ∈ P[i] := by
        cases hq : P[i] with
        | nil => exact absurd hq hne
        | cons a c => exact ⟨a, List.mem_cons_self⟩
      have hxl : [x] ∈ l := (hP.cov x).2 ⟨_, List.getElem_mem hi, hx⟩
      obtain ⟨c, hc, hrc⟩ := (hQ.cov _).1 (h1 x hxl)
      obtain ⟨j, hj, rfl⟩ := List.getElem_of_mem hc
      exact ⟨j, fun _ => ⟨hj, x, hx, hrc⟩⟩
    · exact ⟨0, fun h => absurd h hi⟩
  obtain ⟨f, hf⟩ := Classical.axiomOfChoice key
  have hnd : ((List.range P.length).map f).Nodup := by
    rw [List.Nodup, List.pairwise_map]
    refine List.Pairwise.imp_of_mem ?_ List.nodup_range
    intro i j hi hj hij e
    have hi := List.mem_range.1 hi
    have hj := List.mem_range.1 hj
    obtain ⟨hq, x, hx, hrx⟩ := hf i hi
    obtain ⟨hq', y, hy, hry⟩ := hf j hj
    have hc : Conn m (r x) (r y) := by
      have : r y ∈ Q[f i] := by simpa only [e] using hry
      exact hQ.con _ (List.getElem_mem hq) _ hrx _ this
    have hl := h2 x y ((hP.cov x).2 ⟨_, List.getElem_mem hi, hx⟩) ((hP.cov y).2 ⟨_, List.getElem_mem hj, hy⟩) hc
    exact hij (hP.dis i j hi hj y ((hP.closed hl _ (List.getElem_mem hi)).1 hx) hy)
  have := pig Q.length _ hnd fun x hx => by
    obtain ⟨i, hi, rfl⟩ := List.mem_map.1 hx
    obtain ⟨hq, _⟩ := hf i (List.mem_range.1 hi)
    exact hq
  simpa using this
structure Retr (l m : List (List Int)) (r : Int → Int) : Prop where
  sub : ∀ a ∈ m, a ∈ l
  vert : ∀ x, [x] ∈ l → [r x] ∈ m
  fix' : ∀ x, [x] ∈ m → r x = x
  edge : ∀ a b, [a, b] ∈ l → Conn m (r a) (r b)
  near : ∀ x, [x] ∈ l → Conn l x (r x)
theorem Retr.count {l m P Q : List (List Int)} {r : Int → Int} (R : Retr l m r) (hP : PartOf l l P) (hQ : PartOf m m Q) : P.length = Q.length := by
  refine Nat.le_antisymm (part_le hP hQ R.vert fun x y hx hy c => ?_) (part_le (r := _root_.id) hQ hP (fun x hx => R.sub _ hx) fun x y hx hy c => ?_)
  · exact (R.near x hx).trans ((c.sub R.sub).trans (R.near y hy).symm)
  · have := c.map R.edge
    simp only [_root_.id] at this
    rw [R.fix' x hx, R.fix' y hy] at this
    exact this
theorem Retr.refl (l : List (List Int)) : Retr l l _root_.id := ⟨fun _ h => h, fun _ h => h, fun _ _ => rfl, fun _ _ h => .edge h, fun _ _ => .refl _⟩
theorem Retr.trans {l m n : List (List Int)} {r q : Int → Int} (R : Retr l m r) (S : Retr m n q) : Retr l n (fun x => q (r x)) where
  sub a h := R.sub a (S.sub a h)
  vert x h := S.vert _ (R.vert x h)
  fix' x h := by rw [R.fix' x (S.sub _ h), S.fix' x h]
  edge a b h := (R.edge a b h).map S.edge
  near x h := (R.near x h).trans ((S.near _ (R.vert x h)).sub R.sub)
theorem Step.retr {l m : List (List Int)} {s t : List Int} (h : Cx l) (st : Step l m s t) : ∃ r, Retr l m r := by
  have hlen := st.free.len h
  have hsub : ∀ a ∈ m, a ∈ l := fun a ha => ((st.mem a).1 ha).1
  have hs := h.ok s st.free.sm
  have ht := h.ok t st.free.tm
  have hin : ∀ a ∈ l, a ≠ s → a ≠ t → a ∈ m := fun a h1 h2 h3 => (st.mem a).2 ⟨h1, h2, h3⟩
  have stay : 2 ≤ s.length → (∀ a b, [a, b] ∈ l → Conn m a b) → ∃ r, Retr l m r := fun h2 he => by
    refine ⟨_root_.id, hsub, fun x hx => hin _ hx ?_ ?_, fun _ _ => rfl, he, fun _ _ => .refl _⟩
    · intro e; have := congrArg List.length e; simp at this; omega
    · intro e; have := congrArg List.length e; simp at this; omega
  match hse : s with
  | [] => exact absurd rfl hs.ne
  | [v] =>
    obtain ⟨p, q, rfl⟩ : ∃ p q, t = [p, q] := by
      match t, hlen with
      | [p, q], _ => exact ⟨p, q, rfl⟩
    have hpq : p < q := by have := ht.asc; simp at this; exact this
    have hv : v = p ∨ v = q := by
      have := hasI_iff.1 st.free.has v (by simp)
      simpa using this
    obtain ⟨w, hw, hvw, hc, hex⟩ : ∃ w, w ∈ [p, q] ∧ w ≠ v ∧ Conn l v w ∧ ∀ a b, [a, b] = [p, q] → (a = v → b = w) ∧ (b = v → a = w) := by
      rcases hv with rfl | rfl
      · exact ⟨q, by simp, by omega, .edge st.free.tm, fun a b e => by simp at e; obtain ⟨rfl, rfl⟩ := e; exact ⟨fun _ => rfl, fun e => by omega⟩⟩
      · exact ⟨p, by simp, by omega, .symm (.edge st.free.tm), fun a b e => by simp at e; obtain ⟨rfl, rfl⟩ := e; exact ⟨fun e => by omega, fun _ => rfl⟩⟩
    have hwl : [w] ∈ l := h.sub _ st.free.tm [w] (by simpa using hw) (by simp)
    have hwm : [w] ∈ m := hin _ hwl (by simpa using hvw) (by simp)
    refine ⟨fun x => if x = v then w else x, hsub, fun x hx => ?_, fun x hx => ?_, fun a b hab => ?_, fun x hx => ?_⟩
    · show [if x = v then w else x] ∈ m
      by_cases e : x = v
      · rw [if_pos e]; exact hwm
      · rw [if_neg e]; exact hin _ hx (by simpa using e) (by simp)
    · have := (st.mem _).1 hx
      have e : x ≠ v := fun e => this.2.1 (by rw [e])
      exact if_neg e
    · show Conn m (if a = v then w else a) (if b = v then w else b)
      by_cases ha : a = v ∨ b = v
      · have hh : hasI [a, b] [v] = true := by
          rw [hasI_iff]
          intro x hx
          simp at hx
          subst hx
          rcases ha with e | e <;> simp [e]
        rcases st.free.only _ hab hh with e | e
        · simp at e
        · have := hex a b e
          have hne : a ≠ b := by simp at e; omega
          rcases ha with e1 | e1
          · rw [if_pos e1, if_neg (by omega), this.1 e1]; exact .refl _
          · rw [if_pos e1, if_neg (by omega), this.2 e1]; exact .refl _
      · have h1 : a ≠ v := fun e => ha (.inl e)
        have h2 : b ≠ v := fun e => ha (.inr e)
        rw [if_neg h1, if_neg h2]
        refine .edge (hin _ hab (by simp) fun e => ?_)
        simp at e
        rcases hv with hv | hv <;> omega
    · show Conn l x (if x = v then w else x)
      by_cases e : x = v
      · rw [if_pos e, e]; exact hc
      · rw [if_neg e]; exact .refl _
  | [a, b] =>
    refine stay (by simp) fun x y hxy => ?_
    obtain ⟨p, q, c, rfl⟩ : ∃ p q c, t = [p, q, c] := by
      match t, hlen with
      | [p, q, c], _ => exact ⟨p, q, c, rfl⟩
    have hasc := ht.asc
    simp at hasc
    have hab := hs.asc
    simp at hab
    have hal : [p, q] ∈ l := h.sub _ st.free.tm _ (by simp) (by simp)
    have hbl : [p, c] ∈ l := h.sub _ st.free.tm _ (List.Sublist.cons_cons _ (List.Sublist.cons _ (List.Sublist.refl _))) (by simp)
    have hcl : [q, c] ∈ l := h.sub _ st.free.tm _ (List.Sublist.cons _ (List.Sublist.refl _)) (by simp)
    have hedge : ∀ u v, [u, v] ∈ l → (u ≠ a ∨ v ≠ b) → Conn m u v := fun u v hu hne => .edge (hin _ hu (fun e => by simp at e; omega) (by simp))
    by_cases e : x = a ∧ y = b
    · obtain ⟨rfl, rfl⟩ := e
      have h1 := hasI_iff.1 st.free.has x (by simp)
      have h2 := hasI_iff.1 st.free.has y (by simp)
      simp at h1 h2
      rcases h1 with rfl | rfl | rfl <;> rcases h2 with rfl | rfl | rfl <;> try omega
      · exact (hedge _ _ hbl (by omega)).trans (hedge _ _ hcl (by omega)).symm
      · exact (hedge _ _ hal (by omega)).trans (hedge _ _ hcl (by omega))
      · exact (hedge _ _ hal (by omega)).symm.trans (hedge _ _ hbl (by omega))
    · exact hedge x y hxy (by omega)
  | a :: b :: c :: r =>
    refine stay (by simp) fun x y hxy => .edge (hin _ hxy (by simp) ?_)
    intro e; rw [← e] at hlen; simp at hlen
inductive Cols : List (List Int) → List (List Int) → Prop
  | nil (l : List (List Int)) : Cols l l
  | step {l m n : List (List Int)} {s t : List Int} : Step l m s t → Cols m n → Cols l n
theorem Cols.all {l n : List (List Int)} (c : Cols l n) (h : Cx l) : Cx n ∧ chiI n = chiI l ∧ n.Sublist l ∧ ∃ r, Retr l n r := by
  induction c with
  | nil l => exact ⟨h, rfl, List.Sublist.refl _, _, Retr.refl l⟩
  | step st _ ih =>
    obtain ⟨h1, h2, h3, r, R⟩ := ih (st.cx h)
    obtain ⟨q, S⟩ := st.retr h
    exact ⟨h1, by rw [h2, st.chi_eq h], h3.trans st.sub, _, S.trans R⟩
def Done (l : List (List Int)) : Prop := ∀ s t, ¬ Free l s t
theorem Cols.done {l n : List (List Int)} (h : Done l) (c : Cols l n) : n = l := by
  cases c with
  | nil => rfl
  | step st _ => exact absurd st.free (h _ _)
end Go.CP
namespace Go.CP
open Go.Proofs
variable [LG] [HK]
structure CompOk (pre l P : List (List Int)) : Prop where
  part : PartOf pre l P
  asc : ∀ c ∈ P, c.Pairwise (· < ·)
  hds : ∀ i j (hi : i < P.length) (hj : j < P.length), i < j → P[i].headD 0 < P[j].headD 0
theorem CompOk.nil (l : List (List Int)) : CompOk [] l [] :=
  ⟨⟨fun i j hi => absurd hi (Nat.not_lt_zero _), by simp, by simp, by simp, by simp⟩, by simp, fun i j hi => absurd hi (Nat.not_lt_zero _)⟩
theorem CompOk.vert {pre l P : List (List Int)} (C : CompOk pre l P) {v : Int} (hlt : ∀ w, [w] ∈ pre → w < v) (hsm : ∀ a ∈ pre, a.length ≤ 1) : CompOk (pre ++ [[v]]) l (P ++ [[v]]) := by
  have hv : ∀ i (hi : i < P.length), v ∉ P[i] := fun i hi hm => by
    have := hlt v ((C.part.cov v).2 ⟨_, List.getElem_mem hi, hm⟩)
    omega
  refine ⟨⟨?_, ?_, ?_, ?_, ?_⟩, ?_, ?_⟩
  · intro i j hi hj w h1 h2
    simp only [List.length_append, List.length_singleton] at hi hj
    rw [List.getElem_append] at h1 h2
    by_cases hi' : i < P.length <;> by_cases hj' : j < P.length
    · rw [dif_pos hi'] at h1; rw [dif_pos hj'] at h2; exact C.part.dis i j hi' hj' w h1 h2
    · rw [dif_pos hi'] at h1; rw [dif_neg hj'] at h2
      simp at h2; subst h2; exact absurd h1 (hv i hi')
    · rw [dif_neg hi'] at h1; rw [dif_pos hj'] at h2
      simp at h1; subst h1; exact absurd h2 (hv j hj')
    · omega
  · intro c hc
    rcases List.mem_append.1 hc with h | h
    · exact C.part.ne c h
    · simp at h; subst h; simp
  · intro w
    constructor
    · intro h
      rcases List.mem_append.1 h with h | h
      · obtain ⟨c, hc, hw⟩ := (C.part.cov w).1 h
        exact ⟨c, List.mem_append_left _ hc, hw⟩
      · simp at h; subst h; exact ⟨[w], by simp, by simp⟩
    · rintro ⟨c, hc, hw⟩
      rcases List.mem_append.1 hc with h | h
      · exact List.mem_append_left _ ((C.part.cov w).2 ⟨c, h, hw⟩)
      · simp at h; subst h; simp at hw; subst hw; simp
  · intro a b hab
    rcases List.mem_append.1 hab with h | h
    · have := hsm _ h; simp at this
    · simp at h
  · intro c hc u hu w hw
    rcases List.mem_append.1 hc with h | h
    · exact C.part.con c h u hu w hw
    · simp at h; subst h; simp at hu hw; subst hu; subst hw; exact .refl _
  · intro c hc
    rcases List.mem_append.1 hc with h | h
    · exact C.asc c h
    · simp at h; subst h; simp
  · intro i j hi hj hij
    simp only [List.length_append, List.length_singleton] at hi hj
    have hi' : i < P.length := by omega
    rw [List.getElem_append, List.getElem_append, dif_pos hi']
    by_cases hj' : j < P.length
    · rw [dif_pos hj']; exact C.hds i j hi' hj' hij
    · rw [dif_neg hj']
      simp only [List.getElem_singleton, List.headD_cons]
      refine hlt _ ((C.part.cov _).2 ⟨_, List.getElem_mem hi', ?_⟩)
      have := C.part.ne _ (List.getElem_mem hi')
      cases hq : P[i] with
      | nil => exact absurd hq this
      | cons a c => simp
theorem CompOk.skip {pre l P : List (List Int)} (C : CompOk pre l P) {a : List Int} (h3 : 3 ≤ a.length) : CompOk (pre ++ [a]) l P := by
  refine ⟨⟨C.part.dis, C.part.ne, fun v => ?_, fun x y hxy => ?_, C.part.con⟩, C.asc, C.hds⟩
  · rw [← C.part.cov v]
    constructor
    · intro h
      rcases List.mem_append.1 h with h | h
      · exact h
      · simp at h; subst h; simp at h3
    · exact List.mem_append_left _
  · rcases List.mem_append.1 hxy with h | h
    · exact C.part.edg x y h
    · simp at h; subst h; simp at h3
theorem CompOk.same {pre l P : List (List Int)} (C : CompOk pre l P) {a b : Int} {i : Nat} (hi : i < P.length) (ha : a ∈ P[i]) (hb : b ∈ P[i]) : CompOk (pre ++ [[a, b]]) l P := by
  refine ⟨⟨C.part.dis, C.part.ne, fun v => ?_, fun x y hxy => ?_, C.part.con⟩, C.asc, C.hds⟩
  · rw [← C.part.cov v]
    constructor
    · intro h
      rcases List.mem_append.1 h with h | h
      · exact h
      · simp at h
    · exact List.mem_append_left _
  · rcases List.mem_append.1 hxy with h | h
    · exact C.part.edg x y h
    · simp at h
      obtain ⟨rfl, rfl⟩ := h
      intro c hc
      obtain ⟨k, hk, rfl⟩ := List.getElem_of_mem hc
      constructor
      · intro h; obtain rfl := C.part.dis k i hk hi x h ha; exact hb
      · intro h; obtain rfl := C.part.dis k i hk hi y h hb; exact ha
end Go.CP
namespace Go.CP
open Go.Proofs
variable [LG] [HK]
inductive Part (N : Nat) (h : Hp) (el : Nat) : CV → List CV → Prop
  | nils : Part N h el .nils []
  | some {k : Nat} {cs tl : List CV} (hk : N ≤ k) (hn : k < h.n) (hs : h.get k = .cells (cs ++ tl) 1 el) : Part N h el (.sl k 0 cs.length (cs.length + tl.length)) cs
theorem Out.part {N el : Nat} {h : Hp} {x : CV} {cs : List CV} (r : Out N h el x cs) : Part N h el x cs := by
  cases r with
  | nils => exact .nils
  | @some k cs hk hn hne hs =>
    have := Part.some (N := N) (h := h) (el := el) (k := k) (cs := cs) (tl := []) hk hn (by rw [List.append_nil]; exact hs)
    simpa using this
theorem Part.row {N el : Nat} {h : Hp} {x : CV} {cs : List CV} (r : Part N h el x cs) : Row h x cs := by
  cases r with
  | nils => exact .nils
  | @some k cs tl hk hn hs =>
    cases cs with
    | nil => exact .none _ _ _
    | cons a cs =>
      refine .some (by simp) ?_ (Nat.le_add_right _ _) (by rw [hs]; rfl)
      rw [hs]
      have : Nat.ble (0 + (a :: cs).length) ((a :: cs) ++ tl).length = true := Nat.ble_eq_true_of_le (by simp)
      simp only [hbSub, this, sub, List.drop_zero]
      simp
theorem Part.mono {N M el : Nat} {h h' : Hp} (S : Same M h h') (hM : h.n ≤ M) {x : CV} {cs : List CV} (r : Part N h el x cs) : Part N h' el x cs := by
  cases r with
  | nils => exact .nils
  | some hk hn hs => exact .some hk (Nat.lt_of_lt_of_le hn S.n) (by rw [S.get _ (by omega)]; exact hs)
structure Gone (N : Nat) (h : Hp) (el : Nat) (T : TyK) (x : CV) (cs : List CV) (i : Nat) (c : Nat) (x1 x2 x3 : CV) (h1 h2 : Hp) : Prop where
  s1 : qSliceV none (some (.nu .i64 (.ofNat i))) h x T = some x1
  s2 : qSliceV (some (.nu .i64 (.ofNat (i + 1)))) none h x T = some x2
  ap : wApp h x1 x2 T T = some (x3, h1)
  ln : qLen h1 x3 T = some (.nu .i64 (.ofNat (cs.length - 1)))
  cl : ∃ x4, qSliceV (some (.nu .i64 (.ofNat (cs.length - 1)))) (some (.nu .i64 (.ofNat cs.length))) h1 x3 T = some x4 ∧ wClr h1 x4 T = some (.tup [], h2)
  q1 : ceq x1 x1 = true
  out : Part N h2 el x3 (cs.eraseIdx i)
  same : Same N h h2
  wip : ∀ j, (wipe h2 x3).get j = (wipe h x).get j
  n : h2.n = h.n
  bk : ∃ k n m c, x = .sl k 0 n c ∧ x3 = .sl k 0 m c
  ok : HpOk h → HpOk h2
end Go.CP
namespace Go.CP
open Go.Proofs
variable [LG] [HK]
section
variable {K : Ctx} {h : Hp}
structure Pwn (N : Nat) (h : Hp) (el : Nat) (x : CV) (cs : List CV) (l : List (List Int)) : Prop where
  out : Part N h el x cs
  rows : Rows (wipe h x) cs l
theorem Pwn.all {N : Nat} {el : Nat} {x : CV} {cs : List CV} {l : List (List Int)} (O : Pwn N h el x cs l) : Rows h cs l := O.rows.unwipe
theorem Pwn.val {N : Nat} {el : Nat} {x : CV} {cs : List CV} {l : List (List Int)} (O : Pwn N h el x cs l) : Val h x l := ⟨cs, O.out.row, O.all⟩
theorem Pwn.mono {N : Nat} {h h' : Hp} {el : Nat} {x : CV} {cs : List CV} {l : List (List Int)} (S : Same h.n h h') (ok : HpOk h) (O : Pwn N h el x cs l) : Pwn N h' el x cs l :=
  ⟨O.out.mono S (Nat.le_refl _), O.rows.mono (S.wipe x) (ok.wipe x) (by rw [wipe_n]; exact Nat.le_refl _)⟩
theorem Rows.erase {h : Hp} {xs : List CV} {l : List (List Int)} (r : Rows h xs l) : ∀ i, Rows h (xs.eraseIdx i) (l.eraseIdx i) := by
  induction r with
  | nil => intro i; exact .nil
  | cons hx hs ih =>
    intro i
    cases i with
    | zero => exact hs
    | succ i => exact .cons hx (ih i)
end
end Go.CP
namespace Go.CP
open Go.Proofs
variable [LG] [HK]
section
variable {K : Ctx} {f n : Nat} {c : Code} {s s1 : Fr} {h h1 : Hp}
end
inductive Colf : List (List Int) → List (List Int) → Prop
  | done {l : List (List Int)} : Done l → Colf l l
  | step {l n : List (List Int)} {i k : Nat} (hik : i < k) (hk : k < l.length) (F : Free l (l.getD i []) (l.getD k [])) (first : ∀ j, j < i → ∀ t, ¬ Free l (l.getD j []) t) : Colf ((l.eraseIdx k).eraseIdx i) n → Colf l n
theorem Free.before {l : List (List Int)} (h : Cx l) {i k : Nat} (hi : i < l.length) (hk : k < l.length) (F : Free l (l.getD i []) (l.getD k [])) : i < k := by
  rw [getL hi, getL hk] at F
  have hlen := F.len h
  rcases Nat.lt_trichotomy i k with hlt | rfl | hgt
  · exact hlt
  · exact absurd rfl F.ne
  · have : LtS l[k] l[i] := List.pairwise_iff_getElem.1 h.srt k i hk hi hgt
    unfold LtS cmpI at this
    rw [if_neg (by omega), if_neg (by omega)] at this
    exact absurd this (by decide)
theorem Cx.nodup {l : List (List Int)} (h : Cx l) : l.Nodup := Srt.nodup h.srt
section
variable {K : Ctx} {h : Hp}
def CollE (h : Hp) (l : List (List Int)) (s : Fr) (g : Hp) : Prop := HpOk g ∧ Same h.n h g ∧ s.at slot = .undef ∧ Done l ∧ ∃ x cs, s.at 4 = x ∧ Pwn h.n g 46 x cs l
def CollR (h : Hp) (l : List (List Int)) (s : Fr) (g : Hp) : Prop := HpOk g ∧ Same h.n h g ∧ s.at slot = .undef ∧ ∃ i k, i < k ∧ k < l.length ∧ Free l (l.getD i []) (l.getD k []) ∧ (∀ j, j < i → ∀ t, ¬ Free l (l.getD j []) t) ∧ ∃ x cs, s.at 4 = x ∧ Pwn h.n g 46 x cs ((l.eraseIdx k).eraseIdx i)
end
end Go.CP
namespace Go.CP
open Go.Proofs
variable [LG] [HK]
def bump (o : List Int) (a : List Int) : List Int := o.set (a.length - 1) (o.getD (a.length - 1) 0 + 1)
def cntI (l : List (List Int)) : List Int := l.foldl bump (List.replicate (l.getLastD []).length 0)
def eulG : Nat → List Int → Int
  | _, [] => 0
  | d, c :: o => c * (1 - Int.ofNat (d % 2) * 2) + eulG (d + 1) o
def sgD (d : Nat) : Int := 1 - Int.ofNat (d % 2) * 2
structure Mk (N : Nat) (h : Hp) (el : Nat) (x : CV) (cs : List CV) : Prop where
  at' : ∃ k, x = .sl k 0 cs.length cs.length ∧ N ≤ k ∧ k < h.n ∧ h.get k = .cells cs 0 el
theorem Mk.row {N el : Nat} {h : Hp} {x : CV} {cs : List CV} (r : Mk N h el x cs) : Row h x cs := by
  obtain ⟨k, rfl, hk, hn, hs⟩ := r.at'
  cases cs with
  | nil => exact .none _ _ _
  | cons a cs =>
    refine .some (by simp) ?_ (Nat.le_refl _) (by rw [hs]; rfl)
    rw [hs]
    simp only [hbSub, Nat.zero_add, Nat.ble_eq_true_of_le (Nat.le_refl _), sub, List.drop_zero, List.take_length]
theorem Mk.mono {N M el : Nat} {h h' : Hp} (S : Same M h h') (hM : h.n ≤ M) {x : CV} {cs : List CV} (r : Mk N h el x cs) : Mk N h' el x cs := by
  obtain ⟨k, e, hk, hn, hs⟩ := r.at'
  exact ⟨⟨k, e, hk, Nat.lt_of_lt_of_le hn S.n, by rw [S.get k (by omega)]; exact hs⟩⟩
theorem Mk.cell {N el : Nat} {h : Hp} {x : CV} {cs : List CV} (r : Mk N h el x cs) {i : Nat} (hi : i < cs.length) : ∃ p, (∀ e b z, qIndexAddr x (.nu .i64 (.ofNat i)) (.slice e 1 b z) = Option.some p) ∧ qLoad h p (Option.some (1, false)) = Option.some cs[i] ∧ ∀ v : CV, v.one = true → ∃ h', wStore h p v (Option.some (1, false)) = Option.some (.undef, h') ∧ Mk N h' el x (cs.set i v) ∧ Same N h h' ∧ (HpOk h → HpOk h') := by
  obtain ⟨k, rfl, hk, hn, hs⟩ := r.at'
  have hb : Nat.blt i cs.length = true := by simpa using hi
  refine ⟨.ptr k (0 + i * 1), fun e b z => by simp only [qIndexAddr, qAt, hb], ?_, fun v hv => ?_⟩
  · show hbVal (0 + i * 1) 1 false (h.get k) = _
    rw [hs]
    have h1 : cs[i]? = Option.some cs[i] := List.getElem?_eq_getElem hi
    simp only [hbVal, val, Nat.mul_one, Nat.zero_add, Nat.ble_eq_true_of_le (show i + 1 ≤ cs.length by omega), Nat.beq_refl, h1]
  · have hc := one_cells hv
    have hl : v.cells.length = 1 := by rw [hc]; rfl
    refine ⟨h.set k (.cells (cs.set i v) 0 el), ?_, ⟨⟨k, by simp, hk, hn, by rw [Hp.get_set, if_pos rfl]⟩⟩, Same.set hk _, fun ok => ok.set hn _⟩
    show wStoreB h k (0 + i * 1) 1 v (h.get k) = _
    rw [hs]
    simp only [wStoreB, CV.sol, hc, List.all_cons, hv, List.all_nil, Bool.and_self, List.length_singleton, Nat.beq_refl, Nat.mul_one, Nat.zero_add, Nat.ble_eq_true_of_le (show i + 1 ≤ cs.length by omega), setAt_one]
section
variable {K : Ctx} {h : Hp}
def eulI (l : List (List Int)) : Int := eulG 0 (cntI l)
def eulF (o : List Int) (i : Nat) : Int := eulG 0 (o.take i)
end
end Go.CP
