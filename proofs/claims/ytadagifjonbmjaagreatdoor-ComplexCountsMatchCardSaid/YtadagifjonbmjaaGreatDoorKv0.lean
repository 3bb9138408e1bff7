import Derived.Test.YtadagifjonbmjaaGreatDoorKl4
import Derived.Test.YtadagifjonbmjaaGreatDoorKq0
import Derived.Test.YtadagifjonbmjaaGreatDoorKs0
import Derived.Test.YtadagifjonbmjaaGreatDoorKw4
set_option linter.all false
namespace Go.CP
open Go.Proofs
variable [LG] [HK]
theorem lx {α : Type} {l : List α} (hn : l.Nodup) {k : Nat} (hk : k < l.length) {a : α} : a ∈ l.eraseIdx k ↔ a ∈ l ∧ a ≠ l[k] := by
 rw [List.mem_eraseIdx_iff_getElem]
 constructor
 · rintro ⟨i, hi, hne, rfl⟩
   exact ⟨List.getElem_mem hi, fun e => hne ((List.getElem_inj hn).1 e)⟩
 · rintro ⟨ha, hne⟩
   obtain ⟨i, hi, rfl⟩ := List.getElem_of_mem ha
   exact ⟨i, hi, fun e => hne (by subst e; rfl), rfl⟩
structure Free (l : List (List Int)) (s t : List Int) : Prop where
 sm : s ∈ l
 tm : t ∈ l
 ne : s ≠ t
 has : cz t s = true
 only : ∀ a ∈ l, cz a s = true → a = s ∨ a = t
def ly (a : List Int) : Int := if a.length % 2 = 0 then -1 else 1
def dH (l : List (List Int)) : Int := (l.map ly).sum
theorem vT : ∀ (l : List (List Int)) (k : Nat) (hk : k < l.length), dH l = dH (l.eraseIdx k) + ly l[k] := by
 intro l
 induction l with
 | nil => intro k hk; simp at hk
 | cons a l ih =>
  intro k hk
  cases k with
  | zero => simp [dH, Int.add_comm]
  | succ k =>
   have h := ih k (by simpa using hk)
   simp only [dH, List.map_cons, List.sum_cons, List.eraseIdx_cons_succ, List.getElem_cons_succ] at h ⊢
   omega
structure Step (l m : List (List Int)) (s t : List Int) : Prop where
 free : Free l s t
 sub : m.Sublist l
 mem : ∀ a, a ∈ m ↔ a ∈ l ∧ a ≠ s ∧ a ≠ t
 chi : dH l = dH m + ly s + ly t
theorem Step.of {l : List (List Int)} (hn : l.Nodup) {i k : Nat} (hik : i < k) (hk : k < l.length) (hF : Free l (l[i]'(by omega)) l[k]) : Step l ((l.eraseIdx k).eraseIdx i) (l[i]'(by omega)) l[k] := by
 have hl1 : (l.eraseIdx k).length = l.length - 1 := by rw [List.length_eraseIdx, if_pos hk]
 have hi1 : i < (l.eraseIdx k).length := by omega
 have e : (l.eraseIdx k)[i] = l[i]'(by omega) := List.getElem_eraseIdx_of_lt hi1 hik
 refine ⟨hF, (List.eraseIdx_sublist _ _).trans (List.eraseIdx_sublist _ _), fun a => ?_, ?_⟩
 · rw [lx ((List.eraseIdx_sublist l k).nodup hn) hi1, lx hn hk, e]
   constructor
   · rintro ⟨⟨h1, h2⟩, h3⟩; exact ⟨h1, h3, h2⟩
   · rintro ⟨h1, h2, h3⟩; exact ⟨⟨h1, h3⟩, h2⟩
 · have h1 := vT l k hk
   have h2 := vT (l.eraseIdx k) i hi1
   rw [e] at h2
   omega
theorem Step.cx {l m : List (List Int)} {s t : List Int} (h : Cx l) (st : Step l m s t) : Cx m := by
 refine ⟨fun a ha => h.ok a ((st.mem a).1 ha).1, List.Pairwise.sublist st.sub h.srt, fun a ha f hf hne => ?_, Nat.le_trans st.sub.length_le h.le⟩
 obtain ⟨h1, h2, h3⟩ := (st.mem a).1 ha
 have key : cz a s = true → False := fun hq => by
  rcases st.free.only a h1 hq with e | e
  · exact h2 e
  · exact h3 e
 refine (st.mem f).2 ⟨h.sub a h1 f hf hne, fun e => key ?_, fun e => key ?_⟩
 · subst e; rw [ei]; exact fun v hv => hf.subset hv
 · subst e
   rw [ei]
   exact fun v hv => hf.subset (ei.1 st.free.has v hv)
theorem Free.len {l : List (List Int)} {s t : List Int} (h : Cx l) (F : Free l s t) : t.length = s.length + 1 := by
 have hs := h.ok s F.sm
 have ht := h.ok t F.tm
 have hst : s.Sublist t := (yY ht hs).1 F.has
 have h1 := hst.length_le
 have h2 : s.length ≠ t.length := fun e => F.ne (hst.eq_of_length e)
 by_cases hq : t.length = s.length + 1
 · exact hq
 obtain ⟨t', ht', hl, hs'⟩ := h.okC.mid hs (t.length - s.length - 1) t (by omega) F.tm hst
 rcases F.only t' ht' ((yY (h.ok t' ht') hs).2 hs') with e | e
 · rw [e] at hl; omega
 · rw [e] at hl; omega
theorem Step.chi_eq {l m : List (List Int)} {s t : List Int} (h : Cx l) (st : Step l m s t) : dH m = dH l := by
 have h1 := st.chi
 have h2 := st.free.len h
 have h3 : ly s + ly t = 0 := by
  unfold ly
  rw [h2]
  rcases Nat.mod_two_eq_zero_or_one s.length with e | e
  · rw [if_pos e, if_neg (by omega)]; rfl
  · rw [if_neg (by omega), if_pos (by omega)]; rfl
 omega
inductive Conn (l : List (List Int)) : Int → Int → Prop
 | refl (u : Int) : Conn l u u
 | edge {a b : Int} : [a, b] ∈ l → Conn l a b
 | symm {a b : Int} : Conn l a b → Conn l b a
 | trans {a b c : Int} : Conn l a b → Conn l b c → Conn l a c
theorem Conn.map {l m : List (List Int)} {r : Int → Int} (h : ∀ a b, [a, b] ∈ l → Conn m (r a) (r b)) {u v : Int} (c : Conn l u v) : Conn m (r u) (r v) := by
 induction c with
 | refl u => exact .refl _
 | edge he => exact h _ _ he
 | symm _ ih => exact .symm ih
 | trans _ _ ih1 ih2 => exact .trans ih1 ih2
theorem Conn.sub {l m : List (List Int)} (h : ∀ a ∈ m, a ∈ l) {u v : Int} (c : Conn m u v) : Conn l u v := c.map (r := _root_.id) fun a b hab => .edge (h _ hab)
structure PartOf (pre l : List (List Int)) (P : List (List Int)) : Prop where
 dis : ∀ i j (hi : i < P.length) (hj : j < P.length) v, v ∈ P[i] → v ∈ P[j] → i = j
 ne : ∀ c ∈ P, c ≠ []
 cov : ∀ v, [v] ∈ pre ↔ ∃ c ∈ P, v ∈ c
 edg : ∀ a b, [a, b] ∈ pre → ∀ c ∈ P, (a ∈ c ↔ b ∈ c)
 con : ∀ c ∈ P, ∀ u ∈ c, ∀ v ∈ c, Conn l u v
theorem PartOf.closed {l P : List (List Int)} (h : PartOf l l P) {u v : Int} (c : Conn l u v) : ∀ p ∈ P, (u ∈ p ↔ v ∈ p) := by
 induction c with
 | refl u => exact fun _ _ => Iff.rfl
 | edge he => exact h.edg _ _ he
 | symm _ ih => exact fun p hp => (ih p hp).symm
 | trans _ _ ih1 ih2 => exact fun p hp => (ih1 p hp).trans (ih2 p hp)
theorem QI : ∀ (n : Nat) (l : List Nat), l.Nodup → (∀ x ∈ l, x < n) → l.length ≤ n := by
 intro n
 induction n with
 | zero =>
  intro l _ h
  cases l with
  | nil => exact Nat.le_refl _
  | cons a l => exact absurd (h a List.mem_cons_self) (Nat.not_lt_zero _)
 | succ n ih =>
  intro l hn h
  have h1 := ih (l.erase n) (hn.erase n) fun x hx => by
   have h2 := h x (List.mem_of_mem_erase hx)
   have h3 : x ≠ n := fun e => (hn.mem_erase_iff.1 hx).1 e
   omega
  have := List.length_erase (a := n) (l := l)
  split at this <;> omega
structure Retr (l m : List (List Int)) (r : Int → Int) : Prop where
 sub : ∀ a ∈ m, a ∈ l
 vert : ∀ x, [x] ∈ l → [r x] ∈ m
 fix' : ∀ x, [x] ∈ m → r x = x
 edge : ∀ a b, [a, b] ∈ l → Conn m (r a) (r b)
 near : ∀ x, [x] ∈ l → Conn l x (r x)
theorem Retr.refl (l : List (List Int)) : Retr l l _root_.id := ⟨fun _ h => h, fun _ h => h, fun _ _ => rfl, fun _ _ h => .edge h, fun _ _ => .refl _⟩
theorem Retr.trans {l m n : List (List Int)} {r q : Int → Int} (R : Retr l m r) (S : Retr m n q) : Retr l n (fun x => q (r x)) where
 sub a h := R.sub a (S.sub a h)
 vert x h := S.vert _ (R.vert x h)
 fix' x h := by rw [R.fix' x (S.sub _ h), S.fix' x h]
 edge a b h := (R.edge a b h).map S.edge
 near x h := (R.near x h).trans ((S.near _ (R.vert x h)).sub R.sub)
theorem Step.retr {l m : List (List Int)} {s t : List Int} (h : Cx l) (st : Step l m s t) : ∃ r, Retr l m r := by
 have hlen := st.free.len h
 have hsub : ∀ a ∈ m, a ∈ l := fun a ha => ((st.mem a).1 ha).1
 have hs := h.ok s st.free.sm
 have ht := h.ok t st.free.tm
 have hin : ∀ a ∈ l, a ≠ s → a ≠ t → a ∈ m := fun a h1 h2 h3 => (st.mem a).2 ⟨h1, h2, h3⟩
 have stay : 2 ≤ s.length → (∀ a b, [a, b] ∈ l → Conn m a b) → ∃ r, Retr l m r := fun h2 he => by
  refine ⟨_root_.id, hsub, fun x hx => hin _ hx ?_ ?_, fun _ _ => rfl, he, fun _ _ => .refl _⟩
  · intro e; have := congrArg List.length e; simp at this; omega
  · intro e; have := congrArg List.length e; simp at this; omega
 match hse : s with
 | [] => exact absurd rfl hs.ne
 | [v] =>
  obtain ⟨p, q, rfl⟩ : ∃ p q, t = [p, q] := by
   match t, hlen with
   | [p, q], _ => exact ⟨p, q, rfl⟩
  have hpq : p < q := by have := ht.asc; simp at this; exact this
  have hv : v = p ∨ v = q := by
   have := ei.1 st.free.has v (by simp)
   simpa using this
  obtain ⟨w, hw, hvw, hc, hex⟩ : ∃ w, w ∈ [p, q] ∧ w ≠ v ∧ Conn l v w ∧ ∀ a b, [a, b] = [p, q] → (a = v → b = w) ∧ (b = v → a = w) := by
   rcases hv with rfl | rfl
   · exact ⟨q, by simp, by omega, .edge st.free.tm, fun a b e => by simp at e; obtain ⟨rfl, rfl⟩ := e; exact ⟨fun _ => rfl, fun e => by omega⟩⟩
   · exact ⟨p, by simp, by omega, .symm (.edge st.free.tm), fun a b e => by simp at e; obtain ⟨rfl, rfl⟩ := e; exact ⟨fun e => by omega, fun _ => rfl⟩⟩
  have hwl : [w] ∈ l := h.sub _ st.free.tm [w] (by simpa using hw) (by simp)
  have hwm : [w] ∈ m := hin _ hwl (by simpa using hvw) (by simp)
  refine ⟨fun x => if x = v then w else x, hsub, fun x hx => ?_, fun x hx => ?_, fun a b hab => ?_, fun x hx => ?_⟩
  · show [if x = v then w else x] ∈ m
    by_cases e : x = v
    · rw [if_pos e]; exact hwm
    · rw [if_neg e]; exact hin _ hx (by simpa using e) (by simp)
  · have := (st.mem _).1 hx
    have e : x ≠ v := fun e => this.2.1 (by rw [e])
    exact if_neg e
  · show Conn m (if a = v then w else a) (if b = v then w else b)
    by_cases ha : a = v ∨ b = v
    · have hh : cz [a, b] [v] = true := by
       rw [ei]
       intro x hx
       simp at hx
       subst hx
       rcases ha with e | e <;> simp [e]
      rcases st.free.only _ hab hh with e | e
      · simp at e
      · have := hex a b e
        have hne : a ≠ b := by simp at e; omega
        rcases ha with e1 | e1
        · rw [if_pos e1, if_neg (by omega), this.1 e1]; exact .refl _
        · rw [if_pos e1, if_neg (by omega), this.2 e1]; exact .refl _
    · have h1 : a ≠ v := fun e => ha (.inl e)
      have h2 : b ≠ v := fun e => ha (.inr e)
      rw [if_neg h1, if_neg h2]
      refine .edge (hin _ hab (by simp) fun e => ?_)
      simp at e
      rcases hv with hv | hv <;> omega
  · show Conn l x (if x = v then w else x)
    by_cases e : x = v
    · rw [if_pos e, e]; exact hc
    · rw [if_neg e]; exact .refl _
 | [a, b] =>
  refine stay (by simp) fun x y hxy => ?_
  obtain ⟨p, q, c, rfl⟩ : ∃ p q c, t = [p, q, c] := by
   match t, hlen with
   | [p, q, c], _ => exact ⟨p, q, c, rfl⟩
  have hasc := ht.asc
  simp at hasc
  have hab := hs.asc
  simp at hab
  have hal : [p, q] ∈ l := h.sub _ st.free.tm _ (by simp) (by simp)
  have hbl : [p, c] ∈ l := h.sub _ st.free.tm _ (List.Sublist.cons_cons _ (List.Sublist.cons _ (List.Sublist.refl _))) (by simp)
  have hcl : [q, c] ∈ l := h.sub _ st.free.tm _ (List.Sublist.cons _ (List.Sublist.refl _)) (by simp)
  have hedge : ∀ u v, [u, v] ∈ l → (u ≠ a ∨ v ≠ b) → Conn m u v := fun u v hu hne => .edge (hin _ hu (fun e => by simp at e; omega) (by simp))
  by_cases e : x = a ∧ y = b
  · obtain ⟨rfl, rfl⟩ := e
    have h1 := ei.1 st.free.has x (by simp)
    have h2 := ei.1 st.free.has y (by simp)
    simp at h1 h2
    rcases h1 with rfl | rfl | rfl <;> rcases h2 with rfl | rfl | rfl <;> try omega
    · exact (hedge _ _ hbl (by omega)).trans (hedge _ _ hcl (by omega)).symm
    · exact (hedge _ _ hal (by omega)).trans (hedge _ _ hcl (by omega))
    · exact (hedge _ _ hal (by omega)).symm.trans (hedge _ _ hbl (by omega))
  · exact hedge x y hxy (by omega)
 | a :: b :: c :: r =>
  refine stay (by simp) fun x y hxy => .edge (hin _ hxy (by simp) ?_)
  intro e; rw [← e] at hlen; simp at hlen
inductive Cols : List (List Int) → List (List Int) → Prop
 | nil (l : List (List Int)) : Cols l l
 | step {l m n : List (List Int)} {s t : List Int} : Step l m s t → Cols m n → Cols l n
theorem Cols.all {l n : List (List Int)} (c : Cols l n) (h : Cx l) : Cx n ∧ dH n = dH l ∧ n.Sublist l ∧ ∃ r, Retr l n r := by
 induction c with
 | nil l => exact ⟨h, rfl, List.Sublist.refl _, _, Retr.refl l⟩
 | step st _ ih =>
  obtain ⟨h1, h2, h3, r, R⟩ := ih (st.cx h)
  obtain ⟨q, S⟩ := st.retr h
  exact ⟨h1, by rw [h2, st.chi_eq h], h3.trans st.sub, _, S.trans R⟩
def Ik (l : List (List Int)) : Prop := ∀ s t, ¬ Free l s t
structure CompOk (pre l P : List (List Int)) : Prop where
 part : PartOf pre l P
 asc : ∀ c ∈ P, c.Pairwise (· < ·)
 hds : ∀ i j (hi : i < P.length) (hj : j < P.length), i < j → P[i].headD 0 < P[j].headD 0
theorem CompOk.nil (l : List (List Int)) : CompOk [] l [] :=
 ⟨⟨fun i j hi => absurd hi (Nat.not_lt_zero _), by simp, by simp, by simp, by simp⟩, by simp, fun i j hi => absurd hi (Nat.not_lt_zero _)⟩
theorem CompOk.vert {pre l P : List (List Int)} (C : CompOk pre l P) {v : Int} (hlt : ∀ w, [w] ∈ pre → w < v) (hsm : ∀ a ∈ pre, a.length ≤ 1) : CompOk (pre ++ [[v]]) l (P ++ [[v]]) := by
 have hv : ∀ i (hi : i < P.length), v ∉ P[i] := fun i hi hm => by
  have := hlt v ((C.part.cov v).2 ⟨_, List.getElem_mem hi, hm⟩)
  omega
 refine ⟨⟨?_, ?_, ?_, ?_, ?_⟩, ?_, ?_⟩
 · intro i j hi hj w h1 h2
   simp only [List.length_append, List.length_singleton] at hi hj
   rw [List.getElem_append] at h1 h2
   by_cases hi' : i < P.length <;> by_cases hj' : j < P.length
   · rw [dif_pos hi'] at h1; rw [dif_pos hj'] at h2; exact C.part.dis i j hi' hj' w h1 h2
   · rw [dif_pos hi'] at h1; rw [dif_neg hj'] at h2
     simp at h2; subst h2; exact absurd h1 (hv i hi')
   · rw [dif_neg hi'] at h1; rw [dif_pos hj'] at h2
     simp at h1; subst h1; exact absurd h2 (hv j hj')
   · omega
 · intro c hc
   rcases List.mem_append.1 hc with h | h
   · exact C.part.ne c h
   · simp at h; subst h; simp
 · intro w
   constructor
   · intro h
     rcases List.mem_append.1 h with h | h
     · obtain ⟨c, hc, hw⟩ := (C.part.cov w).1 h
       exact ⟨c, List.mem_append_left _ hc, hw⟩
     · simp at h; subst h; exact ⟨[w], by simp, by simp⟩
   · rintro ⟨c, hc, hw⟩
     rcases List.mem_append.1 hc with h | h
     · exact List.mem_append_left _ ((C.part.cov w).2 ⟨c, h, hw⟩)
     · simp at h; subst h; simp at hw; subst hw; simp
 · intro a b hab
   rcases List.mem_append.1 hab with h | h
   · have := hsm _ h; simp at this
   · simp at h
 · intro c hc u hu w hw
   rcases List.mem_append.1 hc with h | h
   · exact C.part.con c h u hu w hw
   · simp at h; subst h; simp at hu hw; subst hu; subst hw; exact .refl _
 · intro c hc
   rcases List.mem_append.1 hc with h | h
   · exact C.asc c h
   · simp at h; subst h; simp
 · intro i j hi hj hij
   simp only [List.length_append, List.length_singleton] at hi hj
   have hi' : i < P.length := by omega
   rw [List.getElem_append, List.getElem_append, dif_pos hi']
   by_cases hj' : j < P.length
   · rw [dif_pos hj']; exact C.hds i j hi' hj' hij
   · rw [dif_neg hj']
     simp only [List.getElem_singleton, List.headD_cons]
     refine hlt _ ((C.part.cov _).2 ⟨_, List.getElem_mem hi', ?_⟩)
     have := C.part.ne _ (List.getElem_mem hi')
     cases hq : P[i] with
     | nil => exact absurd hq this
     | cons a c => simp
theorem CompOk.skip {pre l P : List (List Int)} (C : CompOk pre l P) {a : List Int} (h3 : 3 ≤ a.length) : CompOk (pre ++ [a]) l P := by
 refine ⟨⟨C.part.dis, C.part.ne, fun v => ?_, fun x y hxy => ?_, C.part.con⟩, C.asc, C.hds⟩
 · rw [← C.part.cov v]
   constructor
   · intro h
     rcases List.mem_append.1 h with h | h
     · exact h
     · simp at h; subst h; simp at h3
   · exact List.mem_append_left _
 · rcases List.mem_append.1 hxy with h | h
   · exact C.part.edg x y h
   · simp at h; subst h; simp at h3
theorem CompOk.same {pre l P : List (List Int)} (C : CompOk pre l P) {a b : Int} {i : Nat} (hi : i < P.length) (ha : a ∈ P[i]) (hb : b ∈ P[i]) : CompOk (pre ++ [[a, b]]) l P := by
 refine ⟨⟨C.part.dis, C.part.ne, fun v => ?_, fun x y hxy => ?_, C.part.con⟩, C.asc, C.hds⟩
 · rw [← C.part.cov v]
   constructor
   · intro h
     rcases List.mem_append.1 h with h | h
     · exact h
     · simp at h
   · exact List.mem_append_left _
 · rcases List.mem_append.1 hxy with h | h
   · exact C.part.edg x y h
   · simp at h
     obtain ⟨rfl, rfl⟩ := h
     intro c hc
     obtain ⟨k, hk, rfl⟩ := List.getElem_of_mem hc
     constructor
     · intro h; obtain rfl := C.part.dis k i hk hi x h ha; exact hb
     · intro h; obtain rfl := C.part.dis k i hk hi y h hb; exact ha
theorem kG {P : List (List Int)} {M : List Int} {i j : Nat} (hij : i < j) (hj : j < P.length) {x : Nat} (hx : x < ((P.set i M).eraseIdx j).length) : ∃ z, ∃ hz : z < P.length, z ≠ j ∧ (x < j → z = x) ∧ (¬ x < j → z = x + 1) ∧ ((P.set i M).eraseIdx j)[x] = if z = i then M else P[z] := by
 have hl : ((P.set i M).eraseIdx j).length = P.length - 1 := by rw [List.length_eraseIdx, List.length_set, if_pos hj]
 rw [List.getElem_eraseIdx]
 by_cases h : x < j
 · refine ⟨x, by omega, by omega, fun _ => rfl, fun hn => absurd h hn, ?_⟩
   rw [dif_pos h, List.getElem_set]
   by_cases e : i = x
   · rw [if_pos e, if_pos e.symm]
   · rw [if_neg e, if_neg (Ne.symm e)]
 · refine ⟨x + 1, by omega, by omega, fun hn => absurd hn h, fun _ => rfl, ?_⟩
   rw [dif_neg h, List.getElem_set]
   by_cases e : i = x + 1
   · rw [if_pos e, if_pos e.symm]
   · rw [if_neg e, if_neg (Ne.symm e)]
theorem qO {c : List Int} (h : c ≠ []) : c.headD 0 ∈ c := by
 cases c with
 | nil => exact absurd rfl h
 | cons a c => simp
theorem u5 {c : List Int} (h : c.Pairwise (· < ·)) {v : Int} (hv : v ∈ c) : c.headD 0 ≤ v := by
 cases c with
 | nil => simp at hv
 | cons a c =>
  simp only [List.headD_cons]
  rcases List.mem_cons.1 hv with rfl | hv
  · exact Int.le_refl _
  · exact Int.le_of_lt ((List.pairwise_cons.1 h).1 v hv)
theorem CompOk.two_nodup {pre l P : List (List Int)} (C : CompOk pre l P) {i j : Nat} (hij : i ≠ j) (hi : i < P.length) (hj : j < P.length) : (P[i] ++ P[j]).Nodup := by
 rw [List.nodup_append]
 refine ⟨pc (C.asc _ (List.getElem_mem hi)), pc (C.asc _ (List.getElem_mem hj)), fun a ha b hb e => ?_⟩
 subst e
 exact hij (C.part.dis i j hi hj a ha hb)
theorem CompOk.join {pre l P : List (List Int)} (C : CompOk pre l P) {a b : Int} {i j : Nat} (hab : [a, b] ∈ l) (hij : i < j) (hj : j < P.length) (h : (a ∈ P[i]'(by omega) ∧ b ∈ P[j]) ∨ (b ∈ P[i]'(by omega) ∧ a ∈ P[j])) : CompOk (pre ++ [[a, b]]) l ((P.set i (sortI (P[i]'(by omega) ++ P[j]))).eraseIdx j) := by
 have hi : i < P.length := by omega
 have hnd := C.two_nodup (by omega) hi hj
 generalize hM : sortI (P[i] ++ P[j]) = M
 have hmem : ∀ v, v ∈ M ↔ v ∈ P[i] ∨ v ∈ P[j] := fun v => by
  rw [← hM, (gU _).mem_iff, List.mem_append]
 have hasc : M.Pairwise (· < ·) := by rw [← hM]; exact o0 hnd
 have hl : ((P.set i M).eraseIdx j).length = P.length - 1 := by rw [List.length_eraseIdx, List.length_set, if_pos hj]
 have hMne : M ≠ [] := fun e => by
  have := (hmem _).2 (.inl (qO (C.part.ne _ (List.getElem_mem hi))))
  rw [e] at this; simp at this
 have hhead : M.headD 0 = P[i].headD 0 := by
  have h1 : M.headD 0 ≤ P[i].headD 0 := u5 hasc ((hmem _).2 (.inl (qO (C.part.ne _ (List.getElem_mem hi)))))
  have h2 : P[i].headD 0 ≤ M.headD 0 := by
   rcases (hmem _).1 (qO hMne) with h | h
   · exact u5 (C.asc _ (List.getElem_mem hi)) h
   · have h3 := u5 (C.asc _ (List.getElem_mem hj)) h
     have h4 := C.hds i j hi hj hij
     omega
  omega
 have key : ∀ c ∈ (P.set i M).eraseIdx j, c = M ∨ ∃ z, ∃ hz : z < P.length, z ≠ i ∧ z ≠ j ∧ c = P[z] := fun c hc => by
  obtain ⟨x, hx, rfl⟩ := List.getElem_of_mem hc
  obtain ⟨z, hz, hzj, _, _, e⟩ := kG hij hj hx
  rw [e]
  by_cases hzi : z = i
  · rw [if_pos hzi]; exact .inl rfl
  · rw [if_neg hzi]; exact .inr ⟨z, hz, hzi, hzj, rfl⟩
 have inM : M ∈ (P.set i M).eraseIdx j := by
  rw [List.mem_eraseIdx_iff_getElem]
  exact ⟨i, by rw [List.length_set]; exact hi, by omega, by rw [List.getElem_set, if_pos rfl]⟩
 have inZ : ∀ z (hz : z < P.length), z ≠ i → z ≠ j → P[z] ∈ (P.set i M).eraseIdx j := fun z hz h1 h2 => by
  rw [List.mem_eraseIdx_iff_getElem]
  exact ⟨z, by rw [List.length_set]; exact hz, h2, by rw [List.getElem_set, if_neg (Ne.symm h1)]⟩
 refine ⟨⟨?_, ?_, ?_, ?_, ?_⟩, ?_, ?_⟩
 · intro x y hx hy v h1 h2
   obtain ⟨z, hz, hzj, e1, e2, e3⟩ := kG hij hj hx
   obtain ⟨w, hw, hwj, f1, f2, f3⟩ := kG hij hj hy
   rw [e3] at h1
   rw [f3] at h2
   have hzw : z = w := by
    by_cases hzi : z = i <;> by_cases hwi : w = i
    · omega
    · rw [if_pos hzi, hmem] at h1
      rw [if_neg hwi] at h2
      rcases h1 with h1 | h1
      · exact absurd (C.part.dis i w hi hw v h1 h2).symm hwi
      · exact absurd (C.part.dis j w hj hw v h1 h2).symm hwj
    · rw [if_neg hzi] at h1
      rw [if_pos hwi, hmem] at h2
      rcases h2 with h2 | h2
      · exact absurd (C.part.dis z i hz hi v h1 h2) hzi
      · exact absurd (C.part.dis z j hz hj v h1 h2) hzj
    · rw [if_neg hzi] at h1
      rw [if_neg hwi] at h2
      exact C.part.dis z w hz hw v h1 h2
   by_cases hxj : x < j <;> by_cases hyj : y < j
   · rw [e1 hxj, f1 hyj] at hzw; exact hzw
   · rw [e1 hxj, f2 hyj] at hzw; omega
   · rw [e2 hxj, f1 hyj] at hzw; omega
   · rw [e2 hxj, f2 hyj] at hzw; omega
 · intro c hc
   rcases key c hc with rfl | ⟨z, hz, _, _, rfl⟩
   · exact hMne
   · exact C.part.ne _ (List.getElem_mem hz)
 · intro v
   have : [v] ∈ pre ++ [[a, b]] ↔ [v] ∈ pre := by simp
   rw [this, C.part.cov v]
   constructor
   · rintro ⟨c, hc, hv⟩
     obtain ⟨z, hz, rfl⟩ := List.getElem_of_mem hc
     by_cases hzi : z = i
     · subst hzi; exact ⟨M, inM, (hmem v).2 (.inl hv)⟩
     by_cases hzj : z = j
     · subst hzj; exact ⟨M, inM, (hmem v).2 (.inr hv)⟩
     · exact ⟨_, inZ z hz hzi hzj, hv⟩
   · rintro ⟨c, hc, hv⟩
     rcases key c hc with rfl | ⟨z, hz, _, _, rfl⟩
     · rcases (hmem v).1 hv with h | h
       · exact ⟨_, List.getElem_mem hi, h⟩
       · exact ⟨_, List.getElem_mem hj, h⟩
     · exact ⟨_, List.getElem_mem hz, hv⟩
 · intro x y hxy c hc
   rcases List.mem_append.1 hxy with hp | hp
   · rcases key c hc with rfl | ⟨z, hz, _, _, rfl⟩
     · rw [hmem, hmem, C.part.edg x y hp _ (List.getElem_mem hi), C.part.edg x y hp _ (List.getElem_mem hj)]
     · exact C.part.edg x y hp _ (List.getElem_mem hz)
   · simp at hp
     obtain ⟨rfl, rfl⟩ := hp
     rcases key c hc with rfl | ⟨z, hz, hzi, hzj, rfl⟩
     · rw [hmem, hmem]
       rcases h with ⟨h1, h2⟩ | ⟨h1, h2⟩
       · exact ⟨fun _ => .inr h2, fun _ => .inl h1⟩
       · exact ⟨fun _ => .inl h1, fun _ => .inr h2⟩
     · constructor
       · intro hx
         rcases h with ⟨h1, h2⟩ | ⟨h1, h2⟩
         · exact absurd (C.part.dis z i hz hi x hx h1) hzi
         · exact absurd (C.part.dis z j hz hj x hx h2) hzj
       · intro hx
         rcases h with ⟨h1, h2⟩ | ⟨h1, h2⟩
         · exact absurd (C.part.dis z j hz hj y hx h2) hzj
         · exact absurd (C.part.dis z i hz hi y hx h1) hzi
 · intro c hc u hu v hv
   rcases key c hc with rfl | ⟨z, hz, _, _, rfl⟩
   · have ci : ∀ u ∈ P[i], ∀ v ∈ P[i], Conn l u v := C.part.con _ (List.getElem_mem hi)
     have cj : ∀ u ∈ P[j], ∀ v ∈ P[j], Conn l u v := C.part.con _ (List.getElem_mem hj)
     have cij : ∀ u ∈ P[i], ∀ v ∈ P[j], Conn l u v := fun u hu v hv => by
      rcases h with ⟨h1, h2⟩ | ⟨h1, h2⟩
      · exact (ci u hu a h1).trans ((Conn.edge hab).trans (cj b h2 v hv))
      · exact (ci u hu b h1).trans ((Conn.edge hab).symm.trans (cj a h2 v hv))
     rcases (hmem u).1 hu with h1 | h1 <;> rcases (hmem v).1 hv with h2 | h2
     · exact ci u h1 v h2
     · exact cij u h1 v h2
     · exact (cij v h2 u h1).symm
     · exact cj u h1 v h2
   · exact C.part.con _ (List.getElem_mem hz) u hu v hv
 · intro c hc
   rcases key c hc with rfl | ⟨z, hz, _, _, rfl⟩
   · exact hasc
   · exact C.asc _ (List.getElem_mem hz)
 · intro x y hx hy hxy
   obtain ⟨z, hz, hzj, e1, e2, e3⟩ := kG hij hj hx
   obtain ⟨w, hw, hwj, f1, f2, f3⟩ := kG hij hj hy
   rw [e3, f3]
   have hzw : z < w := by
    by_cases hxj : x < j <;> by_cases hyj : y < j
    · rw [e1 hxj, f1 hyj]; exact hxy
    · rw [e1 hxj, f2 hyj]; omega
    · omega
    · rw [e2 hxj, f2 hyj]; omega
   have eq : ∀ z (hz : z < P.length), (if z = i then M else P[z]).headD 0 = P[z].headD 0 := fun z hz => by
    by_cases e : z = i
    · subst e; rw [if_pos rfl, hhead]
    · rw [if_neg e]
   rw [eq z hz, eq w hw]
   exact C.hds z w hz hw hzw
theorem sU {l : List (List Int)} (h : Cx l) {i : Nat} (hi : i < l.length) {v : Int} (hv : v ∈ l[i]) (h2 : 2 ≤ l[i].length) : [v] ∈ l.take i := by
 have hm := h.sub _ (List.getElem_mem hi) [v] (by simpa using hv) (by simp)
 obtain ⟨j, hj, e⟩ := List.getElem_of_mem hm
 have hji : j < i := by
  rcases Nat.lt_trichotomy j i with hlt | rfl | hgt
  · exact hlt
  · rw [e] at h2; simp at h2
  · have : LtS l[i] l[j] := List.pairwise_iff_getElem.1 h.srt i j hi hj hgt
    rw [e] at this
    unfold LtS aW at this
    have e1 : [v].length = 1 := rfl
    rw [if_neg (by omega), if_neg (by omega)] at this
    exact absurd this (by decide)
 rw [← e]
 exact List.mem_take_iff_getElem.2 ⟨j, by omega, rfl⟩
inductive Part (N : Nat) (h : Hp) (el : Nat) : CV → List CV → Prop
 | nils : Part N h el .nils []
 | some {k : Nat} {cs tl : List CV} (hk : N ≤ k) (hn : k < h.n) (hs : h.get k = .cells (cs ++ tl) 1 el) : Part N h el (.sl k 0 cs.length (cs.length + tl.length)) cs
theorem Out.part {N el : Nat} {h : Hp} {x : CV} {cs : List CV} (r : Out N h el x cs) : Part N h el x cs := by
 cases r with
 | nils => exact .nils
 | @some k cs hk hn hne hs =>
  have := Part.some (N := N) (h := h) (el := el) (k := k) (cs := cs) (tl := []) hk hn (by rw [List.append_nil]; exact hs)
  simpa using this
theorem Part.row {N el : Nat} {h : Hp} {x : CV} {cs : List CV} (r : Part N h el x cs) : Row h x cs := by
 cases r with
 | nils => exact .nils
 | @some k cs tl hk hn hs =>
  cases cs with
  | nil => exact .none _ _ _
  | cons a cs =>
   refine .some (by simp) ?_ (Nat.le_add_right _ _) (by rw [hs]; rfl)
   rw [hs]
   have : Nat.ble (0 + (a :: cs).length) ((a :: cs) ++ tl).length = true := Nat.ble_eq_true_of_le (by simp)
   simp only [bw, this, sub, List.drop_zero]
   simp
theorem Part.mono {N M el : Nat} {h h' : Hp} (S : Same M h h') (hM : h.n ≤ M) {x : CV} {cs : List CV} (r : Part N h el x cs) : Part N h' el x cs := by
 cases r with
 | nils => exact .nils
 | some hk hn hs => exact .some hk (Nat.lt_of_lt_of_le hn S.n) (by rw [S.get _ (by omega)]; exact hs)
structure QS (N : Nat) (h : Hp) (el : Nat) (T : cN) (x : CV) (cs : List CV) (i : Nat) (c : Nat) (x1 x2 x3 : CV) (h1 h2 : Hp) : Prop where
 s1 : bb none (some (.nu .i64 (.ofNat i))) h x T = some x1
 s2 : bb (some (.nu .i64 (.ofNat (i + 1)))) none h x T = some x2
 ap : aT h x1 x2 T T = some (x3, h1)
 ln : am h1 x3 T = some (.nu .i64 (.ofNat (cs.length - 1)))
 cl : ∃ x4, bb (some (.nu .i64 (.ofNat (cs.length - 1)))) (some (.nu .i64 (.ofNat cs.length))) h1 x3 T = some x4 ∧ lC h1 x4 T = some (.tup [], h2)
 q1 : ceq x1 x1 = true
 out : Part N h2 el x3 (cs.eraseIdx i)
 same : Same N h h2
 wip : ∀ j, (wipe h2 x3).get j = (wipe h x).get j
 n : h2.n = h.n
 bk : ∃ k n m c, x = .sl k 0 n c ∧ x3 = .sl k 0 m c
 ok : HpOk h → HpOk h2
theorem zf {N el b : Nat} {h : Hp} {z0 x : CV} {cs : List CV} {i : Nat} (hz : z0.one = true) (o : Part N h el x cs) (hi : i < cs.length) (hone : cs.all CV.one = true) (hb : b ≤ 64) (hbig : cs.length < 1099511627776) :
  ∃ k c, x = .sl k 0 cs.length c ∧ cs.length ≤ c ∧ ∃ x1 x2 x3 h1 h2, QS N h el (.slice el 1 b [z0]) x cs i c x1 x2 x3 h1 h2 := by
 cases o with
 | nils => simp at hi
 | @some k cs tl hk hn hs =>
  refine ⟨k, cs.length + tl.length, rfl, Nat.le_add_right _ _, ?_⟩
  have hD : (cs ++ tl).length = cs.length + tl.length := List.length_append
  generalize hc : cs.length + tl.length = c at hD
  have hnc : cs.length ≤ c := by omega
  have hfit : ∀ D : List CV, xj 1 (.cells D 1 el) = true := fun _ => rfl
  have e1 : bb none (some (.nu .i64 (.ofNat i))) h (.sl k 0 cs.length c) (.slice el 1 b [z0]) = some (.sl k 0 i c) := by
   have h1 : (Nat.ble 0 i && Nat.ble i c) = true := by rw [Nat.ble_eq_true_of_le (Nat.zero_le _), Nat.ble_eq_true_of_le (by omega)]; rfl
   have h2 : Nat.blt 0 c = true := by simp; omega
   simp only [bb, ft, lG, du, h1, h2, hs, hfit, Nat.zero_mul, Nat.add_zero, Nat.sub_zero]
  obtain ⟨x2, e2, hc2, hl2⟩ : ∃ x2, bb (some (.nu .i64 (.ofNat (i + 1)))) none h (.sl k 0 cs.length c) (.slice el 1 b [z0]) = some x2 ∧ cellsOf h 1 x2 = some (cs.drop (i + 1)) ∧ CP.lenV x2 = (cs.drop (i + 1)).length := by
   by_cases hlt : i + 1 < c
   · have h1 : (Nat.ble (i + 1) cs.length && Nat.ble cs.length c) = true := by rw [Nat.ble_eq_true_of_le hi, Nat.ble_eq_true_of_le hnc]; rfl
     have h2 : Nat.blt (i + 1) c = true := by simp; omega
     refine ⟨_, by simp only [bb, ft, lG, du, h1, h2, hs, hfit]; rfl, ?_, by simp [CP.lenV]⟩
     by_cases h0 : cs.length - (i + 1) = 0
     · have h3 : Nat.beq (cs.length - (i + 1)) 0 = true := by rw [h0]; rfl
       simp only [cellsOf, h3]
       rw [List.drop_of_length_le (by omega)]
     · have h3 : Nat.beq (cs.length - (i + 1)) 0 = false := by
        cases hq : Nat.beq (cs.length - (i + 1)) 0 with
        | false => rfl
        | true => exact absurd (Nat.eq_of_beq_eq_true hq) h0
       have h4 : Nat.ble (0 + (i + 1) * 1 + (cs.length - (i + 1)) * 1) (cs ++ tl).length = true := Nat.ble_eq_true_of_le (by rw [hD]; omega)
       simp only [cellsOf, h3, hs, bw, h4, sub]
       rw [Nat.zero_add, Nat.mul_one, Nat.mul_one, List.drop_append_of_le_length (by omega), List.take_left' (by rw [List.length_drop])]
   · have hcc : c = i + 1 := by omega
     have h1 : (Nat.ble (i + 1) cs.length && Nat.ble cs.length c) = true := by rw [Nat.ble_eq_true_of_le hi, Nat.ble_eq_true_of_le hnc]; rfl
     have h2 : Nat.blt (i + 1) c = false := by
      cases hq : Nat.blt (i + 1) c with
      | false => rfl
      | true => simp at hq; omega
     have h3 : fR (cs ++ tl) 1 0 c = false := by
      have : Nat.beq (0 + c * 1) (cs ++ tl).length = true := by rw [hD, Nat.zero_add, Nat.mul_one]; exact Nat.beq_refl _
      simp only [fR, this]; rfl
     refine ⟨.sle, by simp only [bb, ft, lG, du, h1, h2, hs, gC, h3], ?_, ?_⟩
     · rw [List.drop_of_length_le (by omega)]; rfl
     · rw [List.drop_of_length_le (by omega)]; rfl
  have hml : (cs.drop (i + 1)).length = cs.length - (i + 1) := List.length_drop
  obtain ⟨D1, h1, e3, hg1, hn1, hoth, hok1, hD1, htk⟩ : ∃ (D1 : List CV) (h1 : Hp), aT h (.sl k 0 i c) x2 (.slice el 1 b [z0]) (.slice el 1 b [z0]) = some (.sl k 0 (cs.length - 1) c, h1) ∧ h1.get k = .cells D1 1 el ∧ h1.n = h.n ∧ (∀ j, j ≠ k → h1.get j = h.get j) ∧ (HpOk h → HpOk h1) ∧ D1.length = c ∧ D1.take (cs.length - 1) = cs.eraseIdx i := by
   have hone2 : (cs.drop (i + 1)).all CV.one = true := by
    rw [List.all_eq_true] at hone ⊢
    exact fun y hy => hone y (List.mem_of_mem_drop hy)
   have hbb : (i + (cs.drop (i + 1)).length) * b ≤ 70368744177664 := by
    have : (i + (cs.drop (i + 1)).length) * b ≤ 1099511627776 * 64 := Nat.mul_le_mul (by omega) hb
    omega
   have hcond : ((cs.drop (i + 1)).all CV.one && Nat.beq [z0].length 1 && Nat.blt 0 1 && Nat.ble ((CP.lenV (.sl k 0 i c) + (cs.drop (i + 1)).length) * b) 70368744177664 && Nat.ble (CP.lenV (.sl k 0 i c) + (cs.drop (i + 1)).length) 4611686018427387904) = true := by
    rw [hone2, show CP.lenV (.sl k 0 i c) = i from rfl, Nat.ble_eq_true_of_le hbb, Nat.ble_eq_true_of_le (by omega)]; rfl
   have e0 : aT h (.sl k 0 i c) x2 (.slice el 1 b [z0]) (.slice el 1 b [z0]) = fE h el 1 (.sl k 0 i c) (cs.drop (i + 1)) (cs.drop (i + 1)).length := by
    simp only [aT, iV, hc2, hl2, hcond]
   rw [e0]
   by_cases hm : cs.length = i + 1
   · have hd : cs.drop (i + 1) = [] := List.drop_of_length_le (by omega)
     have hic : Nat.ble i c = true := Nat.ble_eq_true_of_le (by omega)
     refine ⟨cs ++ tl, h, ?_, hs, rfl, fun _ _ => rfl, fun h => h, hD, ?_⟩
     · rw [hd]
       have : Nat.beq ([] : List CV).length 0 = true := rfl
       simp only [fE, this, hic]
       rw [show cs.length - 1 = i by omega]
     · rw [List.take_append_of_le_length (by omega), List.eraseIdx_eq_take_drop_succ, hd, List.append_nil, show cs.length - 1 = i by omega]
   · have hm0 : Nat.beq (cs.drop (i + 1)).length 0 = false := by
      cases hq : Nat.beq (cs.drop (i + 1)).length 0 with
      | false => rfl
      | true => have := Nat.eq_of_beq_eq_true hq; omega
     have hin : Nat.ble (i + (cs.drop (i + 1)).length) c = true := Nat.ble_eq_true_of_le (by omega)
     have hbl : Nat.ble (0 + (i + (cs.drop (i + 1)).length) * 1) (cs ++ tl).length = true := Nat.ble_eq_true_of_le (by rw [hD]; omega)
     refine ⟨setAt (cs ++ tl) (0 + i * 1) (cs.drop (i + 1)), h.set k (.cells (setAt (cs ++ tl) (0 + i * 1) (cs.drop (i + 1))) 1 el), ?_, ?_, rfl, fun j hj => by rw [Hp.get_set, if_neg hj], fun ok => ok.set hn _, by rw [cH, hD], ?_⟩
     · simp only [fE, hm0, hin, hs, BS, hbl]
       rw [show i + (cs.drop (i + 1)).length = cs.length - 1 by omega]
     · rw [Hp.get_set, if_pos rfl]
     · rw [Nat.zero_add, Nat.mul_one, dI _ _ _ (by rw [hD]; omega), List.take_append_of_le_length (by simp; omega), List.take_of_length_le (by simp; omega), List.eraseIdx_eq_take_drop_succ, List.take_append_of_le_length (by omega)]
  have hkn : (h1.get k) = .cells D1 1 el := hg1
  have e4 : bb (some (.nu .i64 (.ofNat (cs.length - 1)))) (some (.nu .i64 (.ofNat cs.length))) h1 (.sl k 0 (cs.length - 1) c) (.slice el 1 b [z0]) = some (.sl k (cs.length - 1) 1 (c - (cs.length - 1))) := by
   have h1 : (Nat.ble (cs.length - 1) cs.length && Nat.ble cs.length c) = true := by rw [Nat.ble_eq_true_of_le (by omega), Nat.ble_eq_true_of_le hnc]; rfl
   have h2 : Nat.blt (cs.length - 1) c = true := by simp; omega
   simp only [bb, ft, lG, du, h1, h2, hkn, hfit, Nat.zero_add, Nat.mul_one]
   rw [show cs.length - (cs.length - 1) = 1 by omega]
  have e5 : lC h1 (.sl k (cs.length - 1) 1 (c - (cs.length - 1))) (.slice el 1 b [z0]) = some (.tup [], h1.set k (.cells (setAt D1 (cs.length - 1) (dK [z0] 1)) 1 el)) := by
   have h1 : (Nat.beq [z0].length 1 && [z0].all CV.one) = true := by simp [hz]
   have h2 : Nat.ble (cs.length - 1 + 1 * 1) D1.length = true := Nat.ble_eq_true_of_le (by rw [hD1]; omega)
   have h3 : Nat.beq 1 0 = false := rfl
   simp only [lC, h3, h1, hkn, BU, h2]
  have hlE : (cs.eraseIdx i).length = cs.length - 1 := by rw [List.length_eraseIdx, if_pos hi]
  have hD2 : setAt D1 (cs.length - 1) (dK [z0] 1) = cs.eraseIdx i ++ (setAt D1 (cs.length - 1) (dK [z0] 1)).drop (cs.length - 1) := by
   rw [dI _ _ _ (by rw [hD1]; show cs.length - 1 + 1 ≤ c; omega), htk]
   rw [List.append_assoc, List.drop_left' hlE]
  have hD2l : (setAt D1 (cs.length - 1) (dK [z0] 1)).length = c := by rw [cH, hD1]
  refine ⟨_, x2, .sl k 0 (cs.length - 1) c, h1, h1.set k (.cells (setAt D1 (cs.length - 1) (dK [z0] 1)) 1 el), e1, e2, e3, rfl, ⟨_, e4, e5⟩, xH _ _ _ _, ?_, ?_, ?_, hn1, ⟨_, _, _, _, rfl, rfl⟩, fun ok => (hok1 ok).set (by rw [hn1]; exact hn) _⟩
  · have := Part.some (N := N) (h := h1.set k (.cells (setAt D1 (cs.length - 1) (dK [z0] 1)) 1 el)) (el := el) (k := k) (cs := cs.eraseIdx i) (tl := (setAt D1 (cs.length - 1) (dK [z0] 1)).drop (cs.length - 1)) hk (by show k < h1.n; rw [hn1]; exact hn) (by rw [← hD2, Hp.get_set, if_pos rfl])
    rw [hlE, List.length_drop, hD2l, show cs.length - 1 + (c - (cs.length - 1)) = c by omega] at this
    exact this
  · refine ⟨by show h.n ≤ h1.n; rw [hn1]; exact Nat.le_refl _, fun j hj => ?_⟩
    rw [Hp.get_set, if_neg (by omega)]
    exact hoth j (by omega)
  · intro j
    show ((h1.set k _).set k .dead).get j = (h.set k .dead).get j
    by_cases hjk : j = k
    · rw [Hp.get_set, if_pos hjk, Hp.get_set, if_pos hjk]
    · rw [Hp.get_set, if_neg hjk, Hp.get_set, if_neg hjk, Hp.get_set, if_neg hjk]; exact hoth j hjk
section
variable {K : Ctx} {h : Hp}
theorem QJ {k c n i : Nat} {el b : Nat} {z : List CV} (hi : i < n) (hn : n ≤ c) : fJ (.nu .i64 (.ofNat i)) (.nu .i64 (.ofNat (i + 1))) (.nu .i64 (.ofNat n)) (.sl k 0 n c) (.slice el 1 b z) = some .undef := by
 have hb : (Nat.ble i (i + 1) && Nat.ble (i + 1) n && Nat.ble n c) = true := by rw [Nat.ble_eq_true_of_le (by omega), Nat.ble_eq_true_of_le (by omega), Nat.ble_eq_true_of_le (by omega)]; rfl
 simp only [fJ, lG, hb]
theorem Gd (H : Std K) (PN : eF K) (ok : HpOk h) {N : Nat} {x : CV} {cs : List CV} (o : Part N h 46 x cs) {i : Nat} (hi : i < cs.length) (hone : cs.all CV.one = true) (hbig : cs.length < 1099511627776) :
  ∃ r h', Comes K 93 [x, .nu .i64 (.ofNat i), .nu .i64 (.ofNat (i + 1))] h r h' ∧ Same N h h' ∧ HpOk h' ∧ h'.n = h.n ∧ Part N h' 46 r (cs.eraseIdx i) ∧ ∀ j, (wipe h' r).get j = (wipe h x).get j := by
 have hf : K.P.funcs[93]? = some Tryz.f93 := by rw [H.hP]; exact Tryz.func93
 have hT : ae K.P 22 = .slice 46 1 24 [.nils] := by rw [H.hP]; exact t22
 have hlen := eQ H o.row
 obtain ⟨k, c, rfl, hc, x1, x2, x3, h1, h2, G⟩ := zf (z0 := .nils) (b := 24) rfl o hi hone (by decide) hbig
 obtain ⟨x4, e4, e5⟩ := G.cl
 exact ⟨x3, h2, H.go hf (Ln H.hk H.prim PN (s := entry 0 [_, _, _]) rfl rfl rfl hlen (by rw [hT]; exact QJ hi hc) (fv (fi (by omega))) (by rw [hT]; exact G.s1) G.q1 (by rw [hT]; exact G.s2) (by rw [hT]; exact G.ap) (by rw [hT]; exact G.ln) (by rw [hT]; exact e4) (by rw [hT]; exact e5)) (.inr rfl) (by rw [G.n]; exact Nat.le_refl _) rfl rfl rfl, G.same, G.ok ok, G.n, G.out, G.wip⟩
theorem Ge (H : Std K) (PN : eF K) (ok : HpOk h) {N : Nat} {x : CV} {cs : List CV} (o : Part N h 45 x cs) {i : Nat} (hi : i < cs.length) (hone : cs.all CV.one = true) (hbig : cs.length < 1099511627776) :
  ∃ r h', Comes K 91 [x, .nu .i64 (.ofNat i), .nu .i64 (.ofNat (i + 1))] h r h' ∧ Same N h h' ∧ HpOk h' ∧ h'.n = h.n ∧ Part N h' 45 r (cs.eraseIdx i) ∧ blk r = blk x ∧ ∀ j, j ≠ blk x → h'.get j = h.get j := by
 have hf : K.P.funcs[91]? = some Tryz.f91 := by rw [H.hP]; exact Tryz.func91
 have hT : ae K.P 26 = .slice 45 1 24 [.nils] := by rw [H.hP]; exact gG
 have hlen := bS H o.row
 obtain ⟨k, c, rfl, hc, x1, x2, x3, h1, h2, G⟩ := zf (z0 := .nils) (b := 24) rfl o hi hone (by decide) hbig
 obtain ⟨x4, e4, e5⟩ := G.cl
 exact ⟨x3, h2, H.go hf (Lm H.hk H.prim PN (s := entry 0 [_, _, _]) rfl rfl rfl hlen (by rw [hT]; exact QJ hi hc) (fv (fi (by omega))) (by rw [hT]; exact G.s1) G.q1 (by rw [hT]; exact G.s2) (by rw [hT]; exact G.ap) (by rw [hT]; exact G.ln) (by rw [hT]; exact e4) (by rw [hT]; exact e5)) (.inr rfl) (by rw [G.n]; exact Nat.le_refl _) rfl rfl rfl, G.same, G.ok ok, G.n, G.out, by
  obtain ⟨k', n', m', c', e1, e2⟩ := G.bk
  cases e1; subst e2
  refine ⟨rfl, fun j hj => ?_⟩
  have := G.wip j
  change (h2.set k .dead).get j = (h.set k .dead).get j at this
  have hjk : j ≠ k := hj
  rw [Hp.get_set, if_neg hjk, Hp.get_set, if_neg hjk] at this
  exact this⟩
structure Pwn (N : Nat) (h : Hp) (el : Nat) (x : CV) (cs : List CV) (l : List (List Int)) : Prop where
 out : Part N h el x cs
 rows : Rows (wipe h x) cs l
theorem Own.pwn {N : Nat} {el : Nat} {x : CV} {cs : List CV} {l : List (List Int)} (O : Own N h el x cs l) : Pwn N h el x cs l := ⟨O.out.part, O.rows⟩
theorem Pwn.all {N : Nat} {el : Nat} {x : CV} {cs : List CV} {l : List (List Int)} (O : Pwn N h el x cs l) : Rows h cs l := O.rows.unwipe
theorem Pwn.val {N : Nat} {el : Nat} {x : CV} {cs : List CV} {l : List (List Int)} (O : Pwn N h el x cs l) : Val h x l := ⟨cs, O.out.row, O.all⟩
theorem Pwn.mono {N : Nat} {h h' : Hp} {el : Nat} {x : CV} {cs : List CV} {l : List (List Int)} (S : Same h.n h h') (ok : HpOk h) (O : Pwn N h el x cs l) : Pwn N h' el x cs l :=
 ⟨O.out.mono S (Nat.le_refl _), O.rows.mono (S.wipe x) (ok.wipe x) (by rw [cE]; exact Nat.le_refl _)⟩
theorem Rows.erase {h : Hp} {xs : List CV} {l : List (List Int)} (r : Rows h xs l) : ∀ i, Rows h (xs.eraseIdx i) (l.eraseIdx i) := by
 induction r with
 | nil => intro i; exact .nil
 | cons hx hs ih =>
  intro i
  cases i with
  | zero => exact hs
  | succ i => exact .cons hx (ih i)
theorem sV (H : Std K) (PN : eF K) (ok : HpOk h) {N : Nat} {x : CV} {cs : List CV} {l : List (List Int)} (O : Pwn N h 46 x cs l) {i : Nat} (hi : i < l.length) (hbig : l.length < 1099511627776) :
  ∃ r h', Comes K 93 [x, .nu .i64 (.ofNat i), .nu .i64 (.ofNat (i + 1))] h r h' ∧ Same N h h' ∧ HpOk h' ∧ h'.n = h.n ∧ Pwn N h' 46 r (cs.eraseIdx i) (l.eraseIdx i) := by
 have hl := O.rows.length
 obtain ⟨r, h', c, S, ok', hn, o', hw⟩ := Gd H PN ok O.out (i := i) (by omega) O.rows.one (by omega)
 refine ⟨r, h', c, S, ok', hn, o', ?_⟩
 refine Rows.mono (N := h.n) ⟨by rw [cE, cE, hn]; exact Nat.le_refl _, fun j _ => hw j⟩ (ok.wipe x) (by rw [cE]; exact Nat.le_refl _) (O.rows.erase i)
end
section
variable {K : Ctx} {f n : Nat} {c : Code} {s s1 : Fr} {h h1 : Hp}
theorem ql {i j : Nat} (a : Runs K f n none c s h (.goto j) s1 h1) : Runs K f n none (.block i c) s h (.goto j) s1 h1 := by
 obtain ⟨N, a⟩ := a
 refine ⟨N + 1, fun d fu k h1 h2 hk => ?_⟩
 obtain ⟨k, rfl⟩ : ∃ m, k = m + 1 := ⟨k - 1, by omega⟩
 simp only [bf, a d fu k (by omega) (by omega) (by omega)]
theorem C1 {m b j : Nat} (I : Nat → Fr → Hp → Prop) {E R : Fr → Hp → Prop} (start : I 0 s h)
  (step : ∀ i s h, i < m → I i s h → (∃ s' h', Runs K f n none c s h .normal s' h' ∧ I (i + 1) s' h') ∨ (∃ s' h', Runs K f n none c s h (.goto j) s' h' ∧ R s' h'))
  (stop : ∀ s h, I m s h → ∃ s' h', Runs K f n none c s h (.exit b) s' h' ∧ E s' h') :
  (∃ s' h', Runs K f n none (.block b (.loop c)) s h .normal s' h' ∧ E s' h') ∨ (∃ s' h', Runs K f n none (.block b (.loop c)) s h (.goto j) s' h' ∧ R s' h') := by
 obtain ⟨e, s', h', r, q⟩ : RunQ K f n (.loop c) s h fun e s' h' => (e = .exit b ∧ E s' h') ∨ (e = .goto j ∧ R s' h') := by
  refine ni (m := m) I start (fun i s h hi hI => ?_) (fun s h hI => ?_)
  · rcases step i s h hi hI with ⟨s', h', r, q⟩ | ⟨s', h', r, q⟩
    · exact ⟨_, _, _, r, .inl ⟨rfl, q⟩⟩
    · exact ⟨_, _, _, r, .inr ⟨by simp, .inr ⟨rfl, q⟩⟩⟩
  · obtain ⟨s', h', r, q⟩ := stop s h hI
    exact ⟨_, _, _, r, by simp, .inl ⟨rfl, q⟩⟩
 rcases q with ⟨rfl, q⟩ | ⟨rfl, q⟩
 · exact .inl ⟨s', h', aV r, q⟩
 · exact .inr ⟨s', h', ql r, q⟩
end
inductive Colf : List (List Int) → List (List Int) → Prop
 | done {l : List (List Int)} : Ik l → Colf l l
 | step {l n : List (List Int)} {i k : Nat} (hik : i < k) (hk : k < l.length) (F : Free l (l.getD i []) (l.getD k [])) (first : ∀ j, j < i → ∀ t, ¬ Free l (l.getD j []) t) : Colf ((l.eraseIdx k).eraseIdx i) n → Colf l n
theorem Colf.cols {l n : List (List Int)} (c : Colf l n) : l.Nodup → Cols l n ∧ Ik n := by
 induction c with
 | done h => exact fun _ => ⟨.nil _, h⟩
 | @step l n i k hik hk F _ _ ih =>
  intro hn
  rw [cG hk, cG (show i < l.length by omega)] at F
  have st := Step.of hn hik hk F
  obtain ⟨h1, h2⟩ := ih (st.sub.nodup hn)
  exact ⟨.step st h1, h2⟩
theorem Gf {l : List (List Int)} {i : Nat} (h : ∀ j, j < l.length → j ≠ i → cz (l.getD j []) (l.getD i []) = false) (t : List Int) : ¬ Free l (l.getD i []) t := fun F => by
 obtain ⟨j, hj, rfl⟩ := List.getElem_of_mem F.tm
 have hne : j ≠ i := fun e => F.ne (by subst e; exact cG hj)
 have := h j hj hne
 rw [cG hj, F.has] at this
 cases this
theorem Il {l : List (List Int)} (hn : l.Nodup) {i j k : Nat} (hi : i < l.length) (hj : j < l.length) (hk : k < l.length) (hij : j ≠ i) (hik : k ≠ i) (hjk : j ≠ k) (h1 : cz (l.getD j []) (l.getD i []) = true) (h2 : cz (l.getD k []) (l.getD i []) = true) (t : List Int) : ¬ Free l (l.getD i []) t := fun F => by
 rw [cG hi] at F
 rw [cG hi, cG hj] at h1
 rw [cG hi, cG hk] at h2
 rcases F.only _ (List.getElem_mem hj) h1 with e | e
 · exact hij ((List.getElem_inj hn).1 e)
 rcases F.only _ (List.getElem_mem hk) h2 with e' | e'
 · exact hik ((List.getElem_inj hn).1 e')
 · exact hjk ((List.getElem_inj hn).1 (e.trans e'.symm))
theorem In {l : List (List Int)} (hn : l.Nodup) {i k : Nat} (hi : i < l.length) (hk : k < l.length) (hik : k ≠ i) (h1 : cz (l.getD k []) (l.getD i []) = true) (h2 : ∀ j, j < l.length → j ≠ i → j ≠ k → cz (l.getD j []) (l.getD i []) = false) : Free l (l.getD i []) (l.getD k []) := by
 rw [cG hi, cG hk] at *
 refine ⟨List.getElem_mem hi, List.getElem_mem hk, fun e => hik ((List.getElem_inj hn).1 e).symm, h1, fun a ha hq => ?_⟩
 obtain ⟨j, hj, rfl⟩ := List.getElem_of_mem ha
 by_cases e1 : j = i
 · exact .inl (by subst e1; rfl)
 by_cases e2 : j = k
 · exact .inr (by subst e2; rfl)
 have := h2 j hj e1 e2
 rw [cG hj, hq] at this
 cases this
theorem Free.before {l : List (List Int)} (h : Cx l) {i k : Nat} (hi : i < l.length) (hk : k < l.length) (F : Free l (l.getD i []) (l.getD k [])) : i < k := by
 rw [cG hi, cG hk] at F
 have hlen := F.len h
 rcases Nat.lt_trichotomy i k with hlt | rfl | hgt
 · exact hlt
 · exact absurd rfl F.ne
 · have : LtS l[k] l[i] := List.pairwise_iff_getElem.1 h.srt k i hk hi hgt
   unfold LtS aW at this
   rw [if_neg (by omega), if_neg (by omega)] at this
   exact absurd this (by decide)
theorem Cx.nodup {l : List (List Int)} (h : Cx l) : l.Nodup := Srt.nodup h.srt
section
variable {K : Ctx} {h : Hp}
def I6 (h : Hp) (l : List (List Int)) (s : Fr) (g : Hp) : Prop := HpOk g ∧ Same h.n h g ∧ s.at ag = .undef ∧ Ik l ∧ ∃ x cs, s.at 4 = x ∧ Pwn h.n g 46 x cs l
def I7 (h : Hp) (l : List (List Int)) (s : Fr) (g : Hp) : Prop := HpOk g ∧ Same h.n h g ∧ s.at ag = .undef ∧ ∃ i k, i < k ∧ k < l.length ∧ Free l (l.getD i []) (l.getD k []) ∧ (∀ j, j < i → ∀ t, ¬ Free l (l.getD j []) t) ∧ ∃ x cs, s.at 4 = x ∧ Pwn h.n g 46 x cs ((l.eraseIdx k).eraseIdx i)
theorem ta (H : Std K) (PB : cw K) (PC : bT K) (PN : eF K) {l : List (List Int)} (hC : Cx l) {g : Hp} (ok : HpOk g) (S : Same h.n h g) {s : Fr} {x : CV} {cs : List CV} (O : Pwn h.n g 46 x cs l) (h4 : s.at 4 = x) (hs : s.at ag = .undef) :
  (∃ s' g', cO K [1, 0, 1, 1, 1, 0] s g .normal s' g' ∧ I6 h l s' g') ∨ (∃ s' g', cO K [1, 0, 1, 1, 1, 0] s g (.goto 0) s' g' ∧ I7 h l s' g') := by
 have hn := hC.nodup
 have hcl := O.rows.length
 have hll := hC.le
 have hlen0 := eQ H O.out.row
 rw [hcl] at hlen0
 have hsm : ∀ i (hi : i < l.length), l[i].length < 4611686018427387904 := fun i hi => by have := (hC.ok _ (List.getElem_mem hi)).le; omega
 obtain ⟨s1, r1, a4, a19, a20, a21, as'⟩ : ∃ s1, cO K [1, 0, 1, 1, 1, 0, 0] s g .normal s1 g ∧ s1.at 4 = x ∧ s1.at 19 = x ∧ s1.at 20 = .nu .i64 (.ofNat l.length) ∧ s1.at 21 = .nu .i64 (.ofNat 0) ∧ s1.at ag = .undef := ⟨_, Oz H.hk h4 hlen0, h4, rfl, rfl, rfl, hs⟩
 have L := C1 (K := K) (f := 37) (n := 60) (c := aL [1, 0, 1, 1, 1, 0, 1, 0, 0] (ax Tryz.f37)) (s := s1) (h := g) (m := l.length) (b := 0) (j := 0)
  (I := fun i t q => HpOk q ∧ Same g.n g q ∧ t.at 4 = x ∧ t.at 19 = x ∧ t.at 20 = .nu .i64 (.ofNat l.length) ∧ t.at 21 = .nu .i64 (.ofNat i) ∧ t.at ag = .undef ∧ ∀ j, j < i → ∀ t, ¬ Free l (l.getD j []) t)
  (E := fun t q => I6 h l t q) (R := fun t q => I7 h l t q) ⟨ok, Same.refl _ _, a4, a19, a20, a21, as', fun j hj => absurd hj (Nat.not_lt_zero _)⟩
  (fun i t q hi ⟨okq, Sq, t4, t19, t20, t21, ts, hfirst⟩ => by
    have Oq := O.mono Sq ok
    obtain ⟨p, hp1, hp2⟩ := ip H Oq.out.row (i := i) (by omega)
    have hln := eQ H Oq.out.row
    rw [hcl] at hln
    obtain ⟨s2, r2, b4, b19, b20, b21, b22, bs⟩ : ∃ s2, cO K [1, 0, 1, 1, 1, 0, 1, 0, 0, 0] t q .normal s2 q ∧ s2.at 4 = x ∧ s2.at 19 = x ∧ s2.at 20 = .nu .i64 (.ofNat l.length) ∧ s2.at 21 = .nu .i64 (.ofNat i) ∧ s2.at 22 = .bo true ∧ s2.at ag = .undef := ⟨_, Fh H.hk t21 t20 (aJ hi), t4, t19, t20, t21, rfl, ts⟩
    obtain ⟨s3, r3, c4, c6, c7, c19, c20, c21, cs'⟩ : ∃ s3, cO K [1, 0, 1, 1, 1, 0, 1, 0, 0, 1, 1, 0, 0, 0] s2 q .normal s3 q ∧ s3.at 4 = x ∧ s3.at 6 = .nu .i64 (.ofNat i) ∧ s3.at 7 = cs[i] ∧ s3.at 19 = x ∧ s3.at 20 = .nu .i64 (.ofNat l.length) ∧ s3.at 21 = .nu .i64 (.ofNat i) ∧ s3.at ag = .undef := ⟨_, OA H.hk b21 b19 hp1 hp2, b4, rfl, rfl, b19, b20, b21, bs⟩
    obtain ⟨s4, r4, d4, d6, d7, d8, d19, d20, d21, ds⟩ : ∃ s4, cO K [1, 0, 1, 1, 1, 0, 1, 0, 0, 1, 1, 0, 0, 1, 0] s3 q .normal s4 q ∧ s4.at 4 = x ∧ s4.at 6 = .nu .i64 (.ofNat i) ∧ s4.at 7 = cs[i] ∧ s4.at 8 = .nu .i64 (-1) ∧ s4.at 19 = x ∧ s4.at 20 = .nu .i64 (.ofNat l.length) ∧ s4.at 21 = .nu .i64 (.ofNat i) ∧ s4.at ag = .undef := ⟨_, OB H.hk, c4, c6, c7, rfl, c19, c20, c21, cs'⟩
    obtain ⟨s5, r5, e4, e6, e7, e8, e19, e20, e21, P1, e27, e28, es⟩ : ∃ s5, cO K [1, 0, 1, 1, 1, 0, 1, 0, 0, 1, 1, 0, 0, 1, 1, 0, 0] s4 q .normal s5 q ∧ s5.at 4 = x ∧ s5.at 6 = .nu .i64 (.ofNat i) ∧ s5.at 7 = cs[i] ∧ s5.at 8 = .nu .i64 (-1) ∧ s5.at 19 = x ∧ s5.at 20 = .nu .i64 (.ofNat l.length) ∧ s5.at 21 = .nu .i64 (.ofNat i) ∧ s5.at 26 = x ∧ s5.at 27 = .nu .i64 (.ofNat l.length) ∧ s5.at 28 = .nu .i64 (.ofNat 0) ∧ s5.at ag = .undef := ⟨_, OC H.hk d4 hln, d4, d6, d7, d8, d19, d20, d21, rfl, rfl, rfl, ds⟩
    have L2 := Ch (K := K) (f := 37) (n := 60) (c := aL [1, 0, 1, 1, 1, 0, 1, 0, 0, 1, 1, 0, 0, 1, 1, 0, 1, 0, 0] (ax Tryz.f37)) (s := s5) (h := q) (m := l.length) (b := 2) (j := 1) rfl
     (I := fun k t q' => HpOk q' ∧ Same q.n q q' ∧ t.at 4 = x ∧ t.at 6 = .nu .i64 (.ofNat i) ∧ t.at 7 = cs[i] ∧ t.at 19 = x ∧ t.at 20 = .nu .i64 (.ofNat l.length) ∧ t.at 21 = .nu .i64 (.ofNat i) ∧ t.at 26 = x ∧ t.at 27 = .nu .i64 (.ofNat l.length) ∧ t.at 28 = .nu .i64 (.ofNat k) ∧ t.at ag = .undef ∧
       ((t.at 8 = .nu .i64 (-1) ∧ ∀ j, j < k → j ≠ i → cz (l.getD j []) (l.getD i []) = false) ∨ ∃ o, t.at 8 = .nu .i64 (.ofNat o) ∧ o < k ∧ o ≠ i ∧ cz (l.getD o []) (l.getD i []) = true ∧ ∀ j, j < k → j ≠ i → j ≠ o → cz (l.getD j []) (l.getD i []) = false))
     (E := fun t q' => HpOk q' ∧ Same q.n q q' ∧ t.at 4 = x ∧ t.at 6 = .nu .i64 (.ofNat i) ∧ t.at 19 = x ∧ t.at 20 = .nu .i64 (.ofNat l.length) ∧ t.at 21 = .nu .i64 (.ofNat i) ∧ t.at ag = .undef ∧
       ((t.at 8 = .nu .i64 (-1) ∧ ∀ j, j < l.length → j ≠ i → cz (l.getD j []) (l.getD i []) = false) ∨ ∃ o, t.at 8 = .nu .i64 (.ofNat o) ∧ o < l.length ∧ o ≠ i ∧ cz (l.getD o []) (l.getD i []) = true ∧ ∀ j, j < l.length → j ≠ i → j ≠ o → cz (l.getD j []) (l.getD i []) = false))
     (R := fun t q' => HpOk q' ∧ Same q.n q q' ∧ t.at 4 = x ∧ t.at 19 = x ∧ t.at 20 = .nu .i64 (.ofNat l.length) ∧ t.at 21 = .nu .i64 (.ofNat i) ∧ t.at ag = .undef ∧ ∀ t, ¬ Free l (l.getD i []) t)
     ⟨okq, Same.refl _ _, e4, e6, e7, e19, e20, e21, P1, e27, e28, es, .inl ⟨e8, fun j hj => absurd hj (Nat.not_lt_zero _)⟩⟩
     (fun k t q' hk ⟨okq', Sq', t4, t6, t7, t19, t20, t21, gG, t27, t28, ts, hI⟩ => by
       have Ok := Oq.mono Sq' okq
       obtain ⟨p', hp1', hp2'⟩ := ip H Ok.out.row (i := k) (by omega)
       have hrk := Ok.all.get (i := k) (by omega) hk
       have hri := Ok.all.get (i := i) (by omega) hi
       obtain ⟨s6, r6, u4, u6, u7, u8, u19, u20, u21, u26, u27, u28, u29, us⟩ : ∃ s6, cO K [1, 0, 1, 1, 1, 0, 1, 0, 0, 1, 1, 0, 0, 1, 1, 0, 1, 0, 0, 0] t q' .normal s6 q' ∧ s6.at 4 = x ∧ s6.at 6 = .nu .i64 (.ofNat i) ∧ s6.at 7 = cs[i] ∧ s6.at 8 = t.at 8 ∧ s6.at 19 = x ∧ s6.at 20 = .nu .i64 (.ofNat l.length) ∧ s6.at 21 = .nu .i64 (.ofNat i) ∧ s6.at 26 = x ∧ s6.at 27 = .nu .i64 (.ofNat l.length) ∧ s6.at 28 = .nu .i64 (.ofNat k) ∧ s6.at 29 = .bo true ∧ s6.at ag = .undef := ⟨_, Fi H.hk t28 t27 (aJ hk), t4, t6, t7, rfl, t19, t20, t21, gG, t27, t28, rfl, ts⟩
       obtain ⟨s7, r7, v4, v6, v7, v8, v9, v10, v19, v20, v21, v26, v27, v28, vs⟩ : ∃ s7, cO K [1, 0, 1, 1, 1, 0, 1, 0, 0, 1, 1, 0, 0, 1, 1, 0, 1, 0, 0, 1, 1, 0, 0, 0] s6 q' .normal s7 q' ∧ s7.at 4 = x ∧ s7.at 6 = .nu .i64 (.ofNat i) ∧ s7.at 7 = cs[i] ∧ s7.at 8 = t.at 8 ∧ s7.at 9 = .nu .i64 (.ofNat k) ∧ s7.at 10 = cs[k] ∧ s7.at 19 = x ∧ s7.at 20 = .nu .i64 (.ofNat l.length) ∧ s7.at 21 = .nu .i64 (.ofNat i) ∧ s7.at 26 = x ∧ s7.at 27 = .nu .i64 (.ofNat l.length) ∧ s7.at 28 = .nu .i64 (.ofNat k) ∧ s7.at ag = .undef := ⟨_, KY H.hk u28 u26 hp1' hp2', u4, u6, u7, u8, rfl, rfl, u19, u20, u21, u26, u27, u28, us⟩
       have hdec : ∃ b s8 q8, cO K [1, 0, 1, 1, 1, 0, 1, 0, 0, 1, 1, 0, 0, 1, 1, 0, 1, 0, 0, 1, 1, 0, 0, 1, 0, 0] s7 q' .normal s8 q8 ∧ HpOk q8 ∧ Same q'.n q' q8 ∧ s8.at 41 = .bo b ∧ b = (decide (k = i) || !(cz (l.getD k []) (l.getD i []))) ∧ s8.at 4 = x ∧ s8.at 6 = .nu .i64 (.ofNat i) ∧ s8.at 7 = cs[i] ∧ s8.at 8 = t.at 8 ∧ s8.at 9 = .nu .i64 (.ofNat k) ∧ s8.at 19 = x ∧ s8.at 20 = .nu .i64 (.ofNat l.length) ∧ s8.at 21 = .nu .i64 (.ofNat i) ∧ s8.at 26 = x ∧ s8.at 27 = .nu .i64 (.ofNat l.length) ∧ s8.at 28 = .nu .i64 (.ofNat k) ∧ s8.at ag = .undef := by
        by_cases hki : k = i
        · exact ⟨_, _, _, Fj H.hk v9 v6 (jj (by rw [hki])) rfl, okq', Same.refl _ _, rfl, by simp [hki], v4, v6, v7, v8, v9, v19, v20, v21, v26, v27, v28, vs⟩
        · obtain ⟨rv, q8, c68, S8, ok8, rfl⟩ := Ia H PB okq' (a := l[k]) (b := l[i]) (hsm k hk) (hsm i hi) hrk hri
          exact ⟨_, _, _, Fk H.hk v9 v6 v10 v7 (fv (fi hki)) (H.prim _ _) c68 rfl rfl, ok8, S8, rfl, by rw [cG hk, cG hi]; simp [hki], v4, v6, v7, v8, v9, v19, v20, v21, v26, v27, v28, vs⟩
       obtain ⟨b, s8, q8, r8, ok8, S8, w41, hb, w4, w6, w7, w8, w9, w19, w20, w21, w26, w27, w28, ws⟩ := hdec
       have Sq8 := Sq'.trans (S8.le Sq'.n)
       cases hbb : b with
       | true =>
        rw [hbb] at w41 hb
        have hpass : k = i ∨ cz (l.getD k []) (l.getD i []) = false := by
         by_cases e : k = i
         · exact .inl e
         · simp [e] at hb; exact .inr hb
        refine .inl ⟨_, _, Runs.seq r6 (Runs.seq (Runs.condT (o := .tmp 29) u29 Runs.skip) (Runs.seq (aV (Runs.seq r7 (ay (Runs.seq r8 (Runs.condT (o := .tmp 41) w41 Runs.exit)) (by simp)))) (Bd H.hk w28 (bh (by omega))))), ok8, Sq8, w4, w6, w7, w19, w20, w21, w26, w27, rfl, ws, ?_⟩
        rcases hI with ⟨h8, hno⟩ | ⟨o, h8, ho, hoi, hyes, hno⟩
        · refine .inl ⟨w8.trans h8, fun j hj hji => ?_⟩
          by_cases e : j = k
          · subst e; rcases hpass with e | e
            · exact absurd e hji
            · exact e
          · exact hno j (by omega) hji
        · refine .inr ⟨o, w8.trans h8, by omega, hoi, hyes, fun j hj hji hjo => ?_⟩
          by_cases e : j = k
          · subst e; rcases hpass with e | e
            · exact absurd e hji
            · exact e
          · exact hno j (by omega) hji hjo
       | false =>
        rw [hbb] at w41 hb
        have hki : k ≠ i := fun e => by simp [e] at hb
        have hyk : cz (l.getD k []) (l.getD i []) = true := by simpa [hki] using hb
        rcases hI with ⟨h8, hno⟩ | ⟨o, h8, ho, hoi, hyes, hno⟩
        · obtain ⟨s9, r9, y4, y6, y7, y9, y19, y20, y21, y26, y27, y28, y43, ys⟩ : ∃ s9, cO K [1, 0, 1, 1, 1, 0, 1, 0, 0, 1, 1, 0, 0, 1, 1, 0, 1, 0, 0, 1, 1, 0, 0, 1, 1, 0, 0] s8 q8 .normal s9 q8 ∧ s9.at 4 = x ∧ s9.at 6 = .nu .i64 (.ofNat i) ∧ s9.at 7 = cs[i] ∧ s9.at 9 = .nu .i64 (.ofNat k) ∧ s9.at 19 = x ∧ s9.at 20 = .nu .i64 (.ofNat l.length) ∧ s9.at 21 = .nu .i64 (.ofNat i) ∧ s9.at 26 = x ∧ s9.at 27 = .nu .i64 (.ofNat l.length) ∧ s9.at 28 = .nu .i64 (.ofNat k) ∧ s9.at 43 = .bo false ∧ s9.at ag = .undef := ⟨_, Bc H.hk (w8.trans h8) (H7 (by decide)), w4, w6, w7, w9, w19, w20, w21, w26, w27, w28, rfl, ws⟩
          refine .inl ⟨_, _, Runs.seq r6 (Runs.seq (Runs.condT (o := .tmp 29) u29 Runs.skip) (Runs.seq (aq (Runs.seq r7 (Runs.seq (Runs.seq r8 (Runs.condF (o := .tmp 41) w41 Runs.skip)) (Runs.seq (Runs.seq r9 (Runs.condF (o := .tmp 43) y43 Runs.skip)) (KZ H.hk y9))))) (Bd H.hk y28 (bh (by omega))))), ok8, Sq8, y4, y6, y7, y19, y20, y21, y26, y27, rfl, ys, ?_⟩
          exact .inr ⟨k, rfl, by omega, hki, hyk, fun j hj hji hjk => hno j (by omega) hji⟩
        · obtain ⟨s9, r9, y4, y19, y20, y21, y43, ys⟩ : ∃ s9, cO K [1, 0, 1, 1, 1, 0, 1, 0, 0, 1, 1, 0, 0, 1, 1, 0, 1, 0, 0, 1, 1, 0, 0, 1, 1, 0, 0] s8 q8 .normal s9 q8 ∧ s9.at 4 = x ∧ s9.at 19 = x ∧ s9.at 20 = .nu .i64 (.ofNat l.length) ∧ s9.at 21 = .nu .i64 (.ofNat i) ∧ s9.at 43 = .bo true ∧ s9.at ag = .undef := ⟨_, Bc H.hk (w8.trans h8) (H6 (by simp)), w4, w19, w20, w21, rfl, ws⟩
          exact .inr (.inl ⟨_, _, Runs.seq r6 (Runs.seq (Runs.condT (o := .tmp 29) u29 Runs.skip) (ay (p9 (Runs.seq r7 (Runs.seq (Runs.seq r8 (Runs.condF (o := .tmp 41) w41 Runs.skip)) (ay (Runs.seq r9 (Runs.condT (o := .tmp 43) y43 Runs.exit)) (by simp)))) rfl) (by simp))), ok8, Sq8, y4, y19, y20, y21, ys, Il hn hi (by omega) hk hoi hki (by omega) hyes hyk⟩))
     (fun t q' ⟨okq', Sq', t4, t6, t7, t19, t20, t21, gG, t27, t28, ts, hI⟩ =>
       ⟨_, _, Runs.seq (Fi H.hk t28 t27 (aQ (Nat.le_refl _))) (ay (Runs.condF (o := .tmp 29) rfl Runs.exit) (by simp)), okq', Sq', t4, t6, t19, t20, t21, ts, hI⟩)
    rcases L2 with ⟨s6, q6, r6, ok6, S6, t4, t6, t19, t20, t21, ts, hI⟩ | ⟨s6, q6, r6, ok6, S6, t4, t19, t20, t21, ts, hno⟩
    · have Sg6 := Sq.trans (S6.le Sq.n)
      rcases hI with ⟨h8, hno⟩ | ⟨o, h8, ho, hoi, hyes, hno⟩
      · obtain ⟨s7, r7, u4, u19, u20, u21, u47, us⟩ : ∃ s7, cO K [1, 0, 1, 1, 1, 0, 1, 0, 0, 1, 1, 0, 0, 1, 1, 1, 0] s6 q6 .normal s7 q6 ∧ s7.at 4 = x ∧ s7.at 19 = x ∧ s7.at 20 = .nu .i64 (.ofNat l.length) ∧ s7.at 21 = .nu .i64 (.ofNat i) ∧ s7.at 47 = .bo false ∧ s7.at ag = .undef := ⟨_, Be H.hk h8 (H7 (by decide)), t4, t19, t20, t21, rfl, ts⟩
        refine .inl ⟨_, _, Runs.seq r2 (Runs.seq (Runs.condT (o := .tmp 22) b22 Runs.skip) (Runs.seq (aq (Runs.seq r3 (Runs.seq r4 (Runs.seq (Runs.seq r5 r6) (Runs.seq r7 (Runs.condF (o := .tmp 47) u47 Runs.skip)))))) (Bf H.hk u21 (bh (by omega))))), ok6, Sg6, u4, u19, u20, rfl, us, fun j hj => ?_⟩
        by_cases e : j = i
        · subst e; exact Gf hno
        · exact hfirst j (by omega)
      · have F := In hn hi ho hoi hyes hno
        have hio := F.before hC hi ho
        obtain ⟨s7, r7, u4, u6, u8, u47, us⟩ : ∃ s7, cO K [1, 0, 1, 1, 1, 0, 1, 0, 0, 1, 1, 0, 0, 1, 1, 1, 0] s6 q6 .normal s7 q6 ∧ s7.at 4 = x ∧ s7.at 6 = .nu .i64 (.ofNat i) ∧ s7.at 8 = .nu .i64 (.ofNat o) ∧ s7.at 47 = .bo true ∧ s7.at ag = .undef := ⟨_, Be H.hk h8 (H6 (by simp)), t4, t6, h8, rfl, ts⟩
        have O6 := O.mono Sg6 ok
        obtain ⟨x1, q7, c7, S7, ok7, n7, O7⟩ := sV H PN ok6 O6 (i := o) (by omega) (by omega)
        have hl1 : (l.eraseIdx o).length = l.length - 1 := by rw [List.length_eraseIdx, if_pos ho]
        obtain ⟨x2, q8, c8, S8, ok8, n8, O8⟩ := sV H PN ok7 O7 (i := i) (by omega) (by omega)
        obtain ⟨s8, r8, v4, v6, vs⟩ : ∃ s8, cO K [1, 0, 1, 1, 1, 0, 1, 0, 0, 1, 1, 0, 0, 1, 1, 1, 1, 0, 0] s7 q6 .normal s8 q7 ∧ s8.at 4 = x1 ∧ s8.at 6 = .nu .i64 (.ofNat i) ∧ s8.at ag = .undef := ⟨_, K3 H.hk u4 u8 (bh (by omega)) (H.prim _ _) c7, rfl, u6, us⟩
        obtain ⟨s9, r9, w4, ws⟩ : ∃ s9, cO K [1, 0, 1, 1, 1, 0, 1, 0, 0, 1, 1, 0, 0, 1, 1, 1, 1, 0, 1, 0] s8 q7 .normal s9 q8 ∧ s9.at 4 = x2 ∧ s9.at ag = .undef := ⟨_, K4 H.hk v4 v6 (bh (by omega)) (H.prim _ _) c8, rfl, vs⟩
        refine .inr ⟨_, _, Runs.seq r2 (Runs.seq (Runs.condT (o := .tmp 22) b22 Runs.skip) (ay (ql (Runs.seq r3 (Runs.seq r4 (Runs.seq (Runs.seq r5 r6) (Runs.seq r7 (Runs.condT (o := .tmp 47) u47 (Runs.seq r8 (Runs.seq r9 Runs.goto)))))))) (by simp))), ok8, (S.trans (Sg6.le S.n)).trans (S7.trans S8), ws, i, o, hio, ho, F, hfirst, x2, _, w4, O8⟩
    · refine .inl ⟨_, _, Runs.seq r2 (Runs.seq (Runs.condT (o := .tmp 22) b22 Runs.skip) (Runs.seq (aV (Runs.seq r3 (Runs.seq r4 (ay (Runs.seq r5 r6) (by simp))))) (Bf H.hk t21 (bh (by omega))))), ok6, Sq.trans (S6.le Sq.n), t4, t19, t20, rfl, ts, fun j hj => ?_⟩
      by_cases e : j = i
      · subst e; exact hno
      · exact hfirst j (by omega))
  (fun t q ⟨okq, Sq, t4, t19, t20, t21, ts, hfirst⟩ => by
    refine ⟨_, _, Runs.seq (Fh H.hk t21 t20 (aQ (Nat.le_refl _))) (ay (Runs.condF (o := .tmp 22) rfl Runs.exit) (by simp)), okq, S.trans (Sq.le S.n), ts, fun s t F => ?_, x, cs, t4, O.mono Sq ok⟩
    obtain ⟨j, hj, rfl⟩ := List.getElem_of_mem F.sm
    exact hfirst j hj t (by rw [cG hj]; exact F))
 rcases L with ⟨s', g', r, hE⟩ | ⟨s', g', r, hR⟩
 · exact .inl ⟨s', g', Runs.seq r1 r, hE⟩
 · exact .inr ⟨s', g', Runs.seq r1 r, hR⟩
theorem zV (H : Std K) (PB : cw K) (PC : bT K) (PN : eF K) : ∀ (m : Nat) (l : List (List Int)), l.length ≤ m → Cx l → ∀ {g g0 : Hp} {s s0 : Fr} {r : Code} {x : CV} {cs : List CV}, HpOk g → Same h.n h g → Pwn h.n g 46 x cs l → s.at 4 = x → s.at ag = .undef → (∀ {e : Exit} {s' : Fr} {g' : Hp}, cO K [1, 0, 1, 1, 1] s g e s' g' → Runs K 37 60 none r s0 g0 e s' g') →
  ∃ s' g', RunJ K 37 60 none (aL [1, 0] (ax Tryz.f37)) r s0 g0 .ret s' g' ∧ HpOk g' ∧ Same h.n h g' ∧ s'.at ag = .undef ∧ s'.at 3 = .nu .i64 0 ∧ ∃ x' cs' l', s'.at 2 = x' ∧ Pwn h.n g' 46 x' cs' l' ∧ Colf l l' := by
 intro m
 induction m with
 | zero =>
  intro l hl hC g g0 s s0 r x cs ok S O h4 hs hr
  rcases ta H PB PC PN hC ok S O h4 hs with ⟨s', g', r1, ok', S', hs', hD, x', cs', h4', O'⟩ | ⟨s', g', r1, ok', S', hs', i, k, hik, hk, _⟩
  · obtain ⟨s2, r2, e2, e3, es⟩ : ∃ s2, cO K [1, 0, 1, 1, 1, 1, 0] s' g' .normal s2 g' ∧ s2.at 2 = x' ∧ s2.at 3 = .nu .i64 0 ∧ s2.at ag = .undef := ⟨_, Bg H.hk h4', rfl, rfl, hs'⟩
    exact ⟨s2, g', RunJ.done (hr (Runs.seq r1 (Runs.seq r2 Runs.ret))) (by simp), ok', S', es, e3, x', cs', l, e2, O', .done hD⟩
  · omega
 | succ m ih =>
  intro l hl hC g g0 s s0 r x cs ok S O h4 hs hr
  rcases ta H PB PC PN hC ok S O h4 hs with ⟨s', g', r1, ok', S', hs', hD, x', cs', h4', O'⟩ | ⟨s', g', r1, ok', S', hs', i, k, hik, hk, F, hfirst, x', cs', h4', O'⟩
  · obtain ⟨s2, r2, e2, e3, es⟩ : ∃ s2, cO K [1, 0, 1, 1, 1, 1, 0] s' g' .normal s2 g' ∧ s2.at 2 = x' ∧ s2.at 3 = .nu .i64 0 ∧ s2.at ag = .undef := ⟨_, Bg H.hk h4', rfl, rfl, hs'⟩
    exact ⟨s2, g', RunJ.done (hr (Runs.seq r1 (Runs.seq r2 Runs.ret))) (by simp), ok', S', es, e3, x', cs', l, e2, O', .done hD⟩
  · have hst := Step.of hC.nodup hik hk (by rw [cG hk, cG (show i < l.length by omega)] at F; exact F)
    have hl1 : ((l.eraseIdx k).eraseIdx i).length ≤ m := by
     have h1 : (l.eraseIdx k).length = l.length - 1 := by rw [List.length_eraseIdx, if_pos hk]
     have h2 := List.length_eraseIdx_le (l.eraseIdx k) i
     omega
    obtain ⟨s2, g2, r2, dd, S2, es, e3, x2, cs2, l2, e2, O2, c2⟩ := ih _ hl1 (hst.cx hC) ok' S' O' h4' hs' (fun a => Runs.seq Runs.skip a)
    exact ⟨s2, g2, DA (hr (ay r1 (by simp))) rfl r2, dd, S2, es, e3, x2, cs2, l2, e2, O2, .step hik hk F hfirst c2⟩
theorem Io (H : Std K) (PB : cw K) (PC : bT K) (PN : eF K) (ok : HpOk h) {l : List (List Int)} (hl : fP l) (he : bc l = 0) (hC : Cx l) {x : CV} {cs : List CV} (hx : Row h x cs) (hxs : Rows h cs l) : ga K 37 [x] h fun r h' => ∃ o ds m, r = .tup [o, .nu .i64 0] ∧ Pwn h.n h' 46 o ds m ∧ Colf l m := by
 have hf : K.P.funcs[37]? = some Tryz.f37 := by rw [H.hP]; exact Tryz.func37
 have hf92 : K.P.funcs[92]? = some Tryz.f92 := by rw [H.hP]; exact Tryz.func92
 have c92 : Asks K h 92 [] l (fun _ => true) := fun y a g ha okg S r => ⟨_, g, dD hf92 rfl (H.memo 92 (by decide)) (H.spec 92) rfl (Runs.seq (Ps H.hk) (Runs.seq (Pt H.hk) Runs.ret)) (.inr rfl) (Nat.le_refl _) rfl rfl rfl, Same.refl _ _, okg, rfl⟩
 obtain ⟨_, h1, c1, S1, bH, o, ds, rfl, O1⟩ := FY H ok hl he c92 hx hxs
 rw [List.filter_eq_self.2 (fun _ _ => rfl)] at O1
 obtain ⟨s1, r1, a4, a5, as'⟩ : ∃ s1, cO K [1, 0, 0] (T.set (T.set (entry 0 [x]) 2 .nils) 3 (.nu .i64 0)) h .normal s1 h1 ∧ s1.at 4 = o ∧ s1.at 5 = .nu .i64 0 ∧ s1.at ag = .undef := ⟨_, Ff H.hk rfl (H.prim _ _) c1 rfl rfl, rfl, rfl, rfl⟩
 obtain ⟨s2, r2, b4, b17, bs⟩ : ∃ s2, cO K [1, 0, 1, 0, 0] s1 h1 .normal s2 h1 ∧ s2.at 4 = o ∧ s2.at 17 = .bo false ∧ s2.at ag = .undef := ⟨_, Fg H.hk a5 (eV rfl), a4, rfl, as'⟩
 obtain ⟨s', g', r, ok', S', hs', h3, x', cs', l', h2, O', cl⟩ := zV H PB PC PN l.length l (Nat.le_refl _) hC bH S1 O1.pwn b4 bs (r := aL [1, 0] (ax Tryz.f37)) (fun a => Runs.seq r1 (Runs.seq (Runs.seq r2 (Runs.condF (o := .tmp 17) b17 Runs.skip)) (Runs.seq Runs.label a)))
 refine ⟨_, g', H.go hf (Runs.seq (Fe H.hk) (qa r)) (.inr rfl) S'.n hs' (vs := [s'.at 2, s'.at 3]) rfl rfl, S', ok', x', cs', l', by rw [h2, h3]; rfl, O', cl⟩
end
def dV (o : List Int) (a : List Int) : List Int := o.set (a.length - 1) (o.getD (a.length - 1) 0 + 1)
def gA (l : List (List Int)) : List Int := l.foldl dV (List.replicate (l.getLastD []).length 0)
def dh : Nat → List Int → Int
 | _, [] => 0
 | d, c :: o => c * (1 - Int.ofNat (d % 2) * 2) + dh (d + 1) o
def gb (d : Nat) : Int := 1 - Int.ofNat (d % 2) * 2
theorem PZ {a : List Int} (h : a ≠ []) : ly a = gb (a.length - 1) := by
 have : 0 < a.length := List.length_pos_iff.2 h
 unfold ly gb
 rcases Nat.mod_two_eq_zero_or_one a.length with e | e
 · rw [if_pos e, show (a.length - 1) % 2 = 1 by omega]; rfl
 · rw [if_neg (by omega), show (a.length - 1) % 2 = 0 by omega]; rfl
theorem lS (o a : List Int) : (dV o a).length = o.length := by simp [dV]
theorem kH : ∀ (l : List (List Int)) (o : List Int), (l.foldl dV o).length = o.length
 | [], _ => rfl
 | a :: l, o => by rw [List.foldl_cons, kH l, lS]
theorem zg : ∀ (o : List Int) (d i : Nat) (hi : i < o.length), dh d (o.set i (o.getD i 0 + 1)) = dh d o + gb (d + i)
 | c :: o, d, 0, _ => by
  show (c + 1) * _ + dh (d + 1) o = c * _ + dh (d + 1) o + gb d
  rw [Int.add_mul, Int.one_mul]
  unfold gb
  omega
 | c :: o, d, i + 1, hi => by
  have := zg o (d + 1) i (by simpa using hi)
  show c * _ + dh (d + 1) (o.set i (o.getD i 0 + 1)) = c * _ + dh (d + 1) o + gb (d + (i + 1))
  rw [this, show d + 1 + i = d + (i + 1) by omega]
  omega
theorem vU : ∀ (n d : Nat), dh d (List.replicate n 0) = 0
 | 0, _ => rfl
 | n + 1, d => by
  show (0 : Int) * _ + dh (d + 1) (List.replicate n 0) = 0
  rw [vU n, Int.zero_mul]; rfl
theorem tb : ∀ (l : List (List Int)) (o : List Int), (∀ a ∈ l, a ≠ [] ∧ a.length ≤ o.length) → dh 0 (l.foldl dV o) = dh 0 o + dH l
 | [], o, _ => by simp [dH]
 | a :: l, o, h => by
  obtain ⟨hne, hle⟩ := h a List.mem_cons_self
  have hpos : 0 < a.length := List.length_pos_iff.2 hne
  rw [List.foldl_cons, tb l (dV o a) (fun b hb => by rw [lS]; exact h b (List.mem_cons_of_mem _ hb))]
  have h1 : dh 0 (dV o a) = dh 0 o + gb (0 + (a.length - 1)) := zg o 0 (a.length - 1) (by omega)
  rw [h1, Nat.zero_add, ← PZ hne]
  simp only [dH, List.map_cons, List.sum_cons]
  omega
theorem lT : ∀ (l : List (List Int)) (o : List Int) (B : Int), (∀ c ∈ o, 0 ≤ c ∧ c ≤ B) → 0 ≤ B → ∀ c ∈ l.foldl dV o, 0 ≤ c ∧ c ≤ B + l.length
 | [], o, B, h, _ => by simpa using h
 | a :: l, o, B, h, hB => by
  intro c hc
  rw [List.foldl_cons] at hc
  have := lT l (dV o a) (B + 1) (fun c hc => by
   unfold dV at hc
   rcases List.mem_or_eq_of_mem_set hc with h1 | h1
   · have := h c h1; omega
   · have h2 : 0 ≤ o.getD (a.length - 1) 0 ∧ o.getD (a.length - 1) 0 ≤ B := by
      by_cases hi : a.length - 1 < o.length
      · rw [List.getD_eq_getElem?_getD, List.getElem?_eq_getElem hi]; exact h _ (List.getElem_mem hi)
      · rw [List.getD_eq_getElem?_getD, List.getElem?_eq_none (by omega)]; exact ⟨Int.le_refl _, hB⟩
     omega) (by omega) c hc
  simp only [List.length_cons]
  omega
theorem Srt.len_le {l : List (List Int)} (h : Srt l) {i j : Nat} (hi : i < l.length) (hj : j < l.length) (hij : i ≤ j) : l[i].length ≤ l[j].length := by
 rcases Nat.eq_or_lt_of_le hij with rfl | hlt
 · exact Nat.le_refl _
 · have : LtS l[i] l[j] := List.pairwise_iff_getElem.1 h i j hi hj hlt
   unfold LtS aW at this
   split at this
   · omega
   · split at this
     · omega
     · exact absurd this (by decide)
theorem zh {l : List (List Int)} (h : Srt l) {a : List Int} (ha : a ∈ l) : a.length ≤ (l.getLastD []).length := by
 obtain ⟨i, hi, rfl⟩ := List.getElem_of_mem ha
 have : l.getLastD [] = l[l.length - 1]'(by omega) := by
  rw [List.getLastD_eq_getLast?, List.getLast?_eq_getElem?, List.getElem?_eq_getElem (by omega)]; rfl
 rw [this]
 exact h.len_le hi (by omega) (by omega)
theorem Ip {l : List (List Int)} (hne : l ≠ []) : l.getLastD [] ∈ l := by
 rw [List.getLastD_eq_getLast?, List.getLast?_eq_some_getLast hne]
 exact List.getLast_mem hne
structure Mk (N : Nat) (h : Hp) (el : Nat) (x : CV) (cs : List CV) : Prop where
 at' : ∃ k, x = .sl k 0 cs.length cs.length ∧ N ≤ k ∧ k < h.n ∧ h.get k = .cells cs 0 el
theorem Mk.row {N el : Nat} {h : Hp} {x : CV} {cs : List CV} (r : Mk N h el x cs) : Row h x cs := by
 obtain ⟨k, rfl, hk, hn, hs⟩ := r.at'
 cases cs with
 | nil => exact .none _ _ _
 | cons a cs =>
  refine .some (by simp) ?_ (Nat.le_refl _) (by rw [hs]; rfl)
  rw [hs]
  simp only [bw, Nat.zero_add, Nat.ble_eq_true_of_le (Nat.le_refl _), sub, List.drop_zero, List.take_length]
theorem Mk.cell {N el : Nat} {h : Hp} {x : CV} {cs : List CV} (r : Mk N h el x cs) {i : Nat} (hi : i < cs.length) : ∃ p, (∀ e b z, af x (.nu .i64 (.ofNat i)) (.slice e 1 b z) = Option.some p) ∧ ah h p (Option.some (1, false)) = Option.some cs[i] ∧ ∀ v : CV, v.one = true → ∃ h', bg h p v (Option.some (1, false)) = Option.some (.undef, h') ∧ Mk N h' el x (cs.set i v) ∧ Same N h h' ∧ (HpOk h → HpOk h') := by
 obtain ⟨k, rfl, hk, hn, hs⟩ := r.at'
 have hb : Nat.blt i cs.length = true := by simpa using hi
 refine ⟨.ptr k (0 + i * 1), fun e b z => by simp only [af, nU, hb], ?_, fun v hv => ?_⟩
 · show dj (0 + i * 1) 1 false (h.get k) = _
   rw [hs]
   have h1 : cs[i]? = Option.some cs[i] := List.getElem?_eq_getElem hi
   simp only [dj, val, Nat.mul_one, Nat.zero_add, Nat.ble_eq_true_of_le (show i + 1 ≤ cs.length by omega), Nat.beq_refl, h1]
 · have hc := eW hv
   have hl : v.cells.length = 1 := by rw [hc]; rfl
   refine ⟨h.set k (.cells (cs.set i v) 0 el), ?_, ⟨⟨k, by simp, hk, hn, by rw [Hp.get_set, if_pos rfl]⟩⟩, Same.set hk _, fun ok => ok.set hn _⟩
   show de h k (0 + i * 1) 1 v (h.get k) = _
   rw [hs]
   simp only [de, CV.sol, hc, List.all_cons, hv, List.all_nil, Bool.and_self, List.length_singleton, Nat.beq_refl, Nat.mul_one, Nat.zero_add, Nat.ble_eq_true_of_le (show i + 1 ≤ cs.length by omega), iN]
theorem zi : ∀ n : Nat, dK [CV.nu .i64 0] n = ak (List.replicate n 0)
 | 0 => rfl
 | n + 1 => by rw [dK, zi n]; rfl
section
variable {K : Ctx} {h : Hp}
theorem tc (H : Std K) (PC : bT K) (ok : HpOk h) {l : List (List Int)} (hl : fP l) {x : CV} {cs : List CV} (hx : Row h x cs) (hxs : Rows h cs l) : ga K 34 [x] h fun r h' => ∃ o, r = .tup [o, .nu .i64 (bc l)] ∧ Row h' o (ak (if bc l = 0 then gA l else [])) := by
 have hf : K.P.funcs[34]? = some Tryz.f34 := by rw [H.hP]; exact Tryz.func34
 have hcl := hxs.length
 have hll := hl.len
 obtain ⟨rv, h1, c26, S1, bH, rfl⟩ := gV H ok hl hx hxs
 by_cases he : bc l = 0
 case neg =>
  rw [if_neg he]
  exact ⟨_, h1, H.go hf (Runs.seq (yy H.hk) (ay (CA H.hk H.prim PC rfl c26 (gz he) rfl) (by simp))) (.inr rfl) S1.n rfl rfl rfl, S1, bH, .nils, rfl, .nils⟩
 rw [if_pos he]
 have hC := fQ he
 have hx1 := hx.mono S1 ok (Nat.le_refl _)
 have hxs1 := hxs.mono S1 ok (Nat.le_refl _)
 have hlen := eQ H hx1
 rw [hcl] at hlen
 by_cases hne : l = []
 · have h0 : l.length = 0 := by rw [hne]; rfl
   refine ⟨_, h1, H.go hf (Runs.seq (yy H.hk) (ay (CB H.hk H.prim PC rfl c26 (eV he) hlen (jj (by rw [h0]; rfl)) rfl) (by simp))) (.inr rfl) S1.n rfl rfl rfl, S1, bH, .nils, rfl, ?_⟩
   rw [hne]; exact .nils
 have hpos : 0 < l.length := List.length_pos_iff.2 hne
 obtain ⟨sa, ra, a0, as'⟩ : ∃ s1, gj K [1, 0] (T.set (T.set (entry 0 [x]) 2 .nils) 3 (.nu .i64 0)) h .normal s1 h1 ∧ s1.at 0 = x ∧ s1.at ag = .undef :=
  ⟨_, CC H.hk H.prim PC rfl c26 (eV he) hlen (fv (by simp only [Int.ofNat_eq_natCast]; omega)) rfl, rfl, rfl⟩
 obtain ⟨m, hm⟩ : ∃ m, l.length = m + 1 := ⟨l.length - 1, by omega⟩
 obtain ⟨p, hp1, hp2⟩ := ip H hx1 (i := m) (by omega)
 have hrm := hxs1.get (i := m) (by omega) (by omega)
 have hlm := fg H hrm
 rw [ar] at hlm
 have hlast : l.getLastD [] = l[m]'(by omega) := by
  rw [List.getLastD_eq_getLast?, List.getLast?_eq_getElem?, List.getElem?_eq_getElem (by omega)]
  simp [hm]
 have hn5 := (hC.simp _ (List.getElem_mem (show m < l.length by omega))).le
 generalize hn : (l[m]'(by omega)).length = n at *
 have hmk : mK (.nu .i64 (.ofNat n)) (.nu .i64 (.ofNat n)) (ae K.P 45) = some (fun k => .sl k 0 n n, .cells (ak (List.replicate n 0)) 0 3) := by
  rw [H.hP, t45]
  have hb : (Nat.beq [CV.nu .i64 0].length 1 && Nat.ble n n && Nat.ble (n * 8) 140737488355328 && Nat.ble n 9223372036854775807) = true := by
   rw [Nat.ble_eq_true_of_le (Nat.le_refl _), Nat.ble_eq_true_of_le (show n * 8 ≤ _ by omega), Nat.ble_eq_true_of_le (show n ≤ 9223372036854775807 by omega)]; rfl
  simp only [mK, hb, zi]
 obtain ⟨sb, rb, b0, b5, bs⟩ : ∃ s1, gj K [1, 1, 0] sa h1 .normal s1 (h1.push (.cells (ak (List.replicate n 0)) 0 3)) ∧ s1.at 0 = x ∧ s1.at 5 = .sl h1.n 0 n n ∧ s1.at ag = .undef :=
  ⟨_, Oe H.hk a0 hlen (by rw [hm]; exact lh (by omega)) hp1 hp2 hlm hmk, a0, rfl, as'⟩
 have hlenr : (ak (List.replicate n 0)).length = n := by rw [ar, List.length_replicate]
 have Mk0 : Mk h1.n (h1.push (.cells (ak (List.replicate n 0)) 0 3)) 3 (.sl h1.n 0 n n) (ak (List.replicate n 0)) := ⟨⟨h1.n, by rw [hlenr], Nat.le_refl _, Nat.lt_succ_self _, by rw [aB, if_pos rfl]⟩⟩
 have Sp : Same h1.n h1 (h1.push (.cells (ak (List.replicate n 0)) 0 3)) := Same.push (Nat.le_refl _) _
 have hlen2 := eQ H (hx1.mono Sp bH (Nat.le_refl _))
 rw [hcl] at hlen2
 obtain ⟨sc, rc, c5, c26', c27, c28, cs'⟩ : ∃ s1, gj K [1, 1, 1, 0, 0] sb (h1.push (.cells (ak (List.replicate n 0)) 0 3)) .normal s1 (h1.push (.cells (ak (List.replicate n 0)) 0 3)) ∧ s1.at 5 = .sl h1.n 0 n n ∧ s1.at 26 = x ∧ s1.at 27 = .nu .i64 (.ofNat l.length) ∧ s1.at 28 = .nu .i64 (.ofNat 0) ∧ s1.at ag = .undef := ⟨_, Of H.hk b0 hlen2, b5, rfl, rfl, rfl, bs⟩
 obtain ⟨s', h', r, ok', S, hs, hM⟩ := bA (K := K) (f := 34) (n := 42) (c := aL [1, 1, 1, 0, 1, 0, 0] (ax Tryz.f34)) (s := sc) (h := h1.push (.cells (ak (List.replicate n 0)) 0 3)) (m := l.length) (b := 0)
  (I := fun i s g => HpOk g ∧ Same h1.n h1 g ∧ s.at 5 = .sl h1.n 0 n n ∧ s.at 26 = x ∧ s.at 27 = .nu .i64 (.ofNat l.length) ∧ s.at 28 = .nu .i64 (.ofNat i) ∧ s.at ag = .undef ∧ Mk h1.n g 3 (.sl h1.n 0 n n) (ak ((l.take i).foldl dV (List.replicate n 0))))
  (E := fun s g => HpOk g ∧ Same h1.n h1 g ∧ (s.at ag = .undef ∧ s.at 5 = .sl h1.n 0 n n) ∧ Mk h1.n g 3 (.sl h1.n 0 n n) (ak (l.foldl dV (List.replicate n 0)))) ⟨bH.push _, Sp, c5, c26', c27, c28, cs', Mk0⟩
  (fun i s g hi ⟨okg, S, g5, g26, g27, g28, gs, hM⟩ => by
    have hr := hx1.mono S bH (Nat.le_refl _)
    obtain ⟨q, hq1, hq2⟩ := ip H hr (i := i) (by omega)
    have hri := (hxs1.get (i := i) (by omega) hi).mono S bH (Nat.le_refl _)
    have hli := fg H hri
    rw [ar] at hli
    have oki := hC.simp _ (List.getElem_mem hi)
    have hle : l[i].length ≤ n := by
     have := zh hC.srt (List.getElem_mem hi)
     rw [hlast, hn] at this; exact this
    obtain ⟨d, hd⟩ : ∃ d, l[i].length = d + 1 := ⟨l[i].length - 1, by have := List.length_pos_iff.2 oki.ne; omega⟩
    generalize ho : (l.take i).foldl dV (List.replicate n 0) = o at hM
    have hol : o.length = n := by rw [← ho, kH, List.length_replicate]
    have hdo : d < o.length := by omega
    obtain ⟨p, p1, p2, p3⟩ := hM.cell (i := d) (by rw [ar]; exact hdo)
    have hbd := lT (l.take i) (List.replicate n 0) 0 (fun c hc => by rw [List.eq_of_mem_replicate hc]; omega) (Int.le_refl _) o[d] (by rw [ho]; exact List.getElem_mem hdo)
    have htl : (l.take i).length ≤ 549755813888 := by rw [List.length_take]; omega
    obtain ⟨g1, w1, w2, w3, w4⟩ := p3 (.nu .i64 (o[d] + 1)) rfl
    have hb : ak (dV o l[i]) = (ak o).set d (.nu .i64 (o[d] + 1)) := by
     unfold dV
     rw [hd, Nat.add_sub_cancel, List.getD_eq_getElem?_getD, List.getElem?_eq_getElem hdo]
     simp [ak, List.map_set]
    have ht : (l.take (i + 1)).foldl dV (List.replicate n 0) = dV o l[i] := by
     rw [bK hi, List.foldl_append, ho]; rfl
    have p2' : ah g p (ao K.P 3) = some (.nu .i64 o[d]) := by rw [H.hP, z3, p2]; simp [ak]
    refine ⟨_, _, uJ H.hk H.prim PC g28 g27 g26 g5 (aJ hi) hq1 hq2 hli (by rw [hd]; exact lh (by omega)) (by rw [H.hP, t45]; exact p1 _ _ _) p2' (oM (by omega) (by omega)) (by rw [H.hP, z3]; exact w1) (bh (by omega)), w4 okg, S.trans w3, g5, g26, g27, rfl, gs, ?_⟩
    rw [ht, hb]; exact w2)
  (fun s g ⟨okg, S, g5, g26, g27, g28, gs, hM⟩ => by
    exact ⟨_, _, uK H.hk H.prim PC g28 g27 (aQ (Nat.le_refl _)), okg, S, ⟨gs, g5⟩, by rw [List.take_length] at hM; exact hM⟩)
 have Sall := S1.trans (S.le S1.n)
 refine ⟨_, h', H.go hf (Runs.seq (yy H.hk) (Runs.seq ra (Runs.seq rb (Runs.seq (Runs.seq rc r) (FA H.hk H.prim PC hs.2))))) (.inr rfl) Sall.n hs.1 rfl rfl, Sall, ok', .sl h1.n 0 n n, by rw [he]; rfl, ?_⟩
 have := hM.row
 rw [show gA l = l.foldl dV (List.replicate n 0) by rw [gA, hlast, hn]]
 exact this
def nw (l : List (List Int)) : Int := dh 0 (gA l)
theorem C2 {l : List (List Int)} : ∀ c ∈ gA l, 0 ≤ c ∧ c ≤ l.length := by
 intro c hc
 have := lT l _ 0 (fun c hc => by rw [List.eq_of_mem_replicate hc]; omega) (Int.le_refl _) c hc
 omega
theorem zj (d : Nat) : gb d = 1 ∨ gb d = -1 := by
 unfold gb
 rcases Nat.mod_two_eq_zero_or_one d with e | e <;> rw [e]
 · exact .inl rfl
 · exact .inr rfl
def pj (o : List Int) (i : Nat) : Int := dh 0 (o.take i)
theorem vV : ∀ (o : List Int) (d : Nat) (c : Int), dh d (o ++ [c]) = dh d o + c * gb (d + o.length)
 | [], d, c => by simp [dh, gb]
 | a :: o, d, c => by
  have := vV o (d + 1) c
  show a * _ + dh (d + 1) (o ++ [c]) = a * _ + dh (d + 1) o + c * gb (d + (o.length + 1))
  rw [this, show d + 1 + o.length = d + (o.length + 1) by omega]
  omega
theorem td : ∀ (o : List Int) (d : Nat) (B : Int), (∀ c ∈ o, 0 ≤ c ∧ c ≤ B) → -(B * o.length) ≤ dh d o ∧ dh d o ≤ B * o.length
 | [], d, B, _ => by simp [dh]
 | a :: o, d, B, h => by
  have h1 := td o (d + 1) B (fun c hc => h c (List.mem_cons_of_mem _ hc))
  have h2 := h a List.mem_cons_self
  show _ ≤ a * gb d + dh (d + 1) o ∧ a * gb d + dh (d + 1) o ≤ _
  rw [List.length_cons, Int.natCast_add, Int.mul_add]
  rcases zj d with e | e <;> rw [e] <;> simp <;> omega
theorem Gg (H : Std K) (PC : bT K) (ok : HpOk h) {l : List (List Int)} (hl : fP l) {x : CV} {cs : List CV} (hx : Row h x cs) (hxs : Rows h cs l) : ga K 35 [x] h fun r _ => r = .tup [.nu .i64 (if bc l = 0 then nw l else 0), .nu .i64 (bc l)] := by
 have hf : K.P.funcs[35]? = some Tryz.f35 := by rw [H.hP]; exact Tryz.func35
 obtain ⟨rv, h1, c34, S1, bH, o, rfl, hO⟩ := tc H PC ok hl hx hxs
 generalize hcn : (if bc l = 0 then gA l else []) = cn at hO
 have hbd : ∀ c ∈ cn, 0 ≤ c ∧ c ≤ 1024 := by
  intro c hc
  rw [← hcn] at hc
  by_cases he : bc l = 0
  · rw [if_pos he] at hc
    have := C2 c hc
    have := (fQ he).le
    omega
  · rw [if_neg he] at hc; simp at hc
 have hcl : cn.length ≤ 5 := by
  rw [← hcn]
  by_cases he : bc l = 0
  · rw [if_pos he, gA, kH, List.length_replicate]
    cases hq : l with
    | nil => simp
    | cons a r =>
     have := Ip (l := l) (by rw [hq]; simp)
     rw [← hq]
     exact ((fQ he).simp _ this).le
  · rw [if_neg he]; simp
 have hev : (if bc l = 0 then nw l else 0) = dh 0 cn := by
  rw [← hcn]
  by_cases he : bc l = 0
  · rw [if_pos he, if_pos he]; rfl
  · rw [if_neg he, if_neg he]; rfl
 have hlen := cL H hO
 rw [ar] at hlen
 obtain ⟨sa, ra, a2, a3, a4, as'⟩ : ∃ s1, mu K [1, 0] (T.set (T.set (entry 0 [x]) 2 (.nu .i64 0)) 3 (.nu .i64 0)) h .normal s1 h1 ∧ s1.at 2 = .nu .i64 0 ∧ s1.at 3 = .nu .i64 (bc l) ∧ s1.at 4 = o ∧ s1.at ag = .undef := ⟨_, Ol H.hk rfl (H.prim _ _) c34 rfl rfl, rfl, rfl, rfl, rfl⟩
 obtain ⟨sb, rb, b2, b3, b12, b13, b14, bs⟩ : ∃ s1, mu K [1, 1, 0, 0] sa h1 .normal s1 h1 ∧ s1.at 2 = .nu .i64 0 ∧ s1.at 3 = .nu .i64 (bc l) ∧ s1.at 12 = o ∧ s1.at 13 = .nu .i64 (.ofNat cn.length) ∧ s1.at 14 = .nu .i64 (.ofNat 0) ∧ s1.at ag = .undef := ⟨_, Om H.hk a4 hlen, a2, a3, rfl, rfl, rfl, as'⟩
 obtain ⟨s', h', r, rfl, hs, h2, h3⟩ := bA (K := K) (f := 35) (n := 30) (c := aL [1, 1, 0, 1, 0, 0] (ax Tryz.f35)) (s := sb) (h := h1) (m := cn.length) (b := 0)
  (I := fun i s g => g = h1 ∧ s.at 2 = .nu .i64 (pj cn i) ∧ s.at 3 = .nu .i64 (bc l) ∧ s.at 12 = o ∧ s.at 13 = .nu .i64 (.ofNat cn.length) ∧ s.at 14 = .nu .i64 (.ofNat i) ∧ s.at ag = .undef)
  (E := fun s g => g = h1 ∧ s.at ag = .undef ∧ s.at 2 = .nu .i64 (dh 0 cn) ∧ s.at 3 = .nu .i64 (bc l)) ⟨rfl, b2, b3, b12, b13, b14, bs⟩
  (fun i s g hi ⟨e, g2, g3, g12, g13, g14, gs⟩ => by
    subst e
    obtain ⟨q, hq1, hq2⟩ := fM H hO hi
    have hc := hbd cn[i] (List.getElem_mem hi)
    have hF := td (cn.take i) 0 1024 (fun c hc => hbd c (List.mem_of_mem_take hc))
    have htl : (cn.take i).length ≤ 5 := by rw [List.length_take]; omega
    have hF' : -(1024 * 5) ≤ pj cn i ∧ pj cn i ≤ 1024 * 5 := by unfold pj; omega
    have hsn : pj cn (i + 1) = pj cn i + cn[i] * gb i := by
     unfold pj
     rw [List.take_add_one, List.getElem?_eq_getElem hi]
     show dh 0 (cn.take i ++ [cn[i]]) = _
     rw [vV, List.length_take, Nat.min_eq_left (by omega), Nat.zero_add]
    have hv := zj i
    have o23 : ab K.P .mul 3 (.nu .i64 (.ofNat (i % 2))) (.nu .i64 2) = some (.nu .i64 (.ofNat (i % 2) * 2)) := by
     show some (gY .i64 (.ofNat (i % 2) * 2)) = _
     rw [eA]; exact congrArg _ (congrArg _ (pI (by simp only [Int.ofNat_eq_natCast]; omega) (by simp only [Int.ofNat_eq_natCast]; omega)))
    have o24 : ab K.P .sub 3 (.nu .i64 1) (.nu .i64 (.ofNat (i % 2) * 2)) = some (.nu .i64 (gb i)) := by
     show some (gY .i64 (1 - .ofNat (i % 2) * 2)) = _
     rw [eA]; exact congrArg _ (congrArg _ (pI (by simp only [Int.ofNat_eq_natCast]; omega) (by simp only [Int.ofNat_eq_natCast]; omega)))
    have hm : -1024 ≤ cn[i] * gb i ∧ cn[i] * gb i ≤ 1024 := by rcases hv with e | e <;> rw [e] <;> simp <;> omega
    have o25 : ab K.P .mul 3 (.nu .i64 cn[i]) (.nu .i64 (gb i)) = some (.nu .i64 (cn[i] * gb i)) := by
     show some (gY .i64 (cn[i] * gb i)) = _
     rw [eA]; exact congrArg _ (congrArg _ (pI (by omega) (by omega)))
    exact ⟨_, _, wE H.hk H.prim PC g14 g13 g12 g2 (aJ hi) hq1 hq2 HX o23 o24 o25 (oM (by omega) (by omega)) (bh (by omega)), rfl, by rw [hsn]; rfl, g3, g12, g13, rfl, gs⟩)
  (fun s g ⟨e, g2, g3, g12, g13, g14, gs⟩ => by
    subst e
    exact ⟨_, _, wF H.hk H.prim PC g14 g13 (aQ (Nat.le_refl _)), rfl, gs, by rw [pj, List.take_length] at g2; exact g2, g3⟩)
 refine ⟨_, h', H.go hf (Runs.seq (Oj H.hk) (Runs.seq ra (Runs.seq (Runs.seq rb r) (HP H.hk H.prim PC h2 h3)))) (.inr rfl) S1.n hs rfl rfl, S1, bH, ?_⟩
 rw [hev]; rfl
theorem Iq {l : List (List Int)} (hC : OkC l) : nw l = dH l := by
 unfold nw gA
 rw [tb, vU, Int.zero_add]
 intro a ha
 rw [List.length_replicate]
 exact ⟨(hC.simp a ha).ne, zh hC.srt ha⟩
end
end Go.CP
