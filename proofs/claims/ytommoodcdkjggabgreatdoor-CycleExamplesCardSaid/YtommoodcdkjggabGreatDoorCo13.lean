/- The reckoner with memory: regions whose order is drawn. -/
import Derived.Test.YtommoodcdkjggabGreatDoorCo12
set_option linter.unusedVariables false
set_option linter.unusedSectionVars false
set_option linter.unusedSimpArgs false
namespace Go.CO
variable [LG] [HK]

/-! ### The frame without what is pending -/
def mask : List Pd → Fr → Fr
  | [], s => s
  | p :: pd, s => Fr.putO (mask pd s) p.o.dst .undef
theorem putO_at (s : Fr) (d : Option Tmp) (c : CV) (t : Nat) : Fr.at (Fr.putO s d c) t = if d = some t then c else s.at t := by
  cases d with
  | none => simp [Fr.putO]
  | some d =>
    simp only [Fr.putO, Fr.at_set, Option.some.injEq]
    by_cases h : t = d
    · rw [if_pos h, if_pos h.symm]
    · rw [if_neg h, if_neg (Ne.symm h)]
theorem mask_out : ∀ (pa : List Pd) (s : Fr) (t : Nat), (∀ p ∈ pa, p.o.dst ≠ some t) → (mask pa s).at t = s.at t
  | [], s, t, _ => rfl
  | p :: pa, s, t, h => by
    simp only [mask, putO_at, if_neg (h p List.mem_cons_self)]
    exact mask_out pa s t fun q hq => h q (List.mem_cons_of_mem _ hq)
theorem mask_in : ∀ (pa : List Pd) (s : Fr) (t : Nat), (∃ p ∈ pa, p.o.dst = some t) → (mask pa s).at t = .undef
  | [], s, t, h => by obtain ⟨p, hp, _⟩ := h; cases hp
  | p :: pa, s, t, h => by
    simp only [mask, putO_at]
    split
    · rfl
    · rename_i hn
      obtain ⟨q, hq, hd⟩ := h
      rcases List.mem_cons.1 hq with rfl | hq
      · exact absurd hd hn
      · exact mask_in pa s t ⟨q, hq, hd⟩
def lays (pa : List Pd) : List Nat := pa.filterMap fun p => p.lay.map (·.1)
theorem lays_mem {pa : List Pd} {k : Nat} : k ∈ lays pa ↔ ∃ p ∈ pa, ∃ b, p.lay = some (k, b) := by
  simp only [lays, List.mem_filterMap, Option.map_eq_some_iff]
  constructor
  · rintro ⟨p, hp, ⟨k', b⟩, h1, rfl⟩; exact ⟨p, hp, b, h1⟩
  · rintro ⟨p, hp, b, h1⟩; exact ⟨p, hp, (k, b), h1, rfl⟩

section
variable {Γ : Bs} {av : List Nat} {s s' : Fr} {h h' : Hp} {a : Act} {w : World}
theorem R.weak (Rr : R Γ av s h a w) (hs : ∀ t, s'.at t = .undef ∨ s'.at t = s.at t) {av' : List Nat} (ha : ∀ k ∈ av', k ∈ av) : R Γ av' s' h a w := by
  obtain ⟨ι, R⟩ := Rr
  exact ⟨ι, R.df, R.tn, R.le, R.dom, fun k hk => R.av k (ha k hk), R.sim, fun t ht => by
    rcases hs t with e | e
    · rw [e]; exact .undef _
    · rw [e]; exact R.tv t ht, R.ext, R.hn, R.h0⟩

/-- What is known of an operation that was looked at. -/
structure PI (P : Program) (ops : Array Oper) (s : Fr) (h : Hp) (p : Pd) : Prop where
  op : ops[p.i]? = some p.o
  dst : ∀ d, p.o.dst = some d → s.at d = p.c
  skip : p.skip = true → wantX ops p.o s = some false ∧ p.c = .skp
  go : p.skip = false → wantX ops p.o s = some true
  quiet : p.skip = false → p.lay = none → qX P p.o (ev s) h = some p.c
  lay : ∀ k b, p.skip = false → p.lay = some (k, b) → k < h.n ∧ h.get k = b ∧ ∃ f, layX P p.o (ev s) = some (f, b) ∧ p.c = f k
  nolay : p.skip = true → p.lay = none

structure Inv (P : Program) (ops : Array Oper) (L A : Array Bool) (pd pa : List Pd) (spd : List (Nat × Array Bool)) (Rf : Nat → Nat → Bool) (s : Fr) (h : Hp) : Prop where
  hs : pd.map (·.i) = spd.map (·.1)
  hR : ∀ x ∈ spd, ∀ y, Rf x.1 y = x.2.getD y false
  pi : ∀ p ∈ pd, PI P ops s h p
  cl : ∀ p ∈ pd, ∀ j oj, ops[j]? = some oj → j ≠ p.i → (∀ e ∈ oj.after, Region.binds .any e = true → Rf p.i e.on = true) → Rf p.i j = true
  pp : ∀ p ∈ pd, ∀ q ∈ pd, p.i ≠ q.i → Rf p.i q.i = true → ∀ d, p.o.dst = some d → d ∉ q.o.looksAt ops ∧ q.o.dst ≠ some d
  self : ∀ p ∈ pd, ∀ d, p.o.dst = some d → d ∉ p.o.looksAt ops
  un : ∀ p ∈ pd, ∀ q ∈ pd, p.i = q.i → p = q
  lu : ∀ p ∈ pd, ∀ q ∈ pd, ∀ k b b', p.lay = some (k, b) → q.lay = some (k, b') → p.i = q.i
  pL : ∀ p ∈ pd, L.getD p.i false = true
  sub : ∀ p ∈ pa, p ∈ pd
  aR : ∀ p ∈ pa, ∀ x, A.getD x false = true → Rf p.i x = true
  pA : ∀ p ∈ pa, A.getD p.i true = false
  AL : ∀ x, A.getD x false = true → L.getD x false = true
  LA : ∀ x, L.getD x false = true → A.getD x false = true ∨ ∃ p ∈ pa, p.i = x
  szA : A.size = ops.size
  szL : L.size = ops.size
/-- In the order in which they were looked at, each comes behind what it waits for. -/
def Ord (A : Array Bool) : List Pd → Prop
  | [] => True
  | p :: pa => (∀ e ∈ p.o.after, Region.binds .any e = true → A.getD e.on false = true ∨ ∃ q ∈ pa, q.i = e.on) ∧ Ord A pa
theorem Ord.filter {A : Array Bool} {i : Nat} (hi : i < A.size) : ∀ {pa : List Pd}, Ord A pa → Ord (A.setIfInBounds i true) (pa.filter fun p => p.i != i)
  | [], _ => trivial
  | p :: pa, ho => by
    have ih := Ord.filter hi ho.2
    rw [List.filter_cons]
    split
    · refine ⟨fun e he hb => ?_, ih⟩
      rcases ho.1 e he hb with h1 | ⟨q, hq, h1⟩
      · exact .inl (getD_set_true h1)
      · by_cases hqi : q.i = i
        · left
          rw [← h1, hqi]
          simp [hi]
        · exact .inr ⟨q, List.mem_filter.2 ⟨hq, by simpa using hqi⟩, h1⟩
    · exact ih
theorem Ord.mono {A : Array Bool} {i : Nat} : ∀ {pa : List Pd}, Ord A pa → Ord (A.setIfInBounds i true) pa
  | [], _ => trivial
  | p :: pa, ho => ⟨fun e he hb => (ho.1 e he hb).imp getD_set_true id, Ord.mono ho.2⟩
theorem Ord.ready {ops : Array Oper} {A : Array Bool} : ∀ {pa : List Pd}, pa ≠ [] → Ord A pa → (∀ p ∈ pa, A.getD p.i true = false ∧ ops[p.i]? = some p.o) → Region.ready .any ops A ≠ []
  | [], hn, _, _ => absurd rfl hn
  | [p], _, ho, hp => by
    have h1 := hp p List.mem_cons_self
    have : p.i ∈ Region.ready .any ops A := mem_ready.2 ⟨h1.1, p.o, h1.2, fun e he hb => (ho.1 e he hb).resolve_right fun ⟨q, hq, _⟩ => by cases hq⟩
    intro e; rw [e] at this; cases this
  | p :: q :: pa, _, ho, hp => Ord.ready (pa := q :: pa) (by simp) ho.2 fun x hx => hp x (List.mem_cons_of_mem _ hx)

/-- How many are still to come. -/
def left (ops : Array Oper) (A : Array Bool) : Nat := ((List.range ops.size).filter fun i => !A.getD i true).length
theorem left_lt {ops : Array Oper} {A : Array Bool} {i : Nat} (hi : i < ops.size) (hA : A.getD i true = false) (hsz : A.size = ops.size) : left ops (A.setIfInBounds i true) < left ops A := by
  unfold left
  have h1 : ((List.range ops.size).filter fun j => !(A.setIfInBounds i true).getD j true) = (((List.range ops.size).filter fun j => !A.getD j true).filter fun j => j != i) := by
    rw [List.filter_filter]
    refine List.filter_congr fun j hj => ?_
    by_cases e : i = j
    · subst e
      have : (A.setIfInBounds i true).getD i true = true := by simp [hsz, hi]
      rw [this]; simp
    · rw [getD_set_ne true e]
      simp [Ne.symm e]
  rw [h1]
  refine List.length_filter_lt_length_iff_exists.2 ⟨i, List.mem_filter.2 ⟨List.mem_range.2 hi, by rw [hA]; rfl⟩, by simp⟩

section
variable {P : Program} {ops : Array Oper} {L A : Array Bool} {pd pa : List Pd} {spd : List (Nat × Array Bool)} {Rf : Nat → Nat → Bool}
theorem getD_tf {A : Array Bool} {i : Nat} (h : A.getD i true = false) : A.getD i false = false := by
  simp only [Array.getD_eq_getD_getElem?] at *
  cases hi : A[i]? with
  | none => rw [hi] at h; cases h
  | some b => rw [hi] at h; exact h
/-- What is ready can come before what is pending. -/
theorem Inv.rf (I : Inv P ops L A pd pa spd Rf s h) {p : Pd} (hp : p ∈ pa) {j : Nat} (hj : j ∈ Region.ready .any ops A) (hne : j ≠ p.i) : Rf p.i j = true := by
  obtain ⟨_, oj, hoj, hall⟩ := mem_ready.1 hj
  exact I.cl p (I.sub p hp) j oj hoj hne fun e he hb => I.aR p hp _ (hall e he hb)
/-- A pending operation looks at slots that are as they were. -/
theorem Inv.agree (I : Inv P ops L A pd pa spd Rf s h) {q : Pd} (hq : q ∈ pa) (hr : q.i ∈ Region.ready .any ops A) : Agree ops q.o (mask pa s) s := by
  intro t ht
  refine mask_out pa s t fun p hp hd => ?_
  by_cases e : p.i = q.i
  · have := I.un p (I.sub p hp) q (I.sub q hq) e
    subst this
    exact I.self p (I.sub p hp) t hd ht
  · exact (I.pp p (I.sub p hp) q (I.sub q hq) e (I.rf hp hr (Ne.symm e)) t hd).1 ht
/-- The frame behind a pending operation. -/
theorem Inv.after (I : Inv P ops L A pd pa spd Rf s h) {q : Pd} (hq : q ∈ pa) (hr : q.i ∈ Region.ready .any ops A) (t : Nat) : Fr.at (mask (pa.filter fun p => p.i != q.i) s) t = Fr.at (Fr.putO (mask pa s) q.o.dst q.c) t := by
  rw [putO_at]
  have hmem : ∀ p, p ∈ pa.filter (fun p => p.i != q.i) → p ∈ pa ∧ p.i ≠ q.i := fun p hp => by simpa using List.mem_filter.1 hp
  split
  · rename_i hd
    rw [mask_out _ _ _ fun p hp hpd => (I.pp p (I.sub p (hmem p hp).1) q (I.sub q hq) (hmem p hp).2 (I.rf (hmem p hp).1 hr (Ne.symm (hmem p hp).2)) t hpd).2 hd]
    exact (I.pi q (I.sub q hq)).dst t hd
  · rename_i hd
    by_cases hex : ∃ p ∈ pa, p.o.dst = some t
    · rw [mask_in pa s t hex]
      obtain ⟨p, hp, hpd⟩ := hex
      refine mask_in _ s t ⟨p, List.mem_filter.2 ⟨hp, ?_⟩, hpd⟩
      have : p.i ≠ q.i := fun e => by
        have := I.un p (I.sub p hp) q (I.sub q hq) e
        subst this; exact hd hpd
      simpa using this
    · rw [mask_out pa s t fun p hp hpd => hex ⟨p, hp, hpd⟩]
      exact mask_out _ s t fun p hp hpd => hex ⟨p, (hmem p hp).1, hpd⟩
theorem Inv.step (I : Inv P ops L A pd pa spd Rf s h) {q : Pd} (hq : q ∈ pa) (hr : q.i ∈ Region.ready .any ops A) : Inv P ops L (A.setIfInBounds q.i true) pd (pa.filter fun p => p.i != q.i) spd Rf s h := by
  have hmem : ∀ p, p ∈ pa.filter (fun p => p.i != q.i) → p ∈ pa ∧ p.i ≠ q.i := fun p hp => by simpa using List.mem_filter.1 hp
  have hlt : q.i < ops.size := (Array.getElem?_eq_some_iff.1 (I.pi q (I.sub q hq)).op).1
  have hset : ∀ x, (A.setIfInBounds q.i true).getD x false = true → x = q.i ∨ A.getD x false = true := fun x hx => by
    by_cases e : q.i = x
    · exact .inl e.symm
    · rw [getD_set_ne false e] at hx; exact .inr hx
  exact { I with
    sub := fun p hp => I.sub p (hmem p hp).1
    aR := fun p hp x hx => by
      rcases hset x hx with rfl | hx
      · exact I.rf (hmem p hp).1 hr (Ne.symm (hmem p hp).2)
      · exact I.aR p (hmem p hp).1 x hx
    pA := fun p hp => by rw [getD_set_ne true (Ne.symm (hmem p hp).2)]; exact I.pA p (hmem p hp).1
    AL := fun x hx => by
      rcases hset x hx with rfl | hx
      · exact I.pL q (I.sub q hq)
      · exact I.AL x hx
    LA := fun x hx => by
      rcases I.LA x hx with h1 | ⟨p, hp, rfl⟩
      · exact .inl (getD_set_true h1)
      · by_cases e : p.i = q.i
        · left; rw [e]; simp [I.szA, hlt]
        · exact .inr ⟨p, List.mem_filter.2 ⟨hp, by simpa using e⟩, rfl⟩
    szA := by simp [I.szA] }
end
end
end Go.CO
