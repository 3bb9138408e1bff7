import Derived.Test.YtadagifjonbmjaaGreatDoorKs0
import Derived.Test.YtadagifjonbmjaaGreatDoorKv0
import Derived.Test.YtadagifjonbmjaaGreatDoorKv1
import Derived.Test.YtadagifjonbmjaaGreatDoorKw1
set_option linter.all false
/- Complex: slices.Concat of lists of simplices; what a map of simplices holds; (set).list; complex.Union. -/
namespace Go.CP
open Go.Proofs
variable [LG] [HK]
/-- Slices whose cells are these. -/
def RowsC (h : Hp) (cs : List CV) (ds : List (List CV)) : Prop := cs.length = ds.length ∧ ∀ i (h1 : i < cs.length) (h2 : i < ds.length), Row h cs[i] ds[i] ∧ ds[i].all CV.one = true
theorem RowsC.mono {N : Nat} {h h' : Hp} (S : Same N h h') (ok : HpOk h) (hN : h.n ≤ N) {cs : List CV} {ds : List (List CV)} (r : RowsC h cs ds) : RowsC h' cs ds := ⟨r.1, fun i h1 h2 => ⟨(r.2 i h1 h2).1.mono S ok hN, (r.2 i h1 h2).2⟩⟩
section
variable {K : Ctx} {h : Hp}
/-- A list that was made large enough, or nothing. -/
def FillN (N : Nat) (h : Hp) (m : Nat) (x : CV) (cs : List CV) : Prop := (0 < m ∧ Fill N h 46 m x cs) ∨ (m = 0 ∧ x = .nils ∧ cs = [])
theorem FillN.row {N m : Nat} {h : Hp} {x : CV} {cs : List CV} (F : FillN N h m x cs) (hm : cs.length = m) : Out N h 46 x cs := by
  rcases F with ⟨h0, F⟩ | ⟨_, rfl, rfl⟩
  · exact F.out hm (fun e => by rw [e] at hm; simp at hm; omega)
  · exact .nils
def sumC (ds : List (List CV)) : Nat := ds.flatten.length
end
end Go.CP
/- Complex: what a map of simplices holds; (set).list as the reckoner is told of it; complex.Union. -/
namespace Go.CP
open Go.Proofs
variable [LG] [HK]
/-- The entries of a map, one for each of these simplices. -/
structure MapR (h : Hp) (es : List (CV × CV)) (ls : List (List Int)) : Prop where
  key : es.map (·.1) = ls.map fun a => CV.agg (padI a)
  rows : Rows h (es.map (·.2)) ls
  nd : ls.Nodup
  ok : ∀ a ∈ ls, OkS a
theorem MapR.mono {N : Nat} {h h' : Hp} (S : Same N h h') (ok : HpOk h) (hN : h.n ≤ N) {es : List (CV × CV)} {ls : List (List Int)} (M : MapR h es ls) : MapR h' es ls := ⟨M.key, M.rows.mono S ok hN, M.nd, M.ok⟩
theorem MapR.put {h : Hp} {v : CV} {a : List Int} (ha : OkS a) (hv : Row h v (Ints a)) : ∀ {es : List (CV × CV)} {ls : List (List Int)}, MapR h es ls → ∃ es' ls', updM (.agg (padI a)) v es = some es' ∧ MapR h es' ls' ∧ ∀ x, x ∈ ls' ↔ x ∈ ls ∨ x = a
  | [], [], _ => ⟨_, [a], rfl, ⟨rfl, .cons hv .nil, (by simp), by simpa using ha⟩, by simp⟩
  | [], b :: ls, M => by have := M.key; simp at this
  | (k, u) :: es, [], M => by have := M.key; simp at this
  | (k, u) :: es, b :: ls, M => by
    have hk := M.key
    simp only [List.map_cons, List.cons.injEq] at hk
    obtain ⟨rfl, hk⟩ := hk
    have hr := M.rows
    have hnd := List.nodup_cons.1 M.nd
    have hb := M.ok b List.mem_cons_self
    cases hr with
    | cons hx hs =>
      by_cases e : a = b
      · subst e
        have : kcmp (.agg (padI a)) (.agg (padI a)) = some true := kcmp_self (numK_pad ha.le)
        refine ⟨(CV.agg (padI a), v) :: es, a :: ls, by simp only [updM, this], ⟨by simp [hk], .cons hv hs, M.nd, M.ok⟩, fun x => ?_⟩
        constructor
        · exact .inl
        · rintro (h | rfl)
          · exact h
          · exact List.mem_cons_self
      · obtain ⟨t, ht⟩ := kcmp_tot (numK_pad ha.le) (numK_pad hb.le)
        cases t with
        | true => exact absurd (pad_inj ha hb ht) e
        | false =>
          obtain ⟨es', ls', e1, M', hm⟩ := MapR.put ha hv (es := es) (ls := ls) ⟨hk, hs, hnd.2, fun x hx => M.ok x (List.mem_cons_of_mem _ hx)⟩
          refine ⟨(CV.agg (padI b), u) :: es', b :: ls', by simp only [updM, ht, e1], ⟨by simp [M'.key], .cons hx M'.rows, List.nodup_cons.2 ⟨fun hbm => ?_, M'.nd⟩, fun x hx => ?_⟩, fun x => ?_⟩
          · rcases (hm b).1 hbm with h | h
            · exact hnd.1 h
            · exact e h.symm
          · rcases List.mem_cons.1 hx with rfl | hx
            · exact hb
            · exact M'.ok x hx
          · rw [List.mem_cons, List.mem_cons, hm]
            constructor
            · rintro (h | h | h)
              · exact .inl (.inl h)
              · exact .inl (.inr h)
              · exact .inr h
            · rintro ((h | h) | h)
              · exact .inl h
              · exact .inr (.inl h)
              · exact .inr (.inr h)
section
variable {K : Ctx} {h : Hp}
theorem readL_of : ∀ a : List Int, readL (Ints a) = some a
  | [] => rfl
  | v :: a => by
    show (match toI (.nu .i64 v) with
      | some n => match readL (Ints a) with
        | some a => some (n :: a)
        | none => none
      | none => none) = _
    rw [readL_of a]; rfl
theorem readRow_of {v : CV} {a : List Int} (r : Row h v (Ints a)) (hne : a ≠ []) (hl : a.length < 1000000) : readRow h v = some a := by
  generalize hcs : Ints a = cs at r
  cases r with
  | nils => exact absurd (by simpa [Ints] using hcs) hne
  | sle => exact absurd (by simpa [Ints] using hcs) hne
  | none k o c => exact absurd (by simpa [Ints] using hcs) hne
  | @some k o c cs hn hs hc hf =>
    have hcl : cs.length = a.length := by rw [← hcs, ints_length]
    have hpos : 0 < a.length := List.length_pos_iff.2 hne
    have hb : (Nat.blt 0 cs.length && Nat.ble cs.length c && fits 1 (h.get k) && Nat.blt cs.length 1000000) = true := by
      rw [hf, Nat.ble_eq_true_of_le hc, show Nat.blt 0 cs.length = true by simp; omega, show Nat.blt cs.length 1000000 = true by simp; omega]; rfl
    simp only [readRow, hb, hs]
    rw [← hcs]; exact readL_of a
theorem readRows_of : ∀ {es : List (CV × CV)} {ls : List (List Int)}, Rows h (es.map (·.2)) ls → (∀ a ∈ ls, OkS a) → readRows h es = some ls
  | [], [], _, _ => rfl
  | [], _ :: _, r, _ => by cases r
  | _ :: _, [], r, _ => by cases r
  | e :: es, a :: ls, r, ho => by
    cases r with
    | cons hx hs =>
      have hoa := ho a List.mem_cons_self
      simp only [readRows, readRow_of hx hoa.ne (by have := hoa.le; omega), readRows_of hs fun x hx => ho x (List.mem_cons_of_mem _ hx)]
theorem nodupB_of : ∀ {ls : List (List Int)}, ls.Nodup → nodupB ls = true
  | [], _ => rfl
  | a :: l, h => by
    obtain ⟨h1, h2⟩ := List.nodup_cons.1 h
    have : l.any (eqI a) = false := by
      rw [List.any_eq_false]
      intro b hb e
      exact h1 ((eqI_iff a b).1 e ▸ hb)
    simp only [nodupB, this, nodupB_of h2]; rfl
/-- What (set).list lays. -/
theorem lay_own (ok : HpOk h) {l : List (List Int)} : Same h.n h (layRows l h).2 ∧ HpOk (layRows l h).2 ∧ ∃ cs, Own h.n (layRows l h).2 46 (layRows l h).1 cs l := by
  cases hq : l with
  | nil => exact ⟨Same.refl _ _, ok, [], Own.nil⟩
  | cons a0 l0 =>
    rw [← hq]
    have hlr : layRows l h = (.sl (layEach l h).2.n 0 l.length l.length, (layEach l h).2.push (.cells (layEach l h).1 1 46)) := by rw [hq]; rfl
    have hn := layEach_n l h
    have hok := layEach_ok l h ok
    obtain ⟨hfl, hfg⟩ := layEach_fst l h
    have hne : (layEach l h).1 ≠ [] := fun e => by rw [e, hq] at hfl; simp at hfl
    have hS : Same h.n h (layEach l h).2 := ⟨by omega, fun k hk => layEach_old l h k hk⟩
    rw [hlr]
    refine ⟨hS.trans (Same.push (by omega) _), hok.push _, (layEach l h).1, ?_, ?_⟩
    · have := Out.some (N := h.n) (h := (layEach l h).2.push (.cells (layEach l h).1 1 46)) (el := 46) (k := (layEach l h).2.n) (cs := (layEach l h).1) (by omega) (Nat.lt_succ_self _) hne (by rw [Hp.get_push, if_pos rfl])
      rw [hfl] at this
      exact this
    · have key : ∀ (cs : List CV) (m : List (List Int)), cs.length = m.length → (∀ i (h1 : i < cs.length) (h2 : i < m.length), Row (wipe ((layEach l h).2.push (.cells (layEach l h).1 1 46)) (.sl (layEach l h).2.n 0 l.length l.length)) cs[i] (Ints m[i])) → Rows (wipe ((layEach l h).2.push (.cells (layEach l h).1 1 46)) (.sl (layEach l h).2.n 0 l.length l.length)) cs m := by
        intro cs
        induction cs with
        | nil => intro m hl _; cases m with
          | nil => exact .nil
          | cons => simp at hl
        | cons c cs ih => intro m hl hr; cases m with
          | nil => simp at hl
          | cons b m => exact .cons (hr 0 (by simp) (by simp)) (ih m (by simpa using hl) fun i h1 h2 => hr (i + 1) (by simpa using h1) (by simpa using h2))
      refine key _ _ hfl fun i h1 h2 => ?_
      rw [hfg i h1 h2]
      have hg : (wipe ((layEach l h).2.push (.cells (layEach l h).1 1 46)) (.sl (layEach l h).2.n 0 l.length l.length)).get (h.n + i) = .cells (Ints l[i]) 1 3 := by
        show (Hp.set _ (layEach l h).2.n .dead).get (h.n + i) = _
        rw [Hp.get_set, if_neg (by omega), Hp.get_push, if_neg (by omega)]
        exact layEach_get l h i h2
      by_cases hz : l[i] = []
      · rw [hz]; exact .none _ _ _
      · have := Row.some (h := wipe ((layEach l h).2.push (.cells (layEach l h).1 1 46)) (.sl (layEach l h).2.n 0 l.length l.length)) (k := h.n + i) (o := 0) (c := (Ints l[i]).length) (cs := Ints l[i]) (ints_ne hz) (by rw [hg]; simp only [hbSub, Nat.zero_add, Nat.ble_eq_true_of_le (Nat.le_refl _), sub, List.drop_zero, List.take_length]) (Nat.le_refl _) (by rw [hg]; rfl)
        rwa [ints_length] at this
/-- The reckoner is told of (set).list. -/
def Told72 (K : Ctx) : Prop := ∀ args h, K.spec 72 args h = spec72A h args
theorem list_ret (H : Std K) (T : Told72 K) (ok : HpOk h) {km : Nat} {es : List (CV × CV)} {ls : List (List Int)} (hg : h.get km = .mp es) (M : MapR h es ls) (hfew : ls.length ≤ 1024) : Ret K 72 [.mp km] h fun r h' => ∃ cs, Own h.n h' 46 r cs (ascL ls) := by
  have hl : es.length = ls.length := by have := congrArg List.length M.key; simpa using this
  have hs : K.spec 72 [.mp km] h = some (layRows (ascL ls) h) := by
    rw [T]
    have h1 : Nat.ble es.length 1024 = true := Nat.ble_eq_true_of_le (by omega)
    simp only [spec72A, hg, spec72M, h1, readRows_of M.rows M.ok, nodupB_of M.nd]
  obtain ⟨S, ok', cs, O⟩ := lay_own ok (l := ascL ls)
  exact ⟨_, _, Comes.told (H.memo 72 (by decide)) hs, S, ok', cs, O⟩
theorem perm_of_mem {α : Type} [DecidableEq α] : ∀ {l m : List α}, l.Nodup → m.Nodup → (∀ a, a ∈ l ↔ a ∈ m) → l.Perm m
  | [], m, _, _, h => by
    have : m = [] := List.eq_nil_iff_forall_not_mem.2 fun a ha => by simpa using (h a).2 ha
    rw [this]
  | a :: l, m, hl, hm, h => by
    obtain ⟨h1, h2⟩ := List.nodup_cons.1 hl
    have ha : a ∈ m := (h a).1 List.mem_cons_self
    refine List.Perm.trans (List.Perm.cons a (perm_of_mem h2 (hm.erase a) fun x => ?_)) (List.perm_cons_erase ha).symm
    rw [hm.mem_erase_iff, ← h x, List.mem_cons]
    constructor
    · intro hx; exact ⟨fun e => h1 (e ▸ hx), .inr hx⟩
    · rintro ⟨e, hx | hx⟩
      · exact absurd hx e
      · exact hx
theorem ascL_length {ls : List (List Int)} (h : ls.Nodup) : (ascL ls).length = ls.length := (perm_of_mem (Srt.nodup (ascL_srt ls)) h fun _ => mem_ascL).length_eq
/-- The simplices of two lists, in order. -/
def unionI (a b : List (List Int)) : List (List Int) := ascL (a ++ b)
end
end Go.CP
/- ComplexEuler: the law's function returns true, whatever it is called with. -/
namespace Go.CP
open Go.Proofs
variable [LG] [HK]
theorem valid8_len {l : List (List Int)} {most dim : Nat} {n : Int} (hdim : dim ≤ 4) (hn : 0 < n) (hn64 : n ≤ 64) : (valid8 l most dim n).length ≤ 32 * most := by
  have hf : ∀ a ∈ fewGo most (dim + 1) n l, OkS a := by
    intro a ha
    obtain ⟨b, rfl⟩ := mem_fewGo l most ha
    exact validI_ok (by omega) (by omega) hn hn64 b
  have h1 := closedGo_length' (q := 5) (fewGo most (dim + 1) n l) [] (fun a ha => (hf a ha).le)
  have h2 := fewGo_length (dim + 1) n l most
  have h3 : (2 : Nat) ^ 5 = 32 := by decide
  rw [h3] at h1
  simp only [valid8, closedI]
  simp at h1
  omega
section
variable {K : Ctx} {h : Hp}
end
end Go.CP
