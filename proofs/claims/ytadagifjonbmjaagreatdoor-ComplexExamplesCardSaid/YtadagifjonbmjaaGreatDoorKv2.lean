import Derived.Test.YtadagifjonbmjaaGreatDoorKs0
import Derived.Test.YtadagifjonbmjaaGreatDoorKv0
import Derived.Test.YtadagifjonbmjaaGreatDoorKv1
import Derived.Test.YtadagifjonbmjaaGreatDoorKw1
set_option linter.all false
namespace Go.CP
open Go.Proofs
variable [LG] [HK]
structure MapR (h : Hp) (es : List (CV × CV)) (ls : List (List Int)) : Prop where
 key : es.map (·.1) = ls.map fun a => CV.agg (bB a)
 rows : Rows h (es.map (·.2)) ls
 nd : ls.Nodup
 ok : ∀ a ∈ ls, OkS a
theorem MapR.mono {N : Nat} {h h' : Hp} (S : Same N h h') (ok : HpOk h) (hN : h.n ≤ N) {es : List (CV × CV)} {ls : List (List Int)} (M : MapR h es ls) : MapR h' es ls := ⟨M.key, M.rows.mono S ok hN, M.nd, M.ok⟩
theorem MapR.put {h : Hp} {v : CV} {a : List Int} (ha : OkS a) (hv : Row h v (ah a)) : ∀ {es : List (CV × CV)} {ls : List (List Int)}, MapR h es ls → ∃ es' ls', gc (.agg (bB a)) v es = some es' ∧ MapR h es' ls' ∧ ∀ x, x ∈ ls' ↔ x ∈ ls ∨ x = a
 | [], [], _ => ⟨_, [a], rfl, ⟨rfl, .cons hv .nil, (by simp), by simpa using ha⟩, by simp⟩
 | [], b :: ls, M => by have := M.key; simp at this
 | (k, u) :: es, [], M => by have := M.key; simp at this
 | (k, u) :: es, b :: ls, M => by
  have hk := M.key
  simp only [List.map_cons, List.cons.injEq] at hk
  obtain ⟨rfl, hk⟩ := hk
  have hr := M.rows
  have hnd := List.nodup_cons.1 M.nd
  have hb := M.ok b List.mem_cons_self
  cases hr with
  | cons hx hs =>
   by_cases e : a = b
   · subst e
     have : dH (.agg (bB a)) (.agg (bB a)) = some true := tB (ft ha.le)
     refine ⟨(CV.agg (bB a), v) :: es, a :: ls, by simp only [gc, this], ⟨by simp [hk], .cons hv hs, M.nd, M.ok⟩, fun x => ?_⟩
     constructor
     · exact .inl
     · rintro (h | rfl)
       · exact h
       · exact List.mem_cons_self
   · obtain ⟨t, ht⟩ := gp (ft ha.le) (ft hb.le)
     cases t with
     | true => exact absurd (yr ha hb ht) e
     | false =>
      obtain ⟨es', ls', e1, M', hm⟩ := MapR.put ha hv (es := es) (ls := ls) ⟨hk, hs, hnd.2, fun x hx => M.ok x (List.mem_cons_of_mem _ hx)⟩
      refine ⟨(CV.agg (bB b), u) :: es', b :: ls', by simp only [gc, ht, e1], ⟨by simp [M'.key], .cons hx M'.rows, List.nodup_cons.2 ⟨fun hbm => ?_, M'.nd⟩, fun x hx => ?_⟩, fun x => ?_⟩
      · rcases (hm b).1 hbm with h | h
        · exact hnd.1 h
        · exact e h.symm
      · rcases List.mem_cons.1 hx with rfl | hx
        · exact hb
        · exact M'.ok x hx
      · rw [List.mem_cons, List.mem_cons, hm]
        constructor
        · rintro (h | h | h)
          · exact .inl (.inl h)
          · exact .inl (.inr h)
          · exact .inr h
        · rintro ((h | h) | h)
          · exact .inl h
          · exact .inr (.inl h)
          · exact .inr (.inr h)
section
variable {K : Ctx} {h : Hp}
theorem wp : ∀ a : List Int, my (ah a) = some a
 | [] => rfl
 | v :: a => by
  show (match K2 (.nu .i64 v) with
   | some n => match my (ah a) with
    | some a => some (n :: a)
    | none => none
   | none => none) = _
  rw [wp a]; rfl
theorem zz {v : CV} {a : List Int} (r : Row h v (ah a)) (hne : a ≠ []) (hl : a.length < 1000000) : lF h v = some a := by
 generalize hcs : ah a = cs at r
 cases r with
 | nils => exact absurd (by simpa [ah] using hcs) hne
 | sle => exact absurd (by simpa [ah] using hcs) hne
 | none k o c => exact absurd (by simpa [ah] using hcs) hne
 | @some k o c cs hn hs hc hf =>
  have hcl : cs.length = a.length := by rw [← hcs, aw]
  have hpos : 0 < a.length := List.length_pos_iff.2 hne
  have hb : (Nat.blt 0 cs.length && Nat.ble cs.length c && qR 1 (h.get k) && Nat.blt cs.length 1000000) = true := by
   rw [hf, Nat.ble_eq_true_of_le hc, show Nat.blt 0 cs.length = true by simp; omega, show Nat.blt cs.length 1000000 = true by simp; omega]; rfl
  simp only [lF, hb, hs]
  rw [← hcs]; exact wp a
theorem ph : ∀ {es : List (CV × CV)} {ls : List (List Int)}, Rows h (es.map (·.2)) ls → (∀ a ∈ ls, OkS a) → gr h es = some ls
 | [], [], _, _ => rfl
 | [], _ :: _, r, _ => by cases r
 | _ :: _, [], r, _ => by cases r
 | e :: es, a :: ls, r, ho => by
  cases r with
  | cons hx hs =>
   have hoa := ho a List.mem_cons_self
   simp only [gr, zz hx hoa.ne (by have := hoa.le; omega), ph hs fun x hx => ho x (List.mem_cons_of_mem _ hx)]
theorem tO : ∀ {ls : List (List Int)}, ls.Nodup → lG ls = true
 | [], _ => rfl
 | a :: l, h => by
  obtain ⟨h1, h2⟩ := List.nodup_cons.1 h
  have : l.any (fv a) = false := by
   rw [List.any_eq_false]
   intro b hb e
   exact h1 ((jA a b).1 e ▸ hb)
  simp only [lG, this, tO h2]; rfl
theorem Iq (ok : HpOk h) {l : List (List Int)} : Same h.n h (bw l h).2 ∧ HpOk (bw l h).2 ∧ ∃ cs, Own h.n (bw l h).2 46 (bw l h).1 cs l := by
 cases hq : l with
 | nil => exact ⟨Same.refl _ _, ok, [], Own.nil⟩
 | cons a0 l0 =>
  rw [← hq]
  have hlr : bw l h = (.sl (aJ l h).2.n 0 l.length l.length, (aJ l h).2.push (.cells (aJ l h).1 1 46)) := by rw [hq]; rfl
  have hn := gF l h
  have hok := mv l h ok
  obtain ⟨hfl, hfg⟩ := iw l h
  have hne : (aJ l h).1 ≠ [] := fun e => by rw [e, hq] at hfl; simp at hfl
  have hS : Same h.n h (aJ l h).2 := ⟨by omega, fun k hk => ir l h k hk⟩
  rw [hlr]
  refine ⟨hS.trans (Same.push (by omega) _), hok.push _, (aJ l h).1, ?_, ?_⟩
  · have := Out.some (N := h.n) (h := (aJ l h).2.push (.cells (aJ l h).1 1 46)) (el := 46) (k := (aJ l h).2.n) (cs := (aJ l h).1) (by omega) (Nat.lt_succ_self _) hne (by rw [ag, if_pos rfl])
    rw [hfl] at this
    exact this
  · have key : ∀ (cs : List CV) (m : List (List Int)), cs.length = m.length → (∀ i (h1 : i < cs.length) (h2 : i < m.length), Row (wipe ((aJ l h).2.push (.cells (aJ l h).1 1 46)) (.sl (aJ l h).2.n 0 l.length l.length)) cs[i] (ah m[i])) → Rows (wipe ((aJ l h).2.push (.cells (aJ l h).1 1 46)) (.sl (aJ l h).2.n 0 l.length l.length)) cs m := by
     intro cs
     induction cs with
     | nil => intro m hl _; cases m with
      | nil => exact .nil
      | cons => simp at hl
     | cons c cs ih => intro m hl hr; cases m with
      | nil => simp at hl
      | cons b m => exact .cons (hr 0 (by simp) (by simp)) (ih m (by simpa using hl) fun i h1 h2 => hr (i + 1) (by simpa using h1) (by simpa using h2))
    refine key _ _ hfl fun i h1 h2 => ?_
    rw [hfg i h1 h2]
    have hg : (wipe ((aJ l h).2.push (.cells (aJ l h).1 1 46)) (.sl (aJ l h).2.n 0 l.length l.length)).get (h.n + i) = .cells (ah l[i]) 1 3 := by
     show (Hp.set _ (aJ l h).2.n .dead).get (h.n + i) = _
     rw [Hp.get_set, if_neg (by omega), ag, if_neg (by omega)]
     exact iu l h i h2
    by_cases hz : l[i] = []
    · rw [hz]; exact .none _ _ _
    · have := Row.some (h := wipe ((aJ l h).2.push (.cells (aJ l h).1 1 46)) (.sl (aJ l h).2.n 0 l.length l.length)) (k := h.n + i) (o := 0) (c := (ah l[i]).length) (cs := ah l[i]) (ep hz) (by rw [hg]; simp only [bk, Nat.zero_add, Nat.ble_eq_true_of_le (Nat.le_refl _), sub, List.drop_zero, List.take_length]) (Nat.le_refl _) (by rw [hg]; rfl)
      rwa [aw] at this
def fx (K : Ctx) : Prop := ∀ args h, K.spec 72 args h = oJ h args
theorem pj {α : Type} [DecidableEq α] : ∀ {l m : List α}, l.Nodup → m.Nodup → (∀ a, a ∈ l ↔ a ∈ m) → l.Perm m
 | [], m, _, _, h => by
  have : m = [] := List.eq_nil_iff_forall_not_mem.2 fun a ha => by simpa using (h a).2 ha
  rw [this]
 | a :: l, m, hl, hm, h => by
  obtain ⟨h1, h2⟩ := List.nodup_cons.1 hl
  have ha : a ∈ m := (h a).1 List.mem_cons_self
  refine List.Perm.trans (List.Perm.cons a (pj h2 (hm.erase a) fun x => ?_)) (List.perm_cons_erase ha).symm
  rw [hm.mem_erase_iff, ← h x, List.mem_cons]
  constructor
  · intro hx; exact ⟨fun e => h1 (e ▸ hx), .inr hx⟩
  · rintro ⟨e, hx | hx⟩
    · exact absurd hx e
    · exact hx
theorem xo {ls : List (List Int)} (h : ls.Nodup) : (fP ls).length = ls.length := (pj (Cs (mw ls)) h fun _ => kc).length_eq
end
end Go.CP
