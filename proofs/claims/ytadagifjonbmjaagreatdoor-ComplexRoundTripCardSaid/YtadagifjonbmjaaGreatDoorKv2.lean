import Derived.Test.YtadagifjonbmjaaGreatDoorKs0
import Derived.Test.YtadagifjonbmjaaGreatDoorKv0
import Derived.Test.YtadagifjonbmjaaGreatDoorKv1
import Derived.Test.YtadagifjonbmjaaGreatDoorKw1
set_option linter.all false
namespace Go.CP
open Go.Proofs
variable [LG] [HK]
structure MapR (h : Hp) (es : List (CV × CV)) (ls : List (List Int)) : Prop where
 key : es.map (·.1) = ls.map fun a => CV.agg (bp a)
 rows : Rows h (es.map (·.2)) ls
 nd : ls.Nodup
 ok : ∀ a ∈ ls, OkS a
theorem MapR.mono {N : Nat} {h h' : Hp} (S : Same N h h') (ok : HpOk h) (hN : h.n ≤ N) {es : List (CV × CV)} {ls : List (List Int)} (M : MapR h es ls) : MapR h' es ls := ⟨M.key, M.rows.mono S ok hN, M.nd, M.ok⟩
theorem MapR.put {h : Hp} {v : CV} {a : List Int} (ha : OkS a) (hv : Row h v (ak a)) : ∀ {es : List (CV × CV)} {ls : List (List Int)}, MapR h es ls → ∃ es' ls', fX (.agg (bp a)) v es = some es' ∧ MapR h es' ls' ∧ ∀ x, x ∈ ls' ↔ x ∈ ls ∨ x = a
 | [], [], _ => ⟨_, [a], rfl, ⟨rfl, .cons hv .nil, (by simp), by simpa using ha⟩, by simp⟩
 | [], b :: ls, M => by have := M.key; simp at this
 | (k, u) :: es, [], M => by have := M.key; simp at this
 | (k, u) :: es, b :: ls, M => by
  have hk := M.key
  simp only [List.map_cons, List.cons.injEq] at hk
  obtain ⟨rfl, hk⟩ := hk
  have hr := M.rows
  have hnd := List.nodup_cons.1 M.nd
  have hb := M.ok b List.mem_cons_self
  cases hr with
  | cons hx hs =>
   by_cases e : a = b
   · subst e
     have : dP (.agg (bp a)) (.agg (bp a)) = some true := ui (fy ha.le)
     refine ⟨(CV.agg (bp a), v) :: es, a :: ls, by simp only [fX, this], ⟨by simp [hk], .cons hv hs, M.nd, M.ok⟩, fun x => ?_⟩
     constructor
     · exact .inl
     · rintro (h | rfl)
       · exact h
       · exact List.mem_cons_self
   · obtain ⟨t, ht⟩ := gf (fy ha.le) (fy hb.le)
     cases t with
     | true => exact absurd (zN ha hb ht) e
     | false =>
      obtain ⟨es', ls', e1, M', hm⟩ := MapR.put ha hv (es := es) (ls := ls) ⟨hk, hs, hnd.2, fun x hx => M.ok x (List.mem_cons_of_mem _ hx)⟩
      refine ⟨(CV.agg (bp b), u) :: es', b :: ls', by simp only [fX, ht, e1], ⟨by simp [M'.key], .cons hx M'.rows, List.nodup_cons.2 ⟨fun hbm => ?_, M'.nd⟩, fun x hx => ?_⟩, fun x => ?_⟩
      · rcases (hm b).1 hbm with h | h
        · exact hnd.1 h
        · exact e h.symm
      · rcases List.mem_cons.1 hx with rfl | hx
        · exact hb
        · exact M'.ok x hx
      · rw [List.mem_cons, List.mem_cons, hm]
        constructor
        · rintro (h | h | h)
          · exact .inl (.inl h)
          · exact .inl (.inr h)
          · exact .inr h
        · rintro ((h | h) | h)
          · exact .inl h
          · exact .inr (.inl h)
          · exact .inr (.inr h)
section
variable {K : Ctx} {h : Hp}
theorem xy : ∀ a : List Int, mQ (ak a) = some a
 | [] => rfl
 | v :: a => by
  show (match Mj (.nu .i64 v) with
   | some n => match mQ (ak a) with
    | some a => some (n :: a)
    | none => none
   | none => none) = _
  rw [xy a]; rfl
theorem AV {v : CV} {a : List Int} (r : Row h v (ak a)) (hne : a ≠ []) (hl : a.length < 1000000) : lU h v = some a := by
 generalize hcs : ak a = cs at r
 cases r with
 | nils => exact absurd (by simpa [ak] using hcs) hne
 | sle => exact absurd (by simpa [ak] using hcs) hne
 | none k o c => exact absurd (by simpa [ak] using hcs) hne
 | @some k o c cs hn hs hc hf =>
  have hcl : cs.length = a.length := by rw [← hcs, ax]
  have hpos : 0 < a.length := List.length_pos_iff.2 hne
  have hb : (Nat.blt 0 cs.length && Nat.ble cs.length c && vM 1 (h.get k) && Nat.blt cs.length 1000000) = true := by
   rw [hf, Nat.ble_eq_true_of_le hc, show Nat.blt 0 cs.length = true by simp; omega, show Nat.blt cs.length 1000000 = true by simp; omega]; rfl
  simp only [lU, hb, hs]
  rw [← hcs]; exact xy a
theorem pK : ∀ {es : List (CV × CV)} {ls : List (List Int)}, Rows h (es.map (·.2)) ls → (∀ a ∈ ls, OkS a) → gk h es = some ls
 | [], [], _, _ => rfl
 | [], _ :: _, r, _ => by cases r
 | _ :: _, [], r, _ => by cases r
 | e :: es, a :: ls, r, ho => by
  cases r with
  | cons hx hs =>
   have hoa := ho a List.mem_cons_self
   simp only [gk, AV hx hoa.ne (by have := hoa.le; omega), pK hs fun x hx => ho x (List.mem_cons_of_mem _ hx)]
theorem uD : ∀ {ls : List (List Int)}, ls.Nodup → lV ls = true
 | [], _ => rfl
 | a :: l, h => by
  obtain ⟨h1, h2⟩ := List.nodup_cons.1 h
  have : l.any (rz a) = false := by
   rw [List.any_eq_false]
   intro b hb e
   exact h1 ((tE a b).1 e ▸ hb)
  simp only [lV, this, uD h2]; rfl
theorem Jf (ok : HpOk h) {l : List (List Int)} : Same h.n h (bm l h).2 ∧ HpOk (bm l h).2 ∧ ∃ cs, Own h.n (bm l h).2 46 (bm l h).1 cs l := by
 cases hq : l with
 | nil => exact ⟨Same.refl _ _, ok, [], Own.nil⟩
 | cons a0 l0 =>
  rw [← hq]
  have hlr : bm l h = (.sl (aH l h).2.n 0 l.length l.length, (aH l h).2.push (.cells (aH l h).1 1 46)) := by rw [hq]; rfl
  have hn := gr l h
  have hok := mP l h ok
  obtain ⟨hfl, hfg⟩ := iA l h
  have hne : (aH l h).1 ≠ [] := fun e => by rw [e, hq] at hfl; simp at hfl
  have hS : Same h.n h (aH l h).2 := ⟨by omega, fun k hk => iw l h k hk⟩
  rw [hlr]
  refine ⟨hS.trans (Same.push (by omega) _), hok.push _, (aH l h).1, ?_, ?_⟩
  · have := Out.some (N := h.n) (h := (aH l h).2.push (.cells (aH l h).1 1 46)) (el := 46) (k := (aH l h).2.n) (cs := (aH l h).1) (by omega) (Nat.lt_succ_self _) hne (by rw [ah, if_pos rfl])
    rw [hfl] at this
    exact this
  · have key : ∀ (cs : List CV) (m : List (List Int)), cs.length = m.length → (∀ i (h1 : i < cs.length) (h2 : i < m.length), Row (wipe ((aH l h).2.push (.cells (aH l h).1 1 46)) (.sl (aH l h).2.n 0 l.length l.length)) cs[i] (ak m[i])) → Rows (wipe ((aH l h).2.push (.cells (aH l h).1 1 46)) (.sl (aH l h).2.n 0 l.length l.length)) cs m := by
     intro cs
     induction cs with
     | nil => intro m hl _; cases m with
      | nil => exact .nil
      | cons => simp at hl
     | cons c cs ih => intro m hl hr; cases m with
      | nil => simp at hl
      | cons b m => exact .cons (hr 0 (by simp) (by simp)) (ih m (by simpa using hl) fun i h1 h2 => hr (i + 1) (by simpa using h1) (by simpa using h2))
    refine key _ _ hfl fun i h1 h2 => ?_
    rw [hfg i h1 h2]
    have hg : (wipe ((aH l h).2.push (.cells (aH l h).1 1 46)) (.sl (aH l h).2.n 0 l.length l.length)).get (h.n + i) = .cells (ak l[i]) 1 3 := by
     show (Hp.set _ (aH l h).2.n .dead).get (h.n + i) = _
     rw [Hp.get_set, if_neg (by omega), ah, if_neg (by omega)]
     exact iy l h i h2
    by_cases hz : l[i] = []
    · rw [hz]; exact .none _ _ _
    · have := Row.some (h := wipe ((aH l h).2.push (.cells (aH l h).1 1 46)) (.sl (aH l h).2.n 0 l.length l.length)) (k := h.n + i) (o := 0) (c := (ak l[i]).length) (cs := ak l[i]) (fd hz) (by rw [hg]; simp only [bl, Nat.zero_add, Nat.ble_eq_true_of_le (Nat.le_refl _), sub, List.drop_zero, List.take_length]) (Nat.le_refl _) (by rw [hg]; rfl)
      rwa [ax] at this
def lW (K : Ctx) : Prop := ∀ args h, K.spec 72 args h = oX h args
theorem pM {α : Type} [DecidableEq α] : ∀ {l m : List α}, l.Nodup → m.Nodup → (∀ a, a ∈ l ↔ a ∈ m) → l.Perm m
 | [], m, _, _, h => by
  have : m = [] := List.eq_nil_iff_forall_not_mem.2 fun a ha => by simpa using (h a).2 ha
  rw [this]
 | a :: l, m, hl, hm, h => by
  obtain ⟨h1, h2⟩ := List.nodup_cons.1 hl
  have ha : a ∈ m := (h a).1 List.mem_cons_self
  refine List.Perm.trans (List.Perm.cons a (pM h2 (hm.erase a) fun x => ?_)) (List.perm_cons_erase ha).symm
  rw [hm.mem_erase_iff, ← h x, List.mem_cons]
  constructor
  · intro hx; exact ⟨fun e => h1 (e ▸ hx), .inr hx⟩
  · rintro ⟨e, hx | hx⟩
    · exact absurd hx e
    · exact hx
theorem yn {ls : List (List Int)} (h : ls.Nodup) : (fM ls).length = ls.length := (pM (Dv (gj ls)) h fun _ => kg).length_eq
end
theorem AW {l : List (List Int)} {most dim : Nat} {n : Int} (hdim : dim ≤ 4) (hn : 0 < n) (hn64 : n ≤ 64) : (iM l most dim n).length ≤ 32 * most := by
 have hf : ∀ a ∈ cu most (dim + 1) n l, OkS a := by
  intro a ha
  obtain ⟨b, rfl⟩ := kQ l most ha
  exact uw (by omega) (by omega) hn hn64 b
 have h1 := gh (q := 5) (cu most (dim + 1) n l) [] (fun a ha => (hf a ha).le)
 have h2 := gN (dim + 1) n l most
 have h3 : (2 : Nat) ^ 5 = 32 := by decide
 rw [h3] at h1
 simp only [iM, fc]
 simp at h1
 omega
end Go.CP
