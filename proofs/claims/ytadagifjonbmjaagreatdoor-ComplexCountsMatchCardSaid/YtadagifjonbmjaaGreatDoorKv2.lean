import Derived.Test.YtadagifjonbmjaaGreatDoorKs0
import Derived.Test.YtadagifjonbmjaaGreatDoorKv0
import Derived.Test.YtadagifjonbmjaaGreatDoorKv1
import Derived.Test.YtadagifjonbmjaaGreatDoorKw1
set_option linter.all false
namespace Go.CP
open Go.Proofs
variable [LG] [HK]
section
variable {K : Ctx} {h : Hp}
theorem zl : ∀ a : List Int, gW (ak a) = some a
 | [] => rfl
 | v :: a => by
  show (match I5 (.nu .i64 v) with
   | some n => match gW (ak a) with
    | some a => some (n :: a)
    | none => none
   | none => none) = _
  rw [zl a]; rfl
theorem iH {α : Type} [DecidableEq α] : ∀ {l m : List α}, l.Nodup → m.Nodup → (∀ a, a ∈ l ↔ a ∈ m) → l.Perm m
 | [], m, _, _, h => by
  have : m = [] := List.eq_nil_iff_forall_not_mem.2 fun a ha => by simpa using (h a).2 ha
  rw [this]
 | a :: l, m, hl, hm, h => by
  obtain ⟨h1, h2⟩ := List.nodup_cons.1 hl
  have ha : a ∈ m := (h a).1 List.mem_cons_self
  refine List.Perm.trans (List.Perm.cons a (iH h2 (hm.erase a) fun x => ?_)) (List.perm_cons_erase ha).symm
  rw [hm.mem_erase_iff, ← h x, List.mem_cons]
  constructor
  · intro hx; exact ⟨fun e => h1 (e ▸ hx), .inr hx⟩
  · rintro ⟨e, hx | hx⟩
    · exact absurd hx e
    · exact hx
end
theorem Gk (a : List Int) : -1 ≤ ly a ∧ ly a ≤ 1 := by
 unfold ly
 split <;> omega
theorem vZ : ∀ l : List (List Int), -(l.length : Int) ≤ dH l ∧ dH l ≤ l.length
 | [] => by simp [dH]
 | a :: l => by
  have h1 := vZ l
  have h2 := Gk a
  simp only [dH, List.map_cons, List.sum_cons, List.length_cons] at h1 ⊢
  omega
end Go.CP
