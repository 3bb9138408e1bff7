import Derived.Test.YtadagifjonbmjaaGreatDoorKl1
import Derived.Test.YtadagifjonbmjaaGreatDoorKw1
set_option linter.all false
namespace Go.CP
variable [LG] [HK]
theorem iM (x y : Int) (a b : List Int) : cC (x :: a) (y :: b) = if x < y then -1 else if y < x then 1 else cC a b := by
 rw [tx]
 unfold hY
 split
 · simp
 · split <;> simp
theorem tE : ∀ (a b : List Int), cC b a = - cC a b
 | [], [] => rfl
 | [], _ :: _ => rfl
 | _ :: _, [] => rfl
 | x :: a, y :: b => by
  rw [iM, iM, tE a b]
  split
  · rw [if_neg (by omega)]
  · split <;> simp
theorem tF : ∀ (a b : List Int), cC a b = -1 ∨ cC a b = 0 ∨ cC a b = 1
 | [], [] => .inr (.inl rfl)
 | [], _ :: _ => .inr (.inl rfl)
 | _ :: _, [] => .inr (.inl rfl)
 | x :: a, y :: b => by
  rw [iM]
  split
  · exact .inl rfl
  · split
    · exact .inr (.inr rfl)
    · exact tF a b
theorem tG : ∀ (a b : List Int), a.length = b.length → (cC a b = 0 ↔ a = b)
 | [], [], _ => by simp [cC]
 | [], _ :: _, h => by simp at h
 | _ :: _, [], h => by simp at h
 | x :: a, y :: b, h => by
  rw [iM]
  have := tG a b (by simpa using h)
  split
  · simp; omega
  · split
    · simp; omega
    · rw [this]; simp; omega
theorem qF : ∀ (a b c : List Int), a.length = b.length → b.length = c.length → cC a b = -1 → cC b c = -1 → cC a c = -1
 | [], _, _, _, _, h, _ => by rename_i b _ _ _ _; cases b <;> simp [cC] at h
 | _ :: _, [], _, h, _, _, _ => by simp at h
 | _ :: _, _ :: _, [], _, h, _, _ => by simp at h
 | x :: a, y :: b, z :: c, h1, h2, h3, h4 => by
  rw [iM] at h3 h4 ⊢
  have ih := qF a b c (by simpa using h1) (by simpa using h2)
  by_cases e1 : x < y
  · by_cases e2 : y < z
    · rw [if_pos (by omega)]
    · rw [if_neg e2] at h4
      by_cases e3 : z < y
      · rw [if_pos e3] at h4; simp at h4
      · rw [if_pos (by omega)]
  · rw [if_neg e1] at h3
    by_cases e4 : y < x
    · rw [if_pos e4] at h3; simp at h3
    · rw [if_neg e4] at h3
      by_cases e2 : y < z
      · rw [if_pos (by omega)]
      · rw [if_neg e2] at h4
        by_cases e3 : z < y
        · rw [if_pos e3] at h4; simp at h4
        · rw [if_neg e3] at h4
          rw [if_neg (by omega), if_neg (by omega)]
          exact ih h3 h4
theorem ew (a b : List Int) : aZ a b = 0 ↔ a = b := by
 unfold aZ
 by_cases h : a.length = b.length
 · rw [if_pos h]; exact tG a b h
 · rw [if_neg h]
   constructor
   · intro e; split at e <;> simp at e
   · intro e; rw [e] at h; exact absurd rfl h
theorem Ck (a b : List Int) : aZ b a = - aZ a b := by
 unfold aZ
 by_cases h : a.length = b.length
 · rw [if_pos h, if_pos h.symm]; exact tE a b
 · rw [if_neg h, if_neg (Ne.symm h)]
   split
   · rw [if_neg (by omega)]
   · rw [if_pos (by omega)]; rfl
theorem kI (a b : List Int) : aZ a b = -1 ∨ aZ a b = 0 ∨ aZ a b = 1 := by
 unfold aZ
 split
 · exact tF a b
 · split
   · exact .inl rfl
   · exact .inr (.inr rfl)
def LtS (a b : List Int) : Prop := aZ a b = -1
theorem LtS.trans {a b c : List Int} (h : LtS a b) (h' : LtS b c) : LtS a c := by
 unfold LtS aZ at *
 by_cases e1 : a.length = b.length
 · rw [if_pos e1] at h
   by_cases e2 : b.length = c.length
   · rw [if_pos e2] at h'
     rw [if_pos (by omega)]
     exact qF a b c e1 e2 h h'
   · rw [if_neg e2] at h'
     by_cases e3 : b.length < c.length
     · rw [if_neg (by omega), if_pos (by omega)]
     · rw [if_neg e3] at h'; simp at h'
 · rw [if_neg e1] at h
   by_cases e4 : a.length < b.length
   · by_cases e2 : b.length = c.length
     · rw [if_neg (by omega), if_pos (by omega)]
     · rw [if_neg e2] at h'
       by_cases e3 : b.length < c.length
       · rw [if_neg (by omega), if_pos (by omega)]
       · rw [if_neg e3] at h'; simp at h'
   · rw [if_neg e4] at h; simp at h
theorem LtS.of {a b : List Int} (h1 : a ≠ b) (h2 : aZ a b ≠ -1) : LtS b a := by
 unfold LtS
 rw [Ck]
 rcases kI a b with h | h | h
 · exact absurd h h2
 · exact absurd ((ew a b).1 h) h1
 · rw [h]
theorem oG (a b : List Int) : eu (aZ a b) 0 = true ↔ a = b := by rw [fQ, decide_eq_true_iff, ew]
def iV (s : List Int) : List (List Int) → List (List Int)
 | [] => [s]
 | a :: r => if aZ s a = -1 then s :: a :: r else a :: iV s r
theorem qG (s : List Int) : ∀ (r out : List (List Int)), jk s r out true = if s ∈ r then none else some (out ++ r)
 | [], out => by simp [jk]
 | a :: r, out => by
  unfold jk
  cases hq : eu (aZ s a) 0 with
  | true => rw [oG] at hq; simp [hq]
  | false =>
   have hne : s ≠ a := fun e => by rw [(oG s a).2 e] at hq; cases hq
   have := qG s r (out ++ [a])
   cases cr 0 (aZ s a) <;> simp only [] <;> rw [this] <;> simp [hne]
theorem pb (s : List Int) : ∀ (r out : List (List Int)), jk s r out false = if s ∈ r then none else some (out ++ iV s r)
 | [], out => by simp [jk, iV]
 | a :: r, out => by
  unfold jk
  cases hq : eu (aZ s a) 0 with
  | true => rw [oG] at hq; simp [hq]
  | false =>
   have hne : s ≠ a := fun e => by rw [(oG s a).2 e] at hq; cases hq
   cases hl : cr 0 (aZ s a) with
   | false =>
    rw [de] at hl
    have hl := of_decide_eq_false hl
    have hc : aZ s a = -1 := by rcases kI s a with h | h | h <;> omega
    simp only []
    rw [qG, iV, if_pos hc]
    simp [hne]
   | true =>
    rw [de] at hl
    have hl := of_decide_eq_true hl
    have hc : aZ s a ≠ -1 := by omega
    simp only []
    rw [pb s r, iV, if_neg hc]
    simp [hne]
theorem yp (l : List (List Int)) (s : List Int) : nH l s = if s ∈ l then l else iV s l := by
 unfold nH
 rw [pb]
 split <;> simp
theorem pN {s x : List Int} : ∀ {l : List (List Int)}, x ∈ iV s l ↔ x = s ∨ x ∈ l
 | [] => by simp [iV]
 | a :: r => by
  unfold iV
  split
  · simp
  · simp only [List.mem_cons, pN (l := r)]
    constructor
    · rintro (h | h | h) <;> simp [h]
    · rintro (h | h | h) <;> simp [h]
theorem vY {l : List (List Int)} {s x : List Int} : x ∈ nH l s ↔ x = s ∨ x ∈ l := by
 rw [yp]
 split
 · rename_i h
   constructor
   · exact .inr
   · rintro (rfl | h') <;> assumption
 · exact pN
abbrev Srt (l : List (List Int)) : Prop := l.Pairwise LtS
theorem vZ {s : List Int} : ∀ {l : List (List Int)}, Srt l → s ∉ l → Srt (iV s l)
 | [], _, _ => by simp [iV]
 | a :: r, h, hn => by
  have h1 := List.pairwise_cons.1 h
  have hsa : s ≠ a := fun e => hn (by simp [e])
  unfold iV
  split
  · rename_i hc
    refine List.pairwise_cons.2 ⟨fun x hx => ?_, h⟩
    rcases List.mem_cons.1 hx with rfl | hx
    · exact hc
    · exact LtS.trans hc (h1.1 x hx)
  · rename_i hc
    refine List.pairwise_cons.2 ⟨fun x hx => ?_, vZ h1.2 (fun e => hn (by simp [e]))⟩
    rcases pN.1 hx with rfl | hx
    · exact LtS.of hsa hc
    · exact h1.1 x hx
theorem Eo {l : List (List Int)} (h : Srt l) (s : List Int) : Srt (nH l s) := by
 rw [yp]
 split
 · exact h
 · exact vZ h (by assumption)
theorem tH {x : List Int} : ∀ (f out : List (List Int)), x ∈ oE out f ↔ x ∈ out ∨ x ∈ f
 | [], out => by simp [oE]
 | s :: f, out => by
  have := tH (x := x) f (nH out s)
  simp only [oE, List.foldl_cons] at this ⊢
  rw [this, vY, List.mem_cons]
  constructor
  · rintro ((h | h) | h) <;> simp [h]
  · rintro (h | h | h) <;> simp [h]
theorem tI : ∀ (f out : List (List Int)), Srt out → Srt (oE out f)
 | [], _, h => h
 | s :: f, out, h => by
  have := tI f (nH out s) (Eo h s)
  simpa only [oE, List.foldl_cons] using this
theorem OkS.sub {a f : List Int} (h : OkS a) (hs : f.Sublist a) (hne : f ≠ []) : OkS f :=
 ⟨hne, Nat.le_trans hs.length_le h.le, fun v hv => h.rng v (hs.mem hv), h.asc.sublist hs⟩
theorem xi {a f : List Int} (h : f ∈ bW a) : f.Sublist a ∧ (a ≠ [] → f ≠ []) := by
 unfold bW at h
 split at h
 · simp at h
 · rename_i hl
   obtain ⟨i, hi, rfl⟩ := List.mem_map.1 h
   rw [List.mem_range] at hi
   refine ⟨List.eraseIdx_sublist a i, fun hne e => ?_⟩
   have := congrArg List.length e
   rw [List.length_eraseIdx, if_pos hi, List.length_nil] at this
   omega
end Go.CP
namespace Go.CP
open Go.Proofs
variable [LG] [HK]
def Awake (K : Ctx) : Prop := K.memo 14 = [(.nil, .one (.c (.bo true)))]
section
variable {K : Ctx} {h : Hp}
theorem Awake.comes (A : Awake K) : Comes K 14 [] h (.bo true) h := ⟨1, fun d fu hd _ => by
 obtain ⟨d, rfl⟩ : ∃ m, d = m + 1 := ⟨d - 1, by omega⟩
 unfold Awake at A
 simp only [cz, Ctx.env, A, ko, jE, kQ, lay]⟩
theorem t4 : ae Tryz.prog 4 = .bool := by kernel_rfl
end
end Go.CP
