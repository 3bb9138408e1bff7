import Derived.Test.YtadagifjonbmjaaGreatDoorKl4
import Derived.Test.YtadagifjonbmjaaGreatDoorKw4
import Derived.Test.YtadagifjonbmjaaGreatDoorKv0
import Derived.Test.YtadagifjonbmjaaGreatDoorKs0
import Derived.Test.YtadagifjonbmjaaGreatDoorKw1
set_option linter.all false
/- Complex: complex.Meet. -/
namespace Go.CP
open Go.Proofs
variable [LG] [HK]
section
variable {K : Ctx} {h : Hp}
/-- The first error of two lists. -/
def errB (a b : List (List Int)) : Int := if errC a ≠ 0 then errC a else errC b
end
end Go.CP
/- Complex: lists of their own, each in a block of its own; the small functions of Components. -/
namespace Go.CP
open Go.Proofs
variable [LG] [HK]
theorem Out.got {N el : Nat} {h : Hp} {x : CV} {cs : List CV} (o : Out N h el x cs) (hne : cs ≠ []) : ∃ k, x = .sl k 0 cs.length cs.length ∧ N ≤ k ∧ k < h.n ∧ h.get k = .cells cs 1 el := by
  cases o with
  | nils => exact absurd rfl hne
  | @some k cs hk hn _ hs => exact ⟨k, rfl, hk, hn, hs⟩
theorem Out.keep {N el : Nat} {h h' : Hp} {x : CV} {cs : List CV} (o : Out N h el x cs) (hn : h.n ≤ h'.n) (hg : N ≤ blk x → blk x < h.n → h'.get (blk x) = h.get (blk x)) : Out N h' el x cs := by
  cases o with
  | nils => exact .nils
  | @some k cs hk hkn hne hs => exact .some hk (by omega) hne (by rw [← hs]; exact hg hk hkn)
theorem Part.keep {N el : Nat} {h h' : Hp} {x : CV} {cs : List CV} (o : Part N h el x cs) (hn : h.n ≤ h'.n) (hg : N ≤ blk x → blk x < h.n → h'.get (blk x) = h.get (blk x)) : Part N h' el x cs := by
  cases o with
  | nils => exact .nils
  | @some k cs tl hk hkn hs => exact .some hk (by omega) (by rw [← hs]; exact hg hk hkn)
theorem Out.in' {N el : Nat} {h : Hp} {x : CV} {cs : List CV} (o : Out N h el x cs) (hne : cs ≠ []) : N ≤ blk x ∧ blk x < h.n := by
  obtain ⟨k, rfl, hk, hn, _⟩ := o.got hne
  exact ⟨hk, hn⟩
theorem Part.in' {N el : Nat} {h : Hp} {x : CV} {cs : List CV} (o : Part N h el x cs) (hne : cs ≠ []) : N ≤ blk x ∧ blk x < h.n := by
  cases o with
  | nils => exact absurd rfl hne
  | some hk hn _ => exact ⟨hk, hn⟩
theorem rows_of {h : Hp} : ∀ {cs : List CV} {P : List (List Int)}, cs.length = P.length → (∀ i (hi : i < cs.length) (hj : i < P.length), Row h cs[i] (Ints P[i])) → Rows h cs P
  | [], [], _, _ => .nil
  | [], _ :: _, h, _ => by simp at h
  | _ :: _, [], h, _ => by simp at h
  | c :: cs, p :: P, h, hr => .cons (hr 0 (by simp) (by simp)) (rows_of (by simpa using h) fun i hi hj => hr (i + 1) (by simpa using hi) (by simpa using hj))
/-- Lists of their own, each in a block of its own. -/
structure Sepd (N : Nat) (h : Hp) (x : CV) (cs : List CV) (P : List (List Int)) : Prop where
  out : Part N h 45 x cs
  len : cs.length = P.length
  row : ∀ i (hi : i < cs.length) (hj : i < P.length), Out N h 3 cs[i] (Ints P[i])
  ne : ∀ c ∈ P, c ≠ []
  dis : ∀ i j (hi : i < cs.length) (hj : j < cs.length), blk cs[i] = blk cs[j] → i = j
  nx : ∀ i (hi : i < cs.length), blk cs[i] ≠ blk x
theorem Sepd.rows {N : Nat} {h : Hp} {x : CV} {cs : List CV} {P : List (List Int)} (D : Sepd N h x cs P) : Rows h cs P := rows_of D.len fun i hi hj => (D.row i hi hj).row
theorem Sepd.keep {N : Nat} {h h' : Hp} {x : CV} {cs : List CV} {P : List (List Int)} (D : Sepd N h x cs P) (hn : h.n ≤ h'.n) (hg : ∀ j, N ≤ j → j < h.n → h'.get j = h.get j) : Sepd N h' x cs P :=
  ⟨D.out.keep hn (hg _), D.len, fun i hi hj => (D.row i hi hj).keep hn (hg _), D.ne, D.dis, D.nx⟩
theorem Sepd.mono {N : Nat} {h h' : Hp} {x : CV} {cs : List CV} {P : List (List Int)} (D : Sepd N h x cs P) (S : Same h.n h h') : Sepd N h' x cs P := D.keep S.n fun j _ hj => S.get j hj
theorem Sepd.low {N M : Nat} {h : Hp} {x : CV} {cs : List CV} {P : List (List Int)} (hNM : M ≤ N) (D : Sepd N h x cs P) : Sepd M h x cs P := by
  refine ⟨?_, D.len, fun i hi hj => out_mono hNM (D.row i hi hj), D.ne, D.dis, D.nx⟩
  cases D.out with
  | nils => exact .nils
  | some hk hn hs => exact .some (by omega) hn hs
theorem Sepd.nil (N : Nat) (h : Hp) : Sepd N h .nils [] [] := ⟨.nils, rfl, fun i hi => absurd hi (Nat.not_lt_zero _), by simp, fun i j hi => absurd hi (Nat.not_lt_zero _), fun i hi => absurd hi (Nat.not_lt_zero _)⟩
theorem ints_ne' {a : List Int} (h : a ≠ []) : Ints a ≠ [] := by simpa [Ints] using h
/-- One list more. -/
theorem Sepd.app {P0 : Program} {N b t : Nat} {g g1 : Hp} {z0 x y : CV} {cs : List CV} {P : List (List Int)} {a : List Int} (ht : tyk P0 t = .slice 45 1 b [z0]) (D : Sepd N g x cs P) (O : Out N g 45 x cs) (hN : N ≤ g.n) (S : Same g.n g g1) (ok : HpOk g1) (oy : Out g.n g1 3 y (Ints a)) (ha : a ≠ []) (hb : b ≤ 64) (hn : cs.length < 1099511627776) :
    ∃ F B x' h', lSlice 1 [(0, y)] (tyk P0 t) = some (F, B) ∧ wApp (g1.push B) x (F g1.n) (tyk P0 t) (tyk P0 t) = some (x', h') ∧ Out N h' 45 x' (cs ++ [y]) ∧ Sepd N h' x' (cs ++ [y]) (P ++ [a]) ∧ Same N g1 h' ∧ HpOk h' := by
  have hv : y.one = true := oy.row.one
  have O1 : Out N (g1.push (.cells [y] 0 45)) 45 x cs := (O.mono S (Nat.le_refl _)).mono (Same.push (Nat.le_refl _) _) (Nat.le_refl _)
  have hb2 : (cs.length + [y].length) * b ≤ 70368744177664 := by
    have : (cs.length + 1) * b ≤ 1099511627776 * 64 := Nat.mul_le_mul (by omega) hb
    simpa using this
  have e := O1.appE (z := [z0]) (t' := .slice 45 1 b [z0]) (bytes := b) (one_row (h := g1) (v := y) (el := 45)) (by simp) (by simp [hv]) rfl ⟨_, _, _, rfl⟩ hb2 (by simp; omega)
  have hn1 : (wipe (g1.push (.cells [y] 0 45)) x).n = g1.n + 1 := by rw [wipe_n]; rfl
  have hget : ∀ j, j < g1.n → (cs = [] ∨ j ≠ blk x) → ((wipe (g1.push (.cells [y] 0 45)) x).push (.cells (cs ++ [y]) 1 45)).get j = g1.get j := by
    intro j hj hx
    rw [Hp.get_push, if_neg (by omega)]
    cases O with
    | nils => show (g1.push (.cells [y] 0 45)).get j = _; rw [Hp.get_push, if_neg (by omega)]
    | @some k cs hk hkn hne hs =>
      have hjk : j ≠ k := by
        rcases hx with hx | hx
        · exact absurd hx hne
        · exact hx
      show ((g1.push (.cells [y] 0 45)).set k .dead).get j = _
      rw [Hp.get_set, if_neg hjk, Hp.get_push, if_neg (by omega)]
  have hlow : ∀ j, j < N → ((wipe (g1.push (.cells [y] 0 45)) x).push (.cells (cs ++ [y]) 1 45)).get j = g1.get j := fun j hj => by
    refine hget j (by have := S.n; omega) ?_
    by_cases hc : cs = []
    · exact .inl hc
    · have := O.in' hc; exact .inr (by omega)
  have Sn := S.n
  obtain ⟨ky, rfl, hky1, hky2, hky3⟩ := oy.got (ints_ne' ha)
  have Onew : Out N ((wipe (g1.push (.cells [.sl ky 0 (Ints a).length (Ints a).length] 0 45)) x).push (.cells (cs ++ [.sl ky 0 (Ints a).length (Ints a).length]) 1 45)) 45 (.sl (g1.push (.cells [.sl ky 0 (Ints a).length (Ints a).length] 0 45)).n 0 (cs.length + [CV.sl ky 0 (Ints a).length (Ints a).length].length) (cs.length + [CV.sl ky 0 (Ints a).length (Ints a).length].length)) (cs ++ [.sl ky 0 (Ints a).length (Ints a).length]) := by
    have := Out.some (N := N) (h := (wipe (g1.push (.cells [.sl ky 0 (Ints a).length (Ints a).length] 0 45)) x).push (.cells (cs ++ [.sl ky 0 (Ints a).length (Ints a).length]) 1 45)) (el := 45) (k := g1.n + 1) (cs := cs ++ [.sl ky 0 (Ints a).length (Ints a).length]) (by omega) (by show g1.n + 1 < (wipe (g1.push _) x).n + 1; omega) (by simp) (by rw [Hp.get_push, if_pos hn1.symm])
    simpa using this
  have hold : ∀ i (hi : i < cs.length), N ≤ blk cs[i] ∧ blk cs[i] < g.n := fun i hi => by
    have hj : i < P.length := by rw [← D.len]; exact hi
    exact (D.row i hi hj).in' (ints_ne' (D.ne _ (List.getElem_mem hj)))
  refine ⟨_, _, _, _, by rw [ht]; exact one_slice hv, by rw [ht]; exact e, Onew, ⟨Onew.part, by simp [D.len], ?_, ?_, ?_, ?_⟩, ⟨by show g1.n ≤ (wipe (g1.push _) x).n + 1; omega, hlow⟩, ((ok.push _).wipe x).push _⟩
  · intro i hi hj
    simp only [List.length_append, List.length_singleton] at hi hj
    rw [List.getElem_append, List.getElem_append]
    by_cases h : i < cs.length
    · have h' : i < P.length := by rw [← D.len]; exact h
      rw [dif_pos h, dif_pos h']
      have hb := hold i h
      exact ((D.row i h h').mono S (Nat.le_refl _)).keep (by show g1.n ≤ (wipe (g1.push _) x).n + 1; omega) fun _ hlt => hget _ hlt (.inr (D.nx i h))
    · have hc : i = cs.length := by omega
      rw [dif_neg h, dif_neg (by rw [← D.len]; exact h)]
      simp only [List.getElem_singleton]
      have : Out N g1 3 (.sl ky 0 (Ints a).length (Ints a).length) (Ints a) := .some (by omega) hky2 (ints_ne' ha) hky3
      refine this.keep (by show g1.n ≤ (wipe (g1.push _) x).n + 1; omega) fun _ hlt => hget _ hlt ?_
      by_cases hcs : cs = []
      · exact .inl hcs
      · have := O.in' hcs
        refine .inr ?_
        show ky ≠ _
        omega
  · intro c hc
    rcases List.mem_append.1 hc with h | h
    · exact D.ne c h
    · simp at h; subst h; exact ha
  · intro i j hi hj
    simp only [List.length_append, List.length_singleton] at hi hj
    rw [List.getElem_append, List.getElem_append]
    by_cases h1 : i < cs.length <;> by_cases h2 : j < cs.length
    · rw [dif_pos h1, dif_pos h2]; exact D.dis i j h1 h2
    · rw [dif_pos h1, dif_neg h2]
      simp only [List.getElem_singleton]
      intro e
      have h3 := (hold i h1).2
      have h4 : blk cs[i] = ky := e
      omega
    · rw [dif_neg h1, dif_pos h2]
      simp only [List.getElem_singleton]
      intro e
      have h3 := (hold j h2).2
      have h4 : ky = blk cs[j] := e
      omega
    · intro _; omega
  · intro i hi
    simp only [List.length_append, List.length_singleton] at hi
    show _ ≠ g1.n + 1
    rw [List.getElem_append]
    by_cases h : i < cs.length
    · rw [dif_pos h]; have := (hold i h).2; omega
    · rw [dif_neg h]; simp only [List.getElem_singleton]; show ky ≠ _; omega
theorem Sepd.erase {N : Nat} {h h' : Hp} {x r : CV} {cs : List CV} {P : List (List Int)} (D : Sepd N h x cs P) {i : Nat} (hn : h'.n = h.n) (o : Part N h' 45 r (cs.eraseIdx i)) (hb : blk r = blk x) (hg : ∀ j, j ≠ blk x → h'.get j = h.get j) : Sepd N h' r (cs.eraseIdx i) (P.eraseIdx i) := by
  have key : ∀ m (hm : m < (cs.eraseIdx i).length), ∃ z, ∃ hz : z < cs.length, (m < i → z = m) ∧ (¬ m < i → z = m + 1) ∧ (cs.eraseIdx i)[m] = cs[z] := fun m hm => by
    rw [List.getElem_eraseIdx]
    rw [List.length_eraseIdx] at hm
    by_cases h : m < i
    · exact ⟨m, by split at hm <;> omega, fun _ => rfl, fun hn => absurd h hn, by rw [dif_pos h]⟩
    · exact ⟨m + 1, by split at hm <;> omega, fun hn => absurd hn h, fun _ => rfl, by rw [dif_neg h]⟩
  refine ⟨o, by rw [List.length_eraseIdx, List.length_eraseIdx, D.len], fun m hm hm' => ?_, fun c hc => D.ne c (List.mem_of_mem_eraseIdx hc), fun m m' hm hm' e => ?_, fun m hm => ?_⟩
  · obtain ⟨z, hz, h1, h2, e⟩ := key m hm
    have hz' : z < P.length := by rw [← D.len]; exact hz
    have e2 : (P.eraseIdx i)[m] = P[z] := by
      rw [List.getElem_eraseIdx]
      by_cases h : m < i
      · rw [dif_pos h]; simp only [h1 h]
      · rw [dif_neg h]; simp only [h2 h]
    rw [e, e2]
    exact (D.row z hz hz').keep (by omega) fun _ _ => hg _ (D.nx z hz)
  · obtain ⟨z, hz, h1, h2, e1⟩ := key m hm
    obtain ⟨w, hw, f1, f2, e2⟩ := key m' hm'
    rw [e1, e2] at e
    have := D.dis z w hz hw e
    by_cases ha : m < i <;> by_cases hb : m' < i
    · rw [h1 ha, f1 hb] at this; exact this
    · rw [h1 ha, f2 hb] at this; omega
    · rw [h2 ha, f1 hb] at this; omega
    · rw [h2 ha, f2 hb] at this; omega
  · obtain ⟨z, hz, _, _, e⟩ := key m hm
    rw [e, hb]; exact D.nx z hz
end Go.CP
/- Complex: complex.Components. -/
namespace Go.CP
open Go.Proofs
variable [LG] [HK]
theorem z26 : tsz Tryz.prog 26 = some (1, false) := by kernel_rfl
section
variable {K : Ctx} {h : Hp}
/-- slices.Sort of these numbers can be shown. -/
def Sorts90 (K : Ctx) (c : List Int) : Prop := ∀ {g : Hp} {N : Nat} {y : CV}, HpOk g → N ≤ g.n → Out N g 3 y (Ints c) → ∃ g', Comes K 90 [y] g (.tup []) g' ∧ Same N g g' ∧ HpOk g' ∧ Out N g' 3 y (Ints (sortI c))
/-- What Components knows after some simplices. -/
structure CompI (h : Hp) (l : List (List Int)) (kb i : Nat) (g : Hp) : Prop where
  ok : HpOk g
  same : Same h.n h g
  kn : kb < g.n
  st : ∃ o ds P, g.get kb = .cells [o] 0 26 ∧ Sepd (kb + 1) g o ds P ∧ CompOk (l.take i) l P ∧ P.length ≤ i ∧ ((∀ a ∈ l.take i, a.length ≤ 1) → Out (kb + 1) g 45 o ds)
end
end Go.CP
/- ComplexCollapses: the law's function returns true, whatever it is called with. -/
namespace Go.CP
open Go.Proofs
variable [LG] [HK]
theorem errC_ok {l : List (List Int)} (h : OkC l) : errC l = 0 := by
  unfold errC
  rw [if_neg (by have := h.le; omega)]
  refine errG_ok _ 0 fun j _ hj => ?_
  have hj : j < l.length := by omega
  have e0 := getL hj
  have hS : errS (l.getD j []) = 0 := by rw [e0]; exact errS_zero.2 (h.simp _ (List.getElem_mem hj))
  rw [errAt_face hS (fun hp => ?_), if_pos ?_]
  · rw [List.all_eq_true]
    intro f hf
    rw [e0] at hf
    exact decide_eq_true (h.face _ (List.getElem_mem hj) f hf)
  · obtain ⟨m, rfl⟩ : ∃ m, j = m + 1 := ⟨j - 1, by omega⟩
    have := h.asc m hj
    rw [e0, show l.getD (m + 1 - 1) [] = l[m]'(by omega) from getL (i := m) (by omega), this]
    exact ⟨by decide, by decide⟩
section
variable {K : Ctx} {h : Hp}
end
end Go.CP
