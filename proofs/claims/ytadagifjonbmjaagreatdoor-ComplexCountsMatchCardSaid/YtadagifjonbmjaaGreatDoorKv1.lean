import Derived.Test.YtadagifjonbmjaaGreatDoorKl4
import Derived.Test.YtadagifjonbmjaaGreatDoorKw4
import Derived.Test.YtadagifjonbmjaaGreatDoorKv0
import Derived.Test.YtadagifjonbmjaaGreatDoorKs0
import Derived.Test.YtadagifjonbmjaaGreatDoorKw1
set_option linter.all false
namespace Go.CP
open Go.Proofs
variable [LG] [HK]
theorem Out.got {N el : Nat} {h : Hp} {x : CV} {cs : List CV} (o : Out N h el x cs) (hne : cs ≠ []) : ∃ k, x = .sl k 0 cs.length cs.length ∧ N ≤ k ∧ k < h.n ∧ h.get k = .cells cs 1 el := by
 cases o with
 | nils => exact absurd rfl hne
 | @some k cs hk hn _ hs => exact ⟨k, rfl, hk, hn, hs⟩
theorem Out.keep {N el : Nat} {h h' : Hp} {x : CV} {cs : List CV} (o : Out N h el x cs) (hn : h.n ≤ h'.n) (hg : N ≤ blk x → blk x < h.n → h'.get (blk x) = h.get (blk x)) : Out N h' el x cs := by
 cases o with
 | nils => exact .nils
 | @some k cs hk hkn hne hs => exact .some hk (by omega) hne (by rw [← hs]; exact hg hk hkn)
theorem Part.keep {N el : Nat} {h h' : Hp} {x : CV} {cs : List CV} (o : Part N h el x cs) (hn : h.n ≤ h'.n) (hg : N ≤ blk x → blk x < h.n → h'.get (blk x) = h.get (blk x)) : Part N h' el x cs := by
 cases o with
 | nils => exact .nils
 | @some k cs tl hk hkn hs => exact .some hk (by omega) (by rw [← hs]; exact hg hk hkn)
theorem Out.in' {N el : Nat} {h : Hp} {x : CV} {cs : List CV} (o : Out N h el x cs) (hne : cs ≠ []) : N ≤ blk x ∧ blk x < h.n := by
 obtain ⟨k, rfl, hk, hn, _⟩ := o.got hne
 exact ⟨hk, hn⟩
theorem BF {h : Hp} : ∀ {cs : List CV} {P : List (List Int)}, cs.length = P.length → (∀ i (hi : i < cs.length) (hj : i < P.length), Row h cs[i] (ak P[i])) → Rows h cs P
 | [], [], _, _ => .nil
 | [], _ :: _, h, _ => by simp at h
 | _ :: _, [], h, _ => by simp at h
 | c :: cs, p :: P, h, hr => .cons (hr 0 (by simp) (by simp)) (BF (by simpa using h) fun i hi hj => hr (i + 1) (by simpa using hi) (by simpa using hj))
structure Sepd (N : Nat) (h : Hp) (x : CV) (cs : List CV) (P : List (List Int)) : Prop where
 out : Part N h 45 x cs
 len : cs.length = P.length
 row : ∀ i (hi : i < cs.length) (hj : i < P.length), Out N h 3 cs[i] (ak P[i])
 ne : ∀ c ∈ P, c ≠ []
 dis : ∀ i j (hi : i < cs.length) (hj : j < cs.length), blk cs[i] = blk cs[j] → i = j
 nx : ∀ i (hi : i < cs.length), blk cs[i] ≠ blk x
theorem Sepd.rows {N : Nat} {h : Hp} {x : CV} {cs : List CV} {P : List (List Int)} (D : Sepd N h x cs P) : Rows h cs P := BF D.len fun i hi hj => (D.row i hi hj).row
theorem Sepd.keep {N : Nat} {h h' : Hp} {x : CV} {cs : List CV} {P : List (List Int)} (D : Sepd N h x cs P) (hn : h.n ≤ h'.n) (hg : ∀ j, N ≤ j → j < h.n → h'.get j = h.get j) : Sepd N h' x cs P :=
 ⟨D.out.keep hn (hg _), D.len, fun i hi hj => (D.row i hi hj).keep hn (hg _), D.ne, D.dis, D.nx⟩
theorem Sepd.mono {N : Nat} {h h' : Hp} {x : CV} {cs : List CV} {P : List (List Int)} (D : Sepd N h x cs P) (S : Same h.n h h') : Sepd N h' x cs P := D.keep S.n fun j _ hj => S.get j hj
theorem Sepd.low {N M : Nat} {h : Hp} {x : CV} {cs : List CV} {P : List (List Int)} (hNM : M ≤ N) (D : Sepd N h x cs P) : Sepd M h x cs P := by
 refine ⟨?_, D.len, fun i hi hj => kq hNM (D.row i hi hj), D.ne, D.dis, D.nx⟩
 cases D.out with
 | nils => exact .nils
 | some hk hn hs => exact .some (by omega) hn hs
theorem Sepd.nil (N : Nat) (h : Hp) : Sepd N h .nils [] [] := ⟨.nils, rfl, fun i hi => absurd hi (Nat.not_lt_zero _), by simp, fun i j hi => absurd hi (Nat.not_lt_zero _), fun i hi => absurd hi (Nat.not_lt_zero _)⟩
theorem gB {a : List Int} (h : a ≠ []) : ak a ≠ [] := by simpa [ak] using h
theorem Sepd.app {P0 : Program} {N b t : Nat} {g g1 : Hp} {z0 x y : CV} {cs : List CV} {P : List (List Int)} {a : List Int} (ht : ae P0 t = .slice 45 1 b [z0]) (D : Sepd N g x cs P) (O : Out N g 45 x cs) (hN : N ≤ g.n) (S : Same g.n g g1) (ok : HpOk g1) (oy : Out g.n g1 3 y (ak a)) (ha : a ≠ []) (hb : b ≤ 64) (hn : cs.length < 1099511627776) :
  ∃ F B x' h', aM 1 [(0, y)] (ae P0 t) = some (F, B) ∧ aT (g1.push B) x (F g1.n) (ae P0 t) (ae P0 t) = some (x', h') ∧ Out N h' 45 x' (cs ++ [y]) ∧ Sepd N h' x' (cs ++ [y]) (P ++ [a]) ∧ Same N g1 h' ∧ HpOk h' := by
 have hv : y.one = true := oy.row.one
 have O1 : Out N (g1.push (.cells [y] 0 45)) 45 x cs := (O.mono S (Nat.le_refl _)).mono (Same.push (Nat.le_refl _) _) (Nat.le_refl _)
 have hb2 : (cs.length + [y].length) * b ≤ 70368744177664 := by
  have : (cs.length + 1) * b ≤ 1099511627776 * 64 := Nat.mul_le_mul (by omega) hb
  simpa using this
 have e := O1.appE (z := [z0]) (t' := .slice 45 1 b [z0]) (bytes := b) (jQ (h := g1) (v := y) (el := 45)) (by simp) (by simp [hv]) rfl ⟨_, _, _, rfl⟩ hb2 (by simp; omega)
 have hn1 : (wipe (g1.push (.cells [y] 0 45)) x).n = g1.n + 1 := by rw [cE]; rfl
 have hget : ∀ j, j < g1.n → (cs = [] ∨ j ≠ blk x) → ((wipe (g1.push (.cells [y] 0 45)) x).push (.cells (cs ++ [y]) 1 45)).get j = g1.get j := by
  intro j hj hx
  rw [aB, if_neg (by omega)]
  cases O with
  | nils => show (g1.push (.cells [y] 0 45)).get j = _; rw [aB, if_neg (by omega)]
  | @some k cs hk hkn hne hs =>
   have hjk : j ≠ k := by
    rcases hx with hx | hx
    · exact absurd hx hne
    · exact hx
   show ((g1.push (.cells [y] 0 45)).set k .dead).get j = _
   rw [Hp.get_set, if_neg hjk, aB, if_neg (by omega)]
 have hlow : ∀ j, j < N → ((wipe (g1.push (.cells [y] 0 45)) x).push (.cells (cs ++ [y]) 1 45)).get j = g1.get j := fun j hj => by
  refine hget j (by have := S.n; omega) ?_
  by_cases hc : cs = []
  · exact .inl hc
  · have := O.in' hc; exact .inr (by omega)
 have Sn := S.n
 obtain ⟨ky, rfl, hky1, hky2, hky3⟩ := oy.got (gB ha)
 have Onew : Out N ((wipe (g1.push (.cells [.sl ky 0 (ak a).length (ak a).length] 0 45)) x).push (.cells (cs ++ [.sl ky 0 (ak a).length (ak a).length]) 1 45)) 45 (.sl (g1.push (.cells [.sl ky 0 (ak a).length (ak a).length] 0 45)).n 0 (cs.length + [CV.sl ky 0 (ak a).length (ak a).length].length) (cs.length + [CV.sl ky 0 (ak a).length (ak a).length].length)) (cs ++ [.sl ky 0 (ak a).length (ak a).length]) := by
  have := Out.some (N := N) (h := (wipe (g1.push (.cells [.sl ky 0 (ak a).length (ak a).length] 0 45)) x).push (.cells (cs ++ [.sl ky 0 (ak a).length (ak a).length]) 1 45)) (el := 45) (k := g1.n + 1) (cs := cs ++ [.sl ky 0 (ak a).length (ak a).length]) (by omega) (by show g1.n + 1 < (wipe (g1.push _) x).n + 1; omega) (by simp) (by rw [aB, if_pos hn1.symm])
  simpa using this
 have hold : ∀ i (hi : i < cs.length), N ≤ blk cs[i] ∧ blk cs[i] < g.n := fun i hi => by
  have hj : i < P.length := by rw [← D.len]; exact hi
  exact (D.row i hi hj).in' (gB (D.ne _ (List.getElem_mem hj)))
 refine ⟨_, _, _, _, by rw [ht]; exact gF hv, by rw [ht]; exact e, Onew, ⟨Onew.part, by simp [D.len], ?_, ?_, ?_, ?_⟩, ⟨by show g1.n ≤ (wipe (g1.push _) x).n + 1; omega, hlow⟩, ((ok.push _).wipe x).push _⟩
 · intro i hi hj
   simp only [List.length_append, List.length_singleton] at hi hj
   rw [List.getElem_append, List.getElem_append]
   by_cases h : i < cs.length
   · have h' : i < P.length := by rw [← D.len]; exact h
     rw [dif_pos h, dif_pos h']
     have hb := hold i h
     exact ((D.row i h h').mono S (Nat.le_refl _)).keep (by show g1.n ≤ (wipe (g1.push _) x).n + 1; omega) fun _ hlt => hget _ hlt (.inr (D.nx i h))
   · have hc : i = cs.length := by omega
     rw [dif_neg h, dif_neg (by rw [← D.len]; exact h)]
     simp only [List.getElem_singleton]
     have : Out N g1 3 (.sl ky 0 (ak a).length (ak a).length) (ak a) := .some (by omega) hky2 (gB ha) hky3
     refine this.keep (by show g1.n ≤ (wipe (g1.push _) x).n + 1; omega) fun _ hlt => hget _ hlt ?_
     by_cases hcs : cs = []
     · exact .inl hcs
     · have := O.in' hcs
       refine .inr ?_
       show ky ≠ _
       omega
 · intro c hc
   rcases List.mem_append.1 hc with h | h
   · exact D.ne c h
   · simp at h; subst h; exact ha
 · intro i j hi hj
   simp only [List.length_append, List.length_singleton] at hi hj
   rw [List.getElem_append, List.getElem_append]
   by_cases h1 : i < cs.length <;> by_cases h2 : j < cs.length
   · rw [dif_pos h1, dif_pos h2]; exact D.dis i j h1 h2
   · rw [dif_pos h1, dif_neg h2]
     simp only [List.getElem_singleton]
     intro e
     have h3 := (hold i h1).2
     have h4 : blk cs[i] = ky := e
     omega
   · rw [dif_neg h1, dif_pos h2]
     simp only [List.getElem_singleton]
     intro e
     have h3 := (hold j h2).2
     have h4 : ky = blk cs[j] := e
     omega
   · intro _; omega
 · intro i hi
   simp only [List.length_append, List.length_singleton] at hi
   show _ ≠ g1.n + 1
   rw [List.getElem_append]
   by_cases h : i < cs.length
   · rw [dif_pos h]; have := (hold i h).2; omega
   · rw [dif_neg h]; simp only [List.getElem_singleton]; show ky ≠ _; omega
theorem Sepd.merge {P0 : Program} {N : Nat} {g : Hp} {x : CV} {cs : List CV} {P : List (List Int)} (h45 : ae P0 45 = .slice 3 1 8 [.nu .i64 0]) (h26 : ae P0 26 = .slice 45 1 24 [.nils]) (D : Sepd N g x cs P) (hN : N ≤ g.n) (ok : HpOk g) {i j : Nat} (hij : i ≠ j) (hi : i < cs.length) (hj : j < cs.length) (hi' : i < P.length) (hj' : j < P.length) (hsm : P[i].length + P[j].length ≤ 1024) :
  ∃ p q y g1 g2, af x (.nu .i64 (.ofNat i)) (ae P0 26) = some p ∧ af x (.nu .i64 (.ofNat j)) (ae P0 26) = some q ∧ ah g p (some (1, false)) = some cs[i] ∧ ah g q (some (1, false)) = some cs[j] ∧
   aT g cs[i] cs[j] (ae P0 45) (ae P0 45) = some (y, g1) ∧ bg g1 p y (some (1, false)) = some (.undef, g2) ∧ ah g2 p (some (1, false)) = some y ∧ Same N g g1 ∧ Same N g g2 ∧ HpOk g2 ∧ g.n ≤ g2.n ∧ Out g.n g2 3 y (ak (P[i] ++ P[j])) ∧
   ∀ g3 c, c ≠ [] → Same g.n g2 g3 → Out g.n g3 3 y (ak c) → Sepd N g3 x (cs.set i y) (P.set i c) := by
 have hPi : P[i] ≠ [] := D.ne _ (List.getElem_mem hi')
 have hPj : P[j] ≠ [] := D.ne _ (List.getElem_mem hj')
 have oi := D.row i hi hi'
 have oj := D.row j hj hj'
 have hli : (ak P[i]).length = P[i].length := ar _
 have hlj : (ak P[j]).length = P[j].length := ar _
 have e := oi.appE (z := [.nu .i64 0]) (t' := .slice 3 1 8 [.nu .i64 0]) (bytes := 8) oj.row (gB hPj) (by simp [ak, List.all_eq_true, CV.one]) rfl ⟨_, _, _, rfl⟩ (by omega) (by omega)
 obtain ⟨ki, hki, hki1, hki2, hki3⟩ := oi.got (gB hPi)
 have hw : wipe g cs[i] = g.set ki .dead := by rw [hki]; rfl
 have hbi : blk cs[i] = ki := by rw [hki]; rfl
 have hnx := D.nx i hi
 rw [hbi] at hnx
 cases hx : D.out with
 | nils => simp at hi
 | @some kx cs tl hkx1 hkx2 hkx3 =>
  have hnk : ki ≠ kx := hnx
  have hb : Nat.blt i cs.length = true := by simpa using hi
  have hb' : Nat.blt j cs.length = true := by simpa using hj
  have hlen : (cs ++ tl).length = cs.length + tl.length := List.length_append
  have hld : ∀ (D' : List CV) (m : Nat) (hm : m < D'.length), dj (0 + m * 1) 1 false (.cells D' 1 45) = some D'[m] := fun D' m hm => by
   have h1 : D'[m]? = some D'[m] := List.getElem?_eq_getElem hm
   simp only [dj, val, Nat.mul_one, Nat.zero_add, Nat.ble_eq_true_of_le (show m + 1 ≤ D'.length by omega), Nat.beq_refl, h1]
  generalize hy : (CV.sl g.n 0 ((ak P[i]).length + (ak P[j]).length) ((ak P[i]).length + (ak P[j]).length)) = y at e
  generalize hg1 : (wipe g cs[i]).push (.cells (ak P[i] ++ ak P[j]) 1 3) = g1 at e
  have hg1n : g1.n = g.n + 1 := by rw [← hg1]; show (wipe g cs[i]).n + 1 = _; rw [cE]
  have hg1g : ∀ m, m < g.n → m ≠ ki → g1.get m = g.get m := fun m hm hne => by
   rw [← hg1, aB, if_neg (by rw [cE]; omega), hw, Hp.get_set, if_neg hne]
  have hg1y : g1.get g.n = .cells (ak P[i] ++ ak P[j]) 1 3 := by rw [← hg1, aB, if_pos (by rw [cE])]
  have hok1 : HpOk g1 := by rw [← hg1]; exact (ok.wipe _).push _
  have hy1 : y.one = true := by rw [← hy]; rfl
  have hyc := eW hy1
  have hkg1 : g1.get kx = .cells (cs ++ tl) 1 45 := by rw [hg1g kx hkx2 (Ne.symm hnk)]; exact hkx3
  have hst : bg g1 (.ptr kx (0 + i * 1)) y (some (1, false)) = some (.undef, g1.set kx (.cells ((cs ++ tl).set i y) 1 45)) := by
   show de g1 kx (0 + i * 1) 1 y (g1.get kx) = _
   rw [hkg1]
   simp only [de, CV.sol, hyc, List.all_cons, hy1, List.all_nil, Bool.and_self, List.length_singleton, Nat.beq_refl, Nat.mul_one, Nat.zero_add, Nat.ble_eq_true_of_le (show i + 1 ≤ (cs ++ tl).length by omega), iN]
  have hset : (cs ++ tl).set i y = cs.set i y ++ tl := List.set_append_left i y hi
  have hg2g : ∀ m, m < g.n → m ≠ ki → m ≠ kx → (g1.set kx (.cells ((cs ++ tl).set i y) 1 45)).get m = g.get m := fun m hm h1 h2 => by
   rw [Hp.get_set, if_neg h2]; exact hg1g m hm h1
  refine ⟨.ptr kx (0 + i * 1), .ptr kx (0 + j * 1), y, g1, g1.set kx (.cells ((cs ++ tl).set i y) 1 45), by rw [h26]; simp only [af, nU, hb], by rw [h26]; simp only [af, nU, hb'], ?_, ?_, by rw [h45]; exact e, hst, ?_, ⟨by omega, fun m hm => hg1g m (by omega) (by omega)⟩, ⟨by show g.n ≤ g1.n; omega, fun m hm => hg2g m (by omega) (by omega) (by omega)⟩, hok1.set (by omega) _, by show g.n ≤ g1.n; omega, ?_, ?_⟩
  · show dj (0 + i * 1) 1 false (g.get kx) = _
    rw [hkx3, hld _ i (by omega), List.getElem_append_left hi]
  · show dj (0 + j * 1) 1 false (g.get kx) = _
    rw [hkx3, hld _ j (by omega), List.getElem_append_left hj]
  · show dj (0 + i * 1) 1 false ((g1.set kx _).get kx) = _
    rw [Hp.get_set, if_pos rfl, hld _ i (by rw [List.length_set]; omega)]
    simp
  · have := Out.some (N := g.n) (h := g1.set kx (.cells ((cs ++ tl).set i y) 1 45)) (el := 3) (k := g.n) (cs := ak P[i] ++ ak P[j]) (Nat.le_refl _) (by show g.n < g1.n; omega) (by simp [gB hPi]) (by rw [Hp.get_set, if_neg (by omega)]; exact hg1y)
    rw [List.length_append, hy] at this
    rw [show ak (P[i] ++ P[j]) = ak P[i] ++ ak P[j] by simp [ak]]
    exact this
  · intro g3 c hc S3 oc
    have hg3n := S3.n
    have hg3n' : g.n + 1 ≤ g3.n := by
     have : (g1.set kx (.cells ((cs ++ tl).set i y) 1 45)).n = g.n + 1 := hg1n
     omega
    have hget : ∀ m, m < g.n → m ≠ ki → m ≠ kx → g3.get m = g.get m := fun m hm h1 h2 => by rw [S3.get m hm]; exact hg2g m hm h1 h2
    have hby : blk y = g.n := by rw [← hy]; rfl
    have hold : ∀ m (hm : m < cs.length), N ≤ blk cs[m] ∧ blk cs[m] < g.n := fun m hm => by
     have hm' : m < P.length := by rw [← D.len]; exact hm
     exact (D.row m hm hm').in' (gB (D.ne _ (List.getElem_mem hm')))
    refine ⟨?_, by simp [D.len], ?_, ?_, ?_, ?_⟩
    · have := Part.some (N := N) (h := g3) (el := 45) (k := kx) (cs := cs.set i y) (tl := tl) hkx1 (by omega) (by rw [S3.get kx hkx2, Hp.get_set, if_pos rfl, hset])
      rw [List.length_set] at this
      exact this
    · intro m hm hm'
      rw [List.length_set] at hm hm'
      rw [List.getElem_set, List.getElem_set]
      by_cases hmi : i = m
      · rw [if_pos hmi, if_pos hmi]; exact kq hN oc
      · rw [if_neg hmi, if_neg hmi]
        refine (D.row m hm hm').keep (by omega) fun _ hlt => hget _ hlt ?_ (D.nx m hm)
        intro e; rw [← hbi] at e; exact hmi (D.dis m i hm hi e).symm
    · intro d hd
      rcases List.mem_or_eq_of_mem_set hd with h | h
      · exact D.ne d h
      · rw [h]; exact hc
    · intro m m' hm hm'
      rw [List.length_set] at hm hm'
      rw [List.getElem_set, List.getElem_set]
      by_cases h1 : i = m <;> by_cases h2 : i = m'
      · intro _; omega
      · rw [if_pos h1, if_neg h2, hby]
        intro e; have := (hold m' hm').2; omega
      · rw [if_neg h1, if_pos h2, hby]
        intro e; have := (hold m hm).2; omega
      · rw [if_neg h1, if_neg h2]; exact D.dis m m' hm hm'
    · intro m hm
      rw [List.length_set] at hm
      rw [List.getElem_set]
      by_cases h1 : i = m
      · rw [if_pos h1, hby]; show g.n ≠ kx; omega
      · rw [if_neg h1]; exact D.nx m hm
theorem Sepd.erase {N : Nat} {h h' : Hp} {x r : CV} {cs : List CV} {P : List (List Int)} (D : Sepd N h x cs P) {i : Nat} (hn : h'.n = h.n) (o : Part N h' 45 r (cs.eraseIdx i)) (hb : blk r = blk x) (hg : ∀ j, j ≠ blk x → h'.get j = h.get j) : Sepd N h' r (cs.eraseIdx i) (P.eraseIdx i) := by
 have key : ∀ m (hm : m < (cs.eraseIdx i).length), ∃ z, ∃ hz : z < cs.length, (m < i → z = m) ∧ (¬ m < i → z = m + 1) ∧ (cs.eraseIdx i)[m] = cs[z] := fun m hm => by
  rw [List.getElem_eraseIdx]
  rw [List.length_eraseIdx] at hm
  by_cases h : m < i
  · exact ⟨m, by split at hm <;> omega, fun _ => rfl, fun hn => absurd h hn, by rw [dif_pos h]⟩
  · exact ⟨m + 1, by split at hm <;> omega, fun hn => absurd hn h, fun _ => rfl, by rw [dif_neg h]⟩
 refine ⟨o, by rw [List.length_eraseIdx, List.length_eraseIdx, D.len], fun m hm hm' => ?_, fun c hc => D.ne c (List.mem_of_mem_eraseIdx hc), fun m m' hm hm' e => ?_, fun m hm => ?_⟩
 · obtain ⟨z, hz, h1, h2, e⟩ := key m hm
   have hz' : z < P.length := by rw [← D.len]; exact hz
   have e2 : (P.eraseIdx i)[m] = P[z] := by
    rw [List.getElem_eraseIdx]
    by_cases h : m < i
    · rw [dif_pos h]; simp only [h1 h]
    · rw [dif_neg h]; simp only [h2 h]
   rw [e, e2]
   exact (D.row z hz hz').keep (by omega) fun _ _ => hg _ (D.nx z hz)
 · obtain ⟨z, hz, h1, h2, e1⟩ := key m hm
   obtain ⟨w, hw, f1, f2, e2⟩ := key m' hm'
   rw [e1, e2] at e
   have := D.dis z w hz hw e
   by_cases ha : m < i <;> by_cases hb : m' < i
   · rw [h1 ha, f1 hb] at this; exact this
   · rw [h1 ha, f2 hb] at this; omega
   · rw [h2 ha, f1 hb] at this; omega
   · rw [h2 ha, f2 hb] at this; omega
 · obtain ⟨z, hz, _, _, e⟩ := key m hm
   rw [e, hb]; exact D.nx z hz
theorem jk {l : List (List Int)} {i : Nat} (hi : i < l.length) : l[i] ∈ l.take (i + 1) := by
 rw [bK hi]; exact List.mem_append_right _ (List.mem_singleton.2 rfl)
theorem QY : ao Tryz.prog 26 = some (1, false) := by kernel_rfl
theorem P1 : ep Tryz.prog 26 = some .nils := by kernel_rfl
section
variable {K : Ctx} {h : Hp}
theorem kI (H : Std K) : ao K.P 26 = some (1, false) := by rw [H.hP]; exact QY
theorem C3 (H : Std K) : ao K.P 45 = some (1, false) := by rw [H.hP]; exact z45
theorem fj {k e : Nat} {v : CV} (hg : h.get k = .cells [v] 0 e) : ah h (.ptr k 0) (some (1, false)) = some v := by
 show dj 0 1 false (h.get k) = _
 rw [hg]; rfl
theorem vW {k e : Nat} {u v : CV} (hg : h.get k = .cells [u] 0 e) (hv : v.one = true) : bg h (.ptr k 0) v (some (1, false)) = some (.undef, h.set k (.cells [v] 0 e)) := by
 have hc := eW hv
 have hsol : v.sol = true := by simp [CV.sol, hc, hv]
 have hset : setAt [u] 0 [v] = [v] := rfl
 show de h k 0 1 v (h.get k) = _
 rw [hg]
 simp only [de, hsol, hc, List.length_cons, List.length_nil, Nat.beq_refl, hset, Bool.and_self, Nat.zero_add]
 rfl
theorem wS (H : Std K) (PC : bT K) {a : List Int} {v : Int} (hbig : a.length < 4611686018427387904) {x : CV} (ha : Row h x (ak a)) : ∃ n, Comes K 125 [x, .nu .i64 v] h (.nu .i64 n) h ∧ ck 0 n = dy a v := by
 have hf : K.P.funcs[125]? = some Tryz.f125 := by rw [H.hP]; exact Tryz.func125
 have hlen := cL H ha
 rw [ar] at hlen
 obtain ⟨s1, r1, k0, k1, k7, k8, ks⟩ : ∃ s1, io K [1, 0, 0] (T.set (entry 0 [x, .nu .i64 v]) 4 (.nu .i64 0)) h .normal s1 h ∧ s1.at 0 = x ∧ s1.at 1 = .nu .i64 v ∧ s1.at 7 = .nu .i64 (.ofNat a.length) ∧ s1.at 8 = .nu .i64 (.ofNat 0) ∧ s1.at ag = .undef := ⟨_, Li H.hk rfl hlen, rfl, rfl, rfl, rfl, rfl⟩
 have L := bQ (K := K) (f := 125) (n := 19) (c := aL [1, 0, 1, 0, 0] (ax Tryz.f125)) (s := s1) (h := h) (m := a.length) (b := 0) (I := fun i s g => g = h ∧ s.at 0 = x ∧ s.at 1 = .nu .i64 v ∧ s.at 7 = .nu .i64 (.ofNat a.length) ∧ s.at 8 = .nu .i64 (.ofNat i) ∧ s.at ag = .undef ∧ (a.take i).any (fun y => dJ y v) = false)
  (E := fun s g => g = h ∧ s.at ag = .undef ∧ dy a v = false) (R := fun s g => g = h ∧ s.at ag = .undef ∧ dy a v = true ∧ ∃ j : Nat, s.at 4 = .nu .i64 (.ofNat j)) ⟨rfl, k0, k1, k7, k8, ks, rfl⟩
  (fun i s g hi ⟨e, g0, g1, g7, g8, gs, hall⟩ => by
    subst e
    obtain ⟨q, hp1, hp2⟩ := fM H ha hi
    by_cases hq : v = a[i]
    · exact .inr (.inl ⟨_, _, uP H.hk H.prim PC g8 g7 g1 g0 (aJ hi) hp1 hp2 (jj hq), rfl, gs, jT hi (jH hq.symm), i, rfl⟩)
    · exact .inl ⟨_, _, uQ H.hk H.prim PC g8 g7 g1 g0 (aJ hi) hp1 hp2 (fv hq) (bh (by omega)), rfl, g0, g1, g7, rfl, gs, kD hi hall (jI (Ne.symm hq))⟩)
  (fun s g ⟨e, g0, g1, g7, g8, gs, hall⟩ => by
    subst e
    exact ⟨_, _, wP H.hk H.prim PC g8 g7 (aQ (Nat.le_refl _)), rfl, gs, by rw [List.take_length] at hall; exact hall⟩)
 rcases L with ⟨s', h', r, rfl, hs, hv⟩ | ⟨s', h', r, rfl, hs, hv, j, hj⟩
 · rw [hv]
   exact ⟨-1, H.go hf (Runs.seq (Bq H.hk) (Runs.seq (Runs.seq r1 r) (HT H.hk H.prim PC))) (.inr rfl) (Nat.le_refl _) hs rfl rfl, rfl⟩
 · rw [hv]
   exact ⟨.ofNat j, H.go hf (Runs.seq (Bq H.hk) (ay (Runs.seq r1 r) (by simp))) (.inr rfl) (Nat.le_refl _) hs (by show some [Fr.at s' 4] = _; rw [hj]) rfl, fA (by simp)⟩
theorem C4 (H : Std K) (PC : bT K) {a : List Int} {v : Int} (hbig : a.length < 4611686018427387904) {y q : CV} (ha : Row h y (ak a)) (hq : Box h q (.nu .i64 v)) : Comes K 88 [y, q] h (.bo (dy a v)) h := by
 have hf : K.P.funcs[88]? = some Tryz.f88 := by rw [H.hP]; exact Tryz.func88
 have hf2 : K.P.funcs[89]? = some Tryz.f89 := by rw [H.hP]; exact Tryz.func89
 obtain ⟨n, c, hn⟩ := wS H PC (v := v) hbig ha
 have o8 := kw (P := K.P) (t := 3) n 0
 rw [hn] at o8
 have c89 : Comes K 89 [y, .nu .i64 v] h (.bo (dy a v)) h := dD hf2 rfl (H.memo 89 (by decide)) (H.spec 89) rfl (Qz H.hk H.prim PC (s := entry 0 [y, .nu .i64 v]) rfl rfl c o8) (.inr rfl) (Nat.le_refl _) rfl rfl rfl
 exact H.go hf (Qy H.hk H.prim PC (s := entry 0 [y, q]) rfl rfl (hq.load (by rw [H.hP]; exact z3)) c89) (.inr rfl) (Nat.le_refl _) rfl rfl rfl
theorem vX (H : Std K) (PC : bT K) (ok : HpOk h) {N kb : Nat} {o : CV} {ds : List CV} {P : List (List Int)} (hkb : kb < h.n) (hg : h.get kb = .cells [o] 0 26) (D : Sepd N h o ds P) (hP : P.length < 4611686018427387904) (hsm : ∀ c ∈ P, c.length < 4611686018427387904) {v : Int} (hv : ∃ c ∈ P, v ∈ c) : ga K 86 [.nu .i64 v, .ptr kb 0] h fun r _ => ∃ i : Nat, r = .nu .i64 (.ofNat i) ∧ ∃ hi : i < P.length, v ∈ P[i] := by
 have hf : K.P.funcs[86]? = some Tryz.f86 := by rw [H.hP]; exact Tryz.func86
 have hf2 : K.P.funcs[87]? = some Tryz.f87 := by rw [H.hP]; exact Tryz.func87
 obtain ⟨F, B, b1, bx⟩ := By (h := h) (t := 3) (v := .nu .i64 v) rfl (show ao K.P 3 = some (1, false) by rw [H.hP]; exact z3)
 have S1 : Same h.n h (h.push B) := Same.push (Nat.le_refl _) _
 have D1 := D.mono S1
 have hg1 : (h.push B).get kb = .cells [o] 0 26 := by rw [S1.get kb hkb]; exact hg
 have hlen := bS H D1.out.row
 rw [D.len] at hlen
 obtain ⟨s1, r1, k0, k1, k7, k8, ks⟩ : ∃ s1, qd K [1, 0, 0] (T.set (entry 0 [o, .fn 88 [F h.n]]) 4 (.nu .i64 0)) (h.push B) .normal s1 (h.push B) ∧ s1.at 0 = o ∧ s1.at 1 = .fn 88 [F h.n] ∧ s1.at 7 = .nu .i64 (.ofNat P.length) ∧ s1.at 8 = .nu .i64 (.ofNat 0) ∧ s1.at ag = .undef := ⟨_, Pk H.hk rfl hlen, rfl, rfl, rfl, rfl, rfl⟩
 have L := bQ (K := K) (f := 87) (n := 19) (c := aL [1, 0, 1, 0, 0] (ax Tryz.f87)) (s := s1) (h := h.push B) (m := P.length) (b := 0) (I := fun i s g => g = h.push B ∧ s.at 0 = o ∧ s.at 1 = .fn 88 [F h.n] ∧ s.at 7 = .nu .i64 (.ofNat P.length) ∧ s.at 8 = .nu .i64 (.ofNat i) ∧ s.at ag = .undef ∧ ∀ c ∈ P.take i, v ∉ c)
  (E := fun s g => False) (R := fun s g => g = h.push B ∧ s.at ag = .undef ∧ ∃ j : Nat, s.at 4 = .nu .i64 (.ofNat j) ∧ ∃ hj : j < P.length, v ∈ P[j]) ⟨rfl, k0, k1, k7, k8, ks, by simp⟩
  (fun i s g hi ⟨e, g0, g1, g7, g8, gs, hall⟩ => by
    subst e
    obtain ⟨q, hp1, hp2⟩ := dT H D1.out.row (i := i) (by rw [D.len]; exact hi)
    have hr := D1.rows.get (i := i) (by rw [D.len]; exact hi) hi
    have c := C4 H PC (v := v) (hsm _ (List.getElem_mem hi)) hr bx
    cases hq : dy P[i] v with
    | true =>
     rw [hq] at c
     exact .inr (.inl ⟨_, _, wN H.hk H.prim PC g8 g7 g1 g0 (aJ hi) hp1 hp2 rfl c, rfl, gs, i, rfl, hi, (mF _ _).1 hq⟩)
    | false =>
     rw [hq] at c
     refine .inl ⟨_, _, wO H.hk H.prim PC g8 g7 g1 g0 (aJ hi) hp1 hp2 rfl c (bh (by omega)), rfl, g0, g1, g7, rfl, gs, fun d hd => ?_⟩
     rw [bK hi] at hd
     rcases List.mem_append.1 hd with hd | hd
     · exact hall d hd
     · rw [List.mem_singleton.1 hd]; intro hm; rw [(mF _ _).2 hm] at hq; cases hq)
  (fun s g ⟨e, g0, g1, g7, g8, gs, hall⟩ => by
    obtain ⟨c, hc, hm⟩ := hv
    rw [List.take_length] at hall
    exact absurd hm (hall c hc))
 rcases L with ⟨s', h', r, hF⟩ | ⟨s', h', r, rfl, hs, j, h4, hj, hm⟩
 · exact hF.elim
 have c87 : Comes K 87 [o, .fn 88 [F h.n]] (h.push B) (.nu .i64 (.ofNat j)) (h.push B) := dD hf2 rfl (H.memo 87 (by decide)) (H.spec 87) rfl (Runs.seq (Pj H.hk) (ay (Runs.seq r1 r) (by simp))) (.inr rfl) (Nat.le_refl _) hs (by show some [Fr.at s' 4] = _; rw [h4]) rfl
 exact ⟨_, _, H.go hf (Qx H.hk H.prim PC (s := entry 0 [.nu .i64 v, .ptr kb 0]) rfl rfl b1 (by rw [kI H]; exact fj hg1) c87) (.inr rfl) S1.n rfl rfl rfl, S1, ok.push _, j, rfl, hj, hm⟩
def u9 (K : Ctx) (c : List Int) : Prop := ∀ {g : Hp} {N : Nat} {y : CV}, HpOk g → N ≤ g.n → Out N g 3 y (ak c) → ∃ g', Comes K 90 [y] g (.tup []) g' ∧ Same N g g' ∧ HpOk g' ∧ Out N g' 3 y (ak (sortI c))
theorem zk {c : List Int} (hn : c.Nodup) {n : Nat} (hv : ∀ v ∈ c, 0 ≤ v ∧ v < n) : c.length ≤ n := by
 have := QI n (c.map Int.toNat) (by
  rw [List.Nodup, List.pairwise_map]
  exact List.Pairwise.imp_of_mem (fun {a b} ha hb hab e => hab (by have := (hv a ha).1; have := (hv b hb).1; omega)) hn) fun x hx => by
   obtain ⟨v, hv', rfl⟩ := List.mem_map.1 hx
   have := hv v hv'
   omega
 simpa using this
theorem LE {a b : Nat} (h : a ≤ b) : iU (.nu .i64 (.ofNat a)) (.nu .i64 (.ofNat b)) = some (.nu .i64 (.ofNat a)) := by
 simp only [iU, fA (show Int.ofNat a ≤ Int.ofNat b by simp; omega)]
theorem LF {a b : Nat} (h : b < a) : iU (.nu .i64 (.ofNat a)) (.nu .i64 (.ofNat b)) = some (.nu .i64 (.ofNat b)) := by
 simp only [iU, gp (show Int.ofNat b < Int.ofNat a by simp; omega)]
theorem LH {a b : Nat} (h : a < b) : mM (.nu .i64 (.ofNat a)) (.nu .i64 (.ofNat b)) = some (.nu .i64 (.ofNat b)) := by
 simp only [mM, gp (show Int.ofNat a < Int.ofNat b by simp; omega)]
theorem LI {a b : Nat} (h : b ≤ a) : mM (.nu .i64 (.ofNat a)) (.nu .i64 (.ofNat b)) = some (.nu .i64 (.ofNat a)) := by
 simp only [mM, fA (show Int.ofNat b ≤ Int.ofNat a by simp; omega)]
structure lz (h : Hp) (l : List (List Int)) (kb i : Nat) (g : Hp) : Prop where
 ok : HpOk g
 same : Same h.n h g
 kn : kb < g.n
 st : ∃ o ds P, g.get kb = .cells [o] 0 26 ∧ Sepd (kb + 1) g o ds P ∧ CompOk (l.take i) l P ∧ P.length ≤ i ∧ ((∀ a ∈ l.take i, a.length ≤ 1) → Out (kb + 1) g 45 o ds)
theorem Gh (H : Std K) {l : List (List Int)} (hC : Cx l) {kb : Nat} (hkb : h.n ≤ kb) {i : Nat} (hi : i < l.length) {g : Hp} (C : lz h l kb i g) {x : CV} (h1 : l[i].length = 1) (hx : Row g x (ak l[i])) :
  ∃ o y F B g1 g2 g3 o', ah g (.ptr kb 0) (ao K.P 26) = some o ∧ ceq o o = true ∧ Comes K 69 [x] g y g1 ∧ ah g1 (.ptr kb 0) (ao K.P 26) = some o ∧ aM 1 [(0, y)] (ae K.P 26) = some (F, B) ∧ ah (g1.push B) (.ptr kb 0) (ao K.P 26) = some o ∧ aT (g1.push B) o (F g1.n) (ae K.P 26) (ae K.P 26) = some (o', g2) ∧ bg g2 (.ptr kb 0) o' (ao K.P 26) = some (.undef, g3) ∧ lz h l kb (i + 1) g3 := by
 obtain ⟨o, ds, P, hg, D, Ck, hPl, hO⟩ := C.st
 have hll := hC.le
 obtain ⟨v, hv⟩ : ∃ v, l[i] = [v] := by
  match hq : l[i], h1 with
  | [v], _ => exact ⟨v, rfl⟩
 have hsm : ∀ a ∈ l.take i, a.length ≤ 1 := fun a ha => by
  obtain ⟨j, hj, rfl⟩ := List.mem_take_iff_getElem.1 ha
  have := Srt.len_le hC.srt (i := j) (j := i) (by omega) hi (by omega)
  omega
 obtain ⟨y, g1, c69, S1, bH, oy⟩ := oS H C.ok (by rw [hv]; simp) (by rw [h1]; decide) hx
 obtain ⟨F, B, o', g2, b1, b2, b3, b4, b5, b6⟩ := D.app (P0 := K.P) (t := 26) (by rw [H.hP]; exact gG) (hO hsm) C.kn S1 bH oy (by rw [hv]; simp) (by decide) (by rw [D.len]; omega)
 have hk1 : kb < g1.n := Nat.lt_of_lt_of_le C.kn S1.n
 have hg1 : g1.get kb = .cells [o] 0 26 := by rw [S1.get kb C.kn]; exact hg
 have hgp : (g1.push B).get kb = .cells [o] 0 26 := by rw [(Same.push (Nat.le_refl _) B).get kb hk1]; exact hg1
 have hg2 : g2.get kb = .cells [o] 0 26 := by rw [b5.get kb (Nat.lt_succ_self _)]; exact hg1
 have hk2 : kb < g2.n := Nat.lt_of_lt_of_le hk1 b5.n
 have hlow : ∀ j, kb + 1 ≤ j → j < g2.n → (g2.set kb (.cells [o'] 0 26)).get j = g2.get j := fun j hj _ => by rw [Hp.get_set, if_neg (by omega)]
 refine ⟨o, y, F, B, g1, g2, g2.set kb (.cells [o'] 0 26), o', by rw [kI H]; exact fj hg, D.out.row.ceq, c69, by rw [kI H]; exact fj hg1, b1, by rw [kI H]; exact fj hgp, b2, by rw [kI H]; exact vW hg2 b3.row.one, ⟨b6.set hk2 _, ?_, hk2, ?_⟩⟩
 · exact ((C.same.trans (S1.le C.same.n)).trans (b5.le (by omega))).trans (Same.set hkb _)
 · refine ⟨o', ds ++ [y], P ++ [l[i]], by rw [Hp.get_set, if_pos rfl], b4.keep (Nat.le_refl _) hlow, ?_, by simp; omega, fun _ => b3.keep (Nat.le_refl _) fun hj _ => hlow _ hj (by assumption)⟩
   rw [bK hi, hv]
   refine Ck.vert (fun w hw => ?_) hsm
   obtain ⟨j, hj, e⟩ := List.mem_take_iff_getElem.1 hw
   have : LtS l[j] l[i] := List.pairwise_iff_getElem.1 hC.srt j i (by omega) hi (by omega)
   rw [e, hv] at this
   unfold LtS aW at this
   simp only [List.length_singleton, if_true, cP] at this
   cases hq : ck v w with
   | false =>
    rw [dN] at hq
    have := of_decide_eq_false hq
    omega
   | true =>
    rw [hq] at this
    cases hq2 : ck w v with
    | false => rw [hq2] at this; exact absurd this (by decide)
    | true => rw [hq2] at this; exact absurd this (by decide)
theorem Gi {l : List (List Int)} (hC : Cx l) {kb : Nat} {i : Nat} (hi : i < l.length) {g : Hp} (C : lz h l kb i g) (h3 : 3 ≤ l[i].length) : lz h l kb (i + 1) g := by
 obtain ⟨o, ds, P, hg, D, Ck, hPl, hO⟩ := C.st
 refine ⟨C.ok, C.same, C.kn, o, ds, P, hg, D, by rw [bK hi]; exact Ck.skip h3, by omega, fun hs => ?_⟩
 have := hs l[i] (jk hi)
 omega
theorem vY (H : Std K) (PN : eF K) {l : List (List Int)} (hC : Cx l) (hS : ∀ c : List Int, c ≠ [] → c.Nodup → (∀ v ∈ c, [v] ∈ l) → u9 K c) {kb : Nat} (hkb : h.n ≤ kb) {i : Nat} (hi : i < l.length) {a b : Int} (hab : l[i] = [a, b]) {g : Hp} (ok : HpOk g) (S : Same h.n h g) (hkn : kb < g.n) {o : CV} {ds : List CV} {P : List (List Int)} (hg : g.get kb = .cells [o] 0 26) (D : Sepd (kb + 1) g o ds P) (Ck : CompOk (l.take i) l P) (hPl : P.length ≤ i) {lo hi' : Nat} (hlt : lo < hi') (hhi : hi' < P.length) (hm : (a ∈ P[lo]'(by omega) ∧ b ∈ P[hi']) ∨ (b ∈ P[lo]'(by omega) ∧ a ∈ P[hi'])) :
  ∃ p q u w y g3 g4 g5 g6 g7 r, ah g (.ptr kb 0) (ao K.P 26) = some o ∧ ceq o o = true ∧ af o (.nu .i64 (.ofNat lo)) (ae K.P 26) = some p ∧ ah g p (ao K.P 45) = some u ∧ ceq u u = true ∧ af o (.nu .i64 (.ofNat hi')) (ae K.P 26) = some q ∧ ah g q (ao K.P 45) = some w ∧ aT g u w (ae K.P 45) (ae K.P 45) = some (y, g3) ∧ ah g3 (.ptr kb 0) (ao K.P 26) = some o ∧ bg g3 p y (ao K.P 45) = some (.undef, g4) ∧ ah g4 (.ptr kb 0) (ao K.P 26) = some o ∧ ah g4 p (ao K.P 45) = some y ∧ Comes K 90 [y] g4 (.tup []) g5 ∧ ah g5 (.ptr kb 0) (ao K.P 26) = some o ∧ Comes K 91 [o, .nu .i64 (.ofNat hi'), .nu .i64 (.ofNat (hi' + 1))] g5 r g6 ∧ bg g6 (.ptr kb 0) r (ao K.P 26) = some (.undef, g7) ∧ lz h l kb (i + 1) g7 := by
 have hll := hC.le
 have hlo : lo < P.length := by omega
 have hlo' : lo < ds.length := by rw [D.len]; exact hlo
 have hhi2 : hi' < ds.length := by rw [D.len]; exact hhi
 have hnd := Ck.two_nodup (i := lo) (j := hi') (by omega) hlo hhi
 have hmem : ∀ v ∈ P[lo] ++ P[hi'], [v] ∈ l := fun v hv => by
  have : [v] ∈ l.take i := (Ck.part.cov v).2 (by
   rcases List.mem_append.1 hv with h | h
   · exact ⟨_, List.getElem_mem hlo, h⟩
   · exact ⟨_, List.getElem_mem hhi, h⟩)
  exact List.mem_of_mem_take this
 have hlen := zk (n := 64) hnd fun v hv => (hC.ok _ (hmem v hv)).rng v (by simp)
 rw [List.length_append] at hlen
 have hne : P[lo] ++ P[hi'] ≠ [] := by simp [D.ne _ (List.getElem_mem hlo)]
 obtain ⟨p, q, y, g3, g4, e1, e2, e3, e4, e5, e6, e7, S3, S4, ti, n4, oy, hD⟩ := D.merge (P0 := K.P) (by rw [H.hP]; exact t45) (by rw [H.hP]; exact gG) hkn ok (i := lo) (j := hi') (by omega) hlo' hhi2 hlo hhi (by omega)
 obtain ⟨g5, c90, S5, gH, oy5⟩ := hS _ hne hnd hmem ti n4 oy
 have hsne : sortI (P[lo] ++ P[hi']) ≠ [] := fun e => by
  have := dG (P[lo] ++ P[hi'])
  rw [e, List.length_append] at this
  have h1 : 0 < P[lo].length := List.length_pos_iff.2 (D.ne _ (List.getElem_mem hlo))
  simp at this; omega
 have D5 := hD g5 _ hsne S5 oy5
 have hl5 : (ds.set lo y).length = ds.length := List.length_set
 have hdl := D.len
 obtain ⟨r, g6, c91, S6, ok6, n6, o6, hb6, hg6⟩ := Ge H PN gH D5.out (i := hi') (by omega) D5.rows.one (by omega)
 have D6 := D5.erase n6 o6 hb6 hg6
 have hg3 : g3.get kb = .cells [o] 0 26 := by rw [S3.get kb (Nat.lt_succ_self _)]; exact hg
 have hg4 : g4.get kb = .cells [o] 0 26 := by rw [S4.get kb (Nat.lt_succ_self _)]; exact hg
 have hg5 : g5.get kb = .cells [o] 0 26 := by rw [S5.get kb hkn]; exact hg4
 have hg6' : g6.get kb = .cells [o] 0 26 := by rw [S6.get kb (Nat.lt_succ_self _)]; exact hg5
 have hk6 : kb < g6.n := by have := S5.n; omega
 have hlow : ∀ j, kb + 1 ≤ j → j < g6.n → (g6.set kb (.cells [r] 0 26)).get j = g6.get j := fun j hj _ => by rw [Hp.get_set, if_neg (by omega)]
 have hn := S.n
 refine ⟨p, q, ds[lo], ds[hi'], y, g3, g4, g5, g6, g6.set kb (.cells [r] 0 26), r, by rw [kI H]; exact fj hg, D.out.row.ceq, e1, by rw [C3 H]; exact e3, (D.row lo hlo' hlo).row.ceq, e2, by rw [C3 H]; exact e4, e5, by rw [kI H]; exact fj hg3, by rw [C3 H]; exact e6, by rw [kI H]; exact fj hg4, by rw [C3 H]; exact e7, c90, by rw [kI H]; exact fj hg5, c91, by rw [kI H]; exact vW hg6' o6.row.one, ⟨ok6.set hk6 _, ?_, hk6, ?_⟩⟩
 · exact (((S.trans (S4.le (by omega))).trans (S5.le hn)).trans (S6.le (by omega))).trans (Same.set hkb _)
 · refine ⟨r, _, _, by rw [Hp.get_set, if_pos rfl], D6.keep (Nat.le_refl _) hlow, ?_, ?_, fun hs => ?_⟩
   · rw [bK hi, hab]
     exact Ck.join (by rw [← hab]; exact List.getElem_mem hi) hlt hhi hm
   · rw [List.length_eraseIdx, List.length_set]; split <;> omega
   · have := hs l[i] (jk hi)
     rw [hab] at this; simp at this
theorem Gj (H : Std K) (PC : bT K) (PN : eF K) (ok : HpOk h) {l : List (List Int)} (hl : fP l) (he : bc l = 0) (hC : Cx l) (hS : ∀ c : List Int, c ≠ [] → c.Nodup → (∀ v ∈ c, [v] ∈ l) → u9 K c) {x : CV} {cs : List CV} (hx : Row h x cs) (hxs : Rows h cs l) : ga K 36 [x] h fun r h' => ∃ o ds P, r = .tup [o, .nu .i64 0] ∧ Sepd h.n h' o ds P ∧ CompOk l l P := by
 have hf : K.P.funcs[36]? = some Tryz.f36 := by rw [H.hP]; exact Tryz.func36
 have hcl := hxs.length
 have hll := hC.le
 obtain ⟨rv, h1, c26, S1, bH, rfl⟩ := gV H ok hl hx hxs
 have o5 : gI 26 (ep K.P 26) = some (fun k => .ptr k 0, .cells [.nils] 0 26) := by rw [H.hP, P1]; rfl
 obtain ⟨sa, ra, a0, as'⟩ : ∃ s1, dZ K [1, 0] (T.set (T.set (entry 0 [x]) 2 .nils) 3 (.nu .i64 0)) h .normal s1 h1 ∧ s1.at 0 = x ∧ s1.at ag = .undef := ⟨_, FC H.hk H.prim PC rfl c26 (eV he), rfl, rfl⟩
 obtain ⟨sb, rb, b0, b5, bs⟩ : ∃ s1, dZ K [1, 1, 0] sa h1 .normal s1 (h1.push (.cells [.nils] 0 26)) ∧ s1.at 0 = x ∧ s1.at 5 = .ptr h1.n 0 ∧ s1.at ag = .undef := ⟨_, Ow H.hk o5, a0, rfl, as'⟩
 have Sp : Same h.n h (h1.push (.cells [.nils] 0 26)) := S1.trans (Same.push S1.n _)
 have hlen2 := eQ H (hx.mono Sp ok (Nat.le_refl _))
 rw [hcl] at hlen2
 obtain ⟨sc, rc, c5, c16, c17, c18, cs'⟩ : ∃ s1, dZ K [1, 1, 1, 0, 0] sb (h1.push (.cells [.nils] 0 26)) .normal s1 (h1.push (.cells [.nils] 0 26)) ∧ s1.at 5 = .ptr h1.n 0 ∧ s1.at 16 = x ∧ s1.at 17 = .nu .i64 (.ofNat l.length) ∧ s1.at 18 = .nu .i64 (.ofNat 0) ∧ s1.at ag = .undef := ⟨_, Ox H.hk b0 hlen2, b5, rfl, rfl, rfl, bs⟩
 have C0 : lz h l h1.n 0 (h1.push (.cells [.nils] 0 26)) := ⟨bH.push _, Sp, Nat.lt_succ_self _, .nils, [], [], by rw [aB, if_pos rfl], Sepd.nil _ _, CompOk.nil l, Nat.le_refl _, fun _ => .nils⟩
 obtain ⟨s', h', r, C', hs', h5'⟩ := bA (K := K) (f := 36) (n := 77) (c := aL [1, 1, 1, 0, 1, 0, 0] (ax Tryz.f36)) (s := sc) (h := h1.push (.cells [.nils] 0 26)) (m := l.length) (b := 0)
  (I := fun i s g => lz h l h1.n i g ∧ s.at 5 = .ptr h1.n 0 ∧ s.at 16 = x ∧ s.at 17 = .nu .i64 (.ofNat l.length) ∧ s.at 18 = .nu .i64 (.ofNat i) ∧ s.at ag = .undef)
  (E := fun s g => lz h l h1.n l.length g ∧ s.at ag = .undef ∧ s.at 5 = .ptr h1.n 0) ⟨C0, c5, c16, c17, c18, cs'⟩
  (fun i s g hi ⟨C, g5, g16, g17, g18, gs⟩ => by
    have hr := hx.mono C.same ok (Nat.le_refl _)
    obtain ⟨p, hp1, hp2⟩ := ip H hr (i := i) (by omega)
    have hri := (hxs.get (i := i) (by omega) hi).mono C.same ok (Nat.le_refl _)
    have hli := fg H hri
    rw [ar] at hli
    have okS := hC.ok _ (List.getElem_mem hi)
    have hpos := List.length_pos_iff.2 okS.ne
    by_cases e1 : l[i].length = 1
    · obtain ⟨o, y, F, B, g1, g2, g3, o', d1, d2, d3, d4, d5, d6, d7, d8, C'⟩ := Gh H hC S1.n hi C e1 hri
      exact ⟨_, _, ss H.hk H.prim PC g18 g17 g16 g5 (aJ hi) hp1 hp2 hli (jj (by rw [e1]; rfl)) d1 d2 d3 d4 d5 d6 d7 d8 (bh (by omega)), C', g5, g16, g17, rfl, gs⟩
    have n1 : ab K.P .eql 3 (.nu .i64 (.ofNat l[i].length)) (.nu .i64 1) = some (.bo false) := fv (fi (b := 1) e1)
    by_cases e2 : l[i].length = 2
    case neg =>
     exact ⟨_, _, qK H.hk H.prim PC g18 g17 g16 (aJ hi) hp1 hp2 hli n1 (fv (fi (b := 2) e2)) (bh (by omega)), Gi hC hi C (by omega), g5, g16, g17, rfl, gs⟩
    have n2 : ab K.P .eql 3 (.nu .i64 (.ofNat l[i].length)) (.nu .i64 2) = some (.bo true) := jj (by rw [e2]; rfl)
    obtain ⟨a, b, hab⟩ : ∃ a b, l[i] = [a, b] := by
     match hq : l[i], e2 with
     | [a, b], _ => exact ⟨a, b, rfl⟩
    obtain ⟨o, ds, P, hg, D, Ck, hPl, hO⟩ := C.st
    have hPs : ∀ c ∈ P, c.length < 4611686018427387904 := fun c hc => by
     have := zk (n := 64) (pc (Ck.asc c hc)) fun v hv => (hC.ok _ (List.mem_of_mem_take ((Ck.part.cov v).2 ⟨c, hc, hv⟩))).rng v (by simp)
     omega
    obtain ⟨pa, ha1, ha2⟩ := jh H hri (i := 0) (by omega)
    obtain ⟨pb, hb1, hb2⟩ := jh H hri (i := 1) (by omega)
    have ea : l[i][0]'(by omega) = a := by simp [hab]
    have eb : l[i][1]'(by omega) = b := by simp [hab]
    rw [ea] at ha2
    rw [eb] at hb2
    have hva := (Ck.part.cov a).1 (sU hC hi (by rw [hab]; simp) (by omega))
    have hvb := (Ck.part.cov b).1 (sU hC hi (by rw [hab]; simp) (by omega))
    obtain ⟨rv, g1, ca, Sa, oka, ia, rfl, hia, hma⟩ := vX H PC C.ok C.kn hg D (by omega) hPs hva
    have hg1 : g1.get h1.n = .cells [o] 0 26 := by rw [Sa.get _ C.kn]; exact hg
    have D1 := D.mono Sa
    have hk1 : h1.n < g1.n := Nat.lt_of_lt_of_le C.kn Sa.n
    obtain ⟨rv, g2, cb, Sb, okb, ib, rfl, hib, hmb⟩ := vX H PC oka hk1 hg1 D1 (by omega) hPs hvb
    have hg2 : g2.get h1.n = .cells [o] 0 26 := by rw [Sb.get _ hk1]; exact hg1
    have D2 := D1.mono Sb
    have hk2 : h1.n < g2.n := Nat.lt_of_lt_of_le hk1 Sb.n
    obtain ⟨pb', hb1', hb2'⟩ := jh H (hri.mono Sa C.ok (Nat.le_refl _)) (i := 1) (by omega)
    rw [hb1] at hb1'; cases hb1'
    rw [eb] at hb2'
    have Sg2 : Same h.n h g2 := (C.same.trans (Sa.le C.same.n)).trans (Sb.le (Nat.le_trans C.same.n Sa.n))
    by_cases hieq : ia = ib
    · subst hieq
      refine ⟨_, _, pU H.hk H.prim PC g18 g17 g16 g5 (aJ hi) hp1 hp2 hli n1 n2 ha1 ha2 (ee _) hb1 hb2 (ee _) rfl ca hb2' rfl cb (eV rfl) (bh (by omega)), ⟨okb, Sg2, hk2, o, ds, P, hg2, D2, by rw [bK hi, hab]; exact Ck.same hia hma hmb, by omega, fun hs => ?_⟩, g5, g16, g17, rfl, gs⟩
      have := hs l[i] (jk hi)
      omega
    · rcases Nat.lt_or_gt_of_ne hieq with hlt | hgt
      · obtain ⟨p', q', u, w, y, g3, g4, g5', g6, g7, r, d1, d2, d3, d4, d5, d6, d7, d8, d9, d10, d11, d12, d13, d14, d15, d16, C'⟩ := vY H PN hC hS S1.n hi hab okb Sg2 hk2 hg2 D2 Ck hPl hlt hib (.inl ⟨hma, hmb⟩)
        exact ⟨_, _, jr H.hk H.prim PC g18 g17 g16 g5 (aJ hi) hp1 hp2 hli n1 n2 ha1 ha2 (ee _) hb1 hb2 (ee _) rfl ca hb2' rfl cb (gz (fi hieq)) (LE (Nat.le_of_lt hlt)) (LH hlt) d1 d2 d2 d3 d4 d5 d2 d6 d7 d8 d9 d10 d11 d3 d12 d13 d14 (bh (by omega)) d15 d16 (bh (by omega)), C', g5, g16, g17, rfl, gs⟩
      · obtain ⟨p', q', u, w, y, g3, g4, g5', g6, g7, r, d1, d2, d3, d4, d5, d6, d7, d8, d9, d10, d11, d12, d13, d14, d15, d16, C'⟩ := vY H PN hC hS S1.n hi hab okb Sg2 hk2 hg2 D2 Ck hPl hgt hia (.inr ⟨hmb, hma⟩)
        exact ⟨_, _, jr H.hk H.prim PC g18 g17 g16 g5 (aJ hi) hp1 hp2 hli n1 n2 ha1 ha2 (ee _) hb1 hb2 (ee _) rfl ca hb2' rfl cb (gz (fi hieq)) (LF hgt) (LI (Nat.le_of_lt hgt)) d1 d2 d2 d3 d4 d5 d2 d6 d7 d8 d9 d10 d11 d3 d12 d13 d14 (bh (by omega)) d15 d16 (bh (by omega)), C', g5, g16, g17, rfl, gs⟩)
  (fun s g ⟨C, g5, g16, g17, g18, gs⟩ => ⟨_, _, uL H.hk H.prim PC g18 g17 (aQ (Nat.le_refl _)), C, gs, g5⟩)
 obtain ⟨o, ds, P, hg, D, Ck, _, _⟩ := C'.st
 rw [List.take_length] at Ck
 have hkb : h.n ≤ h1.n + 1 := by have := S1.n; omega
 exact ⟨_, h', H.go hf (Runs.seq (Fa H.hk) (Runs.seq ra (Runs.seq rb (Runs.seq (Runs.seq rc r) (FD H.hk H.prim PC h5' (by rw [kI H]; exact fj hg)))))) (.inr rfl) C'.same.n hs' rfl rfl, C'.same, C'.ok, o, ds, P, rfl, D.low hkb, Ck⟩
end
end Go.CP
