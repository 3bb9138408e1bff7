import Derived.Test.YtadagifjonbmjaaGreatDoorKl3
import Derived.Test.YtadagifjonbmjaaGreatDoorKw1
import Derived.Test.YtadagifjonbmjaaGreatDoorKl2
set_option linter.all false
namespace Go.CP
open Go.Proofs
variable [LG] [HK]
def FA (cs : List CV) : List Int := cs.filterMap fun c => match c with
 | .nu _ n => if 0 < n then some (n - 1) else none
 | _ => none
theorem tJ {a : List Int} (h : ∀ v ∈ a, 0 ≤ v) : FA (bB a) = a := by
 unfold FA bB
 rw [List.filterMap_append]
 have h2 : List.filterMap (fun c => match c with
   | CV.nu _ n => if 0 < n then some (n - 1) else none
   | _ => none) (List.replicate (5 - a.length) (CV.nu .i64 0)) = [] := by
  rw [List.filterMap_eq_nil_iff]
  intro c hc
  rw [(List.mem_replicate.1 hc).2]; rfl
 rw [h2, List.append_nil]
 induction a with
 | nil => rfl
 | cons v a ih =>
  have hv := h v List.mem_cons_self
  simp only [ah, List.map_cons, List.filterMap_cons, if_pos (show 0 < v + 1 by omega)]
  have := ih (fun w hw => h w (List.mem_cons_of_mem _ hw)) (by rw [List.filterMap_eq_nil_iff]; intro c hc; rw [(List.mem_replicate.1 hc).2]; rfl)
  simp only [ah] at this
  rw [this]
  congr 1; omega
theorem yr {a b : List Int} (ha : OkS a) (hb : OkS b) (h : dH (.agg (bB a)) (.agg (bB b)) = some true) : a = b := by
 have h1 : bB a = bB b := qW h
 rw [← tJ (fun v hv => (ha.rng v hv).1), h1, tJ (fun v hv => (hb.rng v hv).1)]
theorem tK {key v key' : CV} (hk : hZ key) (hk' : hZ key') (hne : dH key' key ≠ some true) : ∀ {es es' : List (CV × CV)}, (∀ e ∈ es, hZ e.1) → gc key v es = some es' → bY key' es = some none → bY key' es' = some none
 | [], es', _, h, _ => by
  cases h
  obtain ⟨b, hb⟩ := gp hk' hk
  cases b with
  | true => exact absurd hb hne
  | false => simp only [bY, hb]
 | (k, u) :: es, es', hn, h, hl => by
  have hku := hn (k, u) List.mem_cons_self
  obtain ⟨b', hb'⟩ := gp hk' hku
  cases b' with
  | true => simp only [bY, hb'] at hl; cases hl
  | false =>
   simp only [bY, hb'] at hl
   obtain ⟨b, hb⟩ := gp hk hku
   cases b with
   | true =>
    simp only [gc, hb] at h
    cases h
    simp only [bY, hb', hl]
   | false =>
    simp only [gc, hb] at h
    split at h
    · rename_i es2 he
      cases h
      simp only [bY, hb']
      exact tK hk hk' hne (fun e he => hn e (List.mem_cons_of_mem _ he)) he hl
    · cases h
structure MapOf (es : List (CV × CV)) (l : List (List Int)) : Prop where
 num : ∀ e ∈ es, hZ e.1
 yes : ∀ a, OkS a → a ∈ l → L6 es a
 no : ∀ a, OkS a → a ∉ l → bY (.agg (bB a)) es = some none
theorem MapOf.put {es es' : List (CV × CV)} {l : List (List Int)} {a : List Int} {k o n c : Nat} (M : MapOf es l) (ha : OkS a) (hu : gc (.agg (bB a)) (.sl k o n c) es = some es') : MapOf es' (l ++ [a]) := by
 obtain ⟨es2, u1, u2, u3, u4⟩ := sw (v := .sl k o n c) (ft ha.le) es M.num
 rw [hu] at u1; cases u1
 refine ⟨u2, fun b hb hm => ?_, fun b hb hm => ?_⟩
 · by_cases he : b = a
   · subst he; exact ⟨_, _, _, _, u3⟩
   · have hm' : b ∈ l := by
      rcases List.mem_append.1 hm with hm | hm
      · exact hm
      · exact absurd (List.mem_singleton.1 hm) he
     obtain ⟨k', o', n', c', hl⟩ := M.yes b hb hm'
     rcases u4 _ _ (ft hb.le) hl with h3 | h3
     · exact ⟨_, _, _, _, h3⟩
     · exact ⟨_, _, _, _, h3⟩
 · have hm' : b ∉ l ∧ b ≠ a := ⟨fun h => hm (List.mem_append_left _ h), fun h => hm (by rw [h]; exact List.mem_append_right _ (List.mem_singleton.2 rfl))⟩
   exact tK (ft ha.le) (ft hb.le) (fun h => hm'.2 (yr hb ha h)) M.num hu (M.no b hb hm'.1)
theorem MapOf.skip {es : List (CV × CV)} {l : List (List Int)} {a : List Int} (M : MapOf es l) (ha : ¬ OkS a) : MapOf es (l ++ [a]) := by
 refine ⟨M.num, fun b hb hm => ?_, fun b hb hm => M.no b hb fun h => hm (List.mem_append_left _ h)⟩
 rcases List.mem_append.1 hm with hm | hm
 · exact M.yes b hb hm
 · rw [List.mem_singleton.1 hm] at hb; exact absurd hb ha
section
variable {K : Ctx} {h : Hp}
theorem In (H : Std K) {h : Hp} {km : Nat} {es : List (CV × CV)} {a : List Int} (hle : a.length ≤ 5) (hg : h.get km = .mp es) (hl : bY (.agg (bB a)) es = some none) : ed K.P h false (.agg (bB a)) (.mp km) (ae K.P 100) = some .nils := by
 have h1 : ae K.P 100 = .map 103 46 := by rw [H.hP]; exact vU
 have h2 : cn K.P 46 = some .nils := by rw [H.hP]; exact KR
 rw [h1]
 simp only [ed, kH H hle, uA, h2, pV, hg, hl, pU, xr]
theorem Es (H : Std K) : ac K.P .eql 46 .nils .nils = some (.bo true) := by
 have : ae K.P 46 = .slice 3 1 8 [.nu .i64 0] := by rw [H.hP]; exact t46
 simp only [ac, qQ, sT, this]
theorem jl (H : Std K) (ok : HpOk h) {l : List (List Int)} (hl : gU l) {x : CV} {cs : List CV} (hx : Row h x cs) (hxs : Rows h cs l) : fV K 26 [x] h fun r _ => r = .nu .i64 (cd l) := by
 have hf : K.P.funcs[26]? = some Tryz.f26 := by rw [H.hP]; exact Tryz.func26
 have hcl := hxs.length
 have hll := hl.len
 have hlen := fc H hx
 rw [hcl] at hlen
 by_cases hbig : 1024 < l.length
 · refine ⟨_, h, H.go hf (Runs.seq (vf H.hk) (aE (AY H.hk H.prim H.pl rfl hlen (nL (by show (1024 : Int) < Int.ofNat _; simp; omega))) (by simp))) (.inr rfl) (Nat.le_refl _) rfl rfl rfl, Same.refl _ _, ok, ?_⟩
   show CV.nu .i64 3 = _
   rw [cd, if_pos hbig]
 have S0 : Same h.n h (h.push (.mp [])) := Same.push (Nat.le_refl _) _
 have hlen1 := fc H (hx.mono S0 ok (Nat.le_refl _))
 rw [hcl] at hlen1
 obtain ⟨s1, r1, j0, js⟩ : ∃ s1, bH K [1, 0] (T.set (entry 0 [x]) 2 (.nu .i64 0)) h .normal s1 h ∧ s1.at 0 = x ∧ s1.at ai = .undef := ⟨_, AZ H.hk H.prim H.pl rfl hlen (sH (by simp; omega)), rfl, rfl⟩
 obtain ⟨s2, r2, k0, k3, k17, k18, k19, ks⟩ : ∃ s2, bH K [1, 1, 1, 0, 0] (T.set (T.set s1 16 (.mp h.n)) 3 (.mp h.n)) (h.push (.mp [])) .normal s2 (h.push (.mp [])) ∧ s2.at 0 = x ∧ s2.at 3 = .mp h.n ∧ s2.at 17 = x ∧ s2.at 18 = .nu .i64 (.ofNat l.length) ∧ s2.at 19 = .nu .i64 (.ofNat 0) ∧ s2.at ai = .undef := ⟨_, I7 H.hk j0 hlen1, j0, rfl, rfl, rfl, rfl, js⟩
 obtain ⟨s3, h3, r3, ct, S3, hkn3, e0, e3, es, hg3, M3, e1⟩ := qj (K := K) (f := 26) (n := 74) (c := aD [1, 1, 1, 0, 1, 0, 0] (an Tryz.f26)) (s := s2) (h := h.push (.mp [])) (m := l.length) (b := 0)
  (I := fun i s g => HpOk g ∧ Same h.n h g ∧ h.n < g.n ∧ s.at 0 = x ∧ s.at 3 = .mp h.n ∧ s.at 17 = x ∧ s.at 18 = .nu .i64 (.ofNat l.length) ∧ s.at 19 = .nu .i64 (.ofNat i) ∧ s.at ai = .undef ∧ ∃ es, g.get h.n = .mp es ∧ MapOf es (l.take i))
  (E := fun s g => HpOk g ∧ Same h.n h g ∧ h.n < g.n ∧ s.at 0 = x ∧ s.at 3 = .mp h.n ∧ ∃ es, g.get h.n = .mp es ∧ MapOf es l ∧ s.at ai = .undef)
  ⟨ok.push _, S0, by simp, k0, k3, k17, k18, k19, ks, [], by rw [ag, if_pos rfl], by simp, by intro a _ hm; simp at hm, fun a _ _ => rfl⟩
  (fun i s g hi ⟨okg, S, hkn, g0, g3, g17, g18, g19, gs, es, hg, M⟩ => by
    have hr := hx.mono S ok (Nat.le_refl _)
    obtain ⟨p, hp1, hp2⟩ := j8 H hr (i := i) (by omega)
    have hxi := (hxs.get (i := i) (by omega) hi).mono S ok (Nat.le_refl _)
    have hle := hl.each l[i] (List.getElem_mem hi)
    have c66 := iN H (by omega) hxi
    by_cases hok : bZ l[i] = 0
    · have okS := cJ.1 hok
      rw [hok] at c66
      obtain ⟨k, o, n, c, hsl, _⟩ := hxi.blk (ep okS.ne) okg
      obtain ⟨h1, c71, S1, aX⟩ := pM H okg okS.le okS.rng hxi
      have hg1 : h1.get h.n = .mp es := by rw [S1.get h.n hkn]; exact hg
      have hkn1 : h.n < h1.n := Nat.lt_of_lt_of_le hkn S1.n
      obtain ⟨es', u1, u2, u3, u4⟩ := sw (v := cs[i]) (ft okS.le) es M.num
      have w3 : iQ K.P h1 (.mp h.n) (.agg (bB l[i])) cs[i] (ae K.P 100) = some (.undef, h1.set h.n (.mp es')) := by
       rw [show ae K.P 100 = .map 103 46 by rw [H.hP]; exact vU]
       simp only [iQ, kH H okS.le, uC, hg1, u1, uB]
      refine ⟨_, _, qq H.hk H.prim H.pl g19 g18 g17 g3 (aV hi) hp1 hp2 c66 rfl c71 w3 (cI (by omega)), aX.set hkn1 _, (S.trans (S1.le S.n)).trans (Same.set (Nat.le_refl _) _), hkn1, g0, g3, g17, g18, rfl, gs, es', by rw [Hp.get_set, if_pos rfl], ?_⟩
      rw [fw hi]
      rw [hsl] at u1
      exact M.put okS u1
    · exact ⟨_, _, qr H.hk H.prim H.pl g19 g18 g17 (aV hi) hp1 hp2 c66 (nM hok) (cI (by omega)), okg, S, hkn, g0, g3, g17, g18, rfl, gs, es, hg, by rw [fw hi]; exact M.skip fun o => hok (cJ.2 o)⟩)
  (fun s g ⟨okg, S, hkn, g0, g3, g17, g18, g19, gs, es, hg, M⟩ =>
    ⟨_, _, rN H.hk H.prim H.pl g19 g18 (bu (Nat.le_refl _)), okg, S, hkn, g0, g3, es, hg, by rw [List.take_length] at M; exact M, gs⟩)
 have hlen3 := fc H (hx.mono S3 ok (Nat.le_refl _))
 rw [hcl] at hlen3
 obtain ⟨s4, r4, l0, l3, l31, l32, l33, ls⟩ : ∃ s4, bH K [1, 1, 1, 1, 0, 0] s3 h3 .normal s4 h3 ∧ s4.at 0 = x ∧ s4.at 3 = .mp h.n ∧ s4.at 31 = x ∧ s4.at 32 = .nu .i64 (.ofNat l.length) ∧ s4.at 33 = .nu .i64 (.ofNat 0) ∧ s4.at ai = .undef := ⟨_, F7 H.hk e0 hlen3, e0, e3, rfl, rfl, rfl, e1⟩
 have L := dU (K := K) (f := 26) (n := 74) (c := aD [1, 1, 1, 1, 0, 1, 0, 0] (an Tryz.f26)) (s := s4) (h := h3) (m := l.length) (b := 2) (I := fun i s g => HpOk g ∧ Same h.n h g ∧ h.n < g.n ∧ g.get h.n = .mp es ∧ s.at 0 = x ∧ s.at 3 = .mp h.n ∧ s.at 31 = x ∧ s.at 32 = .nu .i64 (.ofNat l.length) ∧ s.at 33 = .nu .i64 (.ofNat i) ∧ s.at ai = .undef ∧ ∀ j, j < i → cY l j = 0)
  (E := fun s g => HpOk g ∧ Same h.n h g ∧ s.at ai = .undef ∧ cd l = 0) (R := fun s g => HpOk g ∧ Same h.n h g ∧ s.at ai = .undef ∧ s.at 2 = .nu .i64 (cd l)) ⟨ct, S3, hkn3, hg3, l0, l3, l31, l32, l33, ls, fun j hj => absurd hj (Nat.not_lt_zero _)⟩
  (fun i s g hi ⟨okg, S, hkn, hg, g0, g3, g31, g32, g33, gs, hall⟩ => by
    have hC : cY l i ≠ 0 → cd l = cY l i := fun hne => by
     rw [cd, if_neg hbig]; exact Cp _ 0 i (Nat.zero_le _) (by omega) (fun j _ hj => hall j hj) hne
    have hr := hx.mono S ok (Nat.le_refl _)
    have hrs := hxs.mono S ok (Nat.le_refl _)
    obtain ⟨p, hp1, hp2⟩ := j8 H hr (i := i) (by omega)
    have hxi := hrs.get (i := i) (by omega) hi
    have hle := hl.each l[i] (List.getElem_mem hi)
    have e0 := nQ hi
    obtain ⟨s1, r1, j0, j3, j31, j32, j33, j34, js⟩ : ∃ s1, bH K [1, 1, 1, 1, 0, 1, 0, 0, 0] s g .normal s1 g ∧ s1.at 0 = x ∧ s1.at 3 = .mp h.n ∧ s1.at 31 = x ∧ s1.at 32 = .nu .i64 (.ofNat l.length) ∧ s1.at 33 = .nu .i64 (.ofNat i) ∧ s1.at 34 = .bo true ∧ s1.at ai = .undef := ⟨_, xH H.hk g33 g32 (aV hi), g0, g3, g31, g32, g33, rfl, gs⟩
    obtain ⟨s2, r2, k0, k3, k31, k32, k33, k6, k7, ks⟩ : ∃ s2, bH K [1, 1, 1, 1, 0, 1, 0, 0, 1, 1, 0, 0, 0] s1 g .normal s2 g ∧ s2.at 0 = x ∧ s2.at 3 = .mp h.n ∧ s2.at 31 = x ∧ s2.at 32 = .nu .i64 (.ofNat l.length) ∧ s2.at 33 = .nu .i64 (.ofNat i) ∧ s2.at 6 = .nu .i64 (.ofNat i) ∧ s2.at 7 = cs[i] ∧ s2.at ai = .undef := ⟨_, F8 H.hk j33 j31 hp1 hp2, j0, j3, j31, j32, j33, rfl, rfl, js⟩
    by_cases h1 : bZ l[i] = 0
    case neg =>
     have hat : cY l i = bZ l[i] := by unfold cY; rw [e0, if_pos h1]
     have c73 := zn H (by omega) h1 hxi
     obtain ⟨s3, r3, l9, ls⟩ : ∃ s3, bH K [1, 1, 1, 1, 0, 1, 0, 0, 1, 1, 0, 0, 1, 0] s2 g .normal s3 g ∧ s3.at 9 = .nu .i64 (bZ l[i]) ∧ s3.at ai = .undef := ⟨_, xI H.hk k7 (H.prim _ _) c73 rfl rfl, rfl, ks⟩
     exact .inr (.inl ⟨_, _, Runs.seq r1 (Runs.seq (dj H.hk H.prim H.pl j34) (aE (aG (Runs.seq r2 (Runs.seq r3 (aE (kT H.hk H.prim H.pl l9 (ka h1)) (by simp))))) (by simp))), okg, S, ls, by rw [hC (by rw [hat]; exact h1), hat]; rfl⟩)
    have okS := cJ.1 h1
    have h1' : bZ (l.getD i []) = 0 := by rw [e0]; exact h1
    obtain ⟨y, fs, h5, c5, S5, fh, own5⟩ := vT H okg okS hxi
    obtain ⟨s3, r3, l0, l3, l31, l32, l33, l6, l7, l8, l9, ls⟩ : ∃ s3, bH K [1, 1, 1, 1, 0, 1, 0, 0, 1, 1, 0, 0, 1, 0] s2 g .normal s3 h5 ∧ s3.at 0 = x ∧ s3.at 3 = .mp h.n ∧ s3.at 31 = x ∧ s3.at 32 = .nu .i64 (.ofNat l.length) ∧ s3.at 33 = .nu .i64 (.ofNat i) ∧ s3.at 6 = .nu .i64 (.ofNat i) ∧ s3.at 7 = cs[i] ∧ s3.at 8 = y ∧ s3.at 9 = .nu .i64 0 ∧ s3.at ai = .undef := ⟨_, xI H.hk k7 (H.prim _ _) c5 rfl rfl, k0, k3, k31, k32, k33, k6, k7, rfl, rfl, ks⟩
    obtain ⟨s4, r4, m0, m3, m31, m32, m33, m6, m7, m8, ms⟩ : ∃ s4, bH K [1, 1, 1, 1, 0, 1, 0, 0, 1, 1, 0, 0, 1, 1, 0] s3 h5 .normal s4 h5 ∧ s4.at 0 = x ∧ s4.at 3 = .mp h.n ∧ s4.at 31 = x ∧ s4.at 32 = .nu .i64 (.ofNat l.length) ∧ s4.at 33 = .nu .i64 (.ofNat i) ∧ s4.at 6 = .nu .i64 (.ofNat i) ∧ s4.at 7 = cs[i] ∧ s4.at 8 = y ∧ s4.at ai = .undef := ⟨_, kU H.hk H.prim H.pl l9 rfl, l0, l3, l31, l32, l33, l6, l7, l8, ls⟩
    have S05 : Same h.n h h5 := S.trans (S5.le S.n)
    have hkn5 : h.n < h5.n := Nat.lt_of_lt_of_le hkn S5.n
    have hg5 : h5.get h.n = .mp es := by rw [S5.get h.n hkn]; exact hg
    have hnb : (0 < i ∧ aZ (l.getD i []) (l.getD (i - 1) []) = 0 ∧ ∃ s5, bH K [1, 1, 1, 1, 0, 1, 0, 0, 1, 1, 0, 0, 1, 1, 1, 0] s4 h5 .ret s5 h5 ∧ s5.at 2 = .nu .i64 5 ∧ s5.at ai = .undef) ∨
     (0 < i ∧ aZ (l.getD i []) (l.getD (i - 1) []) ≠ 0 ∧ aZ (l.getD i []) (l.getD (i - 1) []) < 0 ∧ ∃ s5, bH K [1, 1, 1, 1, 0, 1, 0, 0, 1, 1, 0, 0, 1, 1, 1, 0] s4 h5 .ret s5 h5 ∧ s5.at 2 = .nu .i64 6 ∧ s5.at ai = .undef) ∨
     ((0 < i → aZ (l.getD i []) (l.getD (i - 1) []) ≠ 0 ∧ ¬ aZ (l.getD i []) (l.getD (i - 1) []) < 0) ∧ ∃ s5, bH K [1, 1, 1, 1, 0, 1, 0, 0, 1, 1, 0, 0, 1, 1, 1, 0] s4 h5 .normal s5 h5 ∧ s5.at 0 = x ∧ s5.at 3 = .mp h.n ∧ s5.at 31 = x ∧ s5.at 32 = .nu .i64 (.ofNat l.length) ∧ s5.at 33 = .nu .i64 (.ofNat i) ∧ s5.at 8 = y ∧ s5.at ai = .undef) := by
     cases i with
     | zero => exact .inr (.inr ⟨fun h => absurd h (Nat.lt_irrefl _), _, kg H.hk H.prim H.pl m6 rfl, m0, m3, m31, m32, m33, m8, ms⟩)
     | succ k =>
      have hr5 := hx.mono S05 ok (Nat.le_refl _)
      have hrs5 := hxs.mono S05 ok (Nat.le_refl _)
      obtain ⟨q, hq1, hq2⟩ := j8 H hr5 (i := k) (by omega)
      have cc := qA H (a := l[k + 1]) (b := l[k]'(by omega)) (by omega) (hrs5.get (i := k + 1) (by omega) hi) (hrs5.get (i := k) (by omega) (by omega))
      have ek : l.getD (k + 1 - 1) [] = l[k]'(by omega) := nQ (i := k) (by omega)
      rw [e0, ek]
      have hpos : (0 : Int) < Int.ofNat (k + 1) := by simp
      by_cases hc : aZ l[k + 1] (l[k]'(by omega)) = 0
      · exact .inl ⟨by omega, hc, _, jT H.hk H.prim H.pl m6 m7 m0 (nL hpos) (yo (by omega)) hq1 hq2 cc (Ep hc), rfl, ms⟩
      by_cases hc2 : aZ l[k + 1] (l[k]'(by omega)) < 0
      · exact .inr (.inl ⟨by omega, hc, hc2, _, ji H.hk H.prim H.pl m6 m7 m0 (nL hpos) (yo (by omega)) hq1 hq2 cc (nM hc) (KU hc2), rfl, ms⟩)
      · exact .inr (.inr ⟨fun _ => ⟨hc, hc2⟩, _, jj H.hk H.prim H.pl m6 m7 m0 (nL hpos) (yo (by omega)) hq1 hq2 cc (nM hc) (KV (by omega)), m0, m3, m31, m32, m33, m8, ms⟩)
    rcases hnb with ⟨hpos, hc, s5, r5, h52, h5s⟩ | ⟨hpos, hc, hc2, s5, r5, h52, h5s⟩ | ⟨hc, s5, r5, n0, n3, n31, n32, n33, n8, ns⟩
    · have hat : cY l i = 5 := by unfold cY; rw [if_neg (fun hn => hn h1'), if_pos ⟨hpos, hc⟩]
      exact .inr (.inl ⟨_, _, Runs.seq r1 (Runs.seq (dj H.hk H.prim H.pl j34) (aE (aG (Runs.seq r2 (Runs.seq r3 (Runs.seq r4 (aE r5 (by simp)))))) (by simp))), fh, S05, h5s, by rw [hC (by rw [hat]; decide), hat]; exact h52⟩)
    · have hat : cY l i = 6 := by unfold cY; rw [if_neg (fun hn => hn h1'), if_neg (fun h => hc h.2), if_pos ⟨hpos, hc2⟩]
      exact .inr (.inl ⟨_, _, Runs.seq r1 (Runs.seq (dj H.hk H.prim H.pl j34) (aE (aG (Runs.seq r2 (Runs.seq r3 (Runs.seq r4 (aE r5 (by simp)))))) (by simp))), fh, S05, h5s, by rw [hC (by rw [hat]; decide), hat]; exact h52⟩)
    have hat := zp h1' hc
    rw [e0] at hat
    have hfl := sy l[i]
    have hle5 := okS.le
    have hlen8 := fc H own5.out.row
    rw [own5.rows.length] at hlen8
    obtain ⟨s6, r6, q0, q3, q31, q32, q33, q61, q62, q63, qs⟩ : ∃ s6, bH K [1, 1, 1, 1, 0, 1, 0, 0, 1, 1, 0, 0, 1, 1, 1, 1, 0] s5 h5 .normal s6 h5 ∧ s6.at 0 = x ∧ s6.at 3 = .mp h.n ∧ s6.at 31 = x ∧ s6.at 32 = .nu .i64 (.ofNat l.length) ∧ s6.at 33 = .nu .i64 (.ofNat i) ∧ s6.at 61 = y ∧ s6.at 62 = .nu .i64 (.ofNat (bW l[i]).length) ∧ s6.at 63 = .nu .i64 (.ofNat 0) ∧ s6.at ai = .undef := ⟨_, Gc H.hk n8 hlen8, n0, n3, n31, n32, n33, rfl, rfl, rfl, ns⟩
    have hfr := own5.out.row
    have hfa := own5.all
    have hfc := hfa.length
    have L2 := dU (K := K) (f := 26) (n := 74) (c := aD [1, 1, 1, 1, 0, 1, 0, 0, 1, 1, 0, 0, 1, 1, 1, 1, 1, 0, 0] (an Tryz.f26)) (s := s6) (h := h5) (m := (bW l[i]).length) (b := 5) (I := fun k s g => HpOk g ∧ Same h5.n h5 g ∧ s.at 0 = x ∧ s.at 3 = .mp h.n ∧ s.at 31 = x ∧ s.at 32 = .nu .i64 (.ofNat l.length) ∧ s.at 33 = .nu .i64 (.ofNat i) ∧ s.at 61 = y ∧ s.at 62 = .nu .i64 (.ofNat (bW l[i]).length) ∧ s.at 63 = .nu .i64 (.ofNat k) ∧ s.at ai = .undef ∧ ((bW l[i]).take k).all (fun f => decide (f ∈ l)) = true)
     (E := fun s g => HpOk g ∧ Same h5.n h5 g ∧ s.at 0 = x ∧ s.at 3 = .mp h.n ∧ s.at 31 = x ∧ s.at 32 = .nu .i64 (.ofNat l.length) ∧ s.at 33 = .nu .i64 (.ofNat i) ∧ s.at ai = .undef ∧ (bW l[i]).all (fun f => decide (f ∈ l)) = true) (R := fun s g => HpOk g ∧ Same h5.n h5 g ∧ s.at ai = .undef ∧ s.at 2 = .nu .i64 7 ∧ (bW l[i]).all (fun f => decide (f ∈ l)) = false) ⟨fh, Same.refl _ _, q0, q3, q31, q32, q33, q61, q62, q63, qs, rfl⟩
     (fun k s g hk ⟨okg, Sg, g0, g3, g31, g32, g33, g61, g62, g63, gs, hallk⟩ => by
       obtain ⟨q, hq1, hq2⟩ := j8 H (hfr.mono Sg fh (Nat.le_refl _)) (i := k) (by omega)
       have hrk := (hfa.get (i := k) (by omega) hk).mono Sg fh (Nat.le_refl _)
       have hmf := xi (List.getElem_mem hk)
       have okf : OkS (bW l[i])[k] := okS.sub hmf.1 (hmf.2 okS.ne)
       obtain ⟨h1, c26, S1, aX⟩ := pM H okg okf.le okf.rng hrk
       have hg1 : h1.get h.n = .mp es := by rw [S1.get h.n (Nat.lt_of_lt_of_le hkn5 Sg.n), Sg.get h.n hkn5]; exact hg5
       by_cases hin : (bW l[i])[k] ∈ l
       · obtain ⟨k', o, n, c, hl'⟩ := M3.yes _ okf hin
         exact .inl ⟨_, _, iK H.hk H.prim H.pl g63 g62 g61 g3 (aV hk) hq1 hq2 c26 (zf H okf.le hg1 hl') (Cb H k' o n c) (cI (by omega)), aX, Sg.trans (S1.le Sg.n), g0, g3, g31, g32, g33, g61, g62, rfl, gs, pO hk hallk (by simpa using hin)⟩
       · exact .inr (.inl ⟨_, _, iJ H.hk H.prim H.pl g63 g62 g61 g3 (aV hk) hq1 hq2 c26 (In H okf.le hg1 (M3.no _ okf hin)) (Es H), aX, Sg.trans (S1.le Sg.n), gs, rfl, wa hk (by simpa using hin)⟩))
     (fun s g ⟨okg, Sg, g0, g3, g31, g32, g33, g61, g62, g63, gs, hallk⟩ =>
       ⟨_, _, iU H.hk H.prim H.pl g63 g62 (bu (Nat.le_refl _)), okg, Sg, g0, g3, g31, g32, g33, gs, by rw [List.take_length] at hallk; exact hallk⟩)
    rcases L2 with ⟨s7, h7, r7, ok7, S7, t0, t3, t31, t32, t33, ts, hv⟩ | ⟨s7, h7, r7, ok7, S7, ts, t2, hv⟩
    · rw [hv, if_pos rfl] at hat
      exact .inl ⟨_, _, Runs.seq r1 (Runs.seq (dj H.hk H.prim H.pl j34) (Runs.seq (aF (Runs.seq r2 (Runs.seq r3 (Runs.seq r4 (Runs.seq r5 (Runs.seq r6 r7)))))) (Gf H.hk t33 (cI (by omega))))), ok7, S05.trans (S7.le S05.n), Nat.lt_of_lt_of_le hkn5 S7.n, by rw [S7.get h.n hkn5]; exact hg5, t0, t3, t31, t32, rfl, ts, fun j hj => by
       rcases Nat.lt_or_ge j i with hlt | hge
       · exact hall j hlt
       · obtain rfl : j = i := by omega
         exact hat⟩
    · rw [hv, if_neg (by simp)] at hat
      exact .inr (.inl ⟨_, _, Runs.seq r1 (Runs.seq (dj H.hk H.prim H.pl j34) (aE (aG (Runs.seq r2 (Runs.seq r3 (Runs.seq r4 (Runs.seq r5 (Runs.seq r6 r7)))))) (by simp))), ok7, S05.trans (S7.le S05.n), ts, by rw [hC (by rw [hat]; decide), hat]; exact t2⟩))
  (fun s g ⟨okg, S, hkn, hg, g0, g3, g31, g32, g33, gs, hall⟩ => by
    obtain ⟨s1, r1, k34, ks⟩ : ∃ s1, bH K [1, 1, 1, 1, 0, 1, 0, 0, 0] s g .normal s1 g ∧ s1.at 34 = .bo false ∧ s1.at ai = .undef := ⟨_, xH H.hk g33 g32 (bu (by omega)), rfl, gs⟩
    refine ⟨_, _, Runs.seq r1 (aE (oM H.hk H.prim H.pl k34) (by simp)), okg, S, ks, ?_⟩
    rw [cd, if_neg hbig]; exact Il _ 0 fun j _ hj => hall j (by omega))
 rcases L with ⟨s', h', r, ok', S, hs, hv⟩ | ⟨s', h', r, ok', S, hs, h2⟩
 · exact ⟨_, h', H.go hf (Runs.seq (vf H.hk) (Runs.seq r1 (Runs.seq (Ao H.hk) (Runs.seq (Runs.seq r2 r3) (Runs.seq (Runs.seq r4 r) (yU H.hk H.prim H.pl)))))) (.inr rfl) S.n hs rfl rfl, S, ok', by rw [hv]; rfl⟩
 · exact ⟨_, h', H.go hf (Runs.seq (vf H.hk) (Runs.seq r1 (Runs.seq (Ao H.hk) (Runs.seq (Runs.seq r2 r3) (aE (Runs.seq r4 r) (by simp)))))) (.inr rfl) S.n hs (by show some [Fr.at s' 2] = _; rw [h2]) rfl, S, ok', rfl⟩
end
theorem mu {l : List (List Int)} (h : cd l = 0) : MB l := by
 unfold cd at h
 by_cases hb : 1024 < l.length
 · rw [if_pos hb] at h; exact absurd h (by decide)
 rw [if_neg hb] at h
 have hz : ∀ i (hi : i < l.length), cY l i = 0 := fun i hi => Cq _ 0 h i (Nat.zero_le _) (by omega)
 have hS : ∀ i (hi : i < l.length), bZ l[i] = 0 ∧ (0 < i → aZ l[i] (l.getD (i - 1) []) ≠ 0 ∧ ¬ aZ l[i] (l.getD (i - 1) []) < 0) ∧ (bW l[i]).all (fun f => decide (f ∈ l)) = true := by
  intro i hi
  have := hz i hi
  unfold cY at this
  rw [nQ hi] at this
  by_cases h1 : bZ l[i] = 0
  · rw [if_neg (fun hn => hn h1)] at this
    by_cases h2 : 0 < i ∧ aZ l[i] (l.getD (i - 1) []) = 0
    · rw [if_pos h2] at this; exact absurd this (by decide)
    rw [if_neg h2] at this
    by_cases h3 : 0 < i ∧ aZ l[i] (l.getD (i - 1) []) < 0
    · rw [if_pos h3] at this; exact absurd this (by decide)
    rw [if_neg h3] at this
    refine ⟨h1, fun hp => ⟨fun e => h2 ⟨hp, e⟩, fun e => h3 ⟨hp, e⟩⟩, ?_⟩
    cases hq : (bW l[i]).all (fun f => decide (f ∈ l)) with
    | true => rfl
    | false => rw [hq] at this; exact absurd this (by decide)
  · rw [if_pos h1] at this; exact absurd this h1
 refine ⟨fun a ha => ?_, fun i hi => ?_, fun a ha f hf => ?_, by omega⟩
 · obtain ⟨i, hi, rfl⟩ := List.getElem_of_mem ha
   exact cJ.1 (hS i hi).1
 · have := (hS (i + 1) hi).2.1 (by omega)
   rw [show l.getD (i + 1 - 1) [] = l[i]'(by omega) from nQ (i := i) (by omega)] at this
   rcases kI l[i + 1] (l[i]'(by omega)) with h | h | h
   · rw [h] at this; exact absurd (by decide : (-1 : Int) < 0) this.2
   · exact absurd h this.1
   · exact h
 · obtain ⟨i, hi, rfl⟩ := List.getElem_of_mem ha
   simpa using List.all_eq_true.1 (hS i hi).2.2 f hf
section
variable {K : Ctx} {h : Hp}
theorem wi (H : Std K) (PB : eo K) {a : List Int} {v : Int} (hbig : a.length < 4611686018427387904) {q z : CV} (bq : Box h q z) (hz : Row h z (ah a)) : Comes K 112 [.nu .i64 v, q] h (.bo (!(jX a v))) h := by
 have hf : K.P.funcs[112]? = some Tryz.f112 := by rw [H.hP]; exact Tryz.func112
 exact H.go hf (KL H.hk H.prim PB (s := entry 0 [.nu .i64 v, q]) rfl rfl (bq.load (eL H)) (lE H hbig hz) rfl) (.inr rfl) (Nat.le_refl _) rfl rfl rfl
theorem zq (H : Std K) (PB : eo K) {a : List Int} {G : FuncId} {C : List CV} {p : Int → Bool} (hbig : a.length < 4611686018427387904) {x : CV} (ha : Row h x (ah a)) (hg : ∀ v ∈ a, Comes K G ([.nu .i64 v] ++ C) h (.bo (p v)) h) : ∃ n, Comes K 140 [x, .fn G C] h (.nu .i64 n) h ∧ cr 0 n = a.any p := by
 have hf : K.P.funcs[140]? = some Tryz.f140 := by rw [H.hP]; exact Tryz.func140
 have hlen := cA H ha
 rw [aw] at hlen
 obtain ⟨s1, r1, k0, k1, k7, k8, ks⟩ : ∃ s1, hU K [1, 0, 0] (T.set (entry 0 [x, .fn G C]) 4 (.nu .i64 0)) h .normal s1 h ∧ s1.at 0 = x ∧ s1.at 1 = .fn G C ∧ s1.at 7 = .nu .i64 (.ofNat a.length) ∧ s1.at 8 = .nu .i64 (.ofNat 0) ∧ s1.at ai = .undef := ⟨_, H8 H.hk rfl hlen, rfl, rfl, rfl, rfl, rfl⟩
 have L := dU (K := K) (f := 140) (n := 19) (c := aD [1, 0, 1, 0, 0] (an Tryz.f140)) (s := s1) (h := h) (m := a.length) (b := 0) (I := fun i s g => g = h ∧ s.at 0 = x ∧ s.at 1 = .fn G C ∧ s.at 7 = .nu .i64 (.ofNat a.length) ∧ s.at 8 = .nu .i64 (.ofNat i) ∧ s.at ai = .undef ∧ (a.take i).any p = false)
  (E := fun s g => g = h ∧ s.at ai = .undef ∧ a.any p = false) (R := fun s g => g = h ∧ s.at ai = .undef ∧ a.any p = true ∧ ∃ j : Nat, s.at 4 = .nu .i64 (.ofNat j)) ⟨rfl, k0, k1, k7, k8, ks, rfl⟩
  (fun i s g hi ⟨e, g0, g1, g7, g8, gs, hall⟩ => by
    subst e
    obtain ⟨q, hp1, hp2⟩ := gM H ha hi
    have hin := hg a[i] (List.getElem_mem hi)
    cases hq : p a[i] with
    | false =>
     rw [hq] at hin
     exact .inl ⟨_, _, so H.hk H.prim PB g8 g7 g1 g0 (aV hi) hp1 hp2 rfl hin (cI (by omega)), rfl, g0, g1, g7, rfl, gs, wb hi hall hq⟩
    | true =>
     rw [hq] at hin
     exact .inr (.inl ⟨_, _, sn H.hk H.prim PB g8 g7 g1 g0 (aV hi) hp1 hp2 rfl hin, rfl, gs, yq hi hq, i, rfl⟩))
  (fun s g ⟨e, g0, g1, g7, g8, gs, hall⟩ => by
    subst e
    exact ⟨_, _, uw H.hk H.prim PB g8 g7 (bu (Nat.le_refl _)), rfl, gs, by rw [List.take_length] at hall; exact hall⟩)
 rcases L with ⟨s', h', r, rfl, hs, hv⟩ | ⟨s', h', r, rfl, hs, hv, j, hj⟩
 · rw [hv]
   exact ⟨-1, H.go hf (Runs.seq (yj H.hk) (Runs.seq (Runs.seq r1 r) (Ee H.hk H.prim PB))) (.inr rfl) (Nat.le_refl _) hs rfl rfl, rfl⟩
 · rw [hv]
   exact ⟨.ofNat j, H.go hf (Runs.seq (yj H.hk) (aE (Runs.seq r1 r) (by simp))) (.inr rfl) (Nat.le_refl _) hs (by show some [Fr.at s' 4] = _; rw [hj]) rfl, fZ (by simp)⟩
theorem xk {α : Type} (p : α → Bool) (l : List α) : (!(l.any fun v => !(p v))) = l.all p := by
 induction l with
 | nil => rfl
 | cons a l ih => rw [List.any_cons, List.all_cons, Bool.not_or, Bool.not_not, ih]
theorem Et (H : Std K) (PB : eo K) (ok : HpOk h) {a b : List Int} (hab : a.length < 4611686018427387904) (hbb : b.length < 4611686018427387904) {x y : CV} (ha : Row h x (ah a)) (hb : Row h y (ah b)) : fV K 68 [x, y] h fun r _ => r = .bo (wc a b) := by
 have hf : K.P.funcs[68]? = some Tryz.f68 := by rw [H.hP]; exact Tryz.func68
 have hf2 : K.P.funcs[111]? = some Tryz.f111 := by rw [H.hP]; exact Tryz.func111
 obtain ⟨F, B, b1, bx⟩ := gE (h := h) (t := 46) ha.one (eL H)
 have S1 : Same h.n h (h.push B) := Same.push (Nat.le_refl _) _
 have hz := ha.mono S1 ok (Nat.le_refl _)
 obtain ⟨n, c, hn⟩ := zq H PB (G := 112) (C := [F h.n]) (p := fun v => !(jX a v)) hbb (hb.mono S1 ok (Nat.le_refl _)) (fun v _ => wi H PB hab bx hz)
 have o8 := pK (P := K.P) (t := 3) n 0
 rw [hn] at o8
 have c111 : Comes K 111 [y, .fn 112 [F h.n]] (h.push B) (.bo (b.any fun v => !(jX a v))) (h.push B) := ck hf2 rfl (H.memo 111 (by decide)) (H.spec 111) rfl (KK H.hk H.prim PB (s := entry 0 [y, .fn 112 [F h.n]]) rfl rfl c o8) (.inr rfl) (Nat.le_refl _) rfl rfl rfl
 refine ⟨_, _, H.go hf (LH H.hk H.prim PB (s := entry 0 [x, y]) rfl rfl b1 c111 rfl) (.inr rfl) S1.n rfl rfl rfl, S1, ok.push _, ?_⟩
 show CV.bo (!(b.any fun v => !(jX a v))) = _
 rw [xk, wc]
theorem xl (H : Std K) (PB : eo K) {h0 : Hp} (bX : HpOk h0) {q z : CV} {s : List Int} (hs : s.length < 4611686018427387904) (hq : Box h0 q z) (hz : Row h0 z (ah s)) {l : List (List Int)} (hl : gU l) : Asks K h0 83 [q] l (fun a => wc a s) := by
 intro y a g ha ok S r
 have hf : K.P.funcs[83]? = some Tryz.f83 := by rw [H.hP]; exact Tryz.func83
 obtain ⟨rv, h1, c, S1, aX, rfl⟩ := Et H PB ok (by have := hl.each a ha; omega) hs r (hz.mono S bX (Nat.le_refl _))
 have o5 := (hq.mono S (Nat.le_refl _)).load (eL H)
 exact ⟨_, h1, H.go hf (LJ H.hk H.prim PB (s := entry 0 [y, q]) rfl rfl o5 c) (.inr rfl) S1.n rfl rfl rfl, S1, aX, rfl⟩
theorem FB (H : Std K) : au K.P 3 = some (1, false) := by rw [H.hP]; exact z3
theorem xm (H : Std K) (PB : eo K) {h0 : Hp} (bX : HpOk h0) {q : CV} {d : Int} (hq : Box h0 q (.nu .i64 d)) {l : List (List Int)} (hl : gU l) : Asks K h0 82 [q] l (oH d) := by
 intro y a g ha ok S r
 have hf : K.P.funcs[82]? = some Tryz.f82 := by rw [H.hP]; exact Tryz.func82
 have hlen := cA H r
 rw [aw] at hlen
 have o7 := (hq.mono S (Nat.le_refl _)).load (FB H)
 have hle := hl.each a ha
 have o8 : ac K.P .leq 3 (.nu .i64 (Int.ofNat a.length - 1)) (.nu .i64 d) = some (.bo (oH d a)) := by
  rw [nI, de]; rfl
 exact ⟨_, g, H.go hf (LI H.hk H.prim PB (s := entry 0 [y, q]) rfl rfl hlen (Mb (by omega)) o7 o8) (.inr rfl) (Nat.le_refl _) rfl rfl rfl, Same.refl _ _, ok, rfl⟩
def Fails (K : Ctx) (f : FuncId) (args : List CV) (h : Hp) (e : Int) : Prop := fV K f args h fun r _ => r = .tup [.nils, .nu .i64 e]
theorem qI (H : Std K) (ok : HpOk h) {l : List (List Int)} (hl : gU l) (he : cd l ≠ 0) {G : FuncId} {C : List CV} {x : CV} {cs : List CV} (hx : Row h x cs) (hxs : Rows h cs l) : Fails K 81 [x, .fn G C] h (cd l) := by
 have hf : K.P.funcs[81]? = some Tryz.f81 := by rw [H.hP]; exact Tryz.func81
 obtain ⟨r, h1, c1, S1, aX, rfl⟩ := jl H ok hl hx hxs
 exact ⟨_, h1, H.go hf (Runs.seq (AP H.hk) (aE (A5 H.hk H.prim H.pl rfl c1 (ka he)) (by simp))) (.inr rfl) S1.n rfl rfl rfl, S1, aX, rfl⟩
theorem tL (H : Std K) (ok : HpOk h) {l : List (List Int)} (hl : gU l) (he : cd l = 0) {G : FuncId} {C : List CV} {p : List Int → Bool} (hg : Asks K h G C l p) {x : CV} {cs : List CV} (hx : Row h x cs) (hxs : Rows h cs l) : Kept K 81 [x, .fn G C] h (l.filter p) := by
 have hC := mu he
 exact qE H ok hl.len (fun a ha => ⟨(hC.simp a ha).ne, by have := (hC.simp a ha).le; omega⟩) hg hx hxs (by rw [← he]; exact jl H ok hl hx hxs)
theorem Cr (H : Std K) (ok : HpOk h) {l : List (List Int)} (hl : gU l) (he : cd l ≠ 0) {G : FuncId} {C : List CV} {x y : CV} {cs : List CV} (hx : Row h x cs) (hxs : Rows h cs l) (hy1 : y.one = true) : Fails K 75 [x, y, .fn G C] h (cd l) := by
 have hf : K.P.funcs[75]? = some Tryz.f75 := by rw [H.hP]; exact Tryz.func75
 obtain ⟨F, B, b1, bx⟩ := gE (h := h) (t := 46) hy1 (eL H)
 have S1 : Same h.n h (h.push B) := Same.push (Nat.le_refl _) _
 obtain ⟨rv, h2, c2, S2, bz, rfl⟩ := qI H (ok.push _) hl he (G := G) (C := C) (hx.mono S1 ok (Nat.le_refl _)) (hxs.mono S1 ok (Nat.le_refl _))
 have Sa := S1.trans (S2.le S1.n)
 exact ⟨_, h2, H.go hf (Hv H.hk H.prim H.pl (s := entry 0 [x, y, .fn G C]) rfl rfl rfl b1 c2 rfl rfl (ka he)) (.inr rfl) Sa.n rfl rfl rfl, Sa, bz, rfl⟩
theorem zr (H : Std K) (ok : HpOk h) {l : List (List Int)} {t : List Int} (hl : gU l) (he : cd l = 0) (ht : t ∉ l) (htl : t.length < 4611686018427387904) {G : FuncId} {C : List CV} {p : List Int → Bool} (hg : Asks K h G C l p) {x y : CV} {cs : List CV} (hx : Row h x cs) (hxs : Rows h cs l) (hy : Row h y (ah t)) : Fails K 75 [x, y, .fn G C] h 4 := by
 have hf : K.P.funcs[75]? = some Tryz.f75 := by rw [H.hP]; exact Tryz.func75
 obtain ⟨F, B, b1, bx⟩ := gE (h := h) (t := 46) hy.one (eL H)
 have S1 : Same h.n h (h.push B) := Same.push (Nat.le_refl _) _
 have aX : HpOk (h.push B) := ok.push _
 obtain ⟨rv, h2, c2, S2, bz, o, ds, rfl, hO⟩ := tL H aX hl he (hg.mono S1) (hx.mono S1 ok (Nat.le_refl _)) (hxs.mono S1 ok (Nat.le_refl _))
 have Sa := S1.trans (S2.le S1.n)
 obtain ⟨rv, h3, c3, S3, ct, rfl⟩ := nJ H bz (by have := hl.len; omega) (qD H bz htl (bx.mono S2 (Nat.le_refl _)) (hy.mono Sa ok (Nat.le_refl _)) l) (hx.mono Sa ok (Nat.le_refl _)) (hxs.mono Sa ok (Nat.le_refl _))
 have hany : l.any (fv t) = false := by
  rw [List.any_eq_false]
  intro a ha h
  rw [jA] at h
  exact ht (h ▸ ha)
 rw [hany] at c3
 have Sall := Sa.trans (S3.le Sa.n)
 exact ⟨_, h3, H.go hf (DO H.hk H.prim H.pl (s := entry 0 [x, y, .fn G C]) rfl rfl rfl b1 c2 rfl rfl rfl c3 rfl) (.inr rfl) Sall.n rfl rfl rfl, Sall, ct, rfl⟩
theorem Eu (H : Std K) (ok : HpOk h) {l : List (List Int)} {t : List Int} (hl : gU l) (he : cd l = 0) (ht : t ∈ l) {G : FuncId} {C : List CV} {p : List Int → Bool} (hg : Asks K h G C l p) {x y : CV} {cs : List CV} (hx : Row h x cs) (hxs : Rows h cs l) (hy : Row h y (ah t)) : Kept K 75 [x, y, .fn G C] h (l.filter p) := by
 have hC := mu he
 exact Cj H ok hl.len (fun a ha => ⟨(hC.simp a ha).ne, by have := (hC.simp a ha).le; omega⟩) ht hg hx hxs hy (fun g okg Sg => by
  rw [← he]; exact jl H okg hl (hx.mono Sg ok (Nat.le_refl _)) (hxs.mono Sg ok (Nat.le_refl _)))
def jm (K : Ctx) (f : FuncId) (args : List CV) (h : Hp) (e : Int) (l : List (List Int)) : Prop := fV K f args h fun r h' => ∃ o ds, r = .tup [o, .nu .i64 e] ∧ Own h.n h' 46 o ds (if e = 0 then l else [])
theorem Kept.e {f : FuncId} {args : List CV} {h : Hp} {e : Int} {l : List (List Int)} (he : e = 0) (k : Kept K f args h l) : jm K f args h e l := by
 subst he
 obtain ⟨r, h', c, S, ok, o, ds, hr, hO⟩ := k
 exact ⟨r, h', c, S, ok, o, ds, hr, by rw [if_pos rfl]; exact hO⟩
theorem Fails.e {f : FuncId} {args : List CV} {h : Hp} {e : Int} {l : List (List Int)} (he : e ≠ 0) (k : Fails K f args h e) : jm K f args h e l := by
 obtain ⟨r, h', c, S, ok, hr⟩ := k
 exact ⟨r, h', c, S, ok, .nils, [], hr, by rw [if_neg he]; exact Own.nil⟩
def kX (l : List (List Int)) (s : List Int) : Int := if cd l ≠ 0 then cd l else if s ∈ l then 0 else 4
theorem sK (H : Std K) (ok : HpOk h) {l : List (List Int)} {t : List Int} (hl : gU l) (htl : t.length < 4611686018427387904) {G : FuncId} {C : List CV} {p : List Int → Bool} (hg : cd l = 0 → Asks K h G C l p) {x y : CV} {cs : List CV} (hx : Row h x cs) (hxs : Rows h cs l) (hy : Row h y (ah t)) : jm K 75 [x, y, .fn G C] h (kX l t) (l.filter p) := by
 unfold kX
 by_cases he : cd l = 0
 · rw [if_neg (fun hn => hn he)]
   by_cases ht : t ∈ l
   · rw [if_pos ht]; exact Kept.e rfl (Eu H ok hl he ht (hg he) hx hxs hy)
   · rw [if_neg ht]; exact Fails.e (by decide) (zr H ok hl he ht htl (hg he) hx hxs hy)
 · rw [if_pos he]; exact Fails.e he (Cr H ok hl he hx hxs hy.one)
theorem wj (H : Std K) (PB : eo K) (ok : HpOk h) {l : List (List Int)} {t : List Int} (hl : gU l) (htl : t.length < 4611686018427387904) {x y : CV} {cs : List CV} (hx : Row h x cs) (hxs : Rows h cs l) (hy : Row h y (ah t)) : jm K 30 [x, y] h (kX l t) (l.filter fun a => wc a t) := by
 have hf : K.P.funcs[30]? = some Tryz.f30 := by rw [H.hP]; exact Tryz.func30
 obtain ⟨F, B, b1, bx⟩ := gE (h := h) (t := 46) hy.one (eL H)
 have S1 : Same h.n h (h.push B) := Same.push (Nat.le_refl _) _
 have hy1 := hy.mono S1 ok (Nat.le_refl _)
 obtain ⟨rv, h2, c2, S2, bz, o, ds, rfl, hO⟩ := sK H (ok.push B) hl htl (fun _ => xl H PB (ok.push B) htl bx hy1 hl) (hx.mono S1 ok (Nat.le_refl _)) (hxs.mono S1 ok (Nat.le_refl _)) hy1
 have Sa := S1.trans (S2.le S1.n)
 exact ⟨_, h2, H.go hf (LF H.hk H.prim PB (s := entry 0 [x, y]) rfl rfl b1 (bx.load (eL H)) c2 rfl rfl) (.inr rfl) Sa.n rfl rfl rfl, Sa, bz, o, ds, rfl, hO.low S1.n⟩
theorem wk (H : Std K) (PB : eo K) (ok : HpOk h) {l : List (List Int)} {d : Int} (hl : gU l) {x : CV} {cs : List CV} (hx : Row h x cs) (hxs : Rows h cs l) : jm K 29 [x, .nu .i64 d] h (cd l) (l.filter (oH d)) := by
 have hf : K.P.funcs[29]? = some Tryz.f29 := by rw [H.hP]; exact Tryz.func29
 obtain ⟨F, B, b1, bx⟩ := gE (h := h) (t := 3) (v := .nu .i64 d) rfl (FB H)
 have S1 : Same h.n h (h.push B) := Same.push (Nat.le_refl _) _
 have hx1 := hx.mono S1 ok (Nat.le_refl _)
 have hxs1 := hxs.mono S1 ok (Nat.le_refl _)
 obtain ⟨rv, h2, c2, S2, bz, o, ds, rfl, hO⟩ : jm K 81 [x, .fn 82 [F h.n]] (h.push B) (cd l) (l.filter (oH d)) := by
  by_cases he : cd l = 0
  · exact Kept.e he (tL H (ok.push B) hl he (xm H PB (ok.push B) bx hl) hx1 hxs1)
  · exact Fails.e he (qI H (ok.push B) hl he hx1 hxs1)
 have Sa := S1.trans (S2.le S1.n)
 exact ⟨_, h2, H.go hf (LE H.hk H.prim PB (s := entry 0 [x, .nu .i64 d]) rfl rfl b1 c2 rfl rfl) (.inr rfl) Sa.n rfl rfl rfl, Sa, bz, o, ds, rfl, hO.low S1.n⟩
theorem zt (H : Std K) {h0 : Hp} (bX : HpOk h0) {l : List (List Int)} {s : List Int} (hsl : s.length < 4611686018427387904) (hs : bZ s ≠ 0) {ps pl y : CV} (bs : Box h0 ps y) (hy : Row h0 y (ah s)) : Asks K h0 76 [ps, pl] l (fun _ => false) := by
 intro t a g ha ok S r
 have hf : K.P.funcs[76]? = some Tryz.f76 := by rw [H.hP]; exact Tryz.func76
 have hf77 : K.P.funcs[77]? = some Tryz.f77 := by rw [H.hP]; exact Tryz.func77
 have hyg := hy.mono S bX (Nat.le_refl _)
 have c1 : Comes K 77 [y, t] g (.tup [.nils, .nu .i64 (bZ s)]) g := ck hf77 rfl (H.memo 77 (by decide)) (H.spec 77) rfl (Hx H.hk H.prim H.pl (s := entry 0 [y, t]) rfl (iN H hsl hyg) (ka hs)) (.inr rfl) (Nat.le_refl _) rfl rfl rfl
 have o8 := (bs.mono S (Nat.le_refl _)).load (eL H)
 have o5 : dM 46 (cn K.P 46) = some (fun k => .ptr k 0, .cells [.nils] 0 46) := by rw [KT H]; rfl
 have S2 : Same g.n g (g.push (.cells [.nils] 0 46)) := Same.push (Nat.le_refl _) _
 have wst : bt (g.push (.cells [.nils] 0 46)) (.ptr g.n 0) .nils (au K.P 46) = some (.undef, (g.push (.cells [.nils] 0 46)).set g.n (.cells [.nils] 0 46)) := by
  rw [eL H]
  have hg : (g.push (.cells [.nils] 0 46)).get g.n = .cells [.nils] 0 46 := by rw [ag, if_pos rfl]
  have hc := dT (v := CV.nils) rfl
  have hsol : CV.nils.sol = true := rfl
  have h1l : Nat.ble (0 + 1) [CV.nils].length = true := rfl
  have hset : setAt [CV.nils] 0 [CV.nils] = [CV.nils] := rfl
  simp only [bt, hg, db, hsol, hc, List.length_cons, List.length_nil, Nat.beq_refl, hset, Bool.and_self, Nat.zero_add]
  rfl
 have S3 : Same g.n g ((g.push (.cells [.nils] 0 46)).set g.n (.cells [.nils] 0 46)) := S2.trans (Same.set (Nat.le_refl _) _)
 exact ⟨_, _, H.go hf (yc H.hk H.prim H.pl (s := entry 0 [t, ps, pl]) rfl rfl o8 c1 rfl rfl o5 wst (nM hs) rfl) (.inr rfl) S3.n rfl rfl rfl, S3, (ok.push _).set (by simp) _, rfl⟩
theorem KW (H : Std K) (ok : HpOk h) {l : List (List Int)} {t : List Int} (hl : gU l) (htl : t.length < 4611686018427387904) {x y : CV} {cs : List CV} (hx : Row h x cs) (hxs : Rows h cs l) (hy : Row h y (ah t)) : jm K 27 [x, y] h (kX l t) (l.filter (qC l t)) := by
 have hf : K.P.funcs[27]? = some Tryz.f27 := by rw [H.hP]; exact Tryz.func27
 obtain ⟨F, B, b1, bx⟩ := gE (h := h) (t := 22) hx.one (vX H)
 have S1 : Same h.n h (h.push B) := Same.push (Nat.le_refl _) _
 have aX : HpOk (h.push B) := ok.push _
 obtain ⟨F2, B2, b2, by'⟩ := gE (h := h.push B) (t := 46) hy.one (eL H)
 have S2 : Same (h.push B).n (h.push B) ((h.push B).push B2) := Same.push (Nat.le_refl _) _
 have bz : HpOk ((h.push B).push B2) := aX.push _
 have Sa : Same h.n h ((h.push B).push B2) := S1.trans (S2.le S1.n)
 have hx2 := hx.mono Sa ok (Nat.le_refl _)
 have hxs2 := hxs.mono Sa ok (Nat.le_refl _)
 have hy2 := hy.mono Sa ok (Nat.le_refl _)
 have bx2 := bx.mono S2 (Nat.le_refl _)
 have hll := hl.len
 obtain ⟨rv, h3, c3, S3, ct, o, ds, rfl, hO⟩ : jm K 75 [x, y, .fn 76 [F2 (h.push B).n, F h.n]] ((h.push B).push B2) (kX l t) (l.filter (qC l t)) := by
  by_cases hst : bZ t = 0
  · exact sK H bz hl htl (fun he => xg H bz (by omega) (mu he).simp (cJ.1 hst) by' bx2 hx2 hxs2 hy2) hx2 hxs2 hy2
  · have K1 := sK H bz hl htl (p := fun _ => false) (G := 76) (C := [F2 (h.push B).n, F h.n]) (fun _ => zt H bz htl hst by' hy2) hx2 hxs2 hy2
    have hne : kX l t ≠ 0 := by
     unfold kX
     by_cases he : cd l = 0
     · rw [if_neg (fun hn => hn he), if_neg (fun ht => hst (cJ.2 ((mu he).simp t ht)))]; decide
     · rw [if_pos he]; exact he
    obtain ⟨r, h', c, S, ok', o, ds, hr, hO⟩ := K1
    rw [if_neg hne] at hO
    exact ⟨r, h', c, S, ok', o, ds, hr, by rw [if_neg hne]; exact hO⟩
 have Sall := Sa.trans (S3.le Sa.n)
 exact ⟨_, h3, H.go hf (LB H.hk H.prim H.pl (s := entry 0 [x, y]) rfl rfl b1 b2 (bx2.load (vX H)) (by'.load (eL H)) c3 rfl rfl) (.inr rfl) Sall.n rfl rfl rfl, Sall, ct, o, ds, rfl, hO.low Sa.n⟩
end
theorem Cs {l : List (List Int)} (h : Srt l) : l.Nodup := h.imp fun {a b} h e => by
 subst e
 unfold LtS at h
 rw [(ew a a).2 rfl] at h
 exact absurd h (by decide)
def Val (h : Hp) (x : CV) (l : List (List Int)) : Prop := ∃ cs, Row h x cs ∧ Rows h cs l
section
variable {K : Ctx} {h : Hp}
theorem Val.mono {h h' : Hp} (S : Same h.n h h') (ok : HpOk h) {x : CV} {l : List (List Int)} (v : Val h x l) : Val h' x l := by
 obtain ⟨cs, a, b⟩ := v
 exact ⟨cs, a.mono S ok (Nat.le_refl _), b.mono S ok (Nat.le_refl _)⟩
theorem Own.val {N : Nat} {el : Nat} {x : CV} {cs : List CV} {l : List (List Int)} (o : Own N h el x cs l) : Val h x l := ⟨cs, o.out.row, o.all⟩
theorem Ev (H : Std K) (PB : eo K) {l m : List (List Int)} (hl : gU l) {x y : CV} (hx : Val h x l) (hy : Val h y m) (he : l = m) : Comes K 23 [x, y] h (.bo true) h := by
 obtain ⟨cs, a, b⟩ := hx
 obtain ⟨ds, c, d⟩ := hy
 have := zo H PB (by have := hl.len; omega) (fun a ha => by have := hl.each a ha; omega) a b c d
 rwa [Co.2 he] at this
end
theorem t28 : ae Tryz.prog 28 = .slice 22 1 24 [.nils] := by kernel_rfl
end Go.CP
