import Derived.Test.YtadagifjonbmjaaGreatDoorKl3
import Derived.Test.YtadagifjonbmjaaGreatDoorKw1
import Derived.Test.YtadagifjonbmjaaGreatDoorKl2
set_option linter.all false
namespace Go.CP
open Go.Proofs
variable [LG] [HK]
def I4 (cs : List CV) : List Int := cs.filterMap fun c => match c with
 | .nu _ n => if 0 < n then some (n - 1) else none
 | _ => none
theorem vP {a : List Int} (h : ∀ v ∈ a, 0 ≤ v) : I4 (bP a) = a := by
 unfold I4 bP
 rw [List.filterMap_append]
 have h2 : List.filterMap (fun c => match c with
   | CV.nu _ n => if 0 < n then some (n - 1) else none
   | _ => none) (List.replicate (5 - a.length) (CV.nu .i64 0)) = [] := by
  rw [List.filterMap_eq_nil_iff]
  intro c hc
  rw [(List.mem_replicate.1 hc).2]; rfl
 rw [h2, List.append_nil]
 induction a with
 | nil => rfl
 | cons v a ih =>
  have hv := h v List.mem_cons_self
  simp only [ak, List.map_cons, List.filterMap_cons, if_pos (show 0 < v + 1 by omega)]
  have := ih (fun w hw => h w (List.mem_cons_of_mem _ hw)) (by rw [List.filterMap_eq_nil_iff]; intro c hc; rw [(List.mem_replicate.1 hc).2]; rfl)
  simp only [ak] at this
  rw [this]
  congr 1; omega
theorem Ly {a b : List Int} (ha : OkS a) (hb : OkS b) (h : eJ (.agg (bP a)) (.agg (bP b)) = some true) : a = b := by
 have h1 : bP a = bP b := tu h
 rw [← vP (fun v hv => (ha.rng v hv).1), h1, vP (fun v hv => (hb.rng v hv).1)]
theorem vQ {key v key' : CV} (hk : iu key) (hk' : iu key') (hne : eJ key' key ≠ some true) : ∀ {es es' : List (CV × CV)}, (∀ e ∈ es, iu e.1) → iT key v es = some es' → cB key' es = some none → cB key' es' = some none
 | [], es', _, h, _ => by
  cases h
  obtain ⟨b, hb⟩ := iw hk' hk
  cases b with
  | true => exact absurd hb hne
  | false => simp only [cB, hb]
 | (k, u) :: es, es', hn, h, hl => by
  have hku := hn (k, u) List.mem_cons_self
  obtain ⟨b', hb'⟩ := iw hk' hku
  cases b' with
  | true => simp only [cB, hb'] at hl; cases hl
  | false =>
   simp only [cB, hb'] at hl
   obtain ⟨b, hb⟩ := iw hk hku
   cases b with
   | true =>
    simp only [iT, hb] at h
    cases h
    simp only [cB, hb', hl]
   | false =>
    simp only [iT, hb] at h
    split at h
    · rename_i es2 he
      cases h
      simp only [cB, hb']
      exact vQ hk hk' hne (fun e he => hn e (List.mem_cons_of_mem _ he)) he hl
    · cases h
structure MapOf (es : List (CV × CV)) (l : List (List Int)) : Prop where
 num : ∀ e ∈ es, iu e.1
 yes : ∀ a, OkS a → a ∈ l → QO es a
 no : ∀ a, OkS a → a ∉ l → cB (.agg (bP a)) es = some none
theorem MapOf.put {es es' : List (CV × CV)} {l : List (List Int)} {a : List Int} {k o n c : Nat} (M : MapOf es l) (ha : OkS a) (hu : iT (.agg (bP a)) (.sl k o n c) es = some es') : MapOf es' (l ++ [a]) := by
 obtain ⟨es2, u1, u2, u3, u4⟩ := uV (v := .sl k o n c) (kz ha.le) es M.num
 rw [hu] at u1; cases u1
 refine ⟨u2, fun b hb hm => ?_, fun b hb hm => ?_⟩
 · by_cases he : b = a
   · subst he; exact ⟨_, _, _, _, u3⟩
   · have hm' : b ∈ l := by
      rcases List.mem_append.1 hm with hm | hm
      · exact hm
      · exact absurd (List.mem_singleton.1 hm) he
     obtain ⟨k', o', n', c', hl⟩ := M.yes b hb hm'
     rcases u4 _ _ (kz hb.le) hl with h3 | h3
     · exact ⟨_, _, _, _, h3⟩
     · exact ⟨_, _, _, _, h3⟩
 · have hm' : b ∉ l ∧ b ≠ a := ⟨fun h => hm (List.mem_append_left _ h), fun h => hm (by rw [h]; exact List.mem_append_right _ (List.mem_singleton.2 rfl))⟩
   exact vQ (kz ha.le) (kz hb.le) (fun h => hm'.2 (Ly hb ha h)) M.num hu (M.no b hb hm'.1)
theorem MapOf.skip {es : List (CV × CV)} {l : List (List Int)} {a : List Int} (M : MapOf es l) (ha : ¬ OkS a) : MapOf es (l ++ [a]) := by
 refine ⟨M.num, fun b hb hm => ?_, fun b hb hm => M.no b hb fun h => hm (List.mem_append_left _ h)⟩
 rcases List.mem_append.1 hm with hm | hm
 · exact M.yes b hb hm
 · rw [List.mem_singleton.1 hm] at hb; exact absurd hb ha
section
variable {K : Ctx} {h : Hp}
theorem Lz (H : Std K) {h : Hp} {km : Nat} {es : List (CV × CV)} {a : List Int} (hle : a.length ≤ 5) (hg : h.get km = .mp es) (hl : cB (.agg (bP a)) es = some none) : eR K.P h false (.agg (bP a)) (.mp km) (ae K.P 100) = some .nils := by
 have h1 : ae K.P 100 = .map 103 46 := by rw [H.hP]; exact H4
 have h2 : ep K.P 46 = some .nils := by rw [H.hP]; exact QH
 rw [h1]
 simp only [eR, oR H hle, wU, h2, qT, hg, hl, qS, Aa]
theorem H9 (H : Std K) : ab K.P .eql 46 .nils .nils = some (.bo true) := by
 have : ae K.P 46 = .slice 3 1 8 [.nu .i64 0] := by rw [H.hP]; exact t46
 simp only [ab, nT, nB, this]
theorem gV (H : Std K) (ok : HpOk h) {l : List (List Int)} (hl : fP l) {x : CV} {cs : List CV} (hx : Row h x cs) (hxs : Rows h cs l) : ga K 26 [x] h fun r _ => r = .nu .i64 (bc l) := by
 have hf : K.P.funcs[26]? = some Tryz.f26 := by rw [H.hP]; exact Tryz.func26
 have hcl := hxs.length
 have hll := hl.len
 have hlen := eQ H hx
 rw [hcl] at hlen
 by_cases hbig : 1024 < l.length
 · refine ⟨_, h, H.go hf (Runs.seq (xR H.hk) (ay (Eo H.hk H.prim H.pl rfl hlen (gd (by show (1024 : Int) < Int.ofNat _; simp; omega))) (by simp))) (.inr rfl) (Nat.le_refl _) rfl rfl rfl, Same.refl _ _, ok, ?_⟩
   show CV.nu .i64 3 = _
   rw [bc, if_pos hbig]
 have S0 : Same h.n h (h.push (.mp [])) := Same.push (Nat.le_refl _) _
 have hlen1 := eQ H (hx.mono S0 ok (Nat.le_refl _))
 rw [hcl] at hlen1
 obtain ⟨s1, r1, j0, js⟩ : ∃ s1, bI K [1, 0] (T.set (entry 0 [x]) 2 (.nu .i64 0)) h .normal s1 h ∧ s1.at 0 = x ∧ s1.at ag = .undef := ⟨_, Ep H.hk H.prim H.pl rfl hlen (kC (by simp; omega)), rfl, rfl⟩
 obtain ⟨s2, r2, k0, k3, k17, k18, k19, ks⟩ : ∃ s2, bI K [1, 1, 1, 0, 0] (T.set (T.set s1 16 (.mp h.n)) 3 (.mp h.n)) (h.push (.mp [])) .normal s2 (h.push (.mp [])) ∧ s2.at 0 = x ∧ s2.at 3 = .mp h.n ∧ s2.at 17 = x ∧ s2.at 18 = .nu .i64 (.ofNat l.length) ∧ s2.at 19 = .nu .i64 (.ofNat 0) ∧ s2.at ag = .undef := ⟨_, Mr H.hk j0 hlen1, j0, rfl, rfl, rfl, rfl, js⟩
 obtain ⟨s3, h3, r3, eI, S3, hkn3, e0, e3, es, hg3, M3, e1⟩ := bA (K := K) (f := 26) (n := 74) (c := aL [1, 1, 1, 0, 1, 0, 0] (ax Tryz.f26)) (s := s2) (h := h.push (.mp [])) (m := l.length) (b := 0)
  (I := fun i s g => HpOk g ∧ Same h.n h g ∧ h.n < g.n ∧ s.at 0 = x ∧ s.at 3 = .mp h.n ∧ s.at 17 = x ∧ s.at 18 = .nu .i64 (.ofNat l.length) ∧ s.at 19 = .nu .i64 (.ofNat i) ∧ s.at ag = .undef ∧ ∃ es, g.get h.n = .mp es ∧ MapOf es (l.take i))
  (E := fun s g => HpOk g ∧ Same h.n h g ∧ h.n < g.n ∧ s.at 0 = x ∧ s.at 3 = .mp h.n ∧ ∃ es, g.get h.n = .mp es ∧ MapOf es l ∧ s.at ag = .undef)
  ⟨ok.push _, S0, by simp, k0, k3, k17, k18, k19, ks, [], by rw [aB, if_pos rfl], by simp, by intro a _ hm; simp at hm, fun a _ _ => rfl⟩
  (fun i s g hi ⟨okg, S, hkn, g0, g3, g17, g18, g19, gs, es, hg, M⟩ => by
    have hr := hx.mono S ok (Nat.le_refl _)
    obtain ⟨p, hp1, hp2⟩ := ip H hr (i := i) (by omega)
    have hxi := (hxs.get (i := i) (by omega) hi).mono S ok (Nat.le_refl _)
    have hle := hl.each l[i] (List.getElem_mem hi)
    have c66 := vM H (by omega) hxi
    by_cases hok : eM l[i] = 0
    · have okS := iR.1 hok
      rw [hok] at c66
      obtain ⟨k, o, n, c, hsl, _⟩ := hxi.blk (fp okS.ne) okg
      obtain ⟨h1, c71, S1, bH⟩ := yI H okg okS.le okS.rng hxi
      have hg1 : h1.get h.n = .mp es := by rw [S1.get h.n hkn]; exact hg
      have hkn1 : h.n < h1.n := Nat.lt_of_lt_of_le hkn S1.n
      obtain ⟨es', u1, u2, u3, u4⟩ := uV (v := cs[i]) (kz okS.le) es M.num
      have w3 : nY K.P h1 (.mp h.n) (.agg (bP l[i])) cs[i] (ae K.P 100) = some (.undef, h1.set h.n (.mp es')) := by
       rw [show ae K.P 100 = .map 103 46 by rw [H.hP]; exact H4]
       simp only [nY, oR H okS.le, BQ, hg1, u1, BP]
      refine ⟨_, _, rM H.hk H.prim H.pl g19 g18 g17 g3 (aJ hi) hp1 hp2 c66 rfl c71 w3 (bh (by omega)), bH.set hkn1 _, (S.trans (S1.le S.n)).trans (Same.set (Nat.le_refl _) _), hkn1, g0, g3, g17, g18, rfl, gs, es', by rw [Hp.get_set, if_pos rfl], ?_⟩
      rw [bK hi]
      rw [hsl] at u1
      exact M.put okS u1
    · exact ⟨_, _, rN H.hk H.prim H.pl g19 g18 g17 (aJ hi) hp1 hp2 c66 (fv hok) (bh (by omega)), okg, S, hkn, g0, g3, g17, g18, rfl, gs, es, hg, by rw [bK hi]; exact M.skip fun o => hok (iR.2 o)⟩)
  (fun s g ⟨okg, S, hkn, g0, g3, g17, g18, g19, gs, es, hg, M⟩ =>
    ⟨_, _, tT H.hk H.prim H.pl g19 g18 (aQ (Nat.le_refl _)), okg, S, hkn, g0, g3, es, hg, by rw [List.take_length] at M; exact M, gs⟩)
 have hlen3 := eQ H (hx.mono S3 ok (Nat.le_refl _))
 rw [hcl] at hlen3
 obtain ⟨s4, r4, l0, l3, l31, l32, l33, ls⟩ : ∃ s4, bI K [1, 1, 1, 1, 0, 0] s3 h3 .normal s4 h3 ∧ s4.at 0 = x ∧ s4.at 3 = .mp h.n ∧ s4.at 31 = x ∧ s4.at 32 = .nu .i64 (.ofNat l.length) ∧ s4.at 33 = .nu .i64 (.ofNat 0) ∧ s4.at ag = .undef := ⟨_, Jy H.hk e0 hlen3, e0, e3, rfl, rfl, rfl, e1⟩
 have L := bQ (K := K) (f := 26) (n := 74) (c := aL [1, 1, 1, 1, 0, 1, 0, 0] (ax Tryz.f26)) (s := s4) (h := h3) (m := l.length) (b := 2) (I := fun i s g => HpOk g ∧ Same h.n h g ∧ h.n < g.n ∧ g.get h.n = .mp es ∧ s.at 0 = x ∧ s.at 3 = .mp h.n ∧ s.at 31 = x ∧ s.at 32 = .nu .i64 (.ofNat l.length) ∧ s.at 33 = .nu .i64 (.ofNat i) ∧ s.at ag = .undef ∧ ∀ j, j < i → cg l j = 0)
  (E := fun s g => HpOk g ∧ Same h.n h g ∧ s.at ag = .undef ∧ bc l = 0) (R := fun s g => HpOk g ∧ Same h.n h g ∧ s.at ag = .undef ∧ s.at 2 = .nu .i64 (bc l)) ⟨eI, S3, hkn3, hg3, l0, l3, l31, l32, l33, ls, fun j hj => absurd hj (Nat.not_lt_zero _)⟩
  (fun i s g hi ⟨okg, S, hkn, hg, g0, g3, g31, g32, g33, gs, hall⟩ => by
    have hC : cg l i ≠ 0 → bc l = cg l i := fun hne => by
     rw [bc, if_neg hbig]; exact vO _ 0 i (Nat.zero_le _) (by omega) (fun j _ hj => hall j hj) hne
    have hr := hx.mono S ok (Nat.le_refl _)
    have hrs := hxs.mono S ok (Nat.le_refl _)
    obtain ⟨p, hp1, hp2⟩ := ip H hr (i := i) (by omega)
    have hxi := hrs.get (i := i) (by omega) hi
    have hle := hl.each l[i] (List.getElem_mem hi)
    have e0 := cG hi
    obtain ⟨s1, r1, j0, j3, j31, j32, j33, j34, js⟩ : ∃ s1, bI K [1, 1, 1, 1, 0, 1, 0, 0, 0] s g .normal s1 g ∧ s1.at 0 = x ∧ s1.at 3 = .mp h.n ∧ s1.at 31 = x ∧ s1.at 32 = .nu .i64 (.ofNat l.length) ∧ s1.at 33 = .nu .i64 (.ofNat i) ∧ s1.at 34 = .bo true ∧ s1.at ag = .undef := ⟨_, Aq H.hk g33 g32 (aJ hi), g0, g3, g31, g32, g33, rfl, gs⟩
    obtain ⟨s2, r2, k0, k3, k31, k32, k33, k6, k7, ks⟩ : ∃ s2, bI K [1, 1, 1, 1, 0, 1, 0, 0, 1, 1, 0, 0, 0] s1 g .normal s2 g ∧ s2.at 0 = x ∧ s2.at 3 = .mp h.n ∧ s2.at 31 = x ∧ s2.at 32 = .nu .i64 (.ofNat l.length) ∧ s2.at 33 = .nu .i64 (.ofNat i) ∧ s2.at 6 = .nu .i64 (.ofNat i) ∧ s2.at 7 = cs[i] ∧ s2.at ag = .undef := ⟨_, Jz H.hk j33 j31 hp1 hp2, j0, j3, j31, j32, j33, rfl, rfl, js⟩
    by_cases h1 : eM l[i] = 0
    case neg =>
     have hat : cg l i = eM l[i] := by unfold cg; rw [e0, if_pos h1]
     have c73 := CQ H (by omega) h1 hxi
     obtain ⟨s3, r3, l9, ls⟩ : ∃ s3, bI K [1, 1, 1, 1, 0, 1, 0, 0, 1, 1, 0, 0, 1, 0] s2 g .normal s3 g ∧ s3.at 9 = .nu .i64 (eM l[i]) ∧ s3.at ag = .undef := ⟨_, Ar H.hk k7 (H.prim _ _) c73 rfl rfl, rfl, ks⟩
     exact .inr (.inl ⟨_, _, Runs.seq r1 (Runs.seq (dP H.hk H.prim H.pl j34) (ay (aK (Runs.seq r2 (Runs.seq r3 (ay (lH H.hk H.prim H.pl l9 (gz h1)) (by simp))))) (by simp))), okg, S, ls, by rw [hC (by rw [hat]; exact h1), hat]; rfl⟩)
    have okS := iR.1 h1
    have h1' : eM (l.getD i []) = 0 := by rw [e0]; exact h1
    obtain ⟨y, fs, h5, c5, S5, gH, own5⟩ := yH H okg okS hxi
    obtain ⟨s3, r3, l0, l3, l31, l32, l33, l6, l7, l8, l9, ls⟩ : ∃ s3, bI K [1, 1, 1, 1, 0, 1, 0, 0, 1, 1, 0, 0, 1, 0] s2 g .normal s3 h5 ∧ s3.at 0 = x ∧ s3.at 3 = .mp h.n ∧ s3.at 31 = x ∧ s3.at 32 = .nu .i64 (.ofNat l.length) ∧ s3.at 33 = .nu .i64 (.ofNat i) ∧ s3.at 6 = .nu .i64 (.ofNat i) ∧ s3.at 7 = cs[i] ∧ s3.at 8 = y ∧ s3.at 9 = .nu .i64 0 ∧ s3.at ag = .undef := ⟨_, Ar H.hk k7 (H.prim _ _) c5 rfl rfl, k0, k3, k31, k32, k33, k6, k7, rfl, rfl, ks⟩
    obtain ⟨s4, r4, m0, m3, m31, m32, m33, m6, m7, m8, ms⟩ : ∃ s4, bI K [1, 1, 1, 1, 0, 1, 0, 0, 1, 1, 0, 0, 1, 1, 0] s3 h5 .normal s4 h5 ∧ s4.at 0 = x ∧ s4.at 3 = .mp h.n ∧ s4.at 31 = x ∧ s4.at 32 = .nu .i64 (.ofNat l.length) ∧ s4.at 33 = .nu .i64 (.ofNat i) ∧ s4.at 6 = .nu .i64 (.ofNat i) ∧ s4.at 7 = cs[i] ∧ s4.at 8 = y ∧ s4.at ag = .undef := ⟨_, lI H.hk H.prim H.pl l9 rfl, l0, l3, l31, l32, l33, l6, l7, l8, ls⟩
    have S05 : Same h.n h h5 := S.trans (S5.le S.n)
    have hkn5 : h.n < h5.n := Nat.lt_of_lt_of_le hkn S5.n
    have hg5 : h5.get h.n = .mp es := by rw [S5.get h.n hkn]; exact hg
    have hnb : (0 < i ∧ aW (l.getD i []) (l.getD (i - 1) []) = 0 ∧ ∃ s5, bI K [1, 1, 1, 1, 0, 1, 0, 0, 1, 1, 0, 0, 1, 1, 1, 0] s4 h5 .ret s5 h5 ∧ s5.at 2 = .nu .i64 5 ∧ s5.at ag = .undef) ∨
     (0 < i ∧ aW (l.getD i []) (l.getD (i - 1) []) ≠ 0 ∧ aW (l.getD i []) (l.getD (i - 1) []) < 0 ∧ ∃ s5, bI K [1, 1, 1, 1, 0, 1, 0, 0, 1, 1, 0, 0, 1, 1, 1, 0] s4 h5 .ret s5 h5 ∧ s5.at 2 = .nu .i64 6 ∧ s5.at ag = .undef) ∨
     ((0 < i → aW (l.getD i []) (l.getD (i - 1) []) ≠ 0 ∧ ¬ aW (l.getD i []) (l.getD (i - 1) []) < 0) ∧ ∃ s5, bI K [1, 1, 1, 1, 0, 1, 0, 0, 1, 1, 0, 0, 1, 1, 1, 0] s4 h5 .normal s5 h5 ∧ s5.at 0 = x ∧ s5.at 3 = .mp h.n ∧ s5.at 31 = x ∧ s5.at 32 = .nu .i64 (.ofNat l.length) ∧ s5.at 33 = .nu .i64 (.ofNat i) ∧ s5.at 8 = y ∧ s5.at ag = .undef) := by
     cases i with
     | zero => exact .inr (.inr ⟨fun h => absurd h (Nat.lt_irrefl _), _, kL H.hk H.prim H.pl m6 rfl, m0, m3, m31, m32, m33, m8, ms⟩)
     | succ k =>
      have hr5 := hx.mono S05 ok (Nat.le_refl _)
      have hrs5 := hxs.mono S05 ok (Nat.le_refl _)
      obtain ⟨q, hq1, hq2⟩ := ip H hr5 (i := k) (by omega)
      have cc := sJ H (a := l[k + 1]) (b := l[k]'(by omega)) (by omega) (hrs5.get (i := k + 1) (by omega) hi) (hrs5.get (i := k) (by omega) (by omega))
      have ek : l.getD (k + 1 - 1) [] = l[k]'(by omega) := cG (i := k) (by omega)
      rw [e0, ek]
      have hpos : (0 : Int) < Int.ofNat (k + 1) := by simp
      by_cases hc : aW l[k + 1] (l[k]'(by omega)) = 0
      · exact .inl ⟨by omega, hc, _, ke H.hk H.prim H.pl m6 m7 m0 (gd hpos) (lh (by omega)) hq1 hq2 cc (jj hc), rfl, ms⟩
      by_cases hc2 : aW l[k + 1] (l[k]'(by omega)) < 0
      · exact .inr (.inl ⟨by omega, hc, hc2, _, jD H.hk H.prim H.pl m6 m7 m0 (gd hpos) (lh (by omega)) hq1 hq2 cc (fv hc) (CN hc2), rfl, ms⟩)
      · exact .inr (.inr ⟨fun _ => ⟨hc, hc2⟩, _, jE H.hk H.prim H.pl m6 m7 m0 (gd hpos) (lh (by omega)) hq1 hq2 cc (fv hc) (yQ (by omega)), m0, m3, m31, m32, m33, m8, ms⟩)
    rcases hnb with ⟨hpos, hc, s5, r5, h52, h5s⟩ | ⟨hpos, hc, hc2, s5, r5, h52, h5s⟩ | ⟨hc, s5, r5, n0, n3, n31, n32, n33, n8, ns⟩
    · have hat : cg l i = 5 := by unfold cg; rw [if_neg (fun hn => hn h1'), if_pos ⟨hpos, hc⟩]
      exact .inr (.inl ⟨_, _, Runs.seq r1 (Runs.seq (dP H.hk H.prim H.pl j34) (ay (aK (Runs.seq r2 (Runs.seq r3 (Runs.seq r4 (ay r5 (by simp)))))) (by simp))), gH, S05, h5s, by rw [hC (by rw [hat]; decide), hat]; exact h52⟩)
    · have hat : cg l i = 6 := by unfold cg; rw [if_neg (fun hn => hn h1'), if_neg (fun h => hc h.2), if_pos ⟨hpos, hc2⟩]
      exact .inr (.inl ⟨_, _, Runs.seq r1 (Runs.seq (dP H.hk H.prim H.pl j34) (ay (aK (Runs.seq r2 (Runs.seq r3 (Runs.seq r4 (ay r5 (by simp)))))) (by simp))), gH, S05, h5s, by rw [hC (by rw [hat]; decide), hat]; exact h52⟩)
    have hat := sP h1' hc
    rw [e0] at hat
    have hfl := mE l[i]
    have hle5 := okS.le
    have hlen8 := eQ H own5.out.row
    rw [own5.rows.length] at hlen8
    obtain ⟨s6, r6, q0, q3, q31, q32, q33, q61, q62, q63, qs⟩ : ∃ s6, bI K [1, 1, 1, 1, 0, 1, 0, 0, 1, 1, 0, 0, 1, 1, 1, 1, 0] s5 h5 .normal s6 h5 ∧ s6.at 0 = x ∧ s6.at 3 = .mp h.n ∧ s6.at 31 = x ∧ s6.at 32 = .nu .i64 (.ofNat l.length) ∧ s6.at 33 = .nu .i64 (.ofNat i) ∧ s6.at 61 = y ∧ s6.at 62 = .nu .i64 (.ofNat (be l[i]).length) ∧ s6.at 63 = .nu .i64 (.ofNat 0) ∧ s6.at ag = .undef := ⟨_, JD H.hk n8 hlen8, n0, n3, n31, n32, n33, rfl, rfl, rfl, ns⟩
    have hfr := own5.out.row
    have hfa := own5.all
    have hfc := hfa.length
    have L2 := bQ (K := K) (f := 26) (n := 74) (c := aL [1, 1, 1, 1, 0, 1, 0, 0, 1, 1, 0, 0, 1, 1, 1, 1, 1, 0, 0] (ax Tryz.f26)) (s := s6) (h := h5) (m := (be l[i]).length) (b := 5) (I := fun k s g => HpOk g ∧ Same h5.n h5 g ∧ s.at 0 = x ∧ s.at 3 = .mp h.n ∧ s.at 31 = x ∧ s.at 32 = .nu .i64 (.ofNat l.length) ∧ s.at 33 = .nu .i64 (.ofNat i) ∧ s.at 61 = y ∧ s.at 62 = .nu .i64 (.ofNat (be l[i]).length) ∧ s.at 63 = .nu .i64 (.ofNat k) ∧ s.at ag = .undef ∧ ((be l[i]).take k).all (fun f => decide (f ∈ l)) = true)
     (E := fun s g => HpOk g ∧ Same h5.n h5 g ∧ s.at 0 = x ∧ s.at 3 = .mp h.n ∧ s.at 31 = x ∧ s.at 32 = .nu .i64 (.ofNat l.length) ∧ s.at 33 = .nu .i64 (.ofNat i) ∧ s.at ag = .undef ∧ (be l[i]).all (fun f => decide (f ∈ l)) = true) (R := fun s g => HpOk g ∧ Same h5.n h5 g ∧ s.at ag = .undef ∧ s.at 2 = .nu .i64 7 ∧ (be l[i]).all (fun f => decide (f ∈ l)) = false) ⟨gH, Same.refl _ _, q0, q3, q31, q32, q33, q61, q62, q63, qs, rfl⟩
     (fun k s g hk ⟨okg, Sg, g0, g3, g31, g32, g33, g61, g62, g63, gs, hallk⟩ => by
       obtain ⟨q, hq1, hq2⟩ := ip H (hfr.mono Sg gH (Nat.le_refl _)) (i := k) (by omega)
       have hrk := (hfa.get (i := k) (by omega) hk).mono Sg gH (Nat.le_refl _)
       have hmf := lN (List.getElem_mem hk)
       have okf : OkS (be l[i])[k] := okS.sub hmf.1 (hmf.2 okS.ne)
       obtain ⟨h1, c26, S1, bH⟩ := yI H okg okf.le okf.rng hrk
       have hg1 : h1.get h.n = .mp es := by rw [S1.get h.n (Nat.lt_of_lt_of_le hkn5 Sg.n), Sg.get h.n hkn5]; exact hg5
       by_cases hin : (be l[i])[k] ∈ l
       · obtain ⟨k', o, n, c, hl'⟩ := M3.yes _ okf hin
         exact .inl ⟨_, _, iM H.hk H.prim H.pl g63 g62 g61 g3 (aJ hk) hq1 hq2 c26 (CJ H okf.le hg1 hl') (FP H k' o n c) (bh (by omega)), bH, Sg.trans (S1.le Sg.n), g0, g3, g31, g32, g33, g61, g62, rfl, gs, iy hk hallk (by simpa using hin)⟩
       · exact .inr (.inl ⟨_, _, iL H.hk H.prim H.pl g63 g62 g61 g3 (aJ hk) hq1 hq2 c26 (Lz H okf.le hg1 (M3.no _ okf hin)) (H9 H), bH, Sg.trans (S1.le Sg.n), gs, rfl, mG hk (by simpa using hin)⟩))
     (fun s g ⟨okg, Sg, g0, g3, g31, g32, g33, g61, g62, g63, gs, hallk⟩ =>
       ⟨_, _, iZ H.hk H.prim H.pl g63 g62 (aQ (Nat.le_refl _)), okg, Sg, g0, g3, g31, g32, g33, gs, by rw [List.take_length] at hallk; exact hallk⟩)
    rcases L2 with ⟨s7, h7, r7, ok7, S7, t0, t3, t31, t32, t33, ts, hv⟩ | ⟨s7, h7, r7, ok7, S7, ts, t2, hv⟩
    · rw [hv, if_pos rfl] at hat
      exact .inl ⟨_, _, Runs.seq r1 (Runs.seq (dP H.hk H.prim H.pl j34) (Runs.seq (aq (Runs.seq r2 (Runs.seq r3 (Runs.seq r4 (Runs.seq r5 (Runs.seq r6 r7)))))) (JG H.hk t33 (bh (by omega))))), ok7, S05.trans (S7.le S05.n), Nat.lt_of_lt_of_le hkn5 S7.n, by rw [S7.get h.n hkn5]; exact hg5, t0, t3, t31, t32, rfl, ts, fun j hj => by
       rcases Nat.lt_or_ge j i with hlt | hge
       · exact hall j hlt
       · obtain rfl : j = i := by omega
         exact hat⟩
    · rw [hv, if_neg (by simp)] at hat
      exact .inr (.inl ⟨_, _, Runs.seq r1 (Runs.seq (dP H.hk H.prim H.pl j34) (ay (aK (Runs.seq r2 (Runs.seq r3 (Runs.seq r4 (Runs.seq r5 (Runs.seq r6 r7)))))) (by simp))), ok7, S05.trans (S7.le S05.n), ts, by rw [hC (by rw [hat]; decide), hat]; exact t2⟩))
  (fun s g ⟨okg, S, hkn, hg, g0, g3, g31, g32, g33, gs, hall⟩ => by
    obtain ⟨s1, r1, k34, ks⟩ : ∃ s1, bI K [1, 1, 1, 1, 0, 1, 0, 0, 0] s g .normal s1 g ∧ s1.at 34 = .bo false ∧ s1.at ag = .undef := ⟨_, Aq H.hk g33 g32 (aQ (by omega)), rfl, gs⟩
    refine ⟨_, _, Runs.seq r1 (ay (pO H.hk H.prim H.pl k34) (by simp)), okg, S, ks, ?_⟩
    rw [bc, if_neg hbig]; exact BB _ 0 fun j _ hj => hall j (by omega))
 rcases L with ⟨s', h', r, ok', S, hs, hv⟩ | ⟨s', h', r, ok', S, hs, h2⟩
 · exact ⟨_, h', H.go hf (Runs.seq (xR H.hk) (Runs.seq r1 (Runs.seq (DH H.hk) (Runs.seq (Runs.seq r2 r3) (Runs.seq (Runs.seq r4 r) (Cl H.hk H.prim H.pl)))))) (.inr rfl) S.n hs rfl rfl, S, ok', by rw [hv]; rfl⟩
 · exact ⟨_, h', H.go hf (Runs.seq (xR H.hk) (Runs.seq r1 (Runs.seq (DH H.hk) (Runs.seq (Runs.seq r2 r3) (ay (Runs.seq r4 r) (by simp)))))) (.inr rfl) S.n hs (by show some [Fr.at s' 2] = _; rw [h2]) rfl, S, ok', rfl⟩
end
theorem fQ {l : List (List Int)} (h : bc l = 0) : OkC l := by
 unfold bc at h
 by_cases hb : 1024 < l.length
 · rw [if_pos hb] at h; exact absurd h (by decide)
 rw [if_neg hb] at h
 have hz : ∀ i (hi : i < l.length), cg l i = 0 := fun i hi => FX _ 0 h i (Nat.zero_le _) (by omega)
 have hS : ∀ i (hi : i < l.length), eM l[i] = 0 ∧ (0 < i → aW l[i] (l.getD (i - 1) []) ≠ 0 ∧ ¬ aW l[i] (l.getD (i - 1) []) < 0) ∧ (be l[i]).all (fun f => decide (f ∈ l)) = true := by
  intro i hi
  have := hz i hi
  unfold cg at this
  rw [cG hi] at this
  by_cases h1 : eM l[i] = 0
  · rw [if_neg (fun hn => hn h1)] at this
    by_cases h2 : 0 < i ∧ aW l[i] (l.getD (i - 1) []) = 0
    · rw [if_pos h2] at this; exact absurd this (by decide)
    rw [if_neg h2] at this
    by_cases h3 : 0 < i ∧ aW l[i] (l.getD (i - 1) []) < 0
    · rw [if_pos h3] at this; exact absurd this (by decide)
    rw [if_neg h3] at this
    refine ⟨h1, fun hp => ⟨fun e => h2 ⟨hp, e⟩, fun e => h3 ⟨hp, e⟩⟩, ?_⟩
    cases hq : (be l[i]).all (fun f => decide (f ∈ l)) with
    | true => rfl
    | false => rw [hq] at this; exact absurd this (by decide)
  · rw [if_pos h1] at this; exact absurd this h1
 refine ⟨fun a ha => ?_, fun i hi => ?_, fun a ha f hf => ?_, by omega⟩
 · obtain ⟨i, hi, rfl⟩ := List.getElem_of_mem ha
   exact iR.1 (hS i hi).1
 · have := (hS (i + 1) hi).2.1 (by omega)
   rw [show l.getD (i + 1 - 1) [] = l[i]'(by omega) from cG (i := i) (by omega)] at this
   rcases lk l[i + 1] (l[i]'(by omega)) with h | h | h
   · rw [h] at this; exact absurd (by decide : (-1 : Int) < 0) this.2
   · exact absurd h this.1
   · exact h
 · obtain ⟨i, hi, rfl⟩ := List.getElem_of_mem ha
   simpa using List.all_eq_true.1 (hS i hi).2.2 f hf
section
variable {K : Ctx} {h : Hp}
theorem yX (H : Std K) (PB : cw K) {a : List Int} {v : Int} (hbig : a.length < 4611686018427387904) {q z : CV} (bq : Box h q z) (hz : Row h z (ak a)) : Comes K 112 [.nu .i64 v, q] h (.bo (!(dy a v))) h := by
 have hf : K.P.funcs[112]? = some Tryz.f112 := by rw [H.hP]; exact Tryz.func112
 exact H.go hf (Oa H.hk H.prim PB (s := entry 0 [.nu .i64 v, q]) rfl rfl (bq.load (PR H)) (uW H hbig hz) rfl) (.inr rfl) (Nat.le_refl _) rfl rfl rfl
theorem CT (H : Std K) (PB : cw K) {a : List Int} {G : FuncId} {C : List CV} {p : Int → Bool} (hbig : a.length < 4611686018427387904) {x : CV} (ha : Row h x (ak a)) (hg : ∀ v ∈ a, Comes K G ([.nu .i64 v] ++ C) h (.bo (p v)) h) : ∃ n, Comes K 140 [x, .fn G C] h (.nu .i64 n) h ∧ ck 0 n = a.any p := by
 have hf : K.P.funcs[140]? = some Tryz.f140 := by rw [H.hP]; exact Tryz.func140
 have hlen := fg H ha
 rw [ar] at hlen
 obtain ⟨s1, r1, k0, k1, k7, k8, ks⟩ : ∃ s1, il K [1, 0, 0] (T.set (entry 0 [x, .fn G C]) 4 (.nu .i64 0)) h .normal s1 h ∧ s1.at 0 = x ∧ s1.at 1 = .fn G C ∧ s1.at 7 = .nu .i64 (.ofNat a.length) ∧ s1.at 8 = .nu .i64 (.ofNat 0) ∧ s1.at ag = .undef := ⟨_, KM H.hk rfl hlen, rfl, rfl, rfl, rfl, rfl⟩
 have L := bQ (K := K) (f := 140) (n := 19) (c := aL [1, 0, 1, 0, 0] (ax Tryz.f140)) (s := s1) (h := h) (m := a.length) (b := 0) (I := fun i s g => g = h ∧ s.at 0 = x ∧ s.at 1 = .fn G C ∧ s.at 7 = .nu .i64 (.ofNat a.length) ∧ s.at 8 = .nu .i64 (.ofNat i) ∧ s.at ag = .undef ∧ (a.take i).any p = false)
  (E := fun s g => g = h ∧ s.at ag = .undef ∧ a.any p = false) (R := fun s g => g = h ∧ s.at ag = .undef ∧ a.any p = true ∧ ∃ j : Nat, s.at 4 = .nu .i64 (.ofNat j)) ⟨rfl, k0, k1, k7, k8, ks, rfl⟩
  (fun i s g hi ⟨e, g0, g1, g7, g8, gs, hall⟩ => by
    subst e
    obtain ⟨q, hp1, hp2⟩ := jh H ha hi
    have hin := hg a[i] (List.getElem_mem hi)
    cases hq : p a[i] with
    | false =>
     rw [hq] at hin
     exact .inl ⟨_, _, uE H.hk H.prim PB g8 g7 g1 g0 (aJ hi) hp1 hp2 rfl hin (bh (by omega)), rfl, g0, g1, g7, rfl, gs, kD hi hall hq⟩
    | true =>
     rw [hq] at hin
     exact .inr (.inl ⟨_, _, uD H.hk H.prim PB g8 g7 g1 g0 (aJ hi) hp1 hp2 rfl hin, rfl, gs, jT hi hq, i, rfl⟩))
  (fun s g ⟨e, g0, g1, g7, g8, gs, hall⟩ => by
    subst e
    exact ⟨_, _, wD H.hk H.prim PB g8 g7 (aQ (Nat.le_refl _)), rfl, gs, by rw [List.take_length] at hall; exact hall⟩)
 rcases L with ⟨s', h', r, rfl, hs, hv⟩ | ⟨s', h', r, rfl, hs, hv, j, hj⟩
 · rw [hv]
   exact ⟨-1, H.go hf (Runs.seq (A6 H.hk) (Runs.seq (Runs.seq r1 r) (HM H.hk H.prim PB))) (.inr rfl) (Nat.le_refl _) hs rfl rfl, rfl⟩
 · rw [hv]
   exact ⟨.ofNat j, H.go hf (Runs.seq (A6 H.hk) (ay (Runs.seq r1 r) (by simp))) (.inr rfl) (Nat.le_refl _) hs (by show some [Fr.at s' 4] = _; rw [hj]) rfl, fA (by simp)⟩
theorem zU {α : Type} (p : α → Bool) (l : List α) : (!(l.any fun v => !(p v))) = l.all p := by
 induction l with
 | nil => rfl
 | cons a l ih => rw [List.any_cons, List.all_cons, Bool.not_or, Bool.not_not, ih]
theorem Ia (H : Std K) (PB : cw K) (ok : HpOk h) {a b : List Int} (hab : a.length < 4611686018427387904) (hbb : b.length < 4611686018427387904) {x y : CV} (ha : Row h x (ak a)) (hb : Row h y (ak b)) : ga K 68 [x, y] h fun r _ => r = .bo (cz a b) := by
 have hf : K.P.funcs[68]? = some Tryz.f68 := by rw [H.hP]; exact Tryz.func68
 have hf2 : K.P.funcs[111]? = some Tryz.f111 := by rw [H.hP]; exact Tryz.func111
 obtain ⟨F, B, b1, bx⟩ := By (h := h) (t := 46) ha.one (PR H)
 have S1 : Same h.n h (h.push B) := Same.push (Nat.le_refl _) _
 have hz := ha.mono S1 ok (Nat.le_refl _)
 obtain ⟨n, c, hn⟩ := CT H PB (G := 112) (C := [F h.n]) (p := fun v => !(dy a v)) hbb (hb.mono S1 ok (Nat.le_refl _)) (fun v _ => yX H PB hab bx hz)
 have o8 := kw (P := K.P) (t := 3) n 0
 rw [hn] at o8
 have c111 : Comes K 111 [y, .fn 112 [F h.n]] (h.push B) (.bo (b.any fun v => !(dy a v))) (h.push B) := dD hf2 rfl (H.memo 111 (by decide)) (H.spec 111) rfl (N9 H.hk H.prim PB (s := entry 0 [y, .fn 112 [F h.n]]) rfl rfl c o8) (.inr rfl) (Nat.le_refl _) rfl rfl rfl
 refine ⟨_, _, H.go hf (Qw H.hk H.prim PB (s := entry 0 [x, y]) rfl rfl b1 c111 rfl) (.inr rfl) S1.n rfl rfl rfl, S1, ok.push _, ?_⟩
 show CV.bo (!(b.any fun v => !(dy a v))) = _
 rw [zU, cz]
def QB (K : Ctx) (f : FuncId) (args : List CV) (h : Hp) (e : Int) : Prop := ga K f args h fun r _ => r = .tup [.nils, .nu .i64 e]
theorem CU (H : Std K) (ok : HpOk h) {l : List (List Int)} (hl : fP l) (he : bc l ≠ 0) {G : FuncId} {C : List CV} {x : CV} {cs : List CV} (hx : Row h x cs) (hxs : Rows h cs l) : QB K 81 [x, .fn G C] h (bc l) := by
 have hf : K.P.funcs[81]? = some Tryz.f81 := by rw [H.hP]; exact Tryz.func81
 obtain ⟨r, h1, c1, S1, bH, rfl⟩ := gV H ok hl hx hxs
 exact ⟨_, h1, H.go hf (Runs.seq (Ef H.hk) (ay (Es H.hk H.prim H.pl rfl c1 (gz he)) (by simp))) (.inr rfl) S1.n rfl rfl rfl, S1, bH, rfl⟩
theorem FY (H : Std K) (ok : HpOk h) {l : List (List Int)} (hl : fP l) (he : bc l = 0) {G : FuncId} {C : List CV} {p : List Int → Bool} (hg : Asks K h G C l p) {x : CV} {cs : List CV} (hx : Row h x cs) (hxs : Rows h cs l) : PS K 81 [x, .fn G C] h (l.filter p) := by
 have hC := fQ he
 exact CL H ok hl.len (fun a ha => ⟨(hC.simp a ha).ne, by have := (hC.simp a ha).le; omega⟩) hg hx hxs (by rw [← he]; exact gV H ok hl hx hxs)
end
theorem OkC.srt {l : List (List Int)} (h : OkC l) : Srt l := by
 have h1 : ∀ i (hi : i + 1 < l.length), LtS l[i] l[i + 1] := fun i hi => by
  have := h.asc i hi
  show aW l[i] l[i + 1] = -1
  rw [oT, this]
 show l.Pairwise LtS
 rw [List.pairwise_iff_getElem]
 intro i j hi hj hij
 obtain ⟨d, rfl⟩ : ∃ d, j = i + 1 + d := ⟨j - (i + 1), by omega⟩
 clear hij
 induction d with
 | zero => exact h1 i hj
 | succ d ih => exact (ih (by omega)).trans (h1 (i + 1 + d) (by omega))
theorem Srt.nodup {l : List (List Int)} (h : Srt l) : l.Nodup := h.imp fun {a b} h e => by
 subst e
 unfold LtS at h
 rw [(eG a a).2 rfl] at h
 exact absurd h (by decide)
theorem ei {a b : List Int} : cz a b = true ↔ ∀ v ∈ b, v ∈ a := by
 unfold cz
 rw [List.all_eq_true]
 exact ⟨fun h v hv => (mF a v).1 (h v hv), fun h v hv => (mF a v).2 (h v hv)⟩
theorem yY {a b : List Int} (ha : OkS a) (hb : OkS b) : cz a b = true ↔ b.Sublist a := by
 rw [ei]
 exact ⟨fun h => gl hb.asc ha.asc h, fun h v hv => h.subset hv⟩
theorem OkC.mid {l : List (List Int)} (h : OkC l) {a : List Int} (ha : OkS a) : ∀ (n : Nat) (t : List Int), t.length = a.length + 1 + n → t ∈ l → a.Sublist t → ∃ t' ∈ l, t'.length = a.length + 1 ∧ a.Sublist t' := by
 intro n
 induction n with
 | zero => intro t hl ht hs; exact ⟨t, ht, hl, hs⟩
 | succ n ih =>
  intro t hl ht hs
  have okt := h.simp t ht
  have hex : ∃ k, ∃ hk : k < t.length, t[k] ∉ a := by
   apply Classical.byContradiction
   intro hno
   have hall : ∀ v ∈ t, v ∈ a := fun v hv => by
    obtain ⟨k, hk, rfl⟩ := List.getElem_of_mem hv
    exact Classical.byContradiction fun hn => hno ⟨k, hk, hn⟩
   have := (gl okt.asc ha.asc hall).length_le
   omega
  obtain ⟨k, hk, hka⟩ := hex
  have hf : t.eraseIdx k ∈ be t := by
   unfold be
   rw [if_neg (by omega)]
   exact List.mem_map.2 ⟨k, List.mem_range.2 hk, rfl⟩
  have hfl := h.face t ht _ hf
  have hlen : (t.eraseIdx k).length = a.length + 1 + n := by rw [List.length_eraseIdx_of_lt hk]; omega
  refine ih _ hlen hfl (gl ha.asc (h.simp _ hfl).asc fun v hv => ?_)
  have hvt := hs.subset hv
  obtain ⟨j, hj, rfl⟩ := List.getElem_of_mem hvt
  have hjk : j ≠ k := fun e => by subst e; exact hka hv
  rw [List.mem_eraseIdx_iff_getElem]
  exact ⟨j, hj, hjk, rfl⟩
def Val (h : Hp) (x : CV) (l : List (List Int)) : Prop := ∃ cs, Row h x cs ∧ Rows h cs l
section
variable {K : Ctx} {h : Hp}
theorem Val.mono {h h' : Hp} (S : Same h.n h h') (ok : HpOk h) {x : CV} {l : List (List Int)} (v : Val h x l) : Val h' x l := by
 obtain ⟨cs, a, b⟩ := v
 exact ⟨cs, a.mono S ok (Nat.le_refl _), b.mono S ok (Nat.le_refl _)⟩
theorem Own.val {N : Nat} {el : Nat} {x : CV} {cs : List CV} {l : List (List Int)} (o : Own N h el x cs l) : Val h x l := ⟨cs, o.out.row, o.all⟩
theorem Ib (H : Std K) (PB : cw K) {l m : List (List Int)} (hl : fP l) {x y : CV} (hx : Val h x l) (hy : Val h y m) (he : l = m) : Comes K 23 [x, y] h (.bo true) h := by
 obtain ⟨cs, a, b⟩ := hx
 obtain ⟨ds, c, d⟩ := hy
 have := CS H PB (by have := hl.len; omega) (fun a ha => by have := hl.each a ha; omega) a b c d
 rwa [FW.2 he] at this
end
theorem t28 : ae Tryz.prog 28 = .slice 22 1 24 [.nils] := by kernel_rfl
section
variable {K : Ctx} {h : Hp}
theorem QC (H : Std K) {x : CV} {cs : List CV} (r : Row h x cs) : am h x (ae K.P 28) = some (.nu .i64 (.ofNat cs.length)) := by rw [H.hP, t28]; exact r.len
theorem QQ (H : Std K) {x : CV} {xs : List CV} (r : Row h x xs) {i : Nat} (hi : i < xs.length) : ∃ p, af x (.nu .i64 (.ofNat i)) (ae K.P 28) = some p ∧ ah h p (ao K.P 22) = some xs[i] := by
 obtain ⟨k, o, h1, h2⟩ := r.at (i := i) hi (e := 22) (b := 24) (z := [.nils])
 exact ⟨_, by rw [H.hP, t28]; exact h1, by rw [QP H, h2]⟩
theorem LB {l : List (List Int)} {n : Int} (h : sN l n = false) : Int.ofNat l.length ≤ n ∧ ∀ a ∈ l, a.length ≤ 12 := by
 unfold sN at h
 rw [Bool.or_eq_false_iff, decide_eq_false_iff_not, List.any_eq_false] at h
 exact ⟨by omega, fun a ha => by have := h.2 a ha; simpa using this⟩
theorem Cx.sml {l : List (List Int)} (h : Cx l) : fP l := ⟨by have := h.le; omega, fun a ha => by have := (h.ok a ha).le; omega⟩
end
end Go.CP
