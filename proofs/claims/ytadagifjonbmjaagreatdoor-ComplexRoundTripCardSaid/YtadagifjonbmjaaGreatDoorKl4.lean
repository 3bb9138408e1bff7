import Derived.Test.YtadagifjonbmjaaGreatDoorKl3
import Derived.Test.YtadagifjonbmjaaGreatDoorKw1
import Derived.Test.YtadagifjonbmjaaGreatDoorKl2
set_option linter.all false
namespace Go.CP
open Go.Proofs
variable [LG] [HK]
def Gq (cs : List CV) : List Int := cs.filterMap fun c => match c with
 | .nu _ n => if 0 < n then some (n - 1) else none
 | _ => none
theorem uz {a : List Int} (h : ∀ v ∈ a, 0 ≤ v) : Gq (bp a) = a := by
 unfold Gq bp
 rw [List.filterMap_append]
 have h2 : List.filterMap (fun c => match c with
   | CV.nu _ n => if 0 < n then some (n - 1) else none
   | _ => none) (List.replicate (5 - a.length) (CV.nu .i64 0)) = [] := by
  rw [List.filterMap_eq_nil_iff]
  intro c hc
  rw [(List.mem_replicate.1 hc).2]; rfl
 rw [h2, List.append_nil]
 induction a with
 | nil => rfl
 | cons v a ih =>
  have hv := h v List.mem_cons_self
  simp only [ak, List.map_cons, List.filterMap_cons, if_pos (show 0 < v + 1 by omega)]
  have := ih (fun w hw => h w (List.mem_cons_of_mem _ hw)) (by rw [List.filterMap_eq_nil_iff]; intro c hc; rw [(List.mem_replicate.1 hc).2]; rfl)
  simp only [ak] at this
  rw [this]
  congr 1; omega
theorem zN {a b : List Int} (ha : OkS a) (hb : OkS b) (h : dP (.agg (bp a)) (.agg (bp b)) = some true) : a = b := by
 have h1 : bp a = bp b := sh h
 rw [← uz (fun v hv => (ha.rng v hv).1), h1, uz (fun v hv => (hb.rng v hv).1)]
theorem uA {key v key' : CV} (hk : ic key) (hk' : ic key') (hne : dP key' key ≠ some true) : ∀ {es es' : List (CV × CV)}, (∀ e ∈ es, ic e.1) → fX key v es = some es' → bX key' es = some none → bX key' es' = some none
 | [], es', _, h, _ => by
  cases h
  obtain ⟨b, hb⟩ := gf hk' hk
  cases b with
  | true => exact absurd hb hne
  | false => simp only [bX, hb]
 | (k, u) :: es, es', hn, h, hl => by
  have hku := hn (k, u) List.mem_cons_self
  obtain ⟨b', hb'⟩ := gf hk' hku
  cases b' with
  | true => simp only [bX, hb'] at hl; cases hl
  | false =>
   simp only [bX, hb'] at hl
   obtain ⟨b, hb⟩ := gf hk hku
   cases b with
   | true =>
    simp only [fX, hb] at h
    cases h
    simp only [bX, hb', hl]
   | false =>
    simp only [fX, hb] at h
    split at h
    · rename_i es2 he
      cases h
      simp only [bX, hb']
      exact uA hk hk' hne (fun e he => hn e (List.mem_cons_of_mem _ he)) he hl
    · cases h
structure MapOf (es : List (CV × CV)) (l : List (List Int)) : Prop where
 num : ∀ e ∈ es, ic e.1
 yes : ∀ a, OkS a → a ∈ l → Np es a
 no : ∀ a, OkS a → a ∉ l → bX (.agg (bp a)) es = some none
theorem MapOf.put {es es' : List (CV × CV)} {l : List (List Int)} {a : List Int} {k o n c : Nat} (M : MapOf es l) (ha : OkS a) (hu : fX (.agg (bp a)) (.sl k o n c) es = some es') : MapOf es' (l ++ [a]) := by
 obtain ⟨es2, u1, u2, u3, u4⟩ := tB (v := .sl k o n c) (fy ha.le) es M.num
 rw [hu] at u1; cases u1
 refine ⟨u2, fun b hb hm => ?_, fun b hb hm => ?_⟩
 · by_cases he : b = a
   · subst he; exact ⟨_, _, _, _, u3⟩
   · have hm' : b ∈ l := by
      rcases List.mem_append.1 hm with hm | hm
      · exact hm
      · exact absurd (List.mem_singleton.1 hm) he
     obtain ⟨k', o', n', c', hl⟩ := M.yes b hb hm'
     rcases u4 _ _ (fy hb.le) hl with h3 | h3
     · exact ⟨_, _, _, _, h3⟩
     · exact ⟨_, _, _, _, h3⟩
 · have hm' : b ∉ l ∧ b ≠ a := ⟨fun h => hm (List.mem_append_left _ h), fun h => hm (by rw [h]; exact List.mem_append_right _ (List.mem_singleton.2 rfl))⟩
   exact uA (fy ha.le) (fy hb.le) (fun h => hm'.2 (zN hb ha h)) M.num hu (M.no b hb hm'.1)
theorem MapOf.skip {es : List (CV × CV)} {l : List (List Int)} {a : List Int} (M : MapOf es l) (ha : ¬ OkS a) : MapOf es (l ++ [a]) := by
 refine ⟨M.num, fun b hb hm => ?_, fun b hb hm => M.no b hb fun h => hm (List.mem_append_left _ h)⟩
 rcases List.mem_append.1 hm with hm | hm
 · exact M.yes b hb hm
 · rw [List.mem_singleton.1 hm] at hb; exact absurd hb ha
section
variable {K : Ctx} {h : Hp}
theorem Ja (H : Std K) {h : Hp} {km : Nat} {es : List (CV × CV)} {a : List Int} (hle : a.length ≤ 5) (hg : h.get km = .mp es) (hl : bX (.agg (bp a)) es = some none) : ew K.P h false (.agg (bp a)) (.mp km) (ae K.P 100) = some .nils := by
 have h1 : ae K.P 100 = .map 103 46 := by rw [H.hP]; exact xd
 have h2 : dh K.P 46 = some .nils := by rw [H.hP]; exact Nc
 rw [h1]
 simp only [ew, kR H hle, vp, h2, qo, hg, hl, qn, yw]
theorem FA (H : Std K) : ab K.P .eql 46 .nils .nils = some (.bo true) := by
 have : ae K.P 46 = .slice 3 1 8 [.nu .i64 0] := by rw [H.hP]; exact t46
 simp only [ab, kZ, kz, this]
theorem AO (H : Std K) (ok : HpOk h) {l : List (List Int)} (hl : ux l) {x : CV} {cs : List CV} (hx : Row h x cs) (hxs : Rows h cs l) : nX K 26 [x] h fun r _ => r = .nu .i64 (cU l) := by
 have hf : K.P.funcs[26]? = some Tryz.f26 := by rw [H.hP]; exact Tryz.func26
 have hcl := hxs.length
 have hll := hl.len
 have hlen := fk H hx
 rw [hcl] at hlen
 by_cases hbig : 1024 < l.length
 · refine ⟨_, h, H.go hf (Runs.seq (wt H.hk) (aC (Cm H.hk H.prim H.pl rfl hlen (mL (by show (1024 : Int) < Int.ofNat _; simp; omega))) (by simp))) (.inr rfl) (Nat.le_refl _) rfl rfl rfl, Same.refl _ _, ok, ?_⟩
   show CV.nu .i64 3 = _
   rw [cU, if_pos hbig]
 have S0 : Same h.n h (h.push (.mp [])) := Same.push (Nat.le_refl _) _
 have hlen1 := fk H (hx.mono S0 ok (Nat.le_refl _))
 rw [hcl] at hlen1
 obtain ⟨s1, r1, j0, js⟩ : ∃ s1, bB K [1, 0] (T.set (entry 0 [x]) 2 (.nu .i64 0)) h .normal s1 h ∧ s1.at 0 = x ∧ s1.at ag = .undef := ⟨_, Cn H.hk H.prim H.pl rfl hlen (qf (by simp; omega)), rfl, rfl⟩
 obtain ⟨s2, r2, k0, k3, k17, k18, k19, ks⟩ : ∃ s2, bB K [1, 1, 1, 0, 0] (T.set (T.set s1 16 (.mp h.n)) 3 (.mp h.n)) (h.push (.mp [])) .normal s2 (h.push (.mp [])) ∧ s2.at 0 = x ∧ s2.at 3 = .mp h.n ∧ s2.at 17 = x ∧ s2.at 18 = .nu .i64 (.ofNat l.length) ∧ s2.at 19 = .nu .i64 (.ofNat 0) ∧ s2.at ag = .undef := ⟨_, J1 H.hk j0 hlen1, j0, rfl, rfl, rfl, rfl, js⟩
 obtain ⟨s3, h3, r3, dj, S3, hkn3, e0, e3, es, hg3, M3, e1⟩ := dZ (K := K) (f := 26) (n := 74) (c := aD [1, 1, 1, 0, 1, 0, 0] (am Tryz.f26)) (s := s2) (h := h.push (.mp [])) (m := l.length) (b := 0)
  (I := fun i s g => HpOk g ∧ Same h.n h g ∧ h.n < g.n ∧ s.at 0 = x ∧ s.at 3 = .mp h.n ∧ s.at 17 = x ∧ s.at 18 = .nu .i64 (.ofNat l.length) ∧ s.at 19 = .nu .i64 (.ofNat i) ∧ s.at ag = .undef ∧ ∃ es, g.get h.n = .mp es ∧ MapOf es (l.take i))
  (E := fun s g => HpOk g ∧ Same h.n h g ∧ h.n < g.n ∧ s.at 0 = x ∧ s.at 3 = .mp h.n ∧ ∃ es, g.get h.n = .mp es ∧ MapOf es l ∧ s.at ag = .undef)
  ⟨ok.push _, S0, by simp, k0, k3, k17, k18, k19, ks, [], by rw [ah, if_pos rfl], by simp, by intro a _ hm; simp at hm, fun a _ _ => rfl⟩
  (fun i s g hi ⟨okg, S, hkn, g0, g3, g17, g18, g19, gs, es, hg, M⟩ => by
    have hr := hx.mono S ok (Nat.le_refl _)
    obtain ⟨p, hp1, hp2⟩ := ke H hr (i := i) (by omega)
    have hxi := (hxs.get (i := i) (by omega) hi).mono S ok (Nat.le_refl _)
    have hle := hl.each l[i] (List.getElem_mem hi)
    have c66 := kU H (by omega) hxi
    by_cases hok : co l[i] = 0
    · have okS := dd.1 hok
      rw [hok] at c66
      obtain ⟨k, o, n, c, hsl, _⟩ := hxi.blk (fd okS.ne) okg
      obtain ⟨h1, c71, S1, cm⟩ := qc H okg okS.le okS.rng hxi
      have hg1 : h1.get h.n = .mp es := by rw [S1.get h.n hkn]; exact hg
      have hkn1 : h.n < h1.n := Nat.lt_of_lt_of_le hkn S1.n
      obtain ⟨es', u1, u2, u3, u4⟩ := tB (v := cs[i]) (fy okS.le) es M.num
      have w3 : iR K.P h1 (.mp h.n) (.agg (bp l[i])) cs[i] (ae K.P 100) = some (.undef, h1.set h.n (.mp es')) := by
       rw [show ae K.P 100 = .map 103 46 by rw [H.hP]; exact xd]
       simp only [iR, kR H okS.le, vA, hg1, u1, vw]
      refine ⟨_, _, qS H.hk H.prim H.pl g19 g18 g17 g3 (aM hi) hp1 hp2 c66 rfl c71 w3 (bI (by omega)), cm.set hkn1 _, (S.trans (S1.le S.n)).trans (Same.set (Nat.le_refl _) _), hkn1, g0, g3, g17, g18, rfl, gs, es', by rw [Hp.get_set, if_pos rfl], ?_⟩
      rw [cB hi]
      rw [hsl] at u1
      exact M.put okS u1
    · exact ⟨_, _, qT H.hk H.prim H.pl g19 g18 g17 (aM hi) hp1 hp2 c66 (ol hok) (bI (by omega)), okg, S, hkn, g0, g3, g17, g18, rfl, gs, es, hg, by rw [cB hi]; exact M.skip fun o => hok (dd.2 o)⟩)
  (fun s g ⟨okg, S, hkn, g0, g3, g17, g18, g19, gs, es, hg, M⟩ =>
    ⟨_, _, sO H.hk H.prim H.pl g19 g18 (aY (Nat.le_refl _)), okg, S, hkn, g0, g3, es, hg, by rw [List.take_length] at M; exact M, gs⟩)
 have hlen3 := fk H (hx.mono S3 ok (Nat.le_refl _))
 rw [hcl] at hlen3
 obtain ⟨s4, r4, l0, l3, l31, l32, l33, ls⟩ : ∃ s4, bB K [1, 1, 1, 1, 0, 0] s3 h3 .normal s4 h3 ∧ s4.at 0 = x ∧ s4.at 3 = .mp h.n ∧ s4.at 31 = x ∧ s4.at 32 = .nu .i64 (.ofNat l.length) ∧ s4.at 33 = .nu .i64 (.ofNat 0) ∧ s4.at ag = .undef := ⟨_, GU H.hk e0 hlen3, e0, e3, rfl, rfl, rfl, e1⟩
 have L := dY (K := K) (f := 26) (n := 74) (c := aD [1, 1, 1, 1, 0, 1, 0, 0] (am Tryz.f26)) (s := s4) (h := h3) (m := l.length) (b := 2) (I := fun i s g => HpOk g ∧ Same h.n h g ∧ h.n < g.n ∧ g.get h.n = .mp es ∧ s.at 0 = x ∧ s.at 3 = .mp h.n ∧ s.at 31 = x ∧ s.at 32 = .nu .i64 (.ofNat l.length) ∧ s.at 33 = .nu .i64 (.ofNat i) ∧ s.at ag = .undef ∧ ∀ j, j < i → c9 l j = 0)
  (E := fun s g => HpOk g ∧ Same h.n h g ∧ s.at ag = .undef ∧ cU l = 0) (R := fun s g => HpOk g ∧ Same h.n h g ∧ s.at ag = .undef ∧ s.at 2 = .nu .i64 (cU l)) ⟨dj, S3, hkn3, hg3, l0, l3, l31, l32, l33, ls, fun j hj => absurd hj (Nat.not_lt_zero _)⟩
  (fun i s g hi ⟨okg, S, hkn, hg, g0, g3, g31, g32, g33, gs, hall⟩ => by
    have hC : c9 l i ≠ 0 → cU l = c9 l i := fun hne => by
     rw [cU, if_neg hbig]; exact Dt _ 0 i (Nat.zero_le _) (by omega) (fun j _ hj => hall j hj) hne
    have hr := hx.mono S ok (Nat.le_refl _)
    have hrs := hxs.mono S ok (Nat.le_refl _)
    obtain ⟨p, hp1, hp2⟩ := ke H hr (i := i) (by omega)
    have hxi := hrs.get (i := i) (by omega) hi
    have hle := hl.each l[i] (List.getElem_mem hi)
    have e0 := lx hi
    obtain ⟨s1, r1, j0, j3, j31, j32, j33, j34, js⟩ : ∃ s1, bB K [1, 1, 1, 1, 0, 1, 0, 0, 0] s g .normal s1 g ∧ s1.at 0 = x ∧ s1.at 3 = .mp h.n ∧ s1.at 31 = x ∧ s1.at 32 = .nu .i64 (.ofNat l.length) ∧ s1.at 33 = .nu .i64 (.ofNat i) ∧ s1.at 34 = .bo true ∧ s1.at ag = .undef := ⟨_, yL H.hk g33 g32 (aM hi), g0, g3, g31, g32, g33, rfl, gs⟩
    obtain ⟨s2, r2, k0, k3, k31, k32, k33, k6, k7, ks⟩ : ∃ s2, bB K [1, 1, 1, 1, 0, 1, 0, 0, 1, 1, 0, 0, 0] s1 g .normal s2 g ∧ s2.at 0 = x ∧ s2.at 3 = .mp h.n ∧ s2.at 31 = x ∧ s2.at 32 = .nu .i64 (.ofNat l.length) ∧ s2.at 33 = .nu .i64 (.ofNat i) ∧ s2.at 6 = .nu .i64 (.ofNat i) ∧ s2.at 7 = cs[i] ∧ s2.at ag = .undef := ⟨_, GV H.hk j33 j31 hp1 hp2, j0, j3, j31, j32, j33, rfl, rfl, js⟩
    by_cases h1 : co l[i] = 0
    case neg =>
     have hat : c9 l i = co l[i] := by unfold c9; rw [e0, if_pos h1]
     have c73 := AM H (by omega) h1 hxi
     obtain ⟨s3, r3, l9, ls⟩ : ∃ s3, bB K [1, 1, 1, 1, 0, 1, 0, 0, 1, 1, 0, 0, 1, 0] s2 g .normal s3 g ∧ s3.at 9 = .nu .i64 (co l[i]) ∧ s3.at ag = .undef := ⟨_, yM H.hk k7 (H.prim _ _) c73 rfl rfl, rfl, ks⟩
     exact .inr (.inl ⟨_, _, Runs.seq r1 (Runs.seq (dt H.hk H.prim H.pl j34) (aC (aF (Runs.seq r2 (Runs.seq r3 (aC (ld H.hk H.prim H.pl l9 (om h1)) (by simp))))) (by simp))), okg, S, ls, by rw [hC (by rw [hat]; exact h1), hat]; rfl⟩)
    have okS := dd.1 h1
    have h1' : co (l.getD i []) = 0 := by rw [e0]; exact h1
    obtain ⟨y, fs, h5, c5, S5, gS, own5⟩ := xc H okg okS hxi
    obtain ⟨s3, r3, l0, l3, l31, l32, l33, l6, l7, l8, l9, ls⟩ : ∃ s3, bB K [1, 1, 1, 1, 0, 1, 0, 0, 1, 1, 0, 0, 1, 0] s2 g .normal s3 h5 ∧ s3.at 0 = x ∧ s3.at 3 = .mp h.n ∧ s3.at 31 = x ∧ s3.at 32 = .nu .i64 (.ofNat l.length) ∧ s3.at 33 = .nu .i64 (.ofNat i) ∧ s3.at 6 = .nu .i64 (.ofNat i) ∧ s3.at 7 = cs[i] ∧ s3.at 8 = y ∧ s3.at 9 = .nu .i64 0 ∧ s3.at ag = .undef := ⟨_, yM H.hk k7 (H.prim _ _) c5 rfl rfl, k0, k3, k31, k32, k33, k6, k7, rfl, rfl, ks⟩
    obtain ⟨s4, r4, m0, m3, m31, m32, m33, m6, m7, m8, ms⟩ : ∃ s4, bB K [1, 1, 1, 1, 0, 1, 0, 0, 1, 1, 0, 0, 1, 1, 0] s3 h5 .normal s4 h5 ∧ s4.at 0 = x ∧ s4.at 3 = .mp h.n ∧ s4.at 31 = x ∧ s4.at 32 = .nu .i64 (.ofNat l.length) ∧ s4.at 33 = .nu .i64 (.ofNat i) ∧ s4.at 6 = .nu .i64 (.ofNat i) ∧ s4.at 7 = cs[i] ∧ s4.at 8 = y ∧ s4.at ag = .undef := ⟨_, lg H.hk H.prim H.pl l9 rfl, l0, l3, l31, l32, l33, l6, l7, l8, ls⟩
    have S05 : Same h.n h h5 := S.trans (S5.le S.n)
    have hkn5 : h.n < h5.n := Nat.lt_of_lt_of_le hkn S5.n
    have hg5 : h5.get h.n = .mp es := by rw [S5.get h.n hkn]; exact hg
    have hnb : (0 < i ∧ a8 (l.getD i []) (l.getD (i - 1) []) = 0 ∧ ∃ s5, bB K [1, 1, 1, 1, 0, 1, 0, 0, 1, 1, 0, 0, 1, 1, 1, 0] s4 h5 .ret s5 h5 ∧ s5.at 2 = .nu .i64 5 ∧ s5.at ag = .undef) ∨
     (0 < i ∧ a8 (l.getD i []) (l.getD (i - 1) []) ≠ 0 ∧ a8 (l.getD i []) (l.getD (i - 1) []) < 0 ∧ ∃ s5, bB K [1, 1, 1, 1, 0, 1, 0, 0, 1, 1, 0, 0, 1, 1, 1, 0] s4 h5 .ret s5 h5 ∧ s5.at 2 = .nu .i64 6 ∧ s5.at ag = .undef) ∨
     ((0 < i → a8 (l.getD i []) (l.getD (i - 1) []) ≠ 0 ∧ ¬ a8 (l.getD i []) (l.getD (i - 1) []) < 0) ∧ ∃ s5, bB K [1, 1, 1, 1, 0, 1, 0, 0, 1, 1, 0, 0, 1, 1, 1, 0] s4 h5 .normal s5 h5 ∧ s5.at 0 = x ∧ s5.at 3 = .mp h.n ∧ s5.at 31 = x ∧ s5.at 32 = .nu .i64 (.ofNat l.length) ∧ s5.at 33 = .nu .i64 (.ofNat i) ∧ s5.at 8 = y ∧ s5.at ag = .undef) := by
     cases i with
     | zero => exact .inr (.inr ⟨fun h => absurd h (Nat.lt_irrefl _), _, ko H.hk H.prim H.pl m6 rfl, m0, m3, m31, m32, m33, m8, ms⟩)
     | succ k =>
      have hr5 := hx.mono S05 ok (Nat.le_refl _)
      have hrs5 := hxs.mono S05 ok (Nat.le_refl _)
      obtain ⟨q, hq1, hq2⟩ := ke H hr5 (i := k) (by omega)
      have cc := ru H (a := l[k + 1]) (b := l[k]'(by omega)) (by omega) (hrs5.get (i := k + 1) (by omega) hi) (hrs5.get (i := k) (by omega) (by omega))
      have ek : l.getD (k + 1 - 1) [] = l[k]'(by omega) := lx (i := k) (by omega)
      rw [e0, ek]
      have hpos : (0 : Int) < Int.ofNat (k + 1) := by simp
      by_cases hc : a8 l[k + 1] (l[k]'(by omega)) = 0
      · exact .inl ⟨by omega, hc, _, jY H.hk H.prim H.pl m6 m7 m0 (mL hpos) (zH (by omega)) hq1 hq2 cc (AJ hc), rfl, ms⟩
      by_cases hc2 : a8 l[k + 1] (l[k]'(by omega)) < 0
      · exact .inr (.inl ⟨by omega, hc, hc2, _, jn H.hk H.prim H.pl m6 m7 m0 (mL hpos) (zH (by omega)) hq1 hq2 cc (ol hc) (Me hc2), rfl, ms⟩)
      · exact .inr (.inr ⟨fun _ => ⟨hc, hc2⟩, _, jo H.hk H.prim H.pl m6 m7 m0 (mL hpos) (zH (by omega)) hq1 hq2 cc (ol hc) (Mf (by omega)), m0, m3, m31, m32, m33, m8, ms⟩)
    rcases hnb with ⟨hpos, hc, s5, r5, h52, h5s⟩ | ⟨hpos, hc, hc2, s5, r5, h52, h5s⟩ | ⟨hc, s5, r5, n0, n3, n31, n32, n33, n8, ns⟩
    · have hat : c9 l i = 5 := by unfold c9; rw [if_neg (fun hn => hn h1'), if_pos ⟨hpos, hc⟩]
      exact .inr (.inl ⟨_, _, Runs.seq r1 (Runs.seq (dt H.hk H.prim H.pl j34) (aC (aF (Runs.seq r2 (Runs.seq r3 (Runs.seq r4 (aC r5 (by simp)))))) (by simp))), gS, S05, h5s, by rw [hC (by rw [hat]; decide), hat]; exact h52⟩)
    · have hat : c9 l i = 6 := by unfold c9; rw [if_neg (fun hn => hn h1'), if_neg (fun h => hc h.2), if_pos ⟨hpos, hc2⟩]
      exact .inr (.inl ⟨_, _, Runs.seq r1 (Runs.seq (dt H.hk H.prim H.pl j34) (aC (aF (Runs.seq r2 (Runs.seq r3 (Runs.seq r4 (aC r5 (by simp)))))) (by simp))), gS, S05, h5s, by rw [hC (by rw [hat]; decide), hat]; exact h52⟩)
    have hat := rI h1' hc
    rw [e0] at hat
    have hfl := tC l[i]
    have hle5 := okS.le
    have hlen8 := fk H own5.out.row
    rw [own5.rows.length] at hlen8
    obtain ⟨s6, r6, q0, q3, q31, q32, q33, q61, q62, q63, qs⟩ : ∃ s6, bB K [1, 1, 1, 1, 0, 1, 0, 0, 1, 1, 0, 0, 1, 1, 1, 1, 0] s5 h5 .normal s6 h5 ∧ s6.at 0 = x ∧ s6.at 3 = .mp h.n ∧ s6.at 31 = x ∧ s6.at 32 = .nu .i64 (.ofNat l.length) ∧ s6.at 33 = .nu .i64 (.ofNat i) ∧ s6.at 61 = y ∧ s6.at 62 = .nu .i64 (.ofNat (bT l[i]).length) ∧ s6.at 63 = .nu .i64 (.ofNat 0) ∧ s6.at ag = .undef := ⟨_, GZ H.hk n8 hlen8, n0, n3, n31, n32, n33, rfl, rfl, rfl, ns⟩
    have hfr := own5.out.row
    have hfa := own5.all
    have hfc := hfa.length
    have L2 := dY (K := K) (f := 26) (n := 74) (c := aD [1, 1, 1, 1, 0, 1, 0, 0, 1, 1, 0, 0, 1, 1, 1, 1, 1, 0, 0] (am Tryz.f26)) (s := s6) (h := h5) (m := (bT l[i]).length) (b := 5) (I := fun k s g => HpOk g ∧ Same h5.n h5 g ∧ s.at 0 = x ∧ s.at 3 = .mp h.n ∧ s.at 31 = x ∧ s.at 32 = .nu .i64 (.ofNat l.length) ∧ s.at 33 = .nu .i64 (.ofNat i) ∧ s.at 61 = y ∧ s.at 62 = .nu .i64 (.ofNat (bT l[i]).length) ∧ s.at 63 = .nu .i64 (.ofNat k) ∧ s.at ag = .undef ∧ ((bT l[i]).take k).all (fun f => decide (f ∈ l)) = true)
     (E := fun s g => HpOk g ∧ Same h5.n h5 g ∧ s.at 0 = x ∧ s.at 3 = .mp h.n ∧ s.at 31 = x ∧ s.at 32 = .nu .i64 (.ofNat l.length) ∧ s.at 33 = .nu .i64 (.ofNat i) ∧ s.at ag = .undef ∧ (bT l[i]).all (fun f => decide (f ∈ l)) = true) (R := fun s g => HpOk g ∧ Same h5.n h5 g ∧ s.at ag = .undef ∧ s.at 2 = .nu .i64 7 ∧ (bT l[i]).all (fun f => decide (f ∈ l)) = false) ⟨gS, Same.refl _ _, q0, q3, q31, q32, q33, q61, q62, q63, qs, rfl⟩
     (fun k s g hk ⟨okg, Sg, g0, g3, g31, g32, g33, g61, g62, g63, gs, hallk⟩ => by
       obtain ⟨q, hq1, hq2⟩ := ke H (hfr.mono Sg gS (Nat.le_refl _)) (i := k) (by omega)
       have hrk := (hfa.get (i := k) (by omega) hk).mono Sg gS (Nat.le_refl _)
       have hmf := lr (List.getElem_mem hk)
       have okf : OkS (bT l[i])[k] := okS.sub hmf.1 (hmf.2 okS.ne)
       obtain ⟨h1, c26, S1, cm⟩ := qc H okg okf.le okf.rng hrk
       have hg1 : h1.get h.n = .mp es := by rw [S1.get h.n (Nat.lt_of_lt_of_le hkn5 Sg.n), Sg.get h.n hkn5]; exact hg5
       by_cases hin : (bT l[i])[k] ∈ l
       · obtain ⟨k', o, n, c, hl'⟩ := M3.yes _ okf hin
         exact .inl ⟨_, _, iJ H.hk H.prim H.pl g63 g62 g61 g3 (aM hk) hq1 hq2 c26 (AG H okf.le hg1 hl') (Dn H k' o n c) (bI (by omega)), cm, Sg.trans (S1.le Sg.n), g0, g3, g31, g32, g33, g61, g62, rfl, gs, qg hk hallk (by simpa using hin)⟩
       · exact .inr (.inl ⟨_, _, iI H.hk H.prim H.pl g63 g62 g61 g3 (aM hk) hq1 hq2 c26 (Ja H okf.le hg1 (M3.no _ okf hin)) (FA H), cm, Sg.trans (S1.le Sg.n), gs, rfl, xl hk (by simpa using hin)⟩))
     (fun s g ⟨okg, Sg, g0, g3, g31, g32, g33, g61, g62, g63, gs, hallk⟩ =>
       ⟨_, _, iV H.hk H.prim H.pl g63 g62 (aY (Nat.le_refl _)), okg, Sg, g0, g3, g31, g32, g33, gs, by rw [List.take_length] at hallk; exact hallk⟩)
    rcases L2 with ⟨s7, h7, r7, ok7, S7, t0, t3, t31, t32, t33, ts, hv⟩ | ⟨s7, h7, r7, ok7, S7, ts, t2, hv⟩
    · rw [hv, if_pos rfl] at hat
      exact .inl ⟨_, _, Runs.seq r1 (Runs.seq (dt H.hk H.prim H.pl j34) (Runs.seq (aB (Runs.seq r2 (Runs.seq r3 (Runs.seq r4 (Runs.seq r5 (Runs.seq r6 r7)))))) (G2 H.hk t33 (bI (by omega))))), ok7, S05.trans (S7.le S05.n), Nat.lt_of_lt_of_le hkn5 S7.n, by rw [S7.get h.n hkn5]; exact hg5, t0, t3, t31, t32, rfl, ts, fun j hj => by
       rcases Nat.lt_or_ge j i with hlt | hge
       · exact hall j hlt
       · obtain rfl : j = i := by omega
         exact hat⟩
    · rw [hv, if_neg (by simp)] at hat
      exact .inr (.inl ⟨_, _, Runs.seq r1 (Runs.seq (dt H.hk H.prim H.pl j34) (aC (aF (Runs.seq r2 (Runs.seq r3 (Runs.seq r4 (Runs.seq r5 (Runs.seq r6 r7)))))) (by simp))), ok7, S05.trans (S7.le S05.n), ts, by rw [hC (by rw [hat]; decide), hat]; exact t2⟩))
  (fun s g ⟨okg, S, hkn, hg, g0, g3, g31, g32, g33, gs, hall⟩ => by
    obtain ⟨s1, r1, k34, ks⟩ : ∃ s1, bB K [1, 1, 1, 1, 0, 1, 0, 0, 0] s g .normal s1 g ∧ s1.at 34 = .bo false ∧ s1.at ag = .undef := ⟨_, yL H.hk g33 g32 (aY (by omega)), rfl, gs⟩
    refine ⟨_, _, Runs.seq r1 (aC (pb H.hk H.prim H.pl k34) (by simp)), okg, S, ks, ?_⟩
    rw [cU, if_neg hbig]; exact zM _ 0 fun j _ hj => hall j (by omega))
 rcases L with ⟨s', h', r, ok', S, hs, hv⟩ | ⟨s', h', r, ok', S, hs, h2⟩
 · exact ⟨_, h', H.go hf (Runs.seq (wt H.hk) (Runs.seq r1 (Runs.seq (BM H.hk) (Runs.seq (Runs.seq r2 r3) (Runs.seq (Runs.seq r4 r) (An H.hk H.prim H.pl)))))) (.inr rfl) S.n hs rfl rfl, S, ok', by rw [hv]; rfl⟩
 · exact ⟨_, h', H.go hf (Runs.seq (wt H.hk) (Runs.seq r1 (Runs.seq (BM H.hk) (Runs.seq (Runs.seq r2 r3) (aC (Runs.seq r4 r) (by simp)))))) (.inr rfl) S.n hs (by show some [Fr.at s' 2] = _; rw [h2]) rfl, S, ok', rfl⟩
end
theorem xq {l : List (List Int)} (h : cU l = 0) : Ma l := by
 unfold cU at h
 by_cases hb : 1024 < l.length
 · rw [if_pos hb] at h; exact absurd h (by decide)
 rw [if_neg hb] at h
 have hz : ∀ i (hi : i < l.length), c9 l i = 0 := fun i hi => Du _ 0 h i (Nat.zero_le _) (by omega)
 have hS : ∀ i (hi : i < l.length), co l[i] = 0 ∧ (0 < i → a8 l[i] (l.getD (i - 1) []) ≠ 0 ∧ ¬ a8 l[i] (l.getD (i - 1) []) < 0) ∧ (bT l[i]).all (fun f => decide (f ∈ l)) = true := by
  intro i hi
  have := hz i hi
  unfold c9 at this
  rw [lx hi] at this
  by_cases h1 : co l[i] = 0
  · rw [if_neg (fun hn => hn h1)] at this
    by_cases h2 : 0 < i ∧ a8 l[i] (l.getD (i - 1) []) = 0
    · rw [if_pos h2] at this; exact absurd this (by decide)
    rw [if_neg h2] at this
    by_cases h3 : 0 < i ∧ a8 l[i] (l.getD (i - 1) []) < 0
    · rw [if_pos h3] at this; exact absurd this (by decide)
    rw [if_neg h3] at this
    refine ⟨h1, fun hp => ⟨fun e => h2 ⟨hp, e⟩, fun e => h3 ⟨hp, e⟩⟩, ?_⟩
    cases hq : (bT l[i]).all (fun f => decide (f ∈ l)) with
    | true => rfl
    | false => rw [hq] at this; exact absurd this (by decide)
  · rw [if_pos h1] at this; exact absurd this h1
 refine ⟨fun a ha => ?_, fun i hi => ?_, fun a ha f hf => ?_, by omega⟩
 · obtain ⟨i, hi, rfl⟩ := List.getElem_of_mem ha
   exact dd.1 (hS i hi).1
 · have := (hS (i + 1) hi).2.1 (by omega)
   rw [show l.getD (i + 1 - 1) [] = l[i]'(by omega) from lx (i := i) (by omega)] at this
   rcases kS l[i + 1] (l[i]'(by omega)) with h | h | h
   · rw [h] at this; exact absurd (by decide : (-1 : Int) < 0) this.2
   · exact absurd h this.1
   · exact h
 · obtain ⟨i, hi, rfl⟩ := List.getElem_of_mem ha
   simpa using List.all_eq_true.1 (hS i hi).2.2 f hf
section
variable {K : Ctx} {h : Hp}
theorem xr (H : Std K) (PB : fT K) {a : List Int} {v : Int} (hbig : a.length < 4611686018427387904) {q z : CV} (bq : Box h q z) (hz : Row h z (ak a)) : Comes K 112 [.nu .i64 v, q] h (.bo (!(eo a v))) h := by
 have hf : K.P.funcs[112]? = some Tryz.f112 := by rw [H.hP]; exact Tryz.func112
 exact H.go hf (L0 H.hk H.prim PB (s := entry 0 [.nu .i64 v, q]) rfl rfl (bq.load (qd H)) (tD H hbig hz) rfl) (.inr rfl) (Nat.le_refl _) rfl rfl rfl
theorem AP (H : Std K) (PB : fT K) {a : List Int} {G : FuncId} {C : List CV} {p : Int → Bool} (hbig : a.length < 4611686018427387904) {x : CV} (ha : Row h x (ak a)) (hg : ∀ v ∈ a, Comes K G ([.nu .i64 v] ++ C) h (.bo (p v)) h) : ∃ n, Comes K 140 [x, .fn G C] h (.nu .i64 n) h ∧ cI 0 n = a.any p := by
 have hf : K.P.funcs[140]? = some Tryz.f140 := by rw [H.hP]; exact Tryz.func140
 have hlen := dM H ha
 rw [ax] at hlen
 obtain ⟨s1, r1, k0, k1, k7, k8, ks⟩ : ∃ s1, hY K [1, 0, 0] (T.set (entry 0 [x, .fn G C]) 4 (.nu .i64 0)) h .normal s1 h ∧ s1.at 0 = x ∧ s1.at 1 = .fn G C ∧ s1.at 7 = .nu .i64 (.ofNat a.length) ∧ s1.at 8 = .nu .i64 (.ofNat 0) ∧ s1.at ag = .undef := ⟨_, IY H.hk rfl hlen, rfl, rfl, rfl, rfl, rfl⟩
 have L := dY (K := K) (f := 140) (n := 19) (c := aD [1, 0, 1, 0, 0] (am Tryz.f140)) (s := s1) (h := h) (m := a.length) (b := 0) (I := fun i s g => g = h ∧ s.at 0 = x ∧ s.at 1 = .fn G C ∧ s.at 7 = .nu .i64 (.ofNat a.length) ∧ s.at 8 = .nu .i64 (.ofNat i) ∧ s.at ag = .undef ∧ (a.take i).any p = false)
  (E := fun s g => g = h ∧ s.at ag = .undef ∧ a.any p = false) (R := fun s g => g = h ∧ s.at ag = .undef ∧ a.any p = true ∧ ∃ j : Nat, s.at 4 = .nu .i64 (.ofNat j)) ⟨rfl, k0, k1, k7, k8, ks, rfl⟩
  (fun i s g hi ⟨e, g0, g1, g7, g8, gs, hall⟩ => by
    subst e
    obtain ⟨q, hp1, hp2⟩ := iY H ha hi
    have hin := hg a[i] (List.getElem_mem hi)
    cases hq : p a[i] with
    | false =>
     rw [hq] at hin
     exact .inl ⟨_, _, tp H.hk H.prim PB g8 g7 g1 g0 (aM hi) hp1 hp2 rfl hin (bI (by omega)), rfl, g0, g1, g7, rfl, gs, mM hi hall hq⟩
    | true =>
     rw [hq] at hin
     exact .inr (.inl ⟨_, _, tl H.hk H.prim PB g8 g7 g1 g0 (aM hi) hp1 hp2 rfl hin, rfl, gs, tG hi hq, i, rfl⟩))
  (fun s g ⟨e, g0, g1, g7, g8, gs, hall⟩ => by
    subst e
    exact ⟨_, _, vf H.hk H.prim PB g8 g7 (aY (Nat.le_refl _)), rfl, gs, by rw [List.take_length] at hall; exact hall⟩)
 rcases L with ⟨s', h', r, rfl, hs, hv⟩ | ⟨s', h', r, rfl, hs, hv, j, hj⟩
 · rw [hv]
   exact ⟨-1, H.go hf (Runs.seq (zD H.hk) (Runs.seq (Runs.seq r1 r) (Fl H.hk H.prim PB))) (.inr rfl) (Nat.le_refl _) hs rfl rfl, rfl⟩
 · rw [hv]
   exact ⟨.ofNat j, H.go hf (Runs.seq (zD H.hk) (aC (Runs.seq r1 r) (by simp))) (.inr rfl) (Nat.le_refl _) hs (by show some [Fr.at s' 4] = _; rw [hj]) rfl, ir (by simp)⟩
theorem ym {α : Type} (p : α → Bool) (l : List α) : (!(l.any fun v => !(p v))) = l.all p := by
 induction l with
 | nil => rfl
 | cons a l ih => rw [List.any_cons, List.all_cons, Bool.not_or, Bool.not_not, ih]
theorem FB (H : Std K) (PB : fT K) (ok : HpOk h) {a b : List Int} (hab : a.length < 4611686018427387904) (hbb : b.length < 4611686018427387904) {x y : CV} (ha : Row h x (ak a)) (hb : Row h y (ak b)) : nX K 68 [x, y] h fun r _ => r = .bo (oo a b) := by
 have hf : K.P.funcs[68]? = some Tryz.f68 := by rw [H.hP]; exact Tryz.func68
 have hf2 : K.P.funcs[111]? = some Tryz.f111 := by rw [H.hP]; exact Tryz.func111
 obtain ⟨F, B, b1, bx⟩ := I6 (h := h) (t := 46) ha.one (qd H)
 have S1 : Same h.n h (h.push B) := Same.push (Nat.le_refl _) _
 have hz := ha.mono S1 ok (Nat.le_refl _)
 obtain ⟨n, c, hn⟩ := AP H PB (G := 112) (C := [F h.n]) (p := fun v => !(eo a v)) hbb (hb.mono S1 ok (Nat.le_refl _)) (fun v _ => xr H PB hab bx hz)
 have o8 := tu (P := K.P) (t := 3) n 0
 rw [hn] at o8
 have c111 : Comes K 111 [y, .fn 112 [F h.n]] (h.push B) (.bo (b.any fun v => !(eo a v))) (h.push B) := bO hf2 rfl (H.memo 111 (by decide)) (H.spec 111) rfl (LZ H.hk H.prim PB (s := entry 0 [y, .fn 112 [F h.n]]) rfl rfl c o8) (.inr rfl) (Nat.le_refl _) rfl rfl rfl
 refine ⟨_, _, H.go hf (MT H.hk H.prim PB (s := entry 0 [x, y]) rfl rfl b1 c111 rfl) (.inr rfl) S1.n rfl rfl rfl, S1, ok.push _, ?_⟩
 show CV.bo (!(b.any fun v => !(eo a v))) = _
 rw [ym, oo]
theorem Nd (H : Std K) : ar K.P 3 = some (1, false) := by rw [H.hP]; exact z3
def Fails (K : Ctx) (f : FuncId) (args : List CV) (h : Hp) (e : Int) : Prop := nX K f args h fun r _ => r = .tup [.nils, .nu .i64 e]
def AQ (K : Ctx) (f : FuncId) (args : List CV) (h : Hp) (e : Int) (l : List (List Int)) : Prop := nX K f args h fun r h' => ∃ o ds, r = .tup [o, .nu .i64 e] ∧ Own h.n h' 46 o ds (if e = 0 then l else [])
theorem Fails.e {f : FuncId} {args : List CV} {h : Hp} {e : Int} {l : List (List Int)} (he : e ≠ 0) (k : Fails K f args h e) : AQ K f args h e l := by
 obtain ⟨r, h', c, S, ok, hr⟩ := k
 exact ⟨r, h', c, S, ok, .nils, [], hr, by rw [if_neg he]; exact Own.nil⟩
end
def pH (s t : List Int) : Bool := decide (t.length = s.length + 1) && oo t s
def eG (l : List (List Int)) (s : List Int) : Bool := !(l.any (pH s))
section
variable {K : Ctx} {h : Hp}
theorem Jb (H : Std K) (PB : fT K) (ok : HpOk h) {l : List (List Int)} (hl : ux l) {x : CV} {cs : List CV} (hx : Row h x cs) (hxs : Rows h cs l) : AQ K 24 [x] h (cU l) (l.filter (eG l)) := by
 have hf : K.P.funcs[24]? = some Tryz.f24 := by rw [H.hP]; exact Tryz.func24
 have hcl := hxs.length
 have hll := hl.len
 obtain ⟨rv, h1, c26, S1, cm, rfl⟩ := AO H ok hl hx hxs
 by_cases he : cU l = 0
 case neg =>
  refine Fails.e he ⟨_, h1, H.go hf (Runs.seq (C6 H.hk) (Runs.scope (aC (Runs.seq (C7 H.hk rfl (H.prim _ _) c26) (Runs.seq (C8 H.hk rfl (om he)) (Runs.condT (o := .tmp 13) rfl (Runs.seq (LR H.hk rfl) Runs.ret)))) (by simp)) (by simp))) (.inr rfl) S1.n rfl rfl rfl, S1, cm, rfl⟩
 have hC := xq he
 have hx1 := hx.mono S1 ok (Nat.le_refl _)
 have hxs1 := hxs.mono S1 ok (Nat.le_refl _)
 have hlen := fk H hx1
 rw [hcl] at hlen
 have hsm : ∀ i (hi : i < l.length), l[i].length < 4611686018427387904 := fun i hi => by have := hl.each l[i] (List.getElem_mem hi); omega
 obtain ⟨sa, ra, a0, as'⟩ : ∃ s1, eI K [1, 0, 0] (T.set (T.set (entry 0 [x]) 2 .nils) 3 (.nu .i64 0)) h .normal s1 h1 ∧ s1.at 0 = x ∧ s1.at ag = .undef :=
  ⟨_, Runs.seq (C7 H.hk rfl (H.prim _ _) c26) (Runs.seq (C8 H.hk rfl (xj he)) (Runs.condF (o := .tmp 13) rfl Runs.skip)), rfl, rfl⟩
 obtain ⟨sb, rb, b0, b5, b15, b16, b17, bs'⟩ : ∃ s1, eI K [1, 0, 1, 1, 1, 0, 0] (T.set sa 5 .nils) h1 .normal s1 h1 ∧ s1.at 0 = x ∧ s1.at 5 = .nils ∧ s1.at 15 = x ∧ s1.at 16 = .nu .i64 (.ofNat l.length) ∧ s1.at 17 = .nu .i64 (.ofNat 0) ∧ s1.at ag = .undef := ⟨_, LU H.hk a0 hlen, a0, rfl, rfl, rfl, rfl, as'⟩
 obtain ⟨s', h', r, ok', S, hs, ds, hO⟩ := dZ (K := K) (f := 24) (n := 46) (c := aD [1, 0, 1, 1, 1, 0, 1, 0, 0] (am Tryz.f24)) (s := sb) (h := h1) (m := l.length) (b := 0)
  (I := fun i s g => HpOk g ∧ Same h.n h g ∧ s.at 0 = x ∧ s.at 15 = x ∧ s.at 16 = .nu .i64 (.ofNat l.length) ∧ s.at 17 = .nu .i64 (.ofNat i) ∧ s.at ag = .undef ∧ ∃ ds, Own h.n g 46 (s.at 5) ds ((l.take i).filter (eG l)))
  (E := fun s g => HpOk g ∧ Same h.n h g ∧ s.at ag = .undef ∧ ∃ ds, Own h.n g 46 (s.at 5) ds (l.filter (eG l))) ⟨cm, S1, b0, b15, b16, b17, bs', [], by rw [b5]; exact Own.nil⟩
  (fun i s g hi ⟨okg, S, g0, g15, g16, g17, gs, ds, hO⟩ => by
    have hr := hx.mono S ok (Nat.le_refl _)
    have hrs := hxs.mono S ok (Nat.le_refl _)
    have hlg := fk H hr
    rw [hcl] at hlg
    obtain ⟨p, hp1, hp2⟩ := ke H hr (i := i) (by omega)
    have hxi := hrs.get (i := i) (by omega) hi
    obtain ⟨s1, r1, j0, j5, j15, j16, j17, j18, js⟩ : ∃ s1, eI K [1, 0, 1, 1, 1, 0, 1, 0, 0, 0] s g .normal s1 g ∧ s1.at 0 = x ∧ s1.at 5 = s.at 5 ∧ s1.at 15 = x ∧ s1.at 16 = .nu .i64 (.ofNat l.length) ∧ s1.at 17 = .nu .i64 (.ofNat i) ∧ s1.at 18 = .bo true ∧ s1.at ag = .undef := ⟨_, C9 H.hk g17 g16 (aM hi), g0, rfl, g15, g16, g17, rfl, gs⟩
    obtain ⟨s2, r2, k0, k5, k7, k15, k16, k17, ks⟩ : ∃ s2, eI K [1, 0, 1, 1, 1, 0, 1, 0, 0, 1, 1, 0, 0, 0] s1 g .normal s2 g ∧ s2.at 0 = x ∧ s2.at 5 = s.at 5 ∧ s2.at 7 = cs[i] ∧ s2.at 15 = x ∧ s2.at 16 = .nu .i64 (.ofNat l.length) ∧ s2.at 17 = .nu .i64 (.ofNat i) ∧ s2.at ag = .undef :=
     ⟨_, LV H.hk j15 j17 hp1 hp2, j0, j5, rfl, j15, j16, j17, js⟩
    obtain ⟨s3, r3, l0, l5, l7, l15, l16, l17, l21, l22, l23, ls⟩ : ∃ s3, eI K [1, 0, 1, 1, 1, 0, 1, 0, 0, 1, 1, 0, 0, 1, 0, 0] s2 g .normal s3 g ∧ s3.at 0 = x ∧ s3.at 5 = s.at 5 ∧ s3.at 7 = cs[i] ∧ s3.at 15 = x ∧ s3.at 16 = .nu .i64 (.ofNat l.length) ∧ s3.at 17 = .nu .i64 (.ofNat i) ∧ s3.at 21 = x ∧ s3.at 22 = .nu .i64 (.ofNat l.length) ∧ s3.at 23 = .nu .i64 (.ofNat 0) ∧ s3.at ag = .undef :=
     ⟨_, LW H.hk k0 hlg, k0, k5, k7, k15, k16, k17, rfl, rfl, rfl, ks⟩
    have L := Ak (K := K) (f := 24) (n := 46) (c := aD [1, 0, 1, 1, 1, 0, 1, 0, 0, 1, 1, 0, 0, 1, 0, 1, 0, 0] (am Tryz.f24)) (s := s3) (h := g) (m := l.length) (b := 2) (j := 1) rfl
     (I := fun k t q => HpOk q ∧ Same g.n g q ∧ t.at 0 = x ∧ t.at 5 = s.at 5 ∧ t.at 7 = cs[i] ∧ t.at 15 = x ∧ t.at 16 = .nu .i64 (.ofNat l.length) ∧ t.at 17 = .nu .i64 (.ofNat i) ∧ t.at 21 = x ∧ t.at 22 = .nu .i64 (.ofNat l.length) ∧ t.at 23 = .nu .i64 (.ofNat k) ∧ t.at ag = .undef ∧ (l.take k).any (pH l[i]) = false)
     (E := fun t q => HpOk q ∧ Same g.n g q ∧ t.at 0 = x ∧ t.at 5 = s.at 5 ∧ t.at 7 = cs[i] ∧ t.at 15 = x ∧ t.at 16 = .nu .i64 (.ofNat l.length) ∧ t.at 17 = .nu .i64 (.ofNat i) ∧ t.at ag = .undef ∧ l.any (pH l[i]) = false)
     (R := fun t q => HpOk q ∧ Same g.n g q ∧ t.at 0 = x ∧ t.at 5 = s.at 5 ∧ t.at 15 = x ∧ t.at 16 = .nu .i64 (.ofNat l.length) ∧ t.at 17 = .nu .i64 (.ofNat i) ∧ t.at ag = .undef ∧ l.any (pH l[i]) = true)
     ⟨okg, Same.refl _ _, l0, l5, l7, l15, l16, l17, l21, l22, l23, ls, rfl⟩
     (fun k t q hk ⟨okq, Sq, t0, t5, t7, t15, t16, t17, t21, t22', t23, ts, hall⟩ => by
       have S' := S.trans (Sq.le S.n)
       have hr := hx.mono S' ok (Nat.le_refl _)
       have hrs := hxs.mono S' ok (Nat.le_refl _)
       obtain ⟨q1, hq1, hq2⟩ := ke H hr (i := k) (by omega)
       have hrk := hrs.get (i := k) (by omega) hk
       have hri := hrs.get (i := i) (by omega) hi
       have hlk := dM H hrk
       have hli := dM H hri
       rw [ax] at hlk hli
       have hki := hsm k hk
       have hii := hsm i hi
       obtain ⟨s4, r4, m0, m5, m7, m15, m16, m17, m21, m22, m23, m24, ms⟩ : ∃ s4, eI K [1, 0, 1, 1, 1, 0, 1, 0, 0, 1, 1, 0, 0, 1, 0, 1, 0, 0, 0] t q .normal s4 q ∧ s4.at 0 = x ∧ s4.at 5 = s.at 5 ∧ s4.at 7 = cs[i] ∧ s4.at 15 = x ∧ s4.at 16 = .nu .i64 (.ofNat l.length) ∧ s4.at 17 = .nu .i64 (.ofNat i) ∧ s4.at 21 = x ∧ s4.at 22 = .nu .i64 (.ofNat l.length) ∧ s4.at 23 = .nu .i64 (.ofNat k) ∧ s4.at 24 = .bo true ∧ s4.at ag = .undef :=
        ⟨_, Da H.hk t23 t22' (aM hk), t0, t5, t7, t15, t16, t17, t21, t22', t23, rfl, ts⟩
       obtain ⟨s5, r5, n0, n5, n7, n9, n15, n16, n17, n21, n22, n23, ns⟩ : ∃ s5, eI K [1, 0, 1, 1, 1, 0, 1, 0, 0, 1, 1, 0, 0, 1, 0, 1, 0, 0, 1, 1, 0, 0, 0] s4 q .normal s5 q ∧ s5.at 0 = x ∧ s5.at 5 = s.at 5 ∧ s5.at 7 = cs[i] ∧ s5.at 9 = cs[k] ∧ s5.at 15 = x ∧ s5.at 16 = .nu .i64 (.ofNat l.length) ∧ s5.at 17 = .nu .i64 (.ofNat i) ∧ s5.at 21 = x ∧ s5.at 22 = .nu .i64 (.ofNat l.length) ∧ s5.at 23 = .nu .i64 (.ofNat k) ∧ s5.at ag = .undef :=
        ⟨_, IR H.hk m21 m23 hq1 hq2, m0, m5, m7, rfl, m15, m16, m17, m21, m22, m23, ms⟩
       by_cases hlen1 : l[k].length = l[i].length + 1
       · obtain ⟨rv, q2, c68, S2, bt, rfl⟩ := FB H PB okq (a := l[k]) (b := l[i]) hki hii hrk hri
         obtain ⟨s6, r6, u0, u5, u7, u15, u16, u17, u21, u22, u23, u37, us⟩ : ∃ s6, eI K [1, 0, 1, 1, 1, 0, 1, 0, 0, 1, 1, 0, 0, 1, 0, 1, 0, 0, 1, 1, 0, 0, 1, 0] s5 q .normal s6 q2 ∧ s6.at 0 = x ∧ s6.at 5 = s.at 5 ∧ s6.at 7 = cs[i] ∧ s6.at 15 = x ∧ s6.at 16 = .nu .i64 (.ofNat l.length) ∧ s6.at 17 = .nu .i64 (.ofNat i) ∧ s6.at 21 = x ∧ s6.at 22 = .nu .i64 (.ofNat l.length) ∧ s6.at 23 = .nu .i64 (.ofNat k) ∧ s6.at 37 = .bo (oo l[k] l[i]) ∧ s6.at ag = .undef :=
          ⟨_, Db H.hk n9 n7 hlk hli (bI (by omega)) (AJ (by rw [hlen1])) (H.prim _ _) c68 rfl, n0, n5, n7, n15, n16, n17, n21, n22, n23, rfl, ns⟩
         cases hq : oo l[k] l[i] with
         | true =>
          rw [hq] at u37
          exact .inr (.inl ⟨_, _, Runs.seq r4 (Runs.seq (Runs.condT (o := .tmp 24) m24 Runs.skip) (aC (pD (Runs.seq r5 (Runs.seq r6 (Runs.condT (o := .tmp 37) u37 Runs.exit))) rfl) (by simp))), bt, Sq.trans (S2.le Sq.n), u0, u5, u15, u16, u17, us, tG hk (by simp [pH, hlen1, hq])⟩)
         | false =>
          rw [hq] at u37
          exact .inl ⟨_, _, Runs.seq r4 (Runs.seq (Runs.condT (o := .tmp 24) m24 Runs.skip) (Runs.seq (aB (Runs.seq r5 (Runs.seq r6 (Runs.condF (o := .tmp 37) u37 Runs.skip)))) (zB H.hk u23 (bI (by omega))))), bt, Sq.trans (S2.le Sq.n), u0, u5, u7, u15, u16, u17, u21, u22, rfl, us, mM hk hall (by simp [pH, hq])⟩
       · obtain ⟨s6, r6, u0, u5, u7, u15, u16, u17, u21, u22, u23, u37, us⟩ : ∃ s6, eI K [1, 0, 1, 1, 1, 0, 1, 0, 0, 1, 1, 0, 0, 1, 0, 1, 0, 0, 1, 1, 0, 0, 1, 0] s5 q .normal s6 q ∧ s6.at 0 = x ∧ s6.at 5 = s.at 5 ∧ s6.at 7 = cs[i] ∧ s6.at 15 = x ∧ s6.at 16 = .nu .i64 (.ofNat l.length) ∧ s6.at 17 = .nu .i64 (.ofNat i) ∧ s6.at 21 = x ∧ s6.at 22 = .nu .i64 (.ofNat l.length) ∧ s6.at 23 = .nu .i64 (.ofNat k) ∧ s6.at 37 = .bo false ∧ s6.at ag = .undef :=
          ⟨_, Dc H.hk n9 n7 hlk hli (bI (by omega)) (ol (xk hlen1)) rfl, n0, n5, n7, n15, n16, n17, n21, n22, n23, rfl, ns⟩
         exact .inl ⟨_, _, Runs.seq r4 (Runs.seq (Runs.condT (o := .tmp 24) m24 Runs.skip) (Runs.seq (aB (Runs.seq r5 (Runs.seq r6 (Runs.condF (o := .tmp 37) u37 Runs.skip)))) (zB H.hk u23 (bI (by omega))))), okq, Sq, u0, u5, u7, u15, u16, u17, u21, u22, rfl, us, mM hk hall (by simp [pH, hlen1])⟩)
     (fun t q ⟨okq, Sq, t0, t5, t7, t15, t16, t17, t21, t22', t23, ts, hall⟩ =>
       ⟨_, _, Runs.seq (Da H.hk t23 t22' (aY (Nat.le_refl _))) (aC (Runs.condF (o := .tmp 24) rfl Runs.exit) (by simp)), okq, Sq, t0, t5, t7, t15, t16, t17, ts, by rw [List.take_length] at hall; exact hall⟩)
    rcases L with ⟨s6, q, r6, okq, Sq, t0, t5, t7, t15, t16, t17, ts, hv⟩ | ⟨s6, q, r6, okq, Sq, t0, t5, t15, t16, t17, ts, hv⟩
    · have S' := S.trans (Sq.le S.n)
      have okS := hC.simp _ (List.getElem_mem hi)
      obtain ⟨y, h2, c69, S2, bt, o2⟩ := uj H okq okS.ne (by have := okS.le; omega) ((hxs.get (i := i) (by omega) hi).mono S' ok (Nat.le_refl _))
      have hO1 := hO.mono Sq okg
      have hol := hO.rows.length
      have hfl := qh (eG l) l i
      obtain ⟨F, B, x', h3, b1, b2, b3, b4, b5⟩ := Own.app (P := K.P) (t := 22) (by rw [H.hP]; exact t22) bt (S'.trans (S2.le S'.n)).n (hO1.mono S2 okq) (Row.off hO1.out (Nat.le_refl _) o2) (by decide) (by omega)
      exact ⟨_, _, Runs.seq r1 (Runs.seq (Runs.condT (o := .tmp 18) j18 Runs.skip) (Runs.seq (aB (Runs.seq r2 (Runs.seq (Runs.seq r3 r6) (IS H.hk t5 t7 (H.prim _ _) c69 b1 b2)))) (zC H.hk t17 (bI (by omega))))), b5, (S'.trans (S2.le S'.n)).trans b4, t0, t15, t16, rfl, ts, _, by rw [Fx hi (by simp [eG, hv])]; exact b3⟩
    · exact ⟨_, _, Runs.seq r1 (Runs.seq (Runs.condT (o := .tmp 18) j18 Runs.skip) (Runs.seq (aN (Runs.seq r2 (aC (Runs.seq r3 r6) (by simp)))) (zC H.hk t17 (bI (by omega))))), okq, S.trans (Sq.le S.n), t0, t15, t16, rfl, ts, ds, by rw [Fy hi (by simp [eG, hv])]; have hO2 := hO.mono Sq okg; rw [← t5] at hO2; exact hO2⟩)
  (fun s g ⟨okg, S, g0, g15, g16, g17, gs, ds, hO⟩ => by
    exact ⟨_, _, Runs.seq (C9 H.hk g17 g16 (aY (Nat.le_refl _))) (aC (Runs.condF (o := .tmp 18) rfl Runs.exit) (by simp)), okg, S, gs, ds, by rw [List.take_length] at hO; exact hO⟩)
 refine ⟨_, h', H.go hf (Runs.seq (C6 H.hk) (Runs.scope (Runs.seq ra (Runs.seq (LS H.hk) (Runs.seq Runs.label (Runs.seq (Runs.seq rb r) (Runs.seq (IT H.hk rfl) Runs.ret))))) (by simp))) (.inr rfl) S.n hs rfl rfl, S, ok', _, ds, by rw [he]; rfl, by rw [if_pos he]; exact hO⟩
end
theorem Dv {l : List (List Int)} (h : Srt l) : l.Nodup := h.imp fun {a b} h e => by
 subst e
 unfold LtS at h
 rw [(fA a a).2 rfl] at h
 exact absurd h (by decide)
theorem FC {a b : List Int} : oo a b = true ↔ ∀ v ∈ b, v ∈ a := by
 unfold oo
 rw [List.all_eq_true]
 exact ⟨fun h v hv => (tF a v).1 (h v hv), fun h v hv => (tF a v).2 (h v hv)⟩
theorem FD {a b : List Int} (ha : OkS a) (hb : OkS b) : oo a b = true ↔ b.Sublist a := by
 rw [FC]
 exact ⟨fun h => lq hb.asc ha.asc h, fun h v hv => h.subset hv⟩
def Val (h : Hp) (x : CV) (l : List (List Int)) : Prop := ∃ cs, Row h x cs ∧ Rows h cs l
section
variable {K : Ctx} {h : Hp}
theorem Val.mono {h h' : Hp} (S : Same h.n h h') (ok : HpOk h) {x : CV} {l : List (List Int)} (v : Val h x l) : Val h' x l := by
 obtain ⟨cs, a, b⟩ := v
 exact ⟨cs, a.mono S ok (Nat.le_refl _), b.mono S ok (Nat.le_refl _)⟩
theorem Own.val {N : Nat} {el : Nat} {x : CV} {cs : List CV} {l : List (List Int)} (o : Own N h el x cs l) : Val h x l := ⟨cs, o.out.row, o.all⟩
theorem xt (H : Std K) (PB : fT K) {l m : List (List Int)} (hl : ux l) {x y : CV} (hx : Val h x l) (hy : Val h y m) (he : l = m) : Comes K 23 [x, y] h (.bo true) h := by
 obtain ⟨cs, a, b⟩ := hx
 obtain ⟨ds, c, d⟩ := hy
 have := AN H PB (by have := hl.len; omega) (fun a ha => by have := hl.each a ha; omega) a b c d
 rwa [Ds.2 he] at this
end
theorem NA : ae Tryz.prog 28 = .slice 22 1 24 [.nils] := by kernel_rfl
section
variable {K : Ctx} {h : Hp}
theorem Cx.sml {l : List (List Int)} (h : Cx l) : ux l := ⟨by have := h.le; omega, fun a ha => by have := (h.ok a ha).le; omega⟩
end
end Go.CP
