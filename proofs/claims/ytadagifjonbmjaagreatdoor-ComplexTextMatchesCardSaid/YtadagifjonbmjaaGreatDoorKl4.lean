import Derived.Test.YtadagifjonbmjaaGreatDoorKl3
import Derived.Test.YtadagifjonbmjaaGreatDoorKw1
import Derived.Test.YtadagifjonbmjaaGreatDoorKl2
set_option linter.all false
namespace Go.CP
open Go.Proofs
variable [LG] [HK]
def Jm (cs : List CV) : List Int := cs.filterMap fun c => match c with
 | .nu _ n => if 0 < n then some (n - 1) else none
 | _ => none
theorem wm {a : List Int} (h : ∀ v ∈ a, 0 ≤ v) : Jm (bB a) = a := by
 unfold Jm bB
 rw [List.filterMap_append]
 have h2 : List.filterMap (fun c => match c with
   | CV.nu _ n => if 0 < n then some (n - 1) else none
   | _ => none) (List.replicate (5 - a.length) (CV.nu .i64 0)) = [] := by
  rw [List.filterMap_eq_nil_iff]
  intro c hc
  rw [(List.mem_replicate.1 hc).2]; rfl
 rw [h2, List.append_nil]
 induction a with
 | nil => rfl
 | cons v a ih =>
  have hv := h v List.mem_cons_self
  simp only [ao, List.map_cons, List.filterMap_cons, if_pos (show 0 < v + 1 by omega)]
  have := ih (fun w hw => h w (List.mem_cons_of_mem _ hw)) (by rw [List.filterMap_eq_nil_iff]; intro c hc; rw [(List.mem_replicate.1 hc).2]; rfl)
  simp only [ao] at this
  rw [this]
  congr 1; omega
theorem BU {a b : List Int} (ha : OkS a) (hb : OkS b) (h : dZ (.agg (bB a)) (.agg (bB b)) = some true) : a = b := by
 have h1 : bB a = bB b := tK h
 rw [← wm (fun v hv => (ha.rng v hv).1), h1, wm (fun v hv => (hb.rng v hv).1)]
theorem wn {key v key' : CV} (hk : iB key) (hk' : iB key') (hne : dZ key' key ≠ some true) : ∀ {es es' : List (CV × CV)}, (∀ e ∈ es, iB e.1) → gr key v es = some es' → cw key' es = some none → cw key' es' = some none
 | [], es', _, h, _ => by
  cases h
  obtain ⟨b, hb⟩ := gB hk' hk
  cases b with
  | true => exact absurd hb hne
  | false => simp only [cw, hb]
 | (k, u) :: es, es', hn, h, hl => by
  have hku := hn (k, u) List.mem_cons_self
  obtain ⟨b', hb'⟩ := gB hk' hku
  cases b' with
  | true => simp only [cw, hb'] at hl; cases hl
  | false =>
   simp only [cw, hb'] at hl
   obtain ⟨b, hb⟩ := gB hk hku
   cases b with
   | true =>
    simp only [gr, hb] at h
    cases h
    simp only [cw, hb', hl]
   | false =>
    simp only [gr, hb] at h
    split at h
    · rename_i es2 he
      cases h
      simp only [cw, hb']
      exact wn hk hk' hne (fun e he => hn e (List.mem_cons_of_mem _ he)) he hl
    · cases h
structure MapOf (es : List (CV × CV)) (l : List (List Int)) : Prop where
 num : ∀ e ∈ es, iB e.1
 yes : ∀ a, OkS a → a ∈ l → Rq es a
 no : ∀ a, OkS a → a ∉ l → cw (.agg (bB a)) es = some none
theorem MapOf.put {es es' : List (CV × CV)} {l : List (List Int)} {a : List Int} {k o n c : Nat} (M : MapOf es l) (ha : OkS a) (hu : gr (.agg (bB a)) (.sl k o n c) es = some es') : MapOf es' (l ++ [a]) := by
 obtain ⟨es2, u1, u2, u3, u4⟩ := vf (v := .sl k o n c) (fK ha.le) es M.num
 rw [hu] at u1; cases u1
 refine ⟨u2, fun b hb hm => ?_, fun b hb hm => ?_⟩
 · by_cases he : b = a
   · subst he; exact ⟨_, _, _, _, u3⟩
   · have hm' : b ∈ l := by
      rcases List.mem_append.1 hm with hm | hm
      · exact hm
      · exact absurd (List.mem_singleton.1 hm) he
     obtain ⟨k', o', n', c', hl⟩ := M.yes b hb hm'
     rcases u4 _ _ (fK hb.le) hl with h3 | h3
     · exact ⟨_, _, _, _, h3⟩
     · exact ⟨_, _, _, _, h3⟩
 · have hm' : b ∉ l ∧ b ≠ a := ⟨fun h => hm (List.mem_append_left _ h), fun h => hm (by rw [h]; exact List.mem_append_right _ (List.mem_singleton.2 rfl))⟩
   exact wn (fK ha.le) (fK hb.le) (fun h => hm'.2 (BU hb ha h)) M.num hu (M.no b hb hm'.1)
theorem MapOf.skip {es : List (CV × CV)} {l : List (List Int)} {a : List Int} (M : MapOf es l) (ha : ¬ OkS a) : MapOf es (l ++ [a]) := by
 refine ⟨M.num, fun b hb hm => ?_, fun b hb hm => M.no b hb fun h => hm (List.mem_append_left _ h)⟩
 rcases List.mem_append.1 hm with hm | hm
 · exact M.yes b hb hm
 · rw [List.mem_singleton.1 hm] at hb; exact absurd hb ha
section
variable {K : Ctx} {h : Hp}
theorem Mi (H : Std K) {h : Hp} {km : Nat} {es : List (CV × CV)} {a : List Int} (hle : a.length ≤ 5) (hg : h.get km = .mp es) (hl : cw (.agg (bB a)) es = some none) : eI K.P h false (.agg (bB a)) (.mp km) (ae K.P 100) = some .nils := by
 have h1 : ae K.P 100 = .map 103 46 := by rw [H.hP]; exact yQ
 have h2 : dx K.P 46 = some .nils := by rw [H.hP]; exact Q9
 rw [h1]
 simp only [eI, lI H hle, xa, h2, rK, hg, hl, rJ, Aj]
theorem IE (H : Std K) : ab K.P .eql 46 .nils .nils = some (.bo true) := by
 have : ae K.P 46 = .slice 3 1 8 [.nu .i64 0] := by rw [H.hP]; exact t46
 simp only [ab, lQ, lg, this]
theorem C4 (H : Std K) (ok : HpOk h) {l : List (List Int)} (hl : hK l) {x : CV} {cs : List CV} (hx : Row h x cs) (hxs : Rows h cs l) : jz K 26 [x] h fun r _ => r = .nu .i64 (bI l) := by
 have hf : K.P.funcs[26]? = some Tryz.f26 := by rw [H.hP]; exact Tryz.func26
 have hcl := hxs.length
 have hll := hl.len
 have hlen := fd H hx
 rw [hcl] at hlen
 by_cases hbig : 1024 < l.length
 · refine ⟨_, h, H.go hf (Runs.seq (xW H.hk) (ax (Ew H.hk H.prim H.pl rfl hlen (eb (by show (1024 : Int) < Int.ofNat _; simp; omega))) (by simp))) (.inr rfl) (Nat.le_refl _) rfl rfl rfl, Same.refl _ _, ok, ?_⟩
   show CV.nu .i64 3 = _
   rw [bI, if_pos hbig]
 have S0 : Same h.n h (h.push (.mp [])) := Same.push (Nat.le_refl _) _
 have hlen1 := fd H (hx.mono S0 ok (Nat.le_refl _))
 rw [hcl] at hlen1
 obtain ⟨s1, r1, j0, js⟩ : ∃ s1, bH K [1, 0] (T.set (entry 0 [x]) 2 (.nu .i64 0)) h .normal s1 h ∧ s1.at 0 = x ∧ s1.at ah = .undef := ⟨_, Ex H.hk H.prim H.pl rfl hlen (fM (by simp; omega)), rfl, rfl⟩
 obtain ⟨s2, r2, k0, k3, k17, k18, k19, ks⟩ : ∃ s2, bH K [1, 1, 1, 0, 0] (T.set (T.set s1 16 (.mp h.n)) 3 (.mp h.n)) (h.push (.mp [])) .normal s2 (h.push (.mp [])) ∧ s2.at 0 = x ∧ s2.at 3 = .mp h.n ∧ s2.at 17 = x ∧ s2.at 18 = .nu .i64 (.ofNat l.length) ∧ s2.at 19 = .nu .i64 (.ofNat 0) ∧ s2.at ah = .undef := ⟨_, Ni H.hk j0 hlen1, j0, rfl, rfl, rfl, rfl, js⟩
 obtain ⟨s3, h3, r3, cZ, S3, hkn3, e0, e3, es, hg3, M3, e1⟩ := cV (K := K) (f := 26) (n := 74) (c := aG [1, 1, 1, 0, 1, 0, 0] (aq Tryz.f26)) (s := s2) (h := h.push (.mp [])) (m := l.length) (b := 0)
  (I := fun i s g => HpOk g ∧ Same h.n h g ∧ h.n < g.n ∧ s.at 0 = x ∧ s.at 3 = .mp h.n ∧ s.at 17 = x ∧ s.at 18 = .nu .i64 (.ofNat l.length) ∧ s.at 19 = .nu .i64 (.ofNat i) ∧ s.at ah = .undef ∧ ∃ es, g.get h.n = .mp es ∧ MapOf es (l.take i))
  (E := fun s g => HpOk g ∧ Same h.n h g ∧ h.n < g.n ∧ s.at 0 = x ∧ s.at 3 = .mp h.n ∧ ∃ es, g.get h.n = .mp es ∧ MapOf es l ∧ s.at ah = .undef)
  ⟨ok.push _, S0, by simp, k0, k3, k17, k18, k19, ks, [], by rw [ai, if_pos rfl], by simp, by intro a _ hm; simp at hm, fun a _ _ => rfl⟩
  (fun i s g hi ⟨okg, S, hkn, g0, g3, g17, g18, g19, gs, es, hg, M⟩ => by
    have hr := hx.mono S ok (Nat.le_refl _)
    obtain ⟨p, hp1, hp2⟩ := jp H hr (i := i) (by omega)
    have hxi := (hxs.get (i := i) (by omega) hi).mono S ok (Nat.le_refl _)
    have hle := hl.each l[i] (List.getElem_mem hi)
    have c66 := lL H (by omega) hxi
    by_cases hok : bU l[i] = 0
    · have okS := c6.1 hok
      rw [hok] at c66
      obtain ⟨k, o, n, c, hsl, _⟩ := hxi.blk (fo okS.ne) okg
      obtain ⟨h1, c71, S1, bP⟩ := rl H okg okS.le okS.rng hxi
      have hg1 : h1.get h.n = .mp es := by rw [S1.get h.n hkn]; exact hg
      have hkn1 : h.n < h1.n := Nat.lt_of_lt_of_le hkn S1.n
      obtain ⟨es', u1, u2, u3, u4⟩ := vf (v := cs[i]) (fK okS.le) es M.num
      have w3 : jh K.P h1 (.mp h.n) (.agg (bB l[i])) cs[i] (ae K.P 100) = some (.undef, h1.set h.n (.mp es')) := by
       rw [show ae K.P 100 = .map 103 46 by rw [H.hP]; exact yQ]
       simp only [jh, lI H okS.le, xf, hg1, u1, xe]
      refine ⟨_, _, sF H.hk H.prim H.pl g19 g18 g17 g3 (aJ hi) hp1 hp2 c66 rfl c71 w3 (bh (by omega)), bP.set hkn1 _, (S.trans (S1.le S.n)).trans (Same.set (Nat.le_refl _) _), hkn1, g0, g3, g17, g18, rfl, gs, es', by rw [Hp.get_set, if_pos rfl], ?_⟩
      rw [cr hi]
      rw [hsl] at u1
      exact M.put okS u1
    · exact ⟨_, _, sG H.hk H.prim H.pl g19 g18 g17 (aJ hi) hp1 hp2 c66 (iC hok) (bh (by omega)), okg, S, hkn, g0, g3, g17, g18, rfl, gs, es, hg, by rw [cr hi]; exact M.skip fun o => hok (c6.2 o)⟩)
  (fun s g ⟨okg, S, hkn, g0, g3, g17, g18, g19, gs, es, hg, M⟩ =>
    ⟨_, _, uf H.hk H.prim H.pl g19 g18 (aS (Nat.le_refl _)), okg, S, hkn, g0, g3, es, hg, by rw [List.take_length] at M; exact M, gs⟩)
 have hlen3 := fd H (hx.mono S3 ok (Nat.le_refl _))
 rw [hcl] at hlen3
 obtain ⟨s4, r4, l0, l3, l31, l32, l33, ls⟩ : ∃ s4, bH K [1, 1, 1, 1, 0, 0] s3 h3 .normal s4 h3 ∧ s4.at 0 = x ∧ s4.at 3 = .mp h.n ∧ s4.at 31 = x ∧ s4.at 32 = .nu .i64 (.ofNat l.length) ∧ s4.at 33 = .nu .i64 (.ofNat 0) ∧ s4.at ah = .undef := ⟨_, JT H.hk e0 hlen3, e0, e3, rfl, rfl, rfl, e1⟩
 have L := bS (K := K) (f := 26) (n := 74) (c := aG [1, 1, 1, 1, 0, 1, 0, 0] (aq Tryz.f26)) (s := s4) (h := h3) (m := l.length) (b := 2) (I := fun i s g => HpOk g ∧ Same h.n h g ∧ h.n < g.n ∧ g.get h.n = .mp es ∧ s.at 0 = x ∧ s.at 3 = .mp h.n ∧ s.at 31 = x ∧ s.at 32 = .nu .i64 (.ofNat l.length) ∧ s.at 33 = .nu .i64 (.ofNat i) ∧ s.at ah = .undef ∧ ∀ j, j < i → bW l j = 0)
  (E := fun s g => HpOk g ∧ Same h.n h g ∧ s.at ah = .undef ∧ bI l = 0) (R := fun s g => HpOk g ∧ Same h.n h g ∧ s.at ah = .undef ∧ s.at 2 = .nu .i64 (bI l)) ⟨cZ, S3, hkn3, hg3, l0, l3, l31, l32, l33, ls, fun j hj => absurd hj (Nat.not_lt_zero _)⟩
  (fun i s g hi ⟨okg, S, hkn, hg, g0, g3, g31, g32, g33, gs, hall⟩ => by
    have hC : bW l i ≠ 0 → bI l = bW l i := fun hne => by
     rw [bI, if_neg hbig]; exact wl _ 0 i (Nat.zero_le _) (by omega) (fun j _ hj => hall j hj) hne
    have hr := hx.mono S ok (Nat.le_refl _)
    have hrs := hxs.mono S ok (Nat.le_refl _)
    obtain ⟨p, hp1, hp2⟩ := jp H hr (i := i) (by omega)
    have hxi := hrs.get (i := i) (by omega) hi
    have hle := hl.each l[i] (List.getElem_mem hi)
    have e0 := kR hi
    obtain ⟨s1, r1, j0, j3, j31, j32, j33, j34, js⟩ : ∃ s1, bH K [1, 1, 1, 1, 0, 1, 0, 0, 0] s g .normal s1 g ∧ s1.at 0 = x ∧ s1.at 3 = .mp h.n ∧ s1.at 31 = x ∧ s1.at 32 = .nu .i64 (.ofNat l.length) ∧ s1.at 33 = .nu .i64 (.ofNat i) ∧ s1.at 34 = .bo true ∧ s1.at ah = .undef := ⟨_, Az H.hk g33 g32 (aJ hi), g0, g3, g31, g32, g33, rfl, gs⟩
    obtain ⟨s2, r2, k0, k3, k31, k32, k33, k6, k7, ks⟩ : ∃ s2, bH K [1, 1, 1, 1, 0, 1, 0, 0, 1, 1, 0, 0, 0] s1 g .normal s2 g ∧ s2.at 0 = x ∧ s2.at 3 = .mp h.n ∧ s2.at 31 = x ∧ s2.at 32 = .nu .i64 (.ofNat l.length) ∧ s2.at 33 = .nu .i64 (.ofNat i) ∧ s2.at 6 = .nu .i64 (.ofNat i) ∧ s2.at 7 = cs[i] ∧ s2.at ah = .undef := ⟨_, JU H.hk j33 j31 hp1 hp2, j0, j3, j31, j32, j33, rfl, rfl, js⟩
    by_cases h1 : bU l[i] = 0
    case neg =>
     have hat : bW l i = bU l[i] := by unfold bW; rw [e0, if_pos h1]
     have c73 := C1 H (by omega) h1 hxi
     obtain ⟨s3, r3, l9, ls⟩ : ∃ s3, bH K [1, 1, 1, 1, 0, 1, 0, 0, 1, 1, 0, 0, 1, 0] s2 g .normal s3 g ∧ s3.at 9 = .nu .i64 (bU l[i]) ∧ s3.at ah = .undef := ⟨_, AA H.hk k7 (H.prim _ _) c73 rfl rfl, rfl, ks⟩
     exact .inr (.inl ⟨_, _, Runs.seq r1 (Runs.seq (dE H.hk H.prim H.pl j34) (ax (az (Runs.seq r2 (Runs.seq r3 (ax (lV H.hk H.prim H.pl l9 (jt h1)) (by simp))))) (by simp))), okg, S, ls, by rw [hC (by rw [hat]; exact h1), hat]; rfl⟩)
    have okS := c6.1 h1
    have h1' : bU (l.getD i []) = 0 := by rw [e0]; exact h1
    obtain ⟨y, fs, h5, c5, S5, kY, own5⟩ := yP H okg okS hxi
    obtain ⟨s3, r3, l0, l3, l31, l32, l33, l6, l7, l8, l9, ls⟩ : ∃ s3, bH K [1, 1, 1, 1, 0, 1, 0, 0, 1, 1, 0, 0, 1, 0] s2 g .normal s3 h5 ∧ s3.at 0 = x ∧ s3.at 3 = .mp h.n ∧ s3.at 31 = x ∧ s3.at 32 = .nu .i64 (.ofNat l.length) ∧ s3.at 33 = .nu .i64 (.ofNat i) ∧ s3.at 6 = .nu .i64 (.ofNat i) ∧ s3.at 7 = cs[i] ∧ s3.at 8 = y ∧ s3.at 9 = .nu .i64 0 ∧ s3.at ah = .undef := ⟨_, AA H.hk k7 (H.prim _ _) c5 rfl rfl, k0, k3, k31, k32, k33, k6, k7, rfl, rfl, ks⟩
    obtain ⟨s4, r4, m0, m3, m31, m32, m33, m6, m7, m8, ms⟩ : ∃ s4, bH K [1, 1, 1, 1, 0, 1, 0, 0, 1, 1, 0, 0, 1, 1, 0] s3 h5 .normal s4 h5 ∧ s4.at 0 = x ∧ s4.at 3 = .mp h.n ∧ s4.at 31 = x ∧ s4.at 32 = .nu .i64 (.ofNat l.length) ∧ s4.at 33 = .nu .i64 (.ofNat i) ∧ s4.at 6 = .nu .i64 (.ofNat i) ∧ s4.at 7 = cs[i] ∧ s4.at 8 = y ∧ s4.at ah = .undef := ⟨_, lW H.hk H.prim H.pl l9 rfl, l0, l3, l31, l32, l33, l6, l7, l8, ls⟩
    have S05 : Same h.n h h5 := S.trans (S5.le S.n)
    have hkn5 : h.n < h5.n := Nat.lt_of_lt_of_le hkn S5.n
    have hg5 : h5.get h.n = .mp es := by rw [S5.get h.n hkn]; exact hg
    have hnb : (0 < i ∧ a8 (l.getD i []) (l.getD (i - 1) []) = 0 ∧ ∃ s5, bH K [1, 1, 1, 1, 0, 1, 0, 0, 1, 1, 0, 0, 1, 1, 1, 0] s4 h5 .ret s5 h5 ∧ s5.at 2 = .nu .i64 5 ∧ s5.at ah = .undef) ∨
     (0 < i ∧ a8 (l.getD i []) (l.getD (i - 1) []) ≠ 0 ∧ a8 (l.getD i []) (l.getD (i - 1) []) < 0 ∧ ∃ s5, bH K [1, 1, 1, 1, 0, 1, 0, 0, 1, 1, 0, 0, 1, 1, 1, 0] s4 h5 .ret s5 h5 ∧ s5.at 2 = .nu .i64 6 ∧ s5.at ah = .undef) ∨
     ((0 < i → a8 (l.getD i []) (l.getD (i - 1) []) ≠ 0 ∧ ¬ a8 (l.getD i []) (l.getD (i - 1) []) < 0) ∧ ∃ s5, bH K [1, 1, 1, 1, 0, 1, 0, 0, 1, 1, 0, 0, 1, 1, 1, 0] s4 h5 .normal s5 h5 ∧ s5.at 0 = x ∧ s5.at 3 = .mp h.n ∧ s5.at 31 = x ∧ s5.at 32 = .nu .i64 (.ofNat l.length) ∧ s5.at 33 = .nu .i64 (.ofNat i) ∧ s5.at 8 = y ∧ s5.at ah = .undef) := by
     cases i with
     | zero => exact .inr (.inr ⟨fun h => absurd h (Nat.lt_irrefl _), _, kZ H.hk H.prim H.pl m6 rfl, m0, m3, m31, m32, m33, m8, ms⟩)
     | succ k =>
      have hr5 := hx.mono S05 ok (Nat.le_refl _)
      have hrs5 := hxs.mono S05 ok (Nat.le_refl _)
      obtain ⟨q, hq1, hq2⟩ := jp H hr5 (i := k) (by omega)
      have cc := th H (a := l[k + 1]) (b := l[k]'(by omega)) (by omega) (hrs5.get (i := k + 1) (by omega) hi) (hrs5.get (i := k) (by omega) (by omega))
      have ek : l.getD (k + 1 - 1) [] = l[k]'(by omega) := kR (i := k) (by omega)
      rw [e0, ek]
      have hpos : (0 : Int) < Int.ofNat (k + 1) := by simp
      by_cases hc : a8 l[k + 1] (l[k]'(by omega)) = 0
      · exact .inl ⟨by omega, hc, _, kz H.hk H.prim H.pl m6 m7 m0 (eb hpos) (nY (by omega)) hq1 hq2 cc (rp hc), rfl, ms⟩
      by_cases hc2 : a8 l[k + 1] (l[k]'(by omega)) < 0
      · exact .inr (.inl ⟨by omega, hc, hc2, _, jH H.hk H.prim H.pl m6 m7 m0 (eb hpos) (nY (by omega)) hq1 hq2 cc (iC hc) (CZ hc2), rfl, ms⟩)
      · exact .inr (.inr ⟨fun _ => ⟨hc, hc2⟩, _, jI H.hk H.prim H.pl m6 m7 m0 (eb hpos) (nY (by omega)) hq1 hq2 cc (iC hc) (yX (by omega)), m0, m3, m31, m32, m33, m8, ms⟩)
    rcases hnb with ⟨hpos, hc, s5, r5, h52, h5s⟩ | ⟨hpos, hc, hc2, s5, r5, h52, h5s⟩ | ⟨hc, s5, r5, n0, n3, n31, n32, n33, n8, ns⟩
    · have hat : bW l i = 5 := by unfold bW; rw [if_neg (fun hn => hn h1'), if_pos ⟨hpos, hc⟩]
      exact .inr (.inl ⟨_, _, Runs.seq r1 (Runs.seq (dE H.hk H.prim H.pl j34) (ax (az (Runs.seq r2 (Runs.seq r3 (Runs.seq r4 (ax r5 (by simp)))))) (by simp))), kY, S05, h5s, by rw [hC (by rw [hat]; decide), hat]; exact h52⟩)
    · have hat : bW l i = 6 := by unfold bW; rw [if_neg (fun hn => hn h1'), if_neg (fun h => hc h.2), if_pos ⟨hpos, hc2⟩]
      exact .inr (.inl ⟨_, _, Runs.seq r1 (Runs.seq (dE H.hk H.prim H.pl j34) (ax (az (Runs.seq r2 (Runs.seq r3 (Runs.seq r4 (ax r5 (by simp)))))) (by simp))), kY, S05, h5s, by rw [hC (by rw [hat]; decide), hat]; exact h52⟩)
    have hat := tq h1' hc
    rw [e0] at hat
    have hfl := mK l[i]
    have hle5 := okS.le
    have hlen8 := fd H own5.out.row
    rw [own5.rows.length] at hlen8
    obtain ⟨s6, r6, q0, q3, q31, q32, q33, q61, q62, q63, qs⟩ : ∃ s6, bH K [1, 1, 1, 1, 0, 1, 0, 0, 1, 1, 0, 0, 1, 1, 1, 1, 0] s5 h5 .normal s6 h5 ∧ s6.at 0 = x ∧ s6.at 3 = .mp h.n ∧ s6.at 31 = x ∧ s6.at 32 = .nu .i64 (.ofNat l.length) ∧ s6.at 33 = .nu .i64 (.ofNat i) ∧ s6.at 61 = y ∧ s6.at 62 = .nu .i64 (.ofNat (bg l[i]).length) ∧ s6.at 63 = .nu .i64 (.ofNat 0) ∧ s6.at ah = .undef := ⟨_, JY H.hk n8 hlen8, n0, n3, n31, n32, n33, rfl, rfl, rfl, ns⟩
    have hfr := own5.out.row
    have hfa := own5.all
    have hfc := hfa.length
    have L2 := bS (K := K) (f := 26) (n := 74) (c := aG [1, 1, 1, 1, 0, 1, 0, 0, 1, 1, 0, 0, 1, 1, 1, 1, 1, 0, 0] (aq Tryz.f26)) (s := s6) (h := h5) (m := (bg l[i]).length) (b := 5) (I := fun k s g => HpOk g ∧ Same h5.n h5 g ∧ s.at 0 = x ∧ s.at 3 = .mp h.n ∧ s.at 31 = x ∧ s.at 32 = .nu .i64 (.ofNat l.length) ∧ s.at 33 = .nu .i64 (.ofNat i) ∧ s.at 61 = y ∧ s.at 62 = .nu .i64 (.ofNat (bg l[i]).length) ∧ s.at 63 = .nu .i64 (.ofNat k) ∧ s.at ah = .undef ∧ ((bg l[i]).take k).all (fun f => decide (f ∈ l)) = true)
     (E := fun s g => HpOk g ∧ Same h5.n h5 g ∧ s.at 0 = x ∧ s.at 3 = .mp h.n ∧ s.at 31 = x ∧ s.at 32 = .nu .i64 (.ofNat l.length) ∧ s.at 33 = .nu .i64 (.ofNat i) ∧ s.at ah = .undef ∧ (bg l[i]).all (fun f => decide (f ∈ l)) = true) (R := fun s g => HpOk g ∧ Same h5.n h5 g ∧ s.at ah = .undef ∧ s.at 2 = .nu .i64 7 ∧ (bg l[i]).all (fun f => decide (f ∈ l)) = false) ⟨kY, Same.refl _ _, q0, q3, q31, q32, q33, q61, q62, q63, qs, rfl⟩
     (fun k s g hk ⟨okg, Sg, g0, g3, g31, g32, g33, g61, g62, g63, gs, hallk⟩ => by
       obtain ⟨q, hq1, hq2⟩ := jp H (hfr.mono Sg kY (Nat.le_refl _)) (i := k) (by omega)
       have hrk := (hfa.get (i := k) (by omega) hk).mono Sg kY (Nat.le_refl _)
       have hmf := zW (List.getElem_mem hk)
       have okf : OkS (bg l[i])[k] := okS.sub hmf.1 (hmf.2 okS.ne)
       obtain ⟨h1, c26, S1, bP⟩ := rl H okg okf.le okf.rng hrk
       have hg1 : h1.get h.n = .mp es := by rw [S1.get h.n (Nat.lt_of_lt_of_le hkn5 Sg.n), Sg.get h.n hkn5]; exact hg5
       by_cases hin : (bg l[i])[k] ∈ l
       · obtain ⟨k', o, n, c, hl'⟩ := M3.yes _ okf hin
         exact .inl ⟨_, _, iZ H.hk H.prim H.pl g63 g62 g61 g3 (aJ hk) hq1 hq2 c26 (CW H okf.le hg1 hl') (Gt H k' o n c) (bh (by omega)), bP, Sg.trans (S1.le Sg.n), g0, g3, g31, g32, g33, g61, g62, rfl, gs, iD hk hallk (by simpa using hin)⟩
       · exact .inr (.inl ⟨_, _, iY H.hk H.prim H.pl g63 g62 g61 g3 (aJ hk) hq1 hq2 c26 (Mi H okf.le hg1 (M3.no _ okf hin)) (IE H), bP, Sg.trans (S1.le Sg.n), gs, rfl, mL hk (by simpa using hin)⟩))
     (fun s g ⟨okg, Sg, g0, g3, g31, g32, g33, g61, g62, g63, gs, hallk⟩ =>
       ⟨_, _, jl H.hk H.prim H.pl g63 g62 (aS (Nat.le_refl _)), okg, Sg, g0, g3, g31, g32, g33, gs, by rw [List.take_length] at hallk; exact hallk⟩)
    rcases L2 with ⟨s7, h7, r7, ok7, S7, t0, t3, t31, t32, t33, ts, hv⟩ | ⟨s7, h7, r7, ok7, S7, ts, t2, hv⟩
    · rw [hv, if_pos rfl] at hat
      exact .inl ⟨_, _, Runs.seq r1 (Runs.seq (dE H.hk H.prim H.pl j34) (Runs.seq (au (Runs.seq r2 (Runs.seq r3 (Runs.seq r4 (Runs.seq r5 (Runs.seq r6 r7)))))) (J1 H.hk t33 (bh (by omega))))), ok7, S05.trans (S7.le S05.n), Nat.lt_of_lt_of_le hkn5 S7.n, by rw [S7.get h.n hkn5]; exact hg5, t0, t3, t31, t32, rfl, ts, fun j hj => by
       rcases Nat.lt_or_ge j i with hlt | hge
       · exact hall j hlt
       · obtain rfl : j = i := by omega
         exact hat⟩
    · rw [hv, if_neg (by simp)] at hat
      exact .inr (.inl ⟨_, _, Runs.seq r1 (Runs.seq (dE H.hk H.prim H.pl j34) (ax (az (Runs.seq r2 (Runs.seq r3 (Runs.seq r4 (Runs.seq r5 (Runs.seq r6 r7)))))) (by simp))), ok7, S05.trans (S7.le S05.n), ts, by rw [hC (by rw [hat]; decide), hat]; exact t2⟩))
  (fun s g ⟨okg, S, hkn, hg, g0, g3, g31, g32, g33, gs, hall⟩ => by
    obtain ⟨s1, r1, k34, ks⟩ : ∃ s1, bH K [1, 1, 1, 1, 0, 1, 0, 0, 0] s g .normal s1 g ∧ s1.at 34 = .bo false ∧ s1.at ah = .undef := ⟨_, Az H.hk g33 g32 (aS (by omega)), rfl, gs⟩
    refine ⟨_, _, Runs.seq r1 (ax (qj H.hk H.prim H.pl k34) (by simp)), okg, S, ks, ?_⟩
    rw [bI, if_neg hbig]; exact BT _ 0 fun j _ hj => hall j (by omega))
 rcases L with ⟨s', h', r, ok', S, hs, hv⟩ | ⟨s', h', r, ok', S, hs, h2⟩
 · exact ⟨_, h', H.go hf (Runs.seq (xW H.hk) (Runs.seq r1 (Runs.seq (D0 H.hk) (Runs.seq (Runs.seq r2 r3) (Runs.seq (Runs.seq r4 r) (Cq H.hk H.prim H.pl)))))) (.inr rfl) S.n hs rfl rfl, S, ok', by rw [hv]; rfl⟩
 · exact ⟨_, h', H.go hf (Runs.seq (xW H.hk) (Runs.seq r1 (Runs.seq (D0 H.hk) (Runs.seq (Runs.seq r2 r3) (ax (Runs.seq r4 r) (by simp)))))) (.inr rfl) S.n hs (by show some [Fr.at s' 2] = _; rw [h2]) rfl, S, ok', rfl⟩
end
theorem ru {l : List (List Int)} (h : bI l = 0) : OkC l := by
 unfold bI at h
 by_cases hb : 1024 < l.length
 · rw [if_pos hb] at h; exact absurd h (by decide)
 rw [if_neg hb] at h
 have hz : ∀ i (hi : i < l.length), bW l i = 0 := fun i hi => GB _ 0 h i (Nat.zero_le _) (by omega)
 have hS : ∀ i (hi : i < l.length), bU l[i] = 0 ∧ (0 < i → a8 l[i] (l.getD (i - 1) []) ≠ 0 ∧ ¬ a8 l[i] (l.getD (i - 1) []) < 0) ∧ (bg l[i]).all (fun f => decide (f ∈ l)) = true := by
  intro i hi
  have := hz i hi
  unfold bW at this
  rw [kR hi] at this
  by_cases h1 : bU l[i] = 0
  · rw [if_neg (fun hn => hn h1)] at this
    by_cases h2 : 0 < i ∧ a8 l[i] (l.getD (i - 1) []) = 0
    · rw [if_pos h2] at this; exact absurd this (by decide)
    rw [if_neg h2] at this
    by_cases h3 : 0 < i ∧ a8 l[i] (l.getD (i - 1) []) < 0
    · rw [if_pos h3] at this; exact absurd this (by decide)
    rw [if_neg h3] at this
    refine ⟨h1, fun hp => ⟨fun e => h2 ⟨hp, e⟩, fun e => h3 ⟨hp, e⟩⟩, ?_⟩
    cases hq : (bg l[i]).all (fun f => decide (f ∈ l)) with
    | true => rfl
    | false => rw [hq] at this; exact absurd this (by decide)
  · rw [if_pos h1] at this; exact absurd this h1
 refine ⟨fun a ha => ?_, fun i hi => ?_, fun a ha f hf => ?_, by omega⟩
 · obtain ⟨i, hi, rfl⟩ := List.getElem_of_mem ha
   exact c6.1 (hS i hi).1
 · have := (hS (i + 1) hi).2.1 (by omega)
   rw [show l.getD (i + 1 - 1) [] = l[i]'(by omega) from kR (i := i) (by omega)] at this
   rcases lJ l[i + 1] (l[i]'(by omega)) with h | h | h
   · rw [h] at this; exact absurd (by decide : (-1 : Int) < 0) this.2
   · exact absurd h this.1
   · exact h
 · obtain ⟨i, hi, rfl⟩ := List.getElem_of_mem ha
   simpa using List.all_eq_true.1 (hS i hi).2.2 f hf
section
variable {K : Ctx} {h : Hp}
theorem y8 (H : Std K) (PB : cz K) {a : List Int} {v : Int} (hbig : a.length < 4611686018427387904) {q z : CV} (bq : Box h q z) (hz : Row h z (ao a)) : Comes K 112 [.nu .i64 v, q] h (.bo (!(dW a v))) h := by
 have hf : K.P.funcs[112]? = some Tryz.f112 := by rw [H.hP]; exact Tryz.func112
 exact H.go hf (P8 H.hk H.prim PB (s := entry 0 [.nu .i64 v, q]) rfl rfl (bq.load (rm H)) (vg H hbig hz) rfl) (.inr rfl) (Nat.le_refl _) rfl rfl rfl
theorem C5 (H : Std K) (PB : cz K) {a : List Int} {G : FuncId} {C : List CV} {p : Int → Bool} (hbig : a.length < 4611686018427387904) {x : CV} (ha : Row h x (ao a)) (hg : ∀ v ∈ a, Comes K G ([.nu .i64 v] ++ C) h (.bo (p v)) h) : ∃ n, Comes K 140 [x, .fn G C] h (.nu .i64 n) h ∧ cI 0 n = a.any p := by
 have hf : K.P.funcs[140]? = some Tryz.f140 := by rw [H.hP]; exact Tryz.func140
 have hlen := dJ H ha
 rw [aB] at hlen
 obtain ⟨s1, r1, k0, k1, k7, k8, ks⟩ : ∃ s1, ir K [1, 0, 0] (T.set (entry 0 [x, .fn G C]) 4 (.nu .i64 0)) h .normal s1 h ∧ s1.at 0 = x ∧ s1.at 1 = .fn G C ∧ s1.at 7 = .nu .i64 (.ofNat a.length) ∧ s1.at 8 = .nu .i64 (.ofNat 0) ∧ s1.at ah = .undef := ⟨_, L6 H.hk rfl hlen, rfl, rfl, rfl, rfl, rfl⟩
 have L := bS (K := K) (f := 140) (n := 19) (c := aG [1, 0, 1, 0, 0] (aq Tryz.f140)) (s := s1) (h := h) (m := a.length) (b := 0) (I := fun i s g => g = h ∧ s.at 0 = x ∧ s.at 1 = .fn G C ∧ s.at 7 = .nu .i64 (.ofNat a.length) ∧ s.at 8 = .nu .i64 (.ofNat i) ∧ s.at ah = .undef ∧ (a.take i).any p = false)
  (E := fun s g => g = h ∧ s.at ah = .undef ∧ a.any p = false) (R := fun s g => g = h ∧ s.at ah = .undef ∧ a.any p = true ∧ ∃ j : Nat, s.at 4 = .nu .i64 (.ofNat j)) ⟨rfl, k0, k1, k7, k8, ks, rfl⟩
  (fun i s g hi ⟨e, g0, g1, g7, g8, gs, hall⟩ => by
    subst e
    obtain ⟨q, hp1, hp2⟩ := jq H ha hi
    have hin := hg a[i] (List.getElem_mem hi)
    cases hq : p a[i] with
    | false =>
     rw [hq] at hin
     exact .inl ⟨_, _, u9 H.hk H.prim PB g8 g7 g1 g0 (aJ hi) hp1 hp2 rfl hin (bh (by omega)), rfl, g0, g1, g7, rfl, gs, iE hi hall hq⟩
    | true =>
     rw [hq] at hin
     exact .inr (.inl ⟨_, _, uZ H.hk H.prim PB g8 g7 g1 g0 (aJ hi) hp1 hp2 rfl hin, rfl, gs, jZ hi hq, i, rfl⟩))
  (fun s g ⟨e, g0, g1, g7, g8, gs, hall⟩ => by
    subst e
    exact ⟨_, _, wU H.hk H.prim PB g8 g7 (aS (Nat.le_refl _)), rfl, gs, by rw [List.take_length] at hall; exact hall⟩)
 rcases L with ⟨s', h', r, rfl, hs, hv⟩ | ⟨s', h', r, rfl, hs, hv, j, hj⟩
 · rw [hv]
   exact ⟨-1, H.go hf (Runs.seq (BJ H.hk) (Runs.seq (Runs.seq r1 r) (Iq H.hk H.prim PB))) (.inr rfl) (Nat.le_refl _) hs rfl rfl, rfl⟩
 · rw [hv]
   exact ⟨.ofNat j, H.go hf (Runs.seq (BJ H.hk) (ax (Runs.seq r1 r) (by simp))) (.inr rfl) (Nat.le_refl _) hs (by show some [Fr.at s' 4] = _; rw [hj]) rfl, hD (by simp)⟩
theorem Aa {α : Type} (p : α → Bool) (l : List α) : (!(l.any fun v => !(p v))) = l.all p := by
 induction l with
 | nil => rfl
 | cons a l ih => rw [List.any_cons, List.all_cons, Bool.not_or, Bool.not_not, ih]
theorem IF (H : Std K) (PB : cz K) (ok : HpOk h) {a b : List Int} (hab : a.length < 4611686018427387904) (hbb : b.length < 4611686018427387904) {x y : CV} (ha : Row h x (ao a)) (hb : Row h y (ao b)) : jz K 68 [x, y] h fun r _ => r = .bo (fN a b) := by
 have hf : K.P.funcs[68]? = some Tryz.f68 := by rw [H.hP]; exact Tryz.func68
 have hf2 : K.P.funcs[111]? = some Tryz.f111 := by rw [H.hP]; exact Tryz.func111
 obtain ⟨F, B, b1, bx⟩ := Mf (h := h) (t := 46) ha.one (rm H)
 have S1 : Same h.n h (h.push B) := Same.push (Nat.le_refl _) _
 have hz := ha.mono S1 ok (Nat.le_refl _)
 obtain ⟨n, c, hn⟩ := C5 H PB (G := 112) (C := [F h.n]) (p := fun v => !(dW a v)) hbb (hb.mono S1 ok (Nat.le_refl _)) (fun v _ => y8 H PB hab bx hz)
 have o8 := pv (P := K.P) (t := 3) n 0
 rw [hn] at o8
 have c111 : Comes K 111 [y, .fn 112 [F h.n]] (h.push B) (.bo (b.any fun v => !(dW a v))) (h.push B) := cR hf2 rfl (H.memo 111 (by decide)) (H.spec 111) rfl (P7 H.hk H.prim PB (s := entry 0 [y, .fn 112 [F h.n]]) rfl rfl c o8) (.inr rfl) (Nat.le_refl _) rfl rfl rfl
 refine ⟨_, _, H.go hf (QY H.hk H.prim PB (s := entry 0 [x, y]) rfl rfl b1 c111 rfl) (.inr rfl) S1.n rfl rfl rfl, S1, ok.push _, ?_⟩
 show CV.bo (!(b.any fun v => !(dW a v))) = _
 rw [Aa, fN]
theorem Rc (H : Std K) : ar K.P 3 = some (1, false) := by rw [H.hP]; exact z3
def Fails (K : Ctx) (f : FuncId) (args : List CV) (h : Hp) (e : Int) : Prop := jz K f args h fun r _ => r = .tup [.nils, .nu .i64 e]
def C6 (K : Ctx) (f : FuncId) (args : List CV) (h : Hp) (e : Int) (l : List (List Int)) : Prop := jz K f args h fun r h' => ∃ o ds, r = .tup [o, .nu .i64 e] ∧ Own h.n h' 46 o ds (if e = 0 then l else [])
theorem Fails.e {f : FuncId} {args : List CV} {h : Hp} {e : Int} {l : List (List Int)} (he : e ≠ 0) (k : Fails K f args h e) : C6 K f args h e l := by
 obtain ⟨r, h', c, S, ok, hr⟩ := k
 exact ⟨r, h', c, S, ok, .nils, [], hr, by rw [if_neg he]; exact Own.nil⟩
end
def pD (s t : List Int) : Bool := decide (t.length = s.length + 1) && fN t s
def eC (l : List (List Int)) (s : List Int) : Bool := !(l.any (pD s))
section
variable {K : Ctx} {h : Hp}
theorem Mj (H : Std K) (PB : cz K) (ok : HpOk h) {l : List (List Int)} (hl : hK l) {x : CV} {cs : List CV} (hx : Row h x cs) (hxs : Rows h cs l) : C6 K 24 [x] h (bI l) (l.filter (eC l)) := by
 have hf : K.P.funcs[24]? = some Tryz.f24 := by rw [H.hP]; exact Tryz.func24
 have hcl := hxs.length
 have hll := hl.len
 obtain ⟨rv, h1, c26, S1, bP, rfl⟩ := C4 H ok hl hx hxs
 by_cases he : bI l = 0
 case neg =>
  refine Fails.e he ⟨_, h1, H.go hf (Runs.seq (FS H.hk) (Runs.scope (ax (Runs.seq (FT H.hk rfl (H.prim _ _) c26) (Runs.seq (FU H.hk rfl (jt he)) (Runs.condT (o := .tmp 13) rfl (Runs.seq (PJ H.hk rfl) Runs.ret)))) (by simp)) (by simp))) (.inr rfl) S1.n rfl rfl rfl, S1, bP, rfl⟩
 have hC := ru he
 have hx1 := hx.mono S1 ok (Nat.le_refl _)
 have hxs1 := hxs.mono S1 ok (Nat.le_refl _)
 have hlen := fd H hx1
 rw [hcl] at hlen
 have hsm : ∀ i (hi : i < l.length), l[i].length < 4611686018427387904 := fun i hi => by have := hl.each l[i] (List.getElem_mem hi); omega
 obtain ⟨sa, ra, a0, as'⟩ : ∃ s1, eS K [1, 0, 0] (T.set (T.set (entry 0 [x]) 2 .nils) 3 (.nu .i64 0)) h .normal s1 h1 ∧ s1.at 0 = x ∧ s1.at ah = .undef :=
  ⟨_, Runs.seq (FT H.hk rfl (H.prim _ _) c26) (Runs.seq (FU H.hk rfl (mb he)) (Runs.condF (o := .tmp 13) rfl Runs.skip)), rfl, rfl⟩
 obtain ⟨sb, rb, b0, b5, b15, b16, b17, bs'⟩ : ∃ s1, eS K [1, 0, 1, 1, 1, 0, 0] (T.set sa 5 .nils) h1 .normal s1 h1 ∧ s1.at 0 = x ∧ s1.at 5 = .nils ∧ s1.at 15 = x ∧ s1.at 16 = .nu .i64 (.ofNat l.length) ∧ s1.at 17 = .nu .i64 (.ofNat 0) ∧ s1.at ah = .undef := ⟨_, PL H.hk a0 hlen, a0, rfl, rfl, rfl, rfl, as'⟩
 obtain ⟨s', h', r, ok', S, hs, ds, hO⟩ := cV (K := K) (f := 24) (n := 46) (c := aG [1, 0, 1, 1, 1, 0, 1, 0, 0] (aq Tryz.f24)) (s := sb) (h := h1) (m := l.length) (b := 0)
  (I := fun i s g => HpOk g ∧ Same h.n h g ∧ s.at 0 = x ∧ s.at 15 = x ∧ s.at 16 = .nu .i64 (.ofNat l.length) ∧ s.at 17 = .nu .i64 (.ofNat i) ∧ s.at ah = .undef ∧ ∃ ds, Own h.n g 46 (s.at 5) ds ((l.take i).filter (eC l)))
  (E := fun s g => HpOk g ∧ Same h.n h g ∧ s.at ah = .undef ∧ ∃ ds, Own h.n g 46 (s.at 5) ds (l.filter (eC l))) ⟨bP, S1, b0, b15, b16, b17, bs', [], by rw [b5]; exact Own.nil⟩
  (fun i s g hi ⟨okg, S, g0, g15, g16, g17, gs, ds, hO⟩ => by
    have hr := hx.mono S ok (Nat.le_refl _)
    have hrs := hxs.mono S ok (Nat.le_refl _)
    have hlg := fd H hr
    rw [hcl] at hlg
    obtain ⟨p, hp1, hp2⟩ := jp H hr (i := i) (by omega)
    have hxi := hrs.get (i := i) (by omega) hi
    obtain ⟨s1, r1, j0, j5, j15, j16, j17, j18, js⟩ : ∃ s1, eS K [1, 0, 1, 1, 1, 0, 1, 0, 0, 0] s g .normal s1 g ∧ s1.at 0 = x ∧ s1.at 5 = s.at 5 ∧ s1.at 15 = x ∧ s1.at 16 = .nu .i64 (.ofNat l.length) ∧ s1.at 17 = .nu .i64 (.ofNat i) ∧ s1.at 18 = .bo true ∧ s1.at ah = .undef := ⟨_, FV H.hk g17 g16 (aJ hi), g0, rfl, g15, g16, g17, rfl, gs⟩
    obtain ⟨s2, r2, k0, k5, k7, k15, k16, k17, ks⟩ : ∃ s2, eS K [1, 0, 1, 1, 1, 0, 1, 0, 0, 1, 1, 0, 0, 0] s1 g .normal s2 g ∧ s2.at 0 = x ∧ s2.at 5 = s.at 5 ∧ s2.at 7 = cs[i] ∧ s2.at 15 = x ∧ s2.at 16 = .nu .i64 (.ofNat l.length) ∧ s2.at 17 = .nu .i64 (.ofNat i) ∧ s2.at ah = .undef :=
     ⟨_, PM H.hk j15 j17 hp1 hp2, j0, j5, rfl, j15, j16, j17, js⟩
    obtain ⟨s3, r3, l0, l5, l7, l15, l16, l17, l21, l22, l23, ls⟩ : ∃ s3, eS K [1, 0, 1, 1, 1, 0, 1, 0, 0, 1, 1, 0, 0, 1, 0, 0] s2 g .normal s3 g ∧ s3.at 0 = x ∧ s3.at 5 = s.at 5 ∧ s3.at 7 = cs[i] ∧ s3.at 15 = x ∧ s3.at 16 = .nu .i64 (.ofNat l.length) ∧ s3.at 17 = .nu .i64 (.ofNat i) ∧ s3.at 21 = x ∧ s3.at 22 = .nu .i64 (.ofNat l.length) ∧ s3.at 23 = .nu .i64 (.ofNat 0) ∧ s3.at ah = .undef :=
     ⟨_, PN H.hk k0 hlg, k0, k5, k7, k15, k16, k17, rfl, rfl, rfl, ks⟩
    have L := Cn (K := K) (f := 24) (n := 46) (c := aG [1, 0, 1, 1, 1, 0, 1, 0, 0, 1, 1, 0, 0, 1, 0, 1, 0, 0] (aq Tryz.f24)) (s := s3) (h := g) (m := l.length) (b := 2) (j := 1) rfl
     (I := fun k t q => HpOk q ∧ Same g.n g q ∧ t.at 0 = x ∧ t.at 5 = s.at 5 ∧ t.at 7 = cs[i] ∧ t.at 15 = x ∧ t.at 16 = .nu .i64 (.ofNat l.length) ∧ t.at 17 = .nu .i64 (.ofNat i) ∧ t.at 21 = x ∧ t.at 22 = .nu .i64 (.ofNat l.length) ∧ t.at 23 = .nu .i64 (.ofNat k) ∧ t.at ah = .undef ∧ (l.take k).any (pD l[i]) = false)
     (E := fun t q => HpOk q ∧ Same g.n g q ∧ t.at 0 = x ∧ t.at 5 = s.at 5 ∧ t.at 7 = cs[i] ∧ t.at 15 = x ∧ t.at 16 = .nu .i64 (.ofNat l.length) ∧ t.at 17 = .nu .i64 (.ofNat i) ∧ t.at ah = .undef ∧ l.any (pD l[i]) = false)
     (R := fun t q => HpOk q ∧ Same g.n g q ∧ t.at 0 = x ∧ t.at 5 = s.at 5 ∧ t.at 15 = x ∧ t.at 16 = .nu .i64 (.ofNat l.length) ∧ t.at 17 = .nu .i64 (.ofNat i) ∧ t.at ah = .undef ∧ l.any (pD l[i]) = true)
     ⟨okg, Same.refl _ _, l0, l5, l7, l15, l16, l17, l21, l22, l23, ls, rfl⟩
     (fun k t q hk ⟨okq, Sq, t0, t5, t7, t15, t16, t17, t21, t22', t23, ts, hall⟩ => by
       have S' := S.trans (Sq.le S.n)
       have hr := hx.mono S' ok (Nat.le_refl _)
       have hrs := hxs.mono S' ok (Nat.le_refl _)
       obtain ⟨q1, hq1, hq2⟩ := jp H hr (i := k) (by omega)
       have hrk := hrs.get (i := k) (by omega) hk
       have hri := hrs.get (i := i) (by omega) hi
       have hlk := dJ H hrk
       have hli := dJ H hri
       rw [aB] at hlk hli
       have hki := hsm k hk
       have hii := hsm i hi
       obtain ⟨s4, r4, m0, m5, m7, m15, m16, m17, m21, m22, m23, m24, ms⟩ : ∃ s4, eS K [1, 0, 1, 1, 1, 0, 1, 0, 0, 1, 1, 0, 0, 1, 0, 1, 0, 0, 0] t q .normal s4 q ∧ s4.at 0 = x ∧ s4.at 5 = s.at 5 ∧ s4.at 7 = cs[i] ∧ s4.at 15 = x ∧ s4.at 16 = .nu .i64 (.ofNat l.length) ∧ s4.at 17 = .nu .i64 (.ofNat i) ∧ s4.at 21 = x ∧ s4.at 22 = .nu .i64 (.ofNat l.length) ∧ s4.at 23 = .nu .i64 (.ofNat k) ∧ s4.at 24 = .bo true ∧ s4.at ah = .undef :=
        ⟨_, FW H.hk t23 t22' (aJ hk), t0, t5, t7, t15, t16, t17, t21, t22', t23, rfl, ts⟩
       obtain ⟨s5, r5, n0, n5, n7, n9, n15, n16, n17, n21, n22, n23, ns⟩ : ∃ s5, eS K [1, 0, 1, 1, 1, 0, 1, 0, 0, 1, 1, 0, 0, 1, 0, 1, 0, 0, 1, 1, 0, 0, 0] s4 q .normal s5 q ∧ s5.at 0 = x ∧ s5.at 5 = s.at 5 ∧ s5.at 7 = cs[i] ∧ s5.at 9 = cs[k] ∧ s5.at 15 = x ∧ s5.at 16 = .nu .i64 (.ofNat l.length) ∧ s5.at 17 = .nu .i64 (.ofNat i) ∧ s5.at 21 = x ∧ s5.at 22 = .nu .i64 (.ofNat l.length) ∧ s5.at 23 = .nu .i64 (.ofNat k) ∧ s5.at ah = .undef :=
        ⟨_, LM H.hk m21 m23 hq1 hq2, m0, m5, m7, rfl, m15, m16, m17, m21, m22, m23, ms⟩
       by_cases hlen1 : l[k].length = l[i].length + 1
       · obtain ⟨rv, q2, c68, S2, bk, rfl⟩ := IF H PB okq (a := l[k]) (b := l[i]) hki hii hrk hri
         obtain ⟨s6, r6, u0, u5, u7, u15, u16, u17, u21, u22, u23, u37, us⟩ : ∃ s6, eS K [1, 0, 1, 1, 1, 0, 1, 0, 0, 1, 1, 0, 0, 1, 0, 1, 0, 0, 1, 1, 0, 0, 1, 0] s5 q .normal s6 q2 ∧ s6.at 0 = x ∧ s6.at 5 = s.at 5 ∧ s6.at 7 = cs[i] ∧ s6.at 15 = x ∧ s6.at 16 = .nu .i64 (.ofNat l.length) ∧ s6.at 17 = .nu .i64 (.ofNat i) ∧ s6.at 21 = x ∧ s6.at 22 = .nu .i64 (.ofNat l.length) ∧ s6.at 23 = .nu .i64 (.ofNat k) ∧ s6.at 37 = .bo (fN l[k] l[i]) ∧ s6.at ah = .undef :=
          ⟨_, FX H.hk n9 n7 hlk hli (bh (by omega)) (rp (by rw [hlen1])) (H.prim _ _) c68 rfl, n0, n5, n7, n15, n16, n17, n21, n22, n23, rfl, ns⟩
         cases hq : fN l[k] l[i] with
         | true =>
          rw [hq] at u37
          exact .inr (.inl ⟨_, _, Runs.seq r4 (Runs.seq (Runs.condT (o := .tmp 24) m24 Runs.skip) (ax (lU (Runs.seq r5 (Runs.seq r6 (Runs.condT (o := .tmp 37) u37 Runs.exit))) rfl) (by simp))), bk, Sq.trans (S2.le Sq.n), u0, u5, u15, u16, u17, us, jZ hk (by simp [pD, hlen1, hq])⟩)
         | false =>
          rw [hq] at u37
          exact .inl ⟨_, _, Runs.seq r4 (Runs.seq (Runs.condT (o := .tmp 24) m24 Runs.skip) (Runs.seq (au (Runs.seq r5 (Runs.seq r6 (Runs.condF (o := .tmp 37) u37 Runs.skip)))) (Bx H.hk u23 (bh (by omega))))), bk, Sq.trans (S2.le Sq.n), u0, u5, u7, u15, u16, u17, u21, u22, rfl, us, iE hk hall (by simp [pD, hq])⟩
       · obtain ⟨s6, r6, u0, u5, u7, u15, u16, u17, u21, u22, u23, u37, us⟩ : ∃ s6, eS K [1, 0, 1, 1, 1, 0, 1, 0, 0, 1, 1, 0, 0, 1, 0, 1, 0, 0, 1, 1, 0, 0, 1, 0] s5 q .normal s6 q ∧ s6.at 0 = x ∧ s6.at 5 = s.at 5 ∧ s6.at 7 = cs[i] ∧ s6.at 15 = x ∧ s6.at 16 = .nu .i64 (.ofNat l.length) ∧ s6.at 17 = .nu .i64 (.ofNat i) ∧ s6.at 21 = x ∧ s6.at 22 = .nu .i64 (.ofNat l.length) ∧ s6.at 23 = .nu .i64 (.ofNat k) ∧ s6.at 37 = .bo false ∧ s6.at ah = .undef :=
          ⟨_, FY H.hk n9 n7 hlk hli (bh (by omega)) (iC (nI hlen1)) rfl, n0, n5, n7, n15, n16, n17, n21, n22, n23, rfl, ns⟩
         exact .inl ⟨_, _, Runs.seq r4 (Runs.seq (Runs.condT (o := .tmp 24) m24 Runs.skip) (Runs.seq (au (Runs.seq r5 (Runs.seq r6 (Runs.condF (o := .tmp 37) u37 Runs.skip)))) (Bx H.hk u23 (bh (by omega))))), okq, Sq, u0, u5, u7, u15, u16, u17, u21, u22, rfl, us, iE hk hall (by simp [pD, hlen1])⟩)
     (fun t q ⟨okq, Sq, t0, t5, t7, t15, t16, t17, t21, t22', t23, ts, hall⟩ =>
       ⟨_, _, Runs.seq (FW H.hk t23 t22' (aS (Nat.le_refl _))) (ax (Runs.condF (o := .tmp 24) rfl Runs.exit) (by simp)), okq, Sq, t0, t5, t7, t15, t16, t17, ts, by rw [List.take_length] at hall; exact hall⟩)
    rcases L with ⟨s6, q, r6, okq, Sq, t0, t5, t7, t15, t16, t17, ts, hv⟩ | ⟨s6, q, r6, okq, Sq, t0, t5, t15, t16, t17, ts, hv⟩
    · have S' := S.trans (Sq.le S.n)
      have okS := hC.simp _ (List.getElem_mem hi)
      obtain ⟨y, h2, c69, S2, bk, o2⟩ := vX H okq okS.ne (by have := okS.le; omega) ((hxs.get (i := i) (by omega) hi).mono S' ok (Nat.le_refl _))
      have hO1 := hO.mono Sq okg
      have hol := hO.rows.length
      have hfl := gC (eC l) l i
      obtain ⟨F, B, x', h3, b1, b2, b3, b4, b5⟩ := Own.app (P := K.P) (t := 22) (by rw [H.hP]; exact t22) bk (S'.trans (S2.le S'.n)).n (hO1.mono S2 okq) (Row.off hO1.out (Nat.le_refl _) o2) (by decide) (by omega)
      exact ⟨_, _, Runs.seq r1 (Runs.seq (Runs.condT (o := .tmp 18) j18 Runs.skip) (Runs.seq (au (Runs.seq r2 (Runs.seq (Runs.seq r3 r6) (LN H.hk t5 t7 (H.prim _ _) c69 b1 b2)))) (By H.hk t17 (bh (by omega))))), b5, (S'.trans (S2.le S'.n)).trans b4, t0, t15, t16, rfl, ts, _, by rw [rq hi (by simp [eC, hv])]; exact b3⟩
    · exact ⟨_, _, Runs.seq r1 (Runs.seq (Runs.condT (o := .tmp 18) j18 Runs.skip) (Runs.seq (aO (Runs.seq r2 (ax (Runs.seq r3 r6) (by simp)))) (By H.hk t17 (bh (by omega))))), okq, S.trans (Sq.le S.n), t0, t15, t16, rfl, ts, ds, by rw [rr hi (by simp [eC, hv])]; have hO2 := hO.mono Sq okg; rw [← t5] at hO2; exact hO2⟩)
  (fun s g ⟨okg, S, g0, g15, g16, g17, gs, ds, hO⟩ => by
    exact ⟨_, _, Runs.seq (FV H.hk g17 g16 (aS (Nat.le_refl _))) (ax (Runs.condF (o := .tmp 18) rfl Runs.exit) (by simp)), okg, S, gs, ds, by rw [List.take_length] at hO; exact hO⟩)
 refine ⟨_, h', H.go hf (Runs.seq (FS H.hk) (Runs.scope (Runs.seq ra (Runs.seq (PK H.hk) (Runs.seq Runs.label (Runs.seq (Runs.seq rb r) (Runs.seq (LO H.hk rfl) Runs.ret))))) (by simp))) (.inr rfl) S.n hs rfl rfl, S, ok', _, ds, by rw [he]; rfl, by rw [if_pos he]; exact hO⟩
end
theorem OkC.srt {l : List (List Int)} (h : OkC l) : Srt l := by
 have h1 : ∀ i (hi : i + 1 < l.length), LtS l[i] l[i + 1] := fun i hi => by
  have := h.asc i hi
  show a8 l[i] l[i + 1] = -1
  rw [wb, this]
 show l.Pairwise LtS
 rw [List.pairwise_iff_getElem]
 intro i j hi hj hij
 obtain ⟨d, rfl⟩ : ∃ d, j = i + 1 + d := ⟨j - (i + 1), by omega⟩
 clear hij
 induction d with
 | zero => exact h1 i hj
 | succ d ih => exact (ih (by omega)).trans (h1 (i + 1 + d) (by omega))
theorem Srt.nodup {l : List (List Int)} (h : Srt l) : l.Nodup := h.imp fun {a b} h e => by
 subst e
 unfold LtS at h
 rw [(fL a a).2 rfl] at h
 exact absurd h (by decide)
theorem rz {a b : List Int} : fN a b = true ↔ ∀ v ∈ b, v ∈ a := by
 unfold fN
 rw [List.all_eq_true]
 exact ⟨fun h v hv => (vj a v).1 (h v hv), fun h v hv => (vj a v).2 (h v hv)⟩
theorem IG {a b : List Int} (ha : OkS a) (hb : OkS b) : fN a b = true ↔ b.Sublist a := by
 rw [rz]
 exact ⟨fun h => gm hb.asc ha.asc h, fun h v hv => h.subset hv⟩
theorem OkC.mid {l : List (List Int)} (h : OkC l) {a : List Int} (ha : OkS a) : ∀ (n : Nat) (t : List Int), t.length = a.length + 1 + n → t ∈ l → a.Sublist t → ∃ t' ∈ l, t'.length = a.length + 1 ∧ a.Sublist t' := by
 intro n
 induction n with
 | zero => intro t hl ht hs; exact ⟨t, ht, hl, hs⟩
 | succ n ih =>
  intro t hl ht hs
  have okt := h.simp t ht
  have hex : ∃ k, ∃ hk : k < t.length, t[k] ∉ a := by
   apply Classical.byContradiction
   intro hno
   have hall : ∀ v ∈ t, v ∈ a := fun v hv => by
    obtain ⟨k, hk, rfl⟩ := List.getElem_of_mem hv
    exact Classical.byContradiction fun hn => hno ⟨k, hk, hn⟩
   have := (gm okt.asc ha.asc hall).length_le
   omega
  obtain ⟨k, hk, hka⟩ := hex
  have hf : t.eraseIdx k ∈ bg t := by
   unfold bg
   rw [if_neg (by omega)]
   exact List.mem_map.2 ⟨k, List.mem_range.2 hk, rfl⟩
  have hfl := h.face t ht _ hf
  have hlen : (t.eraseIdx k).length = a.length + 1 + n := by rw [List.length_eraseIdx_of_lt hk]; omega
  refine ih _ hlen hfl (gm ha.asc (h.simp _ hfl).asc fun v hv => ?_)
  have hvt := hs.subset hv
  obtain ⟨j, hj, rfl⟩ := List.getElem_of_mem hvt
  have hjk : j ≠ k := fun e => by subst e; exact hka hv
  rw [List.mem_eraseIdx_iff_getElem]
  exact ⟨j, hj, hjk, rfl⟩
theorem Ql {α : Type} {l : List α} {a b : α} (ha : a ∈ l) (hb : b ∈ l) (hne : a ≠ b) : 2 ≤ l.length := by
 match l, ha, hb with
 | [], ha, _ => simp at ha
 | [x], ha, hb => exact absurd ((List.mem_singleton.1 ha).trans (List.mem_singleton.1 hb).symm) hne
 | x :: y :: r, _, _ => simp
theorem II {l : List (List Int)} (h : OkC l) {a : List Int} (ha : a ∈ l) : eC l a = decide ((fZ l a).length = 1) := by
 have oka := h.simp a ha
 have haa : a ∈ fZ l a := List.mem_filter.2 ⟨ha, rz.2 fun v hv => hv⟩
 have hnd : (fZ l a).Nodup := h.srt.nodup.filter _
 cases hm : l.any (pD a) with
 | true =>
  obtain ⟨t, ht, hu⟩ := List.any_eq_true.1 hm
  unfold pD at hu
  rw [Bool.and_eq_true, decide_eq_true_iff] at hu
  have htc : t ∈ fZ l a := List.mem_filter.2 ⟨ht, hu.2⟩
  have := Ql haa htc (fun e => by rw [← e] at hu; omega)
  simp only [eC, hm, Bool.not_true]
  exact (decide_eq_false (by omega)).symm
 | false =>
  simp only [eC, hm, Bool.not_false]
  refine (decide_eq_true ?_).symm
  have hpos : 1 ≤ (fZ l a).length := List.length_pos_of_mem haa
  apply Classical.byContradiction
  intro hne
  have hex : ∃ t ∈ fZ l a, t ≠ a := by
   apply Classical.byContradiction
   intro hno
   have hall : ∀ t ∈ fZ l a, t = a := fun t ht => Classical.byContradiction fun hn => hno ⟨t, ht, hn⟩
   match hc : fZ l a, hall, hnd with
   | [], _, _ => rw [hc] at hpos; simp at hpos
   | [x], _, _ => rw [hc] at hne; exact hne rfl
   | x :: y :: r, hall, hnd =>
    have h1 := hall x List.mem_cons_self
    have h2 := hall y (List.mem_cons_of_mem _ List.mem_cons_self)
    rw [h1, h2] at hnd
    exact (List.nodup_cons.1 hnd).1 List.mem_cons_self
  obtain ⟨t, htc, hta⟩ := hex
  obtain ⟨ht, hh⟩ := List.mem_filter.1 htc
  have okt := h.simp t ht
  have hs : a.Sublist t := (IG okt oka).1 hh
  have hlt : a.length < t.length := by
   rcases Nat.lt_or_ge a.length t.length with hlt | hge
   · exact hlt
   · exact absurd (hs.eq_of_length_le hge).symm hta
  obtain ⟨t', ht', hl', hs'⟩ := h.mid oka (t.length - (a.length + 1)) t (by omega) ht hs
  have : l.any (pD a) = true := List.any_eq_true.2 ⟨t', ht', by unfold pD; rw [Bool.and_eq_true, decide_eq_true_iff]; exact ⟨hl', rz.2 fun v hv => hs'.subset hv⟩⟩
  rw [hm] at this; cases this
theorem wY {α : Type} {p q : α → Bool} {l : List α} (h : ∀ a ∈ l, p a = q a) : l.filter p = l.filter q := List.filter_congr h
theorem Qm {l : List (List Int)} (h : OkC l) : l.filter (eC l) = l.filter fun a => decide ((fZ l a).length = 1) := wY fun a ha => II h ha
def Val (h : Hp) (x : CV) (l : List (List Int)) : Prop := ∃ cs, Row h x cs ∧ Rows h cs l
section
variable {K : Ctx} {h : Hp}
theorem Val.mono {h h' : Hp} (S : Same h.n h h') (ok : HpOk h) {x : CV} {l : List (List Int)} (v : Val h x l) : Val h' x l := by
 obtain ⟨cs, a, b⟩ := v
 exact ⟨cs, a.mono S ok (Nat.le_refl _), b.mono S ok (Nat.le_refl _)⟩
theorem Own.val {N : Nat} {el : Nat} {x : CV} {cs : List CV} {l : List (List Int)} (o : Own N h el x cs l) : Val h x l := ⟨cs, o.out.row, o.all⟩
theorem Sel.val {h h' : Hp} (S : Same h.n h h') (ok : HpOk h) {x : CV} {l : List (List Int)} (s : Sel h h' x l) : Val h' x l := by
 obtain ⟨cs, o, r⟩ := s
 exact ⟨cs, o.row, r.mono S ok (Nat.le_refl _)⟩
theorem IJ (H : Std K) (PB : cz K) {l m : List (List Int)} (hl : hK l) {x y : CV} (hx : Val h x l) (hy : Val h y m) (he : l = m) : Comes K 23 [x, y] h (.bo true) h := by
 obtain ⟨cs, a, b⟩ := hx
 obtain ⟨ds, c, d⟩ := hy
 have := C3 H PB (by have := hl.len; omega) (fun a ha => by have := hl.each a ha; omega) a b c d
 rwa [GA.2 he] at this
end
theorem Qn : ae Tryz.prog 28 = .slice 22 1 24 [.nils] := by kernel_rfl
section
variable {K : Ctx} {h : Hp}
theorem Q3 (H : Std K) {x : CV} {cs : List CV} (r : Row h x cs) : aj h x (ae K.P 28) = some (.nu .i64 (.ofNat cs.length)) := by rw [H.hP, Qn]; exact r.len
theorem Rv (H : Std K) {x : CV} {xs : List CV} (r : Row h x xs) {i : Nat} (hi : i < xs.length) : ∃ p, af x (.nu .i64 (.ofNat i)) (ae K.P 28) = some p ∧ al h p (ar K.P 22) = some xs[i] := by
 obtain ⟨k, o, h1, h2⟩ := r.at (i := i) hi (e := 22) (b := 24) (z := [.nils])
 exact ⟨_, by rw [H.hP, Qn]; exact h1, by rw [Iz H, h2]⟩
theorem Mk {l : List (List Int)} {n : Int} (h : tl l n = false) : Int.ofNat l.length ≤ n ∧ ∀ a ∈ l, a.length ≤ 12 := by
 unfold tl at h
 rw [Bool.or_eq_false_iff, decide_eq_false_iff_not, List.any_eq_false] at h
 exact ⟨by omega, fun a ha => by have := h.2 a ha; simpa using this⟩
theorem Cx.sml {l : List (List Int)} (h : Cx l) : hK l := ⟨by have := h.le; omega, fun a ha => by have := (h.ok a ha).le; omega⟩
end
end Go.CP
