import Derived.Test.YtadagifjonbmjaaGreatDoorKl3
import Derived.Test.YtadagifjonbmjaaGreatDoorKw1
import Derived.Test.YtadagifjonbmjaaGreatDoorKl2
set_option linter.all false
/- Complex: complex.Check at any lists. -/
namespace Go.CP
open Go.Proofs
variable [LG] [HK]
def unpad (cs : List CV) : List Int := cs.filterMap fun c => match c with
  | .nu _ n => if 0 < n then some (n - 1) else none
  | _ => none
theorem unpad_pad {a : List Int} (h : ∀ v ∈ a, 0 ≤ v) : unpad (padI a) = a := by
  unfold unpad padI
  rw [List.filterMap_append]
  have h2 : List.filterMap (fun c => match c with
      | CV.nu _ n => if 0 < n then some (n - 1) else none
      | _ => none) (List.replicate (5 - a.length) (CV.nu .i64 0)) = [] := by
    rw [List.filterMap_eq_nil_iff]
    intro c hc
    rw [(List.mem_replicate.1 hc).2]; rfl
  rw [h2, List.append_nil]
  induction a with
  | nil => rfl
  | cons v a ih =>
    have hv := h v List.mem_cons_self
    simp only [Ints, List.map_cons, List.filterMap_cons, if_pos (show 0 < v + 1 by omega)]
    have := ih (fun w hw => h w (List.mem_cons_of_mem _ hw)) (by rw [List.filterMap_eq_nil_iff]; intro c hc; rw [(List.mem_replicate.1 hc).2]; rfl)
    simp only [Ints] at this
    rw [this]
    congr 1; omega
theorem pad_inj {a b : List Int} (ha : OkS a) (hb : OkS b) (h : kcmp (.agg (padI a)) (.agg (padI b)) = some true) : a = b := by
  have h1 : padI a = padI b := feqL_eq h
  rw [← unpad_pad (fun v hv => (ha.rng v hv).1), h1, unpad_pad (fun v hv => (hb.rng v hv).1)]
theorem updM_miss {key v key' : CV} (hk : NumK key) (hk' : NumK key') (hne : kcmp key' key ≠ some true) : ∀ {es es' : List (CV × CV)}, (∀ e ∈ es, NumK e.1) → updM key v es = some es' → lookM key' es = some none → lookM key' es' = some none
  | [], es', _, h, _ => by
    cases h
    obtain ⟨b, hb⟩ := kcmp_tot hk' hk
    cases b with
    | true => exact absurd hb hne
    | false => simp only [lookM, hb]
  | (k, u) :: es, es', hn, h, hl => by
    have hku := hn (k, u) List.mem_cons_self
    obtain ⟨b', hb'⟩ := kcmp_tot hk' hku
    cases b' with
    | true => simp only [lookM, hb'] at hl; cases hl
    | false =>
      simp only [lookM, hb'] at hl
      obtain ⟨b, hb⟩ := kcmp_tot hk hku
      cases b with
      | true =>
        simp only [updM, hb] at h
        cases h
        simp only [lookM, hb', hl]
      | false =>
        simp only [updM, hb] at h
        split at h
        · rename_i es2 he
          cases h
          simp only [lookM, hb']
          exact updM_miss hk hk' hne (fun e he => hn e (List.mem_cons_of_mem _ he)) he hl
        · cases h
structure MapOf (es : List (CV × CV)) (l : List (List Int)) : Prop where
  num : ∀ e ∈ es, NumK e.1
  yes : ∀ a, OkS a → a ∈ l → HasK es a
  no : ∀ a, OkS a → a ∉ l → lookM (.agg (padI a)) es = some none
theorem MapOf.put {es es' : List (CV × CV)} {l : List (List Int)} {a : List Int} {k o n c : Nat} (M : MapOf es l) (ha : OkS a) (hu : updM (.agg (padI a)) (.sl k o n c) es = some es') : MapOf es' (l ++ [a]) := by
  obtain ⟨es2, u1, u2, u3, u4⟩ := updM_ok (v := .sl k o n c) (numK_pad ha.le) es M.num
  rw [hu] at u1; cases u1
  refine ⟨u2, fun b hb hm => ?_, fun b hb hm => ?_⟩
  · by_cases he : b = a
    · subst he; exact ⟨_, _, _, _, u3⟩
    · have hm' : b ∈ l := by
        rcases List.mem_append.1 hm with hm | hm
        · exact hm
        · exact absurd (List.mem_singleton.1 hm) he
      obtain ⟨k', o', n', c', hl⟩ := M.yes b hb hm'
      rcases u4 _ _ (numK_pad hb.le) hl with h3 | h3
      · exact ⟨_, _, _, _, h3⟩
      · exact ⟨_, _, _, _, h3⟩
  · have hm' : b ∉ l ∧ b ≠ a := ⟨fun h => hm (List.mem_append_left _ h), fun h => hm (by rw [h]; exact List.mem_append_right _ (List.mem_singleton.2 rfl))⟩
    exact updM_miss (numK_pad ha.le) (numK_pad hb.le) (fun h => hm'.2 (pad_inj hb ha h)) M.num hu (M.no b hb hm'.1)
theorem MapOf.skip {es : List (CV × CV)} {l : List (List Int)} {a : List Int} (M : MapOf es l) (ha : ¬ OkS a) : MapOf es (l ++ [a]) := by
  refine ⟨M.num, fun b hb hm => ?_, fun b hb hm => M.no b hb fun h => hm (List.mem_append_left _ h)⟩
  rcases List.mem_append.1 hm with hm | hm
  · exact M.yes b hb hm
  · rw [List.mem_singleton.1 hm] at hb; exact absurd hb ha
section
variable {K : Ctx} {h : Hp}
theorem look_no (H : Std K) {h : Hp} {km : Nat} {es : List (CV × CV)} {a : List Int} (hle : a.length ≤ 5) (hg : h.get km = .mp es) (hl : lookM (.agg (padI a)) es = some none) : qLookup K.P h false (.agg (padI a)) (.mp km) (tyk K.P 100) = some .nils := by
  have h1 : tyk K.P 100 = .map 103 46 := by rw [H.hP]; exact t100
  have h2 : tzero K.P 46 = some .nils := by rw [H.hP]; exact e46
  rw [h1]
  simp only [qLookup, keyOk_pad H hle, qLook, h2, hbLook, hg, hl, qFound, okV]
theorem nils_nil (H : Std K) : bineq K.P .eql 46 .nils .nils = some (.bo true) := by
  have : tyk K.P 46 = .slice 3 1 8 [.nu .i64 0] := by rw [H.hP]; exact t46
  simp only [bineq, abin, aeq, this]
theorem ccheck_ret (H : Std K) (ok : HpOk h) {l : List (List Int)} (hl : Sml l) {x : CV} {cs : List CV} (hx : Row h x cs) (hxs : Rows h cs l) : Ret K 26 [x] h fun r _ => r = .nu .i64 (errC l) := by
  have hf : K.P.funcs[26]? = some Tryz.f26 := by rw [H.hP]; exact Tryz.func26
  have hcl := hxs.length
  have hll := hl.len
  have hlen := len22 H hx
  rw [hcl] at hlen
  by_cases hbig : 1024 < l.length
  · refine ⟨_, h, Comes.plain hf rfl (H.memo 26 (by decide)) (H.spec 26) rfl (Runs.seq (f26_r0 H.hk) (Runs.seqX (f26_b10_T H.hk H.prim H.pl rfl hlen (gt_t (by show (1024 : Int) < Int.ofNat _; simp; omega))) (by simp))) (.inr rfl) (Nat.le_refl _) rfl rfl rfl, Same.refl _ _, ok, ?_⟩
    show CV.nu .i64 3 = _
    rw [errC, if_pos hbig]
  have S0 : Same h.n h (h.push (.mp [])) := Same.push (Nat.le_refl _) _
  have hlen1 := len22 H (hx.mono S0 ok (Nat.le_refl _))
  rw [hcl] at hlen1
  obtain ⟨s1, r1, j0, js⟩ : ∃ s1, Runs K 26 74 none (sub1 [1, 0] (bodyOf Tryz.f26)) (T.set (entry 0 [x]) 2 (.nu .i64 0)) h .normal s1 h ∧ s1.at 0 = x ∧ s1.at slot = .undef := ⟨_, f26_b10_F H.hk H.prim H.pl rfl hlen (gt_f (by simp; omega)), rfl, rfl⟩
  obtain ⟨s2, r2, k0, k3, k17, k18, k19, ks⟩ : ∃ s2, Runs K 26 74 none (sub1 [1, 1, 1, 0, 0] (bodyOf Tryz.f26)) (T.set (T.set s1 16 (.mp h.n)) 3 (.mp h.n)) (h.push (.mp [])) .normal s2 (h.push (.mp [])) ∧ s2.at 0 = x ∧ s2.at 3 = .mp h.n ∧ s2.at 17 = x ∧ s2.at 18 = .nu .i64 (.ofNat l.length) ∧ s2.at 19 = .nu .i64 (.ofNat 0) ∧ s2.at slot = .undef := ⟨_, f26_r4 H.hk j0 hlen1, j0, rfl, rfl, rfl, rfl, js⟩
  obtain ⟨s3, h3, r3, ok3, S3, hkn3, e0, e3, es, hg3, M3, e1⟩ := RunQ.loopE (K := K) (f := 26) (n := 74) (c := sub1 [1, 1, 1, 0, 1, 0, 0] (bodyOf Tryz.f26)) (s := s2) (h := h.push (.mp [])) (m := l.length) (b := 0)
    (I := fun i s g => HpOk g ∧ Same h.n h g ∧ h.n < g.n ∧ s.at 0 = x ∧ s.at 3 = .mp h.n ∧ s.at 17 = x ∧ s.at 18 = .nu .i64 (.ofNat l.length) ∧ s.at 19 = .nu .i64 (.ofNat i) ∧ s.at slot = .undef ∧ ∃ es, g.get h.n = .mp es ∧ MapOf es (l.take i))
    (E := fun s g => HpOk g ∧ Same h.n h g ∧ h.n < g.n ∧ s.at 0 = x ∧ s.at 3 = .mp h.n ∧ ∃ es, g.get h.n = .mp es ∧ MapOf es l ∧ s.at slot = .undef)
    ⟨ok.push _, S0, by simp, k0, k3, k17, k18, k19, ks, [], by rw [Hp.get_push, if_pos rfl], by simp, by intro a _ hm; simp at hm, fun a _ _ => rfl⟩
    (fun i s g hi ⟨okg, S, hkn, g0, g3, g17, g18, g19, gs, es, hg, M⟩ => by
      have hr := hx.mono S ok (Nat.le_refl _)
      obtain ⟨p, hp1, hp2⟩ := at22 H hr (i := i) (by omega)
      have hxi := (hxs.get (i := i) (by omega) hi).mono S ok (Nat.le_refl _)
      have hle := hl.each l[i] (List.getElem_mem hi)
      have c66 := check_gen H (by omega) hxi
      by_cases hok : errS l[i] = 0
      · have okS := errS_zero.1 hok
        rw [hok] at c66
        obtain ⟨k, o, n, c, hsl, _⟩ := hxi.blk (ints_ne okS.ne) okg
        obtain ⟨h1, c71, S1, ok1⟩ := of_comes H okg okS.le okS.rng hxi
        have hg1 : h1.get h.n = .mp es := by rw [S1.get h.n hkn]; exact hg
        have hkn1 : h.n < h1.n := Nat.lt_of_lt_of_le hkn S1.n
        obtain ⟨es', u1, u2, u3, u4⟩ := updM_ok (v := cs[i]) (numK_pad okS.le) es M.num
        have w3 : wMap K.P h1 (.mp h.n) (.agg (padI l[i])) cs[i] (tyk K.P 100) = some (.undef, h1.set h.n (.mp es')) := by
          rw [show tyk K.P 100 = .map 103 46 by rw [H.hP]; exact t100]
          simp only [wMap, keyOk_pad H okS.le, wMapB, hg1, u1, wMapE]
        refine ⟨_, _, f26_b1110100_TT H.hk H.prim H.pl g19 g18 g17 g3 (lessN hi) hp1 hp2 c66 rfl c71 w3 (inc (by omega)), ok1.set hkn1 _, (S.trans (S1.le S.n)).trans (Same.set (Nat.le_refl _) _), hkn1, g0, g3, g17, g18, rfl, gs, es', by rw [Hp.get_set, if_pos rfl], ?_⟩
        rw [take_snoc hi]
        rw [hsl] at u1
        exact M.put okS u1
      · exact ⟨_, _, f26_b1110100_TF H.hk H.prim H.pl g19 g18 g17 (lessN hi) hp1 hp2 c66 (eq_f hok) (inc (by omega)), okg, S, hkn, g0, g3, g17, g18, rfl, gs, es, hg, by rw [take_snoc hi]; exact M.skip fun o => hok (errS_zero.2 o)⟩)
    (fun s g ⟨okg, S, hkn, g0, g3, g17, g18, g19, gs, es, hg, M⟩ =>
      ⟨_, _, f26_b1110100_F H.hk H.prim H.pl g19 g18 (lessN' (Nat.le_refl _)), okg, S, hkn, g0, g3, es, hg, by rw [List.take_length] at M; exact M, gs⟩)
  have hlen3 := len22 H (hx.mono S3 ok (Nat.le_refl _))
  rw [hcl] at hlen3
  obtain ⟨s4, r4, l0, l3, l31, l32, l33, ls⟩ : ∃ s4, Runs K 26 74 none (sub1 [1, 1, 1, 1, 0, 0] (bodyOf Tryz.f26)) s3 h3 .normal s4 h3 ∧ s4.at 0 = x ∧ s4.at 3 = .mp h.n ∧ s4.at 31 = x ∧ s4.at 32 = .nu .i64 (.ofNat l.length) ∧ s4.at 33 = .nu .i64 (.ofNat 0) ∧ s4.at slot = .undef := ⟨_, f26_r10 H.hk e0 hlen3, e0, e3, rfl, rfl, rfl, e1⟩
  have L := RunQ.loopB (K := K) (f := 26) (n := 74) (c := sub1 [1, 1, 1, 1, 0, 1, 0, 0] (bodyOf Tryz.f26)) (s := s4) (h := h3) (m := l.length) (b := 2) (I := fun i s g => HpOk g ∧ Same h.n h g ∧ h.n < g.n ∧ g.get h.n = .mp es ∧ s.at 0 = x ∧ s.at 3 = .mp h.n ∧ s.at 31 = x ∧ s.at 32 = .nu .i64 (.ofNat l.length) ∧ s.at 33 = .nu .i64 (.ofNat i) ∧ s.at slot = .undef ∧ ∀ j, j < i → errAt l j = 0)
    (E := fun s g => HpOk g ∧ Same h.n h g ∧ s.at slot = .undef ∧ errC l = 0) (R := fun s g => HpOk g ∧ Same h.n h g ∧ s.at slot = .undef ∧ s.at 2 = .nu .i64 (errC l)) ⟨ok3, S3, hkn3, hg3, l0, l3, l31, l32, l33, ls, fun j hj => absurd hj (Nat.not_lt_zero _)⟩
    (fun i s g hi ⟨okg, S, hkn, hg, g0, g3, g31, g32, g33, gs, hall⟩ => by
      have hC : errAt l i ≠ 0 → errC l = errAt l i := fun hne => by
        rw [errC, if_neg hbig]; exact errG_stop _ 0 i (Nat.zero_le _) (by omega) (fun j _ hj => hall j hj) hne
      have hr := hx.mono S ok (Nat.le_refl _)
      have hrs := hxs.mono S ok (Nat.le_refl _)
      obtain ⟨p, hp1, hp2⟩ := at22 H hr (i := i) (by omega)
      have hxi := hrs.get (i := i) (by omega) hi
      have hle := hl.each l[i] (List.getElem_mem hi)
      have e0 := getL hi
      obtain ⟨s1, r1, j0, j3, j31, j32, j33, j34, js⟩ : ∃ s1, Runs K 26 74 none (sub1 [1, 1, 1, 1, 0, 1, 0, 0, 0] (bodyOf Tryz.f26)) s g .normal s1 g ∧ s1.at 0 = x ∧ s1.at 3 = .mp h.n ∧ s1.at 31 = x ∧ s1.at 32 = .nu .i64 (.ofNat l.length) ∧ s1.at 33 = .nu .i64 (.ofNat i) ∧ s1.at 34 = .bo true ∧ s1.at slot = .undef := ⟨_, f26_r11 H.hk g33 g32 (lessN hi), g0, g3, g31, g32, g33, rfl, gs⟩
      obtain ⟨s2, r2, k0, k3, k31, k32, k33, k6, k7, ks⟩ : ∃ s2, Runs K 26 74 none (sub1 [1, 1, 1, 1, 0, 1, 0, 0, 1, 1, 0, 0, 0] (bodyOf Tryz.f26)) s1 g .normal s2 g ∧ s2.at 0 = x ∧ s2.at 3 = .mp h.n ∧ s2.at 31 = x ∧ s2.at 32 = .nu .i64 (.ofNat l.length) ∧ s2.at 33 = .nu .i64 (.ofNat i) ∧ s2.at 6 = .nu .i64 (.ofNat i) ∧ s2.at 7 = cs[i] ∧ s2.at slot = .undef := ⟨_, f26_r12 H.hk j33 j31 hp1 hp2, j0, j3, j31, j32, j33, rfl, rfl, js⟩
      by_cases h1 : errS l[i] = 0
      case neg =>
        have hat : errAt l i = errS l[i] := by unfold errAt; rw [e0, if_pos h1]
        have c73 := facets_bad H (by omega) h1 hxi
        obtain ⟨s3, r3, l9, ls⟩ : ∃ s3, Runs K 26 74 none (sub1 [1, 1, 1, 1, 0, 1, 0, 0, 1, 1, 0, 0, 1, 0] (bodyOf Tryz.f26)) s2 g .normal s3 g ∧ s3.at 9 = .nu .i64 (errS l[i]) ∧ s3.at slot = .undef := ⟨_, f26_r13 H.hk k7 (H.prim _ _) c73 rfl rfl, rfl, ks⟩
        exact .inr (.inl ⟨_, _, Runs.seq r1 (Runs.seq (f26_b1111010010_T H.hk H.prim H.pl j34) (Runs.seqX (Runs.blockR (Runs.seq r2 (Runs.seq r3 (Runs.seqX (f26_b111101001100110_T H.hk H.prim H.pl l9 (ne_t h1)) (by simp))))) (by simp))), okg, S, ls, by rw [hC (by rw [hat]; exact h1), hat]; rfl⟩)
      have okS := errS_zero.1 h1
      have h1' : errS (l.getD i []) = 0 := by rw [e0]; exact h1
      obtain ⟨y, fs, h5, c5, S5, ok5, own5⟩ := facets_comes H okg okS hxi
      obtain ⟨s3, r3, l0, l3, l31, l32, l33, l6, l7, l8, l9, ls⟩ : ∃ s3, Runs K 26 74 none (sub1 [1, 1, 1, 1, 0, 1, 0, 0, 1, 1, 0, 0, 1, 0] (bodyOf Tryz.f26)) s2 g .normal s3 h5 ∧ s3.at 0 = x ∧ s3.at 3 = .mp h.n ∧ s3.at 31 = x ∧ s3.at 32 = .nu .i64 (.ofNat l.length) ∧ s3.at 33 = .nu .i64 (.ofNat i) ∧ s3.at 6 = .nu .i64 (.ofNat i) ∧ s3.at 7 = cs[i] ∧ s3.at 8 = y ∧ s3.at 9 = .nu .i64 0 ∧ s3.at slot = .undef := ⟨_, f26_r13 H.hk k7 (H.prim _ _) c5 rfl rfl, k0, k3, k31, k32, k33, k6, k7, rfl, rfl, ks⟩
      obtain ⟨s4, r4, m0, m3, m31, m32, m33, m6, m7, m8, ms⟩ : ∃ s4, Runs K 26 74 none (sub1 [1, 1, 1, 1, 0, 1, 0, 0, 1, 1, 0, 0, 1, 1, 0] (bodyOf Tryz.f26)) s3 h5 .normal s4 h5 ∧ s4.at 0 = x ∧ s4.at 3 = .mp h.n ∧ s4.at 31 = x ∧ s4.at 32 = .nu .i64 (.ofNat l.length) ∧ s4.at 33 = .nu .i64 (.ofNat i) ∧ s4.at 6 = .nu .i64 (.ofNat i) ∧ s4.at 7 = cs[i] ∧ s4.at 8 = y ∧ s4.at slot = .undef := ⟨_, f26_b111101001100110_F H.hk H.prim H.pl l9 rfl, l0, l3, l31, l32, l33, l6, l7, l8, ls⟩
      have S05 : Same h.n h h5 := S.trans (S5.le S.n)
      have hkn5 : h.n < h5.n := Nat.lt_of_lt_of_le hkn S5.n
      have hg5 : h5.get h.n = .mp es := by rw [S5.get h.n hkn]; exact hg
      have hnb : (0 < i ∧ cmpI (l.getD i []) (l.getD (i - 1) []) = 0 ∧ ∃ s5, Runs K 26 74 none (sub1 [1, 1, 1, 1, 0, 1, 0, 0, 1, 1, 0, 0, 1, 1, 1, 0] (bodyOf Tryz.f26)) s4 h5 .ret s5 h5 ∧ s5.at 2 = .nu .i64 5 ∧ s5.at slot = .undef) ∨
          (0 < i ∧ cmpI (l.getD i []) (l.getD (i - 1) []) ≠ 0 ∧ cmpI (l.getD i []) (l.getD (i - 1) []) < 0 ∧ ∃ s5, Runs K 26 74 none (sub1 [1, 1, 1, 1, 0, 1, 0, 0, 1, 1, 0, 0, 1, 1, 1, 0] (bodyOf Tryz.f26)) s4 h5 .ret s5 h5 ∧ s5.at 2 = .nu .i64 6 ∧ s5.at slot = .undef) ∨
          ((0 < i → cmpI (l.getD i []) (l.getD (i - 1) []) ≠ 0 ∧ ¬ cmpI (l.getD i []) (l.getD (i - 1) []) < 0) ∧ ∃ s5, Runs K 26 74 none (sub1 [1, 1, 1, 1, 0, 1, 0, 0, 1, 1, 0, 0, 1, 1, 1, 0] (bodyOf Tryz.f26)) s4 h5 .normal s5 h5 ∧ s5.at 0 = x ∧ s5.at 3 = .mp h.n ∧ s5.at 31 = x ∧ s5.at 32 = .nu .i64 (.ofNat l.length) ∧ s5.at 33 = .nu .i64 (.ofNat i) ∧ s5.at 8 = y ∧ s5.at slot = .undef) := by
        cases i with
        | zero => exact .inr (.inr ⟨fun h => absurd h (Nat.lt_irrefl _), _, f26_b1111010011001110_F H.hk H.prim H.pl m6 rfl, m0, m3, m31, m32, m33, m8, ms⟩)
        | succ k =>
          have hr5 := hx.mono S05 ok (Nat.le_refl _)
          have hrs5 := hxs.mono S05 ok (Nat.le_refl _)
          obtain ⟨q, hq1, hq2⟩ := at22 H hr5 (i := k) (by omega)
          have cc := scmp_comes H (a := l[k + 1]) (b := l[k]'(by omega)) (by omega) (hrs5.get (i := k + 1) (by omega) hi) (hrs5.get (i := k) (by omega) (by omega))
          have ek : l.getD (k + 1 - 1) [] = l[k]'(by omega) := getL (i := k) (by omega)
          rw [e0, ek]
          have hpos : (0 : Int) < Int.ofNat (k + 1) := by simp
          by_cases hc : cmpI l[k + 1] (l[k]'(by omega)) = 0
          · exact .inl ⟨by omega, hc, _, f26_b1111010011001110_TT H.hk H.prim H.pl m6 m7 m0 (gt_t hpos) (dec (by omega)) hq1 hq2 cc (eq_t hc), rfl, ms⟩
          by_cases hc2 : cmpI l[k + 1] (l[k]'(by omega)) < 0
          · exact .inr (.inl ⟨by omega, hc, hc2, _, f26_b1111010011001110_TFT H.hk H.prim H.pl m6 m7 m0 (gt_t hpos) (dec (by omega)) hq1 hq2 cc (eq_f hc) (lt_t hc2), rfl, ms⟩)
          · exact .inr (.inr ⟨fun _ => ⟨hc, hc2⟩, _, f26_b1111010011001110_TFF H.hk H.prim H.pl m6 m7 m0 (gt_t hpos) (dec (by omega)) hq1 hq2 cc (eq_f hc) (lt_f (by omega)), m0, m3, m31, m32, m33, m8, ms⟩)
      rcases hnb with ⟨hpos, hc, s5, r5, h52, h5s⟩ | ⟨hpos, hc, hc2, s5, r5, h52, h5s⟩ | ⟨hc, s5, r5, n0, n3, n31, n32, n33, n8, ns⟩
      · have hat : errAt l i = 5 := by unfold errAt; rw [if_neg (fun hn => hn h1'), if_pos ⟨hpos, hc⟩]
        exact .inr (.inl ⟨_, _, Runs.seq r1 (Runs.seq (f26_b1111010010_T H.hk H.prim H.pl j34) (Runs.seqX (Runs.blockR (Runs.seq r2 (Runs.seq r3 (Runs.seq r4 (Runs.seqX r5 (by simp)))))) (by simp))), ok5, S05, h5s, by rw [hC (by rw [hat]; decide), hat]; exact h52⟩)
      · have hat : errAt l i = 6 := by unfold errAt; rw [if_neg (fun hn => hn h1'), if_neg (fun h => hc h.2), if_pos ⟨hpos, hc2⟩]
        exact .inr (.inl ⟨_, _, Runs.seq r1 (Runs.seq (f26_b1111010010_T H.hk H.prim H.pl j34) (Runs.seqX (Runs.blockR (Runs.seq r2 (Runs.seq r3 (Runs.seq r4 (Runs.seqX r5 (by simp)))))) (by simp))), ok5, S05, h5s, by rw [hC (by rw [hat]; decide), hat]; exact h52⟩)
      have hat := errAt_face h1' hc
      rw [e0] at hat
      have hfl := facetsI_length l[i]
      have hle5 := okS.le
      have hlen8 := len22 H own5.out.row
      rw [own5.rows.length] at hlen8
      obtain ⟨s6, r6, q0, q3, q31, q32, q33, q61, q62, q63, qs⟩ : ∃ s6, Runs K 26 74 none (sub1 [1, 1, 1, 1, 0, 1, 0, 0, 1, 1, 0, 0, 1, 1, 1, 1, 0] (bodyOf Tryz.f26)) s5 h5 .normal s6 h5 ∧ s6.at 0 = x ∧ s6.at 3 = .mp h.n ∧ s6.at 31 = x ∧ s6.at 32 = .nu .i64 (.ofNat l.length) ∧ s6.at 33 = .nu .i64 (.ofNat i) ∧ s6.at 61 = y ∧ s6.at 62 = .nu .i64 (.ofNat (facetsI l[i]).length) ∧ s6.at 63 = .nu .i64 (.ofNat 0) ∧ s6.at slot = .undef := ⟨_, f26_r22 H.hk n8 hlen8, n0, n3, n31, n32, n33, rfl, rfl, rfl, ns⟩
      have hfr := own5.out.row
      have hfa := own5.all
      have hfc := hfa.length
      have L2 := RunQ.loopB (K := K) (f := 26) (n := 74) (c := sub1 [1, 1, 1, 1, 0, 1, 0, 0, 1, 1, 0, 0, 1, 1, 1, 1, 1, 0, 0] (bodyOf Tryz.f26)) (s := s6) (h := h5) (m := (facetsI l[i]).length) (b := 5) (I := fun k s g => HpOk g ∧ Same h5.n h5 g ∧ s.at 0 = x ∧ s.at 3 = .mp h.n ∧ s.at 31 = x ∧ s.at 32 = .nu .i64 (.ofNat l.length) ∧ s.at 33 = .nu .i64 (.ofNat i) ∧ s.at 61 = y ∧ s.at 62 = .nu .i64 (.ofNat (facetsI l[i]).length) ∧ s.at 63 = .nu .i64 (.ofNat k) ∧ s.at slot = .undef ∧ ((facetsI l[i]).take k).all (fun f => decide (f ∈ l)) = true)
        (E := fun s g => HpOk g ∧ Same h5.n h5 g ∧ s.at 0 = x ∧ s.at 3 = .mp h.n ∧ s.at 31 = x ∧ s.at 32 = .nu .i64 (.ofNat l.length) ∧ s.at 33 = .nu .i64 (.ofNat i) ∧ s.at slot = .undef ∧ (facetsI l[i]).all (fun f => decide (f ∈ l)) = true) (R := fun s g => HpOk g ∧ Same h5.n h5 g ∧ s.at slot = .undef ∧ s.at 2 = .nu .i64 7 ∧ (facetsI l[i]).all (fun f => decide (f ∈ l)) = false) ⟨ok5, Same.refl _ _, q0, q3, q31, q32, q33, q61, q62, q63, qs, rfl⟩
        (fun k s g hk ⟨okg, Sg, g0, g3, g31, g32, g33, g61, g62, g63, gs, hallk⟩ => by
          obtain ⟨q, hq1, hq2⟩ := at22 H (hfr.mono Sg ok5 (Nat.le_refl _)) (i := k) (by omega)
          have hrk := (hfa.get (i := k) (by omega) hk).mono Sg ok5 (Nat.le_refl _)
          have hmf := mem_facetsI (List.getElem_mem hk)
          have okf : OkS (facetsI l[i])[k] := okS.sub hmf.1 (hmf.2 okS.ne)
          obtain ⟨h1, c26, S1, ok1⟩ := of_comes H okg okf.le okf.rng hrk
          have hg1 : h1.get h.n = .mp es := by rw [S1.get h.n (Nat.lt_of_lt_of_le hkn5 Sg.n), Sg.get h.n hkn5]; exact hg5
          by_cases hin : (facetsI l[i])[k] ∈ l
          · obtain ⟨k', o, n, c, hl'⟩ := M3.yes _ okf hin
            exact .inl ⟨_, _, f26_b1111010011001111100_TF H.hk H.prim H.pl g63 g62 g61 g3 (lessN hk) hq1 hq2 c26 (look_comes H okf.le hg1 hl') (sl_nil H k' o n c) (inc (by omega)), ok1, Sg.trans (S1.le Sg.n), g0, g3, g31, g32, g33, g61, g62, rfl, gs, all_snoc hk hallk (by simpa using hin)⟩
          · exact .inr (.inl ⟨_, _, f26_b1111010011001111100_TT H.hk H.prim H.pl g63 g62 g61 g3 (lessN hk) hq1 hq2 c26 (look_no H okf.le hg1 (M3.no _ okf hin)) (nils_nil H), ok1, Sg.trans (S1.le Sg.n), gs, rfl, all_no hk (by simpa using hin)⟩))
        (fun s g ⟨okg, Sg, g0, g3, g31, g32, g33, g61, g62, g63, gs, hallk⟩ =>
          ⟨_, _, f26_b1111010011001111100_F H.hk H.prim H.pl g63 g62 (lessN' (Nat.le_refl _)), okg, Sg, g0, g3, g31, g32, g33, gs, by rw [List.take_length] at hallk; exact hallk⟩)
      rcases L2 with ⟨s7, h7, r7, ok7, S7, t0, t3, t31, t32, t33, ts, hv⟩ | ⟨s7, h7, r7, ok7, S7, ts, t2, hv⟩
      · rw [hv, if_pos rfl] at hat
        exact .inl ⟨_, _, Runs.seq r1 (Runs.seq (f26_b1111010010_T H.hk H.prim H.pl j34) (Runs.seq (Runs.blockN (Runs.seq r2 (Runs.seq r3 (Runs.seq r4 (Runs.seq r5 (Runs.seq r6 r7)))))) (f26_r28 H.hk t33 (inc (by omega))))), ok7, S05.trans (S7.le S05.n), Nat.lt_of_lt_of_le hkn5 S7.n, by rw [S7.get h.n hkn5]; exact hg5, t0, t3, t31, t32, rfl, ts, fun j hj => by
          rcases Nat.lt_or_ge j i with hlt | hge
          · exact hall j hlt
          · obtain rfl : j = i := by omega
            exact hat⟩
      · rw [hv, if_neg (by simp)] at hat
        exact .inr (.inl ⟨_, _, Runs.seq r1 (Runs.seq (f26_b1111010010_T H.hk H.prim H.pl j34) (Runs.seqX (Runs.blockR (Runs.seq r2 (Runs.seq r3 (Runs.seq r4 (Runs.seq r5 (Runs.seq r6 r7)))))) (by simp))), ok7, S05.trans (S7.le S05.n), ts, by rw [hC (by rw [hat]; decide), hat]; exact t2⟩))
    (fun s g ⟨okg, S, hkn, hg, g0, g3, g31, g32, g33, gs, hall⟩ => by
      obtain ⟨s1, r1, k34, ks⟩ : ∃ s1, Runs K 26 74 none (sub1 [1, 1, 1, 1, 0, 1, 0, 0, 0] (bodyOf Tryz.f26)) s g .normal s1 g ∧ s1.at 34 = .bo false ∧ s1.at slot = .undef := ⟨_, f26_r11 H.hk g33 g32 (lessN' (by omega)), rfl, gs⟩
      refine ⟨_, _, Runs.seq r1 (Runs.seqX (f26_b1111010010_F H.hk H.prim H.pl k34) (by simp)), okg, S, ks, ?_⟩
      rw [errC, if_neg hbig]; exact errG_ok _ 0 fun j _ hj => hall j (by omega))
  rcases L with ⟨s', h', r, ok', S, hs, hv⟩ | ⟨s', h', r, ok', S, hs, h2⟩
  · exact ⟨_, h', Comes.plain hf rfl (H.memo 26 (by decide)) (H.spec 26) rfl (Runs.seq (f26_r0 H.hk) (Runs.seq r1 (Runs.seq (f26_r3 H.hk) (Runs.seq (Runs.seq r2 r3) (Runs.seq (Runs.seq r4 r) (f26_b11111 H.hk H.prim H.pl)))))) (.inr rfl) S.n hs rfl rfl, S, ok', by rw [hv]; rfl⟩
  · exact ⟨_, h', Comes.plain hf rfl (H.memo 26 (by decide)) (H.spec 26) rfl (Runs.seq (f26_r0 H.hk) (Runs.seq r1 (Runs.seq (f26_r3 H.hk) (Runs.seq (Runs.seq r2 r3) (Runs.seqX (Runs.seq r4 r) (by simp)))))) (.inr rfl) S.n hs (by show some [Fr.at s' 2] = _; rw [h2]) rfl, S, ok', rfl⟩
end
end Go.CP
namespace Go.CP
open Go.Proofs
variable [LG] [HK]
theorem errC_okC {l : List (List Int)} (h : errC l = 0) : OkC l := by
  unfold errC at h
  by_cases hb : 1024 < l.length
  · rw [if_pos hb] at h; exact absurd h (by decide)
  rw [if_neg hb] at h
  have hz : ∀ i (hi : i < l.length), errAt l i = 0 := fun i hi => errG_zero _ 0 h i (Nat.zero_le _) (by omega)
  have hS : ∀ i (hi : i < l.length), errS l[i] = 0 ∧ (0 < i → cmpI l[i] (l.getD (i - 1) []) ≠ 0 ∧ ¬ cmpI l[i] (l.getD (i - 1) []) < 0) ∧ (facetsI l[i]).all (fun f => decide (f ∈ l)) = true := by
    intro i hi
    have := hz i hi
    unfold errAt at this
    rw [getL hi] at this
    by_cases h1 : errS l[i] = 0
    · rw [if_neg (fun hn => hn h1)] at this
      by_cases h2 : 0 < i ∧ cmpI l[i] (l.getD (i - 1) []) = 0
      · rw [if_pos h2] at this; exact absurd this (by decide)
      rw [if_neg h2] at this
      by_cases h3 : 0 < i ∧ cmpI l[i] (l.getD (i - 1) []) < 0
      · rw [if_pos h3] at this; exact absurd this (by decide)
      rw [if_neg h3] at this
      refine ⟨h1, fun hp => ⟨fun e => h2 ⟨hp, e⟩, fun e => h3 ⟨hp, e⟩⟩, ?_⟩
      cases hq : (facetsI l[i]).all (fun f => decide (f ∈ l)) with
      | true => rfl
      | false => rw [hq] at this; exact absurd this (by decide)
    · rw [if_pos h1] at this; exact absurd this h1
  refine ⟨fun a ha => ?_, fun i hi => ?_, fun a ha f hf => ?_, by omega⟩
  · obtain ⟨i, hi, rfl⟩ := List.getElem_of_mem ha
    exact errS_zero.1 (hS i hi).1
  · have := (hS (i + 1) hi).2.1 (by omega)
    rw [show l.getD (i + 1 - 1) [] = l[i]'(by omega) from getL (i := i) (by omega)] at this
    rcases cmpI_vals l[i + 1] (l[i]'(by omega)) with h | h | h
    · rw [h] at this; exact absurd (by decide : (-1 : Int) < 0) this.2
    · exact absurd h this.1
    · exact h
  · obtain ⟨i, hi, rfl⟩ := List.getElem_of_mem ha
    simpa using List.all_eq_true.1 (hS i hi).2.2 f hf
section
variable {K : Ctx} {h : Hp}
theorem z3' (H : Std K) : tsz K.P 3 = some (1, false) := by rw [H.hP]; exact z3
def Fails (K : Ctx) (f : FuncId) (args : List CV) (h : Hp) (e : Int) : Prop := Ret K f args h fun r _ => r = .tup [.nils, .nu .i64 e]
theorem filter_ok (H : Std K) (ok : HpOk h) {l : List (List Int)} (hl : Sml l) (he : errC l = 0) {G : FuncId} {C : List CV} {p : List Int → Bool} (hg : Asks K h G C l p) {x : CV} {cs : List CV} (hx : Row h x cs) (hxs : Rows h cs l) : Kept K 81 [x, .fn G C] h (l.filter p) := by
  have hC := errC_okC he
  exact filter_ret H ok hl.len (fun a ha => ⟨(hC.simp a ha).ne, by have := (hC.simp a ha).le; omega⟩) hg hx hxs (by rw [← he]; exact ccheck_ret H ok hl hx hxs)
def KeptE (K : Ctx) (f : FuncId) (args : List CV) (h : Hp) (e : Int) (l : List (List Int)) : Prop := Ret K f args h fun r h' => ∃ o ds, r = .tup [o, .nu .i64 e] ∧ Own h.n h' 46 o ds (if e = 0 then l else [])
theorem Kept.e {f : FuncId} {args : List CV} {h : Hp} {e : Int} {l : List (List Int)} (he : e = 0) (k : Kept K f args h l) : KeptE K f args h e l := by
  subst he
  obtain ⟨r, h', c, S, ok, o, ds, hr, hO⟩ := k
  exact ⟨r, h', c, S, ok, o, ds, hr, by rw [if_pos rfl]; exact hO⟩
theorem Fails.e {f : FuncId} {args : List CV} {h : Hp} {e : Int} {l : List (List Int)} (he : e ≠ 0) (k : Fails K f args h e) : KeptE K f args h e l := by
  obtain ⟨r, h', c, S, ok, hr⟩ := k
  exact ⟨r, h', c, S, ok, .nils, [], hr, by rw [if_neg he]; exact Own.nil⟩
def errA (l : List (List Int)) (s : List Int) : Int := if errC l ≠ 0 then errC l else if s ∈ l then 0 else 4
end
end Go.CP
namespace Go.CP
open Go.Proofs
variable [LG] [HK]
def upP (s t : List Int) : Bool := decide (t.length = s.length + 1) && hasI t s
def maxP (l : List (List Int)) (s : List Int) : Bool := !(l.any (upP s))
section
variable {K : Ctx} {h : Hp}
end
end Go.CP
namespace Go.CP
open Go.Proofs
variable [LG] [HK]
theorem OkC.srt {l : List (List Int)} (h : OkC l) : Srt l := by
  have h1 : ∀ i (hi : i + 1 < l.length), LtS l[i] l[i + 1] := fun i hi => by
    have := h.asc i hi
    show cmpI l[i] l[i + 1] = -1
    rw [cmpI_swap, this]
  show l.Pairwise LtS
  rw [List.pairwise_iff_getElem]
  intro i j hi hj hij
  obtain ⟨d, rfl⟩ : ∃ d, j = i + 1 + d := ⟨j - (i + 1), by omega⟩
  clear hij
  induction d with
  | zero => exact h1 i hj
  | succ d ih => exact (ih (by omega)).trans (h1 (i + 1 + d) (by omega))
theorem Srt.nodup {l : List (List Int)} (h : Srt l) : l.Nodup := h.imp fun {a b} h e => by
  subst e
  unfold LtS at h
  rw [(cmpI_zero a a).2 rfl] at h
  exact absurd h (by decide)
theorem hasI_iff {a b : List Int} : hasI a b = true ↔ ∀ v ∈ b, v ∈ a := by
  unfold hasI
  rw [List.all_eq_true]
  exact ⟨fun h v hv => (inI_iff a v).1 (h v hv), fun h v hv => (inI_iff a v).2 (h v hv)⟩
theorem hasI_sub {a b : List Int} (ha : OkS a) (hb : OkS b) : hasI a b = true ↔ b.Sublist a := by
  rw [hasI_iff]
  exact ⟨fun h => asc_sublist hb.asc ha.asc h, fun h v hv => h.subset hv⟩
theorem OkC.mid {l : List (List Int)} (h : OkC l) {a : List Int} (ha : OkS a) : ∀ (n : Nat) (t : List Int), t.length = a.length + 1 + n → t ∈ l → a.Sublist t → ∃ t' ∈ l, t'.length = a.length + 1 ∧ a.Sublist t' := by
  intro n
  induction n with
  | zero => intro t hl ht hs; exact ⟨t, ht, hl, hs⟩
  | succ n ih =>
    intro t hl ht hs
    have okt := h.simp t ht
    have hex : ∃ k, ∃ hk : k < t.length, t[k] ∉ a := by
      apply Classical.byContradiction
      intro hno
      have hall : ∀ v ∈ t, v ∈ a := fun v hv => by
        obtain ⟨k, hk, rfl⟩ := List.getElem_of_mem hv
        exact Classical.byContradiction fun hn => hno ⟨k, hk, hn⟩
      have := (asc_sublist okt.asc ha.asc hall).length_le
      omega
    obtain ⟨k, hk, hka⟩ := hex
    have hf : t.eraseIdx k ∈ facetsI t := by
      unfold facetsI
      rw [if_neg (by omega)]
      exact List.mem_map.2 ⟨k, List.mem_range.2 hk, rfl⟩
    have hfl := h.face t ht _ hf
    have hlen : (t.eraseIdx k).length = a.length + 1 + n := by rw [List.length_eraseIdx_of_lt hk]; omega
    refine ih _ hlen hfl (asc_sublist ha.asc (h.simp _ hfl).asc fun v hv => ?_)
    have hvt := hs.subset hv
    obtain ⟨j, hj, rfl⟩ := List.getElem_of_mem hvt
    have hjk : j ≠ k := fun e => by subst e; exact hka hv
    rw [List.mem_eraseIdx_iff_getElem]
    exact ⟨j, hj, hjk, rfl⟩
end Go.CP
namespace Go.CP
open Go.Proofs
variable [LG] [HK]
def Val (h : Hp) (x : CV) (l : List (List Int)) : Prop := ∃ cs, Row h x cs ∧ Rows h cs l
section
variable {K : Ctx} {h : Hp}
theorem Val.mono {h h' : Hp} (S : Same h.n h h') (ok : HpOk h) {x : CV} {l : List (List Int)} (v : Val h x l) : Val h' x l := by
  obtain ⟨cs, a, b⟩ := v
  exact ⟨cs, a.mono S ok (Nat.le_refl _), b.mono S ok (Nat.le_refl _)⟩
theorem Own.val {N : Nat} {el : Nat} {x : CV} {cs : List CV} {l : List (List Int)} (o : Own N h el x cs l) : Val h x l := ⟨cs, o.out.row, o.all⟩
theorem Sel.val {h h' : Hp} (S : Same h.n h h') (ok : HpOk h) {x : CV} {l : List (List Int)} (s : Sel h h' x l) : Val h' x l := by
  obtain ⟨cs, o, r⟩ := s
  exact ⟨cs, o.row, r.mono S ok (Nat.le_refl _)⟩
theorem Val.len22 (H : Std K) {x : CV} {l : List (List Int)} (v : Val h x l) : qLen h x (tyk K.P 22) = some (.nu .i64 (.ofNat l.length)) := by
  obtain ⟨cs, a, b⟩ := v
  have := CP.len22 H a
  rwa [b.length] at this
theorem same_val (H : Std K) (PB : PlansB K) {l m : List (List Int)} (hl : Sml l) {x y : CV} (hx : Val h x l) (hy : Val h y m) (he : l = m) : Comes K 23 [x, y] h (.bo true) h := by
  obtain ⟨cs, a, b⟩ := hx
  obtain ⟨ds, c, d⟩ := hy
  have := same_comes H PB (by have := hl.len; omega) (fun a ha => by have := hl.each a ha; omega) a b c d
  rwa [sameI_iff.2 he] at this
theorem Sml.filter {l : List (List Int)} (h : Sml l) (p : List Int → Bool) : Sml (l.filter p) :=
  ⟨Nat.lt_of_le_of_lt (List.length_filter_le _ _) h.len, fun a ha => h.each a (List.mem_filter.1 ha).1⟩
theorem KeptE.val {f : FuncId} {args : List CV} {e : Int} {l : List (List Int)} (k : KeptE K f args h e l) : ∃ o h', Comes K f args h (.tup [o, .nu .i64 e]) h' ∧ Same h.n h h' ∧ HpOk h' ∧ Val h' o (if e = 0 then l else []) := by
  obtain ⟨r, h', c, S, ok, o, ds, rfl, hO⟩ := k
  exact ⟨o, h', c, S, ok, hO.val⟩
end
end Go.CP
namespace Go.CP
open Go.Proofs
variable [LG] [HK]
theorem t28 : tyk Tryz.prog 28 = .slice 22 1 24 [.nils] := by kernel_rfl
section
variable {K : Ctx} {h : Hp}
theorem len28 (H : Std K) {x : CV} {cs : List CV} (r : Row h x cs) : qLen h x (tyk K.P 28) = some (.nu .i64 (.ofNat cs.length)) := by rw [H.hP, t28]; exact r.len
theorem at28 (H : Std K) {x : CV} {xs : List CV} (r : Row h x xs) {i : Nat} (hi : i < xs.length) : ∃ p, qIndexAddr x (.nu .i64 (.ofNat i)) (tyk K.P 28) = some p ∧ qLoad h p (tsz K.P 22) = some xs[i] := by
  obtain ⟨k, o, h1, h2⟩ := r.at (i := i) hi (e := 22) (b := 24) (z := [.nils])
  exact ⟨_, by rw [H.hP, t28]; exact h1, by rw [z22' H, h2]⟩
theorem longI_f {l : List (List Int)} {n : Int} (h : longI l n = false) : Int.ofNat l.length ≤ n ∧ ∀ a ∈ l, a.length ≤ 12 := by
  unfold longI at h
  rw [Bool.or_eq_false_iff, decide_eq_false_iff_not, List.any_eq_false] at h
  exact ⟨by omega, fun a ha => by have := h.2 a ha; simpa using this⟩
theorem Cx.sml {l : List (List Int)} (h : Cx l) : Sml l := ⟨by have := h.le; omega, fun a ha => by have := (h.ok a ha).le; omega⟩
end
end Go.CP
