import Derived.Test.YtadagifjonbmjaaGreatDoorKl4
import Derived.Test.YtadagifjonbmjaaGreatDoorKw4
import Derived.Test.YtadagifjonbmjaaGreatDoorKv0
import Derived.Test.YtadagifjonbmjaaGreatDoorKs0
import Derived.Test.YtadagifjonbmjaaGreatDoorKw1
set_option linter.all false
/- Complex: complex.Meet. -/
namespace Go.CP
open Go.Proofs
variable [LG] [HK]
theorem ceq_mp (k : Nat) : ceq (.mp k) (.mp k) = true := Nat.beq_refl k
theorem z100 : tsz Tryz.prog 100 = some (1, false) := by kernel_rfl
theorem e100 : tzero Tryz.prog 100 = some .nilm := by kernel_rfl
section
variable {K : Ctx} {h : Hp}
theorem z100' (H : Std K) : tsz K.P 100 = some (1, false) := by rw [H.hP]; exact z100
theorem box100 (H : Std K) (ok : HpOk h) (km : Nat) : ∃ F B g, lAlloc 100 (tzero K.P 100) = some (F, B) ∧ wStore (h.push B) (F h.n) (.mp km) (tsz K.P 100) = some (.undef, g) ∧ Box g (F h.n) (.mp km) ∧ Same h.n h g ∧ HpOk g := by
  have hg : (h.push (.cells [.nilm] 0 100)).get h.n = .cells [.nilm] 0 100 := by rw [Hp.get_push, if_pos rfl]
  refine ⟨fun k => .ptr k 0, .cells [.nilm] 0 100, (h.push (.cells [.nilm] 0 100)).set h.n (.cells [.mp km] 0 100), by rw [H.hP, e100]; rfl, ?_, ⟨⟨h.n, 100, rfl, by simp, by rw [Hp.get_set, if_pos rfl]⟩⟩, (Same.push (Nat.le_refl _) _).trans (Same.set (Nat.le_refl _) _), (ok.push _).set (by simp) _⟩
  rw [z100' H]
  show wStoreB (h.push (.cells [.nilm] 0 100)) h.n 0 1 (.mp km) ((h.push (.cells [.nilm] 0 100)).get h.n) = _
  rw [hg]; rfl
theorem collect_ret (H : Std K) (PC : PlansC K) (ok : HpOk h) {l : List (List Int)} (hl : l.length < 549755813888) (hok : ∀ a ∈ l, OkS a) {x : CV} {cs : List CV} (hx : Row h x cs) (hxs : Rows h cs l) : Ret K 95 [x] h fun r h' => ∃ km es, r = .mp km ∧ km < h'.n ∧ h'.get km = .mp es ∧ MapOf es l := by
  have hf : K.P.funcs[95]? = some Tryz.f95 := by rw [H.hP]; exact Tryz.func95
  have hcl := hxs.length
  have S0 : Same h.n h (h.push (.mp [])) := Same.push (Nat.le_refl _) _
  have hlen1 := len22 H (hx.mono S0 ok (Nat.le_refl _))
  rw [hcl] at hlen1
  obtain ⟨s2, r2, k3, k7, k8, k9, ks⟩ : ∃ s2, Runs K 95 19 none (sub1 [1, 1, 0, 0] (bodyOf Tryz.f95)) (T.set (T.set (T.set (entry 0 [x]) 2 .nilm) 6 (.mp h.n)) 3 (.mp h.n)) (h.push (.mp [])) .normal s2 (h.push (.mp [])) ∧ s2.at 3 = .mp h.n ∧ s2.at 7 = x ∧ s2.at 8 = .nu .i64 (.ofNat l.length) ∧ s2.at 9 = .nu .i64 (.ofNat 0) ∧ s2.at slot = .undef := ⟨_, f95_r2 H.hk rfl hlen1, rfl, rfl, rfl, rfl, rfl⟩
  obtain ⟨s', h', r, ok', S, hkn, ⟨hs, h3⟩, es, hg, M⟩ := RunQ.loopE (K := K) (f := 95) (n := 19) (c := sub1 [1, 1, 0, 1, 0, 0] (bodyOf Tryz.f95)) (s := s2) (h := h.push (.mp [])) (m := l.length) (b := 0)
    (I := fun i s g => HpOk g ∧ Same h.n h g ∧ h.n < g.n ∧ s.at 3 = .mp h.n ∧ s.at 7 = x ∧ s.at 8 = .nu .i64 (.ofNat l.length) ∧ s.at 9 = .nu .i64 (.ofNat i) ∧ s.at slot = .undef ∧ ∃ es, g.get h.n = .mp es ∧ MapOf es (l.take i))
    (E := fun s g => HpOk g ∧ Same h.n h g ∧ h.n < g.n ∧ (s.at slot = .undef ∧ s.at 3 = .mp h.n) ∧ ∃ es, g.get h.n = .mp es ∧ MapOf es l)
    ⟨ok.push _, S0, by simp, k3, k7, k8, k9, ks, [], by rw [Hp.get_push, if_pos rfl], by simp, by intro a _ hm; simp at hm, fun a _ _ => rfl⟩
    (fun i s g hi ⟨okg, S, hkn, g3, g7, g8, g9, gs, es, hg, M⟩ => by
      have hr := hx.mono S ok (Nat.le_refl _)
      obtain ⟨p, hp1, hp2⟩ := at22 H hr (i := i) (by omega)
      have hxi := (hxs.get (i := i) (by omega) hi).mono S ok (Nat.le_refl _)
      have okS := hok _ (List.getElem_mem hi)
      obtain ⟨k, o, n, c, hsl, _⟩ := hxi.blk (ints_ne okS.ne) okg
      obtain ⟨h1, c71, S1, ok1⟩ := of_comes H okg okS.le okS.rng hxi
      have hg1 : h1.get h.n = .mp es := by rw [S1.get h.n hkn]; exact hg
      have hkn1 : h.n < h1.n := Nat.lt_of_lt_of_le hkn S1.n
      obtain ⟨es', u1, u2, u3, u4⟩ := updM_ok (v := cs[i]) (numK_pad okS.le) es M.num
      have w3 : wMap K.P h1 (.mp h.n) (.agg (padI l[i])) cs[i] (tyk K.P 100) = some (.undef, h1.set h.n (.mp es')) := by
        rw [show tyk K.P 100 = .map 103 46 by rw [H.hP]; exact t100]
        simp only [wMap, keyOk_pad H okS.le, wMapB, hg1, u1, wMapE]
      refine ⟨_, _, f95_b110100_T H.hk H.prim PC g9 g8 g7 g3 (lessN hi) hp1 hp2 c71 w3 (inc (by omega)), ok1.set hkn1 _, (S.trans (S1.le S.n)).trans (Same.set (Nat.le_refl _) _), hkn1, g3, g7, g8, rfl, gs, es', by rw [Hp.get_set, if_pos rfl], ?_⟩
      rw [take_snoc hi]
      rw [hsl] at u1
      exact M.put okS u1)
    (fun s g ⟨okg, S, hkn, g3, g7, g8, g9, gs, es, hg, M⟩ =>
      ⟨_, _, f95_b110100_F H.hk H.prim PC g9 g8 (lessN' (Nat.le_refl _)), okg, S, hkn, ⟨gs, g3⟩, es, hg, by rw [List.take_length] at M; exact M⟩)
  exact ⟨_, h', Comes.plain hf rfl (H.memo 95 (by decide)) (H.spec 95) rfl (Runs.seq (f95_r0 H.hk) (Runs.seq (f95_r1 H.hk) (Runs.seq (Runs.seq r2 r) (f95_b111 H.hk H.prim PC h3)))) (.inr rfl) S.n hs rfl rfl, S, ok', h.n, es, rfl, hkn, hg, M⟩
theorem meet97_asks (H : Std K) (PC : PlansC K) {h0 : Hp} {q : CV} {km : Nat} {es : List (CV × CV)} {l b : List (List Int)} (hq : Box h0 q (.mp km)) (hkm : km < h0.n) (hg : h0.get km = .mp es) (M : MapOf es b) (hl : ∀ a ∈ l, OkS a) : Asks K h0 97 [q] l (fun a => decide (a ∈ b)) := by
  intro y a g ha ok S r
  have hf : K.P.funcs[97]? = some Tryz.f97 := by rw [H.hP]; exact Tryz.func97
  have okS := hl a ha
  obtain ⟨h1, c71, S1, ok1⟩ := of_comes H ok okS.le okS.rng r
  have hqg := hq.mono S (Nat.le_refl _)
  have o4 := hqg.load (z100' H)
  have o4' := (hqg.mono S1 (Nat.le_refl _)).load (z100' H)
  have hkg : km < g.n := Nat.lt_of_lt_of_le hkm S.n
  have hgg : h1.get km = .mp es := by rw [S1.get km hkg, S.get km hkm]; exact hg
  by_cases hm : a ∈ b
  · obtain ⟨k, o, n, c, hlk⟩ := M.yes a okS hm
    have o8 : bineq K.P .neq 46 (.sl k o n c) .nils = some (.bo true) := by
      have : tyk K.P 46 = .slice 3 1 8 [.nu .i64 0] := by rw [H.hP]; exact t46
      simp [bineq, abin, aeq, this]
    exact ⟨_, h1, Comes.plain hf rfl (H.memo 97 (by decide)) (H.spec 97) rfl (f97_b H.hk H.prim PC (s := entry 0 [y, q]) rfl rfl o4 (ceq_mp _) c71 o4' (look_comes H okS.le hgg hlk) o8) (.inr rfl) S1.n rfl rfl rfl, S1, ok1, by simp [hm]; rfl⟩
  · have o8 : bineq K.P .neq 46 .nils .nils = some (.bo false) := by
      have : tyk K.P 46 = .slice 3 1 8 [.nu .i64 0] := by rw [H.hP]; exact t46
      simp [bineq, abin, aeq, this]
    exact ⟨_, h1, Comes.plain hf rfl (H.memo 97 (by decide)) (H.spec 97) rfl (f97_b H.hk H.prim PC (s := entry 0 [y, q]) rfl rfl o4 (ceq_mp _) c71 o4' (look_no H okS.le hgg (M.no a okS hm)) o8) (.inr rfl) S1.n rfl rfl rfl, S1, ok1, by simp [hm]; rfl⟩
def errB (a b : List (List Int)) : Int := if errC a ≠ 0 then errC a else errC b
theorem both_ret (H : Std K) (PC : PlansC K) (ok : HpOk h) {a b : List (List Int)} (ha : Sml a) (hb : Sml b) {x y : CV} {cs ds : List CV} (hx : Row h x cs) (hxs : Rows h cs a) (hy : Row h y ds) (hys : Rows h ds b) : Ret K 94 [x, y] h fun r _ => r = .nu .i64 (errB a b) := by
  have hf : K.P.funcs[94]? = some Tryz.f94 := by rw [H.hP]; exact Tryz.func94
  obtain ⟨rv, h1, c1, S1, ok1, rfl⟩ := ccheck_ret H ok ha hx hxs
  by_cases he : errC a = 0
  case neg =>
    exact ⟨_, h1, Comes.plain hf rfl (H.memo 94 (by decide)) (H.spec 94) rfl (f94_b_T H.hk H.prim PC (s := entry 0 [x, y]) rfl c1 (ne_t he)) (.inr rfl) S1.n rfl rfl rfl, S1, ok1, by rw [errB, if_pos he]; rfl⟩
  obtain ⟨rv, h2, c2, S2, ok2, rfl⟩ := ccheck_ret H ok1 hb (hy.mono S1 ok (Nat.le_refl _)) (hys.mono S1 ok (Nat.le_refl _))
  have Sa := S1.trans (S2.le S1.n)
  exact ⟨_, h2, Comes.plain hf rfl (H.memo 94 (by decide)) (H.spec 94) rfl (f94_b_F H.hk H.prim PC (s := entry 0 [x, y]) rfl rfl c1 (ne_f he) c2) (.inr rfl) Sa.n rfl rfl rfl, Sa, ok2, by rw [errB, if_neg (fun hn => hn he)]; rfl⟩
theorem cmeet_ret (H : Std K) (PC : PlansC K) (ok : HpOk h) {a b : List (List Int)} (ha : Sml a) (hb : Sml b) {x y : CV} {cs ds : List CV} (hx : Row h x cs) (hxs : Rows h cs a) (hy : Row h y ds) (hys : Rows h ds b) : KeptE K 47 [x, y] h (errB a b) (a.filter fun s => decide (s ∈ b)) := by
  have hf : K.P.funcs[47]? = some Tryz.f47 := by rw [H.hP]; exact Tryz.func47
  obtain ⟨rv, h1, c1, S1, ok1, rfl⟩ := both_ret H PC ok ha hb hx hxs hy hys
  by_cases he : errB a b = 0
  case neg =>
    exact Fails.e he ⟨_, h1, Comes.plain hf rfl (H.memo 47 (by decide)) (H.spec 47) rfl (f47_b_T H.hk H.prim PC (s := entry 0 [x, y]) rfl rfl c1 (ne_t he)) (.inr rfl) S1.n rfl rfl rfl, S1, ok1, rfl⟩
  have he1 : errC a = 0 := by
    by_cases h0 : errC a = 0
    · exact h0
    · rw [errB, if_pos h0] at he; exact absurd he h0
  have he2 : errC b = 0 := by rw [errB, if_neg (fun hn => hn he1)] at he; exact he
  obtain ⟨rv, h2, c2, S2, ok2, km, es, rfl, hkm, hg, M⟩ := collect_ret H PC ok1 hb.len (errC_okC he2).simp (hy.mono S1 ok (Nat.le_refl _)) (hys.mono S1 ok (Nat.le_refl _))
  obtain ⟨F, B, g, o7, w3, bx, S3, ok3⟩ := box100 H ok2 km
  have Sg := (S1.trans (S2.le S1.n)).trans (S3.le (S1.trans (S2.le S1.n)).n)
  have hgg : g.get km = .mp es := by rw [S3.get km hkm]; exact hg
  obtain ⟨rv, h4, c4, S4, ok4, o, es', rfl, hO⟩ := filter_ok H ok3 ha he1 (meet97_asks H PC bx (Nat.lt_of_lt_of_le hkm S3.n) hgg M (errC_okC he1).simp) (hx.mono Sg ok (Nat.le_refl _)) (hxs.mono Sg ok (Nat.le_refl _))
  have Sall := Sg.trans (S4.le Sg.n)
  exact ⟨_, h4, Comes.plain hf rfl (H.memo 47 (by decide)) (H.spec 47) rfl (f47_b_F H.hk H.prim PC (s := entry 0 [x, y]) rfl rfl c1 (ne_f he) c2 o7 w3 c4 rfl rfl) (.inr rfl) Sall.n rfl rfl rfl, Sall, ok4, o, es', by rw [he]; rfl, by rw [if_pos he]; exact hO.low Sg.n⟩
end
end Go.CP
namespace Go.CP
open Go.Proofs
variable [LG] [HK]
theorem Out.got {N el : Nat} {h : Hp} {x : CV} {cs : List CV} (o : Out N h el x cs) (hne : cs ≠ []) : ∃ k, x = .sl k 0 cs.length cs.length ∧ N ≤ k ∧ k < h.n ∧ h.get k = .cells cs 1 el := by
  cases o with
  | nils => exact absurd rfl hne
  | @some k cs hk hn _ hs => exact ⟨k, rfl, hk, hn, hs⟩
theorem Out.keep {N el : Nat} {h h' : Hp} {x : CV} {cs : List CV} (o : Out N h el x cs) (hn : h.n ≤ h'.n) (hg : N ≤ blk x → blk x < h.n → h'.get (blk x) = h.get (blk x)) : Out N h' el x cs := by
  cases o with
  | nils => exact .nils
  | @some k cs hk hkn hne hs => exact .some hk (by omega) hne (by rw [← hs]; exact hg hk hkn)
theorem Part.keep {N el : Nat} {h h' : Hp} {x : CV} {cs : List CV} (o : Part N h el x cs) (hn : h.n ≤ h'.n) (hg : N ≤ blk x → blk x < h.n → h'.get (blk x) = h.get (blk x)) : Part N h' el x cs := by
  cases o with
  | nils => exact .nils
  | @some k cs tl hk hkn hs => exact .some hk (by omega) (by rw [← hs]; exact hg hk hkn)
theorem Out.in' {N el : Nat} {h : Hp} {x : CV} {cs : List CV} (o : Out N h el x cs) (hne : cs ≠ []) : N ≤ blk x ∧ blk x < h.n := by
  obtain ⟨k, rfl, hk, hn, _⟩ := o.got hne
  exact ⟨hk, hn⟩
theorem Part.in' {N el : Nat} {h : Hp} {x : CV} {cs : List CV} (o : Part N h el x cs) (hne : cs ≠ []) : N ≤ blk x ∧ blk x < h.n := by
  cases o with
  | nils => exact absurd rfl hne
  | some hk hn _ => exact ⟨hk, hn⟩
theorem rows_of {h : Hp} : ∀ {cs : List CV} {P : List (List Int)}, cs.length = P.length → (∀ i (hi : i < cs.length) (hj : i < P.length), Row h cs[i] (Ints P[i])) → Rows h cs P
  | [], [], _, _ => .nil
  | [], _ :: _, h, _ => by simp at h
  | _ :: _, [], h, _ => by simp at h
  | c :: cs, p :: P, h, hr => .cons (hr 0 (by simp) (by simp)) (rows_of (by simpa using h) fun i hi hj => hr (i + 1) (by simpa using hi) (by simpa using hj))
structure Sepd (N : Nat) (h : Hp) (x : CV) (cs : List CV) (P : List (List Int)) : Prop where
  out : Part N h 45 x cs
  len : cs.length = P.length
  row : ∀ i (hi : i < cs.length) (hj : i < P.length), Out N h 3 cs[i] (Ints P[i])
  ne : ∀ c ∈ P, c ≠ []
  dis : ∀ i j (hi : i < cs.length) (hj : j < cs.length), blk cs[i] = blk cs[j] → i = j
  nx : ∀ i (hi : i < cs.length), blk cs[i] ≠ blk x
theorem Sepd.rows {N : Nat} {h : Hp} {x : CV} {cs : List CV} {P : List (List Int)} (D : Sepd N h x cs P) : Rows h cs P := rows_of D.len fun i hi hj => (D.row i hi hj).row
theorem Sepd.keep {N : Nat} {h h' : Hp} {x : CV} {cs : List CV} {P : List (List Int)} (D : Sepd N h x cs P) (hn : h.n ≤ h'.n) (hg : ∀ j, N ≤ j → j < h.n → h'.get j = h.get j) : Sepd N h' x cs P :=
  ⟨D.out.keep hn (hg _), D.len, fun i hi hj => (D.row i hi hj).keep hn (hg _), D.ne, D.dis, D.nx⟩
theorem Sepd.mono {N : Nat} {h h' : Hp} {x : CV} {cs : List CV} {P : List (List Int)} (D : Sepd N h x cs P) (S : Same h.n h h') : Sepd N h' x cs P := D.keep S.n fun j _ hj => S.get j hj
theorem Sepd.low {N M : Nat} {h : Hp} {x : CV} {cs : List CV} {P : List (List Int)} (hNM : M ≤ N) (D : Sepd N h x cs P) : Sepd M h x cs P := by
  refine ⟨?_, D.len, fun i hi hj => out_mono hNM (D.row i hi hj), D.ne, D.dis, D.nx⟩
  cases D.out with
  | nils => exact .nils
  | some hk hn hs => exact .some (by omega) hn hs
theorem Sepd.nil (N : Nat) (h : Hp) : Sepd N h .nils [] [] := ⟨.nils, rfl, fun i hi => absurd hi (Nat.not_lt_zero _), by simp, fun i j hi => absurd hi (Nat.not_lt_zero _), fun i hi => absurd hi (Nat.not_lt_zero _)⟩
theorem ints_ne' {a : List Int} (h : a ≠ []) : Ints a ≠ [] := by simpa [Ints] using h
theorem Sepd.app {P0 : Program} {N b t : Nat} {g g1 : Hp} {z0 x y : CV} {cs : List CV} {P : List (List Int)} {a : List Int} (ht : tyk P0 t = .slice 45 1 b [z0]) (D : Sepd N g x cs P) (O : Out N g 45 x cs) (hN : N ≤ g.n) (S : Same g.n g g1) (ok : HpOk g1) (oy : Out g.n g1 3 y (Ints a)) (ha : a ≠ []) (hb : b ≤ 64) (hn : cs.length < 1099511627776) :
    ∃ F B x' h', lSlice 1 [(0, y)] (tyk P0 t) = some (F, B) ∧ wApp (g1.push B) x (F g1.n) (tyk P0 t) (tyk P0 t) = some (x', h') ∧ Out N h' 45 x' (cs ++ [y]) ∧ Sepd N h' x' (cs ++ [y]) (P ++ [a]) ∧ Same N g1 h' ∧ HpOk h' := by
  have hv : y.one = true := oy.row.one
  have O1 : Out N (g1.push (.cells [y] 0 45)) 45 x cs := (O.mono S (Nat.le_refl _)).mono (Same.push (Nat.le_refl _) _) (Nat.le_refl _)
  have hb2 : (cs.length + [y].length) * b ≤ 70368744177664 := by
    have : (cs.length + 1) * b ≤ 1099511627776 * 64 := Nat.mul_le_mul (by omega) hb
    simpa using this
  have e := O1.appE (z := [z0]) (t' := .slice 45 1 b [z0]) (bytes := b) (one_row (h := g1) (v := y) (el := 45)) (by simp) (by simp [hv]) rfl ⟨_, _, _, rfl⟩ hb2 (by simp; omega)
  have hn1 : (wipe (g1.push (.cells [y] 0 45)) x).n = g1.n + 1 := by rw [wipe_n]; rfl
  have hget : ∀ j, j < g1.n → (cs = [] ∨ j ≠ blk x) → ((wipe (g1.push (.cells [y] 0 45)) x).push (.cells (cs ++ [y]) 1 45)).get j = g1.get j := by
    intro j hj hx
    rw [Hp.get_push, if_neg (by omega)]
    cases O with
    | nils => show (g1.push (.cells [y] 0 45)).get j = _; rw [Hp.get_push, if_neg (by omega)]
    | @some k cs hk hkn hne hs =>
      have hjk : j ≠ k := by
        rcases hx with hx | hx
        · exact absurd hx hne
        · exact hx
      show ((g1.push (.cells [y] 0 45)).set k .dead).get j = _
      rw [Hp.get_set, if_neg hjk, Hp.get_push, if_neg (by omega)]
  have hlow : ∀ j, j < N → ((wipe (g1.push (.cells [y] 0 45)) x).push (.cells (cs ++ [y]) 1 45)).get j = g1.get j := fun j hj => by
    refine hget j (by have := S.n; omega) ?_
    by_cases hc : cs = []
    · exact .inl hc
    · have := O.in' hc; exact .inr (by omega)
  have Sn := S.n
  obtain ⟨ky, rfl, hky1, hky2, hky3⟩ := oy.got (ints_ne' ha)
  have Onew : Out N ((wipe (g1.push (.cells [.sl ky 0 (Ints a).length (Ints a).length] 0 45)) x).push (.cells (cs ++ [.sl ky 0 (Ints a).length (Ints a).length]) 1 45)) 45 (.sl (g1.push (.cells [.sl ky 0 (Ints a).length (Ints a).length] 0 45)).n 0 (cs.length + [CV.sl ky 0 (Ints a).length (Ints a).length].length) (cs.length + [CV.sl ky 0 (Ints a).length (Ints a).length].length)) (cs ++ [.sl ky 0 (Ints a).length (Ints a).length]) := by
    have := Out.some (N := N) (h := (wipe (g1.push (.cells [.sl ky 0 (Ints a).length (Ints a).length] 0 45)) x).push (.cells (cs ++ [.sl ky 0 (Ints a).length (Ints a).length]) 1 45)) (el := 45) (k := g1.n + 1) (cs := cs ++ [.sl ky 0 (Ints a).length (Ints a).length]) (by omega) (by show g1.n + 1 < (wipe (g1.push _) x).n + 1; omega) (by simp) (by rw [Hp.get_push, if_pos hn1.symm])
    simpa using this
  have hold : ∀ i (hi : i < cs.length), N ≤ blk cs[i] ∧ blk cs[i] < g.n := fun i hi => by
    have hj : i < P.length := by rw [← D.len]; exact hi
    exact (D.row i hi hj).in' (ints_ne' (D.ne _ (List.getElem_mem hj)))
  refine ⟨_, _, _, _, by rw [ht]; exact one_slice hv, by rw [ht]; exact e, Onew, ⟨Onew.part, by simp [D.len], ?_, ?_, ?_, ?_⟩, ⟨by show g1.n ≤ (wipe (g1.push _) x).n + 1; omega, hlow⟩, ((ok.push _).wipe x).push _⟩
  · intro i hi hj
    simp only [List.length_append, List.length_singleton] at hi hj
    rw [List.getElem_append, List.getElem_append]
    by_cases h : i < cs.length
    · have h' : i < P.length := by rw [← D.len]; exact h
      rw [dif_pos h, dif_pos h']
      have hb := hold i h
      exact ((D.row i h h').mono S (Nat.le_refl _)).keep (by show g1.n ≤ (wipe (g1.push _) x).n + 1; omega) fun _ hlt => hget _ hlt (.inr (D.nx i h))
    · have hc : i = cs.length := by omega
      rw [dif_neg h, dif_neg (by rw [← D.len]; exact h)]
      simp only [List.getElem_singleton]
      have : Out N g1 3 (.sl ky 0 (Ints a).length (Ints a).length) (Ints a) := .some (by omega) hky2 (ints_ne' ha) hky3
      refine this.keep (by show g1.n ≤ (wipe (g1.push _) x).n + 1; omega) fun _ hlt => hget _ hlt ?_
      by_cases hcs : cs = []
      · exact .inl hcs
      · have := O.in' hcs
        refine .inr ?_
        show ky ≠ _
        omega
  · intro c hc
    rcases List.mem_append.1 hc with h | h
    · exact D.ne c h
    · simp at h; subst h; exact ha
  · intro i j hi hj
    simp only [List.length_append, List.length_singleton] at hi hj
    rw [List.getElem_append, List.getElem_append]
    by_cases h1 : i < cs.length <;> by_cases h2 : j < cs.length
    · rw [dif_pos h1, dif_pos h2]; exact D.dis i j h1 h2
    · rw [dif_pos h1, dif_neg h2]
      simp only [List.getElem_singleton]
      intro e
      have h3 := (hold i h1).2
      have h4 : blk cs[i] = ky := e
      omega
    · rw [dif_neg h1, dif_pos h2]
      simp only [List.getElem_singleton]
      intro e
      have h3 := (hold j h2).2
      have h4 : ky = blk cs[j] := e
      omega
    · intro _; omega
  · intro i hi
    simp only [List.length_append, List.length_singleton] at hi
    show _ ≠ g1.n + 1
    rw [List.getElem_append]
    by_cases h : i < cs.length
    · rw [dif_pos h]; have := (hold i h).2; omega
    · rw [dif_neg h]; simp only [List.getElem_singleton]; show ky ≠ _; omega
theorem Sepd.erase {N : Nat} {h h' : Hp} {x r : CV} {cs : List CV} {P : List (List Int)} (D : Sepd N h x cs P) {i : Nat} (hn : h'.n = h.n) (o : Part N h' 45 r (cs.eraseIdx i)) (hb : blk r = blk x) (hg : ∀ j, j ≠ blk x → h'.get j = h.get j) : Sepd N h' r (cs.eraseIdx i) (P.eraseIdx i) := by
  have key : ∀ m (hm : m < (cs.eraseIdx i).length), ∃ z, ∃ hz : z < cs.length, (m < i → z = m) ∧ (¬ m < i → z = m + 1) ∧ (cs.eraseIdx i)[m] = cs[z] := fun m hm => by
    rw [List.getElem_eraseIdx]
    rw [List.length_eraseIdx] at hm
    by_cases h : m < i
    · exact ⟨m, by split at hm <;> omega, fun _ => rfl, fun hn => absurd h hn, by rw [dif_pos h]⟩
    · exact ⟨m + 1, by split at hm <;> omega, fun hn => absurd hn h, fun _ => rfl, by rw [dif_neg h]⟩
  refine ⟨o, by rw [List.length_eraseIdx, List.length_eraseIdx, D.len], fun m hm hm' => ?_, fun c hc => D.ne c (List.mem_of_mem_eraseIdx hc), fun m m' hm hm' e => ?_, fun m hm => ?_⟩
  · obtain ⟨z, hz, h1, h2, e⟩ := key m hm
    have hz' : z < P.length := by rw [← D.len]; exact hz
    have e2 : (P.eraseIdx i)[m] = P[z] := by
      rw [List.getElem_eraseIdx]
      by_cases h : m < i
      · rw [dif_pos h]; simp only [h1 h]
      · rw [dif_neg h]; simp only [h2 h]
    rw [e, e2]
    exact (D.row z hz hz').keep (by omega) fun _ _ => hg _ (D.nx z hz)
  · obtain ⟨z, hz, h1, h2, e1⟩ := key m hm
    obtain ⟨w, hw, f1, f2, e2⟩ := key m' hm'
    rw [e1, e2] at e
    have := D.dis z w hz hw e
    by_cases ha : m < i <;> by_cases hb : m' < i
    · rw [h1 ha, f1 hb] at this; exact this
    · rw [h1 ha, f2 hb] at this; omega
    · rw [h2 ha, f1 hb] at this; omega
    · rw [h2 ha, f2 hb] at this; omega
  · obtain ⟨z, hz, _, _, e⟩ := key m hm
    rw [e, hb]; exact D.nx z hz
end Go.CP
namespace Go.CP
open Go.Proofs
variable [LG] [HK]
theorem z26 : tsz Tryz.prog 26 = some (1, false) := by kernel_rfl
section
variable {K : Ctx} {h : Hp}
def Sorts90 (K : Ctx) (c : List Int) : Prop := ∀ {g : Hp} {N : Nat} {y : CV}, HpOk g → N ≤ g.n → Out N g 3 y (Ints c) → ∃ g', Comes K 90 [y] g (.tup []) g' ∧ Same N g g' ∧ HpOk g' ∧ Out N g' 3 y (Ints (sortI c))
structure CompI (h : Hp) (l : List (List Int)) (kb i : Nat) (g : Hp) : Prop where
  ok : HpOk g
  same : Same h.n h g
  kn : kb < g.n
  st : ∃ o ds P, g.get kb = .cells [o] 0 26 ∧ Sepd (kb + 1) g o ds P ∧ CompOk (l.take i) l P ∧ P.length ≤ i ∧ ((∀ a ∈ l.take i, a.length ≤ 1) → Out (kb + 1) g 45 o ds)
end
end Go.CP
namespace Go.CP
open Go.Proofs
variable [LG] [HK]
theorem errC_ok {l : List (List Int)} (h : OkC l) : errC l = 0 := by
  unfold errC
  rw [if_neg (by have := h.le; omega)]
  refine errG_ok _ 0 fun j _ hj => ?_
  have hj : j < l.length := by omega
  have e0 := getL hj
  have hS : errS (l.getD j []) = 0 := by rw [e0]; exact errS_zero.2 (h.simp _ (List.getElem_mem hj))
  rw [errAt_face hS (fun hp => ?_), if_pos ?_]
  · rw [List.all_eq_true]
    intro f hf
    rw [e0] at hf
    exact decide_eq_true (h.face _ (List.getElem_mem hj) f hf)
  · obtain ⟨m, rfl⟩ : ∃ m, j = m + 1 := ⟨j - 1, by omega⟩
    have := h.asc m hj
    rw [e0, show l.getD (m + 1 - 1) [] = l[m]'(by omega) from getL (i := m) (by omega), this]
    exact ⟨by decide, by decide⟩
section
variable {K : Ctx} {h : Hp}
end
end Go.CP
