import Derived.Test.YtadagifjonbmjaaGreatDoorKl4
import Derived.Test.YtadagifjonbmjaaGreatDoorKw4
import Derived.Test.YtadagifjonbmjaaGreatDoorKv0
import Derived.Test.YtadagifjonbmjaaGreatDoorKs0
import Derived.Test.YtadagifjonbmjaaGreatDoorKw1
set_option linter.all false
/- Complex: complex.Meet. -/
namespace Go.CP
open Go.Proofs
variable [LG] [HK]
theorem ceq_mp (k : Nat) : ceq (.mp k) (.mp k) = true := Nat.beq_refl k
theorem z100 : tsz Tryz.prog 100 = some (1, false) := by kernel_rfl
theorem e100 : tzero Tryz.prog 100 = some .nilm := by kernel_rfl
section
variable {K : Ctx} {h : Hp}
theorem z100' (H : Std K) : tsz K.P 100 = some (1, false) := by rw [H.hP]; exact z100
/-- A cell for a map, and what is put there. -/
theorem box100 (H : Std K) (ok : HpOk h) (km : Nat) : ∃ F B g, lAlloc 100 (tzero K.P 100) = some (F, B) ∧ wStore (h.push B) (F h.n) (.mp km) (tsz K.P 100) = some (.undef, g) ∧ Box g (F h.n) (.mp km) ∧ Same h.n h g ∧ HpOk g := by
  have hg : (h.push (.cells [.nilm] 0 100)).get h.n = .cells [.nilm] 0 100 := by rw [Hp.get_push, if_pos rfl]
  refine ⟨fun k => .ptr k 0, .cells [.nilm] 0 100, (h.push (.cells [.nilm] 0 100)).set h.n (.cells [.mp km] 0 100), by rw [H.hP, e100]; rfl, ?_, ⟨⟨h.n, 100, rfl, by simp, by rw [Hp.get_set, if_pos rfl]⟩⟩, (Same.push (Nat.le_refl _) _).trans (Same.set (Nat.le_refl _) _), (ok.push _).set (by simp) _⟩
  rw [z100' H]
  show wStoreB (h.push (.cells [.nilm] 0 100)) h.n 0 1 (.mp km) ((h.push (.cells [.nilm] 0 100)).get h.n) = _
  rw [hg]; rfl
/-- complex.collect. -/
theorem collect_ret (H : Std K) (PC : PlansC K) (ok : HpOk h) {l : List (List Int)} (hl : l.length < 549755813888) (hok : ∀ a ∈ l, OkS a) {x : CV} {cs : List CV} (hx : Row h x cs) (hxs : Rows h cs l) : Ret K 95 [x] h fun r h' => ∃ km es, r = .mp km ∧ km < h'.n ∧ h'.get km = .mp es ∧ MapOf es l := by
  have hf : K.P.funcs[95]? = some Tryz.f95 := by rw [H.hP]; exact Tryz.func95
  have hcl := hxs.length
  have S0 : Same h.n h (h.push (.mp [])) := Same.push (Nat.le_refl _) _
  have hlen1 := len22 H (hx.mono S0 ok (Nat.le_refl _))
  rw [hcl] at hlen1
  obtain ⟨s2, r2, k3, k7, k8, k9, ks⟩ : ∃ s2, Runs K 95 19 none (sub1 [1, 1, 0, 0] (bodyOf Tryz.f95)) (T.set (T.set (T.set (entry 0 [x]) 2 .nilm) 6 (.mp h.n)) 3 (.mp h.n)) (h.push (.mp [])) .normal s2 (h.push (.mp [])) ∧ s2.at 3 = .mp h.n ∧ s2.at 7 = x ∧ s2.at 8 = .nu .i64 (.ofNat l.length) ∧ s2.at 9 = .nu .i64 (.ofNat 0) ∧ s2.at slot = .undef := ⟨_, f95_r2 H.hk rfl hlen1, rfl, rfl, rfl, rfl, rfl⟩
  obtain ⟨s', h', r, ok', S, hkn, ⟨hs, h3⟩, es, hg, M⟩ := RunQ.loopE (K := K) (f := 95) (n := 19) (c := sub1 [1, 1, 0, 1, 0, 0] (bodyOf Tryz.f95)) (s := s2) (h := h.push (.mp [])) (m := l.length) (b := 0)
    (I := fun i s g => HpOk g ∧ Same h.n h g ∧ h.n < g.n ∧ s.at 3 = .mp h.n ∧ s.at 7 = x ∧ s.at 8 = .nu .i64 (.ofNat l.length) ∧ s.at 9 = .nu .i64 (.ofNat i) ∧ s.at slot = .undef ∧ ∃ es, g.get h.n = .mp es ∧ MapOf es (l.take i))
    (E := fun s g => HpOk g ∧ Same h.n h g ∧ h.n < g.n ∧ (s.at slot = .undef ∧ s.at 3 = .mp h.n) ∧ ∃ es, g.get h.n = .mp es ∧ MapOf es l)
    ⟨ok.push _, S0, by simp, k3, k7, k8, k9, ks, [], by rw [Hp.get_push, if_pos rfl], by simp, by intro a _ hm; simp at hm, fun a _ _ => rfl⟩
    (fun i s g hi ⟨okg, S, hkn, g3, g7, g8, g9, gs, es, hg, M⟩ => by
      have hr := hx.mono S ok (Nat.le_refl _)
      obtain ⟨p, hp1, hp2⟩ := at22 H hr (i := i) (by omega)
      have hxi := (hxs.get (i := i) (by omega) hi).mono S ok (Nat.le_refl _)
      have okS := hok _ (List.getElem_mem hi)
      obtain ⟨k, o, n, c, hsl, _⟩ := hxi.blk (ints_ne okS.ne) okg
      obtain ⟨h1, c71, S1, ok1⟩ := of_comes H okg okS.le okS.rng hxi
      have hg1 : h1.get h.n = .mp es := by rw [S1.get h.n hkn]; exact hg
      have hkn1 : h.n < h1.n := Nat.lt_of_lt_of_le hkn S1.n
      obtain ⟨es', u1, u2, u3, u4⟩ := updM_ok (v := cs[i]) (numK_pad okS.le) es M.num
      have w3 : wMap K.P h1 (.mp h.n) (.agg (padI l[i])) cs[i] (tyk K.P 100) = some (.undef, h1.set h.n (.mp es')) := by
        rw [show tyk K.P 100 = .map 103 46 by rw [H.hP]; exact t100]
        simp only [wMap, keyOk_pad H okS.le, wMapB, hg1, u1, wMapE]
      refine ⟨_, _, f95_b110100_T H.hk H.prim PC g9 g8 g7 g3 (lessN hi) hp1 hp2 c71 w3 (inc (by omega)), ok1.set hkn1 _, (S.trans (S1.le S.n)).trans (Same.set (Nat.le_refl _) _), hkn1, g3, g7, g8, rfl, gs, es', by rw [Hp.get_set, if_pos rfl], ?_⟩
      rw [take_snoc hi]
      rw [hsl] at u1
      exact M.put okS u1)
    (fun s g ⟨okg, S, hkn, g3, g7, g8, g9, gs, es, hg, M⟩ =>
      ⟨_, _, f95_b110100_F H.hk H.prim PC g9 g8 (lessN' (Nat.le_refl _)), okg, S, hkn, ⟨gs, g3⟩, es, hg, by rw [List.take_length] at M; exact M⟩)
  exact ⟨_, h', Comes.plain hf rfl (H.memo 95 (by decide)) (H.spec 95) rfl (Runs.seq (f95_r0 H.hk) (Runs.seq (f95_r1 H.hk) (Runs.seq (Runs.seq r2 r) (f95_b111 H.hk H.prim PC h3)))) (.inr rfl) S.n hs rfl rfl, S, ok', h.n, es, rfl, hkn, hg, M⟩
/-- The closure of Meet. -/
theorem meet97_asks (H : Std K) (PC : PlansC K) {h0 : Hp} {q : CV} {km : Nat} {es : List (CV × CV)} {l b : List (List Int)} (hq : Box h0 q (.mp km)) (hkm : km < h0.n) (hg : h0.get km = .mp es) (M : MapOf es b) (hl : ∀ a ∈ l, OkS a) : Asks K h0 97 [q] l (fun a => decide (a ∈ b)) := by
  intro y a g ha ok S r
  have hf : K.P.funcs[97]? = some Tryz.f97 := by rw [H.hP]; exact Tryz.func97
  have okS := hl a ha
  obtain ⟨h1, c71, S1, ok1⟩ := of_comes H ok okS.le okS.rng r
  have hqg := hq.mono S (Nat.le_refl _)
  have o4 := hqg.load (z100' H)
  have o4' := (hqg.mono S1 (Nat.le_refl _)).load (z100' H)
  have hkg : km < g.n := Nat.lt_of_lt_of_le hkm S.n
  have hgg : h1.get km = .mp es := by rw [S1.get km hkg, S.get km hkm]; exact hg
  by_cases hm : a ∈ b
  · obtain ⟨k, o, n, c, hlk⟩ := M.yes a okS hm
    have o8 : bineq K.P .neq 46 (.sl k o n c) .nils = some (.bo true) := by
      have : tyk K.P 46 = .slice 3 1 8 [.nu .i64 0] := by rw [H.hP]; exact t46
      simp [bineq, abin, aeq, this]
    exact ⟨_, h1, Comes.plain hf rfl (H.memo 97 (by decide)) (H.spec 97) rfl (f97_b H.hk H.prim PC (s := entry 0 [y, q]) rfl rfl o4 (ceq_mp _) c71 o4' (look_comes H okS.le hgg hlk) o8) (.inr rfl) S1.n rfl rfl rfl, S1, ok1, by simp [hm]; rfl⟩
  · have o8 : bineq K.P .neq 46 .nils .nils = some (.bo false) := by
      have : tyk K.P 46 = .slice 3 1 8 [.nu .i64 0] := by rw [H.hP]; exact t46
      simp [bineq, abin, aeq, this]
    exact ⟨_, h1, Comes.plain hf rfl (H.memo 97 (by decide)) (H.spec 97) rfl (f97_b H.hk H.prim PC (s := entry 0 [y, q]) rfl rfl o4 (ceq_mp _) c71 o4' (look_no H okS.le hgg (M.no a okS hm)) o8) (.inr rfl) S1.n rfl rfl rfl, S1, ok1, by simp [hm]; rfl⟩
/-- The first error of two lists. -/
def errB (a b : List (List Int)) : Int := if errC a ≠ 0 then errC a else errC b
theorem both_ret (H : Std K) (PC : PlansC K) (ok : HpOk h) {a b : List (List Int)} (ha : Sml a) (hb : Sml b) {x y : CV} {cs ds : List CV} (hx : Row h x cs) (hxs : Rows h cs a) (hy : Row h y ds) (hys : Rows h ds b) : Ret K 94 [x, y] h fun r _ => r = .nu .i64 (errB a b) := by
  have hf : K.P.funcs[94]? = some Tryz.f94 := by rw [H.hP]; exact Tryz.func94
  obtain ⟨rv, h1, c1, S1, ok1, rfl⟩ := ccheck_ret H ok ha hx hxs
  by_cases he : errC a = 0
  case neg =>
    exact ⟨_, h1, Comes.plain hf rfl (H.memo 94 (by decide)) (H.spec 94) rfl (f94_b_T H.hk H.prim PC (s := entry 0 [x, y]) rfl c1 (ne_t he)) (.inr rfl) S1.n rfl rfl rfl, S1, ok1, by rw [errB, if_pos he]; rfl⟩
  obtain ⟨rv, h2, c2, S2, ok2, rfl⟩ := ccheck_ret H ok1 hb (hy.mono S1 ok (Nat.le_refl _)) (hys.mono S1 ok (Nat.le_refl _))
  have Sa := S1.trans (S2.le S1.n)
  exact ⟨_, h2, Comes.plain hf rfl (H.memo 94 (by decide)) (H.spec 94) rfl (f94_b_F H.hk H.prim PC (s := entry 0 [x, y]) rfl rfl c1 (ne_f he) c2) (.inr rfl) Sa.n rfl rfl rfl, Sa, ok2, by rw [errB, if_neg (fun hn => hn he)]; rfl⟩
/-- complex.Meet. -/
theorem cmeet_ret (H : Std K) (PC : PlansC K) (ok : HpOk h) {a b : List (List Int)} (ha : Sml a) (hb : Sml b) {x y : CV} {cs ds : List CV} (hx : Row h x cs) (hxs : Rows h cs a) (hy : Row h y ds) (hys : Rows h ds b) : KeptE K 47 [x, y] h (errB a b) (a.filter fun s => decide (s ∈ b)) := by
  have hf : K.P.funcs[47]? = some Tryz.f47 := by rw [H.hP]; exact Tryz.func47
  obtain ⟨rv, h1, c1, S1, ok1, rfl⟩ := both_ret H PC ok ha hb hx hxs hy hys
  by_cases he : errB a b = 0
  case neg =>
    exact Fails.e he ⟨_, h1, Comes.plain hf rfl (H.memo 47 (by decide)) (H.spec 47) rfl (f47_b_T H.hk H.prim PC (s := entry 0 [x, y]) rfl rfl c1 (ne_t he)) (.inr rfl) S1.n rfl rfl rfl, S1, ok1, rfl⟩
  have he1 : errC a = 0 := by
    by_cases h0 : errC a = 0
    · exact h0
    · rw [errB, if_pos h0] at he; exact absurd he h0
  have he2 : errC b = 0 := by rw [errB, if_neg (fun hn => hn he1)] at he; exact he
  obtain ⟨rv, h2, c2, S2, ok2, km, es, rfl, hkm, hg, M⟩ := collect_ret H PC ok1 hb.len (errC_okC he2).simp (hy.mono S1 ok (Nat.le_refl _)) (hys.mono S1 ok (Nat.le_refl _))
  obtain ⟨F, B, g, o7, w3, bx, S3, ok3⟩ := box100 H ok2 km
  have Sg := (S1.trans (S2.le S1.n)).trans (S3.le (S1.trans (S2.le S1.n)).n)
  have hgg : g.get km = .mp es := by rw [S3.get km hkm]; exact hg
  obtain ⟨rv, h4, c4, S4, ok4, o, es', rfl, hO⟩ := filter_ok H ok3 ha he1 (meet97_asks H PC bx (Nat.lt_of_lt_of_le hkm S3.n) hgg M (errC_okC he1).simp) (hx.mono Sg ok (Nat.le_refl _)) (hxs.mono Sg ok (Nat.le_refl _))
  have Sall := Sg.trans (S4.le Sg.n)
  exact ⟨_, h4, Comes.plain hf rfl (H.memo 47 (by decide)) (H.spec 47) rfl (f47_b_F H.hk H.prim PC (s := entry 0 [x, y]) rfl rfl c1 (ne_f he) c2 o7 w3 c4 rfl rfl) (.inr rfl) Sall.n rfl rfl rfl, Sall, ok4, o, es', by rw [he]; rfl, by rw [if_pos he]; exact hO.low Sg.n⟩
end
end Go.CP
/- Complex: lists of their own, each in a block of its own; the small functions of Components. -/
namespace Go.CP
open Go.Proofs
variable [LG] [HK]
theorem Out.got {N el : Nat} {h : Hp} {x : CV} {cs : List CV} (o : Out N h el x cs) (hne : cs ≠ []) : ∃ k, x = .sl k 0 cs.length cs.length ∧ N ≤ k ∧ k < h.n ∧ h.get k = .cells cs 1 el := by
  cases o with
  | nils => exact absurd rfl hne
  | @some k cs hk hn _ hs => exact ⟨k, rfl, hk, hn, hs⟩
theorem Out.keep {N el : Nat} {h h' : Hp} {x : CV} {cs : List CV} (o : Out N h el x cs) (hn : h.n ≤ h'.n) (hg : N ≤ blk x → blk x < h.n → h'.get (blk x) = h.get (blk x)) : Out N h' el x cs := by
  cases o with
  | nils => exact .nils
  | @some k cs hk hkn hne hs => exact .some hk (by omega) hne (by rw [← hs]; exact hg hk hkn)
theorem Part.keep {N el : Nat} {h h' : Hp} {x : CV} {cs : List CV} (o : Part N h el x cs) (hn : h.n ≤ h'.n) (hg : N ≤ blk x → blk x < h.n → h'.get (blk x) = h.get (blk x)) : Part N h' el x cs := by
  cases o with
  | nils => exact .nils
  | @some k cs tl hk hkn hs => exact .some hk (by omega) (by rw [← hs]; exact hg hk hkn)
theorem Out.in' {N el : Nat} {h : Hp} {x : CV} {cs : List CV} (o : Out N h el x cs) (hne : cs ≠ []) : N ≤ blk x ∧ blk x < h.n := by
  obtain ⟨k, rfl, hk, hn, _⟩ := o.got hne
  exact ⟨hk, hn⟩
theorem Part.in' {N el : Nat} {h : Hp} {x : CV} {cs : List CV} (o : Part N h el x cs) (hne : cs ≠ []) : N ≤ blk x ∧ blk x < h.n := by
  cases o with
  | nils => exact absurd rfl hne
  | some hk hn _ => exact ⟨hk, hn⟩
theorem rows_of {h : Hp} : ∀ {cs : List CV} {P : List (List Int)}, cs.length = P.length → (∀ i (hi : i < cs.length) (hj : i < P.length), Row h cs[i] (Ints P[i])) → Rows h cs P
  | [], [], _, _ => .nil
  | [], _ :: _, h, _ => by simp at h
  | _ :: _, [], h, _ => by simp at h
  | c :: cs, p :: P, h, hr => .cons (hr 0 (by simp) (by simp)) (rows_of (by simpa using h) fun i hi hj => hr (i + 1) (by simpa using hi) (by simpa using hj))
/-- Lists of their own, each in a block of its own. -/
structure Sepd (N : Nat) (h : Hp) (x : CV) (cs : List CV) (P : List (List Int)) : Prop where
  out : Part N h 45 x cs
  len : cs.length = P.length
  row : ∀ i (hi : i < cs.length) (hj : i < P.length), Out N h 3 cs[i] (Ints P[i])
  ne : ∀ c ∈ P, c ≠ []
  dis : ∀ i j (hi : i < cs.length) (hj : j < cs.length), blk cs[i] = blk cs[j] → i = j
  nx : ∀ i (hi : i < cs.length), blk cs[i] ≠ blk x
theorem Sepd.rows {N : Nat} {h : Hp} {x : CV} {cs : List CV} {P : List (List Int)} (D : Sepd N h x cs P) : Rows h cs P := rows_of D.len fun i hi hj => (D.row i hi hj).row
theorem Sepd.keep {N : Nat} {h h' : Hp} {x : CV} {cs : List CV} {P : List (List Int)} (D : Sepd N h x cs P) (hn : h.n ≤ h'.n) (hg : ∀ j, N ≤ j → j < h.n → h'.get j = h.get j) : Sepd N h' x cs P :=
  ⟨D.out.keep hn (hg _), D.len, fun i hi hj => (D.row i hi hj).keep hn (hg _), D.ne, D.dis, D.nx⟩
theorem Sepd.mono {N : Nat} {h h' : Hp} {x : CV} {cs : List CV} {P : List (List Int)} (D : Sepd N h x cs P) (S : Same h.n h h') : Sepd N h' x cs P := D.keep S.n fun j _ hj => S.get j hj
theorem Sepd.low {N M : Nat} {h : Hp} {x : CV} {cs : List CV} {P : List (List Int)} (hNM : M ≤ N) (D : Sepd N h x cs P) : Sepd M h x cs P := by
  refine ⟨?_, D.len, fun i hi hj => out_mono hNM (D.row i hi hj), D.ne, D.dis, D.nx⟩
  cases D.out with
  | nils => exact .nils
  | some hk hn hs => exact .some (by omega) hn hs
theorem Sepd.nil (N : Nat) (h : Hp) : Sepd N h .nils [] [] := ⟨.nils, rfl, fun i hi => absurd hi (Nat.not_lt_zero _), by simp, fun i j hi => absurd hi (Nat.not_lt_zero _), fun i hi => absurd hi (Nat.not_lt_zero _)⟩
theorem ints_ne' {a : List Int} (h : a ≠ []) : Ints a ≠ [] := by simpa [Ints] using h
/-- One list more. -/
theorem Sepd.app {P0 : Program} {N b t : Nat} {g g1 : Hp} {z0 x y : CV} {cs : List CV} {P : List (List Int)} {a : List Int} (ht : tyk P0 t = .slice 45 1 b [z0]) (D : Sepd N g x cs P) (O : Out N g 45 x cs) (hN : N ≤ g.n) (S : Same g.n g g1) (ok : HpOk g1) (oy : Out g.n g1 3 y (Ints a)) (ha : a ≠ []) (hb : b ≤ 64) (hn : cs.length < 1099511627776) :
    ∃ F B x' h', lSlice 1 [(0, y)] (tyk P0 t) = some (F, B) ∧ wApp (g1.push B) x (F g1.n) (tyk P0 t) (tyk P0 t) = some (x', h') ∧ Out N h' 45 x' (cs ++ [y]) ∧ Sepd N h' x' (cs ++ [y]) (P ++ [a]) ∧ Same N g1 h' ∧ HpOk h' := by
  have hv : y.one = true := oy.row.one
  have O1 : Out N (g1.push (.cells [y] 0 45)) 45 x cs := (O.mono S (Nat.le_refl _)).mono (Same.push (Nat.le_refl _) _) (Nat.le_refl _)
  have hb2 : (cs.length + [y].length) * b ≤ 70368744177664 := by
    have : (cs.length + 1) * b ≤ 1099511627776 * 64 := Nat.mul_le_mul (by omega) hb
    simpa using this
  have e := O1.appE (z := [z0]) (t' := .slice 45 1 b [z0]) (bytes := b) (one_row (h := g1) (v := y) (el := 45)) (by simp) (by simp [hv]) rfl ⟨_, _, _, rfl⟩ hb2 (by simp; omega)
  have hn1 : (wipe (g1.push (.cells [y] 0 45)) x).n = g1.n + 1 := by rw [wipe_n]; rfl
  have hget : ∀ j, j < g1.n → (cs = [] ∨ j ≠ blk x) → ((wipe (g1.push (.cells [y] 0 45)) x).push (.cells (cs ++ [y]) 1 45)).get j = g1.get j := by
    intro j hj hx
    rw [Hp.get_push, if_neg (by omega)]
    cases O with
    | nils => show (g1.push (.cells [y] 0 45)).get j = _; rw [Hp.get_push, if_neg (by omega)]
    | @some k cs hk hkn hne hs =>
      have hjk : j ≠ k := by
        rcases hx with hx | hx
        · exact absurd hx hne
        · exact hx
      show ((g1.push (.cells [y] 0 45)).set k .dead).get j = _
      rw [Hp.get_set, if_neg hjk, Hp.get_push, if_neg (by omega)]
  have hlow : ∀ j, j < N → ((wipe (g1.push (.cells [y] 0 45)) x).push (.cells (cs ++ [y]) 1 45)).get j = g1.get j := fun j hj => by
    refine hget j (by have := S.n; omega) ?_
    by_cases hc : cs = []
    · exact .inl hc
    · have := O.in' hc; exact .inr (by omega)
  have Sn := S.n
  obtain ⟨ky, rfl, hky1, hky2, hky3⟩ := oy.got (ints_ne' ha)
  have Onew : Out N ((wipe (g1.push (.cells [.sl ky 0 (Ints a).length (Ints a).length] 0 45)) x).push (.cells (cs ++ [.sl ky 0 (Ints a).length (Ints a).length]) 1 45)) 45 (.sl (g1.push (.cells [.sl ky 0 (Ints a).length (Ints a).length] 0 45)).n 0 (cs.length + [CV.sl ky 0 (Ints a).length (Ints a).length].length) (cs.length + [CV.sl ky 0 (Ints a).length (Ints a).length].length)) (cs ++ [.sl ky 0 (Ints a).length (Ints a).length]) := by
    have := Out.some (N := N) (h := (wipe (g1.push (.cells [.sl ky 0 (Ints a).length (Ints a).length] 0 45)) x).push (.cells (cs ++ [.sl ky 0 (Ints a).length (Ints a).length]) 1 45)) (el := 45) (k := g1.n + 1) (cs := cs ++ [.sl ky 0 (Ints a).length (Ints a).length]) (by omega) (by show g1.n + 1 < (wipe (g1.push _) x).n + 1; omega) (by simp) (by rw [Hp.get_push, if_pos hn1.symm])
    simpa using this
  have hold : ∀ i (hi : i < cs.length), N ≤ blk cs[i] ∧ blk cs[i] < g.n := fun i hi => by
    have hj : i < P.length := by rw [← D.len]; exact hi
    exact (D.row i hi hj).in' (ints_ne' (D.ne _ (List.getElem_mem hj)))
  refine ⟨_, _, _, _, by rw [ht]; exact one_slice hv, by rw [ht]; exact e, Onew, ⟨Onew.part, by simp [D.len], ?_, ?_, ?_, ?_⟩, ⟨by show g1.n ≤ (wipe (g1.push _) x).n + 1; omega, hlow⟩, ((ok.push _).wipe x).push _⟩
  · intro i hi hj
    simp only [List.length_append, List.length_singleton] at hi hj
    rw [List.getElem_append, List.getElem_append]
    by_cases h : i < cs.length
    · have h' : i < P.length := by rw [← D.len]; exact h
      rw [dif_pos h, dif_pos h']
      have hb := hold i h
      exact ((D.row i h h').mono S (Nat.le_refl _)).keep (by show g1.n ≤ (wipe (g1.push _) x).n + 1; omega) fun _ hlt => hget _ hlt (.inr (D.nx i h))
    · have hc : i = cs.length := by omega
      rw [dif_neg h, dif_neg (by rw [← D.len]; exact h)]
      simp only [List.getElem_singleton]
      have : Out N g1 3 (.sl ky 0 (Ints a).length (Ints a).length) (Ints a) := .some (by omega) hky2 (ints_ne' ha) hky3
      refine this.keep (by show g1.n ≤ (wipe (g1.push _) x).n + 1; omega) fun _ hlt => hget _ hlt ?_
      by_cases hcs : cs = []
      · exact .inl hcs
      · have := O.in' hcs
        refine .inr ?_
        show ky ≠ _
        omega
  · intro c hc
    rcases List.mem_append.1 hc with h | h
    · exact D.ne c h
    · simp at h; subst h; exact ha
  · intro i j hi hj
    simp only [List.length_append, List.length_singleton] at hi hj
    rw [List.getElem_append, List.getElem_append]
    by_cases h1 : i < cs.length <;> by_cases h2 : j < cs.length
    · rw [dif_pos h1, dif_pos h2]; exact D.dis i j h1 h2
    · rw [dif_pos h1, dif_neg h2]
      simp only [List.getElem_singleton]
      intro e
      have h3 := (hold i h1).2
      have h4 : blk cs[i] = ky := e
      omega
    · rw [dif_neg h1, dif_pos h2]
      simp only [List.getElem_singleton]
      intro e
      have h3 := (hold j h2).2
      have h4 : ky = blk cs[j] := e
      omega
    · intro _; omega
  · intro i hi
    simp only [List.length_append, List.length_singleton] at hi
    show _ ≠ g1.n + 1
    rw [List.getElem_append]
    by_cases h : i < cs.length
    · rw [dif_pos h]; have := (hold i h).2; omega
    · rw [dif_neg h]; simp only [List.getElem_singleton]; show ky ≠ _; omega
/-- Two lists become one: the append, and what is stored. -/
theorem Sepd.merge {P0 : Program} {N : Nat} {g : Hp} {x : CV} {cs : List CV} {P : List (List Int)} (h45 : tyk P0 45 = .slice 3 1 8 [.nu .i64 0]) (h26 : tyk P0 26 = .slice 45 1 24 [.nils]) (D : Sepd N g x cs P) (hN : N ≤ g.n) (ok : HpOk g) {i j : Nat} (hij : i ≠ j) (hi : i < cs.length) (hj : j < cs.length) (hi' : i < P.length) (hj' : j < P.length) (hsm : P[i].length + P[j].length ≤ 1024) :
    ∃ p q y g1 g2, qIndexAddr x (.nu .i64 (.ofNat i)) (tyk P0 26) = some p ∧ qIndexAddr x (.nu .i64 (.ofNat j)) (tyk P0 26) = some q ∧ qLoad g p (some (1, false)) = some cs[i] ∧ qLoad g q (some (1, false)) = some cs[j] ∧
      wApp g cs[i] cs[j] (tyk P0 45) (tyk P0 45) = some (y, g1) ∧ wStore g1 p y (some (1, false)) = some (.undef, g2) ∧ qLoad g2 p (some (1, false)) = some y ∧ Same N g g1 ∧ Same N g g2 ∧ HpOk g2 ∧ g.n ≤ g2.n ∧ Out g.n g2 3 y (Ints (P[i] ++ P[j])) ∧
      ∀ g3 c, c ≠ [] → Same g.n g2 g3 → Out g.n g3 3 y (Ints c) → Sepd N g3 x (cs.set i y) (P.set i c) := by
  have hPi : P[i] ≠ [] := D.ne _ (List.getElem_mem hi')
  have hPj : P[j] ≠ [] := D.ne _ (List.getElem_mem hj')
  have oi := D.row i hi hi'
  have oj := D.row j hj hj'
  have hli : (Ints P[i]).length = P[i].length := ints_length _
  have hlj : (Ints P[j]).length = P[j].length := ints_length _
  have e := oi.appE (z := [.nu .i64 0]) (t' := .slice 3 1 8 [.nu .i64 0]) (bytes := 8) oj.row (ints_ne' hPj) (by simp [Ints, List.all_eq_true, CV.one]) rfl ⟨_, _, _, rfl⟩ (by omega) (by omega)
  obtain ⟨ki, hki, hki1, hki2, hki3⟩ := oi.got (ints_ne' hPi)
  have hw : wipe g cs[i] = g.set ki .dead := by rw [hki]; rfl
  have hbi : blk cs[i] = ki := by rw [hki]; rfl
  have hnx := D.nx i hi
  rw [hbi] at hnx
  cases hx : D.out with
  | nils => simp at hi
  | @some kx cs tl hkx1 hkx2 hkx3 =>
    have hnk : ki ≠ kx := hnx
    have hb : Nat.blt i cs.length = true := by simpa using hi
    have hb' : Nat.blt j cs.length = true := by simpa using hj
    have hlen : (cs ++ tl).length = cs.length + tl.length := List.length_append
    have hld : ∀ (D' : List CV) (m : Nat) (hm : m < D'.length), hbVal (0 + m * 1) 1 false (.cells D' 1 45) = some D'[m] := fun D' m hm => by
      have h1 : D'[m]? = some D'[m] := List.getElem?_eq_getElem hm
      simp only [hbVal, val, Nat.mul_one, Nat.zero_add, Nat.ble_eq_true_of_le (show m + 1 ≤ D'.length by omega), Nat.beq_refl, h1]
    generalize hy : (CV.sl g.n 0 ((Ints P[i]).length + (Ints P[j]).length) ((Ints P[i]).length + (Ints P[j]).length)) = y at e
    generalize hg1 : (wipe g cs[i]).push (.cells (Ints P[i] ++ Ints P[j]) 1 3) = g1 at e
    have hg1n : g1.n = g.n + 1 := by rw [← hg1]; show (wipe g cs[i]).n + 1 = _; rw [wipe_n]
    have hg1g : ∀ m, m < g.n → m ≠ ki → g1.get m = g.get m := fun m hm hne => by
      rw [← hg1, Hp.get_push, if_neg (by rw [wipe_n]; omega), hw, Hp.get_set, if_neg hne]
    have hg1y : g1.get g.n = .cells (Ints P[i] ++ Ints P[j]) 1 3 := by rw [← hg1, Hp.get_push, if_pos (by rw [wipe_n])]
    have hok1 : HpOk g1 := by rw [← hg1]; exact (ok.wipe _).push _
    have hy1 : y.one = true := by rw [← hy]; rfl
    have hyc := one_cells hy1
    have hkg1 : g1.get kx = .cells (cs ++ tl) 1 45 := by rw [hg1g kx hkx2 (Ne.symm hnk)]; exact hkx3
    have hst : wStore g1 (.ptr kx (0 + i * 1)) y (some (1, false)) = some (.undef, g1.set kx (.cells ((cs ++ tl).set i y) 1 45)) := by
      show wStoreB g1 kx (0 + i * 1) 1 y (g1.get kx) = _
      rw [hkg1]
      simp only [wStoreB, CV.sol, hyc, List.all_cons, hy1, List.all_nil, Bool.and_self, List.length_singleton, Nat.beq_refl, Nat.mul_one, Nat.zero_add, Nat.ble_eq_true_of_le (show i + 1 ≤ (cs ++ tl).length by omega), setAt_one]
    have hset : (cs ++ tl).set i y = cs.set i y ++ tl := List.set_append_left i y hi
    have hg2g : ∀ m, m < g.n → m ≠ ki → m ≠ kx → (g1.set kx (.cells ((cs ++ tl).set i y) 1 45)).get m = g.get m := fun m hm h1 h2 => by
      rw [Hp.get_set, if_neg h2]; exact hg1g m hm h1
    refine ⟨.ptr kx (0 + i * 1), .ptr kx (0 + j * 1), y, g1, g1.set kx (.cells ((cs ++ tl).set i y) 1 45), by rw [h26]; simp only [qIndexAddr, qAt, hb], by rw [h26]; simp only [qIndexAddr, qAt, hb'], ?_, ?_, by rw [h45]; exact e, hst, ?_, ⟨by omega, fun m hm => hg1g m (by omega) (by omega)⟩, ⟨by show g.n ≤ g1.n; omega, fun m hm => hg2g m (by omega) (by omega) (by omega)⟩, hok1.set (by omega) _, by show g.n ≤ g1.n; omega, ?_, ?_⟩
    · show hbVal (0 + i * 1) 1 false (g.get kx) = _
      rw [hkx3, hld _ i (by omega), List.getElem_append_left hi]
    · show hbVal (0 + j * 1) 1 false (g.get kx) = _
      rw [hkx3, hld _ j (by omega), List.getElem_append_left hj]
    · show hbVal (0 + i * 1) 1 false ((g1.set kx _).get kx) = _
      rw [Hp.get_set, if_pos rfl, hld _ i (by rw [List.length_set]; omega)]
      simp
    · have := Out.some (N := g.n) (h := g1.set kx (.cells ((cs ++ tl).set i y) 1 45)) (el := 3) (k := g.n) (cs := Ints P[i] ++ Ints P[j]) (Nat.le_refl _) (by show g.n < g1.n; omega) (by simp [ints_ne' hPi]) (by rw [Hp.get_set, if_neg (by omega)]; exact hg1y)
      rw [List.length_append, hy] at this
      rw [show Ints (P[i] ++ P[j]) = Ints P[i] ++ Ints P[j] by simp [Ints]]
      exact this
    · intro g3 c hc S3 oc
      have hg3n := S3.n
      have hg3n' : g.n + 1 ≤ g3.n := by
        have : (g1.set kx (.cells ((cs ++ tl).set i y) 1 45)).n = g.n + 1 := hg1n
        omega
      have hget : ∀ m, m < g.n → m ≠ ki → m ≠ kx → g3.get m = g.get m := fun m hm h1 h2 => by rw [S3.get m hm]; exact hg2g m hm h1 h2
      have hby : blk y = g.n := by rw [← hy]; rfl
      have hold : ∀ m (hm : m < cs.length), N ≤ blk cs[m] ∧ blk cs[m] < g.n := fun m hm => by
        have hm' : m < P.length := by rw [← D.len]; exact hm
        exact (D.row m hm hm').in' (ints_ne' (D.ne _ (List.getElem_mem hm')))
      refine ⟨?_, by simp [D.len], ?_, ?_, ?_, ?_⟩
      · have := Part.some (N := N) (h := g3) (el := 45) (k := kx) (cs := cs.set i y) (tl := tl) hkx1 (by omega) (by rw [S3.get kx hkx2, Hp.get_set, if_pos rfl, hset])
        rw [List.length_set] at this
        exact this
      · intro m hm hm'
        rw [List.length_set] at hm hm'
        rw [List.getElem_set, List.getElem_set]
        by_cases hmi : i = m
        · rw [if_pos hmi, if_pos hmi]; exact out_mono hN oc
        · rw [if_neg hmi, if_neg hmi]
          refine (D.row m hm hm').keep (by omega) fun _ hlt => hget _ hlt ?_ (D.nx m hm)
          intro e; rw [← hbi] at e; exact hmi (D.dis m i hm hi e).symm
      · intro d hd
        rcases List.mem_or_eq_of_mem_set hd with h | h
        · exact D.ne d h
        · rw [h]; exact hc
      · intro m m' hm hm'
        rw [List.length_set] at hm hm'
        rw [List.getElem_set, List.getElem_set]
        by_cases h1 : i = m <;> by_cases h2 : i = m'
        · intro _; omega
        · rw [if_pos h1, if_neg h2, hby]
          intro e; have := (hold m' hm').2; omega
        · rw [if_neg h1, if_pos h2, hby]
          intro e; have := (hold m hm).2; omega
        · rw [if_neg h1, if_neg h2]; exact D.dis m m' hm hm'
      · intro m hm
        rw [List.length_set] at hm
        rw [List.getElem_set]
        by_cases h1 : i = m
        · rw [if_pos h1, hby]; show g.n ≠ kx; omega
        · rw [if_neg h1]; exact D.nx m hm
theorem Sepd.erase {N : Nat} {h h' : Hp} {x r : CV} {cs : List CV} {P : List (List Int)} (D : Sepd N h x cs P) {i : Nat} (hn : h'.n = h.n) (o : Part N h' 45 r (cs.eraseIdx i)) (hb : blk r = blk x) (hg : ∀ j, j ≠ blk x → h'.get j = h.get j) : Sepd N h' r (cs.eraseIdx i) (P.eraseIdx i) := by
  have key : ∀ m (hm : m < (cs.eraseIdx i).length), ∃ z, ∃ hz : z < cs.length, (m < i → z = m) ∧ (¬ m < i → z = m + 1) ∧ (cs.eraseIdx i)[m] = cs[z] := fun m hm => by
    rw [List.getElem_eraseIdx]
    rw [List.length_eraseIdx] at hm
    by_cases h : m < i
    · exact ⟨m, by split at hm <;> omega, fun _ => rfl, fun hn => absurd h hn, by rw [dif_pos h]⟩
    · exact ⟨m + 1, by split at hm <;> omega, fun hn => absurd hn h, fun _ => rfl, by rw [dif_neg h]⟩
  refine ⟨o, by rw [List.length_eraseIdx, List.length_eraseIdx, D.len], fun m hm hm' => ?_, fun c hc => D.ne c (List.mem_of_mem_eraseIdx hc), fun m m' hm hm' e => ?_, fun m hm => ?_⟩
  · obtain ⟨z, hz, h1, h2, e⟩ := key m hm
    have hz' : z < P.length := by rw [← D.len]; exact hz
    have e2 : (P.eraseIdx i)[m] = P[z] := by
      rw [List.getElem_eraseIdx]
      by_cases h : m < i
      · rw [dif_pos h]; simp only [h1 h]
      · rw [dif_neg h]; simp only [h2 h]
    rw [e, e2]
    exact (D.row z hz hz').keep (by omega) fun _ _ => hg _ (D.nx z hz)
  · obtain ⟨z, hz, h1, h2, e1⟩ := key m hm
    obtain ⟨w, hw, f1, f2, e2⟩ := key m' hm'
    rw [e1, e2] at e
    have := D.dis z w hz hw e
    by_cases ha : m < i <;> by_cases hb : m' < i
    · rw [h1 ha, f1 hb] at this; exact this
    · rw [h1 ha, f2 hb] at this; omega
    · rw [h2 ha, f1 hb] at this; omega
    · rw [h2 ha, f2 hb] at this; omega
  · obtain ⟨z, hz, _, _, e⟩ := key m hm
    rw [e, hb]; exact D.nx z hz
end Go.CP
/- Complex: complex.Components. -/
namespace Go.CP
open Go.Proofs
variable [LG] [HK]
theorem mem_take_self {l : List (List Int)} {i : Nat} (hi : i < l.length) : l[i] ∈ l.take (i + 1) := by
  rw [take_snoc hi]; exact List.mem_append_right _ (List.mem_singleton.2 rfl)
theorem z26 : tsz Tryz.prog 26 = some (1, false) := by kernel_rfl
theorem e26 : tzero Tryz.prog 26 = some .nils := by kernel_rfl
section
variable {K : Ctx} {h : Hp}
theorem z26' (H : Std K) : tsz K.P 26 = some (1, false) := by rw [H.hP]; exact z26
theorem z45' (H : Std K) : tsz K.P 45 = some (1, false) := by rw [H.hP]; exact z45
theorem box_load {k e : Nat} {v : CV} (hg : h.get k = .cells [v] 0 e) : qLoad h (.ptr k 0) (some (1, false)) = some v := by
  show hbVal 0 1 false (h.get k) = _
  rw [hg]; rfl
theorem box_store {k e : Nat} {u v : CV} (hg : h.get k = .cells [u] 0 e) (hv : v.one = true) : wStore h (.ptr k 0) v (some (1, false)) = some (.undef, h.set k (.cells [v] 0 e)) := by
  have hc := one_cells hv
  have hsol : v.sol = true := by simp [CV.sol, hc, hv]
  have hset : setAt [u] 0 [v] = [v] := rfl
  show wStoreB h k 0 1 v (h.get k) = _
  rw [hg]
  simp only [wStoreB, hsol, hc, List.length_cons, List.length_nil, Nat.beq_refl, hset, Bool.and_self, Nat.zero_add]
  rfl
/-- slices.Index, for lists of numbers. -/
theorem index45_comes (H : Std K) (PC : PlansC K) {a : List Int} {v : Int} (hbig : a.length < 4611686018427387904) {x : CV} (ha : Row h x (Ints a)) : ∃ n, Comes K 125 [x, .nu .i64 v] h (.nu .i64 n) h ∧ ile 0 n = inI a v := by
  have hf : K.P.funcs[125]? = some Tryz.f125 := by rw [H.hP]; exact Tryz.func125
  have hlen := len45 H ha
  rw [ints_length] at hlen
  obtain ⟨s1, r1, k0, k1, k7, k8, ks⟩ : ∃ s1, Runs K 125 19 none (sub1 [1, 0, 0] (bodyOf Tryz.f125)) (T.set (entry 0 [x, .nu .i64 v]) 4 (.nu .i64 0)) h .normal s1 h ∧ s1.at 0 = x ∧ s1.at 1 = .nu .i64 v ∧ s1.at 7 = .nu .i64 (.ofNat a.length) ∧ s1.at 8 = .nu .i64 (.ofNat 0) ∧ s1.at slot = .undef := ⟨_, f125_r1 H.hk rfl hlen, rfl, rfl, rfl, rfl, rfl⟩
  have L := RunQ.loopB (K := K) (f := 125) (n := 19) (c := sub1 [1, 0, 1, 0, 0] (bodyOf Tryz.f125)) (s := s1) (h := h) (m := a.length) (b := 0) (I := fun i s g => g = h ∧ s.at 0 = x ∧ s.at 1 = .nu .i64 v ∧ s.at 7 = .nu .i64 (.ofNat a.length) ∧ s.at 8 = .nu .i64 (.ofNat i) ∧ s.at slot = .undef ∧ (a.take i).any (fun y => ieq y v) = false)
    (E := fun s g => g = h ∧ s.at slot = .undef ∧ inI a v = false) (R := fun s g => g = h ∧ s.at slot = .undef ∧ inI a v = true ∧ ∃ j : Nat, s.at 4 = .nu .i64 (.ofNat j)) ⟨rfl, k0, k1, k7, k8, ks, rfl⟩
    (fun i s g hi ⟨e, g0, g1, g7, g8, gs, hall⟩ => by
      subst e
      obtain ⟨q, hp1, hp2⟩ := at45 H ha hi
      by_cases hq : v = a[i]
      · exact .inr (.inl ⟨_, _, f125_b10100_TT H.hk H.prim PC g8 g7 g1 g0 (lessN hi) hp1 hp2 (eq_t hq), rfl, gs, any_yes hi (ieq_t hq.symm), i, rfl⟩)
      · exact .inl ⟨_, _, f125_b10100_TF H.hk H.prim PC g8 g7 g1 g0 (lessN hi) hp1 hp2 (eq_f hq) (inc (by omega)), rfl, g0, g1, g7, rfl, gs, any_snoc hi hall (ieq_f (Ne.symm hq))⟩)
    (fun s g ⟨e, g0, g1, g7, g8, gs, hall⟩ => by
      subst e
      exact ⟨_, _, f125_b10100_F H.hk H.prim PC g8 g7 (lessN' (Nat.le_refl _)), rfl, gs, by rw [List.take_length] at hall; exact hall⟩)
  rcases L with ⟨s', h', r, rfl, hs, hv⟩ | ⟨s', h', r, rfl, hs, hv, j, hj⟩
  · rw [hv]
    exact ⟨-1, Comes.plain hf rfl (H.memo 125 (by decide)) (H.spec 125) rfl (Runs.seq (f125_r0 H.hk) (Runs.seq (Runs.seq r1 r) (f125_b11 H.hk H.prim PC))) (.inr rfl) (Nat.le_refl _) hs rfl rfl, rfl⟩
  · rw [hv]
    exact ⟨.ofNat j, Comes.plain hf rfl (H.memo 125 (by decide)) (H.spec 125) rfl (Runs.seq (f125_r0 H.hk) (Runs.seqX (Runs.seq r1 r) (by simp))) (.inr rfl) (Nat.le_refl _) hs (by show some [Fr.at s' 4] = _; rw [hj]) rfl, ile_t (by simp)⟩
theorem in88_comes (H : Std K) (PC : PlansC K) {a : List Int} {v : Int} (hbig : a.length < 4611686018427387904) {y q : CV} (ha : Row h y (Ints a)) (hq : Box h q (.nu .i64 v)) : Comes K 88 [y, q] h (.bo (inI a v)) h := by
  have hf : K.P.funcs[88]? = some Tryz.f88 := by rw [H.hP]; exact Tryz.func88
  have hf2 : K.P.funcs[89]? = some Tryz.f89 := by rw [H.hP]; exact Tryz.func89
  obtain ⟨n, c, hn⟩ := index45_comes H PC (v := v) hbig ha
  have o8 := geqN (P := K.P) (t := 3) n 0
  rw [hn] at o8
  have c89 : Comes K 89 [y, .nu .i64 v] h (.bo (inI a v)) h := Comes.plain hf2 rfl (H.memo 89 (by decide)) (H.spec 89) rfl (f89_b H.hk H.prim PC (s := entry 0 [y, .nu .i64 v]) rfl rfl c o8) (.inr rfl) (Nat.le_refl _) rfl rfl rfl
  exact Comes.plain hf rfl (H.memo 88 (by decide)) (H.spec 88) rfl (f88_b H.hk H.prim PC (s := entry 0 [y, q]) rfl rfl (hq.load (by rw [H.hP]; exact z3)) c89) (.inr rfl) (Nat.le_refl _) rfl rfl rfl
/-- The component of a vertex. -/
theorem has86_ret (H : Std K) (PC : PlansC K) (ok : HpOk h) {N kb : Nat} {o : CV} {ds : List CV} {P : List (List Int)} (hkb : kb < h.n) (hg : h.get kb = .cells [o] 0 26) (D : Sepd N h o ds P) (hP : P.length < 4611686018427387904) (hsm : ∀ c ∈ P, c.length < 4611686018427387904) {v : Int} (hv : ∃ c ∈ P, v ∈ c) : Ret K 86 [.nu .i64 v, .ptr kb 0] h fun r _ => ∃ i : Nat, r = .nu .i64 (.ofNat i) ∧ ∃ hi : i < P.length, v ∈ P[i] := by
  have hf : K.P.funcs[86]? = some Tryz.f86 := by rw [H.hP]; exact Tryz.func86
  have hf2 : K.P.funcs[87]? = some Tryz.f87 := by rw [H.hP]; exact Tryz.func87
  obtain ⟨F, B, b1, bx⟩ := Box.new (h := h) (t := 3) (v := .nu .i64 v) rfl (show tsz K.P 3 = some (1, false) by rw [H.hP]; exact z3)
  have S1 : Same h.n h (h.push B) := Same.push (Nat.le_refl _) _
  have D1 := D.mono S1
  have hg1 : (h.push B).get kb = .cells [o] 0 26 := by rw [S1.get kb hkb]; exact hg
  have hlen := len26 H D1.out.row
  rw [D.len] at hlen
  obtain ⟨s1, r1, k0, k1, k7, k8, ks⟩ : ∃ s1, Runs K 87 19 none (sub1 [1, 0, 0] (bodyOf Tryz.f87)) (T.set (entry 0 [o, .fn 88 [F h.n]]) 4 (.nu .i64 0)) (h.push B) .normal s1 (h.push B) ∧ s1.at 0 = o ∧ s1.at 1 = .fn 88 [F h.n] ∧ s1.at 7 = .nu .i64 (.ofNat P.length) ∧ s1.at 8 = .nu .i64 (.ofNat 0) ∧ s1.at slot = .undef := ⟨_, f87_r1 H.hk rfl hlen, rfl, rfl, rfl, rfl, rfl⟩
  have L := RunQ.loopB (K := K) (f := 87) (n := 19) (c := sub1 [1, 0, 1, 0, 0] (bodyOf Tryz.f87)) (s := s1) (h := h.push B) (m := P.length) (b := 0) (I := fun i s g => g = h.push B ∧ s.at 0 = o ∧ s.at 1 = .fn 88 [F h.n] ∧ s.at 7 = .nu .i64 (.ofNat P.length) ∧ s.at 8 = .nu .i64 (.ofNat i) ∧ s.at slot = .undef ∧ ∀ c ∈ P.take i, v ∉ c)
    (E := fun s g => False) (R := fun s g => g = h.push B ∧ s.at slot = .undef ∧ ∃ j : Nat, s.at 4 = .nu .i64 (.ofNat j) ∧ ∃ hj : j < P.length, v ∈ P[j]) ⟨rfl, k0, k1, k7, k8, ks, by simp⟩
    (fun i s g hi ⟨e, g0, g1, g7, g8, gs, hall⟩ => by
      subst e
      obtain ⟨q, hp1, hp2⟩ := at26 H D1.out.row (i := i) (by rw [D.len]; exact hi)
      have hr := D1.rows.get (i := i) (by rw [D.len]; exact hi) hi
      have c := in88_comes H PC (v := v) (hsm _ (List.getElem_mem hi)) hr bx
      cases hq : inI P[i] v with
      | true =>
        rw [hq] at c
        exact .inr (.inl ⟨_, _, f87_b10100_TT H.hk H.prim PC g8 g7 g1 g0 (lessN hi) hp1 hp2 rfl c, rfl, gs, i, rfl, hi, (inI_iff _ _).1 hq⟩)
      | false =>
        rw [hq] at c
        refine .inl ⟨_, _, f87_b10100_TF H.hk H.prim PC g8 g7 g1 g0 (lessN hi) hp1 hp2 rfl c (inc (by omega)), rfl, g0, g1, g7, rfl, gs, fun d hd => ?_⟩
        rw [take_snoc hi] at hd
        rcases List.mem_append.1 hd with hd | hd
        · exact hall d hd
        · rw [List.mem_singleton.1 hd]; intro hm; rw [(inI_iff _ _).2 hm] at hq; cases hq)
    (fun s g ⟨e, g0, g1, g7, g8, gs, hall⟩ => by
      obtain ⟨c, hc, hm⟩ := hv
      rw [List.take_length] at hall
      exact absurd hm (hall c hc))
  rcases L with ⟨s', h', r, hF⟩ | ⟨s', h', r, rfl, hs, j, h4, hj, hm⟩
  · exact hF.elim
  have c87 : Comes K 87 [o, .fn 88 [F h.n]] (h.push B) (.nu .i64 (.ofNat j)) (h.push B) := Comes.plain hf2 rfl (H.memo 87 (by decide)) (H.spec 87) rfl (Runs.seq (f87_r0 H.hk) (Runs.seqX (Runs.seq r1 r) (by simp))) (.inr rfl) (Nat.le_refl _) hs (by show some [Fr.at s' 4] = _; rw [h4]) rfl
  exact ⟨_, _, Comes.plain hf rfl (H.memo 86 (by decide)) (H.spec 86) rfl (f86_b H.hk H.prim PC (s := entry 0 [.nu .i64 v, .ptr kb 0]) rfl rfl b1 (by rw [z26' H]; exact box_load hg1) c87) (.inr rfl) S1.n rfl rfl rfl, S1, ok.push _, j, rfl, hj, hm⟩
/-- slices.Sort of these numbers can be shown. -/
def Sorts90 (K : Ctx) (c : List Int) : Prop := ∀ {g : Hp} {N : Nat} {y : CV}, HpOk g → N ≤ g.n → Out N g 3 y (Ints c) → ∃ g', Comes K 90 [y] g (.tup []) g' ∧ Same N g g' ∧ HpOk g' ∧ Out N g' 3 y (Ints (sortI c))
theorem sort90_few (H : Std K) (PC : PlansC K) {c : List Int} (hne : c ≠ []) (hle : c.length ≤ 12) : Sorts90 K c := by
  intro g N y ok hN ho
  have hf : K.P.funcs[90]? = some Tryz.f90 := by rw [H.hP]; exact Tryz.func90
  have hlen := len45 H ho.row
  rw [ints_length] at hlen
  obtain ⟨w, hw, cl⟩ := len_comes (h := g) H (n := c.length) (by omega)
  obtain ⟨h', c1, S1, ok1, o1⟩ := pdqI_few H ok hN hne hle ho (.nu .i64 (.ofNat w))
  have h3' : tyk K.P 3 = .int .i64 := by rw [H.hP]; exact t3
  have h126 : tyk K.P 126 = .int .u64 := by rw [H.hP]; exact t126
  have o8 : qConv K.P g (.nu .i64 (.ofNat c.length)) (tyk K.P 3) (tyk K.P 126) = some (.nu .u64 (.ofNat c.length)) := by
    rw [h3', h126]
    have hb : Nat.blt c.length 18446744073709551616 = true := by simp; omega
    simp only [qConv, nuW, wrapF, hb, cond_true]
  have l8 : lBytes K.P (.nu .i64 (.ofNat c.length)) (tyk K.P 3) (tyk K.P 126) = none := by rw [h3', h126]; rfl
  exact ⟨h', Comes.plain hf rfl (H.memo 90 (by decide)) (H.spec 90) rfl (f90_b H.hk H.prim PC (s := entry 0 [y]) rfl hlen l8 o8 cl c1) (.inl rfl) S1.n rfl rfl rfl, S1, ok1, o1⟩
theorem vals_few {c : List Int} (hn : c.Nodup) {n : Nat} (hv : ∀ v ∈ c, 0 ≤ v ∧ v < n) : c.length ≤ n := by
  have := pig n (c.map Int.toNat) (by
    rw [List.Nodup, List.pairwise_map]
    exact List.Pairwise.imp_of_mem (fun {a b} ha hb hab e => hab (by have := (hv a ha).1; have := (hv b hb).1; omega)) hn) fun x hx => by
      obtain ⟨v, hv', rfl⟩ := List.mem_map.1 hx
      have := hv v hv'
      omega
  simpa using this
theorem qmin_lt {a b : Nat} (h : a ≤ b) : qMin (.nu .i64 (.ofNat a)) (.nu .i64 (.ofNat b)) = some (.nu .i64 (.ofNat a)) := by
  simp only [qMin, ile_t (show Int.ofNat a ≤ Int.ofNat b by simp; omega)]
theorem qmin_gt {a b : Nat} (h : b < a) : qMin (.nu .i64 (.ofNat a)) (.nu .i64 (.ofNat b)) = some (.nu .i64 (.ofNat b)) := by
  simp only [qMin, ile_f (show Int.ofNat b < Int.ofNat a by simp; omega)]
theorem qmax_lt {a b : Nat} (h : a < b) : qMax (.nu .i64 (.ofNat a)) (.nu .i64 (.ofNat b)) = some (.nu .i64 (.ofNat b)) := by
  simp only [qMax, ile_f (show Int.ofNat a < Int.ofNat b by simp; omega)]
theorem qmax_gt {a b : Nat} (h : b ≤ a) : qMax (.nu .i64 (.ofNat a)) (.nu .i64 (.ofNat b)) = some (.nu .i64 (.ofNat a)) := by
  simp only [qMax, ile_t (show Int.ofNat b ≤ Int.ofNat a by simp; omega)]
/-- What Components knows after some simplices. -/
structure CompI (h : Hp) (l : List (List Int)) (kb i : Nat) (g : Hp) : Prop where
  ok : HpOk g
  same : Same h.n h g
  kn : kb < g.n
  st : ∃ o ds P, g.get kb = .cells [o] 0 26 ∧ Sepd (kb + 1) g o ds P ∧ CompOk (l.take i) l P ∧ P.length ≤ i ∧ ((∀ a ∈ l.take i, a.length ≤ 1) → Out (kb + 1) g 45 o ds)
theorem comp_vert (H : Std K) {l : List (List Int)} (hC : Cx l) {kb : Nat} (hkb : h.n ≤ kb) {i : Nat} (hi : i < l.length) {g : Hp} (C : CompI h l kb i g) {x : CV} (h1 : l[i].length = 1) (hx : Row g x (Ints l[i])) :
    ∃ o y F B g1 g2 g3 o', qLoad g (.ptr kb 0) (tsz K.P 26) = some o ∧ ceq o o = true ∧ Comes K 69 [x] g y g1 ∧ qLoad g1 (.ptr kb 0) (tsz K.P 26) = some o ∧ lSlice 1 [(0, y)] (tyk K.P 26) = some (F, B) ∧ qLoad (g1.push B) (.ptr kb 0) (tsz K.P 26) = some o ∧ wApp (g1.push B) o (F g1.n) (tyk K.P 26) (tyk K.P 26) = some (o', g2) ∧ wStore g2 (.ptr kb 0) o' (tsz K.P 26) = some (.undef, g3) ∧ CompI h l kb (i + 1) g3 := by
  obtain ⟨o, ds, P, hg, D, Ck, hPl, hO⟩ := C.st
  have hll := hC.le
  obtain ⟨v, hv⟩ : ∃ v, l[i] = [v] := by
    match hq : l[i], h1 with
    | [v], _ => exact ⟨v, rfl⟩
  have hsm : ∀ a ∈ l.take i, a.length ≤ 1 := fun a ha => by
    obtain ⟨j, hj, rfl⟩ := List.mem_take_iff_getElem.1 ha
    have := Srt.len_le hC.srt (i := j) (j := i) (by omega) hi (by omega)
    omega
  obtain ⟨y, g1, c69, S1, ok1, oy⟩ := clone_ret H C.ok (by rw [hv]; simp) (by rw [h1]; decide) hx
  obtain ⟨F, B, o', g2, b1, b2, b3, b4, b5, b6⟩ := D.app (P0 := K.P) (t := 26) (by rw [H.hP]; exact t26) (hO hsm) C.kn S1 ok1 oy (by rw [hv]; simp) (by decide) (by rw [D.len]; omega)
  have hk1 : kb < g1.n := Nat.lt_of_lt_of_le C.kn S1.n
  have hg1 : g1.get kb = .cells [o] 0 26 := by rw [S1.get kb C.kn]; exact hg
  have hgp : (g1.push B).get kb = .cells [o] 0 26 := by rw [(Same.push (Nat.le_refl _) B).get kb hk1]; exact hg1
  have hg2 : g2.get kb = .cells [o] 0 26 := by rw [b5.get kb (Nat.lt_succ_self _)]; exact hg1
  have hk2 : kb < g2.n := Nat.lt_of_lt_of_le hk1 b5.n
  have hlow : ∀ j, kb + 1 ≤ j → j < g2.n → (g2.set kb (.cells [o'] 0 26)).get j = g2.get j := fun j hj _ => by rw [Hp.get_set, if_neg (by omega)]
  refine ⟨o, y, F, B, g1, g2, g2.set kb (.cells [o'] 0 26), o', by rw [z26' H]; exact box_load hg, D.out.row.ceq, c69, by rw [z26' H]; exact box_load hg1, b1, by rw [z26' H]; exact box_load hgp, b2, by rw [z26' H]; exact box_store hg2 b3.row.one, ⟨b6.set hk2 _, ?_, hk2, ?_⟩⟩
  · exact ((C.same.trans (S1.le C.same.n)).trans (b5.le (by omega))).trans (Same.set hkb _)
  · refine ⟨o', ds ++ [y], P ++ [l[i]], by rw [Hp.get_set, if_pos rfl], b4.keep (Nat.le_refl _) hlow, ?_, by simp; omega, fun _ => b3.keep (Nat.le_refl _) fun hj _ => hlow _ hj (by assumption)⟩
    rw [take_snoc hi, hv]
    refine Ck.vert (fun w hw => ?_) hsm
    obtain ⟨j, hj, e⟩ := List.mem_take_iff_getElem.1 hw
    have : LtS l[j] l[i] := List.pairwise_iff_getElem.1 hC.srt j i (by omega) hi (by omega)
    rw [e, hv] at this
    unfold LtS cmpI at this
    simp only [List.length_singleton, if_true, lexI] at this
    cases hq : ile v w with
    | false =>
      rw [ile_eq] at hq
      have := of_decide_eq_false hq
      omega
    | true =>
      rw [hq] at this
      cases hq2 : ile w v with
      | false => rw [hq2] at this; exact absurd this (by decide)
      | true => rw [hq2] at this; exact absurd this (by decide)
theorem comp_skip {l : List (List Int)} (hC : Cx l) {kb : Nat} {i : Nat} (hi : i < l.length) {g : Hp} (C : CompI h l kb i g) (h3 : 3 ≤ l[i].length) : CompI h l kb (i + 1) g := by
  obtain ⟨o, ds, P, hg, D, Ck, hPl, hO⟩ := C.st
  refine ⟨C.ok, C.same, C.kn, o, ds, P, hg, D, by rw [take_snoc hi]; exact Ck.skip h3, by omega, fun hs => ?_⟩
  have := hs l[i] (mem_take_self hi)
  omega
/-- An edge between two components. -/
theorem comp_join (H : Std K) (PN : PlansN K) {l : List (List Int)} (hC : Cx l) (hS : ∀ c : List Int, c ≠ [] → c.Nodup → (∀ v ∈ c, [v] ∈ l) → Sorts90 K c) {kb : Nat} (hkb : h.n ≤ kb) {i : Nat} (hi : i < l.length) {a b : Int} (hab : l[i] = [a, b]) {g : Hp} (ok : HpOk g) (S : Same h.n h g) (hkn : kb < g.n) {o : CV} {ds : List CV} {P : List (List Int)} (hg : g.get kb = .cells [o] 0 26) (D : Sepd (kb + 1) g o ds P) (Ck : CompOk (l.take i) l P) (hPl : P.length ≤ i) {lo hi' : Nat} (hlt : lo < hi') (hhi : hi' < P.length) (hm : (a ∈ P[lo]'(by omega) ∧ b ∈ P[hi']) ∨ (b ∈ P[lo]'(by omega) ∧ a ∈ P[hi'])) :
    ∃ p q u w y g3 g4 g5 g6 g7 r, qLoad g (.ptr kb 0) (tsz K.P 26) = some o ∧ ceq o o = true ∧ qIndexAddr o (.nu .i64 (.ofNat lo)) (tyk K.P 26) = some p ∧ qLoad g p (tsz K.P 45) = some u ∧ ceq u u = true ∧ qIndexAddr o (.nu .i64 (.ofNat hi')) (tyk K.P 26) = some q ∧ qLoad g q (tsz K.P 45) = some w ∧ wApp g u w (tyk K.P 45) (tyk K.P 45) = some (y, g3) ∧ qLoad g3 (.ptr kb 0) (tsz K.P 26) = some o ∧ wStore g3 p y (tsz K.P 45) = some (.undef, g4) ∧ qLoad g4 (.ptr kb 0) (tsz K.P 26) = some o ∧ qLoad g4 p (tsz K.P 45) = some y ∧ Comes K 90 [y] g4 (.tup []) g5 ∧ qLoad g5 (.ptr kb 0) (tsz K.P 26) = some o ∧ Comes K 91 [o, .nu .i64 (.ofNat hi'), .nu .i64 (.ofNat (hi' + 1))] g5 r g6 ∧ wStore g6 (.ptr kb 0) r (tsz K.P 26) = some (.undef, g7) ∧ CompI h l kb (i + 1) g7 := by
  have hll := hC.le
  have hlo : lo < P.length := by omega
  have hlo' : lo < ds.length := by rw [D.len]; exact hlo
  have hhi2 : hi' < ds.length := by rw [D.len]; exact hhi
  have hnd := Ck.two_nodup (i := lo) (j := hi') (by omega) hlo hhi
  have hmem : ∀ v ∈ P[lo] ++ P[hi'], [v] ∈ l := fun v hv => by
    have : [v] ∈ l.take i := (Ck.part.cov v).2 (by
      rcases List.mem_append.1 hv with h | h
      · exact ⟨_, List.getElem_mem hlo, h⟩
      · exact ⟨_, List.getElem_mem hhi, h⟩)
    exact List.mem_of_mem_take this
  have hlen := vals_few (n := 64) hnd fun v hv => (hC.ok _ (hmem v hv)).rng v (by simp)
  rw [List.length_append] at hlen
  have hne : P[lo] ++ P[hi'] ≠ [] := by simp [D.ne _ (List.getElem_mem hlo)]
  obtain ⟨p, q, y, g3, g4, e1, e2, e3, e4, e5, e6, e7, S3, S4, ok4, n4, oy, hD⟩ := D.merge (P0 := K.P) (by rw [H.hP]; exact t45) (by rw [H.hP]; exact t26) hkn ok (i := lo) (j := hi') (by omega) hlo' hhi2 hlo hhi (by omega)
  obtain ⟨g5, c90, S5, ok5, oy5⟩ := hS _ hne hnd hmem ok4 n4 oy
  have hsne : sortI (P[lo] ++ P[hi']) ≠ [] := fun e => by
    have := sortI_length (P[lo] ++ P[hi'])
    rw [e, List.length_append] at this
    have h1 : 0 < P[lo].length := List.length_pos_iff.2 (D.ne _ (List.getElem_mem hlo))
    simp at this; omega
  have D5 := hD g5 _ hsne S5 oy5
  have hl5 : (ds.set lo y).length = ds.length := List.length_set
  have hdl := D.len
  obtain ⟨r, g6, c91, S6, ok6, n6, o6, hb6, hg6⟩ := ldel_part H PN ok5 D5.out (i := hi') (by omega) D5.rows.one (by omega)
  have D6 := D5.erase n6 o6 hb6 hg6
  have hg3 : g3.get kb = .cells [o] 0 26 := by rw [S3.get kb (Nat.lt_succ_self _)]; exact hg
  have hg4 : g4.get kb = .cells [o] 0 26 := by rw [S4.get kb (Nat.lt_succ_self _)]; exact hg
  have hg5 : g5.get kb = .cells [o] 0 26 := by rw [S5.get kb hkn]; exact hg4
  have hg6' : g6.get kb = .cells [o] 0 26 := by rw [S6.get kb (Nat.lt_succ_self _)]; exact hg5
  have hk6 : kb < g6.n := by have := S5.n; omega
  have hlow : ∀ j, kb + 1 ≤ j → j < g6.n → (g6.set kb (.cells [r] 0 26)).get j = g6.get j := fun j hj _ => by rw [Hp.get_set, if_neg (by omega)]
  have hn := S.n
  refine ⟨p, q, ds[lo], ds[hi'], y, g3, g4, g5, g6, g6.set kb (.cells [r] 0 26), r, by rw [z26' H]; exact box_load hg, D.out.row.ceq, e1, by rw [z45' H]; exact e3, (D.row lo hlo' hlo).row.ceq, e2, by rw [z45' H]; exact e4, e5, by rw [z26' H]; exact box_load hg3, by rw [z45' H]; exact e6, by rw [z26' H]; exact box_load hg4, by rw [z45' H]; exact e7, c90, by rw [z26' H]; exact box_load hg5, c91, by rw [z26' H]; exact box_store hg6' o6.row.one, ⟨ok6.set hk6 _, ?_, hk6, ?_⟩⟩
  · exact (((S.trans (S4.le (by omega))).trans (S5.le hn)).trans (S6.le (by omega))).trans (Same.set hkb _)
  · refine ⟨r, _, _, by rw [Hp.get_set, if_pos rfl], D6.keep (Nat.le_refl _) hlow, ?_, ?_, fun hs => ?_⟩
    · rw [take_snoc hi, hab]
      exact Ck.join (by rw [← hab]; exact List.getElem_mem hi) hlt hhi hm
    · rw [List.length_eraseIdx, List.length_set]; split <;> omega
    · have := hs l[i] (mem_take_self hi)
      rw [hab] at this; simp at this
/-- complex.Components, at a complex. -/
theorem comps_ret (H : Std K) (PC : PlansC K) (PN : PlansN K) (ok : HpOk h) {l : List (List Int)} (hl : Sml l) (he : errC l = 0) (hC : Cx l) (hS : ∀ c : List Int, c ≠ [] → c.Nodup → (∀ v ∈ c, [v] ∈ l) → Sorts90 K c) {x : CV} {cs : List CV} (hx : Row h x cs) (hxs : Rows h cs l) : Ret K 36 [x] h fun r h' => ∃ o ds P, r = .tup [o, .nu .i64 0] ∧ Sepd h.n h' o ds P ∧ CompOk l l P := by
  have hf : K.P.funcs[36]? = some Tryz.f36 := by rw [H.hP]; exact Tryz.func36
  have hcl := hxs.length
  have hll := hC.le
  obtain ⟨rv, h1, c26, S1, ok1, rfl⟩ := ccheck_ret H ok hl hx hxs
  have o5 : lAlloc 26 (tzero K.P 26) = some (fun k => .ptr k 0, .cells [.nils] 0 26) := by rw [H.hP, e26]; rfl
  obtain ⟨sa, ra, a0, as'⟩ : ∃ s1, Runs K 36 77 none (sub1 [1, 0] (bodyOf Tryz.f36)) (T.set (T.set (entry 0 [x]) 2 .nils) 3 (.nu .i64 0)) h .normal s1 h1 ∧ s1.at 0 = x ∧ s1.at slot = .undef := ⟨_, f36_b10_F H.hk H.prim PC rfl c26 (ne_f he), rfl, rfl⟩
  obtain ⟨sb, rb, b0, b5, bs⟩ : ∃ s1, Runs K 36 77 none (sub1 [1, 1, 0] (bodyOf Tryz.f36)) sa h1 .normal s1 (h1.push (.cells [.nils] 0 26)) ∧ s1.at 0 = x ∧ s1.at 5 = .ptr h1.n 0 ∧ s1.at slot = .undef := ⟨_, f36_r4 H.hk o5, a0, rfl, as'⟩
  have Sp : Same h.n h (h1.push (.cells [.nils] 0 26)) := S1.trans (Same.push S1.n _)
  have hlen2 := len22 H (hx.mono Sp ok (Nat.le_refl _))
  rw [hcl] at hlen2
  obtain ⟨sc, rc, c5, c16, c17, c18, cs'⟩ : ∃ s1, Runs K 36 77 none (sub1 [1, 1, 1, 0, 0] (bodyOf Tryz.f36)) sb (h1.push (.cells [.nils] 0 26)) .normal s1 (h1.push (.cells [.nils] 0 26)) ∧ s1.at 5 = .ptr h1.n 0 ∧ s1.at 16 = x ∧ s1.at 17 = .nu .i64 (.ofNat l.length) ∧ s1.at 18 = .nu .i64 (.ofNat 0) ∧ s1.at slot = .undef := ⟨_, f36_r5 H.hk b0 hlen2, b5, rfl, rfl, rfl, bs⟩
  have C0 : CompI h l h1.n 0 (h1.push (.cells [.nils] 0 26)) := ⟨ok1.push _, Sp, Nat.lt_succ_self _, .nils, [], [], by rw [Hp.get_push, if_pos rfl], Sepd.nil _ _, CompOk.nil l, Nat.le_refl _, fun _ => .nils⟩
  obtain ⟨s', h', r, C', hs', h5'⟩ := RunQ.loopE (K := K) (f := 36) (n := 77) (c := sub1 [1, 1, 1, 0, 1, 0, 0] (bodyOf Tryz.f36)) (s := sc) (h := h1.push (.cells [.nils] 0 26)) (m := l.length) (b := 0)
    (I := fun i s g => CompI h l h1.n i g ∧ s.at 5 = .ptr h1.n 0 ∧ s.at 16 = x ∧ s.at 17 = .nu .i64 (.ofNat l.length) ∧ s.at 18 = .nu .i64 (.ofNat i) ∧ s.at slot = .undef)
    (E := fun s g => CompI h l h1.n l.length g ∧ s.at slot = .undef ∧ s.at 5 = .ptr h1.n 0) ⟨C0, c5, c16, c17, c18, cs'⟩
    (fun i s g hi ⟨C, g5, g16, g17, g18, gs⟩ => by
      have hr := hx.mono C.same ok (Nat.le_refl _)
      obtain ⟨p, hp1, hp2⟩ := at22 H hr (i := i) (by omega)
      have hri := (hxs.get (i := i) (by omega) hi).mono C.same ok (Nat.le_refl _)
      have hli := len46 H hri
      rw [ints_length] at hli
      have okS := hC.ok _ (List.getElem_mem hi)
      have hpos := List.length_pos_iff.2 okS.ne
      by_cases e1 : l[i].length = 1
      · obtain ⟨o, y, F, B, g1, g2, g3, o', d1, d2, d3, d4, d5, d6, d7, d8, C'⟩ := comp_vert H hC S1.n hi C e1 hri
        exact ⟨_, _, f36_b1110100_TT H.hk H.prim PC g18 g17 g16 g5 (lessN hi) hp1 hp2 hli (eq_t (by rw [e1]; rfl)) d1 d2 d3 d4 d5 d6 d7 d8 (inc (by omega)), C', g5, g16, g17, rfl, gs⟩
      have n1 : bineq K.P .eql 3 (.nu .i64 (.ofNat l[i].length)) (.nu .i64 1) = some (.bo false) := eq_f (ofNat_ne (b := 1) e1)
      by_cases e2 : l[i].length = 2
      case neg =>
        exact ⟨_, _, f36_b1110100_TFF H.hk H.prim PC g18 g17 g16 (lessN hi) hp1 hp2 hli n1 (eq_f (ofNat_ne (b := 2) e2)) (inc (by omega)), comp_skip hC hi C (by omega), g5, g16, g17, rfl, gs⟩
      have n2 : bineq K.P .eql 3 (.nu .i64 (.ofNat l[i].length)) (.nu .i64 2) = some (.bo true) := eq_t (by rw [e2]; rfl)
      obtain ⟨a, b, hab⟩ : ∃ a b, l[i] = [a, b] := by
        match hq : l[i], e2 with
        | [a, b], _ => exact ⟨a, b, rfl⟩
      obtain ⟨o, ds, P, hg, D, Ck, hPl, hO⟩ := C.st
      have hPs : ∀ c ∈ P, c.length < 4611686018427387904 := fun c hc => by
        have := vals_few (n := 64) (asc_nodup (Ck.asc c hc)) fun v hv => (hC.ok _ (List.mem_of_mem_take ((Ck.part.cov v).2 ⟨c, hc, hv⟩))).rng v (by simp)
        omega
      obtain ⟨pa, ha1, ha2⟩ := at46 H hri (i := 0) (by omega)
      obtain ⟨pb, hb1, hb2⟩ := at46 H hri (i := 1) (by omega)
      have ea : l[i][0]'(by omega) = a := by simp [hab]
      have eb : l[i][1]'(by omega) = b := by simp [hab]
      rw [ea] at ha2
      rw [eb] at hb2
      have hva := (Ck.part.cov a).1 (take_faces hC hi (by rw [hab]; simp) (by omega))
      have hvb := (Ck.part.cov b).1 (take_faces hC hi (by rw [hab]; simp) (by omega))
      obtain ⟨rv, g1, ca, Sa, oka, ia, rfl, hia, hma⟩ := has86_ret H PC C.ok C.kn hg D (by omega) hPs hva
      have hg1 : g1.get h1.n = .cells [o] 0 26 := by rw [Sa.get _ C.kn]; exact hg
      have D1 := D.mono Sa
      have hk1 : h1.n < g1.n := Nat.lt_of_lt_of_le C.kn Sa.n
      obtain ⟨rv, g2, cb, Sb, okb, ib, rfl, hib, hmb⟩ := has86_ret H PC oka hk1 hg1 D1 (by omega) hPs hvb
      have hg2 : g2.get h1.n = .cells [o] 0 26 := by rw [Sb.get _ hk1]; exact hg1
      have D2 := D1.mono Sb
      have hk2 : h1.n < g2.n := Nat.lt_of_lt_of_le hk1 Sb.n
      obtain ⟨pb', hb1', hb2'⟩ := at46 H (hri.mono Sa C.ok (Nat.le_refl _)) (i := 1) (by omega)
      rw [hb1] at hb1'; cases hb1'
      rw [eb] at hb2'
      have Sg2 : Same h.n h g2 := (C.same.trans (Sa.le C.same.n)).trans (Sb.le (Nat.le_trans C.same.n Sa.n))
      by_cases hieq : ia = ib
      · subst hieq
        refine ⟨_, _, f36_b1110100_TFTF H.hk H.prim PC g18 g17 g16 g5 (lessN hi) hp1 hp2 hli n1 n2 ha1 ha2 (ceq_nu _) hb1 hb2 (ceq_nu _) rfl ca hb2' rfl cb (ne_f rfl) (inc (by omega)), ⟨okb, Sg2, hk2, o, ds, P, hg2, D2, by rw [take_snoc hi, hab]; exact Ck.same hia hma hmb, by omega, fun hs => ?_⟩, g5, g16, g17, rfl, gs⟩
        have := hs l[i] (mem_take_self hi)
        omega
      · rcases Nat.lt_or_gt_of_ne hieq with hlt | hgt
        · obtain ⟨p', q', u, w, y, g3, g4, g5', g6, g7, r, d1, d2, d3, d4, d5, d6, d7, d8, d9, d10, d11, d12, d13, d14, d15, d16, C'⟩ := comp_join H PN hC hS S1.n hi hab okb Sg2 hk2 hg2 D2 Ck hPl hlt hib (.inl ⟨hma, hmb⟩)
          exact ⟨_, _, f36_b1110100_TFTT H.hk H.prim PC g18 g17 g16 g5 (lessN hi) hp1 hp2 hli n1 n2 ha1 ha2 (ceq_nu _) hb1 hb2 (ceq_nu _) rfl ca hb2' rfl cb (ne_t (ofNat_ne hieq)) (qmin_lt (Nat.le_of_lt hlt)) (qmax_lt hlt) d1 d2 d2 d3 d4 d5 d2 d6 d7 d8 d9 d10 d11 d3 d12 d13 d14 (inc (by omega)) d15 d16 (inc (by omega)), C', g5, g16, g17, rfl, gs⟩
        · obtain ⟨p', q', u, w, y, g3, g4, g5', g6, g7, r, d1, d2, d3, d4, d5, d6, d7, d8, d9, d10, d11, d12, d13, d14, d15, d16, C'⟩ := comp_join H PN hC hS S1.n hi hab okb Sg2 hk2 hg2 D2 Ck hPl hgt hia (.inr ⟨hmb, hma⟩)
          exact ⟨_, _, f36_b1110100_TFTT H.hk H.prim PC g18 g17 g16 g5 (lessN hi) hp1 hp2 hli n1 n2 ha1 ha2 (ceq_nu _) hb1 hb2 (ceq_nu _) rfl ca hb2' rfl cb (ne_t (ofNat_ne hieq)) (qmin_gt hgt) (qmax_gt (Nat.le_of_lt hgt)) d1 d2 d2 d3 d4 d5 d2 d6 d7 d8 d9 d10 d11 d3 d12 d13 d14 (inc (by omega)) d15 d16 (inc (by omega)), C', g5, g16, g17, rfl, gs⟩)
    (fun s g ⟨C, g5, g16, g17, g18, gs⟩ => ⟨_, _, f36_b1110100_F H.hk H.prim PC g18 g17 (lessN' (Nat.le_refl _)), C, gs, g5⟩)
  obtain ⟨o, ds, P, hg, D, Ck, _, _⟩ := C'.st
  rw [List.take_length] at Ck
  have hkb : h.n ≤ h1.n + 1 := by have := S1.n; omega
  exact ⟨_, h', Comes.plain hf rfl (H.memo 36 (by decide)) (H.spec 36) rfl (Runs.seq (f36_r0 H.hk) (Runs.seq ra (Runs.seq rb (Runs.seq (Runs.seq rc r) (f36_b1111 H.hk H.prim PC h5' (by rw [z26' H]; exact box_load hg)))))) (.inr rfl) C'.same.n hs' rfl rfl, C'.same, C'.ok, o, ds, P, rfl, D.low hkb, Ck⟩
end
end Go.CP
/- ComplexCollapses: the law's function returns true, whatever it is called with. -/
namespace Go.CP
open Go.Proofs
variable [LG] [HK]
theorem errC_ok {l : List (List Int)} (h : OkC l) : errC l = 0 := by
  unfold errC
  rw [if_neg (by have := h.le; omega)]
  refine errG_ok _ 0 fun j _ hj => ?_
  have hj : j < l.length := by omega
  have e0 := getL hj
  have hS : errS (l.getD j []) = 0 := by rw [e0]; exact errS_zero.2 (h.simp _ (List.getElem_mem hj))
  rw [errAt_face hS (fun hp => ?_), if_pos ?_]
  · rw [List.all_eq_true]
    intro f hf
    rw [e0] at hf
    exact decide_eq_true (h.face _ (List.getElem_mem hj) f hf)
  · obtain ⟨m, rfl⟩ : ∃ m, j = m + 1 := ⟨j - 1, by omega⟩
    have := h.asc m hj
    rw [e0, show l.getD (m + 1 - 1) [] = l[m]'(by omega) from getL (i := m) (by omega), this]
    exact ⟨by decide, by decide⟩
theorem validI_rng {most : Nat} {n : Int} (hm : 1 ≤ most) (hn : 0 < n) (a : List Int) : ∀ v ∈ validI a most n, 0 ≤ v ∧ v < n := by
  intro v hv
  have h := (validGo_ok (most := most) hn a [] List.nodup_nil (by simp)).2
  unfold validI at hv
  split at hv
  · rw [(sortI_perm _).mem_iff] at hv; simp at hv; omega
  · rw [(sortI_perm _).mem_iff] at hv
    exact h v hv
theorem valid8_rng {l : List (List Int)} {most dim : Nat} {n : Int} (hn : 0 < n) {a : List Int} (ha : a ∈ valid8 l most dim n) : ∀ v ∈ a, 0 ≤ v ∧ v < n := by
  intro v hv
  obtain ⟨b, hb, hs, _⟩ := mem_closedI.1 ha
  obtain ⟨c, rfl⟩ := mem_fewGo l most hb
  exact validI_rng (by omega) hn c v (hs.subset hv)
section
variable {K : Ctx} {h : Hp}
theorem colls_comes (H : Std K) (A : Awake K) (PB : PlansB K) (PC : PlansC K) (PN : PlansN K) (ok : HpOk h) {l : List (List Int)} (hsm : ∀ a ∈ l, a.length ≤ 9223372036854775807) {x : CV} {cs : List CV} (hx : Row h x cs) (hxs : Rows h cs l) :
    ∃ h', Comes K 10 [x] h (.bo true) h' ∧ Same h.n h h' := by
  have hf : K.P.funcs[10]? = some Tryz.f10 := by rw [H.hP]; exact Tryz.func10
  have hlen := len26 H hx
  rw [hxs.length] at hlen
  have aw : ∀ g, Comes K 14 [] g (.bo true) g := fun g => A.comes
  by_cases hbig : 40 < l.length
  · exact ⟨h, Comes.plain hf rfl (H.memo 10 (by decide)) (H.spec 10) rfl (Runs.seq (f10_r0 H.hk) (Runs.seqX (Runs.seq (f10_r1_T H.hk rfl hlen (gt_t (by show (40 : Int) < Int.ofNat _; simp; omega)) rfl) (Runs.condT (o := .tmp 24) rfl (Runs.seq (f10_r2 H.hk (H.prim _ _) (aw h)) Runs.ret))) (by simp))) (.inr rfl) (Nat.le_refl _) rfl rfl rfl, Same.refl _ _⟩
  obtain ⟨s1, r1, a0, as1⟩ : ∃ s1, Runs K 10 119 none (sub1 [1, 0] (bodyOf Tryz.f10)) (T.set (entry 0 [x]) 2 (.bo false)) h .normal s1 h ∧ s1.at 0 = x ∧ s1.at slot = .undef :=
    ⟨_, Runs.seq (f10_r1_F H.hk rfl hlen (gt_f (by show Int.ofNat _ ≤ (40 : Int); simp; omega)) (H.prim _ _) (aw h) rfl rfl) (Runs.condF (o := .tmp 24) rfl Runs.skip), rfl, rfl⟩
  obtain ⟨y, ys, h2, c2, S2, ok2, hy, hys⟩ := valid8_comes H ok (l := l) (most := 6) (dim := 3) (n := 8) (by omega) hsm (by decide) (by decide) (by decide) (by decide) hx hxs
  have hX : Cx (valid8 l 6 3 8) := valid8_cx (by decide) (by decide) (by decide) (by decide)
  have hXr : ∀ v, [v] ∈ valid8 l 6 3 8 → 0 ≤ v ∧ v < (8 : Nat) := fun v hv => valid8_rng (by decide) hv v (by simp)
  generalize valid8 l 6 3 8 = X at hys hX hXr
  have hXe := errC_ok hX.okC
  have sorts : ∀ {Y : List (List Int)}, (∀ a ∈ Y, a ∈ X) → ∀ c : List Int, c ≠ [] → c.Nodup → (∀ v ∈ c, [v] ∈ Y) → Sorts90 K c := fun hY c hne hnd hc =>
    sort90_few H PC hne (Nat.le_trans (vals_few hnd fun v hv => hXr v (hY _ (hc v hv))) (by decide))
  obtain ⟨s2, r2, b3, bs⟩ : ∃ s2, Runs K 10 119 none (sub1 [1, 1, 0] (bodyOf Tryz.f10)) s1 h .normal s2 h2 ∧ s2.at 3 = y ∧ s2.at slot = .undef := ⟨_, f10_r3 H.hk a0 (H.prim _ _) c2, rfl, as1⟩
  -- Collapse, twice
  obtain ⟨_, h3, c3, S3, ok3, o, ds, M, rfl, O3, cl⟩ := coll_ret H PB PC PN ok2 hX.sml hXe hX hy hys
  obtain ⟨hcols, hdone⟩ := cl.cols hX.nodup
  obtain ⟨hM, hchi, hsub, r, R⟩ := hcols.all hX
  have hMe := errC_ok hM.okC
  obtain ⟨s3, r3, d3, d4, d5, ds'⟩ : ∃ s3, Runs K 10 119 none (sub1 [1, 1, 1, 0] (bodyOf Tryz.f10)) s2 h2 .normal s3 h3 ∧ s3.at 3 = y ∧ s3.at 4 = o ∧ s3.at 5 = .nu .i64 0 ∧ s3.at slot = .undef := ⟨_, f10_r4 H.hk b3 (H.prim _ _) c3 rfl rfl, b3, rfl, rfl, bs⟩
  obtain ⟨_, h4, c4, S4, ok4, o', ds2, M', rfl, O4, cl'⟩ := coll_ret H PB PC PN ok3 hM.sml hMe hM O3.out.row O3.all
  have hMM : M' = M := (cl'.cols hM.nodup).1.done hdone
  subst hMM
  obtain ⟨s4, r4, e3, e4, e5, e6, e7, es⟩ : ∃ s4, Runs K 10 119 none (sub1 [1, 1, 1, 1, 0] (bodyOf Tryz.f10)) s3 h3 .normal s4 h4 ∧ s4.at 3 = y ∧ s4.at 4 = o ∧ s4.at 5 = .nu .i64 0 ∧ s4.at 6 = o' ∧ s4.at 7 = .nu .i64 0 ∧ s4.at slot = .undef := ⟨_, f10_r5 H.hk d4 (H.prim _ _) c4 rfl rfl, d3, d4, d5, rfl, rfl, ds'⟩
  -- Check, Same
  have O34 := O3.mono S4 ok3
  obtain ⟨_, h5, c5, S5, ok5, rfl⟩ := ccheck_ret H ok4 hM.sml O34.out.row O34.all
  rw [hMe] at c5
  have O35 := O34.mono S5 ok4
  obtain ⟨pl, h6, c6, S6, ok6, pls, hP⟩ := plain_ret H ok5 hM.sml O35.out.row O35.all
  have O46 := (O4.mono S5 ok4).mono S6 ok5
  have c7 := same_comes H PB (by have := hM.le; omega) (fun a ha => by have := (hM.ok a ha).le; omega) O46.out.row O46.all hP.out.row hP.all
  rw [sameI_iff.2 rfl] at c7
  obtain ⟨s5, r5, f3, f4, f55, fs⟩ : ∃ s5, Runs K 10 119 none (sub1 [1, 1, 1, 1, 1, 0, 0] (bodyOf Tryz.f10)) s4 h4 .normal s5 h6 ∧ s5.at 3 = y ∧ s5.at 4 = o ∧ s5.at 55 = .bo false ∧ s5.at slot = .undef :=
    ⟨_, f10_r6_FFF H.hk e5 e7 e4 e6 (ne_f rfl) (ne_f rfl) rfl (H.prim _ _) c5 (ne_f rfl) rfl (H.prim _ _) c6 (H.prim _ _) c7 rfl rfl, e3, e4, rfl, es⟩
  have S26 : Same h2.n h2 h6 := ((S3.trans (S4.le S3.n)).trans (S5.le (S3.trans (S4.le S3.n)).n)).trans (S6.le ((S3.trans (S4.le S3.n)).trans (S5.le (S3.trans (S4.le S3.n)).n)).n)
  have y6 := hy.mono S26 ok2 (Nat.le_refl _)
  have ys6 := hys.mono S26 ok2 (Nat.le_refl _)
  have O36 := O35.mono S6 ok5
  -- Euler
  obtain ⟨_, h7, c8, S7, ok7, rfl⟩ := euler_ret H PC ok6 hX.sml y6 ys6
  rw [if_pos hXe, hXe, eulI_chi hX.okC] at c8
  obtain ⟨s6, r6, g3, g4, g8, g9, gs⟩ : ∃ s6, Runs K 10 119 none (sub1 [1, 1, 1, 1, 1, 1, 0] (bodyOf Tryz.f10)) s5 h6 .normal s6 h7 ∧ s6.at 3 = y ∧ s6.at 4 = o ∧ s6.at 8 = .nu .i64 (chiI X) ∧ s6.at 9 = .nu .i64 0 ∧ s6.at slot = .undef := ⟨_, f10_r8 H.hk f3 (H.prim _ _) c8 rfl rfl, f3, f4, rfl, rfl, fs⟩
  have O37 := O36.mono S7 ok6
  obtain ⟨_, h8, c9, S8, ok8, rfl⟩ := euler_ret H PC ok7 hM.sml O37.out.row O37.all
  rw [if_pos hMe, hMe, eulI_chi hM.okC, hchi] at c9
  obtain ⟨s7, r7, i3, i4, i8, i9, i10, i11, is⟩ : ∃ s7, Runs K 10 119 none (sub1 [1, 1, 1, 1, 1, 1, 1, 0] (bodyOf Tryz.f10)) s6 h7 .normal s7 h8 ∧ s7.at 3 = y ∧ s7.at 4 = o ∧ s7.at 8 = .nu .i64 (chiI X) ∧ s7.at 9 = .nu .i64 0 ∧ s7.at 10 = .nu .i64 (chiI X) ∧ s7.at 11 = .nu .i64 0 ∧ s7.at slot = .undef := ⟨_, f10_r9 H.hk g4 (H.prim _ _) c9 rfl rfl, g3, g4, g8, g9, rfl, rfl, gs⟩
  have S28 : Same h2.n h2 h8 := (S26.trans (S7.le S26.n)).trans (S8.le (S26.trans (S7.le S26.n)).n)
  have y8 := hy.mono S28 ok2 (Nat.le_refl _)
  have ys8 := hys.mono S28 ok2 (Nat.le_refl _)
  have O38 := O37.mono S8 ok7
  -- Components
  obtain ⟨_, h9, c10, S9, ok9, op, dp, P, rfl, DP, KP⟩ := comps_ret H PC PN ok8 hX.sml hXe hX (sorts fun _ h => h) y8 ys8
  obtain ⟨s8, r8, j3, j4, j8, j9, j10, j11, j12, j13, js⟩ : ∃ s8, Runs K 10 119 none (sub1 [1, 1, 1, 1, 1, 1, 1, 1, 0] (bodyOf Tryz.f10)) s7 h8 .normal s8 h9 ∧ s8.at 3 = y ∧ s8.at 4 = o ∧ s8.at 8 = .nu .i64 (chiI X) ∧ s8.at 9 = .nu .i64 0 ∧ s8.at 10 = .nu .i64 (chiI X) ∧ s8.at 11 = .nu .i64 0 ∧ s8.at 12 = op ∧ s8.at 13 = .nu .i64 0 ∧ s8.at slot = .undef := ⟨_, f10_r10 H.hk i3 (H.prim _ _) c10 rfl rfl, i3, i4, i8, i9, i10, i11, rfl, rfl, is⟩
  have O39 := O38.mono S9 ok8
  obtain ⟨_, h10, c11, S10, ok10, oq, dq, Q, rfl, DQ, KQ⟩ := comps_ret H PC PN ok9 hM.sml hMe hM (sorts fun _ h => hsub.subset h) O39.out.row O39.all
  obtain ⟨s9, r9, k3, k4, k8, k9, k10, k11, k12, k13, k14, k15, ks⟩ : ∃ s9, Runs K 10 119 none (sub1 [1, 1, 1, 1, 1, 1, 1, 1, 1, 0] (bodyOf Tryz.f10)) s8 h9 .normal s9 h10 ∧ s9.at 3 = y ∧ s9.at 4 = o ∧ s9.at 8 = .nu .i64 (chiI X) ∧ s9.at 9 = .nu .i64 0 ∧ s9.at 10 = .nu .i64 (chiI X) ∧ s9.at 11 = .nu .i64 0 ∧ s9.at 12 = op ∧ s9.at 13 = .nu .i64 0 ∧ s9.at 14 = oq ∧ s9.at 15 = .nu .i64 0 ∧ s9.at slot = .undef := ⟨_, f10_r11 H.hk j4 (H.prim _ _) c11 rfl rfl, j3, j4, j8, j9, j10, j11, j12, j13, rfl, rfl, js⟩
  have hPQ : P.length = Q.length := R.count KP.part KQ.part
  -- Meet
  have S210 : Same h2.n h2 h10 := (S28.trans (S9.le S28.n)).trans (S10.le (S28.trans (S9.le S28.n)).n)
  have O310 := O39.mono S10 ok9
  obtain ⟨_, h11, c12, S11, ok11, ov, dv, rfl, hV⟩ := cmeet_ret H PC ok10 hX.sml hM.sml (hy.mono S210 ok2 (Nat.le_refl _)) (hys.mono S210 ok2 (Nat.le_refl _)) O310.out.row O310.all
  have hB : errB X M' = 0 := by rw [errB, if_neg (fun hn => hn hXe)]; exact hMe
  have hfi : (X.filter fun s => decide (s ∈ M')) = M' := (List.filter_congr fun a _ => decide_eq_decide.2 Iff.rfl).trans (filter_sub hsub hX.nodup)
  rw [hB, if_pos rfl, hfi] at hV
  rw [hB] at c12
  obtain ⟨s10, r10, l4, l8, l9, l10, l11, l12, l13, l14, l15, l16, l17, ls⟩ : ∃ s10, Runs K 10 119 none (sub1 [1, 1, 1, 1, 1, 1, 1, 1, 1, 1, 0] (bodyOf Tryz.f10)) s9 h10 .normal s10 h11 ∧ s10.at 4 = o ∧ s10.at 8 = .nu .i64 (chiI X) ∧ s10.at 9 = .nu .i64 0 ∧ s10.at 10 = .nu .i64 (chiI X) ∧ s10.at 11 = .nu .i64 0 ∧ s10.at 12 = op ∧ s10.at 13 = .nu .i64 0 ∧ s10.at 14 = oq ∧ s10.at 15 = .nu .i64 0 ∧ s10.at 16 = ov ∧ s10.at 17 = .nu .i64 0 ∧ s10.at slot = .undef := ⟨_, f10_r12 H.hk k3 k4 (H.prim _ _) c12 rfl rfl, k4, k8, k9, k10, k11, k12, k13, k14, k15, rfl, rfl, ks⟩
  have O311 := O310.mono S11 ok10
  have lp := len26 H ((DP.mono S10).mono S11).out.row
  have lq := len26 H (DQ.mono S11).out.row
  have lv := len22 H hV.out.row
  have lc := len22 H O311.out.row
  rw [DP.len] at lp
  rw [DQ.len] at lq
  rw [hV.rows.length] at lv
  rw [O3.rows.length] at lc
  obtain ⟨s11, r11, m2, ms⟩ : ∃ s11, Runs K 10 119 none (sub1 [1, 1, 1, 1, 1, 1, 1, 1, 1, 1, 1, 0] (bodyOf Tryz.f10)) s10 h11 .normal s11 h11 ∧ s11.at 2 = .bo true ∧ s11.at slot = .undef :=
    ⟨_, f10_r13_A H.hk l9 l11 l13 l15 l17 l8 l10 l12 l14 l16 l4 (eq_t rfl) (eq_t rfl) rfl (eq_t rfl) rfl (eq_t rfl) rfl (eq_t rfl) rfl (eq_t rfl) rfl lp lq (eq_t (by rw [hPQ])) rfl lv lc (eq_t rfl) rfl, rfl, ls⟩
  have Sall := (S2.trans (S210.le S2.n)).trans (S11.le (S2.trans (S210.le S2.n)).n)
  refine ⟨h11, Comes.plain hf rfl (H.memo 10 (by decide)) (H.spec 10) rfl (Runs.seq (f10_r0 H.hk) (Runs.seq r1 (Runs.seq r2 (Runs.seq r3 (Runs.seq r4 (Runs.seq (Runs.seq r5 (Runs.condF (o := .tmp 55) f55 Runs.skip)) (Runs.seq r6 (Runs.seq r7 (Runs.seq r8 (Runs.seq r9 (Runs.seq r10 (Runs.seq r11 Runs.ret)))))))))))) (.inr rfl) Sall.n ms (vs := [s11.at 2]) rfl ?_, Sall⟩
  exact m2
end
end Go.CP
