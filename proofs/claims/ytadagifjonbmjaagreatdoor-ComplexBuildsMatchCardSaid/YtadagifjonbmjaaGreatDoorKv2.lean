import Derived.Test.YtadagifjonbmjaaGreatDoorKs0
import Derived.Test.YtadagifjonbmjaaGreatDoorKv0
import Derived.Test.YtadagifjonbmjaaGreatDoorKv1
import Derived.Test.YtadagifjonbmjaaGreatDoorKw1
set_option linter.all false
/- Complex: slices.Concat of lists of simplices; what a map of simplices holds; (set).list; complex.Union. -/
namespace Go.CP
open Go.Proofs
variable [LG] [HK]
theorem take_snocG {α : Type} {l : List α} {i : Nat} (hi : i < l.length) : l.take (i + 1) = l.take i ++ [l[i]] := by rw [List.take_add_one, List.getElem?_eq_getElem hi]; rfl
def RowsC (h : Hp) (cs : List CV) (ds : List (List CV)) : Prop := cs.length = ds.length ∧ ∀ i (h1 : i < cs.length) (h2 : i < ds.length), Row h cs[i] ds[i] ∧ ds[i].all CV.one = true
theorem RowsC.mono {N : Nat} {h h' : Hp} (S : Same N h h') (ok : HpOk h) (hN : h.n ≤ N) {cs : List CV} {ds : List (List CV)} (r : RowsC h cs ds) : RowsC h' cs ds := ⟨r.1, fun i h1 h2 => ⟨(r.2 i h1 h2).1.mono S ok hN, (r.2 i h1 h2).2⟩⟩
section
variable {K : Ctx} {h : Hp}
theorem grow128_ret (H : Std K) (PD : PlansD K) (ok : HpOk h) {m : Nat} (h0 : 0 < m) (hm : m < 1099511627776) : Ret K 128 [.nils, .nu .i64 (.ofNat m)] h fun r h' => Fill h.n h' 46 m r [] := by
  have hf : K.P.funcs[128]? = some Tryz.f128 := by rw [H.hP]; exact Tryz.func128
  have ht : tyk K.P 22 = .slice 46 1 24 [.nils] := by rw [H.hP]; exact t22
  have ht3 : tyk K.P 3 = .int .i64 := by rw [H.hP]; exact t3
  have o6 := lessN' (P := K.P) (t := 3) (x := m) (y := 0) (Nat.zero_le _)
  have o14 : bineq K.P .sub 3 (.nu .i64 (.ofNat m)) (.nu .i64 0) = some (.nu .i64 (.ofNat m)) := by
    show some (nuW .i64 (Int.ofNat m - 0)) = _
    rw [nuW_eq, Int.sub_zero]; exact congrArg _ (congrArg _ (wr_i64 m (by omega)))
  have o16 := more (P := K.P) (t := 3) (Int.ofNat m) 0
  rw [ile_f (by simp; omega)] at o16
  have hlen : (rep [CV.nils] m).length = m := by rw [rep_length]; simp
  have wg : wApp h .nils (.nu .i64 (.ofNat m)) (tyk K.P 22) (tyk K.P 3) = some (.sl h.n 0 m m, h.push (.cells (rep [.nils] m) 1 46)) := by
    rw [ht, ht3]
    have hc : (Nat.beq [CV.nils].length 1 && Nat.blt 0 1 && Nat.blt 0 m && Nat.ble (m * 24) 70368744177664 && Nat.ble m 4611686018427387904) = true := by
      rw [Nat.ble_eq_true_of_le (show m * 24 ≤ 70368744177664 by omega), Nat.ble_eq_true_of_le (show m ≤ 4611686018427387904 by omega), show Nat.blt 0 m = true by simpa using h0]; rfl
    simp only [wApp, appZ, hc]
  have hg : (h.push (.cells (rep [.nils] m) 1 46)).get h.n = .cells (rep [.nils] m) 1 46 := by rw [Hp.get_push, if_pos rfl]
  have o25 : qSliceV none (some (.nu .i64 (.ofNat 0))) (h.push (.cells (rep [.nils] m) 1 46)) (.sl h.n 0 m m) (tyk K.P 22) = some (.sl h.n 0 0 m) := by
    rw [ht]
    have : Nat.blt 0 m = true := by simpa using h0
    have hf : fits 1 (HB.cells (rep [CV.nils] m) 1 46) = true := rfl
    simp only [qSliceV, bndV, bndC, qSliceSl, Nat.ble_eq_true_of_le (Nat.zero_le m), Nat.ble_eq_true_of_le (Nat.le_refl 0), Bool.and_self, this, hg, hf, Nat.sub_zero, Nat.zero_mul, Nat.add_zero]
  refine ⟨_, _, Comes.plain hf rfl (H.memo 128 (by decide)) (H.spec 128) rfl (f128_b_FT H.hk H.prim PD (s := entry 0 [.nils, .nu .i64 (.ofNat m)]) rfl rfl o6 (show qCap (tyk K.P 22) .nils = some (.nu .i64 (.ofNat 0)) by rw [ht]; rfl) (show qLen h .nils (tyk K.P 22) = some (.nu .i64 (.ofNat 0)) by rw [ht]; rfl) (show bineq K.P .sub 3 (.nu .i64 (.ofNat 0)) (.nu .i64 (.ofNat 0)) = some (.nu .i64 0) from rfl) o14 o16 (show qSliceV none (some (.nu .i64 (.ofNat 0))) h .nils (tyk K.P 22) = some .nils by rw [ht]; rfl) wg (show qLen _ .nils (tyk K.P 22) = some (.nu .i64 (.ofNat 0)) by rw [ht]; rfl) o25) (.inr rfl) (by simp) rfl rfl rfl, Same.push (Nat.le_refl _) _, ok.push _, ⟨⟨h.n, rep [.nils] m, rfl, Nat.le_refl _, by simp, hg, by rw [hlen]; simp⟩⟩⟩
theorem grow128_zero (H : Std K) (PD : PlansD K) : Comes K 128 [.nils, .nu .i64 (.ofNat 0)] h .nils h := by
  have hf : K.P.funcs[128]? = some Tryz.f128 := by rw [H.hP]; exact Tryz.func128
  have ht : tyk K.P 22 = .slice 46 1 24 [.nils] := by rw [H.hP]; exact t22
  exact Comes.plain hf rfl (H.memo 128 (by decide)) (H.spec 128) rfl (f128_b_FF H.hk H.prim PD (s := entry 0 [.nils, .nu .i64 (.ofNat 0)]) rfl rfl (lessN' (Nat.zero_le _)) (show qCap (tyk K.P 22) .nils = some (.nu .i64 (.ofNat 0)) by rw [ht]; rfl) (show qLen h .nils (tyk K.P 22) = some (.nu .i64 (.ofNat 0)) by rw [ht]; rfl) (show bineq K.P .sub 3 (.nu .i64 (.ofNat 0)) (.nu .i64 (.ofNat 0)) = some (.nu .i64 0) from rfl) (show bineq K.P .sub 3 (.nu .i64 (.ofNat 0)) (.nu .i64 0) = some (.nu .i64 0) from rfl) (gt_f (by decide))) (.inr rfl) (Nat.le_refl _) rfl rfl rfl
def FillN (N : Nat) (h : Hp) (m : Nat) (x : CV) (cs : List CV) : Prop := (0 < m ∧ Fill N h 46 m x cs) ∨ (m = 0 ∧ x = .nils ∧ cs = [])
theorem FillN.row {N m : Nat} {h : Hp} {x : CV} {cs : List CV} (F : FillN N h m x cs) (hm : cs.length = m) : Out N h 46 x cs := by
  rcases F with ⟨h0, F⟩ | ⟨_, rfl, rfl⟩
  · exact F.out hm (fun e => by rw [e] at hm; simp at hm; omega)
  · exact .nils
def sumC (ds : List (List CV)) : Nat := ds.flatten.length
theorem concat96_ret (H : Std K) (PD : PlansD K) (ok : HpOk h) {ds : List (List CV)} (hs : sumC ds < 1099511627776) (hl : ds.length < 1099511627776) {x : CV} {cs : List CV} (hx : Row h x cs) (hxs : RowsC h cs ds) : Ret K 96 [x] h fun r h' => Out h.n h' 46 r ds.flatten := by
  have hf : K.P.funcs[96]? = some Tryz.f96 := by rw [H.hP]; exact Tryz.func96
  have hT : tyk K.P 22 = .slice 46 1 24 [.nils] := by rw [H.hP]; exact t22
  have hlen := len28 H hx
  rw [hxs.1] at hlen
  have hcl := hxs.1
  have hpre : ∀ i, sumC (ds.take i) ≤ sumC ds := fun i => by
    have : sumC (ds.take i) + sumC (ds.drop i) = sumC ds := by
      unfold sumC
      rw [← List.length_append, ← List.flatten_append, List.take_append_drop]
    omega
  have hsn : ∀ i (hi : i < ds.length), sumC (ds.take (i + 1)) = sumC (ds.take i) + ds[i].length := fun i hi => by
    unfold sumC
    rw [take_snocG hi, List.flatten_append, List.length_append]
    simp only [List.flatten_cons, List.flatten_nil, List.append_nil]
  obtain ⟨s2, r2, k0, k3, k9, k10, k11, ks⟩ : ∃ s2, Runs K 96 36 none (sub1 [1, 1, 0, 0] (bodyOf Tryz.f96)) (T.set (T.set (entry 0 [x]) 2 .nils) 3 (.nu .i64 0)) h .normal s2 h ∧ s2.at 0 = x ∧ s2.at 3 = .nu .i64 (.ofNat 0) ∧ s2.at 9 = x ∧ s2.at 10 = .nu .i64 (.ofNat ds.length) ∧ s2.at 11 = .nu .i64 (.ofNat 0) ∧ s2.at slot = .undef := ⟨_, f96_r2 H.hk rfl hlen, rfl, rfl, rfl, rfl, rfl, rfl⟩
  obtain ⟨s3, h3, r3, rfl, l0, l3, ls⟩ := RunQ.loopE (K := K) (f := 96) (n := 36) (c := sub1 [1, 1, 0, 1, 0, 0] (bodyOf Tryz.f96)) (s := s2) (h := h) (m := ds.length) (b := 0)
    (I := fun i s g => g = h ∧ s.at 0 = x ∧ s.at 3 = .nu .i64 (.ofNat (sumC (ds.take i))) ∧ s.at 9 = x ∧ s.at 10 = .nu .i64 (.ofNat ds.length) ∧ s.at 11 = .nu .i64 (.ofNat i) ∧ s.at slot = .undef)
    (E := fun s g => g = h ∧ s.at 0 = x ∧ s.at 3 = .nu .i64 (.ofNat (sumC ds)) ∧ s.at slot = .undef) ⟨rfl, k0, k3, k9, k10, k11, ks⟩
    (fun i s g hi ⟨e, g0, g3, g9, g10, g11, gs⟩ => by
      subst e
      obtain ⟨p, hp1, hp2⟩ := at28 H hx (i := i) (by omega)
      have hr := (hxs.2 i (by omega) hi).1
      have hln := len22 H hr
      have := hpre (i + 1)
      have o18 : bineq K.P .add 3 (.nu .i64 (.ofNat (sumC (ds.take i)))) (.nu .i64 (.ofNat ds[i].length)) = some (.nu .i64 (.ofNat (sumC (ds.take (i + 1))))) := by
        rw [hsn i hi] at this ⊢
        rw [addI (by simp; omega) (by simp; omega)]; rfl
      exact ⟨_, _, f96_b110100_TF H.hk H.prim PD g11 g10 g9 g3 (lessN hi) hp1 hp2 hln o18 (lessN' (Nat.zero_le _)) (inc (by omega)), rfl, g0, rfl, g9, g10, rfl, gs⟩)
    (fun s g ⟨e, g0, g3, g9, g10, g11, gs⟩ => by
      subst e
      exact ⟨_, _, f96_b110100_F H.hk H.prim PD g11 g10 (lessN' (Nat.le_refl _)), rfl, g0, by rw [List.take_length] at g3; exact g3, gs⟩)
  obtain ⟨y, h4, c4, S4, ok4, F4⟩ : ∃ y h4, Comes K 128 [.nils, .nu .i64 (.ofNat (sumC ds))] h3 y h4 ∧ Same h3.n h3 h4 ∧ HpOk h4 ∧ FillN h3.n h4 (sumC ds) y [] := by
    rcases Nat.eq_zero_or_pos (sumC ds) with h0 | h0
    · rw [h0]; exact ⟨.nils, h3, grow128_zero H PD, Same.refl _ _, ok, .inr ⟨rfl, rfl, rfl⟩⟩
    · obtain ⟨y, h4, c, S, ok4, F⟩ := grow128_ret H PD ok h0 hs
      exact ⟨y, h4, c, S, ok4, .inl ⟨h0, F⟩⟩
  obtain ⟨s4, r4, m0, m6, ms⟩ : ∃ s4, Runs K 96 36 none (sub1 [1, 1, 1, 0] (bodyOf Tryz.f96)) s3 h3 .normal s4 h4 ∧ s4.at 0 = x ∧ s4.at 6 = y ∧ s4.at slot = .undef := ⟨_, f96_r9 H.hk l3 (H.prim _ _) c4, l0, rfl, ls⟩
  have hlen4 := len28 H (hx.mono S4 ok (Nat.le_refl _))
  rw [hxs.1] at hlen4
  obtain ⟨s5, r5, n6, n25, n26, n27, ns⟩ : ∃ s5, Runs K 96 36 none (sub1 [1, 1, 1, 1, 0, 0] (bodyOf Tryz.f96)) s4 h4 .normal s5 h4 ∧ s5.at 6 = y ∧ s5.at 25 = x ∧ s5.at 26 = .nu .i64 (.ofNat ds.length) ∧ s5.at 27 = .nu .i64 (.ofNat 0) ∧ s5.at slot = .undef := ⟨_, f96_r10 H.hk m0 hlen4, m6, rfl, rfl, rfl, ms⟩
  obtain ⟨s6, h6, r6, ok6, S6, es, F6⟩ := RunQ.loopE (K := K) (f := 96) (n := 36) (c := sub1 [1, 1, 1, 1, 0, 1, 0, 0] (bodyOf Tryz.f96)) (s := s5) (h := h4) (m := ds.length) (b := 2)
    (I := fun i s g => HpOk g ∧ Same h3.n h3 g ∧ s.at 25 = x ∧ s.at 26 = .nu .i64 (.ofNat ds.length) ∧ s.at 27 = .nu .i64 (.ofNat i) ∧ s.at slot = .undef ∧ FillN h3.n g (sumC ds) (s.at 6) (ds.take i).flatten)
    (E := fun s g => HpOk g ∧ Same h3.n h3 g ∧ s.at slot = .undef ∧ FillN h3.n g (sumC ds) (s.at 6) ds.flatten) ⟨ok4, S4, n25, n26, n27, ns, by rw [n6]; exact F4⟩
    (fun i s g hi ⟨okg, S, g25, g26, g27, gs, F⟩ => by
      obtain ⟨p, hp1, hp2⟩ := at28 H (hx.mono S ok (Nat.le_refl _)) (i := i) (by omega)
      obtain ⟨hr, hone⟩ := (hxs.mono S ok (Nat.le_refl _)).2 i (by omega) hi
      have hle := hpre (i + 1)
      rw [hsn i hi] at hle
      have htk : (ds.take (i + 1)).flatten = (ds.take i).flatten ++ ds[i] := by
        rw [take_snocG hi, List.flatten_append]
        simp only [List.flatten_cons, List.flatten_nil, List.append_nil]
      obtain ⟨x', g', w1, w2, w3, w4⟩ : ∃ x' g', wApp g (s.at 6) cs[i] (tyk K.P 22) (tyk K.P 22) = some (x', g') ∧ FillN h3.n g' (sumC ds) x' ((ds.take i).flatten ++ ds[i]) ∧ Same h3.n g g' ∧ HpOk g' := by
        rcases F with ⟨h0, F⟩ | ⟨h0, e1, e2⟩
        · obtain ⟨x', g', a1, a2, a3, a4⟩ := F.app (z := [.nils]) (t' := tyk K.P 22) (bytes := 24) okg hr hone hle rfl ⟨_, _, _, hT⟩ (by unfold sumC at hle hs; omega) (by unfold sumC at hle hs; omega)
          exact ⟨x', g', by rw [← a1, hT], .inl ⟨h0, a2⟩, a3, a4⟩
        · have hz : ds[i] = [] := List.eq_nil_of_length_eq_zero (by omega)
          have hcell := hr.cells
          have hlv := hr.lenV
          rw [hz] at hcell hlv
          refine ⟨.nils, g, ?_, .inr ⟨h0, rfl, by rw [e2, hz]; rfl⟩, Same.refl _ _, okg⟩
          rw [e1, hT]
          have hc : (([] : List CV).all CV.one && Nat.beq [CV.nils].length 1 && Nat.blt 0 1 && Nat.ble ((CP.lenV .nils + ([] : List CV).length) * 24) 70368744177664 && Nat.ble (CP.lenV .nils + ([] : List CV).length) 4611686018427387904) = true := rfl
          simp only [wApp, appC, hcell, hlv, hc]
          rfl
      exact ⟨_, _, f96_b11110100_T H.hk H.prim PD g27 g26 g25 rfl (lessN hi) hp1 hp2 w1 (inc (by omega)), w4, S.trans w3, g25, g26, rfl, gs, by rw [htk]; exact w2⟩)
    (fun s g ⟨okg, S, g25, g26, g27, gs, F⟩ => ⟨_, _, f96_b11110100_F H.hk H.prim PD g27 g26 (lessN' (Nat.le_refl _)), okg, S, gs, by rw [List.take_length] at F; exact F⟩)
  exact ⟨_, h6, Comes.plain hf rfl (H.memo 96 (by decide)) (H.spec 96) rfl (Runs.seq (f96_r0 H.hk) (Runs.seq (f96_r1 H.hk) (Runs.seq (Runs.seq r2 r3) (Runs.seq r4 (Runs.seq (Runs.seq r5 r6) (f96_b11111 H.hk H.prim PD rfl)))))) (.inr rfl) S6.n es rfl rfl, S6, ok6, F6.row rfl⟩
end
end Go.CP
namespace Go.CP
open Go.Proofs
variable [LG] [HK]
structure MapR (h : Hp) (es : List (CV × CV)) (ls : List (List Int)) : Prop where
  key : es.map (·.1) = ls.map fun a => CV.agg (padI a)
  rows : Rows h (es.map (·.2)) ls
  nd : ls.Nodup
  ok : ∀ a ∈ ls, OkS a
theorem MapR.mono {N : Nat} {h h' : Hp} (S : Same N h h') (ok : HpOk h) (hN : h.n ≤ N) {es : List (CV × CV)} {ls : List (List Int)} (M : MapR h es ls) : MapR h' es ls := ⟨M.key, M.rows.mono S ok hN, M.nd, M.ok⟩
theorem MapR.put {h : Hp} {v : CV} {a : List Int} (ha : OkS a) (hv : Row h v (Ints a)) : ∀ {es : List (CV × CV)} {ls : List (List Int)}, MapR h es ls → ∃ es' ls', updM (.agg (padI a)) v es = some es' ∧ MapR h es' ls' ∧ ∀ x, x ∈ ls' ↔ x ∈ ls ∨ x = a
  | [], [], _ => ⟨_, [a], rfl, ⟨rfl, .cons hv .nil, (by simp), by simpa using ha⟩, by simp⟩
  | [], b :: ls, M => by have := M.key; simp at this
  | (k, u) :: es, [], M => by have := M.key; simp at this
  | (k, u) :: es, b :: ls, M => by
    have hk := M.key
    simp only [List.map_cons, List.cons.injEq] at hk
    obtain ⟨rfl, hk⟩ := hk
    have hr := M.rows
    have hnd := List.nodup_cons.1 M.nd
    have hb := M.ok b List.mem_cons_self
    cases hr with
    | cons hx hs =>
      by_cases e : a = b
      · subst e
        have : kcmp (.agg (padI a)) (.agg (padI a)) = some true := kcmp_self (numK_pad ha.le)
        refine ⟨(CV.agg (padI a), v) :: es, a :: ls, by simp only [updM, this], ⟨by simp [hk], .cons hv hs, M.nd, M.ok⟩, fun x => ?_⟩
        constructor
        · exact .inl
        · rintro (h | rfl)
          · exact h
          · exact List.mem_cons_self
      · obtain ⟨t, ht⟩ := kcmp_tot (numK_pad ha.le) (numK_pad hb.le)
        cases t with
        | true => exact absurd (pad_inj ha hb ht) e
        | false =>
          obtain ⟨es', ls', e1, M', hm⟩ := MapR.put ha hv (es := es) (ls := ls) ⟨hk, hs, hnd.2, fun x hx => M.ok x (List.mem_cons_of_mem _ hx)⟩
          refine ⟨(CV.agg (padI b), u) :: es', b :: ls', by simp only [updM, ht, e1], ⟨by simp [M'.key], .cons hx M'.rows, List.nodup_cons.2 ⟨fun hbm => ?_, M'.nd⟩, fun x hx => ?_⟩, fun x => ?_⟩
          · rcases (hm b).1 hbm with h | h
            · exact hnd.1 h
            · exact e h.symm
          · rcases List.mem_cons.1 hx with rfl | hx
            · exact hb
            · exact M'.ok x hx
          · rw [List.mem_cons, List.mem_cons, hm]
            constructor
            · rintro (h | h | h)
              · exact .inl (.inl h)
              · exact .inl (.inr h)
              · exact .inr h
            · rintro ((h | h) | h)
              · exact .inl h
              · exact .inr (.inl h)
              · exact .inr (.inr h)
section
variable {K : Ctx} {h : Hp}
theorem collectR_ret (H : Std K) (PC : PlansC K) (ok : HpOk h) {l : List (List Int)} (hl : l.length < 549755813888) (hok : ∀ a ∈ l, OkS a) {x : CV} {cs : List CV} (hx : Row h x cs) (hxs : Rows h cs l) : Ret K 95 [x] h fun r h' => ∃ km es ls, r = .mp km ∧ km < h'.n ∧ h'.get km = .mp es ∧ MapR h' es ls ∧ ∀ a, a ∈ ls ↔ a ∈ l := by
  have hf : K.P.funcs[95]? = some Tryz.f95 := by rw [H.hP]; exact Tryz.func95
  have hcl := hxs.length
  have S0 : Same h.n h (h.push (.mp [])) := Same.push (Nat.le_refl _) _
  have hlen1 := len22 H (hx.mono S0 ok (Nat.le_refl _))
  rw [hcl] at hlen1
  obtain ⟨s2, r2, k3, k7, k8, k9, ks⟩ : ∃ s2, Runs K 95 19 none (sub1 [1, 1, 0, 0] (bodyOf Tryz.f95)) (T.set (T.set (T.set (entry 0 [x]) 2 .nilm) 6 (.mp h.n)) 3 (.mp h.n)) (h.push (.mp [])) .normal s2 (h.push (.mp [])) ∧ s2.at 3 = .mp h.n ∧ s2.at 7 = x ∧ s2.at 8 = .nu .i64 (.ofNat l.length) ∧ s2.at 9 = .nu .i64 (.ofNat 0) ∧ s2.at slot = .undef := ⟨_, f95_r2 H.hk rfl hlen1, rfl, rfl, rfl, rfl, rfl⟩
  obtain ⟨s', h', r, ok', S, hkn, ⟨hs, h3⟩, es, ls, hg, M, hm⟩ := RunQ.loopE (K := K) (f := 95) (n := 19) (c := sub1 [1, 1, 0, 1, 0, 0] (bodyOf Tryz.f95)) (s := s2) (h := h.push (.mp [])) (m := l.length) (b := 0)
    (I := fun i s g => HpOk g ∧ Same h.n h g ∧ h.n < g.n ∧ s.at 3 = .mp h.n ∧ s.at 7 = x ∧ s.at 8 = .nu .i64 (.ofNat l.length) ∧ s.at 9 = .nu .i64 (.ofNat i) ∧ s.at slot = .undef ∧ ∃ es ls, g.get h.n = .mp es ∧ MapR h es ls ∧ ∀ a, a ∈ ls ↔ a ∈ l.take i)
    (E := fun s g => HpOk g ∧ Same h.n h g ∧ h.n < g.n ∧ (s.at slot = .undef ∧ s.at 3 = .mp h.n) ∧ ∃ es ls, g.get h.n = .mp es ∧ MapR h es ls ∧ ∀ a, a ∈ ls ↔ a ∈ l)
    ⟨ok.push _, S0, by simp, k3, k7, k8, k9, ks, [], [], by rw [Hp.get_push, if_pos rfl], ⟨rfl, .nil, List.nodup_nil, by simp⟩, by simp⟩
    (fun i s g hi ⟨okg, S, hkn, g3, g7, g8, g9, gs, es, ls, hg, M, hm⟩ => by
      have hr := hx.mono S ok (Nat.le_refl _)
      obtain ⟨p, hp1, hp2⟩ := at22 H hr (i := i) (by omega)
      have hx0 := hxs.get (i := i) (by omega) hi
      have hxi := hx0.mono S ok (Nat.le_refl _)
      have okS := hok _ (List.getElem_mem hi)
      obtain ⟨h1, c71, S1, ok1⟩ := of_comes H okg okS.le okS.rng hxi
      have hg1 : h1.get h.n = .mp es := by rw [S1.get h.n hkn]; exact hg
      have hkn1 : h.n < h1.n := Nat.lt_of_lt_of_le hkn S1.n
      obtain ⟨es', ls', u1, M', hm'⟩ := M.put okS hx0
      have w3 : wMap K.P h1 (.mp h.n) (.agg (padI l[i])) cs[i] (tyk K.P 100) = some (.undef, h1.set h.n (.mp es')) := by
        rw [show tyk K.P 100 = .map 103 46 by rw [H.hP]; exact t100]
        simp only [wMap, keyOk_pad H okS.le, wMapB, hg1, u1, wMapE]
      refine ⟨_, _, f95_b110100_T H.hk H.prim PC g9 g8 g7 g3 (lessN hi) hp1 hp2 c71 w3 (inc (by omega)), ok1.set hkn1 _, (S.trans (S1.le S.n)).trans (Same.set (Nat.le_refl _) _), hkn1, g3, g7, g8, rfl, gs, es', ls', by rw [Hp.get_set, if_pos rfl], M', fun a => ?_⟩
      rw [hm', hm, take_snoc hi, List.mem_append, List.mem_singleton])
    (fun s g ⟨okg, S, hkn, g3, g7, g8, g9, gs, es, ls, hg, M, hm⟩ =>
      ⟨_, _, f95_b110100_F H.hk H.prim PC g9 g8 (lessN' (Nat.le_refl _)), okg, S, hkn, ⟨gs, g3⟩, es, ls, hg, M, by rw [List.take_length] at hm; exact hm⟩)
  exact ⟨_, h', Comes.plain hf rfl (H.memo 95 (by decide)) (H.spec 95) rfl (Runs.seq (f95_r0 H.hk) (Runs.seq (f95_r1 H.hk) (Runs.seq (Runs.seq r2 r) (f95_b111 H.hk H.prim PC h3)))) (.inr rfl) S.n hs rfl rfl, S, ok', h.n, es, ls, rfl, hkn, hg, M.mono S ok (Nat.le_refl _), hm⟩
theorem readL_of : ∀ a : List Int, readL (Ints a) = some a
  | [] => rfl
  | v :: a => by
    show (match toI (.nu .i64 v) with
      | some n => match readL (Ints a) with
        | some a => some (n :: a)
        | none => none
      | none => none) = _
    rw [readL_of a]; rfl
theorem readRow_of {v : CV} {a : List Int} (r : Row h v (Ints a)) (hne : a ≠ []) (hl : a.length < 1000000) : readRow h v = some a := by
  generalize hcs : Ints a = cs at r
  cases r with
  | nils => exact absurd (by simpa [Ints] using hcs) hne
  | sle => exact absurd (by simpa [Ints] using hcs) hne
  | none k o c => exact absurd (by simpa [Ints] using hcs) hne
  | @some k o c cs hn hs hc hf =>
    have hcl : cs.length = a.length := by rw [← hcs, ints_length]
    have hpos : 0 < a.length := List.length_pos_iff.2 hne
    have hb : (Nat.blt 0 cs.length && Nat.ble cs.length c && fits 1 (h.get k) && Nat.blt cs.length 1000000) = true := by
      rw [hf, Nat.ble_eq_true_of_le hc, show Nat.blt 0 cs.length = true by simp; omega, show Nat.blt cs.length 1000000 = true by simp; omega]; rfl
    simp only [readRow, hb, hs]
    rw [← hcs]; exact readL_of a
theorem readRows_of : ∀ {es : List (CV × CV)} {ls : List (List Int)}, Rows h (es.map (·.2)) ls → (∀ a ∈ ls, OkS a) → readRows h es = some ls
  | [], [], _, _ => rfl
  | [], _ :: _, r, _ => by cases r
  | _ :: _, [], r, _ => by cases r
  | e :: es, a :: ls, r, ho => by
    cases r with
    | cons hx hs =>
      have hoa := ho a List.mem_cons_self
      simp only [readRows, readRow_of hx hoa.ne (by have := hoa.le; omega), readRows_of hs fun x hx => ho x (List.mem_cons_of_mem _ hx)]
theorem nodupB_of : ∀ {ls : List (List Int)}, ls.Nodup → nodupB ls = true
  | [], _ => rfl
  | a :: l, h => by
    obtain ⟨h1, h2⟩ := List.nodup_cons.1 h
    have : l.any (eqI a) = false := by
      rw [List.any_eq_false]
      intro b hb e
      exact h1 ((eqI_iff a b).1 e ▸ hb)
    simp only [nodupB, this, nodupB_of h2]; rfl
theorem lay_own (ok : HpOk h) {l : List (List Int)} : Same h.n h (layRows l h).2 ∧ HpOk (layRows l h).2 ∧ ∃ cs, Own h.n (layRows l h).2 46 (layRows l h).1 cs l := by
  cases hq : l with
  | nil => exact ⟨Same.refl _ _, ok, [], Own.nil⟩
  | cons a0 l0 =>
    rw [← hq]
    have hlr : layRows l h = (.sl (layEach l h).2.n 0 l.length l.length, (layEach l h).2.push (.cells (layEach l h).1 1 46)) := by rw [hq]; rfl
    have hn := layEach_n l h
    have hok := layEach_ok l h ok
    obtain ⟨hfl, hfg⟩ := layEach_fst l h
    have hne : (layEach l h).1 ≠ [] := fun e => by rw [e, hq] at hfl; simp at hfl
    have hS : Same h.n h (layEach l h).2 := ⟨by omega, fun k hk => layEach_old l h k hk⟩
    rw [hlr]
    refine ⟨hS.trans (Same.push (by omega) _), hok.push _, (layEach l h).1, ?_, ?_⟩
    · have := Out.some (N := h.n) (h := (layEach l h).2.push (.cells (layEach l h).1 1 46)) (el := 46) (k := (layEach l h).2.n) (cs := (layEach l h).1) (by omega) (Nat.lt_succ_self _) hne (by rw [Hp.get_push, if_pos rfl])
      rw [hfl] at this
      exact this
    · have key : ∀ (cs : List CV) (m : List (List Int)), cs.length = m.length → (∀ i (h1 : i < cs.length) (h2 : i < m.length), Row (wipe ((layEach l h).2.push (.cells (layEach l h).1 1 46)) (.sl (layEach l h).2.n 0 l.length l.length)) cs[i] (Ints m[i])) → Rows (wipe ((layEach l h).2.push (.cells (layEach l h).1 1 46)) (.sl (layEach l h).2.n 0 l.length l.length)) cs m := by
        intro cs
        induction cs with
        | nil => intro m hl _; cases m with
          | nil => exact .nil
          | cons => simp at hl
        | cons c cs ih => intro m hl hr; cases m with
          | nil => simp at hl
          | cons b m => exact .cons (hr 0 (by simp) (by simp)) (ih m (by simpa using hl) fun i h1 h2 => hr (i + 1) (by simpa using h1) (by simpa using h2))
      refine key _ _ hfl fun i h1 h2 => ?_
      rw [hfg i h1 h2]
      have hg : (wipe ((layEach l h).2.push (.cells (layEach l h).1 1 46)) (.sl (layEach l h).2.n 0 l.length l.length)).get (h.n + i) = .cells (Ints l[i]) 1 3 := by
        show (Hp.set _ (layEach l h).2.n .dead).get (h.n + i) = _
        rw [Hp.get_set, if_neg (by omega), Hp.get_push, if_neg (by omega)]
        exact layEach_get l h i h2
      by_cases hz : l[i] = []
      · rw [hz]; exact .none _ _ _
      · have := Row.some (h := wipe ((layEach l h).2.push (.cells (layEach l h).1 1 46)) (.sl (layEach l h).2.n 0 l.length l.length)) (k := h.n + i) (o := 0) (c := (Ints l[i]).length) (cs := Ints l[i]) (ints_ne hz) (by rw [hg]; simp only [hbSub, Nat.zero_add, Nat.ble_eq_true_of_le (Nat.le_refl _), sub, List.drop_zero, List.take_length]) (Nat.le_refl _) (by rw [hg]; rfl)
        rwa [ints_length] at this
def Told72 (K : Ctx) : Prop := ∀ args h, K.spec 72 args h = spec72A h args
theorem list_ret (H : Std K) (T : Told72 K) (ok : HpOk h) {km : Nat} {es : List (CV × CV)} {ls : List (List Int)} (hg : h.get km = .mp es) (M : MapR h es ls) (hfew : ls.length ≤ 1024) : Ret K 72 [.mp km] h fun r h' => ∃ cs, Own h.n h' 46 r cs (ascL ls) := by
  have hl : es.length = ls.length := by have := congrArg List.length M.key; simpa using this
  have hs : K.spec 72 [.mp km] h = some (layRows (ascL ls) h) := by
    rw [T]
    have h1 : Nat.ble es.length 1024 = true := Nat.ble_eq_true_of_le (by omega)
    simp only [spec72A, hg, spec72M, h1, readRows_of M.rows M.ok, nodupB_of M.nd]
  obtain ⟨S, ok', cs, O⟩ := lay_own ok (l := ascL ls)
  exact ⟨_, _, Comes.told (H.memo 72 (by decide)) hs, S, ok', cs, O⟩
theorem perm_of_mem {α : Type} [DecidableEq α] : ∀ {l m : List α}, l.Nodup → m.Nodup → (∀ a, a ∈ l ↔ a ∈ m) → l.Perm m
  | [], m, _, _, h => by
    have : m = [] := List.eq_nil_iff_forall_not_mem.2 fun a ha => by simpa using (h a).2 ha
    rw [this]
  | a :: l, m, hl, hm, h => by
    obtain ⟨h1, h2⟩ := List.nodup_cons.1 hl
    have ha : a ∈ m := (h a).1 List.mem_cons_self
    refine List.Perm.trans (List.Perm.cons a (perm_of_mem h2 (hm.erase a) fun x => ?_)) (List.perm_cons_erase ha).symm
    rw [hm.mem_erase_iff, ← h x, List.mem_cons]
    constructor
    · intro hx; exact ⟨fun e => h1 (e ▸ hx), .inr hx⟩
    · rintro ⟨e, hx | hx⟩
      · exact absurd hx e
      · exact hx
theorem ascL_length {ls : List (List Int)} (h : ls.Nodup) : (ascL ls).length = ls.length := (perm_of_mem (Srt.nodup (ascL_srt ls)) h fun _ => mem_ascL).length_eq
def unionI (a b : List (List Int)) : List (List Int) := ascL (a ++ b)
theorem union_ret (H : Std K) (T : Told72 K) (PC : PlansC K) (PD : PlansD K) (ok : HpOk h) {a b : List (List Int)} (ha : Sml a) (hb : Sml b) {x y : CV} {cs ds : List CV} (hx : Row h x cs) (hxs : Rows h cs a) (hy : Row h y ds) (hys : Rows h ds b) : KeptE K 46 [x, y] h (if errB a b ≠ 0 then errB a b else if 1024 < (unionI a b).length then 3 else 0) (unionI a b) := by
  have hf : K.P.funcs[46]? = some Tryz.f46 := by rw [H.hP]; exact Tryz.func46
  obtain ⟨rv, h1, c1, S1, ok1, rfl⟩ := both_ret H PC ok ha hb hx hxs hy hys
  by_cases he : errB a b = 0
  case neg =>
    rw [if_pos he]
    exact Fails.e he ⟨_, h1, Comes.plain hf rfl (H.memo 46 (by decide)) (H.spec 46) rfl (f46_b_T H.hk H.prim PD (s := entry 0 [x, y]) rfl rfl c1 (ne_t he)) (.inr rfl) S1.n rfl rfl rfl, S1, ok1, rfl⟩
  rw [if_neg (fun hn => hn he)]
  have he1 : errC a = 0 := by
    by_cases h0 : errC a = 0
    · exact h0
    · rw [errB, if_pos h0] at he; exact absurd he h0
  have he2 : errC b = 0 := by rw [errB, if_neg (fun hn => hn he1)] at he; exact he
  have hCa := errC_okC he1
  have hCb := errC_okC he2
  have hla := hCa.le
  have hlb := hCb.le
  have hcl := hxs.length
  have hdl := hys.length
  have o16 : lSlice 2 [(0, x), (1, y)] (tyk K.P 28) = some (fun k => .sl k 0 2 2, .cells [x, y] 0 22) := by
    rw [show tyk K.P 28 = .slice 22 1 24 [.nils] by rw [H.hP]; exact t28]
    exact two_slice hx.one hy.one
  have Sp : Same h.n h (h1.push (.cells [x, y] 0 22)) := S1.trans (Same.push S1.n _)
  have okp : HpOk (h1.push (.cells [x, y] 0 22)) := ok1.push _
  have hrow : Row (h1.push (.cells [x, y] 0 22)) (.sl h1.n 0 2 2) [x, y] := two_row
  have hrc : RowsC (h1.push (.cells [x, y] 0 22)) [x, y] [cs, ds] := ⟨rfl, fun i g1 g2 => by
    match i, g1 with
    | 0, _ => exact ⟨hx.mono Sp ok (Nat.le_refl _), hxs.one⟩
    | 1, _ => exact ⟨hy.mono Sp ok (Nat.le_refl _), hys.one⟩⟩
  obtain ⟨z, h2, c2, S2, ok2, o2⟩ := concat96_ret H PD okp (ds := [cs, ds]) (by simp [sumC]; omega) (by simp) hrow hrc
  have Sz := Sp.trans (S2.le Sp.n)
  have hzs : Rows h2 (cs ++ ds) (a ++ b) := (hxs.mono Sz ok (Nat.le_refl _)).append (hys.mono Sz ok (Nat.le_refl _))
  have hzr : Row h2 z (cs ++ ds) := by have := o2.row; simpa using this
  obtain ⟨rv, h3, c3, S3, ok3, km, es, ls, rfl, hkm, hg, M, hm⟩ := collectR_ret H PC ok2 (l := a ++ b) (by simp; omega) (fun s hs => by
    rcases List.mem_append.1 hs with h | h
    · exact hCa.simp s h
    · exact hCb.simp s h) hzr hzs
  have Sg := Sz.trans (S3.le Sz.n)
  have hel : es.length = ls.length := by have := congrArg List.length M.key; simpa using this
  have hun : ascL ls = unionI a b := srt_ext (ascL_srt _) (ascL_srt _) fun x => by unfold unionI; rw [mem_ascL, mem_ascL, hm]
  have hul : (unionI a b).length = ls.length := by rw [← hun, ascL_length M.nd]
  have o20 : qLen h3 (.mp km) (tyk K.P 100) = some (.nu .i64 (.ofNat es.length)) := by
    rw [show tyk K.P 100 = .map 103 46 by rw [H.hP]; exact t100]
    simp only [qLen, hg, hbLen]
  by_cases hbig : 1024 < (unionI a b).length
  · rw [if_pos hbig]
    exact Fails.e (by decide) ⟨_, h3, Comes.plain hf rfl (H.memo 46 (by decide)) (H.spec 46) rfl (f46_b_FT H.hk H.prim PD (s := entry 0 [x, y]) rfl rfl c1 (ne_f he) o16 c2 c3 o20 (gt_t (by show (1024 : Int) < Int.ofNat _; simp; omega))) (.inr rfl) Sg.n rfl rfl rfl, Sg, ok3, rfl⟩
  · rw [if_neg hbig]
    obtain ⟨r, h4, c4, S4, ok4, os, O4⟩ := list_ret H T ok3 hg M (by omega)
    rw [hun] at O4
    have Sall := Sg.trans (S4.le Sg.n)
    exact ⟨_, h4, Comes.plain hf rfl (H.memo 46 (by decide)) (H.spec 46) rfl (f46_b_FF H.hk H.prim PD (s := entry 0 [x, y]) rfl rfl c1 (ne_f he) o16 c2 c3 o20 (gt_f (by simp; omega)) c4) (.inr rfl) Sall.n rfl rfl rfl, Sall, ok4, r, os, rfl, by rw [if_pos rfl]; exact O4.low Sg.n⟩
end
end Go.CP
namespace Go.CP
open Go.Proofs
variable [LG] [HK]
theorem valid8_len {l : List (List Int)} {most dim : Nat} {n : Int} (hdim : dim ≤ 4) (hn : 0 < n) (hn64 : n ≤ 64) : (valid8 l most dim n).length ≤ 32 * most := by
  have hf : ∀ a ∈ fewGo most (dim + 1) n l, OkS a := by
    intro a ha
    obtain ⟨b, rfl⟩ := mem_fewGo l most ha
    exact validI_ok (by omega) (by omega) hn hn64 b
  have h1 := closedGo_length' (q := 5) (fewGo most (dim + 1) n l) [] (fun a ha => (hf a ha).le)
  have h2 := fewGo_length (dim + 1) n l most
  have h3 : (2 : Nat) ^ 5 = 32 := by decide
  rw [h3] at h1
  simp only [valid8, closedI]
  simp at h1
  omega
theorem mem_unionI {a b : List (List Int)} {x : List Int} : x ∈ unionI a b ↔ x ∈ a ∨ x ∈ b := by unfold unionI; rw [mem_ascL, List.mem_append]
section
variable {K : Ctx} {h : Hp}
end
end Go.CP
