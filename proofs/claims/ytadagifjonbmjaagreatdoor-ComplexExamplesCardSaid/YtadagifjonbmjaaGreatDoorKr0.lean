import Derived.Test.YtadagifjonbmjaaGreatDoorKp4
import Derived.Test.YtadagifjonbmjaaGreatDoorKq0
import Derived.Maps.RangeRun
set_option linter.all false
namespace Go.CP
variable [LG] [HK]
def lw (K : Ctx) : Prop := ∀ fu, fY K.P (K.env fu)
def Goes (K : Ctx) (n : Nat) (c : Code) (s : Fr) (h : Hp) (Q : Exit → Fr → Hp → Prop) : Prop := ∀ (Γ : Bs), Γ.P = K.P → Γ.n = n → Γ.rd = none → ∀ a w, RC Γ s h a w → c.wpIn Γ.F 0 Γ.P (fun e a' w' => ∃ s' h', Q e s' h' ∧ RC Γ s' h' a' w') a w
section
variable {K : Ctx} {f n : Nat} {c x y : Code} {s s1 : Fr} {h h1 : Hp} {e : Exit} {Q Q1 : Exit → Fr → Hp → Prop}
theorem Goes.mono (g : Goes K n c s h Q1) (hq : ∀ e s h, Q1 e s h → Q e s h) : Goes K n c s h Q := fun Γ h1 h2 h3 a w Rr => wpIn_mono (g Γ h1 h2 h3 a w Rr) fun e a w ⟨s', h', q, r⟩ => ⟨s', h', hq _ _ _ q, r⟩
theorem Goes.seq (g : Goes K n x s h Q1) (gn : ∀ s1 h1, Q1 .normal s1 h1 → Goes K n y s1 h1 Q) (gx : ∀ e s1 h1, e ≠ .normal → Q1 e s1 h1 → Q e s1 h1) : Goes K n (.seq x y) s h Q := fun Γ h1 h2 h3 a w Rr => by
 refine wpIn_seq (wpIn_mono (g Γ h1 h2 h3 a w Rr) fun e a1 w1 he => ?_)
 obtain ⟨s1, h1', q, R1⟩ := he
 cases e with
 | normal => exact gn s1 h1' q Γ h1 h2 h3 a1 w1 R1
 | _ => exact ⟨s1, h1', gx _ _ _ (by simp) q, R1⟩
def Fu (i : Nat) : Exit → Exit
 | .exit j => if j = i then .normal else .exit j
 | e => e
theorem Goes.block {i : Nat} (g : Goes K n c s h Q1) (gq : ∀ e s h, Q1 e s h → Q (Fu i e) s h) : Goes K n (.block i c) s h Q := fun Γ h1 h2 h3 a w Rr => by
 refine wpIn_block (wpIn_mono (g Γ h1 h2 h3 a w Rr) fun e a1 w1 he => ?_)
 obtain ⟨s1, h1', q, R1⟩ := he
 have q' := gq _ _ _ q
 cases e with
 | exit j =>
  simp only [Exit.inBlock]
  simp only [Fu] at q'
  split
  · rename_i hj; rw [if_pos hj] at q'; exact ⟨s1, h1', q', R1⟩
  · rename_i hj; rw [if_neg hj] at q'; exact ⟨s1, h1', q', R1⟩
 | _ => exact ⟨s1, h1', q', R1⟩
theorem Goes.loop (I : Nat → Fr → Hp → Prop) (step : ∀ m s h, I m s h → Goes K n c s h fun e s1 h1 => (e = .normal ∧ ∃ j, j < m ∧ I j s1 h1) ∨ (e ≠ .normal ∧ Q e s1 h1)) {m : Nat} (h0 : I m s h) : Goes K n (.loop c) s h Q := fun Γ h1 h2 h3 a w Rr => by
 classical
 let J : Act → World → Nat → Prop := fun a w m => ∃ s h, I m s h ∧ RC Γ s h a w
 refine wpIn_loop (fun a w => ∃ m, J a w m) (fun a w => if h : ∃ m, J a w m then Classical.choose (kG h) else 0) ⟨m, s, h, h0, Rr⟩ fun a w hI => ?_
 rw [dif_pos hI]
 obtain ⟨s2, h2', hI2, R2⟩ := (Classical.choose_spec (kG hI)).1
 generalize Classical.choose (kG hI) = k at hI2
 refine wpIn_mono (step k s2 h2' hI2 Γ h1 h2 h3 a w R2) fun e a1 w1 he => ?_
 obtain ⟨s3, h3', q, R3⟩ := he
 rcases q with ⟨rfl, j, hj, hq⟩ | ⟨hne, hq⟩
 · have hex : ∃ m, J a1 w1 m := ⟨j, s3, h3', hq, R3⟩
   refine ⟨hex, ?_⟩
   rw [dif_pos hex]
   exact Nat.lt_of_le_of_lt ((Classical.choose_spec (kG hex)).2 j ⟨s3, h3', hq, R3⟩) hj
 · cases e with
   | normal => exact absurd rfl hne
   | _ => exact ⟨s3, h3', hq, R3⟩
theorem Goes.runs (KO : lw K) (hns : n ≤ ai) (hok : bp (K.plan f) n c = true) (r : Runs K f n none c s h e s1 h1) : Goes K n c s h fun e' s' h' => e' = e ∧ s' = s1 ∧ h' = h1 := fun Γ g1 g2 g3 a w Rr => by
 obtain ⟨N, r⟩ := r
 have hx := r N N N (Nat.le_refl _) (Nat.le_refl _) (Nat.le_refl _)
 have E := KO N
 subst g2
 have hro : Fl Γ none := g3
 rw [← g1] at hx
 refine wpIn_mono (ig (pl := K.plan f) (prim := K.prim) (call := cz Γ.P (K.env N) N) (ro := none) hns hro (fun ps as bd hk => (E.goods f _ ps as bd).2 hk) (by rw [g1]; exact E.orders) (by rw [g1]; exact E.prim) (fun t args h r h' hc => by rw [g1] at hc ⊢; exact fD E N t args h r h' hc) N c s h e s1 h1 hok hx a w Rr) fun e a1 w1 he => ?_
 obtain ⟨rfl, R1⟩ := he
 exact ⟨s1, h1, ⟨rfl, rfl, rfl⟩, R1⟩
theorem Goes.skip (hq : Q .normal s h) : Goes K n .skip s h Q := fun Γ _ _ _ a w Rr => wpIn_skip ⟨s, h, hq, Rr⟩
theorem Goes.exit {i : Nat} (hq : Q (.exit i) s h) : Goes K n (.exit i) s h Q := fun Γ _ _ _ a w Rr => wpIn_exit ⟨s, h, hq, Rr⟩
theorem Goes.condT {o : Operand} (ho : Ah n o = true) (hc : ev s o = .bo true) (g : Goes K n x s h Q) : Goes K n (.cond o x y) s h Q := fun Γ h1 h2 h3 a w Rr => by
 obtain ⟨ι, Rl⟩ := Rr
 subst h2
 have hcv := Rl.ev (Γ := Γ.at s) (lW ho)
 rw [hc] at hcv
 exact wpIn_cond_split (dF hcv) (fun _ => g Γ h1 rfl h3 a w ⟨ι, Rl⟩) fun h => by cases h
theorem Goes.condF {o : Operand} (ho : Ah n o = true) (hc : ev s o = .bo false) (g : Goes K n y s h Q) : Goes K n (.cond o x y) s h Q := fun Γ h1 h2 h3 a w Rr => by
 obtain ⟨ι, Rl⟩ := Rr
 subst h2
 have hcv := Rl.ev (Γ := Γ.at s) (lW ho)
 rw [hc] at hcv
 exact wpIn_cond_split (dF hcv) (fun h => by cases h) fun _ => g Γ h1 rfl h3 a w ⟨ι, Rl⟩
theorem cW {pl : Nat → Option (List Stp)} {n : Nat} : ∀ (p : List Nat) (c : Code), bp pl n c = true → bp pl n (aD p c) = true
 | [], c, h => by cases c <;> exact h
 | 0 :: p, c, h => by
  cases c <;> first
   | exact h
   | (simp only [bp, Bool.and_eq_true] at h; simp only [aD]; first
       | exact cW p _ h.2.1.2
       | exact cW p _ h.1.2
       | exact cW p _ h.1
       | exact cW p _ h)
 | 1 :: p, c, h => by
  cases c <;> first
   | exact h
   | (simp only [bp, Bool.and_eq_true] at h; simp only [aD]; first | exact cW p _ h.2.2 | exact cW p _ h.2)
 | (k + 2) :: p, c, h => by cases c <;> exact h
def GoesL (K : Ctx) (n : Nat) (ops : Array Oper) (l : List Oper) (s : Fr) (h : Hp) (Q : Exit → Fr → Hp → Prop) : Prop := ∀ (Γ : Bs), Γ.P = K.P → Γ.n = n → Γ.rd = none → ∀ a w, RC Γ s h a w → wpListIn Γ.F 0 Γ.P ops (fun e a' w' => ∃ s' h', Q e s' h' ∧ RC Γ s' h' a' w') l a w
variable {ops : Array Oper} {l : List Oper} {o : Oper} {v : CV}
theorem Goes.region {id : Nat} (g : GoesL K n ops ops.toList s h Q) : Goes K n (.region id ops false) s h Q := fun Γ h1 h2 h3 a w Rr => wpIn_region_list (g Γ h1 h2 h3 a w Rr)
theorem GoesL.nil (hq : Q .normal s h) : GoesL K n ops [] s h Q := fun Γ _ _ _ a w Rr => ⟨s, h, hq, Rr⟩
theorem GoesL.runs (KO : lw K) (hns : n ≤ ai) (hok : jf n ops = true) (hl : ∀ o ∈ l, o ∈ ops.toList) (r : RunL K ops l s h s1 h1) (hq : Q .normal s1 h1) : GoesL K n ops l s h Q := fun Γ g1 g2 g3 a w Rr => by
 obtain ⟨N, r⟩ := r
 have hx := r N N (Nat.le_refl _) (Nat.le_refl _)
 have E := KO N
 subst g2
 rw [← g1] at hx
 have hops := eI hok
 have hat : Γ.at s1 = Γ.at s := lX (jg hns l (fun o ho => hops o (hl o ho)) hx)
 exact qd (Γ := Γ.at s) (prim := K.prim) (call := cz Γ.P (K.env N) N) (by rw [show (Γ.at s).P = Γ.P from rfl, g1]; exact E.prim) (fun t args h r h' hc => by rw [show (Γ.at s).P = Γ.P from rfl, g1]; rw [g1] at hc; exact fD E N t args h r h' hc) hops (fun a w hR => ⟨s1, h1, hq, by unfold RC; rw [hat]; exact hR⟩) l Rr (fun o ho => hops o (hl o ho)) hx
theorem GoesL.op (hns : n ≤ ai) (hops : jf n ops = true) (hl : o ∈ ops.toList) (hg : o.guard = none) (hd : ∀ c, o.op ≠ .defer c)
  (hw : ∀ (N0 : Nat) (ι : Im) (w : World) (ρ : Operand → Value), N0 ≤ w.heap.size → Sim N0 ι h w → (∀ x ∈ o.op.operands.toList, VR ι (ev s x) (ρ x)) → ∃ v h', Ws K.P N0 ι h w ρ o v h' ∧ GoesL K n ops l (Fr.putO s o.dst v) h' Q) : GoesL K n ops (o :: l) s h Q := fun Γ g1 g2 g3 a w Rr => by
 obtain ⟨ι, R⟩ := Rr
 subst g2
 have ho := eI hops o hl
 obtain ⟨v, h', ws, rest⟩ := hw Γ.N0 ι w a.eval (R.wsize (Γ := Γ.at s)) R.sim (fun x hx => R.ev (Γ := Γ.at s) (ho.2 x hx))
 have hwant : Region.wanted o (yielded ops a.tmps) = true := by simp [Region.wanted, hg]
 unfold wpListIn
 rw [if_pos hwant]
 have hsl := dQ (s := s) hns ho.1 v
 have hat : Γ.at (Fr.putO s o.dst v) = Γ.at s := lX hsl
 rw [← g1] at ws
 have := Aa (Γ := Γ.at s) (Q := fun e a' w' => ∃ s' h', Q e s' h' ∧ RC Γ s' h' a' w') R ho hd ws
 exact Oper.wpIn_mono (fun a' w' hR => rest Γ g1 rfl g3 a' w' (by unfold RC; rw [hat]; exact hR)) this
theorem GoesL.take (hns : n ≤ ai) (hops : jf n ops = true) (hl : o ∈ ops.toList) (hg : o.guard = none) (hx : gS K.P o (ev s) h = some (v, h1)) (rest : GoesL K n ops l (Fr.putO s o.dst v) h1 Q) : GoesL K n ops (o :: l) s h Q :=
 GoesL.op hns hops hl hg (Ab hx) fun N0 ι w ρ hN S hv => ⟨v, h1, nc S hN hv hx, rest⟩
theorem GoesL.range {t : TypeId} {x : Operand} {m : Nat} {es : List (CV × CV)} {kt et : TypeId} (hns : n ≤ ai) (hops : jf n ops = true) (hl : o ∈ ops.toList) (hg : o.guard = none) (he : o.op = .range t x) (ht : K.P.underlying t = some (.map kt et)) (hx : ev s x = .mp m) (hm : h.get m = .mp es) (hmn : m < h.n)
  (rest : ∀ bs clock, bs.length = es.length → bs.Nodup → (∀ b ∈ bs, b < clock) → GoesL K n ops l (Fr.putO s o.dst (.ptr h.n 0)) ((h.set m (.mi es bs clock)).push (.it m clock [] clock)) Q) : GoesL K n ops (o :: l) s h Q := by
 refine GoesL.op hns hops hl hg (fun c e => by rw [he] at e; cases e) fun N0 ι w ρ hN S hv => ?_
 have h0 := hv x (by simp [he, Op.operands])
 rw [hx] at h0
 generalize hρ : ρ x = u at h0
 cases h0 with
 | @mp _ im him =>
  have hB := S.blk m im him
  rw [hm] at hB
  obtain ⟨ents, clock, hb, v1, v2, bn⟩ := hB
  have hlen : (ents.toList.map (·.born)).length = es.length := by
   have := v1.1
   simpa using this
  refine ⟨_, _, ?_, rest (ents.toList.map (·.born)) clock hlen bn.1 (fun b hb => by obtain ⟨y, hy, rfl⟩ := List.mem_map.1 hb; exact bn.2 y hy)⟩
  have S1 : Sim N0 ι (h.set m (.mi es (ents.toList.map (·.born)) clock)) w := S.wrote him (by rw [hm]; rfl) (.inl rfl) rfl (fun _ _ => rfl) ⟨ents, hb, v1, v2, bn, rfl⟩
  have hfree : ι h.n = none := jN S
  have hsz := (S.lt m im him).2
  refine ⟨ι.set h.n (fm w.heap.size), w.alloc (.mapIter (some im.b) clock #[] clock), .inl ⟨.pointer (some ⟨w.heap.size, 0, none⟩), ?_, ?_⟩, bE hfree, fun k hk hkn => by unfold Im.set; rw [if_neg (by omega)]; exact hkn, ?_, ?_, by show h.n ≤ h.n + 1; omega⟩
  · have hu : (underlying t).run K.P w = .ok (.map kt et) w := ap ht w
    have hobj : (getObj im.b).run K.P w = .ok (.map ents clock) w := by simp [getObj, Sem.run, hb]
    have hnew : (newObj (.mapIter (some im.b) clock #[] clock)).run K.P w = .ok w.heap.size (w.alloc (.mapIter (some im.b) clock #[] clock)) := rfl
    unfold execOp; rw [he]
    simp [Instr.range, hρ, hu, hobj, hnew]
  · have hk : (ι.set h.n (fm w.heap.size)) h.n = some (fm w.heap.size) := by unfold Im.set; rw [if_pos rfl]
    simpa [fm] using VR.ptr (o := 0) hk
  · refine Sim.add (h := h.set m (.mi es (ents.toList.map (·.born)) clock)) (b := .it m clock [] clock) (obj := .mapIter (some im.b) clock #[] clock) S1 hN ⟨im, ?_, ?_, rfl⟩
    · show (ι.set h.n _) m = _
      unfold Im.set; rw [if_neg (by omega)]; exact him
    · simpa [fm] using heap_alloc_new w _
  · exact Ext.alloc hN _
theorem vb {ents : Array MapEntry} {seen : List Nat} {e : MapEntry} : e ∈ (leftOf ents seen.toArray).toList ↔ e ∈ ents.toList ∧ e.born ∉ seen := by
 simp [leftOf]
theorem GoesL.next {x : Operand} {kit m since c0 clock : Nat} {seen bs : List Nat} {es : List (CV × CV)} (hns : n ≤ ai) (hops : jf n ops = true) (hl : o ∈ ops.toList) (hg : o.guard = none) (he : o.op = .next x false) (hx : ev s x = .ptr kit 0) (hk : h.get kit = .it m since seen c0) (hm : h.get m = .mi es bs clock) (hold : ∀ b ∈ bs, b < since) (hsc : since ≤ c0) (hbl : bs.length = es.length)
  (done : (∀ b ∈ bs, b ∈ seen) → GoesL K n ops l (Fr.putO s o.dst (.tup [.bo false])) h Q)
  (aO : ∀ j (h1 : j < es.length) (h2 : j < bs.length), bs[j] ∉ seen → GoesL K n ops l (Fr.putO s o.dst (.tup [.bo true, es[j].1, es[j].2])) (h.set kit (.it m since (seen ++ [bs[j]]) clock)) Q) : GoesL K n ops (o :: l) s h Q := by
 refine GoesL.op hns hops hl hg (fun c e => by rw [he] at e; cases e) fun N0 ι w ρ hN S hv => ?_
 have h0 := hv x (by simp [he, Op.operands])
 rw [hx] at h0
 generalize hρ : ρ x = u at h0
 obtain ⟨i, hi, rfl⟩ := cN h0
 have hB := S.blk kit i hi
 rw [hk] at hB
 obtain ⟨im, him, hr, hbase⟩ := hB
 have hM := S.blk m im him
 rw [hm] at hM
 obtain ⟨ents, hb, v1, v2, bn, hbs⟩ := hM
 have hold' : ∀ y ∈ ents.toList, y.born < since := fun y hy => hold _ (by rw [← hbs]; exact List.mem_map.2 ⟨y, hy, rfl⟩)
 have hrn := run_next_at (P := K.P) w o.type i.b im.b since c0 seen.toArray ents clock hr hb hold' hsc
 rw [hbase] at hρ
 rcases hrn with ⟨hz, hrun⟩ | ⟨e, hem, w1, hw1, hrun⟩
 · refine ⟨.tup [.bo false], h, ⟨ι, w, .inl ⟨.tuple #[.bool false], ?_, ee (VRL.cons (.bo false) (VRL.nil ι))⟩, Im.le_refl ι, fun _ _ hk => hk, S, Ext.refl _ _, Nat.le_refl _⟩, done fun b hbb => ?_⟩
   · unfold execOp; rw [he]
     simp [hρ, hrun]
   · rw [← hbs] at hbb
     obtain ⟨y, hy, rfl⟩ := List.mem_map.1 hbb
     by_cases hc : y.born ∈ seen
     · exact hc
     · have : y ∈ (leftOf ents seen.toArray).toList := vb.2 ⟨hy, hc⟩
       have hz' : (leftOf ents seen.toArray).toList = [] := List.eq_nil_of_length_eq_zero (by simpa using hz)
       rw [hz'] at this; simp at this
 · obtain ⟨hen, hes⟩ := vb.1 hem
   obtain ⟨j, hj, rfl⟩ := List.getElem_of_mem hen
   have hlen : ents.toList.length = es.length := by have := v1.1; simpa using this
   have hje : j < es.length := by omega
   have hjb : j < bs.length := by omega
   have hbj : bs[j] = (ents.toList[j]).born := by simp only [← hbs, List.getElem_map]
   have k1 : VR ι es[j].1 (ents.toList[j]).key := by
    have := v1.2 j (by simpa using hje)
    simpa [List.getD_eq_getElem?_getD, List.getElem?_eq_getElem hj] using this
   have k2 : VR ι es[j].2 (ents.toList[j]).val := by
    have := v2.2 j (by simpa using hje)
    simpa [List.getD_eq_getElem?_getD, List.getElem?_eq_getElem hj] using this
   have E1 : Ext w.heap.size w w1 := by rcases hw1 with rfl | rfl <;> first | exact ⟨rfl, rfl, rfl, Nat.le_refl _, fun _ _ => rfl, Nat.le_refl _⟩ | exact ⟨rfl, rfl, rfl, Nat.le_refl _, fun _ _ => rfl, HK.mono (Nat.le_succ _)⟩
   have S1 := S.world E1
   have hh1 : w1.heap = w.heap := by rcases hw1 with rfl | rfl <;> rfl
   have hlt := (S.lt kit i hi).2
   refine ⟨_, _, ?_, aO j hje hjb (by rw [hbj]; exact hes)⟩
   refine ⟨ι, Go.ChangeMaps.setBlock w1 i.b (.mapIter (some im.b) since (seen.toArray.push (ents.toList[j]).born) clock), .inl ⟨_, ?_, ee (vs := #[.bool true, (ents.toList[j]).key, (ents.toList[j]).val]) (VRL.cons (.bo true) (VRL.cons k1 (VRL.cons k2 (VRL.nil ι))))⟩, Im.le_refl ι, fun _ _ hk => hk, ?_, ?_, Nat.le_refl _⟩
   · unfold execOp; rw [he]
     simp [hρ, hrun]
   · refine S1.wrote hi (by rw [hk]; rfl) (.inl rfl) (by simp [Go.ChangeMaps.setBlock]) (fun j' hj' => by simp [Go.ChangeMaps.setBlock, Ne.symm hj']) ⟨im, him, ?_, hbase⟩
     rw [hbj]
     have : i.b < w1.heap.size := by rw [hh1]; exact hlt
     simp [Go.ChangeMaps.setBlock, this]
   · have hN' := S.own kit i hi (by rw [hk]; rfl)
     have hE : w1.os = w.os ∧ w1.tape = w.tape ∧ w1.output = w.output := by rcases hw1 with rfl | rfl <;> exact ⟨rfl, rfl, rfl⟩
     refine ⟨hE.1, hE.2.1, hE.2.2, ?_, fun b hb => ?_, E1.drew⟩
     · show w.heap.size ≤ (w1.heap.setIfInBounds _ _).size
       rw [Array.size_setIfInBounds, hh1]; exact Nat.le_refl _
     · show (w1.heap.setIfInBounds _ _)[b]? = _
       rw [Array.getElem?_setIfInBounds_ne (by omega), hh1]
theorem GoesL.entry {x : Operand} {kit m since clock b : Nat} {seen bs : List Nat} {es : List (CV × CV)} (hns : n ≤ ai) (hops : jf n ops = true) (hl : o ∈ ops.toList) (hg : o.guard = none) (he : o.op = .entry x) (hx : ev s x = .ptr kit 0) (hk : h.get kit = .it m since (seen ++ [b]) clock) (hm : h.get m = .mi es bs clock) {j : Nat} (hje : j < es.length) (hjb : j < bs.length) (hbj : bs[j] = b) (hnd : bs.Nodup)
  (rest : GoesL K n ops l (Fr.putO s o.dst (.tup [es[j].1, es[j].2])) h Q) : GoesL K n ops (o :: l) s h Q := by
 refine GoesL.op hns hops hl hg (fun c e => by rw [he] at e; cases e) fun N0 ι w ρ hN S hv => ?_
 have h0 := hv x (by simp [he, Op.operands])
 rw [hx] at h0
 generalize hρ : ρ x = u at h0
 obtain ⟨i, hi, rfl⟩ := cN h0
 have hB := S.blk kit i hi
 rw [hk] at hB
 obtain ⟨im, him, hr, hbase⟩ := hB
 have hM := S.blk m im him
 rw [hm] at hM
 obtain ⟨ents, hb, v1, v2, bn, hbs⟩ := hM
 rw [hbase] at hρ
 have hlen : ents.toList.length = es.length := by have := v1.1; simpa using this
 have hj : j < ents.toList.length := by omega
 have hbj' : (ents.toList[j]).born = b := by rw [← hbj]; simp only [← hbs, List.getElem_map]
 have k1 : VR ι es[j].1 (ents.toList[j]).key := by
  have := v1.2 j (by simpa using hje)
  simpa [List.getD_eq_getElem?_getD, List.getElem?_eq_getElem hj] using this
 have k2 : VR ι es[j].2 (ents.toList[j]).val := by
  have := v2.2 j (by simpa using hje)
  simpa [List.getD_eq_getElem?_getD, List.getElem?_eq_getElem hj] using this
 have hrn := run_entry_at (P := K.P) w i.b im.b since seen.toArray ents clock ents.toList[j] (by rw [hr, hbj']; simp) hb (List.getElem_mem hj) bn.1
 refine ⟨_, h, ⟨ι, w, .inl ⟨_, ?_, ee (vs := #[(ents.toList[j]).key, (ents.toList[j]).val]) (VRL.cons k1 (VRL.cons k2 (VRL.nil ι)))⟩, Im.le_refl ι, fun _ _ hk => hk, S, Ext.refl _ _, Nat.le_refl _⟩, rest⟩
 unfold execOp; rw [he]
 simp [hρ, hrn]
theorem RC.weak {Γ : Bs} {a : Act} {w : World} {m : Nat} {b : HB} (hm : m < h.n) (hb : ∀ ι i w, ι m = some i → BR ι i w (h.get m) → BR ι i w b) (hw : b.wr = true → (h.get m).wr = true) (hlv : b.live = true → (h.get m).live = true) (Rr : RC Γ s h a w) : RC Γ s (h.set m b) a w := by
 obtain ⟨ι, R⟩ := Rr
 have S := R.sim
 refine ⟨ι, R.df, R.tn, R.le, R.dom, fun k hk => by simp at hk, ⟨S.lt, fun k i e hw' => ?_, fun k hk => ?_, fun k i e => ?_, fun k k' i i' e e' hne h1 h2 => ?_⟩, R.tv, R.ext, R.hn, R.h0⟩
 · rw [Hp.get_set] at hw'
   split at hw'
   · rename_i e1; subst e1; exact S.own k i e (hw hw')
   · exact S.own k i e hw'
 · have hk' : h.n ≤ k := hk
   rw [Hp.get_set, if_neg (by omega)]; exact S.fresh k hk'
 · rw [Hp.get_set]
   split
   · rename_i e1; subst e1; exact hb ι i w e (S.blk k i e)
   · exact S.blk k i e
 · rw [Hp.get_set] at h1 h2
   refine S.inj k k' i i' e e' hne ?_ ?_
   · split at h1
     · rename_i e1; subst e1; exact hw h1
     · exact h1
   · split at h2
     · rename_i e1; subst e1; exact hlv h2
     · exact h2
theorem vc {m : Nat} {es : List (CV × CV)} {bs : List Nat} {clock : Nat} (hm : m < h.n) (hg : h.get m = .mi es bs clock) (g : Goes K n c s (h.set m (.mp es)) Q) : Goes K n c s h Q := fun Γ h1 h2 h3 a w Rr =>
 g Γ h1 h2 h3 a w (RC.weak hm (fun ι i w _ hB => by rw [hg] at hB; obtain ⟨ents, b1, b2, b3, b4, _⟩ := hB; exact ⟨ents, clock, b1, b2, b3, b4⟩) (fun _ => by rw [hg]; rfl) (fun _ => by rw [hg]; rfl) Rr)
end
end Go.CP
namespace Go.CP
variable [LG] [HK]
inductive Ren (ρ : Nat → Nat) : CV → CV → Prop
 | bo (x) : Ren ρ (.bo x) (.bo x)
 | nu (k n) : Ren ρ (.nu k n) (.nu k n)
 | st (s) : Ren ρ (.st s) (.st s)
 | nilp : Ren ρ .nilp .nilp
 | nils : Ren ρ .nils .nils
 | sle : Ren ρ .sle .sle
 | ptr (k o) : Ren ρ (.ptr k o) (.ptr (ρ k) o)
 | sl (k o n c) : Ren ρ (.sl k o n c) (.sl (ρ k) o n c)
theorem Ren.vr {ρ : Nat → Nat} {ι : Im} {c c' : CV} {v : Value} (r : Ren ρ c c') (h : VR ι c' v) : VR (fun k => ι (ρ k)) c v := by
 cases r with
 | bo => cases h; exact .bo _
 | nu => cases h; exact .nu _ _
 | st => cases h with | st e => exact .st e
 | nilp => cases h; exact .nilp
 | nils => cases h; exact .nils
 | sle => cases h; exact .sle _ _
 | ptr k o => cases h with | ptr e => exact .ptr e
 | sl k o n c => cases h with | sl e hc => exact .sl e hc
theorem VR.agree {ι ι' ι2 : Im} (ha : ∀ k i, ι k = some i → ι2 k = ι' k) {c : CV} {v0 : Value} (h0 : VR ι c v0) : ∀ {v : Value}, VR ι' c v → VR ι2 c v := by
 induction h0 with
 | undef => intro v h; exact .undef v
 | skp => intro v h; cases h; exact .skp
 | bo => intro v h; cases h; exact .bo _
 | nu => intro v h; cases h; exact .nu _ _
 | st => intro v h; cases h with | st e => exact .st e
 | nilp => intro v h; cases h; exact .nilp
 | ptr e => intro v h; cases h with | ptr e' => exact .ptr ((ha _ _ e).trans e')
 | nils => intro v h; cases h; exact .nils
 | sle => intro v h; cases h; exact .sle _ _
 | sl e _ => intro v h; cases h with | sl e' hc => exact .sl ((ha _ _ e).trans e') hc
 | agg hl _ ih => intro v h; cases h with | agg hl' h' => exact .agg hl' fun j hj => ih j hj (h' j hj)
 | tup hl _ ih => intro v h; cases h with | tup hl' h' => exact .tup hl' fun j hj => ih j hj (h' j hj)
 | fn hl _ ih => intro v h; cases h with | fn hl' h' => exact .fn hl' fun j hj => ih j hj (h' j hj)
 | nilf => intro v h; cases h; exact .nilf
 | mp e => intro v h; cases h with | mp e' => exact .mp ((ha _ _ e).trans e')
 | nilm => intro v h; cases h; exact .nilm
 | yl e => intro v h; cases h with | yl e' => exact .yl ((ha _ _ e).trans e')
theorem VRL.agree {ι ι' ι2 : Im} (ha : ∀ k i, ι k = some i → ι2 k = ι' k) {cs : List CV} {v0 vs : List Value} (h0 : VRL ι cs v0) (h : VRL ι' cs vs) : VRL ι2 cs vs := ⟨h.1, fun j hj => (h0.2 j hj).agree ha (h.2 j hj)⟩
theorem Am {ι' ι2 : Im} {ys : List CV} {vs : List Value} (h : VRL ι' ys vs) (hu : ys.all CP.pq = true) : VRL ι2 ys vs := ⟨h.1, fun j hj => by
 have h1 := h.2 j hj
 have h2 := List.all_eq_true.1 hu _ (List.getElem_mem hj)
 generalize ys[j] = y at h1 h2
 generalize vs.getD j Go.undef = u at h1
 cases y <;> simp [CP.pq] at h2
 · cases h1; exact .bo _
 · cases h1; exact .nu _ _
 · cases h1 with | st e => exact .st e⟩
theorem BR.agree {ι ι' ι2 : Im} (ha : ∀ k i, ι k = some i → ι2 k = ι' k) {i : cE} {w w' : World} {b : HB} (h0 : BR ι i w b) (h : BR ι' i w' b) : BR ι2 i w' b := by
 cases b with
 | cells cs aO el =>
  obtain ⟨arr, e, h1, h2, h3, h4, h5, h6, h7, h8⟩ := h
  obtain ⟨_, _, _, _, _, _, _, _, g7, _⟩ := h0
  exact ⟨arr, e, h1, h2, h3, h4, h5, h6, g7.agree ha h7, h8⟩
 | fz cs =>
  obtain ⟨arr, e, fr, h1, h2⟩ := h
  obtain ⟨_, _, _, _, g2⟩ := h0
  exact ⟨arr, e, fr, h1, g2.agree ha h2⟩
 | ro cs =>
  obtain ⟨arr, e, fr, h1, h2, h3, h4⟩ := h
  obtain ⟨_, _, _, _, _, _, g4⟩ := h0
  exact ⟨arr, e, fr, h1, h2, h3, g4.agree ha h4⟩
 | mp es =>
  obtain ⟨en, c, h1, h2, h3, h4⟩ := h
  obtain ⟨_, _, _, g2, g3, _⟩ := h0
  exact ⟨en, c, h1, g2.agree ha h2, g3.agree ha h3, h4⟩
 | mi es bs clock =>
  obtain ⟨en, h1, h2, h3, h4, h5⟩ := h
  obtain ⟨_, _, g2, g3, _, _⟩ := h0
  exact ⟨en, h1, g2.agree ha h2, g3.agree ha h3, h4, h5⟩
 | it m since seen c0 =>
  obtain ⟨im, h1, h2, h3⟩ := h
  obtain ⟨_, g1, _, _⟩ := h0
  exact ⟨im, (ha _ _ g1).trans h1, h2, h3⟩
 | kp cs ys aO =>
  obtain ⟨arr, e, h1, h2, h3, h4, h5, h6, h7, h8, h9⟩ := h
  obtain ⟨_, _, _, _, _, _, _, _, g7, _, g9⟩ := h0
  exact ⟨arr, e, h1, h2, h3, h4, h5, h6, g7.agree ha h7, h8, fun hm => Am (h9 hm) h8⟩
 | df => exact h
 | lp r =>
  obtain ⟨fn, tmps, d, h1, h2, h3, h4⟩ := h
  obtain ⟨_, _, _, _, _, g3, _⟩ := h0
  exact ⟨fn, tmps, d, h1, h2, fun t ht => (g3 t ht).agree ha (h3 t ht), h4⟩
 | dead => trivial
structure Relay (h hc : Hp) (r0 r : CV) (h' : Hp) : Prop where
 ex : ∃ ρ : Nat → Nat, (∀ k, k < h.n → ρ k = k) ∧ (∀ k, h.n ≤ k → k < hc.n → h.n ≤ ρ k ∧ ∃ cs cs' m e, hc.get k = .cells cs m e ∧ h'.get (ρ k) = .cells cs' m e ∧ cs.length = cs'.length ∧ ∀ j (h1 : j < cs.length) (h2 : j < cs'.length), Ren ρ cs[j] cs'[j]) ∧ (∀ k k', k < hc.n → k' < hc.n → ρ k = ρ k' → k = k') ∧ (∀ k, hc.n ≤ k → h'.n ≤ ρ k) ∧ Ren ρ r0 r
 old : ∀ k, k < h.n → hc.get k = h.get k ∧ h'.get k = h.get k
 ok : ∀ k, hc.n ≤ k → hc.get k = .dead
 n : h.n ≤ hc.n
theorem Relay.sim {h hc h' : Hp} {r0 r : CV} (L : Relay h hc r0 r h') {N0 : Nat} {ι ι' : Im} {w w' : World} {rv : Value} (S : Sim N0 ι h w) (S' : Sim N0 ι' h' w') (hle : ι.le ι') (hdom : ∀ k, k < h.n → ι k = none → ι' k = none) (hv : VR ι' r rv) :
  ∃ ι2 : Im, ι.le ι2 ∧ (∀ k, k < h.n → ι k = none → ι2 k = none) ∧ Sim N0 ι2 hc w' ∧ VR ι2 r0 rv := by
 obtain ⟨ρ, r1, r2, r3, r4, r5⟩ := L.ex
 have hlt : ∀ k i, ι' (ρ k) = some i → k < hc.n := fun k i e => by
  rcases Nat.lt_or_ge k hc.n with hk | hk
  · exact hk
  · have := (S'.lt _ i e).1
    have := r4 k hk
    omega
 have hag : ∀ k i, ι k = some i → (fun k => ι' (ρ k)) k = ι' k := fun k i e => by
  show ι' (ρ k) = ι' k
  rw [r1 k (S.lt k i e).1]
 have two : ∀ k, k < hc.n → ((hc.get k).wr = true → (h'.get (ρ k)).wr = true) ∧ ((hc.get k).live = true → (h'.get (ρ k)).live = true) := fun k hk => by
  rcases Nat.lt_or_ge k h.n with h1 | h1
  · rw [r1 k h1, (L.old k h1).1, (L.old k h1).2]; exact ⟨id, id⟩
  · obtain ⟨_, cs, cs', m, e, e1, e2, _⟩ := r2 k h1 hk
    rw [e1, e2]; exact ⟨id, id⟩
 refine ⟨fun k => ι' (ρ k), fun k i e => ?_, fun k hk hn => ?_, ⟨fun k i e => ⟨hlt k i e, (S'.lt _ i e).2⟩, fun k i e hw => S'.own _ i e ((two k (hlt k i e)).1 hw), L.ok, fun k i e => ?_, fun k k' i i' e e' hne h1 h2 => ?_⟩, r5.vr hv⟩
 · show ι' (ρ k) = _
   rw [r1 k (S.lt k i e).1]; exact hle k i e
 · show ι' (ρ k) = _
   rw [r1 k hk]; exact hdom k hk hn
 · have hk := hlt k i e
   have hB := S'.blk (ρ k) i e
   rcases Nat.lt_or_ge k h.n with h1 | h1
   · rw [r1 k h1, (L.old k h1).2] at hB
     rw [(L.old k h1).1]
     have e0 : ι' k = some i := by rw [← r1 k h1]; exact e
     cases e1 : ι k with
     | none => rw [hdom k h1 e1] at e0; cases e0
     | some i0 =>
      have e2 := hle k i0 e1
      rw [e0] at e2; cases e2
      exact (S.blk k i e1).agree hag hB
   · obtain ⟨_, cs, cs', m, t, e1, e2, e3, e4⟩ := r2 k h1 hk
     rw [e2] at hB
     rw [e1]
     obtain ⟨arr, te, b1, b2, b3, b4, b5, b6, b7, b8, b9⟩ := hB
     refine ⟨arr, te, b1, b2, by rw [e3]; exact b3, by rw [e3]; exact b4, b5, b6, ⟨by rw [e3]; exact b7.1, fun j hj => ?_⟩, b8, fun hm => by rw [e3]; exact b9 hm⟩
     have := b7.2 j (by omega)
     rw [e3]
     exact (e4 j hj (by omega)).vr this
 · have n1 := hlt k i e
   have n2 := hlt k' i' e'
   exact S'.inj (ρ k) (ρ k') i i' e e' (fun hh => hne (r3 k k' n1 n2 hh)) ((two k n1).1 h1) ((two k' n2).2 h2)
theorem uh {K : Ctx} {f : Nat} {fn : Func} {c : Code} {args : List CV} {h hc : Hp} {r0 : CV} (hf : K.P.funcs[f]? = some fn) (hb : fn.body = some c) (hE : dh K.P (K.env 0) f = true) (hlen : args.length ≤ fn.ntmps) (hn : h.n ≤ hc.n)
  (g : Goes K fn.ntmps c (entry 0 args) h fun e s1 h1 => (e = .normal ∨ e = .ret) ∧ s1.at ai = .undef ∧ ∃ vs, gf K.P s1 h1 fn.results.toList = some vs ∧ Relay h hc r0 (ib vs) h1) : FCall K.P f args h r0 hc := by
 unfold dh at hE
 rw [hf] at hE
 dsimp only at hE
 rw [hb] at hE
 simp only [Bool.and_eq_true, Bool.not_eq_true'] at hE
 obtain ⟨⟨⟨hE1, hE0⟩, hE2⟩, hE3⟩ := hE
 have hns : fn.ntmps ≤ ai := bv hE0
 refine ⟨⟨fn, hf, by simp [hb], hE1⟩, hn, fun N0 ι w vals hN S hv => callsIn_wide.1 (callsIn_of_wp_marks (F := Fence.wide) (n := 0) hf hb trivial ?_)⟩
 let Γ : Bs := { P := K.P, w0 := w, N0 := N0, ι0 := ι, n0 := h.n, n := fn.ntmps, rd := none, mks := [] }
 have hvl := hv.1
 have hslot : (entry 0 args).at ai = .undef := by
  rw [jO, if_pos (Nat.zero_le _), Nat.sub_zero, List.getD_eq_getElem?_getD]
  rw [List.getElem?_eq_none (by omega)]; rfl
 have R0 : RC Γ (entry 0 args) h { tmps := vals.toArray ++ Array.replicate (fn.ntmps - vals.toArray.size) Go.undef, defers := [] } w := by
  refine ⟨ι, ?_, ?_, Im.le_refl ι, fun k _ hk => hk, fun k hk => (by cases hk), S, fun t ht => ?_, Ext.refl _ _, Nat.le_refl _, hN⟩
  · show DfR ι (ce ((entry 0 args).at ai)) []
    rw [hslot]; trivial
  · show (vals.toArray ++ Array.replicate (fn.ntmps - vals.toArray.size) Go.undef).size = fn.ntmps
    simp; omega
  · rw [jO, if_pos (Nat.zero_le _), Nat.sub_zero]
    by_cases h2 : t < args.length
    · have h3 := hv.2 t h2
      have h4 : (vals.toArray ++ Array.replicate (fn.ntmps - vals.toArray.size) Go.undef).getD t Go.undef = vals.getD t Go.undef := by
       simp only [Array.getD_eq_getD_getElem?, List.getD_eq_getElem?_getD, Array.getElem?_append, List.size_toArray, List.getElem?_toArray]
       rw [if_pos (by omega)]
      rw [h4, List.getD_eq_getElem?_getD, List.getElem?_eq_getElem h2]; exact h3
    · rw [List.getD_eq_getElem?_getD, List.getElem?_eq_none (by omega)]; exact .undef _
 refine wpIn_mono (F := Fence.wide) (g Γ rfl rfl rfl _ _ R0) fun e1 a1 w1 hen => ?_
 obtain ⟨s, h', ⟨he, hsl, vs, hr, L⟩, ι1, R1⟩ := hen
 have hdf : a1.defers = [] := by
  have := R1.df
  simp only [Bs.at, hsl, ce] at this
  cases hd : a1.defers with
  | nil => rfl
  | cons d l => rw [hd] at this; exact this.elim
 have hfin : LeavesInM Fence.wide 0 K.P fn a1.tmps (fun e w' => ∃ (rv : Value) (ι' : Im), e = .returned rv ∧ ι.le ι' ∧ (∀ k, k < h.n → ι k = none → ι' k = none) ∧ Sim N0 ι' hc w' ∧ VR ι' r0 rv ∧ Ext N0 w w') a1.defers .returning w1 := by
  refine lY (N0 := N0) (ce (s.at ai)) a1.defers h' h' w1 R1.df (by rw [hsl]; rfl) R1.sim fun w2 hn2 S2 E2 => ?_
  have R2 : Rl (Γ.at s) [] s h' a1 w2 ι1 := R1.to rfl S2 E2
  obtain ⟨us, h1, h2, h3⟩ := jh R2 _ vs hE2 hr
  have hrun := oX (P := K.P) (fn := fn) h3
  refine ⟨_, hrun, ?_⟩
  have hpk : VR ι1 (ib vs) (if h : us.length = 1 then us[0] else .tuple us.toArray) := by
   have hul := h1.1
   match vs, us, hul, h1 with
   | [], [], _, h1 => exact ee h1
   | [p], [u], _, h1 => exact (VRL.tail h1).1
   | p :: q :: vs, u :: v :: us, _, h1 =>
    have : ¬ (u :: v :: us).length = 1 := by simp
    rw [dif_neg this]
    exact ee (by simpa using h1)
  obtain ⟨ι2, k1, k2, k3, k4⟩ := L.sim S R2.sim R2.le R2.dom hpk
  exact ⟨_, ι2, rfl, k1, k2, k3, k4, R2.ext⟩
 rcases he with rfl | rfl <;> exact hfin
end Go.CP
