import Derived.Test.YtadagifjonbmjaaGreatDoorKl0
import Derived.Test.YtadagifjonbmjaaGreatDoorKp4
import Derived.Deep.Matrix
import Derived.Shelf.SlSortCmp.NoneTotal
import Derived.Test.YtadagifjonbmjaaGreatDoorChecked
import Derived.Test.YtadagifjonbmjaaGreatDoorKl2
import Derived.Test.YtadagifjonbmjaaGreatDoorKw1
import Derived.Sort.AssemblyPlain
import Derived.Test.YtadagifjonbmjaaGreatDoorKr0
set_option linter.all false
set_option maxRecDepth 100000
namespace Go.CP
open Go.Proofs Go.ChangeShapes Go.WideShapes
variable [LG] [HK]
section
variable {N0 : Nat} {ι : Im} {h : Hp} {W : World}
structure Held (N0 : Nat) (ι : Im) (h : Hp) (W : World) : Prop where
 ro : Ro N0 ι h W
 ok : HpOk h
theorem wl (k : Nat) : h0.get k = .dead := by
 have hat : ∀ p : Ix, T.at p (T.lf : T HB) = none := by
  intro p; induction p with
  | e => rfl
  | l p ih => exact ih
  | r p ih => exact ih
 simp only [Hp.get, h0, T.get, hat]
theorem Held.start (W : World) : Held W.heap.size (fun _ => none) h0 W :=
 ⟨⟨⟨fun k i e => (by cases e), fun k i e => (by cases e), fun k _ => wl k, fun k i e => (by cases e), fun k k' i i' e => (by cases e)⟩, fun k => by rw [wl]; rfl⟩, fun k _ => wl k⟩
theorem tM {a : Addr} {v : Value} (h : W.cell? a = some v) : a.spot = none ∧ ∃ arr e f, W.heap[a.block]? = some (.cells arr e f) ∧ arr[a.off]? = some v := by
 unfold World.cell? at h
 split at h
 · rename_i c e f hc
   split at h
   · cases h
   · rename_i hs
     refine ⟨?_, c, e, f, hc, h⟩
     cases hsp : a.spot with
     | none => rfl
     | some x => rw [hsp] at hs; simp at hs
 · cases h
theorem Held.row (R : Held N0 ι h W) {A : Option Addr} {L C : Nat} {cs : List CV} {vs : Nat → Value} (hl : cs.length = L) (hLC : L ≤ C) (hA : A = none → C = 0)
  (hc : ∀ a, A = some a → ∀ c, c < L → W.cell? (a.add c) = some (vs c)) (hv : ∀ c (hc : c < cs.length), VR ι cs[c] (vs c)) :
  ∃ ι' h' x, Held N0 ι' h' W ∧ ι.le ι' ∧ Same h.n h h' ∧ VR ι' x (.slice A L C) ∧ Row h' x cs := by
 cases hA' : A with
 | none =>
  have := hA hA'
  obtain rfl : C = 0 := this
  obtain rfl : L = 0 := by omega
  obtain rfl : cs = [] := List.eq_nil_of_length_eq_zero hl
  exact ⟨ι, h, .nils, R, Im.le_refl ι, Same.refl _ _, .nils, .nils⟩
 | some a =>
  by_cases h0 : L = 0
  · subst h0
    obtain rfl : cs = [] := List.eq_nil_of_length_eq_zero hl
    exact ⟨ι, h, .sle, R, Im.le_refl ι, Same.refl _ _, .sle a C, .sle⟩
  have hcell := hc a hA'
  obtain ⟨hsp, arr, e, f, hb, h0'⟩ := tM (hcell 0 (by omega))
  have ha0 : a.add 0 = a := by simp [Addr.add]
  rw [ha0] at hsp hb h0'
  have hall : ∀ c, c < L → arr[a.off + c]? = some (vs c) := by
   intro c hc'
   obtain ⟨_, arr', e', f', hb', hx⟩ := tM (hcell c hc')
   have hblk : (a.add c).block = a.block := by unfold Addr.add; split <;> rfl
   have hoff : (a.add c).off = a.off + c := by
    unfold Addr.add; split
    · rename_i hz; rw [hz]; rfl
    · rfl
   rw [hblk, hb] at hb'
   injection hb' with hb'; injection hb' with hb' _ _
   rw [hoff, ← hb'] at hx
   exact hx
  have hlt : a.block < W.heap.size := by
   rcases Nat.lt_or_ge a.block W.heap.size with hlt | hge
   · exact hlt
   · rw [Array.getElem?_eq_none hge] at hb; cases hb
  have hVL : VRL ι cs ((arr.toList.drop a.off).take cs.length) := by
   have hsz : a.off + (L - 1) < arr.size := by
    have := hall (L - 1) (by omega)
    rcases Nat.lt_or_ge (a.off + (L - 1)) arr.size with hlt | hge
    · exact hlt
    · rw [Array.getElem?_eq_none hge] at this; cases this
   refine ⟨by simp; omega, fun j hj => ?_⟩
   have hj' : j < L := by omega
   have := hall j hj'
   have he : ((arr.toList.drop a.off).take cs.length).getD j Go.undef = vs j := by
    rw [List.getD_eq_getElem?_getD, List.getElem?_take_of_lt hj, List.getElem?_drop, Array.getElem?_toList, this]; rfl
   rw [he]; exact hv j hj
  obtain ⟨R', hle⟩ := R.ro.push (vs := cs) (i := ⟨a.block, a.off, 0, 0, 0, true⟩) hlt ⟨arr, e, f, hb, rfl, rfl, hVL⟩
  refine ⟨_, _, .sl h.n 0 L C, ⟨R', R.ok.push _⟩, hle, Same.push (Nat.le_refl _) _, ?_, ?_⟩
  · have := VR.sl (ι := ι.set h.n ⟨a.block, a.off, 0, 0, 0, true⟩) (k := h.n) (o := 0) (n := L) (c := C) (c' := C) (i := ⟨a.block, a.off, 0, 0, 0, true⟩) (by simp [Im.set]) (.inl ⟨rfl, fun hne => absurd rfl hne⟩)
    have ea : (⟨a.block, a.off + 0, none⟩ : Addr) = a := by
     cases a; simp at hsp ⊢; exact hsp.symm
    rw [ea] at this
    exact this
  · subst hl
    refine Row.some (by intro e; rw [e] at h0; exact h0 rfl) ?_ hLC ?_
    · rw [ag, if_pos rfl]
      simp only [bk, sub, Nat.zero_add, Nat.ble_eq_true_of_le (Nat.le_refl cs.length), List.drop_zero, List.take_length]
    · rw [ag, if_pos rfl]; rfl
end
end Go.CP
namespace Go.Proofs
open Go.Shelf
def Tryz.sortS_ren : Go.Shelf.Ren := ⟨fun | 6 => 116 | 15 => 127 | 14 => 143 | 28 => 155 | 29 => 156 | 20 => 167 | 21 => 168 | 22 => 169 | 23 => 170 | 24 => 171 | 25 => 172 | 26 => 173 | 27 => 174 | 46 => 189 | 47 => 176 | 48 => 177 | 49 => 190 | 50 => 191 | 57 => 197 | n => n, fun | 22 => 22 | 24 => 46 | 25 => 105 | 3 => 3 | 39 => 126 | 0 => 0 | 53 => 154 | 55 => 157 | 4 => 4 | 46 => 171 | 45 => 170 | 50 => 176 | 5 => 5 | 9 => 9 | 66 => 195 | 70 => 199 | 76 => 206 | 77 => 207 | n => n, fun | n => n⟩
theorem Tryz.sortS : Go.Proofs.SlLaysF.n6 Tryz.prog Tryz.sortS_ren := {
 mixed := by kernel_rfl
 f6 := ⟨Tryz.f116.name, by decide, Tryz.func116.trans (congrArg some (by kernel_rfl))⟩
 f14 := ⟨Tryz.f143.name, by decide, Tryz.func143.trans (congrArg some (by kernel_rfl))⟩
 f15 := Tryz.func127.trans (congrArg some (by kernel_rfl))
 f20 := ⟨Tryz.f167.name, by decide, Tryz.func167.trans (congrArg some (by kernel_rfl))⟩
 f21 := ⟨Tryz.f168.name, by decide, Tryz.func168.trans (congrArg some (by kernel_rfl))⟩
 f22 := ⟨Tryz.f169.name, by decide, Tryz.func169.trans (congrArg some (by kernel_rfl))⟩
 f23 := ⟨Tryz.f170.name, by decide, Tryz.func170.trans (congrArg some (by kernel_rfl))⟩
 f24 := ⟨Tryz.f171.name, by decide, Tryz.func171.trans (congrArg some (by kernel_rfl))⟩
 f25 := ⟨Tryz.f172.name, by decide, Tryz.func172.trans (congrArg some (by kernel_rfl))⟩
 f26 := ⟨Tryz.f173.name, by decide, Tryz.func173.trans (congrArg some (by kernel_rfl))⟩
 f27 := ⟨Tryz.f174.name, by decide, Tryz.func174.trans (congrArg some (by kernel_rfl))⟩
 f28 := Tryz.func155.trans (congrArg some (by kernel_rfl))
 f29 := Tryz.func156.trans (congrArg some (by kernel_rfl))
 f46 := ⟨Tryz.f189.name, by decide, Tryz.func189.trans (congrArg some (by kernel_rfl))⟩
 f47 := Tryz.func176.trans (congrArg some (by kernel_rfl))
 f48 := Tryz.func177.trans (congrArg some (by kernel_rfl))
 f49 := ⟨Tryz.f190.name, by decide, Tryz.func190.trans (congrArg some (by kernel_rfl))⟩
 f50 := ⟨Tryz.f191.name, by decide, Tryz.func191.trans (congrArg some (by kernel_rfl))⟩
 f57 := ⟨Tryz.f197.name, by decide, Tryz.func197.trans (congrArg some (by kernel_rfl))⟩
 t0 := Tryz.underlying0
 a0 := Tryz.isAgg0
 z0 := Tryz.sizeOf0
 v0 := Tryz.zeroValue0
 t3 := Tryz.underlying3
 a3 := Tryz.isAgg3
 z3 := Tryz.sizeOf3
 v3 := Tryz.zeroValue3
 t4 := Tryz.underlying4
 a4 := Tryz.isAgg4
 z4 := Tryz.sizeOf4
 v4 := Tryz.zeroValue4
 t5 := Tryz.underlying5
 a5 := Tryz.isAgg5
 z5 := Tryz.sizeOf5
 v5 := Tryz.zeroValue5
 t9 := Tryz.underlying9
 a9 := Tryz.isAgg9
 z9 := Tryz.sizeOf9
 v9 := Tryz.zeroValue9
 t22 := Tryz.underlying22
 a22 := Tryz.isAgg22
 z22 := Tryz.sizeOf22
 v22 := Tryz.zeroValue22
 a24 := Tryz.isAgg46
 z24 := Tryz.sizeOf46
 t25 := Tryz.underlying105
 a25 := Tryz.isAgg105
 z25 := Tryz.sizeOf105
 v25 := Tryz.zeroValue105
 t39 := Tryz.underlying126
 a39 := Tryz.isAgg126
 z39 := Tryz.sizeOf126
 v39 := Tryz.zeroValue126
 t45 := Tryz.underlying170
 a45 := Tryz.isAgg170
 z45 := Tryz.sizeOf170
 v45 := Tryz.zeroValue170
 t46 := Tryz.underlying171
 a46 := Tryz.isAgg171
 z46 := Tryz.sizeOf171
 v46 := Tryz.zeroValue171
 t50 := Tryz.underlying176
 a50 := Tryz.isAgg176
 z50 := Tryz.sizeOf176
 v50 := Tryz.zeroValue176
 t53 := Tryz.underlying154
 a53 := Tryz.isAgg154
 z53 := Tryz.sizeOf154
 v53 := Tryz.zeroValue154
 t55 := Tryz.underlying157
 a55 := Tryz.isAgg157
 z55 := Tryz.sizeOf157
 v55 := Tryz.zeroValue157
 t66 := Tryz.underlying195
 a66 := Tryz.isAgg195
 z66 := Tryz.sizeOf195
 v66 := Tryz.zeroValue195
 t70 := Tryz.underlying199
 a70 := Tryz.isAgg199
 z70 := Tryz.sizeOf199
 v70 := Tryz.zeroValue199
 t76 := Tryz.underlying206
 a76 := Tryz.isAgg206
 z76 := Tryz.sizeOf206
 v76 := Tryz.zeroValue206
 t77 := Tryz.underlying207
 a77 := Tryz.isAgg207
 z77 := Tryz.sizeOf207
 v77 := Tryz.zeroValue207 }
end Go.Proofs
namespace Go.CP
open Go.Proofs
variable [LG] [HK]
structure KX (N : Nat) (hb h : Hp) (x : CV) (d : Array (CV × List Int)) : Prop where
 out : Out N h 46 x (d.toList.map (·.1))
 rows : ∀ p ∈ d.toList, Row hb p.1 (ah p.2) ∧ p.2.length < 4611686018427387904
 same : Same hb.n hb (wipe h x)
section
variable {K : Ctx} {h : Hp}
def wm (p q : CV × List Int) : Bool := !(cr 0 (aZ p.2 q.2))
end
theorem oI (p q : CV × List Int) : wm p q = true ↔ LtS p.2 q.2 := by
 unfold wm LtS
 rw [Bool.not_eq_true', de]
 constructor
 · intro h
   have := of_decide_eq_false h
   rcases kI p.2 q.2 with h | h | h <;> omega
 · intro h
   exact decide_eq_false (by omega)
theorem Ew : Sort.SWO wm := by
 refine ⟨fun x => ?_, fun x y z h1 h2 => ?_, fun x y z h1 h2 => ?_⟩
 · rw [← Bool.not_eq_true, oI]
   intro h
   have := (ew x.2 x.2).2 rfl
   unfold LtS at h; omega
 · rw [oI] at *; exact h1.trans h2
 · rw [← Bool.not_eq_true, oI] at *
   intro h
   by_cases e1 : x.2 = y.2
   · exact h2 (e1 ▸ h)
   · have a : LtS y.2 x.2 := LtS.of e1 h1
     exact h2 (a.trans h)
theorem zu {d d' : Array (CV × List Int)} (hp : Sort.PermIn 0 d.size d d') (hs : Sort.SortedIn wm 0 d.size d') (hn : (d.toList.map (·.2)).Nodup) : d'.toList.Perm d.toList ∧ Srt (d'.toList.map (·.2)) := by
 obtain ⟨h1, _, h3⟩ := hp
 have e1 : d.extract 0 d.size = d := by simp
 have e2 : d'.extract 0 d.size = d' := by rw [← h1]; simp
 rw [e1, e2] at h3
 refine ⟨h3, ?_⟩
 have hn' : (d'.toList.map (·.2)).Nodup := (h3.map _).nodup_iff.2 hn
 rw [Srt, List.pairwise_iff_getElem]
 intro i j hi hj hij
 have hi' : i < d'.size := by simpa using hi
 have hj' : j < d'.size := by simpa using hj
 have := hs i j (Nat.zero_le _) hij (by omega)
 rw [getElem!_pos d' i hi', getElem!_pos d' j hj', ← Bool.not_eq_true, oI] at this
 have hne : (d'[j]).2 ≠ (d'[i]).2 := by
  have := (List.pairwise_iff_getElem.1 hn') i j hi hj hij
  simpa using Ne.symm this
 have := LtS.of hne this
 simpa using this
def blk : CV → Nat
 | .sl k _ _ _ => k
 | _ => 0
theorem Ex [DR] {w w' : World} (E : Ext w.heap.size w w') : ∃ q os', w' = Go.Sort.grow (w.drewN q) os' := by
 refine ⟨w'.drawn - w.drawn, w'.heap.extract w.heap.size w'.heap.size, ?_⟩
 obtain ⟨h1, h2, h3, h4, h5, h6⟩ := E
 rw [DR.d, DR.d] at h6
 have hh : w'.heap = w.heap ++ w'.heap.extract w.heap.size w'.heap.size := by
  apply Array.ext
  · simp; omega
  · intro i hi hi'
    rw [Array.getElem_append]
    split
    · rename_i hlt
      have := h5 i hlt
      rw [Array.getElem?_eq_getElem hi, Array.getElem?_eq_getElem hlt] at this
      exact Option.some.inj this
    · rename_i hge
      simp only [Array.getElem_extract]
      congr 1
      omega
 cases w with
 | mk heap tape drawn os output =>
  cases w' with
  | mk heap' tape' drawn' os' output' =>
   simp only at h1 h2 h3 h4 h6 hh
   simp only [Go.Sort.grow, World.drewN, World.mk.injEq]
   exact ⟨hh, h2, by omega, h1, h3⟩
section
variable {K : Ctx} {h : Hp}
theorem Ct [DR] (H : Std K) (KO : lw K) {W : World} {a1 a2 : Addr} {c1 c2 : Nat} {l1 l2 : List Int} (hbig : l1.length < 4611686018427387904) (h1 : l1.length ≤ c1) (h2 : l2.length ≤ c2) (hc1 : ∀ j, j < l1.length → W.cell? (a1.add j) = some (.int .i64 (l1.getD j 0))) (hc2 : ∀ j, j < l2.length → W.cell? (a2.add j) = some (.int .i64 (l2.getD j 0))) :
  Calls K.P 74 #[.slice (some a1) l1.length c1, .slice (some a2) l2.length c2] W fun e w' => e = .returned (.int .i64 (aZ l1 l2)) ∧ ∃ q os', w' = Go.Sort.grow (W.drewN q) os' := by
 have hvs : ∀ (l : List Int) (ι : Im) c (hc : c < (ah l).length), VR ι (ah l)[c] (.int .i64 (l.getD c 0)) := by
  intro l ι c hc
  have hc' : c < l.length := by rw [aw] at hc; exact hc
  have : l.getD c 0 = l[c] := by rw [List.getD_eq_getElem?_getD, List.getElem?_eq_getElem hc']; rfl
  simp only [ah, List.getElem_map, this]
  exact .nu _ _
 obtain ⟨ι1, g1, x, R1, le1, S1, vx, rx⟩ := (Held.start W).row (A := some a1) (L := l1.length) (C := c1) (cs := ah l1) (vs := fun j => .int .i64 (l1.getD j 0)) (aw _) h1 (fun e => by cases e) (fun a ha j hj => by cases ha; exact hc1 j hj) (hvs l1 _)
 obtain ⟨ι2, g2, y, R2, le2, S2, vy, ry⟩ := R1.row (A := some a2) (L := l2.length) (C := c2) (cs := ah l2) (vs := fun j => .int .i64 (l2.getD j 0)) (aw _) h2 (fun e => by cases e) (fun a ha j hj => by cases ha; exact hc2 j hj) (hvs l2 _)
 obtain ⟨N, hN⟩ := qA H hbig (rx.mono S2 R1.ok (Nat.le_refl _)) ry
 have F : FCall K.P 74 [x, y] g2 (.nu .i64 (aZ l1 l2)) g2 := fD (KO N) N (.fn 74) _ _ _ _ (hN N N (Nat.le_refl _) (Nat.le_refl _))
 refine (F.2.2 W.heap.size ι2 W _ (Nat.le_refl _) R2.ro.sim (VRL.cons (vx.mono le2) (VRL.cons vy (VRL.nil _)))).mono ?_
 rintro e w' ⟨rv, ι', rfl, _, _, _, hr, hE⟩
 refine ⟨?_, Ex hE⟩
 cases hr; rfl
theorem Ey {N0 : Nat} {ι : Im} {w : World} (S : Sim N0 ι h w) {c : CV} {l : List Int} (r : Row h c (ah l)) (hne : l ≠ []) {v : Value} (hv : VR ι c v) : ∃ a cap k i, v = .slice (some a) l.length cap ∧ l.length ≤ cap ∧ blk c = k ∧ ι k = some i ∧ (h.get k).live = true ∧ a.block = i.b ∧ a.spot = none ∧ ∀ j, j < l.length → w.cell? (a.add j) = some (.int .i64 (l.getD j 0)) := by
 obtain ⟨a, n, cp, vs, rfl, hvl, hlen, hn, hcell, hnone⟩ := ic S hv r.cells
 rw [Nat.mul_one] at hlen
 have hnl : n = l.length := by rw [hn, r.lenV, aw]
 have hcs : ∀ j (hj : j < l.length), vs[j]? = some (.int .i64 (l.getD j 0)) := by
  intro j hj
  have h1 := hvl.2 j (by rw [aw]; exact hj)
  have hjv : j < vs.length := by omega
  rw [List.getD_eq_getElem?_getD, List.getElem?_eq_getElem hjv] at h1
  simp only [ah, List.getElem_map, Option.getD_some] at h1
  rw [List.getElem?_eq_getElem hjv, List.getD_eq_getElem?_getD, List.getElem?_eq_getElem hj]
  have : ∀ {u : Value} {z : Int}, VR ι (.nu .i64 z) u → u = .int .i64 z := fun hu => by cases hu; rfl
  rw [this h1]; rfl
 generalize hq : ah l = cs at r
 cases r with
 | nils => exact absurd (by simpa [ah] using hq) hne
 | sle => exact absurd (by simpa [ah] using hq) hne
 | none k o c => exact absurd (by simpa [ah] using hq) hne
 | @some k o c cs hne' hs hc hf =>
  have hcl : cs.length = l.length := by rw [← hq, aw]
  cases hv with
  | @sl _ _ _ _ _ i hk hcc =>
   refine ⟨_, _, k, i, by rw [hnl], ?_, rfl, hk, ?_, rfl, rfl, fun j hj => ?_⟩
   · rw [hcl] at hc
     rcases hcc with ⟨e, _⟩ | ⟨_, e, _⟩ <;> omega
   · have := gL hs
     cases hq : h.get k <;> first | rfl | exact absurd hq this
   · obtain ⟨ad, e, hx⟩ := hcell j _ (hcs j hj)
     cases e; exact hx
theorem yu {ι : Im} {x y : CV} {vals : List Value} (hv : VRL ι [x, y] vals) : ∃ v u, vals = [v, u] ∧ VR ι x v ∧ VR ι y u := by
 obtain ⟨hl, h⟩ := hv
 match vals, hl with
 | [v, u], _ => exact ⟨v, u, rfl, by simpa using h 0 (by simp), by simpa using h 1 (by simp)⟩
theorem KY {N el : Nat} {x : CV} {cs : List CV} (o : Out N h el x cs) (hne : cs ≠ []) : ∃ k, x = .sl k 0 cs.length cs.length ∧ N ≤ k ∧ k < h.n ∧ h.get k = .cells cs 1 el := by
 cases o with
 | nils => exact absurd rfl hne
 | @some k cs hk hn _ hs => exact ⟨k, rfl, hk, hn, hs⟩
theorem Ez {m : Nat} (d : Array (CV × List Int)) (i j : Fin (m + 1)) : Go.Proofs.ltOf (fun i j : Fin (m + 1) => aZ d[i.val]!.2 d[j.val]!.2) i j = wm d[i.val]! d[j.val]! := by
 show decide (aZ d[i.val]!.2 d[j.val]!.2 < 0) = !(cr 0 (aZ d[i.val]!.2 d[j.val]!.2))
 rw [de]
 by_cases h : 0 ≤ aZ d[i.val]!.2 d[j.val]!.2
 · rw [decide_eq_true h, decide_eq_false (by omega)]; rfl
 · rw [decide_eq_false h, decide_eq_true (by omega)]; rfl
theorem tN (a : Addr) (j : Nat) : (a.add j).block = a.block := by unfold Addr.add; split <;> rfl
def KZ (P : Program) (f : FuncId) (args : List CV) (N : Nat) (hb h : Hp) (x : CV) (d : Array (CV × List Int)) : Prop := ∃ d' h', FCall P f args h (.tup []) h' ∧ Same N h h' ∧ HpOk h' ∧ KX N hb h' x d' ∧ Sort.PermIn 0 d.size d d' ∧ Sort.SortedIn wm 0 d.size d'
theorem Io : qY Tryz.prog 116 := ⟨Tryz.f116, Tryz.func116, rfl, by kernel_rfl⟩
theorem Cu [DR] (H : Std K) (KO : lw K) {N : Nat} {hb : Hp} (okb : HpOk hb) (ok : HpOk h) {x : CV} {d : Array (CV × List Int)} (hne : ∀ p ∈ d.toList, p.2 ≠ []) (hbig : d.size < 4611686018427387904) (A : KX N hb h x d) : KZ K.P 116 [x, .fn 74 []] N hb h x d := by
 have hgo : qY K.P 116 := by rw [H.hP]; exact Io
 by_cases hz : d.size = 0
 · have hd : d = #[] := Array.eq_empty_of_size_eq_zero hz
   subst hd
   refine ⟨#[], h, ⟨hgo, Nat.le_refl _, fun N0 ι w vals hN0 S hv => ?_⟩, Same.refl _ _, ok, A, ⟨rfl, fun _ _ => rfl, List.Perm.refl _⟩, fun i j _ _ h => absurd h (Nat.not_lt_zero _)⟩
   have hx : x = .nils := by
    have := A.out
    generalize hcs : ((#[] : Array (CV × List Int)).toList.map (·.1)) = cs at this
    cases this with
    | nils => rfl
    | some hk hn hne hs => exact absurd hcs.symm hne
   subst hx
   obtain ⟨v, u, rfl, hv1, hv2⟩ : ∃ v u, vals = [v, u] ∧ VR ι .nils v ∧ VR ι (.fn 74 []) u := yu hv
   cases hv1
   have := AnyF.slices_SortFunc_none (P := Tryz.prog) (ρ := Tryz.sortS_ren) { Tryz.sortS with } none 0 u w
   rw [H.hP]
   refine Calls.mono this ?_
   rintro e w' ⟨rfl, rfl⟩
   exact ⟨_, ι, rfl, Im.le_refl ι, fun _ _ h => h, S, .tup rfl (fun j hj => absurd hj (Nat.not_lt_zero _)), Ext.refl _ _⟩
 · obtain ⟨m, hm⟩ : ∃ m, d.size = m + 1 := ⟨d.size - 1, by omega⟩
   have hlen : (d.toList.map (·.1)).length = m + 1 := by simp [hm]
   have hdsne : d.toList.map (·.1) ≠ [] := fun e => by rw [e] at hlen; simp at hlen
   obtain ⟨k, hx, hk1, hk2, hk3⟩ := KY A.out hdsne
   rw [hlen] at hx
   let cf : Fin (m + 1) → Fin (m + 1) → Int := fun i j => aZ d[i.val]!.2 d[j.val]!.2
   have hlt : ∀ i j, Go.Proofs.ltOf cf i j = wm d[i.val]! d[j.val]! := Ez d
   have hO : Sort.SWO (Go.Proofs.ltOf cf) := by
    refine ⟨fun i => by rw [hlt]; exact Ew.irrefl _, fun i j l h1 h2 => ?_, fun i j l h1 h2 => ?_⟩
    · rw [hlt] at *; exact Ew.trans _ _ _ h1 h2
    · rw [hlt] at *; exact Ew.ntrans _ _ _ h1 h2
   let idx : Array (Fin (m + 1)) := Array.ofFn id
   have hidx : idx.size = m + 1 := Array.size_ofFn
   have hps := Sort.pdq_sorts (Go.Proofs.ltOf cf) hO idx 0 idx.size (Lib.bitLen idx.size) true true (Nat.zero_le _) (Nat.le_refl _) (Or.inl rfl)
   generalize hr : Sort.pdq (Go.Proofs.ltOf cf) idx 0 idx.size (Lib.bitLen idx.size) true true = r at hps
   obtain ⟨⟨hrs, _, hperm⟩, hsort⟩ := hps
   rw [show idx.extract 0 idx.size = idx by simp, show r.extract 0 idx.size = r by rw [← hrs]; simp] at hperm
   rw [hidx] at hrs hsort
   let d' : Array (CV × List Int) := r.map fun i => d[i.val]!
   have hd's : d'.size = m + 1 := by simp [d', hrs]
   have hidl : idx.toList.map (fun i => d[i.val]!) = d.toList := by
    apply List.ext_getElem
    · simp [idx, hm]
    · intro i h1 h2
      have hi : i < d.size := by simpa using h2
      rw [List.getElem_map]
      simp only [idx, Array.toList_ofFn, List.getElem_ofFn, id]
      rw [getElem!_pos d i hi, Array.getElem_toList]
   have hpl : d'.toList.Perm d.toList := by
    have := hperm.map fun i => d[i.val]!
    rw [hidl] at this
    simpa [d'] using this
   have hd'g : ∀ j, j < m + 1 → d'[j]! = d[(r[j]!).val]! := fun j hj => by
    rw [getElem!_pos d' j (by omega), getElem!_pos r j (by omega)]
    simp [d']
   have hlen' : (d'.toList.map (·.1)).length = m + 1 := by simp [hd's]
   have hd'ne : d'.toList.map (·.1) ≠ [] := fun e => by rw [e] at hlen'; simp at hlen'
   refine ⟨d', h.set k (.cells (d'.toList.map (·.1)) 1 46), ⟨hgo, Nat.le_refl _, fun N0 ι w vals hN0 S hv => ?_⟩, Same.set hk1 _, ok.set hk2 _, ⟨?_, fun p hp => A.rows p (hpl.subset hp), ?_⟩, ⟨by rw [hd's, hm], fun i hi => ?_, ?_⟩, fun i j _ hij hj => ?_⟩
   · -- the call
     obtain ⟨v, u, rfl, hv1, hv2⟩ := yu hv
     subst hx
     cases hv1 with
     | @sl _ _ _ _ c' i hi hcc =>
     cases hv2 with
     | @fn _ _ cb hcb _ =>
     obtain rfl : cb = #[] := Array.eq_empty_of_size_eq_zero hcb
     have hwr : (h.get k).wr = true := by rw [hk3]; rfl
     have hB := S.blk k i hi
     rw [hk3] at hB
     obtain ⟨arr, e, b1, b2, b3, b4, b5, b6, b7, b8, b9⟩ := hB
     subst b8
     rw [hlen] at b3 b4 b7
     let enc : Fin (m + 1) → Value := fun j => arr.toList.getD (i.base + j.val) Go.undef
     have hencg : ∀ j : Fin (m + 1), arr[i.base + j.val]? = some (enc j) := fun j => by
      have hj := j.isLt
      simp only [enc]
      rw [List.getD_eq_getElem?_getD, Array.getElem?_toList, Array.getElem?_eq_getElem (by omega)]; rfl
     have hencv : ∀ j : Fin (m + 1), VR ι d[j.val]!.1 (enc j) := fun j => by
      have hj := j.isLt
      have := b7.2 j.val (by rw [hlen]; exact hj)
      rw [List.getD_eq_getElem?_getD, List.getElem?_take_of_lt hj, List.getElem?_drop, ← List.getD_eq_getElem?_getD] at this
      rw [getElem!_pos d j.val (by omega)]
      simpa [enc] using this
     have Sw : Sim N0 ι (h.set k .dead) w := S.wrote hi hwr (.inr rfl) rfl (fun _ _ => rfl) trivial
     have hrow : ∀ j : Fin (m + 1), ∃ a cap, enc j = .slice (some a) (d[j.val]!.2).length cap ∧ (d[j.val]!.2).length ≤ cap ∧ a.block ≠ i.b ∧ a.block < w.heap.size ∧ ∀ q, q < (d[j.val]!.2).length → w.cell? (a.add q) = some (.int .i64 ((d[j.val]!.2).getD q 0)) := fun j => by
      have hj : j.val < d.size := by have := j.isLt; omega
      have hmem : d[j.val]! ∈ d.toList := by rw [getElem!_pos d _ hj]; exact Array.getElem_mem_toList hj
      obtain ⟨hr1, hr2⟩ := A.rows _ hmem
      have hr3 := hr1.mono A.same okb (Nat.le_refl _)
      obtain ⟨a, cap, k', i', e1, e2, e3, e4, e5, e6, e7, e8⟩ := Ey Sw hr3 (hne _ hmem) (hencv j)
      have hkk : k ≠ k' := fun e => by rw [← e, Hp.get_set, if_pos rfl] at e5; cases e5
      have hl' : (h.get k').live = true := by rw [Hp.get_set, if_neg (Ne.symm hkk)] at e5; exact e5
      exact ⟨a, cap, e1, e2, by rw [e6]; exact (S.inj k k' i i' hi e4 hkk hwr hl').symm, by rw [e6]; exact (S.lt k' i' e4).2, e8⟩
     have h1c : Go.Proofs.OneCell enc := fun j => by
      obtain ⟨a, cap, e1, _⟩ := hrow j
      rw [e1]; rfl
     have hH : Sort.Holds enc w i.b (i.base + 0) idx := fun j hj => by
      have hj' : j < m + 1 := by omega
      have hij : idx[j]! = ⟨j, hj'⟩ := by
       rw [getElem!_pos idx j hj]
       simp [idx]
      refine ⟨?_, by simp [World.frozen?, b1]⟩
      rw [hij]
      have := hencg ⟨j, hj'⟩
      simp only [World.cell?, b1, Nat.add_zero]
      simpa using this
     have hcmp : Go.Proofs.CmpLays1 Tryz.prog 74 #[] enc cf i.b (i.base + 0) idx.size w := fun q os dk hdk a b => by
      obtain ⟨a1, c1, e1, l1, n1, s1, r1⟩ := hrow a
      obtain ⟨a2, c2, e2, l2, n2, s2, r2⟩ := hrow b
      have keep : ∀ (ad : Addr) (z : Nat), ad.block ≠ i.b → ad.block < w.heap.size → (Go.Proofs.sortWorld enc w i.b (i.base + 0) q dk os).cell? (ad.add z) = w.cell? (ad.add z) := fun ad z hn hs => by
       unfold Go.Proofs.sortWorld
       rw [Sort.cell?_grow _ _ _ (by rw [tN]; simpa [Sort.putRow, Sort.mapBlock, Sort.ahead] using hs), Sort.cell?_putRow_other _ _ _ _ _ _ (.inl (by rw [tN]; exact hn)), Sort.cell?_ahead]
      have hj : a.val < d.size := by have := a.isLt; omega
      have hmem : d[a.val]! ∈ d.toList := by rw [getElem!_pos d _ hj]; exact Array.getElem_mem_toList hj
      have := Ct H KO (W := Go.Proofs.sortWorld enc w i.b (i.base + 0) q dk os) (A.rows _ hmem).2 l1 l2 (fun z hz => by rw [keep a1 z n1 s1]; exact r1 z hz) (fun z hz => by rw [keep a2 z n2 s2]; exact r2 z hz)
      rw [H.hP] at this
      rw [e1, e2]
      simpa using this
     have eg : ∀ args w, (callFunc 74 args).run Tryz.prog w = .ok (.enter 74 args) w := enters_of Tryz.func74 (by kernel_rfl) rfl
     have hcon := Any.slices_SortFunc_eq (P := Tryz.prog) (ρ := Tryz.sortS_ren) Tryz.sortS enc h1c cf hO 74 #[] i.b (i.base + 0) c' idx w eg hcmp hH (S.lt k i hi).2 (by omega)
     rw [hr, hidx] at hcon
     rw [H.hP]
     refine Calls.mono hcon ?_
     rintro e w' ⟨rfl, q, os, rfl⟩
     have hNi : N0 ≤ i.b := S.own k i hi hwr
     have hil := (S.lt k i hi).2
     have hheap : ∀ j, (Sort.putRow enc (Sort.ahead w q) i.b (i.base + 0) r).heap[j]? = if i.b = j then (w.heap[j]?).map (Sort.onCells (Sort.putCells enc (i.base + 0) r)) else w.heap[j]? := fun j => by
      simp only [Sort.putRow, Sort.mapBlock, Sort.ahead]
      rw [Array.getElem?_modify]
     have hsz : (Sort.putRow enc (Sort.ahead w q) i.b (i.base + 0) r).heap.size = w.heap.size := by simp [Sort.putRow, Sort.mapBlock, Sort.ahead]
     have S1 : Sim N0 ι (h.set k (.cells (d'.toList.map (·.1)) 1 46)) (Sort.putRow enc (Sort.ahead w q) i.b (i.base + 0) r) := by
      refine S.wrote hi hwr (.inl rfl) hsz (fun j hj => by rw [hheap, if_neg (Ne.symm hj)]) ?_
      refine ⟨Sort.putCells enc (i.base + 0) r arr, 46, by rw [hheap, if_pos rfl, b1]; rfl, by simpa [Sort.putCells] using b2, by rw [hlen']; exact b3, by rw [hlen']; exact b4, b5, b6, ?_, rfl, fun h => by cases h⟩
      rw [hlen']
      refine ⟨by rw [hlen']; simp [Sort.putCells]; omega, fun j hj => ?_⟩
      have hj' : j < m + 1 := by omega
      rw [List.getD_eq_getElem?_getD, List.getElem?_take_of_lt hj', List.getElem?_drop, Array.getElem?_toList]
      have hb : i.base + j < arr.size := by omega
      have hc : (Sort.putCells enc (i.base + 0) r arr)[i.base + j]? = some (enc r[j]!) := by
       unfold Sort.putCells
       rw [Array.getElem?_mapIdx, Array.getElem?_eq_getElem hb]
       simp only [Option.map_some, Nat.add_zero]
       rw [if_pos ⟨Nat.le_add_right _ _, by omega⟩, Nat.add_sub_cancel_left]
      rw [hc]
      have h2 := hencv r[j]!
      have h3 : (d'.toList.map (·.1))[j] = d[(r[j]!).val]!.1 := by
       rw [← hd'g j hj', getElem!_pos d' j (by omega)]
       simp
      rw [h3]
      exact h2
     have E1 : Ext (Sort.putRow enc (Sort.ahead w q) i.b (i.base + 0) r).heap.size (Sort.putRow enc (Sort.ahead w q) i.b (i.base + 0) r) (Go.Proofs.sortWorld enc w i.b (i.base + 0) q r os) :=
      ⟨rfl, rfl, rfl, by simp [Go.Proofs.sortWorld, Sort.grow], fun b hb => Sort.heap_grow_old _ os hb, Nat.le_refl _⟩
     refine ⟨_, ι, rfl, Im.le_refl ι, fun _ _ h => h, S1.world E1, .tup rfl (fun j hj => absurd hj (Nat.not_lt_zero _)), ⟨rfl, rfl, rfl, ?_, fun b hb => ?_, HK.mono (Nat.le_add_right _ _)⟩⟩
     · show w.heap.size ≤ ((Sort.putRow enc (Sort.ahead w q) i.b (i.base + 0) r).heap ++ os).size
       rw [Array.size_append, hsz]; omega
     · have hbl : b < (Sort.putRow enc (Sort.ahead w q) i.b (i.base + 0) r).heap.size := by rw [hsz]; omega
       rw [E1.block b hbl, hheap, if_neg (by omega)]
   · have := Out.some (N := N) (h := h.set k (.cells (d'.toList.map (·.1)) 1 46)) (el := 46) (k := k) (cs := d'.toList.map (·.1)) hk1 hk2 hd'ne (by rw [Hp.get_set, if_pos rfl])
     rw [hlen'] at this
     rw [hx]; exact this
   · have hS := A.same
     rw [hx] at hS ⊢
     refine ⟨hS.n, fun j hj => ?_⟩
     have := hS.get j hj
     change (h.set k .dead).get j = _ at this
     show ((h.set k _).set k .dead).get j = _
     rw [← this]
     by_cases e : j = k
     · rw [Hp.get_set, if_pos e, Hp.get_set, if_pos e]
     · rw [Hp.get_set, if_neg e, Hp.get_set, if_neg e, Hp.get_set, if_neg e]
   · rcases hi with hi | hi
     · exact absurd hi (Nat.not_lt_zero _)
     · rw [getElem!_neg d' i (by omega), getElem!_neg d i (by omega)]
   · rw [show d.extract 0 d.size = d by simp, show d'.extract 0 d.size = d' by rw [hm, ← hd's]; simp]; exact hpl
   · rw [hd'g i (by omega), hd'g j (by omega), ← hlt]
     exact hsort i j (Nat.zero_le _) hij (by omega)
end
open Classical in
noncomputable def Ctx.told (K : Ctx) (f : FuncId) (args : List CV) (h : Hp) (r : CV) (h' : Hp) : Ctx := { K with spec := fun f' a g => if f' = f ∧ a = args ∧ g = h then some (r, h') else K.spec f' a g }
theorem Ip {K : Ctx} (KO : lw K) {f : FuncId} {args : List CV} {h h' : Hp} {r : CV} (F : FCall K.P f args h r h') : lw (K.told f args h r h') := fun fu =>
 ⟨(KO fu).goods, (KO fu).orders, (KO fu).prim, (KO fu).func, (KO fu).memo, fun f1 a1 g1 r1 g1' hs => by
   change (K.told f args h r h').spec f1 a1 g1 = some (r1, g1') at hs
   simp only [Ctx.told] at hs
   split at hs
   · rename_i e
     obtain ⟨rfl, rfl, rfl⟩ := e
     cases hs
     exact F
   · exact (KO fu).spec f1 a1 g1 r1 g1' hs⟩
theorem Comes.told {K : Ctx} {f : FuncId} {args : List CV} {h h' : Hp} {r : CV} (hm : K.memo f = []) (hs : K.spec f args h = some (r, h')) : Comes K f args h r h' := ⟨1, fun d fu hd _ => by
 obtain ⟨d, rfl⟩ : ∃ m, d = m + 1 := ⟨d - 1, by omega⟩
 simp only [cz, Ctx.env, hm, ko, hs]⟩
def aJ : List (List Int) → Hp → List CV × Hp
 | [], h => ([], h)
 | a :: l, h => (.sl h.n 0 a.length a.length :: (aJ l (h.push (.cells (ah a) 1 3))).1, (aJ l (h.push (.cells (ah a) 1 3))).2)
def bw (l : List (List Int)) (h : Hp) : CV × Hp := match l with
 | [] => (.nils, h)
 | _ => (.sl (aJ l h).2.n 0 l.length l.length, (aJ l h).2.push (.cells (aJ l h).1 1 46))
theorem gF : ∀ (l : List (List Int)) (h : Hp), (aJ l h).2.n = h.n + l.length
 | [], h => rfl
 | a :: l, h => by simp only [aJ, gF l, List.length_cons]; show h.n + 1 + l.length = _; omega
theorem ir : ∀ (l : List (List Int)) (h : Hp) (k : Nat), k < h.n → (aJ l h).2.get k = h.get k
 | [], h, k, _ => rfl
 | a :: l, h, k, hk => by
  simp only [aJ]
  rw [ir l _ k (by show k < h.n + 1; omega), ag, if_neg (by omega)]
theorem mv : ∀ (l : List (List Int)) (h : Hp), HpOk h → HpOk (aJ l h).2
 | [], h, ok => ok
 | a :: l, h, ok => mv l _ (ok.push _)
theorem iu : ∀ (l : List (List Int)) (h : Hp) (i : Nat) (hi : i < l.length), (aJ l h).2.get (h.n + i) = .cells (ah l[i]) 1 3
 | [], h, i, hi => by simp at hi
 | a :: l, h, 0, hi => by
  simp only [aJ]
  rw [Nat.add_zero, ir l _ h.n (by show h.n < h.n + 1; omega), ag, if_pos rfl]
  rfl
 | a :: l, h, i + 1, hi => by
  simp only [aJ]
  have := iu l (h.push (.cells (ah a) 1 3)) i (by simpa using hi)
  rw [show h.n + (i + 1) = (h.push (.cells (ah a) 1 3)).n + i by show _ = h.n + 1 + i; omega, this]
  simp
theorem iw : ∀ (l : List (List Int)) (h : Hp), (aJ l h).1.length = l.length ∧ ∀ i (h1 : i < (aJ l h).1.length) (h2 : i < l.length), (aJ l h).1[i] = .sl (h.n + i) 0 l[i].length l[i].length
 | [], h => ⟨rfl, fun i hi => by simp [aJ] at hi⟩
 | a :: l, h => by
  obtain ⟨h1, h2⟩ := iw l (h.push (.cells (ah a) 1 3))
  refine ⟨by simp only [aJ, List.length_cons, h1], fun i g1 g2 => ?_⟩
  cases i with
  | zero => rfl
  | succ i =>
   have := h2 i (by simpa [aJ] using g1) (by simpa using g2)
   simp only [aJ, List.getElem_cons_succ]
   rw [this, show (h.push (.cells (ah a) 1 3)).n + i = h.n + (i + 1) by show h.n + 1 + i = _; omega]
def zw (h : Hp) (es : List (CV × CV)) (ls : List (List Int)) : Prop := es.length = ls.length ∧ ∀ i (h1 : i < es.length) (h2 : i < ls.length), Row h es[i].2 (ah ls[i]) ∧ ls[i] ≠ [] ∧ ls[i].length < 1099511627776
structure Fresh (N : Nat) (h : Hp) (x : CV) (ds : List (CV × List Int)) : Prop where
 blk : ∀ p ∈ ds, ∃ k, p.1 = .sl k 0 p.2.length p.2.length ∧ N ≤ k ∧ k < h.n ∧ (wipe h x).get k = .cells (ah p.2) 1 3
 nd : (ds.map (·.1)).Nodup
theorem Out.set {N el j : Nat} {h : Hp} {x : CV} {cs : List CV} {b : HB} (hj : j < N) (r : Out N h el x cs) : Out N (h.set j b) el x cs := by
 cases r with
 | nils => exact .nils
 | @some k cs hk hn hne hs => exact .some hk hn hne (by rw [Hp.get_set, if_neg (by omega)]; exact hs)
theorem EA {h : Hp} {x : CV} {j k : Nat} {b : HB} (hjk : k ≠ j) : (wipe (h.set j b) x).get k = (wipe h x).get k := by
 cases x with
 | sl i o n c =>
  show (Hp.set (h.set j b) i .dead).get k = (h.set i .dead).get k
  rw [Hp.get_set, Hp.get_set, Hp.get_set, if_neg hjk]
 | _ => show (h.set j b).get k = h.get k; rw [Hp.get_set, if_neg hjk]
theorem Fresh.set {N j : Nat} {h : Hp} {x : CV} {ds : List (CV × List Int)} {b : HB} (hj : j < N) (F : Fresh N h x ds) : Fresh N (h.set j b) x ds := ⟨fun p hp => by
 obtain ⟨k, e, h1, h2, h3⟩ := F.blk p hp
 exact ⟨k, e, h1, h2, by rw [EA (by omega)]; exact h3⟩, F.nd⟩
theorem Row.set {h : Hp} {j : Nat} {b : HB} {x : CV} {cs : List CV} (hj : ∀ o n, bk o n (h.get j) = Option.none) (r : Row h x cs) : Row (h.set j b) x cs := by
 cases r with
 | nils => exact .nils
 | sle => exact .sle
 | none k o c => exact .none k o c
 | @some k o c cs hne hs hc hf =>
  have : k ≠ j := fun e => by subst e; rw [hj] at hs; cases hs
  exact .some hne (by rw [Hp.get_set, if_neg this]; exact hs) hc (by rw [Hp.get_set, if_neg this]; exact hf)
section
variable {K : Ctx} {h : Hp}
theorem Cv (H : Std K) {N : Nat} {h0 : Hp} {x y : CV} {ds : List (CV × List Int)} {a : List Int} (bX : HpOk h0) (hN : N ≤ h0.n) (hne : a ≠ []) (O : Out N h0 46 x (ds.map (·.1))) (F : Fresh N h0 x ds) (ok : HpOk h) (S : Same h0.n h0 h) (hy : Out h0.n h 3 y (ah a)) (hl : ds.length < 1099511627776) :
  ∃ B Bv x' h', aC 1 [(0, y)] (ae K.P 22) = some (B, Bv) ∧ be (h.push Bv) x (B h.n) (ae K.P 22) (ae K.P 22) = some (x', h') ∧ Out N h' 46 x' ((ds ++ [(y, a)]).map (·.1)) ∧ Fresh N h' x' (ds ++ [(y, a)]) ∧ HpOk h' ∧ h.n ≤ h'.n ∧ ∀ k, k < N → h'.get k = h.get k := by
 have ht : ae K.P 22 = .slice 46 1 24 [.nils] := by rw [H.hP]; exact t22
 have hyv := hy.row.one
 have O1 := O.mono S (Nat.le_refl _)
 have O2 : Out N (h.push (.cells [y] 0 46)) 46 x (ds.map (·.1)) := O1.mono (Same.push (Nat.le_refl _) _) (Nat.le_refl _)
 have hn : h0.n ≤ h.n := S.n
 have e := O2.appE (z := [.nils]) (t' := .slice 46 1 24 [.nils]) (bytes := 24) (lr (h := h) (v := y) (el := 46)) (by simp) (by simp [hyv]) rfl ⟨_, _, _, rfl⟩ (by simp; omega) (by simp; omega)
 obtain ⟨ky, rfl, hk1, hk2, hk3⟩ : ∃ k, y = .sl k 0 a.length a.length ∧ h0.n ≤ k ∧ k < h.n ∧ h.get k = .cells (ah a) 1 3 := by
  have hne' := ep hne
  generalize hc : ah a = c at hy hne'
  have hlen : a.length = c.length := by rw [← hc, aw]
  cases hy with
  | nils => exact absurd rfl hne'
  | @some k cs a1 a2 a3 a4 => exact ⟨k, by rw [hlen], a1, a2, a4⟩
 generalize hg : wipe (h.push (.cells [.sl ky 0 a.length a.length] 0 46)) x = g at e
 have hgn : g.n = h.n + 1 := by rw [← hg, di]; rfl
 have gget : ∀ k, k < h.n → (∀ i o n c, x = .sl i o n c → k ≠ i) → g.get k = h.get k := by
  intro k hk hx
  rw [← hg]
  cases x with
  | sl i o n c =>
   show (Hp.set (h.push _) i .dead).get k = _
   rw [Hp.get_set, if_neg (hx i o n c rfl), ag, if_neg (by omega)]
  | _ => show (h.push _).get k = _; rw [ag, if_neg (by omega)]
 have hxk : ∀ i o n c, x = .sl i o n c → N ≤ i ∧ i < h0.n := by
  intro i o n c hx
  subst hx
  generalize hd : ds.map (·.1) = cs at O
  cases O with
  | some a1 a2 _ _ => exact ⟨a1, a2⟩
 refine ⟨fun k => .sl k 0 1 1, .cells [.sl ky 0 a.length a.length] 0 46, _, _, by rw [ht]; exact iH rfl, by rw [ht]; exact e, ?_, ⟨fun p hp => ?_, ?_⟩, ?_, ?_, fun k hk => ?_⟩
 · have := Out.some (N := N) (h := g.push (.cells (ds.map (·.1) ++ [.sl ky 0 a.length a.length]) 1 46)) (el := 46) (k := h.n + 1) (cs := ds.map (·.1) ++ [.sl ky 0 a.length a.length]) (by omega) (by show h.n + 1 < g.n + 1; omega) (by simp) (by rw [ag, if_pos hgn.symm])
   simpa using this
 · have fin : ∀ k, k < h.n → g.get k = .cells (ah p.2) 1 3 → (wipe (g.push (.cells (ds.map (·.1) ++ [.sl ky 0 a.length a.length]) 1 46)) (.sl (h.push (.cells [.sl ky 0 a.length a.length] 0 46)).n 0 ((ds.map (·.1)).length + [CV.sl ky 0 a.length a.length].length) ((ds.map (·.1)).length + [CV.sl ky 0 a.length a.length].length))).get k = .cells (ah p.2) 1 3 := by
    intro k hk hgk
    show (Hp.set _ (h.n + 1) .dead).get k = _
    rw [Hp.get_set, if_neg (by omega), ag, if_neg (by omega)]; exact hgk
   rcases List.mem_append.1 hp with hp | hp
   · obtain ⟨k, e1, h1, h2, h3⟩ := F.blk p hp
     refine ⟨k, e1, h1, by show k < g.n + 1; omega, fin k (by omega) ?_⟩
     have hx' : ∀ i o n c, x = .sl i o n c → k ≠ i := fun i o n c hx hki => by
      subst hx; subst hki
      rw [show wipe h0 (.sl k o n c) = h0.set k .dead from rfl, Hp.get_set, if_pos rfl] at h3; cases h3
     rw [gget k (by omega) hx', S.get k (by omega), ← h3]
     cases x with
     | sl i o n c => show _ = (h0.set i .dead).get k; rw [Hp.get_set, if_neg (hx' i o n c rfl)]
     | _ => rfl
   · rw [List.mem_singleton] at hp; subst hp
     refine ⟨ky, rfl, by omega, by show ky < g.n + 1; omega, fin ky hk2 ?_⟩
     rw [gget ky hk2 (fun i o n c hx hki => by have := (hxk i o n c hx).2; omega)]; exact hk3
 · rw [List.map_append, List.nodup_append]
   refine ⟨F.nd, by simp, fun u hu v hv => ?_⟩
   simp at hv; subst hv
   obtain ⟨p, hp, rfl⟩ := List.mem_map.1 hu
   obtain ⟨k, e1, h1, h2, h3⟩ := F.blk p hp
   intro e2
   rw [e1] at e2
   injection e2 with e3
   omega
 · refine HpOk.push ?_ _
   rw [← hg]; exact (ok.push _).wipe x
 · show h.n ≤ g.n + 1; omega
 · rw [ag, if_neg (by omega)]
   exact gget k (by omega) (fun i o n c hx hki => by have := (hxk i o n c hx).1; omega)
end
theorem Mc : Tryz.prog.underlying 100 = some (.map 103 46) := by kernel_rfl
theorem Q1.x {K : Ctx} {o : Oper} {s : Fr} {h : Hp} {v : CV} (Hq : Q1 K o s h v) : gS K.P o (ev s) h = some (v, h) := by rw [gS, Hq.q]
theorem Row.keep {h0 h : Hp} {x : CV} {cs : List CV} (hk : ∀ k o n cs, bk o n (h0.get k) = Option.some cs → h.get k = h0.get k) (r : Row h0 x cs) : Row h x cs := by
 cases r with
 | nils => exact .nils
 | sle => exact .sle
 | none k o c => exact .none k o c
 | @some k o c cs hne hs hc hf => exact .some hne (by rw [hk _ _ _ _ hs]; exact hs) hc (by rw [hk _ _ _ _ hs]; exact hf)
def fP (ls : List (List Int)) : List (List Int) := ls.foldl nH []
theorem mw (ls : List (List Int)) : Srt (fP ls) := tI ls [] List.Pairwise.nil
theorem kc {ls : List (List Int)} {x : List Int} : x ∈ fP ls ↔ x ∈ ls := by
 have := tH (x := x) ls []
 simpa [fP, oE] using this
theorem LtS.irrefl {a : List Int} : ¬ LtS a a := fun h => by have := (ew a a).2 rfl; unfold LtS at h; omega
theorem Cw {a b : List Int} (h : LtS a b) (h' : LtS b a) : False := LtS.irrefl (h.trans h')
theorem sN : ∀ {u w : List (List Int)}, Srt u → Srt w → (∀ x, x ∈ u ↔ x ∈ w) → u = w
 | [], [], _, _, _ => rfl
 | [], b :: w, _, _, h => absurd ((h b).2 (by simp)) (by simp)
 | a :: u, [], _, _, h => absurd ((h a).1 (by simp)) (by simp)
 | a :: u, b :: w, hu, hw, h => by
  have h1 := List.pairwise_cons.1 hu
  have h2 := List.pairwise_cons.1 hw
  have hab : a = b := by
   rcases List.mem_cons.1 ((h a).1 (by simp)) with e | e
   · exact e
   · rcases List.mem_cons.1 ((h b).2 (by simp)) with e' | e'
     · exact e'.symm
     · exact (Cw (h2.1 a e) (h1.1 b e')).elim
  subst hab
  congr 1
  refine sN h1.2 h2.2 fun x => ?_
  constructor
  · intro hx
    rcases List.mem_cons.1 ((h x).1 (by simp [hx])) with e | e
    · exact absurd (h1.1 x hx) (e ▸ LtS.irrefl)
    · exact e
  · intro hx
    rcases List.mem_cons.1 ((h x).2 (by simp [hx])) with e | e
    · exact absurd (h2.1 x hx) (e ▸ LtS.irrefl)
    · exact e
structure Way (h0 : Hp) (mk : Nat) (es : List (CV × CV)) (bs : List Nat) (clock : Nat) (ls : List (List Int)) (js : List Nat) (s : Fr) (h : Hp) : Prop where
 nd : js.Nodup
 lt : ∀ j ∈ js, j < es.length
 ok : HpOk h
 old : ∀ k, k < h0.n → k ≠ mk → h.get k = h0.get k
 n : h0.n < h.n
 mp : h.get mk = .mi es bs clock
 it : h.get h0.n = .it mk clock (js.map fun j => bs.getD j 0) clock
 s7 : s.at 7 = .ptr h0.n 0
 sl : s.at ai = .undef
 ex : ∃ x ds, s.at 3 = x ∧ Out (h0.n + 1) h 46 x (ds.map (·.1)) ∧ Fresh (h0.n + 1) h x ds ∧ ds.map (·.2) = js.map fun j => ls.getD j []
theorem nR : ∀ {n : Nat} {js : List Nat}, js.Nodup → (∀ j ∈ js, j < n) → js.length ≤ n
 | 0, js, _, hl => by
  cases js with
  | nil => simp
  | cons a l => have := hl a (by simp); omega
 | n + 1, js, hn, hl => by
  have h1 := nR (n := n) (js := js.erase n) (hn.erase n) fun j hj => by
   have := (hn.mem_erase_iff).1 hj
   have := hl j this.2
   omega
  have h2 := List.length_erase (a := n) (l := js)
  split at h2 <;> omega
section
variable {K : Ctx} {h0 : Hp}
theorem Way.rows {mk : Nat} {es : List (CV × CV)} {bs : List Nat} {clock : Nat} {ls : List (List Int)} {js : List Nat} {s : Fr} {h : Hp} (bX : HpOk h0) (hm : h0.get mk = .mp es) (W : Way h0 mk es bs clock ls js s h) {x : CV} {cs : List CV} (r : Row h0 x cs) : Row h x cs :=
 r.keep fun k o n cs e => W.old k (by
  rcases Nat.lt_or_ge k h0.n with hk | hk
  · exact hk
  · rw [bX k hk] at e; simp [bk] at e) (fun hk => by rw [hk, hm] at e; simp [bk] at e)
theorem Cx (H : Std K) (KO : lw K) (hok : bp (K.plan 72) 20 (an Tryz.f72) = true) (bX : HpOk h0) {mk : Nat} {es : List (CV × CV)} {bs : List Nat} {clock : Nat} {ls : List (List Int)} (hmk : mk < h0.n) (hm : h0.get mk = .mp es) (hbl : bs.length = es.length) (hbn : bs.Nodup) (hbc : ∀ b ∈ bs, b < clock) (R : zw h0 es ls) (hbig : es.length < 1099511627776) {s : Fr} {h : Hp} (W : Way h0 mk es bs clock ls [] s h) :
  Goes K 20 (aD [1, 1, 0, 1, 0] (an Tryz.f72)) s h fun e s' h' => e = .exit 0 ∧ ∃ js, Way h0 mk es bs clock ls js s' h' ∧ ∀ b ∈ bs, b ∈ js.map fun j => bs.getD j 0 := by
 have hns : 20 ≤ ai := by decide
 have hel := R.1
 refine Goes.loop (fun m s h => ∃ js, m = es.length - js.length ∧ Way h0 mk es bs clock ls js s h) (fun m s h ⟨js, hmj, W⟩ => ?_) ⟨[], rfl, W⟩
 obtain ⟨x, ds, g3, O, F, hds⟩ := W.ex
 refine Goes.seq (Q1 := fun e s1 h1 => e = .normal ∧ ((s1.at 9 = .bo false ∧ Way h0 mk es bs clock ls js s1 h1 ∧ ∀ b ∈ bs, b ∈ js.map fun j => bs.getD j 0) ∨ (s1.at 9 = .bo true ∧ ∃ j, ∃ h1' : j < es.length, j ∉ js ∧ s1.at 3 = x ∧ s1.at 7 = .ptr h0.n 0 ∧ s1.at ai = .undef ∧ h1 = h.set h0.n (.it mk clock ((js ++ [j]).map fun j => bs.getD j 0) clock)))) (Goes.region ?_) (fun s1 h1 q => ?_) (fun e s1 h1 hne q => absurd q.1 hne)
 · refine GoesL.next (kit := h0.n) (m := mk) (since := clock) (c0 := clock) (clock := clock) (seen := js.map fun j => bs.getD j 0) (bs := bs) (es := es) hns rfl (List.Mem.head _) rfl rfl W.s7 W.it W.mp hbc (Nat.le_refl _) hbl (fun hall => ?_) fun j h1 h2 hnot => ?_
   · exact GoesL.runs (s1 := T.set (T.set s 8 (.tup [.bo false])) 9 (.bo false)) (h1 := h) KO hns rfl (fun o ho => List.Mem.tail _ ho) (RunL.op (v := .bo false) rfl (Q1.e (aK rfl rfl rfl)) RunL.nil) ⟨rfl, .inl ⟨rfl, ⟨W.nd, W.lt, W.ok, W.old, W.n, W.mp, W.it, W.s7, W.sl, x, ds, g3, O, F, hds⟩, hall⟩⟩
   · refine GoesL.runs (s1 := T.set (T.set s 8 (.tup [.bo true, es[j].1, es[j].2])) 9 (.bo true)) (h1 := h.set h0.n (.it mk clock ((js.map fun j => bs.getD j 0) ++ [bs[j]]) clock)) KO hns rfl (fun o ho => List.Mem.tail _ ho) (RunL.op (v := .bo true) rfl (Q1.e (aK rfl rfl rfl)) RunL.nil) ⟨rfl, .inr ⟨rfl, j, h1, fun hj => hnot (List.mem_map.2 ⟨j, hj, ?_⟩), g3, W.s7, W.sl, ?_⟩⟩
     · simp [List.getD_eq_getElem?_getD, List.getElem?_eq_getElem h2]
     · simp [List.getD_eq_getElem?_getD, List.getElem?_eq_getElem h2]
 · obtain ⟨_, q⟩ := q
   rcases q with ⟨g9, W1, hall⟩ | ⟨g9, j, hj, hnj, k3, k7, ks, rfl⟩
   · refine Goes.seq (Q1 := fun e s2 h2 => e = .exit 0 ∧ s2 = s1 ∧ h2 = h1) (Goes.condF rfl g9 (Goes.exit ⟨rfl, rfl, rfl⟩)) (fun s2 h2 q => by cases q.1) (fun e s2 h2 _ q => ?_)
     obtain ⟨rfl, rfl, rfl⟩ := q
     exact .inr ⟨by simp, rfl, js, W1, hall⟩
   · -- the round
     have hjb : j < bs.length := by omega
     have hjl : j < ls.length := by omega
     obtain ⟨rv, hne, hrl⟩ := R.2 j hj hjl
     have hb : bs.getD j 0 = bs[j] := by simp [List.getD_eq_getElem?_getD, List.getElem?_eq_getElem hjb]
     have hseen : (js ++ [j]).map (fun j => bs.getD j 0) = (js.map fun j => bs.getD j 0) ++ [bs[j]] := by simp only [List.map_append, List.map_cons, List.map_nil, hb]
     generalize hh1 : h.set h0.n (.it mk clock ((js ++ [j]).map fun j => bs.getD j 0) clock) = h1
     have hn1 : h1.n = h.n := by rw [← hh1]; rfl
     have hit : h1.get h0.n = .it mk clock ((js.map fun j => bs.getD j 0) ++ [bs[j]]) clock := by rw [← hh1, Hp.get_set, if_pos rfl, hseen]
     have hget : ∀ k, k ≠ h0.n → h1.get k = h.get k := fun k hk => by rw [← hh1, Hp.get_set, if_neg hk]
     have hmp : h1.get mk = .mi es bs clock := by rw [hget mk (by omega)]; exact W.mp
     have aX : HpOk h1 := by rw [← hh1]; exact W.ok.set W.n _
     have hrow : Row h1 es[j].2 (ah ls[j]) := by
      rw [← hh1]
      exact (W.rows bX hm rv).set fun o n => by rw [W.it]; rfl
     refine Goes.seq (Q1 := fun e s2 h2 => e = .normal ∧ s2 = s1 ∧ h2 = h1) (Goes.condT rfl g9 (Goes.skip ⟨rfl, rfl, rfl⟩)) (fun s2 h2 q => ?_) (fun e s2 h2 hne q => absurd q.1 hne)
     obtain ⟨_, rfl, rfl⟩ := q
     refine Goes.block (Q1 := fun e s3 h3 => e = .normal ∧ ∃ j', j' < m ∧ ∃ js', j' = es.length - js'.length ∧ Way h0 mk es bs clock ls js' s3 h3) ?_ (fun e s3 h3 q => .inl ⟨by rw [q.1]; rfl, q.2⟩)
     refine Goes.seq (Q1 := fun e s3 h3 => e = .normal ∧ s3.at 5 = es[j].2 ∧ s3.at 3 = x ∧ s3.at 7 = .ptr h0.n 0 ∧ s3.at ai = .undef ∧ h3 = h2) (Goes.region ?_) (fun s3 h3 q => ?_) (fun e s3 h3 hne q => absurd q.1 hne)
     · refine GoesL.entry (kit := h0.n) (m := mk) (since := clock) (clock := clock) (b := bs[j]) (seen := js.map fun j => bs.getD j 0) (bs := bs) (es := es) hns rfl (List.Mem.head _) rfl rfl k7 hit hmp hj hjb rfl hbn ?_
       exact GoesL.runs (s1 := T.set (T.set (T.set s2 10 (.tup [es[j].1, es[j].2])) 11 es[j].2) 5 es[j].2) (h1 := h2) KO hns rfl (fun o ho => List.Mem.tail _ ho) (RunL.op (v := es[j].2) rfl (Q1.e (aK rfl rfl rfl)) (RunL.op (v := es[j].2) rfl (Q1.e (pG rfl rfl)) RunL.nil)) ⟨rfl, rfl, k3, k7, ks, rfl⟩
     · obtain ⟨_, l5, l3, l7, lsl, rfl⟩ := q
       obtain ⟨y, h4, c4, S4, ez, oy⟩ := tC H aX hne hrl hrow
       have hlen : js.length < es.length := by
        have h1 : (js ++ [j]).length ≤ es.length := nR (by rw [List.nodup_append]; exact ⟨W.nd, by simp, fun a ha b hb e => by simp at hb; subst hb; exact hnj (e ▸ ha)⟩) (fun i hi => by rcases List.mem_append.1 hi with hi | hi; exact W.lt i hi; simp at hi; omega)
        simp at h1; omega
       have hdl : ds.length = js.length := by have := congrArg List.length hds; simpa using this
       have O1 : Out (h0.n + 1) h3 46 x (ds.map (·.1)) := by rw [← hh1]; exact O.set (Nat.lt_succ_self _)
       have F1 : Fresh (h0.n + 1) h3 x ds := by rw [← hh1]; exact F.set (Nat.lt_succ_self _)
       obtain ⟨B, Bv, x', h5, a1, a2, O5, F5, fh, n5, g5⟩ := Cv H aX (by have := W.n; omega) hne O1 F1 ez S4 oy (by omega)
       refine (Goes.runs (f := 72) KO hns (cW [1, 1, 0, 1, 0, 0, 1, 1, 0, 1] _ hok) (Kf H.hk l3 l5 (H.prim _ _) c4 a1 a2)).mono ?_
       rintro e s6 h6 ⟨rfl, rfl, rfl⟩
       have hlt : h0.n < h3.n := by rw [hn1]; exact W.n
       have keep : ∀ k, k < h0.n + 1 → h6.get k = h3.get k := fun k hk => by rw [g5 k hk, S4.get k (by omega)]
       refine ⟨rfl, es.length - (js ++ [j]).length, by simp; omega, js ++ [j], rfl, ⟨?_, ?_, fh, ?_, ?_, ?_, ?_, l7, lsl, x', ds ++ [(y, ls[j])], rfl, O5, F5, ?_⟩⟩
       · rw [List.nodup_append]
         exact ⟨W.nd, by simp, fun a ha b hb e => by simp at hb; subst hb; exact hnj (e ▸ ha)⟩
       · intro i hi
         rcases List.mem_append.1 hi with hi | hi
         · exact W.lt i hi
         · simp at hi; omega
       · intro k hk hkm
         rw [keep k (by omega), hget k (by omega)]; exact W.old k hk hkm
       · have := S4.n; omega
       · rw [keep mk (by omega)]; exact hmp
       · rw [keep h0.n (by omega), hit, hseen]
       · rw [List.map_append, List.map_append, hds]
         simp [List.getD_eq_getElem?_getD, List.getElem?_eq_getElem hjl]
end
theorem sO {P : Program} {E : fl} {f : FuncId} {fn : Func} (hE : dh P E f = true) (hf : P.funcs[f]? = some fn) (hb : fn.body.isSome = true) : bp (E.plan f) fn.ntmps (an fn) = true := by
 obtain ⟨c, hc⟩ := Option.isSome_iff_exists.1 hb
 unfold dh at hE
 rw [hf] at hE
 dsimp only at hE
 rw [hc] at hE
 simp only [Bool.and_eq_true] at hE
 rw [show an fn = c by simp [an, hc]]
 exact hE.2
theorem nS {α : Type} {l : List α} (hn : l.Nodup) {i j : Nat} (hi : i < l.length) (hj : j < l.length) (e : l[i] = l[j]) : i = j := by
 rcases Nat.lt_trichotomy i j with h | h | h
 · exact absurd e (List.pairwise_iff_getElem.1 hn i j hi hj h)
 · exact h
 · exact absurd e.symm (List.pairwise_iff_getElem.1 hn j i hj hi h)
def pf : CV → Nat
 | .sl k _ _ _ => k
 | _ => 0
theorem wn : ∀ {a b : List Int}, ah a = ah b → a = b
 | [], [], _ => rfl
 | [], _ :: _, h => by simp [ah] at h
 | _ :: _, [], h => by simp [ah] at h
 | x :: a, y :: b, h => by
  simp only [ah, List.map_cons, List.cons.injEq, CV.nu.injEq, true_and] at h
  rw [h.1, wn (a := a) (b := b) h.2]
theorem zx {N : Nat} {h0 h2 : Hp} (hN : h0.n < N) {x : CV} {ps : List (CV × List Int)} (bX : HpOk h0) (O : Out N h2 46 x (ps.map (·.1))) (blk : ∀ p ∈ ps, ∃ k, p.1 = .sl k 0 p.2.length p.2.length ∧ N ≤ k ∧ k < h2.n ∧ (wipe h2 x).get k = .cells (ah p.2) 1 3) (nd : (ps.map (·.1)).Nodup) (hne : ∀ p ∈ ps, p.2 ≠ []) (old : ∀ k, k < h0.n → h2.get k = h0.get k) : Relay h0 (bw (ps.map (·.2)) h0).2 (bw (ps.map (·.2)) h0).1 x h2 := by
 by_cases he : ps = []
 · subst he
   have hx : x = .nils := by
    generalize hc : ([] : List (CV × List Int)).map (·.1) = cs at O
    cases O with
    | nils => rfl
    | some _ _ a _ => simp at hc; first | exact absurd hc a | exact absurd hc.symm a
   subst hx
   refine ⟨⟨fun k => if k < h0.n then k else h2.n + k, fun k hk => if_pos hk, fun k h1 h3 => ?_, fun k k' h1 h3 e => ?_, fun k hk => ?_, .nils⟩, fun k hk => ⟨rfl, old k hk⟩, bX, Nat.le_refl _⟩
   · have : k < h0.n := h3
     omega
   · have h1 : k < h0.n := h1
     have h3 : k' < h0.n := h3
     simpa [h1, h3] using e
   · have : h0.n ≤ k := hk
     show h2.n ≤ if k < h0.n then k else h2.n + k
     rw [if_neg (by omega)]; omega
 · -- its own block
   have hne' : ps.map (·.1) ≠ [] := by simpa using he
   obtain ⟨kx, rfl, x1, x2, x3⟩ : ∃ k, x = .sl k 0 ps.length ps.length ∧ N ≤ k ∧ k < h2.n ∧ h2.get k = .cells (ps.map (·.1)) 1 46 := by
    generalize hc : ps.map (·.1) = cs at O hne'
    have hl : ps.length = cs.length := by rw [← hc]; simp
    cases O with
    | nils => exact absurd rfl hne'
    | @some k cs a1 a2 a3 a4 => exact ⟨k, by rw [hl], a1, a2, a4⟩
   have blk' : ∀ i (hi : i < ps.length), (ps[i]).1 = .sl (pf (ps[i]).1) 0 (ps[i]).2.length (ps[i]).2.length ∧ N ≤ pf (ps[i]).1 ∧ pf (ps[i]).1 < h2.n ∧ pf (ps[i]).1 ≠ kx ∧ h2.get (pf (ps[i]).1) = .cells (ah (ps[i]).2) 1 3 := by
    intro i hi
    obtain ⟨k, e, h1, h3, h4⟩ := blk _ (List.getElem_mem hi)
    have hk : pf (ps[i]).1 = k := by rw [e]; rfl
    have hkx : k ≠ kx := fun hh => by
     rw [show wipe h2 (.sl kx 0 ps.length ps.length) = h2.set kx .dead from rfl, Hp.get_set, if_pos hh] at h4; cases h4
    rw [show wipe h2 (.sl kx 0 ps.length ps.length) = h2.set kx .dead from rfl, Hp.get_set, if_neg hkx] at h4
    rw [hk]
    exact ⟨e, h1, h3, hkx, h4⟩
   have hlr : bw (ps.map (·.2)) h0 = (.sl (aJ (ps.map (·.2)) h0).2.n 0 (ps.map (·.2)).length (ps.map (·.2)).length, (aJ (ps.map (·.2)) h0).2.push (.cells (aJ (ps.map (·.2)) h0).1 1 46)) := by
    unfold bw
    split
    · rename_i hh; simp at hh; exact absurd hh he
    · rfl
   have hn := gF (ps.map (·.2)) h0
   rw [List.length_map] at hn
   have hcn : (bw (ps.map (·.2)) h0).2.n = h0.n + ps.length + 1 := by rw [hlr]; show (aJ _ h0).2.n + 1 = _; omega
   have hget : ∀ i (hi : i < ps.length), (bw (ps.map (·.2)) h0).2.get (h0.n + i) = .cells (ah (ps[i]).2) 1 3 := fun i hi => by
    rw [hlr]
    show (Hp.push _ _).get _ = _
    rw [ag, if_neg (by omega)]
    have := iu (ps.map (·.2)) h0 i (by simpa using hi)
    simpa using this
   have hgetx : (bw (ps.map (·.2)) h0).2.get (h0.n + ps.length) = .cells (aJ (ps.map (·.2)) h0).1 1 46 := by
    rw [hlr]
    show (Hp.push _ _).get _ = _
    rw [ag, if_pos hn.symm]
   let ρ : Nat → Nat := fun k => if k < h0.n then k else if k < h0.n + ps.length then pf (ps[k - h0.n]!).1 else if k = h0.n + ps.length then kx else h2.n + k
   have r1 : ∀ k, k < h0.n → ρ k = k := fun k hk => if_pos hk
   have r2 : ∀ i (hi : i < ps.length), ρ (h0.n + i) = pf (ps[i]).1 := fun i hi => by
    show (if _ then _ else if _ then _ else _) = _
    rw [if_neg (by omega), if_pos (by omega), Nat.add_sub_cancel_left, getElem!_pos ps i hi]
   have r3 : ρ (h0.n + ps.length) = kx := by
    show (if _ then _ else if _ then _ else if _ then _ else _) = _
    rw [if_neg (by omega), if_neg (by omega), if_pos rfl]
   have r4 : ∀ k, h0.n + ps.length + 1 ≤ k → ρ k = h2.n + k := fun k hk => by
    show (if _ then _ else if _ then _ else if _ then _ else _) = _
    rw [if_neg (by omega), if_neg (by omega), if_neg (by omega)]
   have cases3 : ∀ k, k < h0.n + ps.length + 1 → k < h0.n ∨ (∃ i, ∃ hi : i < ps.length, k = h0.n + i) ∨ k = h0.n + ps.length := fun k hk => by
    rcases Nat.lt_or_ge k h0.n with h | h
    · exact .inl h
    · rcases Nat.lt_or_ge k (h0.n + ps.length) with h' | h'
      · exact .inr (.inl ⟨k - h0.n, by omega, by omega⟩)
      · exact .inr (.inr (by omega))
   have inj : ∀ i j (hi : i < ps.length) (hj : j < ps.length), pf (ps[i]).1 = pf (ps[j]).1 → i = j := fun i j hi hj e => by
    obtain ⟨a1, _, _, _, a5⟩ := blk' i hi
    obtain ⟨b1, _, _, _, b5⟩ := blk' j hj
    rw [e, b5] at a5
    injection a5 with a5 _ _
    have h2 := wn a5
    have h1 : (ps[i]).1 = (ps[j]).1 := by rw [a1, b1, e, h2]
    exact nS nd (by simpa using hi) (by simpa using hj) (by simpa using h1)
   refine ⟨⟨ρ, r1, fun k h1 h3 => ?_, fun k k' h1 h3 e => ?_, fun k hk => ?_, ?_⟩, fun k hk => ⟨?_, old k hk⟩, ?_, by rw [hcn]; omega⟩
   · rw [hcn] at h3
     rcases cases3 k h3 with h | ⟨i, hi, rfl⟩ | rfl
     · omega
     · obtain ⟨a1, a2, a3, a4, a5⟩ := blk' i hi
       refine ⟨by rw [r2 i hi]; omega, ah (ps[i]).2, ah (ps[i]).2, 1, 3, hget i hi, by rw [r2 i hi]; exact a5, rfl, fun j h1 h2 => ?_⟩
       simp only [ah, List.getElem_map]; exact .nu _ _
     · obtain ⟨f1, f2⟩ := iw (ps.map (·.2)) h0
       refine ⟨by rw [r3]; omega, _, _, 1, 46, hgetx, by rw [r3]; exact x3, by rw [f1]; simp, fun j g1 g2 => ?_⟩
       have hj : j < ps.length := by simpa using g2
       rw [f2 j g1 (by simpa using hj)]
       obtain ⟨a1, _⟩ := blk' j hj
       have := Ren.sl (ρ := ρ) (h0.n + j) 0 (ps[j]).2.length (ps[j]).2.length
       rw [r2 j hj, ← a1] at this
       simpa using this
   · rw [hcn] at h1 h3
     rcases cases3 k h1 with h | ⟨i, hi, rfl⟩ | rfl
     · rw [r1 k h] at e
       rcases cases3 k' h3 with h' | ⟨j, hj, rfl⟩ | rfl
       · rw [r1 k' h'] at e; exact e
       · rw [r2 j hj] at e; have := (blk' j hj).2.1; omega
       · rw [r3] at e; omega
     · rw [r2 i hi] at e
       rcases cases3 k' h3 with h' | ⟨j, hj, rfl⟩ | rfl
       · rw [r1 k' h'] at e; have := (blk' i hi).2.1; omega
       · rw [r2 j hj] at e; rw [inj i j hi hj e]
       · rw [r3] at e; exact absurd e (blk' i hi).2.2.2.1
     · rw [r3] at e
       rcases cases3 k' h3 with h' | ⟨j, hj, rfl⟩ | rfl
       · rw [r1 k' h'] at e; omega
       · rw [r2 j hj] at e; exact absurd e.symm (blk' j hj).2.2.2.1
       · rfl
   · rw [hcn] at hk; rw [r4 k hk]; omega
   · have e1 : (bw (ps.map (·.2)) h0).1 = .sl (h0.n + ps.length) 0 ps.length ps.length := by rw [hlr]; show CV.sl _ _ _ _ = _; rw [hn]; simp
     rw [e1]
     have := Ren.sl (ρ := ρ) (h0.n + ps.length) 0 ps.length ps.length
     rwa [r3] at this
   · rw [hlr]
     show (Hp.push _ _).get k = _
     rw [ag, if_neg (by omega)]; exact ir _ _ k hk
   · rw [hlr]
     exact (mv _ h0 bX).push _
section
variable {K : Ctx} {h0 : Hp}
theorem zy [DR] (H : Std K) (KO : lw K) (hE : dh K.P (K.env 0) 72 = true) (bX : HpOk h0) {mk : Nat} {es : List (CV × CV)} {ls : List (List Int)} (hm : h0.get mk = .mp es) (R : zw h0 es ls) (hnd : ls.Nodup) (hfew : es.length ≤ 1024) :
  FCall K.P 72 [.mp mk] h0 (bw (fP ls) h0).1 (bw (fP ls) h0).2 := by
 have hf : K.P.funcs[72]? = some Tryz.f72 := by rw [H.hP]; exact Tryz.func72
 have hns : 20 ≤ ai := by decide
 have hok : bp (K.plan 72) 20 (an Tryz.f72) = true := sO hE hf rfl
 have hmk : mk < h0.n := by
  rcases Nat.lt_or_ge mk h0.n with h | h
  · exact h
  · rw [bX mk h] at hm; cases hm
 have hel := R.1
 have hnn : h0.n ≤ (bw (fP ls) h0).2.n := by
  unfold bw
  split
  · exact Nat.le_refl _
  · show _ ≤ (aJ _ h0).2.n + 1
    rw [gF]; omega
 obtain ⟨c, hc⟩ := Option.isSome_iff_exists.1 (show Tryz.f72.body.isSome = true from rfl)
 have hbo : an Tryz.f72 = c := by simp [an, hc]
 refine uh hf hc hE (Nat.le_of_ble_eq_true rfl) hnn ?_
 rw [← hbo]
 show Goes K 20 (an Tryz.f72) _ _ _
 refine Goes.seq (Q1 := fun e s1 h1 => e = .normal ∧ s1 = T.set (entry 0 [.mp mk]) 2 .nils ∧ h1 = h0) (Goes.runs (f := 72) KO hns (cW [0] _ hok) (Kd H.hk)) (fun s1 h1 q => ?_) (fun e s1 h1 hne q => absurd q.1 hne)
 obtain ⟨_, rfl, rfl⟩ := q
 refine Goes.seq (Q1 := fun e s1 h2 => e = .normal ∧ s1 = T.set (T.set (entry 0 [.mp mk]) 2 .nils) 3 .nils ∧ h2 = h1) (Goes.runs (f := 72) KO hns (cW [1, 0] _ hok) (Ke H.hk)) (fun s1 h2 q => ?_) (fun e s1 h2 hne q => absurd q.1 hne)
 obtain ⟨_, rfl, rfl⟩ := q
 refine Goes.seq (Q1 := fun e s1 h1 => e = .normal ∧ ∃ bs clock js, bs.length = es.length ∧ bs.Nodup ∧ Way h2 mk es bs clock ls js s1 h1 ∧ ∀ b ∈ bs, b ∈ js.map fun j => bs.getD j 0) (Goes.seq (Q1 := fun e s1 h1 => e = .normal ∧ ∃ bs clock, bs.length = es.length ∧ bs.Nodup ∧ (∀ b ∈ bs, b < clock) ∧ Way h2 mk es bs clock ls [] s1 h1) (Goes.region ?_) (fun s1 h1 q => ?_) (fun e s1 h1 hne q => absurd q.1 hne)) (fun s1 h1 q => ?_) (fun e s1 h1 hne q => absurd q.1 hne)
 · refine GoesL.take (v := .mp mk) hns rfl (List.Mem.head _) rfl (Q1.x (K := K) (aY (x := .tmp 0) rfl rfl)) ?_
   refine GoesL.range (m := mk) (es := es) hns rfl (List.Mem.tail _ (List.Mem.head _)) rfl rfl (by rw [H.hP]; exact Mc) rfl hm hmk fun bs clock b1 b2 b3 => ?_
   refine GoesL.nil ⟨rfl, bs, clock, b1, b2, b3, ⟨List.Pairwise.nil, by simp, (bX.set hmk _).push _, fun k hk hkm => ?_, by show h2.n < h2.n + 1; omega, ?_, ?_, rfl, rfl, .nils, [], rfl, .nils, ⟨by simp, by simp⟩, rfl⟩⟩
   · rw [ag, if_neg (by show k ≠ h2.n; omega), Hp.get_set, if_neg hkm]
   · rw [ag, if_neg (by show mk ≠ h2.n; omega), Hp.get_set, if_pos rfl]
   · rw [ag, if_pos (show h2.n = (h2.set mk _).n from rfl)]; rfl
 · obtain ⟨_, bs, clock, b1, b2, b3, W⟩ := q
   refine Goes.block (Cx H KO hok bX hmk hm b1 b2 b3 R (by omega) W) fun e s h q => ?_
   obtain ⟨rfl, js, W', hall⟩ := q
   exact ⟨rfl, bs, clock, js, b1, b2, W', hall⟩
 · obtain ⟨_, bs, clock, js, b1, b2, W, hall⟩ := q
   obtain ⟨x, ds, g3, O, F, hds⟩ := W.ex
   refine vc (by have := W.n; omega) W.mp ?_
   generalize hh : h1.set mk (.mp es) = h3
   have hn3 : h3.n = h1.n := by rw [← hh]; rfl
   have ct : HpOk h3 := by rw [← hh]; exact W.ok.set (by have := W.n; omega) _
   have O3 : Out (h2.n + 1) h3 46 x (ds.map (·.1)) := by rw [← hh]; exact O.set (by omega)
   have F3 : Fresh (h2.n + 1) h3 x ds := by rw [← hh]; exact F.set (by omega)
   have old3 : ∀ k, k < h2.n → h3.get k = h2.get k := fun k hk => by
    rw [← hh, Hp.get_set]
    split
    · rename_i e; rw [e, hm]
    · rename_i e; exact W.old k hk e
   have hcov : ∀ j, j < es.length → j ∈ js := fun j hj => by
    obtain ⟨j', hj', e⟩ := List.mem_map.1 (hall _ (List.getElem_mem (show j < bs.length by omega)))
    have hl := W.lt j' hj'
    simp [List.getD_eq_getElem?_getD, List.getElem?_eq_getElem (show j' < bs.length by omega)] at e
    rw [nS b2 (by omega) (by omega) e] at hj'; exact hj'
   have hmem : ∀ a, a ∈ ds.map (·.2) ↔ a ∈ ls := fun a => by
    rw [hds, List.mem_map]
    constructor
    · rintro ⟨j, hj, rfl⟩
      have hl := W.lt j hj
      simp [List.getD_eq_getElem?_getD, List.getElem?_eq_getElem (show j < ls.length by omega)]
    · intro ha
      obtain ⟨j, hj, rfl⟩ := List.getElem_of_mem ha
      exact ⟨j, hcov j (by omega), by simp [List.getD_eq_getElem?_getD, List.getElem?_eq_getElem hj]⟩
   have hdn : (ds.map (·.2)).Nodup := by
    rw [hds]
    refine (List.pairwise_map).2 (List.Pairwise.imp_of_mem (fun {i j} hi hj hne e => hne ?_) W.nd)
    have h1 := W.lt i hi
    have h2 := W.lt j hj
    simp [List.getD_eq_getElem?_getD, List.getElem?_eq_getElem (show i < ls.length by omega), List.getElem?_eq_getElem (show j < ls.length by omega)] at e
    exact nS hnd (by omega) (by omega) e
   have hdl : ds.length ≤ 1024 := by
    have h1 := congrArg List.length hds
    have h2 := nR W.nd W.lt
    simp at h1; omega
   have hok' : ∀ p ∈ ds, p.2 ≠ [] ∧ p.2.length < 1099511627776 := fun p hp => by
    have := (hmem p.2).1 (List.mem_map.2 ⟨p, hp, rfl⟩)
    obtain ⟨j, hj, e⟩ := List.getElem_of_mem this
    have := R.2 j (by omega) hj
    rw [e] at this
    exact this.2
   have A : KX (h2.n + 1) (wipe h3 x) h3 x ds.toArray := ⟨by simpa using O3, fun p hp => by
    have hp : p ∈ ds := by simpa using hp
    obtain ⟨k, e, k1, k2, k3⟩ := F3.blk p hp
    obtain ⟨q1, q2⟩ := hok' p hp
    refine ⟨?_, by omega⟩
    rw [e]
    have := Row.some (h := wipe h3 x) (k := k) (o := 0) (c := (ah p.2).length) (cs := ah p.2) (ep q1) (by rw [k3]; simp only [bk, Nat.zero_add, Nat.ble_eq_true_of_le (Nat.le_refl _), sub, List.drop_zero, List.take_length]) (Nat.le_refl _) (by rw [k3]; rfl)
    rwa [aw] at this, Same.refl _ _⟩
   obtain ⟨d', h4, F4, S4, ez, A4, hp, hs⟩ := Cu H KO (ct.wipe x) ct (d := ds.toArray) (fun p hp => (hok' p (by simpa using hp)).1) (by simp; omega) A
   have c4 : Comes (K.told 116 [x, .fn 74 []] h3 (.tup []) h4) 116 [x, .fn 74 []] h3 (.tup []) h4 := Comes.told (H.memo 116 (by decide)) (if_pos ⟨rfl, rfl, rfl⟩)
   obtain ⟨hperm, hsrt⟩ := zu hp hs (by simpa using hdn)
   have hperm : d'.toList.Perm ds := by simpa using hperm
   have hasc : fP ls = d'.toList.map (·.2) := sN (mw ls) hsrt fun a => by
    rw [kc, ← hmem a]
    exact ((hperm.map _).mem_iff).symm
   refine (Goes.runs (K := K.told 116 [x, .fn 74 []] h3 (.tup []) h4) (f := 72) (e := .ret) (s1 := T.set (T.set (T.set (T.set s1 17 x) 18 (.tup [])) 19 x) 2 x) (h1 := h4) (Ip KO F4) hns (cW [1, 1, 1] _ hok) (Runs.seq (Kg H.hk g3 (H.prim _ _) c4) (Runs.seq (Kh H.hk g3) Runs.ret))).mono ?_
   rintro e s5 h5 ⟨rfl, rfl, rfl⟩
   refine ⟨.inr rfl, W.sl, [x], rfl, ?_⟩
   show Relay h2 _ _ x h5
   rw [hasc]
   refine zx (N := h2.n + 1) (by omega) bX A4.out (fun p hp => ?_) ((hperm.map _).nodup_iff.2 F3.nd) (fun p hp => (hok' p (hperm.mem_iff.1 hp)).1) (fun k hk => ?_)
   · obtain ⟨k, e, k1, k2, k3⟩ := F3.blk p (hperm.mem_iff.1 hp)
     have hkn : k < (wipe h3 x).n := by rw [di]; exact k2
     have hn4 : h3.n ≤ h5.n := S4.n
     exact ⟨k, e, k1, by omega, by rw [A4.same.get k hkn]; exact k3⟩
   · rw [S4.get k (by omega)]; exact old3 k hk
end
end Go.CP
namespace Go.CP
open Go.Proofs
def K2 : CV → Option Int
 | .nu .i64 n => some n
 | _ => none
def my : List CV → Option (List Int)
 | [] => some []
 | c :: l => match K2 c with
  | some n => match my l with
   | some a => some (n :: a)
   | none => none
  | none => none
def lF (h : Hp) : CV → Option (List Int)
 | .sl k o n c => match Nat.blt 0 n && Nat.ble n c && qR 1 (h.get k) && Nat.blt n 1000000 with
  | true => match bk o n (h.get k) with
   | some cs => my cs
   | none => none
  | false => none
 | _ => none
def gr (h : Hp) : List (CV × CV) → Option (List (List Int))
 | [] => some []
 | e :: es => match lF h e.2 with
  | some a => match gr h es with
   | some l => some (a :: l)
   | none => none
  | none => none
def lG : List (List Int) → Bool
 | [] => true
 | a :: l => !(l.any (fv a)) && lG l
def sP (h : Hp) : HB → Option (CV × Hp)
 | .mp es => match Nat.ble es.length 1024 with
  | true => match gr h es with
   | some ls => match lG ls with
    | true => some (bw (fP ls) h)
    | false => none
   | none => none
  | false => none
 | _ => none
def oJ (h : Hp) : List CV → Option (CV × Hp)
 | [.mp k] => sP h (h.get k)
 | _ => none
def bM : FuncId → List CV → Hp → Option (CV × Hp) := fun f args h => match Nat.beq f 72 with
 | true => oJ h args
 | false => none
theorem qK : ∀ {cs : List CV} {a : List Int}, my cs = some a → cs = ah a
 | [], a, h => by simp only [my, Option.some.injEq] at h; subst h; rfl
 | c :: l, a, h => by
  simp only [my] at h
  split at h
  · rename_i n hn
    split at h
    · rename_i b hb
      cases h
      rw [qK hb]
      cases c <;> simp [K2] at hn
      rename_i k m
      cases k <;> simp at hn
      subst hn; rfl
    · cases h
  · cases h
section
variable [LG] [HK]
theorem wo {h : Hp} {v : CV} {a : List Int} (hr : lF h v = some a) : Row h v (ah a) ∧ a ≠ [] ∧ a.length < 1099511627776 := by
 unfold lF at hr
 split at hr
 · rename_i k o n c
   split at hr
   · rename_i hc
     simp only [Bool.and_eq_true] at hc
     obtain ⟨⟨⟨h1, h2⟩, h3⟩, h4⟩ := hc
     split at hr
     · rename_i cs hs
       have e := qK hr
       subst e
       have hl : (ah a).length = n := by
        unfold bk at hs
        have key : ∀ ds : List CV, (match Nat.ble (o + n) ds.length with
         | true => some (sub ds o n)
         | false => none) = some (ah a) → (ah a).length = n := by
         intro ds hd
         split at hd
         · rename_i hle
           have := bv hle
           injection hd with hd
           rw [← hd, sub, List.length_take, List.length_drop]; omega
         · cases hd
        split at hs
        · exact key _ hs
        · exact key _ hs
        · exact key _ hs
        · exact key _ hs
        · cases hs
       have h1 := cO h1
       have h2 := bv h2
       have h4 := cO h4
       have hne : ah a ≠ [] := by intro e; rw [e] at hl; simp at hl; omega
       subst hl
       refine ⟨.some hne hs h2 h3, fun e => hne (by rw [e]; rfl), ?_⟩
       rw [aw] at h4; omega
     · cases hr
   · cases hr
 · cases hr
theorem mN {h : Hp} : ∀ {es : List (CV × CV)} {ls : List (List Int)}, gr h es = some ls → zw h es ls
 | [], ls, hr => by
  simp only [gr, Option.some.injEq] at hr; subst hr
  exact ⟨rfl, fun i h1 => by simp at h1⟩
 | e :: es, ls, hr => by
  simp only [gr] at hr
  split at hr
  · rename_i a ha
    split at hr
    · rename_i l hl
      cases hr
      obtain ⟨h1, h2⟩ := mN hl
      refine ⟨by simp [h1], fun i g1 g2 => ?_⟩
      cases i with
      | zero => exact wo ha
      | succ i => exact h2 i (by simpa using g1) (by simpa using g2)
    · cases hr
  · cases hr
theorem pg : ∀ {ls : List (List Int)}, lG ls = true → ls.Nodup
 | [], _ => List.Pairwise.nil
 | a :: l, h => by
  simp only [lG, Bool.and_eq_true, Bool.not_eq_true'] at h
  refine List.nodup_cons.2 ⟨fun ha => ?_, pg h.2⟩
  have : l.any (fv a) = true := List.any_eq_true.2 ⟨a, ha, (jA a a).2 rfl⟩
  rw [h.1] at this; cases this
theorem Cy {P : Program} {f : FuncId} {args : List CV} {h h' : Hp} {r : CV} (hg : qY P f) (hn : h.n ≤ h'.n) (hc : HpOk h → FCall P f args h r h') : FCall P f args h r h' := ⟨hg, hn, fun N0 ι w vals hN S hv => (hc S.fresh).2.2 N0 ι w vals hN S hv⟩
theorem Cz (l : List (List Int)) (h : Hp) : h.n ≤ (bw l h).2.n := by
 unfold bw
 split
 · exact Nat.le_refl _
 · show _ ≤ (aJ _ h).2.n + 1
   rw [gF]; omega
theorem CA [DR] {K : Ctx} (H : Std K) (KO : lw K) (hE : dh K.P (K.env 0) 72 = true) : ∀ f args h r h', bM f args h = some (r, h') → FCall K.P f args h r h' := by
 intro f args h r h' hs
 unfold bM at hs
 split at hs
 · rename_i hf
   have hf := aW hf
   subst hf
   unfold oJ at hs
   split at hs
   · rename_i k
     unfold sP at hs
     split at hs
     · rename_i es hb
       split at hs
       · rename_i hle
         split at hs
         · rename_i ls hr
           split at hs
           · rename_i hn
             injection hs with hs
             have e1 : r = (bw (fP ls) h).1 := by rw [hs]
             have e2 : h' = (bw (fP ls) h).2 := by rw [hs]
             subst e1; subst e2
             have hg : qY K.P 72 := by
              unfold dh at hE
              rw [show K.P.funcs[72]? = some Tryz.f72 by rw [H.hP]; exact Tryz.func72] at hE
              refine ⟨Tryz.f72, by rw [H.hP]; exact Tryz.func72, rfl, ?_⟩
              obtain ⟨c, hc⟩ := Option.isSome_iff_exists.1 (show Tryz.f72.body.isSome = true from rfl)
              dsimp only at hE
              rw [hc] at hE
              simp only [Bool.and_eq_true, Bool.not_eq_true'] at hE
              exact hE.1.1.1
             exact Cy hg (Cz _ _) fun ok => zy H KO hE ok hb (mN hr) (pg hn) (bv hle)
           · cases hs
         · cases hs
       · cases hs
     · cases hs
   · cases hs
 · cases hs
end
end Go.CP
