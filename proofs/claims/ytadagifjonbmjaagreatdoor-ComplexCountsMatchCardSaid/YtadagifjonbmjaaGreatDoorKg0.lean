import Derived.Shelf.Sort.Plain
import Derived.Test.YtadagifjonbmjaaGreatDoorChecked
import Derived.Test.YtadagifjonbmjaaGreatDoorKv2
import Derived.Test.YtadagifjonbmjaaGreatDoorKv1
import Derived.Test.YtadagifjonbmjaaGreatDoorKv0
import Derived.Test.YtadagifjonbmjaaGreatDoorKw1
set_option linter.all false
set_option maxRecDepth 100000
namespace Go.Proofs
open Go.Shelf
def Tryz.sortI_ren : Go.Shelf.Ren := ⟨fun | 189 => 90 | 125 => 127 | 257 => 126 | 128 => 155 | 129 => 156 | 294 => 146 | 295 => 147 | 296 => 148 | 297 => 149 | 298 => 150 | 299 => 151 | 216 => 152 | 300 => 153 | 301 => 154 | 328 => 175 | 329 => 176 | 330 => 177 | 331 => 178 | 332 => 179 | 215 => 144 | 343 => 192 | n => n, fun | 28 => 45 | 3 => 3 | 46 => 126 | 0 => 0 | 51 => 154 | 53 => 157 | 4 => 4 | 183 => 171 | 182 => 170 | 131 => 176 | 5 => 5 | 9 => 9 | 218 => 195 | 222 => 199 | 228 => 206 | 229 => 207 | n => n, fun | n => n⟩
theorem Tryz.sortI : Go.Proofs.Lays.n189 Tryz.prog Tryz.sortI_ren := {
 mixed := by kernel_rfl
 f125 := Tryz.func127.trans (congrArg some (by kernel_rfl))
 f128 := Tryz.func155.trans (congrArg some (by kernel_rfl))
 f129 := Tryz.func156.trans (congrArg some (by kernel_rfl))
 f189 := Tryz.func90.trans (congrArg some (by kernel_rfl))
 f215 := Tryz.func144.trans (congrArg some (by kernel_rfl))
 f216 := Tryz.func152.trans (congrArg some (by kernel_rfl))
 f257 := Tryz.func126.trans (congrArg some (by kernel_rfl))
 f294 := Tryz.func146.trans (congrArg some (by kernel_rfl))
 f295 := Tryz.func147.trans (congrArg some (by kernel_rfl))
 f296 := Tryz.func148.trans (congrArg some (by kernel_rfl))
 f297 := Tryz.func149.trans (congrArg some (by kernel_rfl))
 f298 := Tryz.func150.trans (congrArg some (by kernel_rfl))
 f299 := Tryz.func151.trans (congrArg some (by kernel_rfl))
 f300 := Tryz.func153.trans (congrArg some (by kernel_rfl))
 f301 := Tryz.func154.trans (congrArg some (by kernel_rfl))
 f328 := Tryz.func175.trans (congrArg some (by kernel_rfl))
 f329 := Tryz.func176.trans (congrArg some (by kernel_rfl))
 f330 := Tryz.func177.trans (congrArg some (by kernel_rfl))
 f331 := Tryz.func178.trans (congrArg some (by kernel_rfl))
 f332 := Tryz.func179.trans (congrArg some (by kernel_rfl))
 f343 := Tryz.func192.trans (congrArg some (by kernel_rfl))
 t0 := Tryz.underlying0
 a0 := Tryz.isAgg0
 z0 := Tryz.sizeOf0
 v0 := Tryz.zeroValue0
 t3 := Tryz.underlying3
 a3 := Tryz.isAgg3
 z3 := Tryz.sizeOf3
 v3 := Tryz.zeroValue3
 t4 := Tryz.underlying4
 a4 := Tryz.isAgg4
 z4 := Tryz.sizeOf4
 v4 := Tryz.zeroValue4
 t5 := Tryz.underlying5
 a5 := Tryz.isAgg5
 z5 := Tryz.sizeOf5
 v5 := Tryz.zeroValue5
 t9 := Tryz.underlying9
 a9 := Tryz.isAgg9
 z9 := Tryz.sizeOf9
 v9 := Tryz.zeroValue9
 t28 := Tryz.underlying45
 a28 := Tryz.isAgg45
 z28 := Tryz.sizeOf45
 v28 := Tryz.zeroValue45
 t46 := Tryz.underlying126
 a46 := Tryz.isAgg126
 z46 := Tryz.sizeOf126
 v46 := Tryz.zeroValue126
 t51 := Tryz.underlying154
 a51 := Tryz.isAgg154
 z51 := Tryz.sizeOf154
 v51 := Tryz.zeroValue154
 t53 := Tryz.underlying157
 a53 := Tryz.isAgg157
 z53 := Tryz.sizeOf157
 v53 := Tryz.zeroValue157
 t131 := Tryz.underlying176
 a131 := Tryz.isAgg176
 z131 := Tryz.sizeOf176
 v131 := Tryz.zeroValue176
 t182 := Tryz.underlying170
 a182 := Tryz.isAgg170
 z182 := Tryz.sizeOf170
 v182 := Tryz.zeroValue170
 t183 := Tryz.underlying171
 a183 := Tryz.isAgg171
 z183 := Tryz.sizeOf171
 v183 := Tryz.zeroValue171
 t218 := Tryz.underlying195
 a218 := Tryz.isAgg195
 z218 := Tryz.sizeOf195
 v218 := Tryz.zeroValue195
 t222 := Tryz.underlying199
 a222 := Tryz.isAgg199
 z222 := Tryz.sizeOf199
 v222 := Tryz.zeroValue199
 t228 := Tryz.underlying206
 a228 := Tryz.isAgg206
 z228 := Tryz.sizeOf206
 v228 := Tryz.zeroValue206
 t229 := Tryz.underlying207
 a229 := Tryz.isAgg207
 z229 := Tryz.sizeOf207
 v229 := Tryz.zeroValue207 }
end Go.Proofs
namespace Go.CP
open Go.Proofs
variable [LG] [HK]
theorem zW (c : List Int) : (c.mergeSort fun x y => decide (x ≤ y)) = sortI c := by
 have h1 : (c.mergeSort fun x y => decide (x ≤ y)).Pairwise (· ≤ ·) := by
  have := List.pairwise_mergeSort (le := fun x y : Int => decide (x ≤ y)) (fun a b c h1 h2 => by simp at *; omega) (fun a b => by simp; omega) c
  exact this.imp fun h => by simpa using h
 exact List.Perm.eq_of_pairwise (fun a b _ _ h1 h2 => Int.le_antisymm h1 h2) h1 (yO c) ((List.mergeSort_perm c _).trans (gU c).symm)
theorem P2 : qy Tryz.prog 90 := ⟨Tryz.f90, Tryz.func90, rfl, by kernel_rfl⟩
theorem Ir {ι : Im} {x : CV} {vals : List Value} (hv : VRL ι [x] vals) : ∃ v, vals = [v] ∧ VR ι x v := by
 obtain ⟨hl, h⟩ := hv
 match vals, hl with
 | [v], _ => exact ⟨v, rfl, by simpa using h 0 (by simp)⟩
section
variable {K : Ctx} {h : Hp}
theorem Gl (H : Std K) {k : Nat} {c : List Int} (hne : c ≠ []) (hbig : c.length < 4611686018427387904) (hk2 : k < h.n) (hk3 : h.get k = .cells (ak c) 1 3) : FCall K.P 90 [.sl k 0 c.length c.length] h (.tup []) (h.set k (.cells (ak (sortI c)) 1 3)) := by
 have hgo : qy K.P 90 := by rw [H.hP]; exact P2
 have hpos : 0 < c.length := List.length_pos_iff.2 hne
 refine ⟨hgo, Nat.le_refl _, fun N0 ι w vals hN0 S hv => ?_⟩
 obtain ⟨v, rfl, hv1⟩ := Ir hv
 cases hv1 with
 | @sl _ _ _ _ c' i hi hcc =>
 have hwr : (h.get k).wr = true := by rw [hk3]; rfl
 have hB := S.blk k i hi
 rw [hk3] at hB
 obtain ⟨arr, e, b1, b2, b3, b4, b5, b6, b7, b8, b9⟩ := hB
 subst b8
 rw [ar] at b3 b4 b7
 have hval : ∀ j, j < c.length → arr[i.base + j]? = some (.int .i64 (c.getD j 0)) := fun j hj => by
  have := b7.2 j (by rw [ar]; exact hj)
  rw [List.getD_eq_getElem?_getD, List.getElem?_take_of_lt hj, List.getElem?_drop, Array.getElem?_toList, Array.getElem?_eq_getElem (by omega)] at this
  have hg : (ak c)[j]'(by rw [ar]; exact hj) = .nu .i64 c[j] := by simp [ak]
  rw [hg] at this
  rw [Array.getElem?_eq_getElem (by omega), List.getD_eq_getElem?_getD, List.getElem?_eq_getElem hj]
  have h2 : ∀ {u : Value} {z : Int}, VR ι (.nu .i64 z) u → u = .int .i64 z := fun hu => by cases hu; rfl
  exact congrArg _ (h2 this)
 have hH : Sort.Holds (Value.int .i64) w i.b (i.base + 0) c.toArray := fun j hj => by
  have hj' : j < c.length := by simpa using hj
  refine ⟨?_, by simp [World.frozen?, b1]⟩
  have e1 : c.toArray[j]! = c.getD j 0 := by
   rw [getElem!_pos c.toArray j hj, List.getD_eq_getElem?_getD, List.getElem?_eq_getElem hj']; simp
  rw [e1]
  have := hval j hj'
  simp only [World.cell?, b1, Nat.add_zero]
  simpa using this
 have hcon := Any.slices_Sort_int (P := Tryz.prog) (ρ := Tryz.sortI_ren) Tryz.sortI i.b (i.base + 0) c' c w hH (S.lt k i hi).2 hbig
 rw [zW] at hcon
 rw [H.hP]
 refine Calls.mono hcon ?_
 rintro e w' ⟨rfl, q, os, rfl⟩
 have hNi : N0 ≤ i.b := S.own k i hi hwr
 have hil := (S.lt k i hi).2
 have hsl : (sortI c).length = c.length := dG c
 have hheap : ∀ j, (Sort.putRow (Value.int .i64) (Sort.ahead w q) i.b (i.base + 0) (sortI c).toArray).heap[j]? = if i.b = j then (w.heap[j]?).map (Sort.onCells (Sort.putCells (Value.int .i64) (i.base + 0) (sortI c).toArray)) else w.heap[j]? := fun j => by
  simp only [Sort.putRow, Sort.mapBlock, Sort.ahead]
  rw [Array.getElem?_modify]
 have hsz : (Sort.putRow (Value.int .i64) (Sort.ahead w q) i.b (i.base + 0) (sortI c).toArray).heap.size = w.heap.size := by simp [Sort.putRow, Sort.mapBlock, Sort.ahead]
 have S1 : Sim N0 ι (h.set k (.cells (ak (sortI c)) 1 3)) (Sort.putRow (Value.int .i64) (Sort.ahead w q) i.b (i.base + 0) (sortI c).toArray) := by
  refine S.wrote hi hwr (.inl rfl) hsz (fun j hj => by rw [hheap, if_neg (Ne.symm hj)]) ?_
  refine ⟨Sort.putCells (Value.int .i64) (i.base + 0) (sortI c).toArray arr, 3, by rw [hheap, if_pos rfl, b1]; rfl, by simpa [Sort.putCells] using b2, by rw [ar, hsl]; exact b3, by rw [ar, hsl]; exact b4, b5, b6, ?_, rfl, fun h => by cases h⟩
  rw [ar, hsl]
  refine ⟨by rw [ar, hsl]; simp [Sort.putCells]; omega, fun j hj => ?_⟩
  have hj' : j < c.length := by rw [ar, hsl] at hj; exact hj
  rw [List.getD_eq_getElem?_getD, List.getElem?_take_of_lt hj', List.getElem?_drop, Array.getElem?_toList]
  have hb : i.base + j < arr.size := by omega
  have hc : (Sort.putCells (Value.int .i64) (i.base + 0) (sortI c).toArray arr)[i.base + j]? = some (.int .i64 ((sortI c).toArray[j]!)) := by
   unfold Sort.putCells
   rw [Array.getElem?_mapIdx, Array.getElem?_eq_getElem hb]
   simp only [Option.map_some, Nat.add_zero]
   rw [if_pos ⟨Nat.le_add_right _ _, by simp [hsl]; omega⟩, Nat.add_sub_cancel_left]
  rw [hc]
  have hjs : j < (sortI c).length := by omega
  have h3 : (ak (sortI c))[j] = .nu .i64 ((sortI c).toArray[j]!) := by
   rw [getElem!_pos (sortI c).toArray j (by simpa using hjs)]
   simp [ak]
  rw [h3]
  exact .nu _ _
 have E1 : Ext (Sort.putRow (Value.int .i64) (Sort.ahead w q) i.b (i.base + 0) (sortI c).toArray).heap.size (Sort.putRow (Value.int .i64) (Sort.ahead w q) i.b (i.base + 0) (sortI c).toArray) (Sort.grow (Sort.putRow (Value.int .i64) (Sort.ahead w q) i.b (i.base + 0) (sortI c).toArray) os) :=
  ⟨rfl, rfl, rfl, by simp [Sort.grow], fun b hb => Sort.heap_grow_old _ os hb, Nat.le_refl _⟩
 refine ⟨_, ι, rfl, Im.le_refl ι, fun _ _ h => h, S1.world E1, .tup rfl (fun j hj => absurd hj (Nat.not_lt_zero _)), ⟨rfl, rfl, rfl, ?_, fun b hb => ?_, Nat.le_add_right _ _⟩⟩
 · show w.heap.size ≤ ((Sort.putRow (Value.int .i64) (Sort.ahead w q) i.b (i.base + 0) (sortI c).toArray).heap ++ os).size
   rw [Array.size_append, hsz]; omega
 · have hbl : b < (Sort.putRow (Value.int .i64) (Sort.ahead w q) i.b (i.base + 0) (sortI c).toArray).heap.size := by rw [hsz]; omega
   rw [E1.block b hbl, hheap, if_neg (by omega)]
end
def mH (h : Hp) (args : List CV) : Option (CV × Hp) := match args with
 | [.sl k o n c] => match h.get k with
  | .cells cs m el => match gW cs with
   | some a => match Nat.beq o 0 && Nat.beq n a.length && Nat.beq c a.length && Nat.blt 0 n && Nat.beq m 1 && Nat.beq el 3 && Nat.blt k h.n && Nat.blt n 4611686018427387904 with
    | true => some (.tup [], h.set k (.cells (ak (sortI a)) 1 3))
    | false => none
   | none => none
  | _ => none
 | _ => none
theorem tf : ∀ {cs : List CV} {a : List Int}, gW cs = some a → cs = ak a
 | [], a, h => by
  have : a = [] := by simpa [gW] using h.symm
  subst this; rfl
 | c :: cs, a, h => by
  simp only [gW] at h
  split at h
  · rename_i n hn
    split at h
    · rename_i b hb
      injection h with h
      subst h
      rw [tf hb]
      have : c = .nu .i64 n := by
       unfold I5 at hn
       split at hn
       · injection hn with hn; subst hn; rfl
       · cases hn
      rw [this]; rfl
    · cases h
  · cases h
theorem Gm {K : Ctx} (H : Std K) {args : List CV} {h h' : Hp} {r : CV} (hs : mH h args = some (r, h')) : FCall K.P 90 args h r h' := by
 unfold mH at hs
 split at hs
 · rename_i k o n c
   split at hs
   · rename_i cs m el hg
     split at hs
     · rename_i a ha
       split at hs
       · rename_i hb
         simp only [Bool.and_eq_true, Nat.beq_eq, Nat.blt_eq] at hb
         obtain ⟨⟨⟨⟨⟨⟨⟨h1, h2⟩, h3⟩, h4⟩, h5⟩, h6⟩, h7⟩, h8⟩ := hb
         subst h1 h3 h5 h6
         subst h2
         injection hs with hs
         injection hs with e1 e2
         subst e1; subst e2
         rw [tf ha] at hg
         exact Gl H (List.length_pos_iff.1 h4) h8 h7 hg
       · cases hs
     · cases hs
   · cases hs
 · cases hs
theorem C5 {h : Hp} {N : Nat} {y : CV} {c : List Int} (hne : c ≠ []) (hbig : c.length < 4611686018427387904) (o : Out N h 3 y (ak c)) : ∃ k, y = .sl k 0 c.length c.length ∧ N ≤ k ∧ k < h.n ∧ mH h [y] = some (.tup [], h.set k (.cells (ak (sortI c)) 1 3)) := by
 obtain ⟨k, rfl, h1, h2, h3⟩ := zb o (fp hne)
 rw [ar]
 refine ⟨k, rfl, h1, h2, ?_⟩
 have hp : 0 < c.length := List.length_pos_iff.2 hne
 have e : (Nat.beq 0 0 && Nat.beq c.length c.length && Nat.beq c.length c.length && Nat.blt 0 c.length && Nat.beq 1 1 && Nat.beq 3 3 && Nat.blt k h.n && Nat.blt c.length 4611686018427387904) = true := by
  simp only [Nat.beq_refl, Bool.true_and, Bool.and_eq_true, Nat.blt_eq, hp, h2, hbig, and_self]
 simp only [mH, h3, zl, e]
def pk (K : Ctx) : Prop := ∀ args h, K.spec 90 args h = mH h args
theorem zX {K : Ctx} (H : Std K) (T : pk K) {c : List Int} (hne : c ≠ []) (hbig : c.length < 4611686018427387904) : u9 K c := by
 intro g N y ok hN o
 obtain ⟨k, rfl, h1, h2, h3⟩ := C5 hne hbig o
 refine ⟨_, Comes.told (H.memo 90 (by decide)) (by rw [T]; exact h3), Same.set h1 _, ok.set h2 _, ?_⟩
 have := Out.some (N := N) (h := g.set k (.cells (ak (sortI c)) 1 3)) (el := 3) (k := k) (cs := ak (sortI c)) h1 h2 (fp (fun e => by have := dG c; rw [e] at this; exact hne (List.eq_nil_of_length_eq_zero (by simpa using this.symm)))) (by rw [Hp.get_set, if_pos rfl])
 rw [ar, dG] at this
 exact this
def dc (f : Nat → Nat) (s : List Int) : Nat → Nat := match s with
 | [a, b] => fun w => if w = a.toNat ∨ w = b.toNat then min (f a.toNat) (f b.toNat) else f w
 | _ => f
def kJ (l : List (List Int)) (f : Nat → Nat) : Nat → Nat := l.foldl dc f
def bW (l : List (List Int)) : Nat → Nat → Nat
 | 0 => fun w => w
 | k + 1 => kJ l (bW l k)
theorem qP (f : Nat → Nat) (s : List Int) (w : Nat) : dc f s w ≤ f w := by
 unfold dc
 split
 · split
   · rename_i h
     rcases h with rfl | rfl
     · exact Nat.min_le_left _ _
     · exact Nat.min_le_right _ _
   · exact Nat.le_refl _
 · exact Nat.le_refl _
theorem iS : ∀ (l : List (List Int)) (f : Nat → Nat) (w : Nat), kJ l f w ≤ f w
 | [], _, _ => Nat.le_refl _
 | s :: l, f, w => Nat.le_trans (iS l (dc f s) w) (qP f s w)
theorem zm (l : List (List Int)) : ∀ k w, bW l k w ≤ w
 | 0, w => Nat.le_refl _
 | k + 1, w => Nat.le_trans (iS l _ w) (zm l k w)
def wa (l : List (List Int)) : Prop := ∀ a b, [a, b] ∈ l → (0 ≤ a ∧ a < 64) ∧ 0 ≤ b ∧ b < 64
theorem C6 {l : List (List Int)} (hr : wa l) {f : Nat → Nat} (h : ∀ w : Nat, Conn l w (f w)) {s : List Int} (hs : s ∈ l) : ∀ w : Nat, Conn l w (dc f s w) := by
 intro w
 unfold dc
 split
 · rename_i a b
   obtain ⟨ha, hb⟩ := hr a b hs
   split
   · rename_i hw
     have e1 : ((a.toNat : Nat) : Int) = a := Int.toNat_of_nonneg ha.1
     have e2 : ((b.toNat : Nat) : Int) = b := Int.toNat_of_nonneg hb.1
     have c1 := h a.toNat
     have c2 := h b.toNat
     rw [e1] at c1
     rw [e2] at c2
     have key : ∀ v : Int, v = a ∨ v = b → Conn l v (min (f a.toNat) (f b.toNat) : Nat) := by
      intro v hv
      rcases Nat.le_total (f a.toNat) (f b.toNat) with hle | hle
      · rw [Nat.min_eq_left hle]
        rcases hv with rfl | rfl
        · exact c1
        · exact .trans (.symm (.edge hs)) c1
      · rw [Nat.min_eq_right hle]
        rcases hv with rfl | rfl
        · exact .trans (.edge hs) c2
        · exact c2
     refine key w ?_
     rcases hw with rfl | rfl
     · exact .inl e1
     · exact .inr e2
   · exact h w
 · exact h w
theorem qm {l : List (List Int)} (hr : wa l) : ∀ (m : List (List Int)) (f : Nat → Nat), (∀ s ∈ m, s ∈ l) → (∀ w : Nat, Conn l w (f w)) → ∀ w : Nat, Conn l w (kJ m f w)
 | [], f, _, h => h
 | s :: m, f, hm, h => qm hr m (dc f s) (fun t ht => hm t (List.mem_cons_of_mem _ ht)) (C6 hr h (hm s List.mem_cons_self))
theorem fX {l : List (List Int)} (hr : wa l) : ∀ k (w : Nat), Conn l w (bW l k w)
 | 0, w => .refl _
 | k + 1, w => qm hr l _ (fun _ h => h) (fX hr k) w
theorem qn : ∀ (l : List (List Int)) (f : Nat → Nat) {a b : Int}, [a, b] ∈ l → kJ l f a.toNat ≤ min (f a.toNat) (f b.toNat) ∧ kJ l f b.toNat ≤ min (f a.toNat) (f b.toNat)
 | s :: l, f, a, b, h => by
  rcases List.mem_cons.1 h with e | h
  · subst e
    have h1 := iS l (dc f [a, b]) a.toNat
    have h2 := iS l (dc f [a, b]) b.toNat
    have e1 : dc f [a, b] a.toNat = min (f a.toNat) (f b.toNat) := by simp [dc]
    have e2 : dc f [a, b] b.toNat = min (f a.toNat) (f b.toNat) := by simp [dc]
    rw [e1] at h1; rw [e2] at h2
    exact ⟨h1, h2⟩
  · obtain ⟨h1, h2⟩ := qn l (dc f s) h
    have l1 := qP f s a.toNat
    have l2 := qP f s b.toNat
    exact ⟨Nat.le_trans h1 (by omega), Nat.le_trans h2 (by omega)⟩
theorem qp {p q : Nat → Bool} : ∀ {l : List Nat}, (∀ x ∈ l, p x = true → q x = true) → (∃ x ∈ l, q x = true ∧ p x = false) → l.countP p + 1 ≤ l.countP q
 | [], _, ⟨_, h, _⟩ => by cases h
 | a :: l, h, ⟨x, hx, hq, hp⟩ => by
  have hmono : l.countP p ≤ l.countP q := List.countP_mono_left fun x hx hpx => h x (List.mem_cons_of_mem _ hx) hpx
  rw [List.countP_cons, List.countP_cons]
  rcases List.mem_cons.1 hx with rfl | hx
  · rw [hq, hp]; simp; omega
  · have ih := qp (l := l) (fun y hy => h y (List.mem_cons_of_mem _ hy)) ⟨x, hx, hq, hp⟩
    have := h a List.mem_cons_self
    cases hpa : p a with
    | true => rw [this hpa]; simp; omega
    | false => simp; split <;> omega
theorem Is {l : List (List Int)} (hr : wa l) {u v : Int} (c : Conn l u v) : (0 ≤ u ∧ u < 64) ↔ (0 ≤ v ∧ v < 64) := by
 induction c with
 | refl u => exact Iff.rfl
 | edge he => exact ⟨fun _ => (hr _ _ he).2, fun _ => (hr _ _ he).1⟩
 | symm _ ih => exact ih.symm
 | trans _ _ ih1 ih2 => exact ih1.trans ih2
theorem zY {l : List (List Int)} (hr : wa l) {m : Nat} (hm : m < 64) (hmin : ∀ u, Conn l m u → (m : Int) ≤ u) : ∀ k : Nat, (∀ w : Nat, w < 64 → Conn l m w → bW l k w = m) ∨ k + 1 ≤ (List.range 64).countP fun w => decide (bW l k w = m) := by
 have stay : ∀ k (w : Nat), bW l k w = m → bW l (k + 1) w = m := by
  intro k w h
  have h1 : bW l (k + 1) w ≤ bW l k w := iS l _ w
  have c1 := fX hr k w
  have c2 := fX hr (k + 1) w
  rw [h] at c1
  have h2 := hmin _ (.trans (.symm c1) c2)
  omega
 have hmm : ∀ k, bW l k m = m := by
  intro k
  have h1 := zm l k m
  have h2 := hmin _ (fX hr k m)
  omega
 intro k
 induction k with
 | zero =>
  right
  have : 0 < (List.range 64).countP fun w => decide (bW l 0 w = m) := List.countP_pos_iff.2 ⟨m, List.mem_range.2 hm, by simp [hmm]⟩
  omega
 | succ k ih =>
  rcases ih with ih | ih
  · exact .inl fun w hw hc => stay k w (ih w hw hc)
  by_cases hall : ∀ w : Nat, w < 64 → Conn l m w → bW l (k + 1) w = m
  · exact .inl hall
  right
  have hex : ∃ x ∈ List.range 64, decide (bW l (k + 1) x = m) = true ∧ decide (bW l k x = m) = false := by
   by_cases hed : ∀ a b, [a, b] ∈ l → (bW l k a.toNat = m ↔ bW l k b.toNat = m)
   · exfalso
     apply hall
     intro w hw hc
     have key : ∀ {u v : Int}, Conn l u v → (bW l k u.toNat = m ↔ bW l k v.toNat = m) := by
      intro u v c
      induction c with
      | refl u => exact Iff.rfl
      | edge he => exact hed _ _ he
      | symm _ ih => exact ih.symm
      | trans _ _ ih1 ih2 => exact ih1.trans ih2
     have := (key hc).1 (by simpa using hmm k)
     exact stay k w (by simpa using this)
   · obtain ⟨a, ha⟩ := Classical.not_forall.1 hed
     obtain ⟨b, hb⟩ := Classical.not_forall.1 ha
     obtain ⟨he, hne⟩ := Classical.not_imp.1 hb
     obtain ⟨ra, rb⟩ := hr a b he
     obtain ⟨e1, e2⟩ := qn l (bW l k) he
     have ge : ∀ v : Int, 0 ≤ v → (∃ u : Int, 0 ≤ u ∧ bW l k u.toNat = m ∧ Conn l u v) → m ≤ bW l (k + 1) v.toNat := by
      rintro v hv ⟨u, hu, hum, huv⟩
      have c1 := fX hr k u.toNat
      rw [hum, Int.toNat_of_nonneg hu] at c1
      have c2 := fX hr (k + 1) v.toNat
      rw [Int.toNat_of_nonneg hv] at c2
      have := hmin _ (.trans (.symm c1) (.trans huv c2))
      omega
     by_cases hda : bW l k a.toNat = m
     · have hdb : ¬ bW l k b.toNat = m := fun h => hne ⟨fun _ => h, fun _ => hda⟩
       refine ⟨b.toNat, List.mem_range.2 (by omega), ?_, by simpa using hdb⟩
       have h1 := ge b rb.1 ⟨a, ra.1, hda, .edge he⟩
       have h2 : bW l (k + 1) b.toNat ≤ m := Nat.le_trans e2 (by omega)
       simp; omega
     · by_cases hdb : bW l k b.toNat = m
       · refine ⟨a.toNat, List.mem_range.2 (by omega), ?_, by simpa using hda⟩
         have h1 := ge a ra.1 ⟨b, rb.1, hdb, .symm (.edge he)⟩
         have h2 : bW l (k + 1) a.toNat ≤ m := Nat.le_trans e1 (by omega)
         simp; omega
       · exact absurd ⟨fun h => absurd h hda, fun h => absurd h hdb⟩ hne
  have := qp (p := fun w => decide (bW l k w = m)) (q := fun w => decide (bW l (k + 1) w = m)) (fun x _ h => by simpa using stay k x (by simpa using h)) hex
  omega
theorem It {l : List (List Int)} (hr : wa l) : ∀ (w : Nat), w < 64 → ∃ m : Nat, m < 64 ∧ Conn l w m ∧ ∀ u, Conn l w u → (m : Int) ≤ u := by
 intro w
 induction w using Nat.strongRecOn with
 | ind w ih =>
  intro hw
  by_cases h : ∀ u, Conn l w u → (w : Int) ≤ u
  · exact ⟨w, hw, .refl _, h⟩
  · obtain ⟨u, hu⟩ := Classical.not_forall.1 h
    obtain ⟨hc, hlt⟩ := Classical.not_imp.1 hu
    have hur := (Is hr hc).1 ⟨by omega, by omega⟩
    have e : ((u.toNat : Nat) : Int) = u := Int.toNat_of_nonneg hur.1
    obtain ⟨m, h1, h2, h3⟩ := ih u.toNat (by omega) (by omega)
    rw [e] at h2 h3
    exact ⟨m, h1, .trans hc h2, fun v hv => h3 v (.trans (.symm hc) hv)⟩
def eY (l : List (List Int)) : Nat → Nat := bW l 64
theorem iB {l : List (List Int)} (hr : wa l) {w : Nat} (hw : w < 64) : eY l w < 64 ∧ Conn l w (eY l w) ∧ ∀ u, Conn l w u → (eY l w : Int) ≤ u := by
 obtain ⟨m, h1, h2, h3⟩ := It hr w hw
 have hmin : ∀ u, Conn l m u → (m : Int) ≤ u := fun u hu => h3 u (.trans h2 hu)
 have e : eY l w = m := by
  rcases zY hr h1 hmin 64 with h | h
  · exact h w hw (.symm h2)
  · have := List.countP_le_length (p := fun w => decide (bW l 64 w = m)) (l := List.range 64)
    simp at this; omega
 rw [e]
 exact ⟨h1, h2, h3⟩
def cD (l : List (List Int)) (v : Nat) : List Int := ((List.range 64).filter fun w => decide (eY l w = v) && decide ([Int.ofNat w] ∈ l)).map Int.ofNat
def fB (l : List (List Int)) : List (List Int) := ((List.range 64).map (cD l)).filter fun c => decide (c ≠ [])
theorem fk {l : List (List Int)} {v : Nat} {x : Int} : x ∈ cD l v ↔ ∃ w : Nat, w < 64 ∧ eY l w = v ∧ [Int.ofNat w] ∈ l ∧ x = Int.ofNat w := by
 unfold cD
 simp only [List.mem_map, List.mem_filter, List.mem_range, Bool.and_eq_true, decide_eq_true_iff]
 constructor
 · rintro ⟨w, ⟨h1, h2, h3⟩, rfl⟩; exact ⟨w, h1, h2, h3, rfl⟩
 · rintro ⟨w, h1, h2, h3, rfl⟩; exact ⟨w, ⟨h1, h2, h3⟩, rfl⟩
theorem ny (l : List (List Int)) : fB l = ((List.range 64).filter fun v => decide (cD l v ≠ [])).map (cD l) := by
 unfold fB
 rw [List.filter_map]; rfl
theorem zn (l : List (List Int)) (v : Nat) : (cD l v).Pairwise (· < ·) := by
 unfold cD
 rw [List.pairwise_map]
 refine List.Pairwise.imp ?_ (List.Pairwise.sublist List.filter_sublist List.pairwise_lt_range)
 intro a b h
 simp; omega
theorem Iu {l : List (List Int)} (hC : Cx l) : CompOk l l (fB l) := by
 have hr : wa l := fun a b h => by
  have := hC.ok _ h
  exact ⟨this.rng a (by simp), this.rng b (by simp)⟩
 have hv : ∀ v : Int, [v] ∈ l → 0 ≤ v ∧ v < 64 := fun v h => (hC.ok _ h).rng v (by simp)
 have hend : ∀ a b, [a, b] ∈ l → [a] ∈ l ∧ [b] ∈ l := fun a b h => ⟨hC.sub _ h [a] (by simp) (by simp), hC.sub _ h [b] (by simp) (by simp)⟩
 have hcv : ∀ {u v : Int}, Conn l u v → ([u] ∈ l ↔ [v] ∈ l) := by
  intro u v c
  induction c with
  | refl u => exact Iff.rfl
  | edge he => exact ⟨fun _ => (hend _ _ he).2, fun _ => (hend _ _ he).1⟩
  | symm _ ih => exact ih.symm
  | trans _ _ ih1 ih2 => exact ih1.trans ih2
 have hlab : ∀ {u v : Nat}, u < 64 → v < 64 → Conn l u v → eY l u = eY l v := by
  intro u v hu hv' c
  obtain ⟨_, a2, a3⟩ := iB hr hu
  obtain ⟨_, b2, b3⟩ := iB hr hv'
  have h1 := a3 _ (.trans c b2)
  have h2 := b3 _ (.trans (.symm c) a2)
  omega
 have hmem : ∀ c, c ∈ fB l ↔ ∃ v : Nat, v < 64 ∧ cD l v ≠ [] ∧ cD l v = c := by
  intro c
  rw [ny]
  simp only [List.mem_map, List.mem_filter, List.mem_range, decide_eq_true_iff]
  constructor
  · rintro ⟨v, ⟨h1, h2⟩, h3⟩; exact ⟨v, h1, h2, h3⟩
  · rintro ⟨v, h1, h2, h3⟩; exact ⟨v, ⟨h1, h2⟩, h3⟩
 have hhead : ∀ v : Nat, cD l v ≠ [] → (cD l v).headD 0 = Int.ofNat v := by
  intro v hne
  cases hq : cD l v with
  | nil => exact absurd hq hne
  | cons x c =>
   have hx : x ∈ cD l v := by rw [hq]; simp
   obtain ⟨w, hw, h1, h2, rfl⟩ := fk.1 hx
   obtain ⟨s1, s2, s3⟩ := iB hr hw
   rw [h1] at s1 s2 s3
   have hvl : [Int.ofNat v] ∈ l := (hcv s2).1 h2
   have hlv : eY l v = v := by
    have := hlab hw s1 s2
    rw [← this]; exact h1
   have hvm : Int.ofNat v ∈ cD l v := fk.2 ⟨v, s1, hlv, hvl, rfl⟩
   have hasc := zn l v
   rw [hq] at hvm hasc
   have h3 := s3 w (.refl _)
   show Int.ofNat w = Int.ofNat v
   rcases List.mem_cons.1 hvm with e | e
   · exact e.symm
   · have := (List.pairwise_cons.1 hasc).1 _ e
     simp only [Int.ofNat_eq_natCast] at this ⊢
     omega
 have hvs : (((List.range 64).filter fun v => decide (cD l v ≠ []))).Pairwise (· < ·) := List.Pairwise.sublist List.filter_sublist List.pairwise_lt_range
 have hget : ∀ i (hi : i < (fB l).length), ∃ v : Nat, (fB l)[i] = cD l v ∧ cD l v ≠ [] ∧ ∃ hi' : i < ((List.range 64).filter fun v => decide (cD l v ≠ [])).length, ((List.range 64).filter fun v => decide (cD l v ≠ []))[i] = v := by
  intro i hi
  have hl : (fB l).length = ((List.range 64).filter fun v => decide (cD l v ≠ [])).length := by rw [ny, List.length_map]
  have hi' : i < ((List.range 64).filter fun v => decide (cD l v ≠ [])).length := by omega
  refine ⟨((List.range 64).filter fun v => decide (cD l v ≠ []))[i], by simp only [ny, List.getElem_map], ?_, hi', rfl⟩
  have := List.getElem_mem hi'
  simpa using (List.mem_filter.1 this).2
 refine ⟨⟨fun i j hi hj x hx hx' => ?_, fun c hc => ?_, fun v => ?_, fun a b hab c hc => ?_, fun c hc u hu v hv' => ?_⟩, fun c hc => ?_, fun i j hi hj hij => ?_⟩
 · obtain ⟨v, e1, n1, hi', g1⟩ := hget i hi
   obtain ⟨v', e2, n2, hj', g2⟩ := hget j hj
   rw [e1] at hx; rw [e2] at hx'
   obtain ⟨w, _, h1, _, rfl⟩ := fk.1 hx
   obtain ⟨w', _, h2, _, e⟩ := fk.1 hx'
   have hww : w = w' := by simp only [Int.ofNat_eq_natCast] at e; omega
   subst hww
   have hvv : v = v' := by rw [← h1, h2]
   rcases Nat.lt_trichotomy i j with h | h | h
   · have := List.pairwise_iff_getElem.1 hvs i j hi' hj' h; omega
   · exact h
   · have := List.pairwise_iff_getElem.1 hvs j i hj' hi' h; omega
 · obtain ⟨v, _, h, rfl⟩ := (hmem c).1 hc; exact h
 · constructor
   · intro h
     have hb := hv v h
     have e : Int.ofNat v.toNat = v := Int.toNat_of_nonneg hb.1
     have hw : v.toNat < 64 := by omega
     have hx : v ∈ cD l (eY l v.toNat) := fk.2 ⟨v.toNat, hw, rfl, by rw [e]; exact h, e.symm⟩
     exact ⟨_, (hmem _).2 ⟨eY l v.toNat, (iB hr hw).1, (fun h0 => by rw [h0] at hx; cases hx), rfl⟩, hx⟩
   · rintro ⟨c, hc, hx⟩
     obtain ⟨u, _, _, rfl⟩ := (hmem c).1 hc
     obtain ⟨w, _, _, h2, rfl⟩ := fk.1 hx
     exact h2
 · obtain ⟨u, _, _, rfl⟩ := (hmem c).1 hc
   obtain ⟨ha, hb⟩ := hr a b hab
   obtain ⟨h1, h2⟩ := hend a b hab
   have ea : Int.ofNat a.toNat = a := Int.toNat_of_nonneg ha.1
   have eb : Int.ofNat b.toNat = b := Int.toNat_of_nonneg hb.1
   have hl : eY l a.toNat = eY l b.toNat := hlab (by omega) (by omega) (by rw [show ((a.toNat : Nat) : Int) = a from ea, show ((b.toNat : Nat) : Int) = b from eb]; exact .edge hab)
   have key : ∀ v : Int, 0 ≤ v → v < 64 → [v] ∈ l → (v ∈ cD l u ↔ eY l v.toNat = u) := by
    intro v hv0 hv1 hvl
    have ev : Int.ofNat v.toNat = v := Int.toNat_of_nonneg hv0
    rw [fk]
    constructor
    · rintro ⟨w, _, h1, _, e⟩
      rw [e]; simpa using h1
    · intro h
      exact ⟨v.toNat, by omega, h, by rw [ev]; exact hvl, ev.symm⟩
   rw [key a ha.1 ha.2 h1, key b hb.1 hb.2 h2, hl]
 · obtain ⟨x, _, _, rfl⟩ := (hmem c).1 hc
   obtain ⟨w, hw, h1, _, rfl⟩ := fk.1 hu
   obtain ⟨w', hw', h2, _, rfl⟩ := fk.1 hv'
   have c1 := (iB hr hw).2.1
   have c2 := (iB hr hw').2.1
   rw [h1] at c1; rw [h2] at c2
   exact .trans c1 (.symm c2)
 · obtain ⟨v, _, _, rfl⟩ := (hmem c).1 hc
   exact zn l v
 · obtain ⟨v, e1, n1, hi', g1⟩ := hget i hi
   obtain ⟨v', e2, n2, hj', g2⟩ := hget j hj
   rw [e1, e2, hhead v n1, hhead v' n2]
   have := List.pairwise_iff_getElem.1 hvs i j hi' hj' hij
   simp only [Int.ofNat_eq_natCast]
   omega
theorem Iv {c d : List Int} (hc : c.Pairwise (· < ·)) (hd : d.Pairwise (· < ·)) (h : ∀ x, x ∈ c ↔ x ∈ d) : c = d :=
 List.Perm.eq_of_pairwise (fun a b _ _ h1 h2 => absurd h1 (by omega)) hc hd (iH (hc.imp fun h => by omega) (hd.imp fun h => by omega) h)
theorem zo {l P Q : List (List Int)} (hP : CompOk l l P) (hQ : CompOk l l Q) {c : List Int} (hc : c ∈ P) : c ∈ Q := by
 obtain ⟨u, hu⟩ : ∃ u, u ∈ c := by
  cases hq : c with
  | nil => exact absurd hq (hP.part.ne c hc)
  | cons a _ => exact ⟨a, List.mem_cons_self⟩
 obtain ⟨d, hd, hud⟩ := (hQ.part.cov u).1 ((hP.part.cov u).2 ⟨c, hc, hu⟩)
 have e : c = d := Iv (hP.asc c hc) (hQ.asc d hd) fun x =>
  ⟨fun hx => (hQ.part.closed (hP.part.con c hc u hu x hx) d hd).1 hud, fun hx => (hP.part.closed (hQ.part.con d hd u hud x hx) c hc).1 hu⟩
 rw [e]; exact hd
theorem Gn {l P Q : List (List Int)} (hP : CompOk l l P) (hQ : CompOk l l Q) : P = Q := by
 have hp : P.Pairwise fun c d => c.headD 0 < d.headD 0 := List.pairwise_iff_getElem.2 fun i j hi hj hij => hP.hds i j hi hj hij
 have hq : Q.Pairwise fun c d => c.headD 0 < d.headD 0 := List.pairwise_iff_getElem.2 fun i j hi hj hij => hQ.hds i j hi hj hij
 exact List.Perm.eq_of_pairwise (fun a b _ _ h1 h2 => absurd h1 (by omega)) hp hq (iH (hp.imp fun h e => by rw [e] at h; omega) (hq.imp fun h e => by rw [e] at h; omega) fun c => ⟨zo hP hQ, zo hQ hP⟩)
def cM (o : List Int) (k : Nat) : List Int := o ++ List.replicate (k - o.length) 0
def dW (o : List Int) (a : List Int) : List Int := dV (cM o a.length) a
def gX (l : List (List Int)) : List Int := l.foldl dW []
theorem pm (o : List Int) (k : Nat) : (cM o k).length = max o.length k := by simp [cM]; omega
theorem wb (o a : List Int) : (dW o a).length = max o.length a.length := by rw [dW, lS, pm]
theorem Gp {o : List Int} {k n : Nat} (h : k ≤ n) : cM (cM o k) n = cM o n := by
 unfold cM
 rw [List.append_assoc, List.replicate_append_replicate]
 congr 2
 simp; omega
theorem Gq {o : List Int} {a : List Int} {n : Nat} (h : a.length - 1 < o.length) : cM (dV o a) n = dV (cM o n) a := by
 unfold cM dV
 rw [List.length_set, List.set_append_left _ _ h]
 congr 2
 rw [List.getD_eq_getElem?_getD, List.getD_eq_getElem?_getD, List.getElem?_append_left h]
theorem wc {n : Nat} : ∀ (l : List (List Int)) (o : List Int), (∀ a ∈ l, a ≠ [] ∧ a.length ≤ n) → cM (l.foldl dW o) n = l.foldl dV (cM o n)
 | [], o, _ => rfl
 | a :: l, o, h => by
  obtain ⟨h1, h2⟩ := h a List.mem_cons_self
  have hp : 0 < a.length := List.length_pos_iff.2 h1
  rw [List.foldl_cons, List.foldl_cons, wc l (dW o a) fun b hb => h b (List.mem_cons_of_mem _ hb)]
  congr 1
  unfold dW
  rw [Gq (by rw [pm]; omega), Gp h2]
theorem qQ : ∀ (l : List (List Int)) (o : List Int) (n : Nat), (∀ a ∈ l, a.length ≤ n) → o.length ≤ n → (l.foldl dW o).length ≤ n
 | [], _, _, _, h => h
 | a :: l, o, n, h, ho => qQ l (dW o a) n (fun b hb => h b (List.mem_cons_of_mem _ hb)) (by rw [wb]; have := h a List.mem_cons_self; omega)
theorem BG : ∀ (l : List (List Int)) (o : List Int), o.length ≤ (l.foldl dW o).length ∧ ∀ a ∈ l, a.length ≤ (l.foldl dW o).length
 | [], o => ⟨Nat.le_refl _, fun a h => by cases h⟩
 | a :: l, o => by
  obtain ⟨h1, h2⟩ := BG l (dW o a)
  rw [wb] at h1
  refine ⟨by rw [List.foldl_cons]; omega, fun b hb => ?_⟩
  rw [List.foldl_cons]
  rcases List.mem_cons.1 hb with rfl | hb
  · omega
  · exact h2 b hb
theorem BH {l : List (List Int)} (hne : ∀ a ∈ l, a ≠ []) (hle : ∀ a ∈ l, a.length ≤ (l.getLastD []).length) : gX l = gA l := by
 have h1 := wc (n := (l.getLastD []).length) l [] fun a ha => ⟨hne a ha, hle a ha⟩
 have h2 : cM [] (l.getLastD []).length = List.replicate (l.getLastD []).length 0 := by simp [cM]
 rw [h2] at h1
 unfold gX gA
 rw [← h1]
 have h3 : (l.getLastD []).length ≤ (l.foldl dW []).length := by
  cases hq : l with
  | nil => exact Nat.le_refl _
  | cons a m =>
   rw [← hq]
   refine (BG l []).2 _ ?_
   rw [hq, List.getLastD_cons, List.getLastD_eq_getLast?]
   cases hm : m.getLast? with
   | none => simp
   | some z => simp; exact .inr (List.mem_of_getLast? hm)
 show l.foldl dW [] = l.foldl dW [] ++ List.replicate ((l.getLastD []).length - (l.foldl dW []).length) 0
 rw [Nat.sub_eq_zero_of_le h3]; simp
section
variable {K : Ctx} {h : Hp}
theorem Iw {o : List Int} {j : Nat} : o ++ List.replicate (j + 1) 0 = (o ++ List.replicate j 0) ++ [0] := by
 rw [List.append_assoc, List.replicate_succ']
theorem Iy (H : Std K) (PC : bT K) {N : Nat} {g : Hp} (ok : HpOk g) (hN : N ≤ g.n) {x o : CV} {cs : List CV} {l : List (List Int)} {out : List Int} (hx : Row g x cs) (hxs : Rows g cs l) {i : Nat} (hi : i < l.length) (hlen : l[i].length < 1000000) (ho : Out N g 3 o (ak out)) (hlo : out.length < 1000000) (hsp : ∀ g', Same N g g' → HpOk g' → Row g' x cs ∧ Rows g' cs l) {s : Fr} (s0 : s.at 0 = x) (s3 : s.at 3 = o) (s4 : s.at 4 = .nu .i64 (.ofNat i)) (hs : s.at ag = .undef) :
  ∃ s' g', jq K [1, 1, 0, 1, 0, 0, 1, 0, 0, 0] s g .normal s' g' ∧ HpOk g' ∧ Same N g g' ∧ s'.at 0 = x ∧ s'.at 4 = .nu .i64 (.ofNat i) ∧ s'.at ag = .undef ∧ Out N g' 3 (s'.at 3) (ak (cM out l[i].length)) := by
 have t45' : ae K.P 45 = .slice 3 1 8 [.nu .i64 0] := by rw [H.hP]; exact t45
 obtain ⟨s', g', r, ok', S', q0, q4, qs, qo⟩ := bA (K := K) (f := 39) (n := 41) (c := aL [1, 1, 0, 1, 0, 0, 1, 0, 0, 0, 0, 0] (ax Tryz.f39)) (s := s) (h := g) (m := l[i].length - out.length) (b := 2)
  (I := fun j s g' => HpOk g' ∧ Same N g g' ∧ s.at 0 = x ∧ s.at 4 = .nu .i64 (.ofNat i) ∧ s.at ag = .undef ∧ Out N g' 3 (s.at 3) (ak (out ++ List.replicate j 0)))
  (E := fun s g' => HpOk g' ∧ Same N g g' ∧ s.at 0 = x ∧ s.at 4 = .nu .i64 (.ofNat i) ∧ s.at ag = .undef ∧ Out N g' 3 (s.at 3) (ak (cM out l[i].length)))
  ⟨ok, Same.refl _ _, s0, s4, hs, by rw [s3]; simpa using ho⟩
  (fun j s g' hj ⟨okg, S, g0, g4, gs, go⟩ => by
    obtain ⟨hx', hxs'⟩ := hsp g' S okg
    obtain ⟨p, hp1, hp2⟩ := dT H hx' (i := i) (by rw [hxs.length]; exact hi)
    have hri := hxs'.get (i := i) (by rw [hxs.length]; exact hi) hi
    have l1 := cL H go.row
    rw [ar, List.length_append, List.length_replicate] at l1
    have l2 := cL H hri
    rw [ar] at l2
    obtain ⟨F, B, x', g'', a1, a2, a3, a4, a5⟩ := uS H okg (Nat.le_trans hN S.n) go 0 (by rw [List.length_append, List.length_replicate]; omega)
    exact ⟨_, _, nR H.hk H.prim PC rfl g0 g4 l1 hp1 hp2 l2 (aJ (by omega)) a1 a2, a5, S.trans a4, g0, g4, gs, by rw [Iw]; exact a3⟩)
  (fun s g' ⟨okg, S, g0, g4, gs, go⟩ => by
    obtain ⟨hx', hxs'⟩ := hsp g' S okg
    obtain ⟨p, hp1, hp2⟩ := dT H hx' (i := i) (by rw [hxs.length]; exact hi)
    have hri := hxs'.get (i := i) (by rw [hxs.length]; exact hi) hi
    have l1 := cL H go.row
    rw [ar, List.length_append, List.length_replicate] at l1
    have l2 := cL H hri
    rw [ar] at l2
    exact ⟨_, _, nS H.hk H.prim PC rfl g0 g4 l1 hp1 hp2 l2 (aQ (by omega)), okg, S, g0, g4, gs, go⟩)
 exact ⟨s', g', r, ok', S', q0, q4, qs, qo⟩
theorem zp : ∀ (l : List (List Int)) (o : List Int) (B : Nat), (∀ c ∈ o, (0 : Int) ≤ c ∧ c ≤ B) → ∀ c ∈ l.foldl dW o, (0 : Int) ≤ c ∧ c ≤ ((B + l.length : Nat) : Int)
 | [], o, B, h => by simpa using h
 | a :: l, o, B, h => by
  intro c hc
  have := zp l (dW o a) (B + 1) (fun c hc => by
   unfold dW dV at hc
   have hg : ∀ c ∈ cM o a.length, (0 : Int) ≤ c ∧ c ≤ B := fun c hc => by
    unfold cM at hc
    rcases List.mem_append.1 hc with hc | hc
    · exact h c hc
    · rw [List.eq_of_mem_replicate hc]; omega
   rcases List.mem_or_eq_of_mem_set hc with hc | hc
   · have := hg c hc; omega
   · rw [hc, List.getD_eq_getElem?_getD]
     cases hq : (cM o a.length)[a.length - 1]? with
     | none => simp; omega
     | some z => have := hg z (List.mem_of_getElem? hq); simp; omega) c hc
  rw [List.length_cons]; omega
theorem Gr {l : List (List Int)} {i : Nat} (hi : i < l.length) : gX (l.take (i + 1)) = dW (gX (l.take i)) l[i] := by
 unfold gX
 rw [bK hi, List.foldl_append]; rfl
theorem zZ (H : Std K) (PC : bT K) (ok : HpOk h) {l : List (List Int)} (hl : l.length ≤ 1000000) (hle : ∀ a ∈ l, a ≠ [] ∧ a.length < 1000) {x : CV} {cs : List CV} (hx : Row h x cs) (hxs : Rows h cs l) : ga K 39 [x] h fun r h' => Out h.n h' 3 r (ak (gX l)) := by
 have hf : K.P.funcs[39]? = some Tryz.f39 := by rw [H.hP]; exact Tryz.func39
 have hcl := hxs.length
 have t45' : ae K.P 45 = .slice 3 1 8 [.nu .i64 0] := by rw [H.hP]; exact t45
 obtain ⟨s', h', r, ok', S, hs, ho⟩ := bA (K := K) (f := 39) (n := 41) (c := aL [1, 1, 0, 1, 0, 0] (ax Tryz.f39)) (s := T.set (T.set (T.set (entry 0 [x]) 2 .nils) 3 .nils) 4 (.nu .i64 0)) (h := h) (m := l.length) (b := 0)
  (I := fun i s g => HpOk g ∧ Same h.n h g ∧ s.at 0 = x ∧ s.at 4 = .nu .i64 (.ofNat i) ∧ s.at ag = .undef ∧ Out h.n g 3 (s.at 3) (ak (gX (l.take i))))
  (E := fun s g => HpOk g ∧ Same h.n h g ∧ s.at ag = .undef ∧ Out h.n g 3 (s.at 3) (ak (gX l)))
  ⟨ok, Same.refl _ _, rfl, rfl, rfl, .nils⟩
  (fun i s g hi ⟨okg, S, g0, g4, gs, go⟩ => by
    have hx2 := hx.mono S ok (Nat.le_refl _)
    have hxs2 := hxs.mono S ok (Nat.le_refl _)
    have hlen := bS H hx2
    rw [hcl] at hlen
    obtain ⟨hne, hl1⟩ := hle _ (List.getElem_mem hi)
    have hpos : 0 < l[i].length := List.length_pos_iff.2 hne
    have hol : (gX (l.take i)).length ≤ 1000 := qQ _ _ _ (fun a ha => by have := (hle a (List.take_subset _ _ ha)).2; omega) (by simp)
    obtain ⟨sA, rA, a0, a3, a4, as'⟩ : ∃ sA, jq K [1, 1, 0, 1, 0, 0, 0] s g .normal sA g ∧ sA.at 0 = x ∧ sA.at 3 = s.at 3 ∧ sA.at 4 = .nu .i64 (.ofNat i) ∧ sA.at ag = .undef := ⟨_, uM H.hk H.prim PC g4 g0 hlen (aJ hi), g0, rfl, g4, gs⟩
    obtain ⟨sB, g1, rB, bH, S1, b0, b4, bs, bo⟩ := Iy H PC okg S.n hx2 hxs2 hi (by omega) go (by omega) (fun g' S' ok' => ⟨hx.mono (S.trans S') ok (Nat.le_refl _), hxs.mono (S.trans S') ok (Nat.le_refl _)⟩) a0 a3 a4 as'
    have S2 := S.trans S1
    have hx3 := hx.mono S2 ok (Nat.le_refl _)
    obtain ⟨p, hp1, hp2⟩ := dT H hx3 (i := i) (by omega)
    have hri := (hxs.get (i := i) (by omega) hi).mono S2 ok (Nat.le_refl _)
    have l2 := cL H hri
    rw [ar] at l2
    have hgl : l[i].length - 1 < (cM (gX (l.take i)) l[i].length).length := by rw [pm]; omega
    obtain ⟨q, hq1, hq2, hq3⟩ := sw H bo (i := l[i].length - 1) hgl
    have hbd := zp (l.take i) [] 0 (by simp)
    have hval : (0 : Int) ≤ (cM (gX (l.take i)) l[i].length).getD (l[i].length - 1) 0 ∧ (cM (gX (l.take i)) l[i].length).getD (l[i].length - 1) 0 ≤ 1000000 := by
     have hall : ∀ c ∈ cM (gX (l.take i)) l[i].length, (0 : Int) ≤ c ∧ c ≤ 1000000 := fun c hc => by
      unfold cM at hc
      rcases List.mem_append.1 hc with hc | hc
      · have := hbd c hc
        have ht : (l.take i).length ≤ l.length := by simp; omega
        omega
      · rw [List.eq_of_mem_replicate hc]; omega
     rw [List.getD_eq_getElem?_getD, List.getElem?_eq_getElem hgl]
     exact hall _ (List.getElem_mem hgl)
    obtain ⟨g2, hst, ho2, S3, eI⟩ := hq3 ((cM (gX (l.take i)) l[i].length).getD (l[i].length - 1) 0 + 1)
    have hsub : ab K.P .sub 3 (.nu .i64 (.ofNat l[i].length)) (.nu .i64 1) = some (.nu .i64 (.ofNat (l[i].length - 1))) := by
     have := lh (P := K.P) (t := 3) (i := l[i].length - 1) (by omega)
     rw [show l[i].length - 1 + 1 = l[i].length by omega] at this; exact this
    refine ⟨_, g2, Runs.seq rA (Runs.seq (aq (Runs.seq rB (OH H.hk PC.p39_7 rfl b0 b4 hp1 hp2 hri.ceq l2 (by rw [t45']; rfl) hsub hq1 hq2 (oM (by omega) (by omega)) hst))) (OI H.hk b4 (bh (by omega)))), eI bH, S2.trans S3, b0, rfl, bs, ?_⟩
    rw [Gr hi]
    exact ho2)
  (fun s g ⟨okg, S, g0, g4, gs, go⟩ => by
    have hlen := bS H (hx.mono S ok (Nat.le_refl _))
    rw [hcl] at hlen
    exact ⟨_, _, ay (uN H.hk H.prim PC g4 g0 hlen (aQ (Nat.le_refl _))) (by simp), okg, S, gs, by rw [List.take_length] at go; exact go⟩)
 exact ⟨_, h', H.go hf (Runs.seq (OD H.hk) (Runs.seq (OE H.hk) (Runs.seq (Runs.seq (OF H.hk) r) (HQ H.hk H.prim PC rfl)))) (.inr rfl) S.n hs rfl rfl, S, ok', ho⟩
theorem QT {P : Program} {t : TypeId} {x y : Int} (h1 : -9223372036854775808 ≤ x * y) (h2 : x * y < 9223372036854775808) : ab P .mul t (.nu .i64 x) (.nu .i64 y) = some (.nu .i64 (x * y)) := by
 show some (gY .i64 (x * y)) = _
 rw [eA, pI h1 h2]
theorem P3 {P : Program} {t : TypeId} {x y : Int} (h1 : -9223372036854775808 ≤ x - y) (h2 : x - y < 9223372036854775808) : ab P .sub t (.nu .i64 x) (.nu .i64 y) = some (.nu .i64 (x - y)) := by
 show some (gY .i64 (x - y)) = _
 rw [eA, pI h1 h2]
theorem Iz {l : List (List Int)} {i : Nat} (hi : i < l.length) : dH (l.take (i + 1)) = dH (l.take i) + ly l[i] := by
 unfold dH
 rw [bK hi, List.map_append, List.sum_append]; simp
theorem zq (H : Std K) (PC : bT K) {l : List (List Int)} (hl : l.length ≤ 1000000) (hle : ∀ a ∈ l, a.length < 1000000) {x : CV} {cs : List CV} (hx : Row h x cs) (hxs : Rows h cs l) : Comes K 40 [x] h (.nu .i64 (dH l)) h := by
 have hf : K.P.funcs[40]? = some Tryz.f40 := by rw [H.hP]; exact Tryz.func40
 have hcl := hxs.length
 have hlen := bS H hx
 rw [hcl] at hlen
 obtain ⟨s', h', r, rfl, hs, h3⟩ := bA (K := K) (f := 40) (n := 22) (c := aL [1, 1, 0, 1, 0, 0] (ax Tryz.f40)) (s := T.set (T.set (T.set (entry 0 [x]) 2 (.nu .i64 0)) 3 (.nu .i64 0)) 4 (.nu .i64 0)) (h := h) (m := l.length) (b := 0)
  (I := fun i s g => g = h ∧ s.at 0 = x ∧ s.at 4 = .nu .i64 (.ofNat i) ∧ s.at ag = .undef ∧ s.at 3 = .nu .i64 (dH (l.take i)))
  (E := fun s g => g = h ∧ s.at ag = .undef ∧ s.at 3 = .nu .i64 (dH l))
  ⟨rfl, rfl, rfl, rfl, rfl⟩
  (fun i s g hi ⟨e, g0, g4, gs, g3⟩ => by
    subst e
    obtain ⟨p, hp1, hp2⟩ := dT H hx (i := i) (by omega)
    have hri := hxs.get (i := i) (by omega) hi
    have l2 := cL H hri
    rw [ar] at l2
    have hb := vZ (l.take i)
    have ht : (l.take i).length ≤ l.length := by simp; omega
    have hrem : ab K.P .rem 3 (.nu .i64 (.ofNat l[i].length)) (.nu .i64 2) = some (.nu .i64 (.ofNat (l[i].length % 2))) := by
     rw [HW (by decide)]; rfl
    have hm2 : (Int.ofNat (l[i].length % 2)) = 0 ∨ (Int.ofNat (l[i].length % 2)) = 1 := by
     simp only [Int.ofNat_eq_natCast]; omega
    have hsg : dH (l.take i) + 2 * Int.ofNat (l[i].length % 2) - 1 = dH (l.take (i + 1)) := by
     rw [Iz hi]
     unfold ly
     rcases Nat.mod_two_eq_zero_or_one l[i].length with e | e
     · rw [if_pos e, e]; simp; omega
     · rw [if_neg (by omega), e]; simp; omega
    exact ⟨_, _, wG H.hk H.prim PC g4 g0 g3 hlen (aJ hi) hp1 hp2 l2 hrem (QT (by omega) (by omega)) (oM (by omega) (by omega)) (P3 (by omega) (by omega)) (bh (by omega)), rfl, g0, rfl, gs, by rw [← hsg]; rfl⟩)
  (fun s g ⟨e, g0, g4, gs, g3⟩ => by
    subst e
    exact ⟨_, _, wH H.hk H.prim PC g4 g0 hlen (aQ (Nat.le_refl _)), rfl, gs, by rw [List.take_length] at g3; exact g3⟩)
 exact H.go hf (Runs.seq (OK H.hk) (Runs.seq (OL H.hk) (Runs.seq (Runs.seq (OM H.hk) r) (HR H.hk H.prim PC h3)))) (.inr rfl) (Nat.le_refl _) hs rfl rfl
theorem zr (H : Std K) (PC : bT K) {P : List (List Int)} (hl : P.length < 4611686018427387904) (hle : ∀ a ∈ P, a.length < 4611686018427387904) {x y : CV} {cs ds : List CV} (hx : Row h x cs) (hxs : Rows h cs P) (hy : Row h y ds) (hys : Rows h ds P) : Comes K 41 [x, y] h (.bo true) h := by
 have hf : K.P.funcs[41]? = some Tryz.f41 := by rw [H.hP]; exact Tryz.func41
 have hcl := hxs.length
 have hdl := hys.length
 have hlx := bS H hx
 rw [hcl] at hlx
 have hly := bS H hy
 rw [hdl] at hly
 obtain ⟨s1, r1, a0, a1, as1⟩ : ∃ s1, lg K [1, 0] (T.set (entry 0 [x, y]) 4 (.bo false)) h .normal s1 h ∧ s1.at 0 = x ∧ s1.at 1 = y ∧ s1.at ag = .undef := ⟨_, FE H.hk H.prim PC rfl rfl hlx hly (eV rfl), rfl, rfl, rfl⟩
 obtain ⟨s2, r2, b0, b1, b12, b13, bs⟩ : ∃ s2, lg K [1, 1, 0, 0] s1 h .normal s2 h ∧ s2.at 0 = x ∧ s2.at 1 = y ∧ s2.at 12 = .nu .i64 (.ofNat P.length) ∧ s2.at 13 = .nu .i64 (.ofNat 0) ∧ s2.at ag = .undef := ⟨_, OS H.hk a0 hlx, a0, a1, rfl, rfl, as1⟩
 obtain ⟨s', h', r, rfl, hs⟩ := bA (K := K) (f := 41) (n := 27) (c := aL [1, 1, 0, 1, 0, 0] (ax Tryz.f41)) (s := s2) (h := h) (m := P.length) (b := 0)
  (I := fun i s g => g = h ∧ s.at 0 = x ∧ s.at 1 = y ∧ s.at 12 = .nu .i64 (.ofNat P.length) ∧ s.at 13 = .nu .i64 (.ofNat i) ∧ s.at ag = .undef)
  (E := fun s g => g = h ∧ s.at ag = .undef)
  ⟨rfl, b0, b1, b12, b13, bs⟩
  (fun i s g hi ⟨e, g0, g1, g12, g13, gs⟩ => by
    subst e
    obtain ⟨p, hp1, hp2⟩ := dT H hx (i := i) (by omega)
    obtain ⟨q, hq1, hq2⟩ := dT H hy (i := i) (by omega)
    have hri := hxs.get (i := i) (by omega) hi
    have hrj := hys.get (i := i) (by omega) hi
    have c38 := fN H (hle _ (List.getElem_mem hi)) hri hrj
    exact ⟨_, _, uO H.hk H.prim PC g13 g12 g0 g1 (aJ hi) hp1 hp2 hri.ceq hq1 hq2 c38 (eV ((eG _ _).2 rfl)) (bh (by omega)), rfl, g0, g1, g12, rfl, gs⟩)
  (fun s g ⟨e, g0, g1, g12, g13, gs⟩ => by
    subst e
    exact ⟨_, _, wI H.hk H.prim PC g13 g12 (aQ (Nat.le_refl _)), rfl, gs⟩)
 exact H.go hf (Runs.seq (OQ H.hk) (Runs.seq r1 (Runs.seq (Runs.seq r2 r) (HS H.hk H.prim PC)))) (.inr rfl) (Nat.le_refl _) hs rfl rfl
end
theorem mI {l : List (List Int)} {s a : List Int} : a ∈ dU l s ↔ a ∈ l ∧ cz a s = true := by unfold dU; rw [List.mem_filter]
theorem IA {l : List (List Int)} {s : List Int} (hs : s ∈ l) : s ∈ dU l s := mI.2 ⟨hs, ei.2 fun v hv => hv⟩
theorem BI {l : List (List Int)} (hn : l.Nodup) {s : List Int} (hs : s ∈ l) (h2 : (dU l s).length = 2) : ∃ t, Free l s t := by
 have hnd : (dU l s).Nodup := List.Nodup.sublist List.filter_sublist hn
 have hss := IA hs
 have hm : ∀ a, a ∈ dU l s ↔ a ∈ l ∧ cz a s = true := fun a => mI
 generalize dU l s = c at h2 hnd hss hm
 match c, h2 with
 | [a, b], _ =>
  have hab : a ≠ b := by simpa using hnd
  rcases List.mem_cons.1 hss with e | e
  · subst e
    have hb := (hm b).1 (by simp)
    exact ⟨b, hs, hb.1, hab, hb.2, fun x hx hxs => by simpa using (hm x).2 ⟨hx, hxs⟩⟩
  · have e : s = b := by simpa using e
    subst e
    have ha := (hm a).1 (by simp)
    exact ⟨a, hs, ha.1, fun e => hab e.symm, ha.2, fun x hx hxs => by
     have := (hm x).2 ⟨hx, hxs⟩
     simp only [List.mem_cons, List.not_mem_nil, or_false] at this
     exact this.symm⟩
theorem BJ {l : List (List Int)} (hn : l.Nodup) {s t : List Int} (F : Free l s t) : (dU l s).length = 2 := by
 have hnd : (dU l s).Nodup := List.Nodup.sublist List.filter_sublist hn
 have hp : (dU l s).Perm [s, t] := iH hnd (by simpa using F.ne) fun a => by
  rw [mI]
  simp only [List.mem_cons, List.not_mem_nil, or_false]
  constructor
  · rintro ⟨h1, h2⟩; exact F.only a h1 h2
  · rintro (rfl | rfl)
    · exact ⟨F.sm, ei.2 fun v hv => hv⟩
    · exact ⟨F.tm, F.has⟩
 rw [hp.length_eq]; rfl
def tg (l : List (List Int)) (s : List Int) : List (List Int) := l.filter fun a => !decide (a ∈ dU l s)
theorem Gs {l m : List (List Int)} (hs : Srt l) {s t : List Int} (st : Step l m s t) : tg l s = m := by
 refine uX (List.Pairwise.sublist List.filter_sublist hs) (List.Pairwise.sublist st.sub hs) fun a => ?_
 unfold tg
 rw [List.mem_filter, st.mem, Bool.not_eq_true', decide_eq_false_iff_not, mI]
 constructor
 · rintro ⟨h1, h2⟩
   exact ⟨h1, fun e => h2 ⟨h1, by rw [e]; exact ei.2 fun v hv => hv⟩, fun e => h2 ⟨h1, by rw [e]; exact st.free.has⟩⟩
 · rintro ⟨h1, h2, h3⟩
   exact ⟨h1, fun h => (st.free.only a h1 h.2).elim h2 h3⟩
theorem IB {P : Program} {N el b t : Nat} {h : Hp} {z0 x v : CV} {cs : List CV} (ht : ae P t = .slice el 1 b [z0]) (ok : HpOk h) (hN : N ≤ h.n) (r : New N h el x cs) (hv : v.one = true) (hb : b ≤ 64) (hn : cs.length < 1099511627776) :
  ∃ F B k o n c h', aM 1 [(0, v)] (ae P t) = some (F, B) ∧ aT (h.push B) x (F h.n) (ae P t) (ae P t) = some (.sl k o n c, h') ∧ New N h' el (.sl k o n c) (cs ++ [v]) ∧ Same N h h' ∧ HpOk h' := by
 have S := Same.push (N := N) hN (HB.cells [v] 0 el)
 have hb2 : (cs.length + [v].length) * b ≤ 70368744177664 := by
  have : (cs.length + 1) * b ≤ 1099511627776 * 64 := Nat.mul_le_mul (by omega) hb
  simpa using this
 obtain ⟨x', h', a1, a2, a3, a4⟩ := New.app (bytes := b) (z := [z0]) (t' := .slice el 1 b [z0]) (ok.push (HB.cells [v] 0 el)) (by show N ≤ h.n + 1; omega) (r.mono (Same.push (Nat.le_refl _) _) (Nat.le_refl _)) (jQ (h := h) (v := v) (el := el)) (by simp [hv]) rfl ⟨_, _, _, rfl⟩ hb2 (by simp; omega)
 obtain ⟨k, rfl, _⟩ := zb (a2.got (by simp)) (by simp)
 exact ⟨_, _, _, _, _, _, h', by rw [ht]; exact gF hv, by rw [ht]; exact a1, a2, S.trans a3, a4⟩
section
variable {K : Ctx} {h : Hp}
theorem I8 (H : Std K) : ab K.P .eql 26 .nils .nils = some (.bo true) := by
 have : nB Tryz.prog 26 .nils .nils = some true := by simp only [nB, gG]
 rw [H.hP]; simp only [ab, nT, this]
theorem I9 (H : Std K) {k o n c : Nat} : ab K.P .eql 26 (.sl k o n c) .nils = some (.bo false) := by
 have : nB Tryz.prog 26 (.sl k o n c) .nils = some false := by simp only [nB, gG]
 rw [H.hP]; simp only [ab, nT, this]
theorem Gt (H : Std K) (PC : bT K) {g0 : Hp} (bC : HpOk g0) {l c : List (List Int)} (hl : fP l) (hc : fP c) {x v5 : CV} {cs ds : List CV} (hx : Row g0 x cs) (hxs : Rows g0 cs l) (hy : Row g0 v5 ds) (hys : Rows g0 ds c) {g : Hp} (ok : HpOk g) (S0 : Same g0.n g0 g) {z : CV} (hz : New g0.n g 45 z []) (hzs : ∃ k o n c, z = .sl k o n c) {x4 : CV} {s : Fr} (s0 : s.at 0 = x) (s3 : s.at 3 = z) (s4 : s.at 4 = x4) (s5 : s.at 5 = v5) (s6 : s.at 6 = .nu .i64 (.ofNat 0)) (hs : s.at ag = .undef) :
  ∃ s' g', cY K [1, 0, 0, 0, 1, 0, 1, 0, 0, 1, 0, 0, 1, 1, 1, 1] s g .normal s' g' ∧ HpOk g' ∧ Same g0.n g0 g' ∧ s'.at 0 = x ∧ s'.at 4 = x4 ∧ s'.at ag = .undef ∧ ∃ k o n c' es, s'.at 3 = .sl k o n c' ∧ New g0.n g' 45 (.sl k o n c') es ∧ Rows g0 es (l.filter fun a => !decide (a ∈ c)) := by
 have hcl := hxs.length
 exact bA (K := K) (f := 43) (n := 51) (c := aL [1, 0, 0, 0, 1, 0, 1, 0, 0, 1, 0, 0, 1, 1, 1, 1, 0, 0] (ax Tryz.f43)) (s := s) (h := g) (m := l.length) (b := 4)
  (I := fun i s g => HpOk g ∧ Same g0.n g0 g ∧ s.at 0 = x ∧ s.at 4 = x4 ∧ s.at 5 = v5 ∧ s.at 6 = .nu .i64 (.ofNat i) ∧ s.at ag = .undef ∧ ∃ k o n c' es, s.at 3 = .sl k o n c' ∧ New g0.n g 45 (.sl k o n c') es ∧ Rows g0 es ((l.take i).filter fun a => !decide (a ∈ c)))
  (E := fun s' g' => HpOk g' ∧ Same g0.n g0 g' ∧ s'.at 0 = x ∧ s'.at 4 = x4 ∧ s'.at ag = .undef ∧ ∃ k o n c' es, s'.at 3 = .sl k o n c' ∧ New g0.n g' 45 (.sl k o n c') es ∧ Rows g0 es (l.filter fun a => !decide (a ∈ c)))
  ⟨ok, S0, s0, s4, s5, s6, hs, by
    obtain ⟨k, o, n, c', e⟩ := hzs
    subst e
    exact ⟨k, o, n, c', [], s3, hz, .nil⟩⟩
  (fun i s g hi ⟨okg, S, h0, h4, h5, h6, gs, k, o, n, c', es, h3, hN, hr⟩ => by
    have hx2 := hx.mono S bC (Nat.le_refl _)
    have hlen := bS H hx2
    rw [hcl] at hlen
    obtain ⟨p, hp1, hp2⟩ := dT H hx2 (i := i) (by omega)
    have hri := hxs.get (i := i) (by omega) hi
    have hin := oQ H hc.len (fun t ht => by have := hc.each t ht; omega) (hy.mono S bC (Nat.le_refl _)) (hys.mono S bC (Nat.le_refl _)) (hri.mono S bC (Nat.le_refl _))
    have hlr := hr.length
    have hfl := kE (fun a => !decide (a ∈ c)) l i
    have hll := hl.len
    have hnn := pJ (l := c) (s := l[i])
    by_cases hq : l[i] ∈ c
    · exact ⟨_, _, jf H.hk H.prim PC h6 h0 h5 hlen (aJ hi) hp1 hp2 hin (by rw [gR, hnn.2 hq]; rfl) (bh (by omega)), okg, S, h0, h4, h5, rfl, gs, k, o, n, c', es, h3, hN, by rw [yS hi (by simpa using hq)]; exact hr⟩
    · have hq' : ck 0 (oP c l[i]) = false := by
       cases hz : ck 0 (oP c l[i]) with
       | false => rfl
       | true => exact absurd (hnn.1 hz) hq
      obtain ⟨F, B, k', o', n', c'', h', a1, a2, a3, a4, a5⟩ := IB (P := K.P) (t := 26) (v := cs[i]) (by rw [H.hP]; exact gG) okg S.n hN hri.one (by decide) (by omega)
      exact ⟨_, _, je H.hk H.prim PC h6 h0 h5 h3 hlen (aJ hi) hp1 hp2 hin (by rw [gR, hq']; rfl) hp2 a1 a2 (bh (by omega)), a5, S.trans a4, h0, h4, h5, rfl, gs, k', o', n', c'', _, rfl, a3, by rw [yR hi (by simpa using hq)]; exact hr.snoc hri⟩)
  (fun s g ⟨okg, S, h0, h4, h5, h6, gs, hrest⟩ => by
    have hlen := bS H (hx.mono S bC (Nat.le_refl _))
    rw [hcl] at hlen
    exact ⟨_, _, jF H.hk H.prim PC h6 h0 hlen (aQ (Nat.le_refl _)), okg, S, h0, h4, gs, by rw [List.take_length] at hrest; exact hrest⟩)
theorem wd (H : Std K) (PB : cw K) (PC : bT K) (ok : HpOk h) {l : List (List Int)} (hl : fP l) {x : CV} {cs : List CV} (hx : Row h x cs) (hxs : Rows h cs l) {s : Fr} (s0 : s.at 0 = x) (s3 : s.at 3 = .nils) (s4 : s.at 4 = .nu .i64 (.ofNat 0)) (hs : s.at ag = .undef) :
  ∃ s' g, cY K [1, 0, 0, 0, 1, 0, 1] s h .normal s' g ∧ HpOk g ∧ Same h.n h g ∧ s'.at 0 = x ∧ s'.at ag = .undef ∧
   ((s'.at 3 = .nils ∧ ∀ i (hi : i < l.length), (dU l l[i]).length ≠ 2) ∨ ∃ i, ∃ hi : i < l.length, (∀ j (hj : j < l.length), j < i → (dU l l[j]).length ≠ 2) ∧ (dU l l[i]).length = 2 ∧ ∃ k o n c, s'.at 3 = .sl k o n c ∧ Val g (.sl k o n c) (tg l l[i])) := by
 have hcl := hxs.length
 have hT26 : ae K.P 26 = .slice 45 1 24 [.nils] := by rw [H.hP]; exact gG
 rcases bQ (K := K) (f := 43) (n := 51) (c := aL [1, 0, 0, 0, 1, 0, 1, 0, 0] (ax Tryz.f43)) (s := s) (h := h) (m := l.length) (b := 2) (R := fun _ _ => False)
  (I := fun i s g => HpOk g ∧ Same h.n h g ∧ s.at 0 = x ∧ s.at ag = .undef ∧ s.at 4 = .nu .i64 (.ofNat i) ∧
    ((s.at 3 = .nils ∧ ∀ j (hj : j < l.length), j < i → (dU l l[j]).length ≠ 2) ∨ ∃ i, ∃ hi : i < l.length, (∀ j (hj : j < l.length), j < i → (dU l l[j]).length ≠ 2) ∧ (dU l l[i]).length = 2 ∧ ∃ k o n c, s.at 3 = .sl k o n c ∧ Val g (.sl k o n c) (tg l l[i])))
  (E := fun s' g => HpOk g ∧ Same h.n h g ∧ s'.at 0 = x ∧ s'.at ag = .undef ∧
    ((s'.at 3 = .nils ∧ ∀ i (hi : i < l.length), (dU l l[i]).length ≠ 2) ∨ ∃ i, ∃ hi : i < l.length, (∀ j (hj : j < l.length), j < i → (dU l l[j]).length ≠ 2) ∧ (dU l l[i]).length = 2 ∧ ∃ k o n c, s'.at 3 = .sl k o n c ∧ Val g (.sl k o n c) (tg l l[i])))
  ⟨ok, Same.refl _ _, s0, hs, s4, .inl ⟨s3, fun j _ hj => absurd hj (Nat.not_lt_zero _)⟩⟩
  (fun i s g hi ⟨okg, S, g0, gs, g4, hst⟩ => by
    have hx2 := hx.mono S ok (Nat.le_refl _)
    have hxs2 := hxs.mono S ok (Nat.le_refl _)
    have hlen := bS H hx2
    rw [hcl] at hlen
    rcases hst with ⟨g3, hno⟩ | ⟨i', hi', hno, h2, k, o, n, c, g3, hv⟩
    case inr =>
     exact .inr (.inr ⟨_, _, ay (oI H.hk H.prim PC g4 g0 g3 hlen (aJ hi) (I9 H) rfl) (by simp), okg, S, g0, gs, .inr ⟨i', hi', hno, h2, k, o, n, c, g3, hv⟩⟩)
    obtain ⟨p, hp1, hp2⟩ := dT H hx2 (i := i) (by omega)
    have hri := hxs2.get (i := i) (by omega) hi
    obtain ⟨v5, g1, c60, S1, bH, ds, o5, hr5⟩ := zS H PB okg hl (b := l[i]) (by have := hl.each _ (List.getElem_mem hi); omega) hx2 hxs2 hri
    have hr5' : Rows g1 ds (dU l l[i]) := hr5.mono S1 okg (Nat.le_refl _)
    have l5 := bS H o5.row
    rw [hr5'.length] at l5
    have hcsm : fP (dU l l[i]) := ⟨by have := List.length_filter_le (fun a => cz a l[i]) l; have := hl.len; unfold dU; omega, fun a ha => hl.each a (mI.1 ha).1⟩
    obtain ⟨sA, rA, a0, a3, a4, as'⟩ : ∃ sA, cY K [1, 0, 0, 0, 1, 0, 1, 0, 0, 0] s g .normal sA g ∧ sA.at 0 = x ∧ sA.at 3 = .nils ∧ sA.at 4 = .nu .i64 (.ofNat i) ∧ sA.at ag = .undef := ⟨_, oH H.hk H.prim PC g4 g0 g3 hlen (aJ hi) (I8 H) rfl, g0, g3, g4, gs⟩
    obtain ⟨sB, rB, b0, b3, b4, b5, bs⟩ : ∃ sB, cY K [1, 0, 0, 0, 1, 0, 1, 0, 0, 1, 0, 0, 0] sA g .normal sB g1 ∧ sB.at 0 = x ∧ sB.at 3 = .nils ∧ sB.at 4 = .nu .i64 (.ofNat i) ∧ sB.at 5 = v5 ∧ sB.at ag = .undef := ⟨_, Pe H.hk a0 a4 hp1 hp2 (H.prim _ _) c60, a0, a3, a4, rfl, as'⟩
    by_cases h2 : (dU l l[i]).length = 2
    case neg =>
     refine .inl ⟨_, g1, Runs.seq rA (Runs.seq (aV (Runs.seq rB (ay (mA H.hk H.prim PC b5 l5 (gz (by simp; omega))) (by simp)))) (Fw H.hk b4 (bh (by have := hl.len; omega)))), bH, S.trans (S1.le S.n), b0, bs, rfl, .inl ⟨b3, fun j hj hji => ?_⟩⟩
     rcases Nat.lt_or_ge j i with hlt | hge
     · exact hno j hj hlt
     · obtain rfl : j = i := by omega
       exact h2
    have S2 : Same g1.n g1 (g1.push (.cells [] 0 45)) := Same.push (Nat.le_refl _) _
    obtain ⟨sZ, rZ, z0, z3, z4, z5, zs⟩ : ∃ sZ, cY K [1, 0, 0, 0, 1, 0, 1, 0, 0, 1, 0, 0, 1, 0] sB g1 .normal sZ g1 ∧ sZ.at 0 = x ∧ sZ.at 3 = .nils ∧ sZ.at 4 = .nu .i64 (.ofNat i) ∧ sZ.at 5 = v5 ∧ sZ.at ag = .undef := ⟨_, mB H.hk H.prim PC b5 l5 (eV (by simp; omega)), b0, b3, b4, b5, bs⟩
    obtain ⟨sY, rY, y0, y3, y4, y5, ys⟩ : ∃ sY, cY K [1, 0, 0, 0, 1, 0, 1, 0, 0, 1, 0, 0, 1, 1, 0] sZ g1 .normal sY (g1.push (.cells [] 0 45)) ∧ sY.at 0 = x ∧ sY.at 3 = .sl g1.n 0 0 0 ∧ sY.at 4 = .nu .i64 (.ofNat i) ∧ sY.at 5 = v5 ∧ sY.at ag = .undef := ⟨_, Pf (F26 := fun k => .sl k 0 0 0) (B26 := .cells [] 0 45) H.hk (by rw [hT26]; rfl), z0, rfl, z4, z5, zs⟩
    obtain ⟨sC, rC, d0, d3, d4, d5, d6, ds'⟩ : ∃ sC, cY K [1, 0, 0, 0, 1, 0, 1, 0, 0, 1, 0, 0, 1, 1, 1, 0] sY (g1.push (.cells [] 0 45)) .normal sC (g1.push (.cells [] 0 45)) ∧ sC.at 0 = x ∧ sC.at 3 = .sl g1.n 0 0 0 ∧ sC.at 4 = .nu .i64 (.ofNat i) ∧ sC.at 5 = v5 ∧ sC.at 6 = .nu .i64 (.ofNat 0) ∧ sC.at ag = .undef := ⟨_, Pg H.hk, y0, y3, y4, y5, rfl, ys⟩
    obtain ⟨sD, g2, rD, dd, S3, e0, e4, es', k, o, n, c', es, e3, hN, hr⟩ := Gt H PC bH hl hcsm (hx2.mono S1 okg (Nat.le_refl _)) (hxs2.mono S1 okg (Nat.le_refl _)) o5.row hr5' (bH.push _) S2 (New.emp (Nat.le_refl _) (by show g1.n < g1.n + 1; omega) (by rw [aB, if_pos rfl])) ⟨_, _, _, _, rfl⟩ d0 d3 d4 d5 d6 ds'
    exact .inl ⟨_, g2, Runs.seq rA (Runs.seq (aq (Runs.seq rB (Runs.seq rZ (Runs.seq rY (Runs.seq rC rD))))) (Fw H.hk e4 (bh (by have := hl.len; omega)))), dd, (S.trans (S1.le S.n)).trans (S3.le (S.trans (S1.le S.n)).n), e0, es', rfl, .inr ⟨i, hi, hno, h2, k, o, n, c', e3, es, hN.row, hr.mono S3 bH (Nat.le_refl _)⟩⟩)
  (fun s g ⟨okg, S, g0, gs, g4, hst⟩ => by
    have hlen := bS H (hx.mono S ok (Nat.le_refl _))
    rw [hcl] at hlen
    refine ⟨_, _, ay (oJ H.hk H.prim PC g4 g0 hlen (aQ (Nat.le_refl _)) rfl) (by simp), okg, S, g0, gs, ?_⟩
    rcases hst with ⟨g3, hno⟩ | hf
    · exact .inl ⟨g3, fun i hi => hno i hi hi⟩
    · exact .inr hf)
  with ⟨s', g, r, q⟩ | ⟨_, _, _, hf⟩
 · exact ⟨s', g, r, q⟩
 · exact hf.elim
theorem C7 (H : Std K) (PB : cw K) (PC : bT K) {l m : List (List Int)} (c : Colf l m) : Cx l → ∀ {g : Hp} {x : CV}, HpOk g → Val g x l → ∀ {s : Fr}, s.at 0 = x → s.at ag = .undef →
  ∃ s' g' r, cY K [1, 0] s g .ret s' g' ∧ HpOk g' ∧ Same g.n g g' ∧ s'.at 2 = r ∧ s'.at ag = .undef ∧ Val g' r m := by
 induction c with
 | @done l hD =>
  intro hC g x ok V s s0 hs
  obtain ⟨cs, hx, hxs⟩ := V
  obtain ⟨s1, r1, a0, a3, as1⟩ : ∃ s1, cY K [1, 0, 0, 0, 0] s g .normal s1 g ∧ s1.at 0 = x ∧ s1.at 3 = .nils ∧ s1.at ag = .undef := ⟨_, Ft H.hk, s0, rfl, hs⟩
  obtain ⟨s2, r2, b0, b3, b4, bs⟩ : ∃ s2, cY K [1, 0, 0, 0, 1, 0, 0] s1 g .normal s2 g ∧ s2.at 0 = x ∧ s2.at 3 = .nils ∧ s2.at 4 = .nu .i64 (.ofNat 0) ∧ s2.at ag = .undef := ⟨_, Fu H.hk, a0, a3, rfl, as1⟩
  obtain ⟨s3, g1, r3, bH, S1, c0, cs', hres⟩ := wd H PB PC ok hC.sml hx hxs b0 b3 b4 bs
  rcases hres with ⟨c3, _⟩ | ⟨i, hi, _, h2, _⟩
  · exact ⟨_, g1, x, aS (aK (Runs.seq r1 (Runs.seq (Runs.seq r2 r3) (wL H.hk H.prim PC c3 c0 (I8 H))))) (by simp), bH, S1, rfl, cs', Val.mono S1 ok ⟨cs, hx, hxs⟩⟩
  · obtain ⟨t, F⟩ := BI (Srt.nodup hC.srt) (List.getElem_mem hi) h2
    exact absurd F (hD _ _)
 | @step l n i k hik hk F first c ih =>
  intro hC g x ok V s s0 hs
  obtain ⟨cs, hx, hxs⟩ := V
  have hn := Srt.nodup hC.srt
  have hi : i < l.length := by omega
  have F' := F
  rw [cG hk, cG hi] at F'
  have st := Step.of hn hik hk F'
  have hC' := st.cx hC
  obtain ⟨s1, r1, a0, a3, as1⟩ : ∃ s1, cY K [1, 0, 0, 0, 0] s g .normal s1 g ∧ s1.at 0 = x ∧ s1.at 3 = .nils ∧ s1.at ag = .undef := ⟨_, Ft H.hk, s0, rfl, hs⟩
  obtain ⟨s2, r2, b0, b3, b4, bs⟩ : ∃ s2, cY K [1, 0, 0, 0, 1, 0, 0] s1 g .normal s2 g ∧ s2.at 0 = x ∧ s2.at 3 = .nils ∧ s2.at 4 = .nu .i64 (.ofNat 0) ∧ s2.at ag = .undef := ⟨_, Fu H.hk, a0, a3, rfl, as1⟩
  obtain ⟨s3, g1, r3, bH, S1, c0, cs', hres⟩ := wd H PB PC ok hC.sml hx hxs b0 b3 b4 bs
  rcases hres with ⟨_, hno⟩ | ⟨i', hi', hno, h2, ka, ko, kn, kc, c3, hv⟩
  · exact absurd (BJ hn F') (hno i hi)
  · have hii : i' = i := by
     rcases Nat.lt_trichotomy i' i with h | h | h
     · obtain ⟨t, F2⟩ := BI hn (List.getElem_mem hi') h2
       exact absurd (by rw [cG hi']; exact F2) (first i' h t)
     · exact h
     · exact absurd (BJ hn F') (hno i hi h)
    subst hii
    rw [Gs hC.srt st] at hv
    obtain ⟨s4, r4, d0, ds⟩ : ∃ s4, cY K [1, 0, 0, 0, 1, 1] s3 g1 .normal s4 g1 ∧ s4.at 0 = .sl ka ko kn kc ∧ s4.at ag = .undef := ⟨_, wM H.hk H.prim PC c3 (I9 H), rfl, cs'⟩
    obtain ⟨s', g', r, r5, ok', S', e2, es, hv'⟩ := ih hC' bH hv d0 ds
    exact ⟨s', g', r, Runs.loop (aq (Runs.seq r1 (Runs.seq (Runs.seq r2 r3) r4))) r5, ok', S1.trans (S'.le S1.n), e2, es, hv'⟩
theorem Gu (H : Std K) (PB : cw K) (PC : bT K) (ok : HpOk h) {l m : List (List Int)} (hC : Cx l) (c : Colf l m) {x : CV} (V : Val h x l) : ga K 43 [x] h fun r h' => Val h' r m := by
 have hf : K.P.funcs[43]? = some Tryz.f43 := by rw [H.hP]; exact Tryz.func43
 obtain ⟨s', g', r, r1, ok', S, h2, hs, hv⟩ := C7 H PB PC c hC ok V (s := T.set (entry 0 [x]) 2 .nils) rfl rfl
 exact ⟨r, g', H.go hf (Runs.seq (Pc H.hk) (aK r1)) (.inr rfl) S.n hs (vs := [s'.at 2]) rfl h2, S, ok', hv⟩
end
theorem QU : ae Tryz.prog 122 = .arr 64 3 1 false (dK [.nu .i64 0] 64) := by kernel_rfl
theorem QV : ep Tryz.prog 122 = some (.agg (dK [.nu .i64 0] 64)) := by kernel_rfl
def bm (f : Nat → Nat) : List CV := (List.range 64).map fun w => CV.nu .i64 (Int.ofNat (f w))
theorem th (f : Nat → Nat) : (bm f).length = 64 := by simp [bm]
theorem nz (f : Nat → Nat) {i : Nat} (hi : i < (bm f).length) : (bm f)[i] = .nu .i64 (.ofNat (f i)) := by simp [bm]
theorem C8 (f : Nat → Nat) {i m : Nat} (hi : i < 64) : (bm f).set i (.nu .i64 (.ofNat m)) = bm fun w => if w = i then m else f w := by
 apply List.ext_getElem
 · simp [bm]
 · intro j h1 h2
   rw [List.getElem_set, nz (fun w => if w = i then m else f w) h2]
   split
   · rename_i h; subst h; rw [if_pos rfl]
   · rename_i h; rw [nz, if_neg (Ne.symm h)]
theorem Gv (f : Nat → Nat) (a b : Int) : dc f [a, b] = fun w => if w = b.toNat then min (f a.toNat) (f b.toNat) else if w = a.toNat then min (f a.toNat) (f b.toNat) else f w := by
 funext w
 simp only [dc]
 by_cases h1 : w = b.toNat
 · rw [if_pos (.inr h1), if_pos h1]
 · rw [if_neg h1]
   by_cases h2 : w = a.toNat
   · rw [if_pos (.inl h2), if_pos h2]
   · rw [if_neg h2, if_neg (fun h => h.elim h2 h1)]
theorem z6 (f : Nat → Nat) {s : List Int} (h : s.length ≠ 2) : dc f s = f := by
 unfold dc
 split
 · simp at h
 · rfl
section
variable {K : Ctx} {h : Hp}
theorem kK (H : Std K) {k : Nat} {f : Nat → Nat} (hg : h.get k = .cells (bm f) 0 122) {i : Nat} (hi : i < 64) : ∃ p, af (.ptr k 0) (.nu .i64 (.ofNat i)) (ae K.P 122) = some p ∧ ah h p (ao K.P 3) = some (.nu .i64 (.ofNat (f i))) ∧ ∀ m : Nat, bg h p (.nu .i64 (.ofNat m)) (ao K.P 3) = some (.undef, h.set k (.cells (bm fun w => if w = i then m else f w) 0 122)) := by
 have tz3 : ao K.P 3 = some (1, false) := by rw [H.hP]; exact z3
 have hb : Nat.blt i 64 = true := by simpa using hi
 refine ⟨.ptr k (0 + i * 1), ?_, ?_, fun m => ?_⟩
 · rw [H.hP, QU]; simp only [af, nU, hb]
 · rw [tz3]
   show dj (0 + i * 1) 1 false (h.get k) = _
   rw [hg]
   have hl : i < (bm f).length := by rw [th]; exact hi
   have hle : Nat.ble (0 + i * 1 + 1) (bm f).length = true := Nat.ble_eq_true_of_le (by omega)
   simp only [dj, val, hle, Nat.beq_refl]
   rw [show 0 + i * 1 = i by omega, List.getElem?_eq_getElem hl, nz]
 · rw [tz3]
   show de h k (0 + i * 1) 1 (.nu .i64 (.ofNat m)) (h.get k) = _
   have hle : Nat.ble (0 + i * 1 + 1) (bm f).length = true := Nat.ble_eq_true_of_le (by rw [th]; omega)
   have hso : CV.sol (.nu .i64 (.ofNat m)) = true := rfl
   have hce : CV.cells (.nu .i64 (.ofNat m)) = [.nu .i64 (.ofNat m)] := rfl
   rw [hg]
   simp only [de, hso, hce, hle, List.length_cons, List.length_nil, iN]
   rw [show 0 + i * 1 = i by omega, C8 f hi]
   rfl
theorem QD (a b : Nat) : iU (.nu .i64 (.ofNat a)) (.nu .i64 (.ofNat b)) = some (.nu .i64 (.ofNat (min a b))) := by
 show some (CV.nu .i64 (match ck (.ofNat a) (.ofNat b) with | true => .ofNat a | false => .ofNat b)) = _
 rw [show ck (.ofNat a) (.ofNat b) = Nat.ble a b from rfl]
 rcases Nat.lt_or_ge b a with h | h
 · rw [CE h, Nat.min_eq_right (by omega)]
 · rw [I2 h, Nat.min_eq_left h]
theorem C9 (H : Std K) (PC : bT K) {h0 : Hp} (bC : HpOk h0) {l : List (List Int)} (hC : Cx l) {x : CV} {cs : List CV} (hx : Row h0 x cs) (hxs : Rows h0 cs l) {k : Nat} (hk : h0.n ≤ k) {g : Hp} (ok : HpOk g) (S : Same h0.n h0 g) (hkn : k < g.n) {f : Nat → Nat} (hg : g.get k = .cells (bm f) 0 122) {x5 : CV} {s : Fr} (s0 : s.at 0 = x) (s3 : s.at 3 = .ptr k 0) (s5 : s.at 5 = x5) (hs : s.at ag = .undef) :
  ∃ s' g', bL K [1, 1, 1, 0, 1, 0, 0, 1, 0, 0] s g .normal s' g' ∧ HpOk g' ∧ Same h0.n h0 g' ∧ k < g'.n ∧ g'.get k = .cells (bm (kJ l f)) 0 122 ∧ s'.at 0 = x ∧ s'.at 3 = .ptr k 0 ∧ s'.at 5 = x5 ∧ s'.at ag = .undef := by
 have hcl := hxs.length
 have hll := hC.le
 obtain ⟨sA, rA, a0, a3, a5, a6, as1⟩ : ∃ sA, bL K [1, 1, 1, 0, 1, 0, 0, 1, 0, 0, 0] s g .normal sA g ∧ sA.at 0 = x ∧ sA.at 3 = .ptr k 0 ∧ sA.at 5 = x5 ∧ sA.at 6 = .nu .i64 (.ofNat 0) ∧ sA.at ag = .undef := ⟨_, Pa H.hk, s0, s3, s5, rfl, hs⟩
 obtain ⟨s', g', r, q⟩ := bA (K := K) (f := 42) (n := 100) (c := aL [1, 1, 1, 0, 1, 0, 0, 1, 0, 0, 1, 0, 0] (ax Tryz.f42)) (s := sA) (h := g) (m := l.length) (b := 4)
  (I := fun i s g => HpOk g ∧ Same h0.n h0 g ∧ k < g.n ∧ g.get k = .cells (bm ((l.take i).foldl dc f)) 0 122 ∧ s.at 0 = x ∧ s.at 3 = .ptr k 0 ∧ s.at 5 = x5 ∧ s.at 6 = .nu .i64 (.ofNat i) ∧ s.at ag = .undef)
  (E := fun s' g' => HpOk g' ∧ Same h0.n h0 g' ∧ k < g'.n ∧ g'.get k = .cells (bm (kJ l f)) 0 122 ∧ s'.at 0 = x ∧ s'.at 3 = .ptr k 0 ∧ s'.at 5 = x5 ∧ s'.at ag = .undef)
  ⟨ok, S, hkn, hg, a0, a3, a5, a6, as1⟩
  (fun i s g hi ⟨okg, S, hkn, hg, g0, g3, g5, g6, gs⟩ => by
    have hx2 := hx.mono S bC (Nat.le_refl _)
    have hlen := bS H hx2
    rw [hcl] at hlen
    obtain ⟨p, hp1, hp2⟩ := dT H hx2 (i := i) (by omega)
    have hr0 := hxs.get (i := i) (by omega) hi
    have hri := hr0.mono S bC (Nat.le_refl _)
    have l2 := cL H hri
    rw [ar] at l2
    have hok := hC.ok _ (List.getElem_mem hi)
    have hfold : (l.take (i + 1)).foldl dc f = dc ((l.take i).foldl dc f) l[i] := by rw [bK hi, List.foldl_append]; rfl
    generalize (l.take i).foldl dc f = F at hg hfold
    by_cases h2 : l[i].length = 2
    case neg =>
     exact ⟨_, _, mw H.hk H.prim PC g6 g0 hlen (aJ hi) hp1 hp2 l2 (fv (by simp; omega)) (bh (by omega)), okg, S, hkn, by rw [hfold, z6 _ h2]; exact hg, g0, g3, g5, rfl, gs⟩
    have l0p : 0 < l[i].length := by omega
    have l1p : 1 < l[i].length := by omega
    have ra := hok.rng l[i][0] (List.getElem_mem l0p)
    have rb := hok.rng l[i][1] (List.getElem_mem l1p)
    have ea : l[i][0] = Int.ofNat l[i][0].toNat := (Int.toNat_of_nonneg ra.1).symm
    have eb : l[i][1] = Int.ofNat l[i][1].toNat := (Int.toNat_of_nonneg rb.1).symm
    have hab : l[i] = [l[i][0], l[i][1]] := by
     apply List.ext_getElem
     · simpa using h2
     · intro j j1 j2
       match j, j2 with
       | 0, _ => rfl
       | 1, _ => rfl
    generalize l[i][0].toNat = a at ea
    generalize l[i][1].toNat = b at eb
    have ha : a < 64 := by rw [ea] at ra; simp only [Int.ofNat_eq_natCast] at ra; omega
    have hb : b < 64 := by rw [eb] at rb; simp only [Int.ofNat_eq_natCast] at rb; omega
    obtain ⟨q0, hq01, hq02⟩ := fM H hri (i := 0) l0p
    obtain ⟨q1, hq11, hq12⟩ := fM H hri (i := 1) l1p
    rw [ea] at hq02
    rw [eb] at hq12
    obtain ⟨c0, hc01, hc02, hc03⟩ := kK H hg ha
    obtain ⟨c1, hc11, hc12, hc13⟩ := kK H hg hb
    have S1 : Same h0.n g (g.set k (.cells (bm fun w => if w = a then min (F a) (F b) else F w) 0 122)) := Same.set hk _
    have bH := okg.set hkn (.cells (bm fun w => if w = a then min (F a) (F b) else F w) 0 122)
    have hg1 : (g.set k (.cells (bm fun w => if w = a then min (F a) (F b) else F w) 0 122)).get k = .cells (bm fun w => if w = a then min (F a) (F b) else F w) 0 122 := by rw [Hp.get_set, if_pos rfl]
    have hx3 := hx.mono (S.trans S1) bC (Nat.le_refl _)
    obtain ⟨p', hp1', hp2'⟩ := dT H hx3 (i := i) (by omega)
    have hpp : p' = p := by rw [hp1] at hp1'; injection hp1' with e; exact e.symm
    subst hpp
    have hri3 := hr0.mono (S.trans S1) bC (Nat.le_refl _)
    obtain ⟨q1', hq11', hq12'⟩ := fM H hri3 (i := 1) l1p
    have hqq : q1' = q1 := by rw [hq11] at hq11'; injection hq11' with e; exact e.symm
    subst hqq
    rw [eb] at hq12'
    obtain ⟨c1', hc11', _, hc13'⟩ := kK H hg1 hb
    have hcc : c1' = c1 := by rw [hc11] at hc11'; injection hc11' with e; exact e.symm
    subst hcc
    refine ⟨_, _, mv H.hk H.prim PC g6 g0 g3 hlen (aJ hi) hp1 hp2 l2 (jj (by rw [h2]; rfl)) hri.ceq hq01 hq02 (ee _) hc01 hc02 (ee _) hq11 hq12 hc11 hc12 (QD _ _) (hc03 _) hp2' hq11' hq12' hc11' (hc13' _) (bh (by omega)), bH.set hkn _, (S.trans S1).trans (Same.set hk _), hkn, ?_, g0, g3, g5, rfl, gs⟩
    rw [Hp.get_set, if_pos rfl, hfold, hab, ea, eb, Gv]
    rfl)
  (fun s g ⟨okg, S, hkn, hg, g0, g3, g5, g6, gs⟩ => by
    have hlen := bS H (hx.mono S bC (Nat.le_refl _))
    rw [hcl] at hlen
    exact ⟨_, _, np H.hk H.prim PC g6 g0 hlen (aQ (Nat.le_refl _)), okg, S, hkn, by rw [List.take_length] at hg; exact hg, g0, g3, g5, gs⟩)
 exact ⟨s', g', Runs.seq rA r, q⟩
theorem z7 (H : Std K) (PC : bT K) {h0 : Hp} (bC : HpOk h0) {l : List (List Int)} (hC : Cx l) {x : CV} {cs : List CV} (hx : Row h0 x cs) (hxs : Rows h0 cs l) {s : Fr} (s0 : s.at 0 = x) (hs : s.at ag = .undef) :
  ∃ s' g', (∀ {y : Code} {e : Exit} {s2 : Fr} {g2 : Hp}, Runs K 42 100 none y s' g' e s2 g2 → Runs K 42 100 none (.seq (aL [1, 0] (ax Tryz.f42)) (.seq (aL [1, 1, 0] (ax Tryz.f42)) (.seq (aL [1, 1, 1, 0] (ax Tryz.f42)) y))) s h0 e s2 g2) ∧ HpOk g' ∧ Same h0.n h0 g' ∧ h0.n < g'.n ∧ g'.get h0.n = .cells (bm (eY l)) 0 122 ∧ s'.at 0 = x ∧ s'.at 3 = .ptr h0.n 0 ∧ s'.at ag = .undef := by
 have te : ep K.P 122 = some (.agg (dK [.nu .i64 0] 64)) := by rw [H.hP]; exact QV
 let h1 : Hp := h0.push (.cells (bm fun _ => 0) 0 122)
 have hz : dK [CV.nu .i64 0] 64 = bm fun _ => 0 := by kernel_rfl
 obtain ⟨sA, rA, a0, a3, as1⟩ : ∃ sA, bL K [1, 0] s h0 .normal sA h1 ∧ sA.at 0 = x ∧ sA.at 3 = .ptr h0.n 0 ∧ sA.at ag = .undef := ⟨_, OY (F3 := fun k => .ptr k 0) (B3 := .cells (bm fun _ => 0) 0 122) H.hk (by rw [te, hz]; rfl), s0, rfl, hs⟩
 obtain ⟨sB, rB, b0, b3, b4, bs⟩ : ∃ sB, bL K [1, 1, 0, 0] sA h1 .normal sB h1 ∧ sB.at 0 = x ∧ sB.at 3 = .ptr h0.n 0 ∧ sB.at 4 = .nu .i64 (.ofNat 0) ∧ sB.at ag = .undef := ⟨_, OZ H.hk, a0, a3, rfl, as1⟩
 obtain ⟨sC, g2, rC, dd, S2, hn2, hg2, c0, c3, cs'⟩ := bA (K := K) (f := 42) (n := 100) (c := aL [1, 1, 0, 1, 0, 0] (ax Tryz.f42)) (s := sB) (h := h1) (m := 64) (b := 0)
  (I := fun i s g => HpOk g ∧ Same h0.n h0 g ∧ h0.n < g.n ∧ g.get h0.n = .cells (bm fun w => if w < i then w else 0) 0 122 ∧ s.at 0 = x ∧ s.at 3 = .ptr h0.n 0 ∧ s.at ag = .undef ∧ s.at 4 = .nu .i64 (.ofNat i))
  (E := fun s g => HpOk g ∧ Same h0.n h0 g ∧ h0.n < g.n ∧ g.get h0.n = .cells (bm fun w => w) 0 122 ∧ s.at 0 = x ∧ s.at 3 = .ptr h0.n 0 ∧ s.at ag = .undef)
  ⟨bC.push _, Same.push (Nat.le_refl _) _, by show h0.n < h0.n + 1; omega, by rw [aB, if_pos rfl]; rfl, b0, b3, bs, b4⟩
  (fun i s g hi ⟨okg, S, hn, hg, g0, g3, gs, g4⟩ => by
    obtain ⟨p, hp1, _, hp3⟩ := kK H hg hi
    refine ⟨_, _, wJ H.hk H.prim PC g4 g3 (aJ (y := 64) hi) hp1 (hp3 i) (bh (by omega)), okg.set hn _, S.trans (Same.set (Nat.le_refl _) _), hn, ?_, g0, g3, gs, rfl⟩
    rw [Hp.get_set, if_pos rfl]
    congr 2
    funext w
    by_cases h1 : w = i
    · subst h1; rw [if_pos rfl, if_pos (Nat.lt_succ_self _)]
    · rw [if_neg h1]
      by_cases h2 : w < i
      · rw [if_pos h2, if_pos (by omega)]
      · rw [if_neg h2, if_neg (by omega)])
  (fun s g ⟨okg, S, hn, hg, g0, g3, gs, g4⟩ => by
    refine ⟨_, _, wK H.hk H.prim PC g4 (aQ (y := 64) (Nat.le_refl _)), okg, S, hn, ?_, g0, g3, gs⟩
    rw [hg]
    have e : (bm fun w => if w < 64 then w else 0) = bm fun w => w := by
     unfold bm
     apply List.map_congr_left
     intro w hw
     show CV.nu .i64 (Int.ofNat (if w < 64 then w else 0)) = _
     rw [if_pos (List.mem_range.1 hw)]
    rw [e])
 obtain ⟨sD, rD, d0, d3, d5, ds⟩ : ∃ sD, bL K [1, 1, 1, 0, 0] sC g2 .normal sD g2 ∧ sD.at 0 = x ∧ sD.at 3 = .ptr h0.n 0 ∧ sD.at 5 = .nu .i64 (.ofNat 0) ∧ sD.at ag = .undef := ⟨_, O9 H.hk, c0, c3, rfl, cs'⟩
 obtain ⟨sE, g3, rE, q⟩ := bA (K := K) (f := 42) (n := 100) (c := aL [1, 1, 1, 0, 1, 0, 0] (ax Tryz.f42)) (s := sD) (h := g2) (m := 64) (b := 2)
  (I := fun i s g => HpOk g ∧ Same h0.n h0 g ∧ h0.n < g.n ∧ g.get h0.n = .cells (bm (bW l i)) 0 122 ∧ s.at 0 = x ∧ s.at 3 = .ptr h0.n 0 ∧ s.at ag = .undef ∧ s.at 5 = .nu .i64 (.ofNat i))
  (E := fun s g => HpOk g ∧ Same h0.n h0 g ∧ h0.n < g.n ∧ g.get h0.n = .cells (bm (eY l)) 0 122 ∧ s.at 0 = x ∧ s.at 3 = .ptr h0.n 0 ∧ s.at ag = .undef)
  ⟨dd, S2, hn2, hg2, d0, d3, ds, d5⟩
  (fun i s g hi ⟨okg, S, hn, hg, g0, g3, gs, g5⟩ => by
    obtain ⟨sX, rX, x0, x3, x5, xs⟩ : ∃ sX, bL K [1, 1, 1, 0, 1, 0, 0, 0] s g .normal sX g ∧ sX.at 0 = x ∧ sX.at 3 = .ptr h0.n 0 ∧ sX.at 5 = .nu .i64 (.ofNat i) ∧ sX.at ag = .undef := ⟨_, su H.hk H.prim PC g5 (aJ (y := 64) hi), g0, g3, g5, gs⟩
    obtain ⟨sY, g', rY, ok', S', hn', hg', y0, y3, y5, ys⟩ := C9 H PC bC hC hx hxs (Nat.le_refl _) okg S hn hg x0 x3 x5 xs
    exact ⟨_, g', Runs.seq rX (Runs.seq (aq rY) (Pb H.hk y5 (bh (by omega)))), ok', S', hn', hg', y0, y3, ys, rfl⟩)
  (fun s g ⟨okg, S, hn, hg, g0, g3, gs, g5⟩ => ⟨_, _, ay (sv H.hk H.prim PC g5 (aQ (y := 64) (Nat.le_refl _))) (by simp), okg, S, hn, hg, g0, g3, gs⟩)
 exact ⟨sE, g3, fun r => Runs.seq rA (Runs.seq (Runs.seq rB rC) (Runs.seq (Runs.seq rD rE) r)), q⟩
def jJ (l : List (List Int)) (v n : Nat) : List Int := ((List.range n).filter fun w => decide (eY l w = v) && decide ([Int.ofNat w] ∈ l)).map Int.ofNat
theorem LJ {l : List (List Int)} {v n : Nat} (h1 : eY l n = v) (h2 : [Int.ofNat n] ∈ l) : jJ l v (n + 1) = jJ l v n ++ [Int.ofNat n] := by
 unfold jJ
 rw [List.range_succ, List.filter_append, List.map_append]
 simp only [List.filter_cons, List.filter_nil, h1, h2, decide_true, Bool.and_self, if_true, List.map_cons, List.map_nil]
theorem BK {l : List (List Int)} {v n : Nat} (h : ¬ (eY l n = v ∧ [Int.ofNat n] ∈ l)) : jJ l v (n + 1) = jJ l v n := by
 unfold jJ
 rw [List.range_succ, List.filter_append, List.map_append]
 have : (decide (eY l n = v) && decide ([Int.ofNat n] ∈ l)) = false := by
  rw [Bool.and_eq_false_iff, decide_eq_false_iff_not, decide_eq_false_iff_not]
  by_cases h1 : eY l n = v
  · exact .inr fun h2 => h ⟨h1, h2⟩
  · exact .inl h1
 simp only [List.filter_cons, List.filter_nil, this, Bool.false_eq_true, if_false, List.map_nil, List.append_nil]
theorem we (l : List (List Int)) (v n : Nat) : (jJ l v n).length ≤ n := by
 unfold jJ
 rw [List.length_map]
 have := List.length_filter_le (fun w => decide (eY l w = v) && decide ([Int.ofNat w] ∈ l)) (List.range n)
 simpa using this
theorem IC (H : Std K) (PC : bT K) {h0 : Hp} (bC : HpOk h0) {l : List (List Int)} (hl : fP l) {x : CV} {cs : List CV} (hx : Row h0 x cs) (hxs : Rows h0 cs l) {v : Nat} {g : Hp} (ok : HpOk g) (S : Same h0.n h0 g) (hkn : h0.n < g.n) (hg : g.get h0.n = .cells (bm (eY l)) 0 122) {x8 : CV} {s : Fr} (s0 : s.at 0 = x) (s3 : s.at 3 = .ptr h0.n 0) (s8 : s.at 8 = x8) (s9 : s.at 9 = .nu .i64 (.ofNat v)) (s10 : s.at 10 = .nils) (s11 : s.at 11 = .nu .i64 (.ofNat 0)) (hs : s.at ag = .undef) :
  ∃ s' g', bL K [1, 1, 1, 1, 1, 0, 1, 0, 0, 1, 0, 0, 1, 0, 1] s g .normal s' g' ∧ HpOk g' ∧ Same g.n g g' ∧ s'.at 0 = x ∧ s'.at 3 = .ptr h0.n 0 ∧ s'.at 8 = x8 ∧ s'.at 9 = .nu .i64 (.ofNat v) ∧ s'.at ag = .undef ∧ Out g.n g' 3 (s'.at 10) (ak (cD l v)) := by
 have hT45 : ae K.P 45 = .slice 3 1 8 [.nu .i64 0] := by rw [H.hP]; exact t45
 exact bA (K := K) (f := 42) (n := 100) (c := aL [1, 1, 1, 1, 1, 0, 1, 0, 0, 1, 0, 0, 1, 0, 1, 0, 0] (ax Tryz.f42)) (s := s) (h := g) (m := 64) (b := 8)
  (I := fun i s g' => HpOk g' ∧ Same g.n g g' ∧ s.at 0 = x ∧ s.at 3 = .ptr h0.n 0 ∧ s.at 8 = x8 ∧ s.at 9 = .nu .i64 (.ofNat v) ∧ s.at ag = .undef ∧ s.at 11 = .nu .i64 (.ofNat i) ∧ Out g.n g' 3 (s.at 10) (ak (jJ l v i)))
  (E := fun s' g' => HpOk g' ∧ Same g.n g g' ∧ s'.at 0 = x ∧ s'.at 3 = .ptr h0.n 0 ∧ s'.at 8 = x8 ∧ s'.at 9 = .nu .i64 (.ofNat v) ∧ s'.at ag = .undef ∧ Out g.n g' 3 (s'.at 10) (ak (cD l v)))
  ⟨ok, Same.refl _ _, s0, s3, s8, s9, hs, s11, by rw [s10]; exact .nils⟩
  (fun i s g' hi ⟨okg, S', g0, g3, g8, g9, gs, g11, go⟩ => by
    have hg' : g'.get h0.n = .cells (bm (eY l)) 0 122 := by rw [S'.get _ hkn]; exact hg
    obtain ⟨p, hp1, hp2, _⟩ := kK H hg' hi
    have hle := we l v i
    have SS := S.trans (S'.le S.n)
    by_cases h1 : eY l i = v
    · have o84 : aM 1 [(0, .nu .i64 (.ofNat i))] (ae K.P 45) = some (fun k => .sl k 0 1 1, .cells [.nu .i64 (.ofNat i)] 0 3) := by rw [hT45]; exact gF rfl
      have Sp : Same g'.n g' (g'.push (.cells [.nu .i64 (.ofNat i)] 0 3)) := Same.push (Nat.le_refl _) _
      have SSp := SS.trans (Sp.le SS.n)
      have hrow : Row (g'.push (.cells [.nu .i64 (.ofNat i)] 0 3)) (.sl g'.n 0 1 1) (ak [Int.ofNat i]) := jQ
      have hin := oQ H hl.len (fun t ht => by have := hl.each t ht; omega) (hx.mono SSp bC (Nat.le_refl _)) (hxs.mono SSp bC (Nat.le_refl _)) hrow
      have hnn := pJ (l := l) (s := [Int.ofNat i])
      by_cases h2 : [Int.ofNat i] ∈ l
      · have go2 := go.mono Sp (Nat.le_refl _)
        obtain ⟨F, B, x', g'', a1, a2, a3, a4, a5⟩ := uS H (okg.push _) (Nat.le_trans S'.n (by show g'.n ≤ g'.n + 1; omega)) go2 (.ofNat i) (by omega)
        exact ⟨_, _, jb H.hk H.prim PC g11 g3 g9 g0 rfl (aJ (y := 64) hi) hp1 hp2 (jj (by rw [h1])) o84 hin (by rw [kw, hnn.2 h2]) rfl a1 a2 (bh (by omega)), a5, (S'.trans (Sp.le S'.n)).trans a4, g0, g3, g8, g9, gs, rfl, by rw [LJ h1 h2]; exact a3⟩
      · have hq' : ck 0 (oP l [Int.ofNat i]) = false := by
         cases hz : ck 0 (oP l [Int.ofNat i]) with
         | false => rfl
         | true => exact absurd (hnn.1 hz) h2
        exact ⟨_, _, jc H.hk H.prim PC g11 g3 g9 g0 (aJ (y := 64) hi) hp1 hp2 (jj (by rw [h1])) o84 hin (by rw [kw, hq']) rfl (bh (by omega)), okg.push _, S'.trans (Sp.le S'.n), g0, g3, g8, g9, gs, rfl, by rw [BK (fun h => h2 h.2)]; exact go.mono Sp (Nat.le_refl _)⟩
    · exact ⟨_, _, jd H.hk H.prim PC g11 g3 g9 (aJ (y := 64) hi) hp1 hp2 (fv (by simp only [Int.ofNat_eq_natCast]; omega)) rfl (bh (by omega)), okg, S', g0, g3, g8, g9, gs, rfl, by rw [BK (fun h => h1 h.1)]; exact go⟩)
  (fun s g' ⟨okg, S', g0, g3, g8, g9, gs, g11, go⟩ => ⟨_, _, kj H.hk H.prim PC g11 (aQ (y := 64) (Nat.le_refl _)), okg, S', g0, g3, g8, g9, gs, go⟩)
def BL (l : List (List Int)) (n : Nat) : List (List Int) := ((List.range n).map (cD l)).filter fun c => decide (c ≠ [])
theorem ID (l : List (List Int)) (n : Nat) : BL l (n + 1) = BL l n ++ if cD l n ≠ [] then [cD l n] else [] := by
 unfold BL
 rw [List.range_succ, List.map_append, List.filter_append]
 congr 1
 simp only [List.map_cons, List.map_nil, List.filter_cons, List.filter_nil]
 by_cases h : cD l n = []
 · rw [if_neg (by simp [h]), if_neg (fun hn => hn h)]
 · rw [if_pos (by simp [h]), if_pos h]
theorem Da (H : Std K) (PC : bT K) (ok : HpOk h) {l : List (List Int)} (hC : Cx l) {x : CV} {cs : List CV} (hx : Row h x cs) (hxs : Rows h cs l) : ga K 42 [x] h fun r h' => Val h' r (fB l) := by
 have hf : K.P.funcs[42]? = some Tryz.f42 := by rw [H.hP]; exact Tryz.func42
 have hT26 : ae K.P 26 = .slice 45 1 24 [.nils] := by rw [H.hP]; exact gG
 obtain ⟨sA, g1, rA, bH, S1, hn1, hg1, a0, a3, as1⟩ := z7 H PC ok hC hx hxs (s := T.set (entry 0 [x]) 2 .nils) rfl rfl
 have hcl := hxs.length
 obtain ⟨sB, rB, b0, b3, b8, bs⟩ : ∃ sB, bL K [1, 1, 1, 1, 0] sA g1 .normal sB g1 ∧ sB.at 0 = x ∧ sB.at 3 = .ptr h.n 0 ∧ sB.at 8 = .nils ∧ sB.at ag = .undef := ⟨_, K8 H.hk, a0, a3, rfl, as1⟩
 obtain ⟨sC, rC, c0, c3, c8, c9, cs'⟩ : ∃ sC, bL K [1, 1, 1, 1, 1, 0, 0] sB g1 .normal sC g1 ∧ sC.at 0 = x ∧ sC.at 3 = .ptr h.n 0 ∧ sC.at 8 = .nils ∧ sC.at 9 = .nu .i64 (.ofNat 0) ∧ sC.at ag = .undef := ⟨_, K9 H.hk, b0, b3, b8, rfl, bs⟩
 obtain ⟨sD, g2, rD, dd, S2, ds, hv⟩ := bA (K := K) (f := 42) (n := 100) (c := aL [1, 1, 1, 1, 1, 0, 1, 0, 0] (ax Tryz.f42)) (s := sC) (h := g1) (m := 64) (b := 6)
  (I := fun i s g => HpOk g ∧ Same h.n h g ∧ h.n < g.n ∧ g.get h.n = .cells (bm (eY l)) 0 122 ∧ s.at 0 = x ∧ s.at 3 = .ptr h.n 0 ∧ s.at ag = .undef ∧ s.at 9 = .nu .i64 (.ofNat i) ∧ ∃ es, Own (h.n + 1) g 45 (s.at 8) es (BL l i))
  (E := fun s g => HpOk g ∧ Same h.n h g ∧ s.at ag = .undef ∧ Val g (s.at 8) (fB l))
  ⟨bH, S1, hn1, hg1, c0, c3, cs', c9, [], by rw [c8]; exact Own.nil⟩
  (fun i s g hi ⟨okg, S, hn, hg, g0, g3, gs, g9, es, O⟩ => by
    obtain ⟨sX, rX, x0, x3, x8, x9, xs⟩ : ∃ sX, bL K [1, 1, 1, 1, 1, 0, 1, 0, 0, 0] s g .normal sX g ∧ sX.at 0 = x ∧ sX.at 3 = .ptr h.n 0 ∧ sX.at 8 = s.at 8 ∧ sX.at 9 = .nu .i64 (.ofNat i) ∧ sX.at ag = .undef := ⟨_, pV H.hk H.prim PC g9 (aJ (y := 64) hi), g0, g3, rfl, g9, gs⟩
    obtain ⟨sY, rY, y0, y3, y8, y9, y10, ys⟩ : ∃ sY, bL K [1, 1, 1, 1, 1, 0, 1, 0, 0, 1, 0, 0, 0] sX g .normal sY g ∧ sY.at 0 = x ∧ sY.at 3 = .ptr h.n 0 ∧ sY.at 8 = s.at 8 ∧ sY.at 9 = .nu .i64 (.ofNat i) ∧ sY.at 10 = .nils ∧ sY.at ag = .undef := ⟨_, La H.hk, x0, x3, x8, x9, rfl, xs⟩
    obtain ⟨sZ, rZ, z0, z3, z8, z9, z10, z11, zs⟩ : ∃ sZ, bL K [1, 1, 1, 1, 1, 0, 1, 0, 0, 1, 0, 0, 1, 0, 0] sY g .normal sZ g ∧ sZ.at 0 = x ∧ sZ.at 3 = .ptr h.n 0 ∧ sZ.at 8 = s.at 8 ∧ sZ.at 9 = .nu .i64 (.ofNat i) ∧ sZ.at 10 = .nils ∧ sZ.at 11 = .nu .i64 (.ofNat 0) ∧ sZ.at ag = .undef := ⟨_, Lb H.hk, y0, y3, y8, y9, y10, rfl, ys⟩
    obtain ⟨sW, g', rW, ok', S', w0, w3, w8, w9, ws, wo⟩ := IC H PC ok hC.sml hx hxs (v := i) okg S hn hg z0 z3 z8 z9 z10 z11 zs
    have lo := cL H wo.row
    rw [ar] at lo
    have O' := O.mono S' okg
    have hup := ID l i
    by_cases hne : cD l i = []
    · rw [hne] at lo
      rw [if_neg (fun hn => hn hne), List.append_nil] at hup
      exact ⟨_, g', Runs.seq rX (Runs.seq (aq (Runs.seq rY (Runs.seq (Runs.seq rZ rW) (mz H.hk H.prim PC rfl lo (kC (by simp)))))) (Bl H.hk w9 (bh (by omega)))), ok', S.trans (S'.le S.n), Nat.lt_of_lt_of_le hn S'.n, by rw [S'.get _ hn]; exact hg, w0, w3, ws, rfl, es, by rw [hup]; show Own _ _ _ (sW.at 8) _ _; rw [w8]; exact O'⟩
    · rw [if_pos hne] at hup
      have hlen : (BL l i).length ≤ 64 := by
       unfold BL
       have := List.length_filter_le (fun c : List Int => decide (c ≠ [])) ((List.range i).map (cD l))
       simp at this ⊢; omega
      obtain ⟨F, B, x', g'', a1, a2, a3, a4, a5⟩ := O'.app (P := K.P) (t := 26) hT26 ok' (by have := S'.n; omega) (Row.off O.out (Nat.le_refl _) wo) (by decide) (by rw [O.rows.length]; omega)
      have hpos : 0 < (cD l i).length := List.length_pos_iff.2 hne
      exact ⟨_, g'', Runs.seq rX (Runs.seq (aq (Runs.seq rY (Runs.seq (Runs.seq rZ rW) (my H.hk H.prim PC rfl w8 lo (gd (by simp; omega)) a1 a2)))) (Bl H.hk w9 (bh (by omega)))), a5, (S.trans (S'.le S.n)).trans (a4.le (Nat.le_succ _)), Nat.lt_of_lt_of_le (Nat.lt_of_lt_of_le hn S'.n) a4.n, by rw [a4.get _ (Nat.lt_succ_self _), S'.get _ hn]; exact hg, w0, w3, ws, rfl, _, by rw [hup]; exact a3⟩)
  (fun s g ⟨okg, S, hn, hg, g0, g3, gs, g9, es, O⟩ => ⟨_, _, ay (pW H.hk H.prim PC g9 (aQ (y := 64) (Nat.le_refl _))) (by simp), okg, S, gs, es, O.out.row, O.all⟩)
 exact ⟨_, g2, H.go hf (Runs.seq (OX H.hk) (rA (Runs.seq rB (Runs.seq (Runs.seq rC rD) (zG H.hk H.prim PC rfl))))) (.inr rfl) S2.n ds rfl rfl, S2, dd, hv⟩
end
theorem Gw {f a : List Int} (h : f.Sublist a) : f.length < a.length → ∃ k, k < a.length ∧ f.Sublist (a.eraseIdx k) := by
 induction h with
 | slnil => intro h; exact absurd h (Nat.lt_irrefl _)
 | cons x h ih => exact fun _ => ⟨0, by simp, by simpa using h⟩
 | cons_cons x h ih =>
  intro hl
  obtain ⟨k, hk, hs⟩ := ih (by simpa using hl)
  exact ⟨k + 1, by simpa using hk, by simpa using hs.cons_cons x⟩
theorem OkC.cx {l : List (List Int)} (h : OkC l) : Cx l := by
 have key : ∀ (n : Nat) (a f : List Int), a.length = f.length + n → a ∈ l → f.Sublist a → f ≠ [] → f ∈ l := by
  intro n
  induction n with
  | zero =>
   intro a f hl ha hs hne
   rw [hs.eq_of_length hl.symm]; exact ha
  | succ n ih =>
   intro a f hl ha hs hne
   have hpos : 0 < f.length := List.length_pos_iff.2 hne
   obtain ⟨k, hk, hs'⟩ := Gw hs (by omega)
   have hf : a.eraseIdx k ∈ be a := by
    unfold be
    rw [if_neg (by omega)]
    exact List.mem_map.2 ⟨k, List.mem_range.2 hk, rfl⟩
   exact ih _ f (by rw [List.length_eraseIdx_of_lt hk]; omega) (h.face a ha _ hf) hs' hne
 exact ⟨h.simp, h.srt, fun a ha f hf hne => key (a.length - f.length) a f (by have := hf.length_le; omega) ha hf hne, h.le⟩
theorem wg {l : List (List Int)} (h : Srt l) : ∀ a ∈ l, a.length ≤ (l.getLastD []).length := by
 intro a ha
 obtain ⟨i, hi, rfl⟩ := List.getElem_of_mem ha
 have hlast : l.getLastD [] = l[l.length - 1]'(by omega) := by
  rw [List.getLastD_eq_getLast?, List.getLast?_eq_getElem?, List.getElem?_eq_getElem (by omega)]; rfl
 rw [hlast]; exact h.len_le hi (by omega) (by omega)
def ValsG (h : Hp) (L : List (CV × List (List Int))) : Prop := ∀ p ∈ L, Val h p.1 p.2
theorem ValsG.mono {h h' : Hp} {L : List (CV × List (List Int))} (S : Same h.n h h') (ok : HpOk h) (V : ValsG h L) : ValsG h' L := fun p hp => (V p hp).mono S ok
theorem ValsG.cons {h : Hp} {L : List (CV × List (List Int))} {x : CV} {l : List (List Int)} (v : Val h x l) (V : ValsG h L) : ValsG h ((x, l) :: L) := fun p hp => by
 rcases List.mem_cons.1 hp with rfl | hp
 · exact v
 · exact V p hp
theorem P4 {P : Program} {t : TypeId} {a b : Nat} (h : a + b < 9223372036854775808) : ab P .add t (.nu .i64 (.ofNat a)) (.nu .i64 (.ofNat b)) = some (.nu .i64 (.ofNat (a + b))) := by
 rw [oM (by simp only [Int.ofNat_eq_natCast]; omega) (by simp only [Int.ofNat_eq_natCast]; omega)]; rfl
section
variable {K : Ctx} {h : Hp}
theorem LK (H : Std K) (PC : bT K) (PN : eF K) (TD : pk K) (ok : HpOk h) {l : List (List Int)} (hl : fP l) {x : CV} {cs : List CV} (hx : Row h x cs) (hxs : Rows h cs l) : ga K 36 [x] h fun r h' => ∃ o, r = .tup [o, .nu .i64 (bc l)] ∧ Val h' o (if bc l = 0 then fB l else []) := by
 have hf : K.P.funcs[36]? = some Tryz.f36 := by rw [H.hP]; exact Tryz.func36
 by_cases he : bc l = 0
 · have hC := (fQ he).cx
   obtain ⟨r, h', c, S, ok', o, ds, P, rfl, D, C⟩ := Gj H PC PN ok hl he hC (fun c hne hnd hc => zX H TD hne (by
    have hr : ∀ v ∈ c, 0 ≤ v ∧ v < 64 := fun v hv => (hC.ok _ (hc v hv)).rng v (by simp)
    have h1 : (c.map Int.toNat).Nodup := by
     rw [List.Nodup, List.pairwise_map]
     refine List.Pairwise.imp_of_mem ?_ hnd
     intro a b ha hb hne e
     have := hr a ha
     have := hr b hb
     apply hne; omega
    have h2 := QI 64 (c.map Int.toNat) h1 (fun y hy => by
     obtain ⟨v, hv, rfl⟩ := List.mem_map.1 hy
     have := hr v hv; omega)
    rw [List.length_map] at h2
    omega)) hx hxs
   rw [Gn C (Iu hC)] at D
   refine ⟨_, h', c, S, ok', o, by rw [he], ?_⟩
   rw [if_pos he]
   exact ⟨ds, D.out.row, D.rows⟩
 · obtain ⟨rv, h1, c26, S1, bH, rfl⟩ := gV H ok hl hx hxs
   rw [if_neg he]
   exact ⟨_, h1, H.go hf (Runs.seq (Fa H.hk) (ay (FB H.hk H.prim PC (s := T.set (T.set (entry 0 [x]) 2 .nils) 3 (.nu .i64 0)) rfl c26 (gz he)) (by simp))) (.inr rfl) S1.n rfl rfl rfl, S1, bH, .nils, rfl, [], .nils, .nil⟩
theorem P5 (H : Std K) (PB : cw K) (PC : bT K) (PN : eF K) (ok : HpOk h) {l : List (List Int)} (hl : fP l) {x : CV} {cs : List CV} (hx : Row h x cs) (hxs : Rows h cs l) : ga K 37 [x] h fun r h' => ∃ o m, r = .tup [o, .nu .i64 (bc l)] ∧ Val h' o (if bc l = 0 then m else []) ∧ (bc l = 0 → Colf l m) := by
 have hf : K.P.funcs[37]? = some Tryz.f37 := by rw [H.hP]; exact Tryz.func37
 by_cases he : bc l = 0
 · obtain ⟨r, h', c, S, ok', o, ds, m, rfl, O, C⟩ := Io H PB PC PN ok hl he (fQ he).cx hx hxs
   refine ⟨_, h', c, S, ok', o, m, by rw [he], ?_, fun _ => C⟩
   rw [if_pos he]
   exact O.val
 · obtain ⟨r, h1, c1, S1, bH, rfl⟩ := CU H ok hl he (G := 92) (C := []) hx hxs
   refine ⟨_, h1, H.go hf (Runs.seq (Fe H.hk) (Runs.scope (Runs.seq (Ff (r14 := .nils) (r15 := .nu .i64 (bc l)) H.hk rfl (H.prim _ _) c1 rfl rfl) (ay (Runs.seq (Fg H.hk rfl (gz he)) (Runs.condT (o := .tmp 17) rfl (Runs.seq (Oy H.hk rfl) Runs.ret))) (by simp))) (by simp))) (.inr rfl) S1.n rfl rfl rfl, S1, bH, .nils, [], rfl, ?_, fun h => absurd h he⟩
   rw [if_neg he]
   exact ⟨[], .nils, .nil⟩
theorem Db (H : Std K) (PB : cw K) (PC : bT K) (PN : eF K) (TD : pk K) {g : Hp} (ok : HpOk g) {l : List (List Int)} (hl : fP l) {x : CV} (V : Val g x l) {s : Fr} {x22 x23 x24 : CV} (s4 : s.at 4 = x) (s22 : s.at 22 = x22) (s23 : s.at 23 = x23) (s24 : s.at 24 = x24) (hs : s.at ag = .undef) :
  ∃ e s' g', X7 K [1, 1, 0, 1, 0, 0, 1, 1, 0, 0, 1] s g e s' g' ∧ (e = .normal ∨ e = .exit 1) ∧ HpOk g' ∧ Same g.n g g' ∧ s'.at 22 = x22 ∧ s'.at 23 = x23 ∧ s'.at 24 = x24 ∧ s'.at ag = .undef := by
 obtain ⟨cs, hx, hxs⟩ := id V
 obtain ⟨p, g1, c16, S1, bH, ps, hO⟩ := vN H ok hl hx hxs
 have V1 : ValsG g1 [(p, l), (x, l)] := ValsG.cons hO.val (ValsG.cons (V.mono S1 ok) (fun _ h => by cases h))
 obtain ⟨sA, rA, a4, a5, a22, a23, a24, as1⟩ : ∃ sA, X7 K [1, 1, 0, 1, 0, 0, 1, 1, 0, 0, 1, 0] s g .normal sA g1 ∧ sA.at 4 = x ∧ sA.at 5 = p ∧ sA.at 22 = x22 ∧ sA.at 23 = x23 ∧ sA.at 24 = x24 ∧ sA.at ag = .undef := ⟨_, Qr H.hk s4 (H.prim _ _) c16, s4, rfl, s22, s23, s24, hs⟩
 obtain ⟨_, hp1, hps1⟩ := V1 (p, l) (by simp)
 obtain ⟨_, g2, c17, S2, dd, rfl⟩ := zT H PB bH hl hp1 hps1
 have V2 := V1.mono S2 bH
 obtain ⟨sB, rB, b4, b5, b6, b22, b23, b24, bs⟩ : ∃ sB, X7 K [1, 1, 0, 1, 0, 0, 1, 1, 0, 0, 1, 1, 0] sA g1 .normal sB g2 ∧ sB.at 4 = x ∧ sB.at 5 = p ∧ sB.at 6 = .nu .i64 (bc l) ∧ sB.at 22 = x22 ∧ sB.at 23 = x23 ∧ sB.at 24 = x24 ∧ sB.at ag = .undef := ⟨_, Qt H.hk a5 (H.prim _ _) c17, a4, a5, rfl, a22, a23, a24, as1⟩
 obtain ⟨_, hx2, hxs2⟩ := V2 (x, l) (by simp)
 obtain ⟨_, g3, c34, S3, eI, o7, rfl, h7⟩ := tc H PC dd hl hx2 hxs2
 have V3 := V2.mono S3 dd
 obtain ⟨sC, rC, d4, d5, d6, d7, d8, d22, d23, d24, ds⟩ : ∃ sC, X7 K [1, 1, 0, 1, 0, 0, 1, 1, 0, 0, 1, 1, 1, 0] sB g2 .normal sC g3 ∧ sC.at 4 = x ∧ sC.at 5 = p ∧ sC.at 6 = .nu .i64 (bc l) ∧ sC.at 7 = o7 ∧ sC.at 8 = .nu .i64 (bc l) ∧ sC.at 22 = x22 ∧ sC.at 23 = x23 ∧ sC.at 24 = x24 ∧ sC.at ag = .undef := ⟨_, Qu H.hk b4 (H.prim _ _) c34 rfl rfl, b4, b5, b6, rfl, rfl, b22, b23, b24, bs⟩
 obtain ⟨_, hx3, hxs3⟩ := V3 (x, l) (by simp)
 obtain ⟨_, g4, c35, S4, ti, rfl⟩ := Gg H PC eI hl hx3 hxs3
 have V4 := V3.mono S4 eI
 have h74 := h7.mono S4 eI (Nat.le_refl _)
 obtain ⟨sD, rD, e4, e5, e6, e7, e8, e9, e10, e22, e23, e24, es⟩ : ∃ sD, X7 K [1, 1, 0, 1, 0, 0, 1, 1, 0, 0, 1, 1, 1, 1, 0] sC g3 .normal sD g4 ∧ sD.at 4 = x ∧ sD.at 5 = p ∧ sD.at 6 = .nu .i64 (bc l) ∧ sD.at 7 = o7 ∧ sD.at 8 = .nu .i64 (bc l) ∧ sD.at 9 = .nu .i64 (if bc l = 0 then nw l else 0) ∧ sD.at 10 = .nu .i64 (bc l) ∧ sD.at 22 = x22 ∧ sD.at 23 = x23 ∧ sD.at 24 = x24 ∧ sD.at ag = .undef := ⟨_, Qv H.hk d4 (H.prim _ _) c35 rfl rfl, d4, d5, d6, d7, d8, rfl, rfl, d22, d23, d24, ds⟩
 obtain ⟨_, hx4, hxs4⟩ := V4 (x, l) (by simp)
 obtain ⟨_, g5, c36, S5, gH, o11, rfl, v11⟩ := LK H PC PN TD ti hl hx4 hxs4
 have V5 := V4.mono S5 ti
 have h75 := h74.mono S5 ti (Nat.le_refl _)
 obtain ⟨sE, rE, f4, f5, f6, f7, f8, f9, f10, f11, f12, f22, f23, f24, fs⟩ : ∃ sE, X7 K [1, 1, 0, 1, 0, 0, 1, 1, 0, 0, 1, 1, 1, 1, 1, 0] sD g4 .normal sE g5 ∧ sE.at 4 = x ∧ sE.at 5 = p ∧ sE.at 6 = .nu .i64 (bc l) ∧ sE.at 7 = o7 ∧ sE.at 8 = .nu .i64 (bc l) ∧ sE.at 9 = .nu .i64 (if bc l = 0 then nw l else 0) ∧ sE.at 10 = .nu .i64 (bc l) ∧ sE.at 11 = o11 ∧ sE.at 12 = .nu .i64 (bc l) ∧ sE.at 22 = x22 ∧ sE.at 23 = x23 ∧ sE.at 24 = x24 ∧ sE.at ag = .undef := ⟨_, Nz H.hk e4 (H.prim _ _) c36 rfl rfl, e4, e5, e6, e7, e8, e9, e10, rfl, rfl, e22, e23, e24, es⟩
 obtain ⟨_, hx5, hxs5⟩ := V5 (x, l) (by simp)
 obtain ⟨_, g6, c37, S6, ok6, o13, m, rfl, v13, hcol⟩ := P5 H PB PC PN gH hl hx5 hxs5
 have V6 := V5.mono S6 gH
 have h76 := h75.mono S6 gH (Nat.le_refl _)
 have v116 := v11.mono S6 gH
 obtain ⟨sF, rF, k5, k6, k7, k8, k9, k10, k11, k12, k13, k14, k22, k23, k24, ks⟩ : ∃ sF, X7 K [1, 1, 0, 1, 0, 0, 1, 1, 0, 0, 1, 1, 1, 1, 1, 1, 0] sE g5 .normal sF g6 ∧ sF.at 5 = p ∧ sF.at 6 = .nu .i64 (bc l) ∧ sF.at 7 = o7 ∧ sF.at 8 = .nu .i64 (bc l) ∧ sF.at 9 = .nu .i64 (if bc l = 0 then nw l else 0) ∧ sF.at 10 = .nu .i64 (bc l) ∧ sF.at 11 = o11 ∧ sF.at 12 = .nu .i64 (bc l) ∧ sF.at 13 = o13 ∧ sF.at 14 = .nu .i64 (bc l) ∧ sF.at 22 = x22 ∧ sF.at 23 = x23 ∧ sF.at 24 = x24 ∧ sF.at ag = .undef := ⟨_, NA H.hk f4 (H.prim _ _) c37 rfl rfl, f5, f6, f7, f8, f9, f10, f11, f12, rfl, rfl, f22, f23, f24, fs⟩
 obtain ⟨sG, rG, m5, m6, m7, m9, m11, m13, m22, m23, m24, ms⟩ : ∃ sG, X7 K [1, 1, 0, 1, 0, 0, 1, 1, 0, 0, 1, 1, 1, 1, 1, 1, 1, 0] sF g6 .normal sG g6 ∧ sG.at 5 = p ∧ sG.at 6 = .nu .i64 (bc l) ∧ sG.at 7 = o7 ∧ sG.at 9 = .nu .i64 (if bc l = 0 then nw l else 0) ∧ sG.at 11 = o11 ∧ sG.at 13 = o13 ∧ sG.at 22 = x22 ∧ sG.at 23 = x23 ∧ sG.at 24 = x24 ∧ sG.at ag = .undef :=
  ⟨_, Runs.seq (Cu H.hk k8 k6 k10 k12 k14 (eV rfl) (eV rfl) rfl (eV rfl) rfl (eV rfl) rfl) (Runs.condF (o := .tmp 69) rfl Runs.skip), k5, k6, k7, k9, k11, k13, k22, k23, k24, ks⟩
 have T3 := (S1.trans (S2.le S1.n)).trans (S3.le (S1.trans (S2.le S1.n)).n)
 have T4 := T3.trans (S4.le T3.n)
 have T5 := T4.trans (S5.le T4.n)
 have T6 := T5.trans (S6.le T5.n)
 by_cases he : bc l = 0
 case neg =>
  rw [if_neg he] at h76 v116 v13 m9
  obtain ⟨_, hr11, hrs11⟩ := v116
  obtain ⟨_, hr13, hrs13⟩ := v13
  have l7 := cL H h76
  rw [ar] at l7
  have l11 := bS H hr11
  rw [hrs11.length] at l11
  have l13 := eQ H hr13
  rw [hrs13.length] at l13
  have o75 : ab K.P .add 3 (.nu .i64 (.ofNat ([] : List Int).length)) (.nu .i64 0) = some (.nu .i64 (.ofNat 0)) := P4 (a := 0) (b := 0) (by decide)
  have o78 : ab K.P .add 3 (.nu .i64 (.ofNat 0)) (.nu .i64 (.ofNat ([] : List (List Int)).length)) = some (.nu .i64 (.ofNat 0)) := P4 (a := 0) (b := 0) (by decide)
  obtain ⟨sH, rH, n22, n23, n24, ns⟩ : ∃ sH, X7 K [1, 1, 0, 1, 0, 0, 1, 1, 0, 0, 1, 1, 1, 1, 1, 1, 1, 1, 0] sG g6 (.exit 1) sH g6 ∧ sH.at 22 = x22 ∧ sH.at 23 = x23 ∧ sH.at 24 = x24 ∧ sH.at ag = .undef :=
   ⟨_, Runs.seq (EB H.hk m6 (gz he)) (Runs.condT (o := .tmp 71) rfl (Runs.seq (Runs.seq (NB H.hk m7 m9 m11 m13 l7 o75 l11 o78 l13 o78 (eV rfl)) (Runs.condF (o := .tmp 82) rfl Runs.skip)) Runs.exit)), m22, m23, m24, ms⟩
  exact ⟨_, _, g6, Runs.seq rA (Runs.seq rB (Runs.seq rC (Runs.seq rD (Runs.seq rE (Runs.seq rF (Runs.seq rG (ay rH (by simp)))))))), .inr rfl, ok6, T6, n22, n23, n24, ns⟩
 rw [if_pos he] at h76 v116 v13 m9
 have hC := (fQ he).cx
 have hC' := fQ he
 have hll := hC.le
 obtain ⟨sH, rH, n5, n7, n9, n11, n13, n22, n23, n24, ns⟩ : ∃ sH, X7 K [1, 1, 0, 1, 0, 0, 1, 1, 0, 0, 1, 1, 1, 1, 1, 1, 1, 1, 0] sG g6 .normal sH g6 ∧ sH.at 5 = p ∧ sH.at 7 = o7 ∧ sH.at 9 = .nu .i64 (nw l) ∧ sH.at 11 = o11 ∧ sH.at 13 = o13 ∧ sH.at 22 = x22 ∧ sH.at 23 = x23 ∧ sH.at 24 = x24 ∧ sH.at ag = .undef :=
  ⟨_, Runs.seq (EB H.hk m6 (eV he)) (Runs.condF (o := .tmp 71) rfl Runs.skip), m5, m7, m9, m11, m13, m22, m23, m24, ms⟩
 obtain ⟨_, hp6, hps6⟩ := V6 (p, l) (by simp)
 obtain ⟨r85, g7, c39, S7, ok7, ho85⟩ := zZ H PC ok6 (by omega) (fun a ha => ⟨(hC.ok a ha).ne, by have := (hC.ok a ha).le; omega⟩) hp6 hps6
 rw [BH (fun a ha => (hC.ok a ha).ne) (wg hC.srt)] at ho85
 have V7 := V6.mono S7 ok6
 have hcl : (gA l).length ≤ 1000 := by
  rw [← BH (fun a ha => (hC.ok a ha).ne) (wg hC.srt)]
  exact qQ _ _ _ (fun a ha => by have := (hC.ok a ha).le; omega) (by simp)
 have c38 := fN H (a := gA l) (b := gA l) (by omega) (h76.mono S7 ok6 (Nat.le_refl _)) ho85.row
 have hz : aW (gA l) (gA l) = 0 := (eG _ _).2 rfl
 obtain ⟨_, hp7, hps7⟩ := V7 (p, l) (by simp)
 have c40 := zq H PC (l := l) (by omega) (fun a ha => by have := (hC.ok a ha).le; omega) hp7 hps7
 obtain ⟨r97, g8, c42, S8, ok8, v97⟩ := Da H PC ok7 hC hp7 hps7
 have V8 := V7.mono S8 ok7
 obtain ⟨_, h11, hs11⟩ := (v116.mono S7 ok6).mono S8 ok7
 obtain ⟨_, h97, hs97⟩ := v97
 have hcb : (fB l).length ≤ 64 ∧ ∀ c ∈ fB l, c.length ≤ 64 := by
  constructor
  · unfold fB
    have := List.length_filter_le (fun c : List Int => decide (c ≠ [])) ((List.range 64).map (cD l))
    simp at this ⊢; omega
  · intro c hc
    rw [ny] at hc
    obtain ⟨v, _, rfl⟩ := List.mem_map.1 hc
    exact we l v 64
 have c41 := zr H PC (P := fB l) (by omega) (fun c hc => by have := hcb.2 c hc; omega) h11 hs11 h97 hs97
 obtain ⟨r104, g9, c43, S9, ok9, v104⟩ := Gu H PB PC ok8 hC (hcol he) (V8 (p, l) (by simp))
 have v139 := ((v13.mono S7 ok6).mono S8 ok7).mono S9 ok8
 have hsub := ((hcol he).cols (Srt.nodup hC.srt)).1.all hC
 have hms : fP m := hsub.1.sml
 have c23 := Ib H PB hms v139 v104 rfl
 have T7 := T6.trans (S7.le T6.n)
 have T8 := T7.trans (S8.le T7.n)
 have T9 := T8.trans (S9.le T8.n)
 rw [Iq hC'] at n9
 obtain ⟨sI, rI, q22, q23, q24, qs⟩ : ∃ sI, X7 K [1, 1, 0, 1, 0, 0, 1, 1, 0, 0, 1, 1, 1, 1, 1, 1, 1, 1, 1] sH g6 .normal sI g9 ∧ sI.at 22 = x22 ∧ sI.at 23 = x23 ∧ sI.at 24 = x24 ∧ sI.at ag = .undef :=
  ⟨_, Runs.seq (Cv H.hk n7 n5 n9 n11 n13 (H.prim _ _) c39 (H.prim _ _) c38 (eV hz) (H.prim _ _) c40 (eV rfl) rfl (H.prim _ _) c42 (H.prim _ _) c41 rfl rfl (H.prim _ _) c43 (H.prim _ _) c23 rfl rfl) (Runs.condF (o := .tmp 107) rfl Runs.skip), n22, n23, n24, ns⟩
 exact ⟨_, _, g9, Runs.seq rA (Runs.seq rB (Runs.seq rC (Runs.seq rD (Runs.seq rE (Runs.seq rF (Runs.seq rG (Runs.seq rH rI))))))), .inl rfl, ok9, T9, q22, q23, q24, qs⟩
theorem zt (H : Std K) (A : Awake K) (PB : cw K) (PC : bT K) (PN : eF K) (TD : pk K) (ok : HpOk h) {l : List (List Int)} {x : CV} (vx : Val h x l) :
  ∃ h', Comes K 7 [x] h (.bo true) h' ∧ Same h.n h h' := by
 have hf : K.P.funcs[7]? = some Tryz.f7 := by rw [H.hP]; exact Tryz.func7
 obtain ⟨cs, hx, hxs⟩ := vx
 have c13 := CR H PB (n := 40) (by decide) hx hxs
 have aw : ∀ g, Comes K 14 [] g (.bo true) g := fun g => A.comes
 cases hlong : sN l 40 with
 | true =>
  rw [hlong] at c13
  exact ⟨h, H.go hf (Runs.seq (IZ H.hk) (ay (Runs.seq (I0 H.hk rfl (H.prim _ _) c13) (Runs.condT (o := .tmp 16) rfl (Runs.seq (Qo H.hk (H.prim _ _) (aw h)) Runs.ret))) (by simp))) (.inr rfl) (Nat.le_refl _) rfl rfl rfl, Same.refl _ _⟩
 | false =>
 rw [hlong] at c13
 obtain ⟨hl40, hl12⟩ := LB hlong
 have hl40' : l.length ≤ 40 := by simp at hl40; omega
 have hl : fP l := ⟨by omega, fun a ha => by have := hl12 a ha; omega⟩
 obtain ⟨p, h1, c16, S1, bH, dp, hO⟩ := vN H ok hl hx hxs
 obtain ⟨v, vs, h2, c15, S2, dd, hv, hvs⟩ := yG H bH (most := 6) (dim := 3) (n := 8) hl.len (fun a ha => by have := hl12 a ha; omega) (by decide) (by decide) (by decide) (by decide) hO.out.row hO.all
 have hcx : Cx (mD l 6 3 8) := FS (by decide) (by decide) (by decide) (by decide)
 have T2 : Same h.n h h2 := S1.trans (S2.le S1.n)
 have o22 : aM 2 [(0, x), (1, v)] (ae K.P 28) = some (fun k => .sl k 0 2 2, .cells [x, v] 0 22) := by rw [H.hP, t28]; exact FQ hx.one hv.one
 have hrow := Lu (h := h2) (v := x) (w := v) (el := 22)
 have S3 : Same h2.n h2 (h2.push (.cells [x, v] 0 22)) := Same.push (Nat.le_refl _) _
 have eI : HpOk (h2.push (.cells [x, v] 0 22)) := dd.push _
 have hlen := QC H hrow
 have vx3 : Val (h2.push (.cells [x, v] 0 22)) x l := Val.mono (T2.trans (S3.le T2.n)) ok ⟨cs, hx, hxs⟩
 have vv3 : Val (h2.push (.cells [x, v] 0 22)) v (mD l 6 3 8) := Val.mono S3 dd ⟨vs, hv, hvs⟩
 obtain ⟨sa, ra, a0, as'⟩ : ∃ s1, X7 K [1, 0] (T.set (entry 0 [x]) 2 (.bo false)) h .normal s1 h ∧ s1.at 0 = x ∧ s1.at ag = .undef :=
  ⟨_, Runs.seq (I0 H.hk rfl (H.prim _ _) c13) (Runs.condF (o := .tmp 16) rfl Runs.skip), rfl, rfl⟩
 obtain ⟨sd, rd, e22, e23, e24, es'⟩ : ∃ s1, X7 K [1, 1, 0, 0] sa h .normal s1 (h2.push (.cells [x, v] 0 22)) ∧ s1.at 22 = .sl h2.n 0 2 2 ∧ s1.at 23 = .nu .i64 (.ofNat 2) ∧ s1.at 24 = .nu .i64 (.ofNat 0) ∧ s1.at ag = .undef := ⟨_, Qp H.hk a0 (H.prim _ _) c16 (H.prim _ _) c15 o22 hlen, rfl, rfl, rfl, as'⟩
 obtain ⟨s', h', r, ok', S, hs⟩ := bA (K := K) (f := 7) (n := 110) (c := aL [1, 1, 0, 1, 0, 0] (ax Tryz.f7)) (s := sd) (h := h2.push (.cells [x, v] 0 22)) (m := 2) (b := 0)
  (I := fun i s g => HpOk g ∧ Same (h2.push (.cells [x, v] 0 22)).n (h2.push (.cells [x, v] 0 22)) g ∧ s.at 22 = .sl h2.n 0 2 2 ∧ s.at 23 = .nu .i64 (.ofNat 2) ∧ s.at 24 = .nu .i64 (.ofNat i) ∧ s.at ag = .undef)
  (E := fun s g => HpOk g ∧ Same (h2.push (.cells [x, v] 0 22)).n (h2.push (.cells [x, v] 0 22)) g ∧ s.at ag = .undef) ⟨eI, Same.refl _ _, e22, e23, e24, es'⟩
  (fun i s g hi ⟨okg, S, g22, g23, g24, gs⟩ => by
    obtain ⟨q, hq1, hq2⟩ := QQ H (hrow.mono S eI (Nat.le_refl _)) (i := i) hi
    obtain ⟨s1, r1, j22, j23, j24, j25, js⟩ : ∃ s1, X7 K [1, 1, 0, 1, 0, 0, 0] s g .normal s1 g ∧ s1.at 22 = .sl h2.n 0 2 2 ∧ s1.at 23 = .nu .i64 (.ofNat 2) ∧ s1.at 24 = .nu .i64 (.ofNat i) ∧ s1.at 25 = .bo true ∧ s1.at ag = .undef := ⟨_, I1 H.hk g24 g23 (aJ hi), g22, g23, g24, rfl, gs⟩
    obtain ⟨s2, r2, k22, k23, k24, k4, ks⟩ : ∃ s2, X7 K [1, 1, 0, 1, 0, 0, 1, 1, 0, 0, 0] s1 g .normal s2 g ∧ s2.at 22 = .sl h2.n 0 2 2 ∧ s2.at 23 = .nu .i64 (.ofNat 2) ∧ s2.at 24 = .nu .i64 (.ofNat i) ∧ s2.at 4 = [x, v][i] ∧ s2.at ag = .undef := ⟨_, Qq H.hk j22 j24 hq1 hq2, j22, j23, j24, rfl, js⟩
    obtain ⟨li, hli, vi⟩ : ∃ li, fP li ∧ Val (h2.push (.cells [x, v] 0 22)) [x, v][i] li := by
     match i, hi with
     | 0, _ => exact ⟨l, hl, vx3⟩
     | 1, _ => exact ⟨_, hcx.sml, vv3⟩
    obtain ⟨e, s3, h3, r3, he, ok3', S3', m22, m23, m24, ms⟩ := Db H PB PC PN TD okg hli (vi.mono S eI) k4 k22 k23 k24 ks
    have rblk : Runs K 7 110 none (.block 1 (.seq (aL [1, 1, 0, 1, 0, 0, 1, 1, 0, 0, 0] (ax Tryz.f7)) (aL [1, 1, 0, 1, 0, 0, 1, 1, 0, 0, 1] (ax Tryz.f7)))) s1 g .normal s3 h3 := by
     rcases he with rfl | rfl
     · exact aq (Runs.seq r2 r3)
     · exact aV (Runs.seq r2 r3)
    exact ⟨_, _, Runs.seq r1 (Runs.seq (Runs.condT (o := .tmp 25) (y := .exit 0) j25 Runs.skip) (Runs.seq rblk (NC H.hk m24 (bh (by omega))))), ok3', S.trans (S3'.le S.n), m22, m23, rfl, ms⟩)
  (fun s g ⟨okg, S, g22, g23, g24, gs⟩ => ⟨_, _, Runs.seq (I1 H.hk g24 g23 (aQ (Nat.le_refl _))) (ay (Runs.condF (o := .tmp 25) (x := .skip) rfl Runs.exit) (by simp)), okg, S, gs⟩)
 have TT := (T2.trans (S3.le T2.n)).trans (S.le (T2.trans (S3.le T2.n)).n)
 exact ⟨h', H.go hf (Runs.seq (IZ H.hk) (Runs.seq ra (Runs.seq (Runs.seq rd r) (Runs.seq (ND H.hk (H.prim _ _) (aw h')) Runs.ret)))) (.inr rfl) TT.n hs rfl rfl, TT⟩
end
end Go.CP
