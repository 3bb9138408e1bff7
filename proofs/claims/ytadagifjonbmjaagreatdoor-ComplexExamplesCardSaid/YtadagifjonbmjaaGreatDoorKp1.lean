import Derived.Test.YtadagifjonbmjaaGreatDoorKp0
import Derived.Laws.Append
import Derived.Laws.Tables
import Derived.Laws.BytesString
import Derived.WideKeyRuns
import Derived.Lib.Builder
import Derived.Lib.UnsafeStr
set_option linter.all false
namespace Go.CP
variable [LG] [HK]
theorem c6 {α : Type} (cs : List α) (o : Nat) : setAt cs o [] = cs := by cases cs <;> cases o <;> rfl
theorem dp {α : Type} : ∀ (cs : List α) (o : Nat) (x : α) (xs : List α), setAt cs o (x :: xs) = setAt (cs.set o x) (o + 1) xs
 | [], o, x, xs => by cases xs <;> simp [setAt]
 | c :: cs, 0, x, xs => by cases xs <;> simp [setAt, c6]
 | c :: cs, o + 1, x, xs => by
  cases xs with
  | nil => simp only [setAt, List.set_cons_succ, c6, dp cs o x []]
  | cons y ys => simp only [setAt, List.set_cons_succ]; rw [dp cs o x (y :: ys)]
theorem c7 {α : Type} : ∀ (xs cs : List α) (o : Nat), (setAt cs o xs).length = cs.length
 | [], cs, o => by rw [c6]
 | x :: xs, cs, o => by rw [dp, c7 xs]; simp
theorem jJ {α : Type} : ∀ (A cs B xs : List α) (o : Nat), o + xs.length ≤ cs.length → setAt (A ++ cs ++ B) (A.length + o) xs = A ++ setAt cs o xs ++ B
 | A, cs, B, [], o, _ => by rw [c6, c6]
 | A, cs, B, x :: xs, o, h => by
  simp only [List.length_cons] at h
  rw [dp, dp]
  have h1 : (A ++ cs ++ B).set (A.length + o) x = A ++ cs.set o x ++ B := by
   rw [List.append_assoc, List.set_append_right _ _ (by omega), Nat.add_sub_cancel_left, List.set_append_left _ _ (by omega), List.append_assoc]
  rw [h1, Nat.add_assoc, jJ A (cs.set o x) B xs (o + 1) (by simp; omega)]
theorem VRL.set {ι : Im} {cs : List CV} {vs : List Value} (h : VRL ι cs vs) {c : CV} {v : Value} (hc : VR ι c v) (o : Nat) : VRL ι (cs.set o c) (vs.set o v) := by
 refine ⟨by simp [h.1], fun j hj => ?_⟩
 have hj' : j < cs.length := by simpa using hj
 have := h.2 j hj'
 rw [List.getD_eq_getElem?_getD, List.getElem?_eq_getElem (by rw [h.1]; exact hj')] at this
 rw [List.getD_eq_getElem?_getD, List.getElem?_eq_getElem (by simp [h.1]; exact hj')]
 simp only [List.getElem_set, Option.getD_some] at this ⊢
 split
 · exact hc
 · exact this
theorem VRL.setAt {ι : Im} : ∀ (xs : List CV) (us : List Value) {cs : List CV} {vs : List Value}, VRL ι cs vs → VRL ι xs us → ∀ o, VRL ι (CP.setAt cs o xs) (CP.setAt vs o us)
 | [], us, cs, vs, h, hx, o => by
  have : us = [] := List.eq_nil_of_length_eq_zero (by simpa using hx.1)
  subst this; rw [c6, c6]; exact h
 | x :: xs, us, cs, vs, h, hx, o => by
  cases us with
  | nil => have := hx.1; simp at this
  | cons u us =>
   rw [dp, dp]
   exact VRL.setAt xs us (h.set hx.tail.1 o) hx.tail.2 (o + 1)
theorem oR (off : Nat) : ∀ (l : List Value) (k : Nat) (arr : Array Value), ((l.zipIdx k).foldl (fun cs x => cs.setIfInBounds (off + x.2) x.1) arr).toList = setAt arr.toList (off + k) l
 | [], k, arr => by rw [c6]; rfl
 | v :: l, k, arr => by
  simp only [List.zipIdx_cons, List.foldl_cons]
  rw [oR off l (k + 1), dp]
  simp [Nat.add_assoc]
theorem uR (off : Nat) (vs : Array Value) (arr : Array Value) : (vs.zipIdx.foldl (fun cs (c, j) => cs.setIfInBounds (off + j) c) arr).toList = setAt arr.toList off vs.toList := by
 rw [← Array.foldl_toList, Array.toList_zipIdx]
 exact oR off vs.toList 0 arr
theorem lN {cs : List CV} {o n : Nat} (h : o + n ≤ cs.length) : (sub cs o n).length = n := by simp [sub]; omega
def IQ (ι : Im) (ips : List (Nat × CV)) (ivs : List (Nat × Value)) : Prop :=
 ivs.map (·.1) = ips.map (·.1) ∧ VRL ι (ips.map (·.2)) (ivs.map (·.2))
theorem sV {ι : Im} {cs : List CV} {arr : Array Value} {p : CV} {v : Value} (h : VRL ι cs arr.toList) (hv : VR ι p v) (hs : p.sol = true) (off : Nat) :
  v.cells.size = p.cells.length ∧ VRL ι (setAt cs off p.cells) (v.cells.zipIdx.foldl (fun cs (c, j) => cs.setIfInBounds (off + j) c) arr).toList := by
 obtain ⟨h1, _⟩ := hv.cells hs
 refine ⟨by simpa using h1.1, ?_⟩
 rw [uR]
 exact VRL.setAt _ _ h h1 off
theorem p9 {ι : Im} {fs : List (Nat × Nat × Bool)} {place : Nat → Option (Nat × Nat)} (hpl : ∀ i, place i = (fs[i]?).map fun f => (f.1, f.2.1)) : ∀ (ips : List (Nat × CV)) (ivs : List (Nat × Value)) (cs : List CV) (arr : Array Value) (cs' : List CV),
  IQ ι ips ivs → (ips.all fun p => p.2.sol) = true → VRL ι cs arr.toList → od fs cs ips = some cs' → ∃ arr', Instr.fill place arr ivs = some arr' ∧ VRL ι cs' arr'.toList
 | [], ivs, cs, arr, cs', hp, _, h, hf => by
  cases ivs with
  | cons => have := hp.1; simp at this
  | nil => simp only [od, Option.some.injEq] at hf; subst hf; exact ⟨arr, rfl, h⟩
 | (i, p) :: ips, ivs, cs, arr, cs', hp, hs, h, hf => by
  cases ivs with
  | nil => have := hp.1; simp at this
  | cons iv ivs =>
   obtain ⟨i', v⟩ := iv
   obtain ⟨h1, h2⟩ := hp
   simp only [List.map_cons, List.cons.injEq] at h1
   obtain ⟨rfl, h1⟩ := h1
   simp only [List.all_cons, Bool.and_eq_true] at hs
   obtain ⟨hv, hr⟩ := VRL.tail h2
   simp only [od] at hf
   split at hf
   · cases hf
   · rename_i off size g hi
     split at hf
     · rename_i hc
       simp only [Bool.and_eq_true] at hc
       have hsz := aW hc.1
       have hle := bv hc.2
       obtain ⟨e1, e2⟩ := sV h hv hs.1 off
       have e1 : v.cells.size = p.cells.length := e1
       obtain ⟨arr', e3, e4⟩ := p9 hpl ips ivs _ _ cs' ⟨h1, hr⟩ hs.2 e2 hf
       refine ⟨arr', ?_, e4⟩
       simp only [Instr.fill, hpl, hi, Option.map_some]
       rw [if_neg]
       · exact e3
       · have := h.1
         simp only [Array.length_toList] at this
         simp only [ne_eq, Bool.or_eq_true, decide_eq_true_eq, not_or, Decidable.not_not]
         exact ⟨by omega, by omega⟩
     · cases hf
theorem lO {ι : Im} {esz : Nat} : ∀ (ips : List (Nat × CV)) (ivs : List (Nat × Value)) (cs : List CV) (arr : Array Value) (cs' : List CV),
  IQ ι ips ivs → (ips.all fun p => p.2.sol) = true → VRL ι cs arr.toList → kh esz cs ips = some cs' → ∃ arr', Instr.fill (fun i => some (i * esz, esz)) arr ivs = some arr' ∧ VRL ι cs' arr'.toList
 | [], ivs, cs, arr, cs', hp, _, h, hf => by
  cases ivs with
  | cons => have := hp.1; simp at this
  | nil => simp only [kh, Option.some.injEq] at hf; subst hf; exact ⟨arr, rfl, h⟩
 | (i, p) :: ips, ivs, cs, arr, cs', hp, hs, h, hf => by
  cases ivs with
  | nil => have := hp.1; simp at this
  | cons iv ivs =>
   obtain ⟨i', v⟩ := iv
   obtain ⟨h1, h2⟩ := hp
   simp only [List.map_cons, List.cons.injEq] at h1
   obtain ⟨rfl, h1⟩ := h1
   simp only [List.all_cons, Bool.and_eq_true] at hs
   obtain ⟨hv, hr⟩ := VRL.tail h2
   simp only [kh] at hf
   split at hf
   · rename_i hc
     simp only [Bool.and_eq_true] at hc
     have hsz := aW hc.1
     have hle := bv hc.2
     obtain ⟨e1, e2⟩ := sV h hv hs.1 (i' * esz)
     have e1 : v.cells.size = p.cells.length := e1
     obtain ⟨arr', e3, e4⟩ := lO ips ivs _ _ cs' ⟨h1, hr⟩ hs.2 e2 hf
     refine ⟨arr', ?_, e4⟩
     simp only [Instr.fill]
     rw [if_neg]
     · exact e3
     · have := h.1
       simp only [Array.length_toList] at this
       simp only [ne_eq, Bool.or_eq_true, decide_eq_true_eq, not_or, Decidable.not_not]
       exact ⟨by omega, by omega⟩
   · cases hf
theorem dq (z : List CV) : ∀ n, (dG z n).length = n * z.length
 | 0 => by simp [dG]
 | n + 1 => by simp [dG, dq z n, Nat.succ_mul]; omega
theorem xw (z : List CV) : ∀ n j, j < n * z.length → (dG z n)[j]? = z[j % z.length]?
 | 0, j, h => by omega
 | n + 1, j, h => by
  simp only [dG]
  by_cases hj : j < z.length
  · rw [List.getElem?_append_left hj, Nat.mod_eq_of_lt hj]
  · have h1 : j - z.length < n * z.length := by rw [Nat.succ_mul] at h; omega
    rw [List.getElem?_append_right (by omega), xw z n _ h1]
    congr 1
    conv => rhs; rw [show j = (j - z.length) + z.length by omega]
    rw [Nat.add_mod_right]
theorem kz (ι : Im) (zv : Value) (n m : Nat) (hm : m = n * (bR zv).length) : VRL ι (dG (bR zv) n) ((Array.range m).map (zv.cells[· % zv.cells.size]!)).toList := by
 have hz : (bR zv).length = zv.cells.size := by simp [bR]
 refine ⟨by simp [dq, hm], fun j hj => ?_⟩
 rw [dq] at hj
 have h1 := xw (bR zv) n j hj
 have h0 : 0 < (bR zv).length := by
  rcases Nat.eq_zero_or_pos (bR zv).length with e | e
  · rw [e] at hj; simp at hj
  · exact e
 have hlt : j % (bR zv).length < (bR zv).length := Nat.mod_lt _ h0
 rw [List.getElem?_eq_getElem (by rw [dq]; exact hj), List.getElem?_eq_getElem hlt] at h1
 injection h1 with h1
 rw [h1]
 have hlt2 : j % zv.cells.size < zv.cells.size := by rw [← hz]; exact hlt
 have h3 : ((Array.range m).map (zv.cells[· % zv.cells.size]!)).toList.getD j Go.undef = zv.cells[j % zv.cells.size] := by
  rw [List.getD_eq_getElem?_getD]
  have : ((Array.range m).map (zv.cells[· % zv.cells.size]!)).toList[j]? = some (zv.cells[j % zv.cells.size]!) := by
   simp [hm, hj]
  rw [this]
  simp [hlt2]
 rw [h3]
 have h4 : (bR zv)[j % (bR zv).length] = eP (zv.cells[j % zv.cells.size]) := by
  simp [bR]
 rw [h4]; exact qS ι _
theorem lP {w : World} {g o : Nat} {arr : Array Value} {e : TypeId} {f : Nat × Nat} (h : w.heap[g]? = some (.cells arr e f)) : w.cell? ⟨g, o, none⟩ = arr[o]? := by
 unfold World.cell?; simp [h]
theorem cP (g o k : Nat) : (⟨g, o, none⟩ : Addr).add k = ⟨g, o + k, none⟩ := by
 unfold Addr.add
 split
 · rename_i h; subst h; rfl
 · rfl
theorem kA {ι : Im} {i : cE} {w : World} {cs : List CV} {arr : Array Value} {e : TypeId} {f : Nat × Nat} (hg : w.heap[i.b]? = some (.cells arr e f)) (h : VRL ι cs ((arr.toList.drop i.base).take cs.length)) {o n : Nat} (hle : o + n ≤ cs.length) :
  ∃ vs, VRL ι (sub cs o n) vs ∧ vs.length = n ∧ (∀ j u, vs[j]? = some u → w.cell? ((⟨i.b, i.base + o, none⟩ : Addr).add j) = some u) := by
 refine ⟨_, h.sub o n, by rw [(h.sub o n).1, lN hle], fun j u hu => ?_⟩
 rw [cP, lP hg]
 obtain ⟨hj, hu'⟩ := List.getElem?_eq_some_iff.1 hu
 have hj' : j < n := by rw [(h.sub o n).1, lN hle] at hj; exact hj
 rw [List.getElem?_take, if_pos hj', List.getElem?_drop, List.getElem?_take, if_pos (by omega), List.getElem?_drop] at hu
 rw [← Array.getElem?_toList, ← hu]
 congr 1; omega
theorem BR.sub {ι : Im} {i : cE} {w : World} {b : HB} (h : BR ι i w b) {o n : Nat} {cs : List CV} (hs : bk o n b = some cs) :
  ∃ vs, VRL ι cs vs ∧ vs.length = n ∧ (∀ j u, vs[j]? = some u → w.cell? ((⟨i.b, i.base + o, none⟩ : Addr).add j) = some u) := by
 cases b with
 | cells ds aO el =>
  simp only [bk] at hs
  split at hs
  · rename_i hle
    injection hs with hs; subst hs
    obtain ⟨arr, e, hg, _, _, _, _, _, hv, _⟩ := h
    exact kA hg hv (bv hle)
  · cases hs
 | ro ds =>
  simp only [bk] at hs
  split at hs
  · rename_i hle
    injection hs with hs; subst hs
    obtain ⟨arr, e, f, hg, _, _, hv⟩ := h
    exact kA hg hv (bv hle)
  · cases hs
 | kp ds ys aO =>
  simp only [bk] at hs
  split at hs
  · rename_i hle
    injection hs with hs; subst hs
    obtain ⟨arr, e, hg, _, _, _, _, _, hv, _, _⟩ := h
    exact kA hg hv (bv hle)
  · cases hs
 | fz ds =>
  simp only [bk] at hs
  split at hs
  · rename_i hle
    injection hs with hs; subst hs
    obtain ⟨arr, e, f, hg, hv⟩ := h
    exact kA hg hv (bv hle)
  · cases hs
 | _ => cases hs
theorem zW {o n : Nat} {a : Bool} {b : HB} {c : CV} (h : eZ o n a b = some c) : (a = true ∧ ∃ cs, bk o n b = some cs ∧ c = .agg cs) ∨ (a = false ∧ n = 1 ∧ bk o n b = some [c]) := by
 have key : ∀ cs, val cs o n a = some c → (a = true ∧ o + n ≤ cs.length ∧ c = .agg (CP.sub cs o n)) ∨ (a = false ∧ n = 1 ∧ o + n ≤ cs.length ∧ CP.sub cs o n = [c]) := by
  intro cs hv
  unfold val at hv
  split at hv
  · cases hv
  · rename_i hle
    have hle := bv hle
    cases a with
    | true => injection hv with hv; exact .inl ⟨rfl, hle, hv.symm⟩
    | false =>
     dsimp only at hv
     split at hv
     · rename_i h1
       have h1 := aW h1
       subst h1
       refine .inr ⟨rfl, rfl, hle, ?_⟩
       obtain ⟨ho, hc⟩ := List.getElem?_eq_some_iff.1 hv
       simp only [CP.sub]
       rw [List.drop_eq_getElem_cons ho, hc]; rfl
     · cases hv
 cases b with
 | cells ds aO el =>
  rcases key ds h with ⟨h1, h2, h3⟩ | ⟨h1, h2, h3, h4⟩
  · exact .inl ⟨h1, _, by simp only [bk, Nat.ble_eq_true_of_le h2], h3⟩
  · exact .inr ⟨h1, h2, by simp only [bk, Nat.ble_eq_true_of_le h3, h4]⟩
 | ro ds =>
  rcases key ds h with ⟨h1, h2, h3⟩ | ⟨h1, h2, h3, h4⟩
  · exact .inl ⟨h1, _, by simp only [bk, Nat.ble_eq_true_of_le h2], h3⟩
  · exact .inr ⟨h1, h2, by simp only [bk, Nat.ble_eq_true_of_le h3, h4]⟩
 | fz ds =>
  rcases key ds h with ⟨h1, h2, h3⟩ | ⟨h1, h2, h3, h4⟩
  · exact .inl ⟨h1, _, by simp only [bk, Nat.ble_eq_true_of_le h2], h3⟩
  · exact .inr ⟨h1, h2, by simp only [bk, Nat.ble_eq_true_of_le h3, h4]⟩
 | kp ds ys aO =>
  rcases key ds h with ⟨h1, h2, h3⟩ | ⟨h1, h2, h3, h4⟩
  · exact .inl ⟨h1, _, by simp only [bk, Nat.ble_eq_true_of_le h2], h3⟩
  · exact .inr ⟨h1, h2, by simp only [bk, Nat.ble_eq_true_of_le h3, h4]⟩
 | _ => cases h
theorem qU (vs : List Value) : (List.range vs.length).map (fun j => vs.getD j Go.undef) = vs := by
 apply List.ext_getElem
 · simp
 · intro j h1 h2; simp at h1; simp [h1]
theorem sW {P : Program} {w : World} {ad : Addr} {vs : List Value} (h : ∀ j u, vs[j]? = some u → w.cell? (ad.add j) = some u) : (loadCells ad vs.length).run P w = .ok vs.toArray w := by
 rw [run_loadCells (P := P) w ad vs.length (fun j => vs.getD j Go.undef) fun j hj => by rw [h j vs[j] (List.getElem?_eq_getElem hj)]; simp [hj], qU]
theorem oS {P : Program} {ι : Im} {i : cE} {w : World} {b : HB} (hb : BR ι i w b) {t : TypeId} {n : Nat} {a : Bool} (ht : au P t = some (n, a)) {o : Nat} {c : CV} (h : eZ o n a b = some c) :
  ∃ v, VR ι c v ∧ (loadVar t ⟨i.b, i.base + o, none⟩).run P w = .ok v w := by
 obtain ⟨inf, d, hi, hs, hu, hg⟩ := jI ht
 rcases zW h with ⟨rfl, cs, h1, rfl⟩ | ⟨rfl, rfl, h1⟩
 · obtain ⟨vs, h2, h3, h4⟩ := hb.sub h1
   refine ⟨.agg vs.toArray, ju (by simpa using h2), ?_⟩
   have h5 := sW (P := P) h4
   rw [h3] at h5
   simp only [loadVar, Sem.run_bind, kw hu, Result.andThen_ok, hg, if_true, bJ hi, hs, h5, Sem.run_pure]
 · obtain ⟨vs, h2, h3, h4⟩ := hb.sub h1
   cases vs with
   | nil => simp at h3
   | cons v vs =>
    have h5 := h4 0 v rfl
    rw [cP, Nat.add_zero] at h5
    refine ⟨v, (VRL.tail h2).1, ?_⟩
    simp [loadVar, kw hu, hg, h5]
end Go.CP
namespace Go.CP
variable [LG] [HK]
section
variable {P : Program} {N0 : Nat} {ι : Im} {h : Hp} {w : World} {e : Operand → CV} {ρ : Operand → Value} {o : Oper} {c : CV}
def Qs (P : Program) (ι : Im) (w : World) (ρ : Operand → Value) (o : Oper) (c : CV) : Prop := ∃ v, VR ι c v ∧ (execOp ρ o).run P w = .ok (.value v) w
theorem IR {x a b : Operand} (he : o.op = .pick x a b) (hev : ∀ x ∈ o.op.operands.toList, VR ι (e x) (ρ x)) (hc : az (e a) (e b) (e x) = some c) : Qs P ι w ρ o c := by
 have hx := hev x (by simp [he, Op.operands])
 have ha := hev a (by simp [he, Op.operands])
 have hb := hev b (by simp [he, Op.operands])
 unfold az at hc
 split at hc
 · rename_i hx'
   rw [hx'] at hx
   injection hc with hc; subst hc
   refine ⟨_, ha, ?_⟩
   unfold execOp; rw [he]
   simp [dF hx, asBool]
 · rename_i hx'
   rw [hx'] at hx
   injection hc with hc; subst hc
   refine ⟨_, hb, ?_⟩
   unfold execOp; rw [he]
   simp [dF hx, asBool]
 · cases hc
theorem gY {α : Type} (l : List α) (f : α → CV) (g : α → Value) (hfg : ∀ x ∈ l, VR ι (f x) (g x)) : VRL ι (l.map f) (l.map g) := by
 induction l with
 | nil => exact VRL.nil ι
 | cons x l ih => exact VRL.cons (hfg x List.mem_cons_self) (ih fun y hy => hfg y (List.mem_cons_of_mem _ hy))
theorem zX (parts : List (Nat × Operand)) (hev : ∀ x ∈ parts.map (·.2), VR ι (e x) (ρ x)) : IQ ι (parts.map fun p => (p.1, e p.2)) (parts.map fun p => (p.1, ρ p.2)) := by
 refine ⟨by simp, ?_⟩
 have h1 : (parts.map fun p => (p.1, e p.2)).map (·.2) = parts.map fun p => e p.2 := by simp
 have h2 : (parts.map fun p => (p.1, ρ p.2)).map (·.2) = parts.map fun p => ρ p.2 := by simp
 rw [h1, h2]
 exact gY parts (fun p => e p.2) (fun p => ρ p.2) fun p hp => hev p.2 (List.mem_map.2 ⟨p, hp, rfl⟩)
theorem FN {t : TypeId} {parts : Array (Nat × Operand)} (he : o.op = .build t parts) (hev : ∀ x ∈ o.op.operands.toList, VR ι (e x) (ρ x)) (hc : lc (parts.toList.map fun p => (p.1, e p.2)) (ae P t) = some c) : Qs P ι w ρ o c := by
 have hpv := zX (ι := ι) (e := e) (ρ := ρ) parts.toList (fun x hx => hev x (by simp [he, Op.operands]; simpa using hx))
 have hmapv : (parts.map fun x => (x.1, ρ x.2)).toList = parts.toList.map fun x => (x.1, ρ x.2) := by simp
 unfold lc at hc
 split at hc
 · cases hc
 · rename_i hsol
   have fin : ∀ {arr : Array Value} {cs : List CV}, P.built t (parts.map fun x => (x.1, ρ x.2)).toList = some arr → VRL ι cs arr.toList → Qs P ι w ρ o (.agg cs) := by
    intro arr cs hb hv
    refine ⟨.agg arr, ju hv, ?_⟩
    unfold execOp; rw [he]
    simp only [Sem.run_bind, run_build w t _ arr hb, Result.andThen_ok, Sem.run_pure]
   split at hc
   · rename_i fs z hty
     obtain ⟨fields, i, zv, hu, hi, hz, hzc, hfs, hall⟩ := mY hty
     split at hc
     · rename_i cs hf
       injection hc with hc; subst hc
       have hplaces : fields.toList.mapM (fun f => (P.info? f.type).map fun i => (f.offset, i.size)) = some (fields.toList.map fun f => (f.offset, P.cellsOf f.type)) := by
        have : ∀ l : List Field, (∀ f ∈ l, (P.info? f.type).isSome = true) → l.mapM (fun f => (P.info? f.type).map fun i => (f.offset, i.size)) = some (l.map fun f => (f.offset, P.cellsOf f.type)) := by
         intro l
         induction l with
         | nil => intro _; rfl
         | cons f l ih =>
          intro hl
          obtain ⟨i2, hi2⟩ := Option.isSome_iff_exists.1 (hl f List.mem_cons_self)
          simp [List.mapM_cons, hi2, ih (fun g hg => hl g (List.mem_cons_of_mem _ hg)), Program.cellsOf]
        exact this _ fun f hf => (hall f hf).1
       subst hzc
       obtain ⟨arr, e1, e2⟩ := p9 (ι := ι) (fs := fs) (place := (((fields.toList.map fun f => (f.offset, P.cellsOf f.type)).toArray)[·]?)) (by
        intro k; rw [hfs]; simp [List.getElem?_map, Function.comp_def]) _ _ (bR zv) zv.cells cs hpv hsol (ku ι _) hf
       refine fin ?_ e2
       unfold Program.built
       simp only [hi, hu, hz, hplaces, hmapv]
       exact e1
     · cases hc
   · rename_i n el esz g z hty
     obtain ⟨hu, ⟨i, d, hi, hsz, hd⟩, _, j, zv, hj, hz, hzc⟩ := jw hty
     split at hc
     · rename_i cs hf
       injection hc with hc; subst hc
       subst hzc
       obtain ⟨arr, e1, e2⟩ := lO (ι := ι) _ _ (bR zv) zv.cells cs hpv hsol (ku ι _) hf
       refine fin ?_ e2
       unfold Program.built
       simp only [hi, hu, hz, hj, hmapv, hsz]
       exact e1
     · cases hc
   · cases hc
theorem IS (S : Sim N0 ι h w) {t : TypeId} {x : Operand} (he : o.op = .load t x) (hev : ∀ x ∈ o.op.operands.toList, VR ι (e x) (ρ x)) (hc : ao h (e x) (au P t) = some c) : Qs P ι w ρ o c := by
 have hx := hev x (by simp [he, Op.operands])
 unfold ao at hc
 split at hc
 · rename_i n a ht
   split at hc
   · rename_i k off hx'
     rw [hx'] at hx
     obtain ⟨i, hi, hv⟩ := cN hx
     obtain ⟨v, h1, h2⟩ := oS (P := P) (S.blk k i hi) ht hc
     refine ⟨v, h1, ?_⟩
     unfold execOp; rw [he]
     simp only [hv, Instr.loadAt, Instr.sureAddr, Sem.run_bind, Sem.run_pure, Result.andThen_ok, h2]
   · cases hc
 · cases hc
theorem Lm {x : Operand} (he : o.op = .nilCheck x) (hev : ∀ x ∈ o.op.operands.toList, VR ι (e x) (ρ x)) (hc : CY (e x) = some c) : Qs P ι w ρ o c := by
 have hx := hev x (by simp [he, Op.operands])
 unfold CY at hc
 split at hc
 · rename_i k off hx'
   rw [hx'] at hx
   obtain ⟨i, hi, hv⟩ := cN hx
   injection hc with hc; subst hc
   refine ⟨_, by rw [hv] at hx; exact hx, ?_⟩
   unfold execOp; rw [he]; simp [hv]
 · rename_i f cs hx'
   rw [hx'] at hx
   obtain ⟨vs, hv, _⟩ := p6 hx
   injection hc with hc; subst hc
   refine ⟨_, by rw [hv] at hx; exact hx, ?_⟩
   unfold execOp; rw [he]; simp [hv]
 · rename_i k hx'
   rw [hx'] at hx
   obtain ⟨i, hi, hv⟩ := Fg hx
   injection hc with hc; subst hc
   refine ⟨_, by rw [hv] at hx; exact hx, ?_⟩
   unfold execOp; rw [he]; simp [hv]
 · cases hc
theorem wL {t : TypeId} {x : Operand} {f : Nat} (he : o.op = .fieldAddr t x f) (hev : ∀ x ∈ o.op.operands.toList, VR ι (e x) (ρ x)) (hc : dN f (e x) (ae P t) = some c) : Qs P ι w ρ o c := by
 have hx := hev x (by simp [he, Op.operands])
 unfold dN at hc
 split at hc
 · rename_i fs z hty
   split at hc
   · rename_i k off' hx'
     rw [hx'] at hx
     obtain ⟨i, hi, hv⟩ := cN hx
     split at hc
     · rename_i off size agg hf
       injection hc with hc; subst hc
       obtain ⟨fields, i2, zv, hu, hi2, hz, _, hfs, hall⟩ := mY hty
       rw [hfs] at hf
       have hflt : f < fields.toList.length := by
        rcases Nat.lt_or_ge f fields.toList.length with h | h
        · exact h
        · rw [List.getElem?_eq_none (by simpa using h)] at hf; simp at hf
       have hflt' : f < fields.size := by simpa using hflt
       rw [List.getElem?_map, List.getElem?_eq_getElem hflt] at hf
       simp only [Option.map_some, Option.some.injEq, Prod.mk.injEq] at hf
       obtain ⟨h1, h2, h3⟩ := hf
       obtain ⟨hi1, hu1, hn0⟩ := hall _ (List.getElem_mem hflt)
       have hel : fields.toList[f] = fields[f] := Array.getElem_toList ..
       rw [hel] at h1 h2 h3 hi1 hu1 hn0
       have hfield : fields[f]? = some fields[f] := Array.getElem?_eq_getElem hflt'
       have hplace : ∀ (ad : Addr), (fieldPlace ad fields[f]).run P w = .ok (ad.add off) w := by
        intro ad
        obtain ⟨i2, hi2⟩ := Option.isSome_iff_exists.1 hi1
        have : P.cellsOf fields[f].type = i2.size := by simp [Program.cellsOf, hi2]
        rw [this] at hn0
        simp [fieldPlace, bJ hi2, hn0, h1]
       refine ⟨_, .ptr hi, ?_⟩
       unfold execOp; rw [he]
       simp [hv, Instr.fieldAt, ap hu, hfield, Instr.sureAddr, hplace, cP, Nat.add_assoc]
     · cases hc
   · cases hc
 · cases hc
theorem C4 {cs : List CV} {vs : Array Value} (hv : VRL ι cs vs.toList) {t : TypeId} {i2 : TypeInfo} {d : TypeDesc} (hi : P.info? t = some i2) (hd : P.underlying t = some d) {off : Nat} (hc : val cs off i2.size (lK P t) = some c) : ∃ v, VR ι c v ∧ (part t vs off).run P w = .ok v w := by
 unfold val at hc
 split at hc
 · cases hc
 · rename_i hle
   have hle := bv hle
   split at hc
   · rename_i hg
     injection hc with hc; subst hc
     refine ⟨.agg (vs.extract off (off + i2.size)), ju ?_, ?_⟩
     · have := hv.sub off i2.size
       simpa [Array.toList_extract, List.extract] using this
     · simp [part, kw hd, hg, bJ hi]
   · rename_i hg
     split at hc
     · obtain ⟨v, h1, h2⟩ := hv.get? hc
       refine ⟨v, h2, ?_⟩
       rw [Array.getElem?_toList] at h1
       simp [part, kw hd, hg, h1]
     · cases hc
theorem FO {t : TypeId} {x : Operand} {f : Nat} (he : o.op = .field t x f) (hev : ∀ x ∈ o.op.operands.toList, VR ι (e x) (ρ x)) (hc : uK f (e x) (ae P t) = some c) : Qs P ι w ρ o c := by
 have hx := hev x (by simp [he, Op.operands])
 unfold uK at hc
 split at hc
 · rename_i fs z hty
   split at hc
   · rename_i cs hx'
     rw [hx'] at hx
     obtain ⟨vs, hv, hvs⟩ := dd hx
     split at hc
     · rename_i off size agg hf
       obtain ⟨fields, i2, zv, hu, hi2, hz, _, hfs, hall⟩ := mY hty
       rw [hfs] at hf
       have hflt : f < fields.toList.length := by
        rcases Nat.lt_or_ge f fields.toList.length with h | h
        · exact h
        · rw [List.getElem?_eq_none (by simpa using h)] at hf; simp at hf
       have hflt' : f < fields.size := by simpa using hflt
       rw [List.getElem?_map, List.getElem?_eq_getElem hflt] at hf
       simp only [Option.map_some, Option.some.injEq, Prod.mk.injEq] at hf
       obtain ⟨h1, h2, h3⟩ := hf
       obtain ⟨hi1, hu1, hn0⟩ := hall _ (List.getElem_mem hflt)
       have hel : fields.toList[f] = fields[f] := Array.getElem_toList ..
       rw [hel] at h1 h2 h3 hi1 hu1 hn0
       have hfield : fields[f]? = some fields[f] := Array.getElem?_eq_getElem hflt'
       obtain ⟨i3, hi3⟩ := Option.isSome_iff_exists.1 hi1
       obtain ⟨d3, hd3⟩ := Option.isSome_iff_exists.1 hu1
       have hsz : P.cellsOf fields[f].type = i3.size := by simp [Program.cellsOf, hi3]
       rw [← h2, ← h3, hsz] at hc
       obtain ⟨v, h4, h5⟩ := C4 (P := P) (w := w) hvs hi3 hd3 hc
       refine ⟨v, h4, ?_⟩
       unfold execOp; rw [he]
       simp [hv, Instr.field, ap hu, hfield, asAgg, h1, h5]
     · cases hc
   · cases hc
 · cases hc
theorem wM {t : TypeId} {x i : Operand} (he : o.op = .indexAddr t x i) (hev : ∀ x ∈ o.op.operands.toList, VR ι (e x) (ρ x)) (hc : ak (e x) (e i) (ae P t) = some c) : Qs P ι w ρ o c := by
 have hx := hev x (by simp [he, Op.operands])
 have hi := hev i (by simp [he, Op.operands])
 have at_ : ∀ {k off n esz : Nat}, sU k off n esz (e i) = some c → ∃ q j, ρ i = .int q (Int.ofNat j) ∧ j < n ∧ c = .ptr k (off + j * esz) := by
  intro k off n esz hq
  unfold sU at hq
  split at hq
  · rename_i q j hi'
    rw [hi'] at hi
    split at hq
    · rename_i hlt
      injection hq with hq
      exact ⟨q, j, bS hi, cO hlt, hq.symm⟩
    · cases hq
  · cases hq
 have hnn : ∀ j : Nat, (0 : Int) ≤ Int.ofNat j := fun j => Int.natCast_nonneg j
 unfold ak at hc
 split at hc
 · rename_i el esz bytes z hty
   obtain ⟨hu, inf, zv, d, hinf, hsz, _⟩ := bT hty
   split at hc
   · rename_i k off n cp hx'
     obtain ⟨q, j, hq, hlt, rfl⟩ := at_ hc
     rw [hx'] at hx
     generalize hv : ρ x = v at hx
     cases hx with
     | @sl _ _ _ _ c' ii hi hcc =>
      refine ⟨_, .ptr hi, ?_⟩
      unfold execOp; rw [he]
      have h2 : (Int.ofNat j) < (n : Int) := Int.ofNat_lt.2 hlt
      have h3 : (Int.ofNat j).toNat = j := rfl
      simp only [hv, hq, Instr.indexAt, asIntOf, ap hu, bJ hinf, Sem.run_bind, Sem.run_pure, Result.andThen_ok, hnn j, h2, and_self, if_true, h3, hsz, cP, Nat.add_assoc]
   · cases hc
 · rename_i n el esz g z hty
   obtain ⟨hu, ⟨inf, d, hinf, hsz, hd⟩, _⟩ := jw hty
   split at hc
   · rename_i k off hx'
     obtain ⟨q, j, hq, hlt, rfl⟩ := at_ hc
     rw [hx'] at hx
     obtain ⟨ii, hi, hv⟩ := cN hx
     refine ⟨_, .ptr hi, ?_⟩
     unfold execOp; rw [he]
     have h2 : (Int.ofNat j) < (n : Int) := Int.ofNat_lt.2 hlt
     have h3 : (Int.ofNat j).toNat = j := rfl
     simp only [hv, hq, Instr.indexAt, Instr.sureAddr, asIntOf, ap hu, bJ hinf, Sem.run_bind, Sem.run_pure, Result.andThen_ok, hnn j, h2, and_self, if_true, h3, hsz, cP, Nat.add_assoc]
   · cases hc
 · cases hc
theorem FP {t : TypeId} {x i : Operand} (he : o.op = .index t x i) (hev : ∀ x ∈ o.op.operands.toList, VR ι (e x) (ρ x)) (hc : bD (e x) (e i) (ae P t) = some c) : Qs P ι w ρ o c := by
 have hx := hev x (by simp [he, Op.operands])
 have hi := hev i (by simp [he, Op.operands])
 unfold bD at hc
 split at hc
 · rename_i hty
   have hu := ef hty
   split at hc
   · rename_i s hx'
     split at hc
     · rename_i q j hi'
       rw [hx'] at hx
       rw [hi'] at hi
       obtain ⟨b, hv, rfl⟩ := cG hx
       have hq := bS hi
       split at hc
       · rename_i a ha
         injection hc with hc; subst hc
         unfold bs at ha
         rw [List.getElem?_map] at ha
         cases hb : b.data.toList[j]? with
         | none => rw [hb] at ha; simp at ha
         | some y =>
          rw [hb] at ha
          simp only [Option.map_some, Option.some.injEq] at ha
          subst ha
          refine ⟨_, .nu _ _, ?_⟩
          have hnn : (0 : Int) ≤ Int.ofNat j := Int.natCast_nonneg j
          have h3 : (Int.ofNat j).toNat = j := rfl
          have hlt : j < b.size := by
           have := (List.getElem?_eq_some_iff.1 hb).1
           simpa using this
          have h4 : b[j]? = some y := by
           rw [Array.getElem?_toList] at hb
           obtain ⟨hj, he⟩ := Array.getElem?_eq_some_iff.1 hb
           rw [getElem?_pos b j hlt]
           exact congrArg some he
          unfold execOp; rw [he]
          simp only [hv, hq, Instr.index, asIntOf, ap hu, Sem.run_bind, Sem.run_pure, Result.andThen_ok, hnn, if_true, h3, h4]
          rfl
       · cases hc
     · cases hc
   · cases hc
 · cases hc
theorem zY {x : Operand} {j : Nat} (he : o.op = .extract x j) (hev : ∀ x ∈ o.op.operands.toList, VR ι (e x) (ρ x)) (hc : ar j (e x) = some c) : Qs P ι w ρ o c := by
 have hx := hev x (by simp [he, Op.operands])
 unfold ar at hc
 split at hc
 · rename_i vs hx'
   rw [hx'] at hx
   obtain ⟨us, hv, hus⟩ := zT hx
   obtain ⟨v, h1, h2⟩ := hus.get? hc
   rw [Array.getElem?_toList] at h1
   refine ⟨v, h2, ?_⟩
   unfold execOp; rw [he]
   simp [hv, Instr.extract, h1]
 · cases hc
theorem L0 {f : FuncId} {first caps : Array Operand} (he : o.op = .makeFunc (.func f) first caps) (hev : ∀ x ∈ o.op.operands.toList, VR ι (e x) (ρ x)) (hc : IF f (caps.toList.map e) first.toList = some c) : Qs P ι w ρ o c := by
 unfold IF at hc
 split at hc
 · rename_i hf
   injection hc with hc; subst hc
   have hf : first = #[] := by rw [← Array.toArray_toList (xs := first), hf]
   subst hf
   refine ⟨.func (.func f) #[] (caps.map ρ), zS ?_, ?_⟩
   · have := gY (ι := ι) caps.toList e ρ fun x hx => hev x (by simp [he, Op.operands]; exact Array.mem_toList_iff.1 hx)
     simpa using this
   · unfold execOp; rw [he]
     simp [Instr.makeFunc]
 · cases hc
theorem Ln (S : Sim N0 ι h w) {cl : Call} (he : o.op = .call cl) (hcl : cl.callee = .builtin .len) (hev : ∀ x ∈ o.op.operands.toList, VR ι (e x) (ρ x)) (hc : oe P h e cl.argTypes.toList cl.args.toList = some c) : Qs P ι w ρ o c := by
 unfold oe at hc
 split at hc
 · rename_i t x hts hxs
   have hargs : cl.args = #[x] := by rw [← Array.toArray_toList (xs := cl.args), hxs]
   have hats : cl.argTypes = #[t] := by rw [← Array.toArray_toList (xs := cl.argTypes), hts]
   have hx := hev x (by simp [he, Op.operands, Call.operands, hcl, hargs])
   unfold aB at hc
   split at hc
   · rename_i kt et hty
     have hu := qT hty
     split at hc
     · rename_i hx'
       rw [hx'] at hx
       injection hc with hc; subst hc
       generalize hv : ρ x = v at hx
       cases hx
       refine ⟨_, .nu _ _, ?_⟩
       unfold execOp; rw [he]
       simp [resolve, hcl, hargs, hats, invoke, builtin, Builtin.len_, hv, ap hu, goInt]
     · rename_i k hx'
       rw [hx'] at hx
       generalize hv : ρ x = v at hx
       cases hx with
       | @mp _ i hi =>
        have hB := S.blk k i hi
        unfold yC at hc
        split at hc
        · rename_i es hb
          rw [hb] at hB
          obtain ⟨ents, clock, hg, hm, _⟩ := hB
          injection hc with hc; subst hc
          have hl := hm.1
          simp only [List.length_map, Array.length_toList] at hl
          have hobj : (getObj i.b).run P w = .ok (.map ents clock) w := by simp [getObj, Sem.run, hg]
          refine ⟨_, .nu _ _, ?_⟩
          unfold execOp; rw [he]
          simp [resolve, hcl, hargs, hats, invoke, builtin, Builtin.len_, hv, ap hu, goInt, hobj, hl]
        · cases hc
     · cases hc
   · rename_i el esz bytes z hty
     have hu := (bT hty).1
     split at hc
     · rename_i k off n cp hx'
       rw [hx'] at hx
       injection hc with hc; subst hc
       generalize hv : ρ x = v at hx
       cases hx with
       | sl hi hcc =>
        refine ⟨_, .nu _ _, ?_⟩
        unfold execOp; rw [he]
        simp [resolve, hcl, hargs, hats, invoke, builtin, Builtin.len_, hv, ap hu, goInt]
     · rename_i hx'
       rw [hx'] at hx
       injection hc with hc; subst hc
       generalize hv : ρ x = v at hx
       cases hx
       refine ⟨_, .nu _ _, ?_⟩
       unfold execOp; rw [he]
       simp [resolve, hcl, hargs, hats, invoke, builtin, Builtin.len_, hv, ap hu, goInt]
     · rename_i hx'
       rw [hx'] at hx
       injection hc with hc; subst hc
       generalize hv : ρ x = v at hx
       cases hx
       refine ⟨_, .nu _ _, ?_⟩
       unfold execOp; rw [he]
       simp [resolve, hcl, hargs, hats, invoke, builtin, Builtin.len_, hv, ap hu, goInt]
     · cases hc
   · rename_i hty
     have hu := ef hty
     split at hc
     · rename_i s hx'
       rw [hx'] at hx
       injection hc with hc; subst hc
       obtain ⟨b, hv, rfl⟩ := cG hx
       rw [dx]
       refine ⟨_, .nu _ _, ?_⟩
       unfold execOp; rw [he]
       simp [resolve, hcl, hargs, hats, invoke, builtin, Builtin.len_, hv, ap hu, goInt]
     · cases hc
   · cases hc
 · cases hc
theorem Lo {cl : Call} (he : o.op = .call cl) (hcl : cl.callee = .builtin .max) (hev : ∀ x ∈ o.op.operands.toList, VR ι (e x) (ρ x)) (hc : pW e cl.args.toList = some c) : Qs P ι w ρ o c := by
 unfold pW at hc
 split at hc
 · rename_i x y hxs
   have hargs : cl.args = #[x, y] := by rw [← Array.toArray_toList (xs := cl.args), hxs]
   have hx := hev x (by simp [he, Op.operands, Call.operands, hcl, hargs])
   have hy := hev y (by simp [he, Op.operands, Call.operands, hcl, hargs])
   unfold uL at hc
   split at hc
   · rename_i k a k' b hx' hy'
     rw [hx'] at hx; rw [hy'] at hy
     have h1 := bS hx
     have h2 := bS hy
     injection hc with hc; subst hc
     refine ⟨_, .nu _ _, ?_⟩
     unfold execOp; rw [he]
     simp only [resolve, hcl, hargs, invoke, builtin, Builtin.max_, Builtin.max2, h1, h2, Sem.run_bind, Sem.run_pure, Result.andThen_ok]
     have : (if b > a then b else a) = (match cr b a with | true => a | false => b) := by
      rw [de]
      by_cases hlt : b ≤ a
      · rw [if_neg (by omega)]; simp [hlt]
      · rw [if_pos (by omega)]; simp [hlt]
     simp [Builtin.max2, h1, h2, this]
     cases cr b a <;> rfl
   · cases hc
 · cases hc
theorem Lq {cl : Call} (he : o.op = .call cl) (hcl : cl.callee = .builtin .min) (hev : ∀ x ∈ o.op.operands.toList, VR ι (e x) (ρ x)) (hc : pX e cl.args.toList = some c) : Qs P ι w ρ o c := by
 unfold pX at hc
 split at hc
 · rename_i x y hxs
   have hargs : cl.args = #[x, y] := by rw [← Array.toArray_toList (xs := cl.args), hxs]
   have hx := hev x (by simp [he, Op.operands, Call.operands, hcl, hargs])
   have hy := hev y (by simp [he, Op.operands, Call.operands, hcl, hargs])
   unfold uM at hc
   split at hc
   · rename_i k a k' b hx' hy'
     rw [hx'] at hx; rw [hy'] at hy
     have h1 := bS hx
     have h2 := bS hy
     injection hc with hc; subst hc
     refine ⟨_, .nu _ _, ?_⟩
     unfold execOp; rw [he]
     have : (if b < a then b else a) = (match cr a b with | true => a | false => b) := by
      rw [de]
      by_cases hlt : a ≤ b
      · rw [if_neg (by omega)]; simp [hlt]
      · rw [if_pos (by omega)]; simp [hlt]
     simp [resolve, hcl, hargs, invoke, builtin, Builtin.min_, Builtin.min2, h1, h2, this]
     cases cr a b <;> rfl
   · cases hc
 · cases hc
end
end Go.CP
namespace Go.CP
variable [LG] [HK]
section
variable {P : Program} {N0 : Nat} {ι : Im} {h : Hp} {w : World} {e : Operand → CV} {ρ : Operand → Value} {o : Oper} {c : CV}
theorem dP {t : TypeId} (h : cL (ae P t) = true) : (∃ k, P.underlying t = some (.int k)) ∨ P.underlying t = some .string ∨ P.underlying t = some .bool := by
 unfold cL at h
 split at h
 · rename_i k hk; exact .inl ⟨k, gz hk⟩
 · rename_i hk; exact .inr (.inl (ef hk))
 · rename_i hk; exact .inr (.inr (pw hk))
 · cases h
theorem om {t : TypeId} (ht : cL (ae P t) = true) {p q : CV} {u v : Value} {b : Bool} (hb : iX p q = some b) (hu : VR ι p u) (hv : VR ι q v)
  (hk : ∀ k, P.underlying t = some (.int k) → ∃ k' n, p = .nu k' n) (hs : P.underlying t = some .string → ∃ s, p = .st s) (hbo : P.underlying t = some .bool → ∃ x, p = .bo x) (d : Nat) : (Op.equalIn (d + 1) t u v).run P w = .ok b w := by
 unfold iX at hb
 split at hb
 · rename_i k x k' y
   obtain rfl := bS hu
   obtain rfl := bS hv
   split at hb
   · rename_i hkk
     obtain rfl := li hkk
     injection hb with hb; subst hb
     rcases dP ht with ⟨k0, h1⟩ | h1 | h1
     · simp [Op.equalIn, ap h1, yJ]
     · obtain ⟨s, hs⟩ := hs h1; cases hs
     · obtain ⟨s, hs⟩ := hbo h1; cases hs
   · cases hb
 · obtain ⟨a, rfl, rfl⟩ := cG hu
   obtain ⟨b', rfl, rfl⟩ := cG hv
   injection hb with hb; subst hb
   rcases dP ht with ⟨k0, h1⟩ | h1 | h1
   · obtain ⟨_, _, hs⟩ := hk k0 h1; cases hs
   · simp only [Op.equalIn, Sem.run_bind, ap h1, Result.andThen_ok, Sem.run_pure, bs, jH, beq_toListBytes, ByteArray.toList_eq]
   · obtain ⟨s, hs⟩ := hbo h1; cases hs
 · obtain rfl := dF hu
   obtain rfl := dF hv
   injection hb with hb; subst hb
   rcases dP ht with ⟨k0, h1⟩ | h1 | h1
   · obtain ⟨_, _, hs⟩ := hk k0 h1; cases hs
   · obtain ⟨s, hs⟩ := hs h1; cases hs
   · simp [Op.equalIn, ap h1]
 · cases hb
theorem mZ {t : TypeId} {p : CV} (h : fi P t p = true) : (∀ k, P.underlying t = some (.int k) → ∃ k' n, p = .nu k' n) ∧ (P.underlying t = some .string → ∃ s, p = .st s) ∧ (P.underlying t = some .bool → ∃ x, p = .bo x) := by
 unfold fi at h
 split at h
 · rename_i k hk
   have hu := gz hk
   split at h
   · exact ⟨fun _ _ => ⟨_, _, rfl⟩, fun h1 => (by rw [hu] at h1; cases h1), fun h1 => (by rw [hu] at h1; cases h1)⟩
   · cases h
 · rename_i hk
   have hu := ef hk
   split at h
   · exact ⟨fun _ h1 => (by rw [hu] at h1; cases h1), fun _ => ⟨_, rfl⟩, fun h1 => (by rw [hu] at h1; cases h1)⟩
   · cases h
 · rename_i hk
   have hu := pw hk
   split at h
   · exact ⟨fun _ h1 => (by rw [hu] at h1; cases h1), fun h1 => (by rw [hu] at h1; cases h1), fun _ => ⟨_, rfl⟩⟩
   · cases h
 · cases h
theorem dK {t : TypeId} (ht : cL (ae P t) = true) {xs : Array Value} {j : Nat} {v : Value} (hj : xs[j]? = some v) : (part t xs j).run P w = .ok v w := by
 rcases dP ht with ⟨k0, h1⟩ | h1 | h1 <;> simp [part, isAgg, ap h1, hj]
theorem C5 {t : TypeId} (ht : cL (ae P t) = true) {i : TypeInfo} (hi : P.info? t = some i) (hs : i.size = 1) (d : Nat) {us vs : Array Value} : ∀ (m s : Nat) (ps qs : List CV) (b : Bool), ps.length = m → s + m ≤ us.size → cB ps qs = some b → VRL ι ps (us.toList.drop s) → VRL ι qs (vs.toList.drop s) →
  (ps.all (fi P t)) = true → (Op.eqItems (d + 1) t 1 us vs (List.range' s m)).run P w = .ok b w := by
 intro m
 induction m with
 | zero =>
  intro s ps qs b hl _ hb h1 h2 _
  have : ps = [] := List.eq_nil_of_length_eq_zero hl
  subst this
  cases qs with
  | nil => simp only [cB, Option.some.injEq] at hb; subst hb; simp [Op.eqItems]
  | cons => simp [cB] at hb
 | succ m ih =>
  intro s ps qs b hl hle hb h1 h2 hf
  cases ps with
  | nil => simp at hl
  | cons p ps =>
   cases qs with
   | nil => simp [cB] at hb
   | cons q qs =>
    have hlt : s < us.toList.length := by simp; omega
    have hd1 : us.toList.drop s = us.toList[s] :: us.toList.drop (s + 1) := List.drop_eq_getElem_cons hlt
    have hlt2 : s < vs.toList.length := by
     have := h2.1
     simp only [List.length_drop, List.length_cons] at this
     omega
    have hd2 : vs.toList.drop s = vs.toList[s] :: vs.toList.drop (s + 1) := List.drop_eq_getElem_cons hlt2
    rw [hd1] at h1; rw [hd2] at h2
    obtain ⟨h3, h4⟩ := VRL.tail h1
    obtain ⟨h5, h6⟩ := VRL.tail h2
    simp only [List.all_cons, Bool.and_eq_true] at hf
    obtain ⟨f1, f2, f3⟩ := mZ hf.1
    have e1 : us[s]? = some us.toList[s] := by rw [← Array.getElem?_toList]; exact List.getElem?_eq_getElem hlt
    have e2 : vs[s]? = some vs.toList[s] := by rw [← Array.getElem?_toList]; exact List.getElem?_eq_getElem hlt2
    simp only [cB] at hb
    simp only [List.range'_succ, Op.eqItems, Sem.run_bind, Nat.mul_one, dK ht e1, dK ht e2, Result.andThen_ok]
    split at hb
    · rename_i hpq
      rw [om ht hpq h3 h5 f1 f2 f3 d]
      simp only [Result.andThen_ok, Bool.not_true, Bool.false_eq_true, if_false]
      exact ih (s + 1) ps qs b (by simpa using hl) (by omega) hb h4 h6 hf.2
    · rename_i hpq
      rw [om ht hpq h3 h5 f1 f2 f3 d]
      injection hb with hb; subst hb
      simp
    · cases hb
theorem mF {t el : TypeId} {n esz : Nat} {g : Bool} {z : List CV} (hty : ae P t = .arr n el esz g z) (hfl : cL (ae P el) = true) (hesz : esz = 1) {ps qs : List CV} {us vs : Array Value} (hp : VRL ι ps us.toList) (hq : VRL ι qs vs.toList) (hpl : ps.length = n)
  (hf : ps.all (fi P el) = true) {b : Bool} (hb : cB ps qs = some b) (d : Nat) : (Op.equalIn (d + 2) t (.agg us) (.agg vs)).run P w = .ok b w := by
 obtain ⟨hu, ⟨i, d', hi, hsz, hd⟩, _⟩ := jw hty
 have hc : P.cellsOf el = 1 := by simp [Program.cellsOf, hi, hsz, hesz]
 rw [run_equalIn_array w (d + 1) us vs hu hi, List.range_eq_range', hc]
 have := hp.1
 simp only [Array.length_toList] at this
 exact C5 (ι := ι) hfl hi (by rw [hsz, hesz]) d n 0 ps qs b hpl (by omega) hb (by simpa using hp) (by simpa using hq) hf
theorem px (d : Nat) {us vs : Array Value} {xs ys : List CV} (hp : VRL ι xs us.toList) (hq : VRL ι ys vs.toList) : ∀ (fs : List Field) (b : Bool), fs.all (fun f => cL (ae P f.type)) = true → kP P fs xs ys = some b → (Op.eqFields (d + 1) us vs fs).run P w = .ok b w
 | [], b, _, hb => by
  simp only [kP, Option.some.injEq] at hb
  subst hb
  simp [Op.eqFields]
 | f :: fs, b, hf, hb => by
  simp only [List.all_cons, Bool.and_eq_true] at hf
  simp only [kP] at hb
  split at hb
  · cases hb
  · rename_i hn
    have hn' : f.name ≠ "_" := by simpa using hn
    split at hb
    · rename_i p q hpx hqx
      split at hb
      · rename_i hfit
        obtain ⟨f1, f2, f3⟩ := mZ hfit
        obtain ⟨u, hu, hvu⟩ := hp.get? hpx
        obtain ⟨v, hv, hvv⟩ := hq.get? hqx
        rw [Array.getElem?_toList] at hu hv
        have e1 := dK (w := w) hf.1 hu
        have e2 := dK (w := w) hf.1 hv
        simp only [Op.eqFields, hn', ne_eq, not_false_eq_true, if_true, Sem.run_bind, e1, e2, Result.andThen_ok]
        split at hb
        · rename_i hpq
          rw [om hf.1 hpq hvu hvv f1 f2 f3 d]
          simp only [Result.andThen_ok, Bool.not_true, Bool.false_eq_true, if_false]
          exact px d hp hq fs b hf.2 hb
        · rename_i hpq
          rw [om hf.1 hpq hvu hvv f1 f2 f3 d]
          injection hb with hb; subst hb
          simp
        · cases hb
      · cases hb
    · cases hb
theorem Fh {op : BinOp} {t yt : TypeId} {x y : Operand} {b r : Bool} (he : o.op = .binOp op t x y yt) (hop : (op = .eql ∧ r = b) ∨ (op = .neq ∧ r = !b)) (hev : ∀ x ∈ o.op.operands.toList, VR ι (e x) (ρ x)) (hv : sT P t (e x) (e y) = some b) (hna : ∀ k n k' m, ¬ (e x = .nu k n ∧ e y = .nu k' m)) : Qs P ι w ρ o (.bo r) := by
 have hx := hev x (by simp [he, Op.operands])
 have hy := hev y (by simp [he, Op.operands])
 refine ⟨_, .bo _, ?_⟩
 have hgb : ∀ a a', (eqGuard op t x y (.bool a) (.bool a')).run P w = .ok () w := by
  intro a a'; rcases hop with ⟨h1, _⟩ | ⟨h1, _⟩ <;> subst h1 <;> simp [eqGuard]
 have hgs : ∀ a n cp a' n' cp', (eqGuard op t x y (.slice a n cp) (.slice a' n' cp')).run P w = .ok () w := by
  intro a n cp a' n' cp'; rcases hop with ⟨h1, _⟩ | ⟨h1, _⟩ <;> subst h1 <;> simp [eqGuard]
 have fin : ∀ {u v : Value}, ρ x = u → ρ y = v → (eqGuard op t x y u v).run P w = .ok () w → (∀ k n k' m, ¬ (u = .int k n ∧ v = .int k' m)) → (∀ s s', ¬ (u = .string s ∧ v = .string s')) → (∀ k n k' m, ¬ (u = .float k n ∧ v = .float k' m)) → (∀ k n m k' n' m', ¬ (u = .complex k n m ∧ v = .complex k' n' m')) → (Op.equal t u v).run P w = .ok b w →
   (execOp ρ o).run P w = .ok (.value (.bool r)) w := by
  intro u v hu hv' hg h1 h2 h3 h4 fj
  unfold execOp; rw [he]
  rcases hop with ⟨rfl, rfl⟩ | ⟨rfl, rfl⟩
  · have : binOp .eql t u v = (do pure (.bool (← Op.equal t u v))) := by
     unfold binOp
     split <;> first | rfl | (rename_i hh; cases hh; done) | (exfalso; first | exact h1 _ _ _ _ ⟨rfl, rfl⟩ | exact h2 _ _ ⟨rfl, rfl⟩ | exact h3 _ _ _ _ ⟨rfl, rfl⟩ | exact h4 _ _ _ _ _ _ ⟨rfl, rfl⟩) | simp_all
    simp only [hu, hv', Sem.run_bind, hg, Result.andThen_ok, this, fj, Sem.run_pure]
  · have : binOp .neq t u v = (do pure (.bool (!(← Op.equal t u v)))) := by
     unfold binOp
     split <;> first | rfl | (rename_i hh; cases hh; done) | (exfalso; first | exact h1 _ _ _ _ ⟨rfl, rfl⟩ | exact h2 _ _ ⟨rfl, rfl⟩ | exact h3 _ _ _ _ ⟨rfl, rfl⟩ | exact h4 _ _ _ _ _ _ ⟨rfl, rfl⟩) | simp_all
    simp only [hu, hv', Sem.run_bind, hg, Result.andThen_ok, this, fj, Sem.run_pure]
 unfold sT at hv
 split at hv
 · rename_i hty
   split at hv
   · rename_i a a' hx' hy'
     rw [hx'] at hx; rw [hy'] at hy
     injection hv with hv; subst hv
     refine fin (dF hx) (dF hy) (hgb _ _) (by simp) (by simp) (by simp) (by simp) ?_
     have h9 : ∀ d, (Op.equalIn (d + 1) t (.bool a) (.bool a')).run P w = .ok (a == a') w := fun d => by simp only [Op.equalIn, Sem.run_bind, ap (pw hty), Result.andThen_ok, Sem.run_pure]
     exact h9 9999
   · cases hv
 · rename_i el esz bytes z hty
   have hu := (bT hty).1
   have key : ∀ {a n cp a' n' cp'}, ρ x = .slice a n cp → ρ y = .slice a' n' cp' → (a = none ∨ a' = none) → b = (a.isNone && a'.isNone) → (execOp ρ o).run P w = .ok (.value (.bool r)) w := by
    intro a n cp a' n' cp' h1 h2 h3 h4
    refine fin h1 h2 (hgs _ _ _ _ _ _) (by simp) (by simp) (by simp) (by simp) ?_
    have h9 : ∀ d, (Op.equalIn (d + 1) t (.slice a n cp) (.slice a' n' cp')).run P w = .ok b w := fun d => by
     cases a with
     | none => simp only [Op.equalIn, Sem.run_bind, ap hu, Result.andThen_ok, Sem.run_pure, h4, Option.isNone_none, Bool.true_and]
     | some a =>
      cases a' with
      | none => simp only [Op.equalIn, Sem.run_bind, ap hu, Result.andThen_ok, Sem.run_pure, h4, Option.isNone_some, Option.isNone_none, Bool.false_and]
      | some a' => rcases h3 with h3 | h3 <;> cases h3
    exact h9 9999
   split at hv
   · rename_i hx' hy'
     rw [hx'] at hx; rw [hy'] at hy
     injection hv with hv
     generalize hv1 : ρ x = v1 at hx
     generalize hv2 : ρ y = v2 at hy
     cases hx; cases hy
     exact key hv1 hv2 (.inl rfl) hv.symm
   · rename_i hx' hy'
     rw [hx'] at hx; rw [hy'] at hy
     injection hv with hv
     generalize hv1 : ρ x = v1 at hx
     generalize hv2 : ρ y = v2 at hy
     cases hx; cases hy
     exact key hv1 hv2 (.inl rfl) hv.symm
   · rename_i hx' hy'
     rw [hx'] at hx; rw [hy'] at hy
     injection hv with hv
     generalize hv1 : ρ x = v1 at hx
     generalize hv2 : ρ y = v2 at hy
     cases hx; cases hy
     exact key hv1 hv2 (.inl rfl) hv.symm
   · rename_i hx' hy'
     rw [hx'] at hx; rw [hy'] at hy
     injection hv with hv
     generalize hv1 : ρ x = v1 at hx
     generalize hv2 : ρ y = v2 at hy
     cases hx; cases hy
     exact key hv1 hv2 (.inr rfl) hv.symm
   · rename_i hx' hy'
     rw [hx'] at hx; rw [hy'] at hy
     injection hv with hv
     generalize hv1 : ρ x = v1 at hx
     generalize hv2 : ρ y = v2 at hy
     cases hx; cases hy
     exact key hv1 hv2 (.inr rfl) hv.symm
   · cases hv
 · rename_i n el esz g z hty
   split at hv
   · rename_i xs ys hx' hy'
     rw [hx'] at hx; rw [hy'] at hy
     obtain ⟨us, h1, hus⟩ := dd hx
     obtain ⟨vs, h2, hvs⟩ := dd hy
     split at hv
     · rename_i hc
       simp only [Bool.and_eq_true] at hc
       obtain ⟨⟨⟨⟨h3, h3f⟩, h4⟩, h5⟩, h6⟩ := hc
       refine fin h1 h2 ?_ (by simp) (by simp) (by simp) (by simp) ?_
       · refine run_eqGuard_agg w op t x y us vs ?_
         obtain ⟨hu, ⟨i, d', hi, hsz, hd⟩, _⟩ := jw hty
         have h7 : ∀ d, P.eqGuardType (d + 2) t = false := by
          intro d
          simp only [Program.eqGuardType, hu]
          rcases dP h3 with ⟨k0, h1⟩ | h1 | h1 <;> simp [h1]
         exact h7 (2 * (P.types.size + Made.depth))
       · exact mF hty h3 (aW h4) hus hvs (aW h5) h3f hv 9998
     · cases hv
   · cases hv
 · rename_i sfs sz hty
   split at hv
   · rename_i xs ys hx' hy'
     rw [hx'] at hx; rw [hy'] at hy
     obtain ⟨us, h1, hus⟩ := dd hx
     obtain ⟨vs, h2, hvs⟩ := dd hy
     unfold IC at hv
     split at hv
     · rename_i fs hu
       split at hv
       · cases hv
       · rename_i hst
         split at hv
         · rename_i hfl
           have hfo : P.fieldsOf t = fs := by simp [Program.fieldsOf, hu]
           refine fin h1 h2 ?_ (by simp) (by simp) (by simp) (by simp) ?_
           · refine run_eqGuard_agg w op t x y us vs ?_
             have h7 : ∀ d, P.eqGuardType (d + 2) t = false := by
              intro d
              simp only [Program.eqGuardType, hu]
              rw [← Array.any_toList, List.any_eq_false]
              intro f hfm
              have h3 := List.all_eq_true.1 hfl f hfm
              rcases dP h3 with ⟨k0, h1⟩ | h1 | h1 <;> simp [h1]
             exact h7 (2 * (P.types.size + Made.depth))
           · have h9 : (Op.equalIn (9999 + 1) t (.agg us) (.agg vs)).run P w = .ok b w := by
              rw [run_equalIn_agg w 9999 t us vs (by rw [hfo]; exact hu) hst, hfo]
              exact px 9998 hus hvs fs.toList b hfl hv
             exact h9
         · cases hv
     · cases hv
   · cases hv
 · rename_i el hty
   have hu := jv hty
   have key : ∀ {a a' : Option Addr}, ρ x = .pointer a → ρ y = .pointer a' → (∀ d, (Op.equalIn (d + 1) t (.pointer a) (.pointer a')).run P w = .ok b w) → (execOp ρ o).run P w = .ok (.value (.bool r)) w := by
    intro a a' h1 h2 h3
    refine fin h1 h2 ?_ (by simp) (by simp) (by simp) (by simp) (h3 9999)
    rcases hop with ⟨h1, _⟩ | ⟨h1, _⟩ <;> subst h1 <;> simp [eqGuard]
   unfold ID at hv
   split at hv
   · rename_i hx' hy'
     rw [hx'] at hx; rw [hy'] at hy
     injection hv with hv; subst hv
     generalize hv1 : ρ x = v1 at hx
     generalize hv2 : ρ y = v2 at hy
     cases hx; cases hy
     exact key hv1 hv2 fun d => by simp only [Op.equalIn, Sem.run_bind, ap hu, Result.andThen_ok, Sem.run_pure, Option.isNone_none]
   · rename_i hx' hy'
     rw [hx'] at hx; rw [hy'] at hy
     injection hv with hv; subst hv
     obtain ⟨i', hi', hv2⟩ := cN hy
     generalize hv1 : ρ x = v1 at hx
     cases hx
     exact key hv1 hv2 fun d => by simp only [Op.equalIn, Sem.run_bind, ap hu, Result.andThen_ok, Sem.run_pure, Option.isNone_some]
   · rename_i hx' hy'
     rw [hx'] at hx; rw [hy'] at hy
     injection hv with hv; subst hv
     obtain ⟨i', hi', hv1⟩ := cN hx
     generalize hv2 : ρ y = v2 at hy
     cases hy
     exact key hv1 hv2 fun d => by simp only [Op.equalIn, Sem.run_bind, ap hu, Result.andThen_ok, Sem.run_pure]
   · rename_i k off k' off' hx' hy'
     split at hv
     · rename_i n g hsz
       split at hv
       · rename_i hc
         simp only [Bool.and_eq_true, Bool.not_eq_true'] at hc
         obtain rfl := aW hc.2
         injection hv with hv
         rw [hx'] at hx; rw [hy'] at hy
         obtain ⟨i, hi, hv1⟩ := cN hx
         obtain ⟨i', hi', hv2⟩ := cN hy
         rw [hi] at hi'
         injection hi' with hi'
         subst hi'
         obtain ⟨inf, d', hinf, hs, _⟩ := jI hsz
         refine key hv1 hv2 fun d => ?_
         have hne : inf.size ≠ 0 := by rw [hs]; exact jG hc.1
         have hb : ((⟨i.b, i.base + off, none⟩ : Addr) == ⟨i.b, i.base + off', none⟩) = b := by
          rw [← hv, Bool.eq_iff_iff]
          simp
         simp [Op.equalIn, ap hu, bJ hinf, hne, sameAddr, hb]
       · cases hv
     · cases hv
   · cases hv
 · cases hv
theorem FQ {op : BinOp} {t yt : TypeId} {x y : Operand} (he : o.op = .binOp op t x y yt) (hev : ∀ x ∈ o.op.operands.toList, VR ι (e x) (ρ x)) (hc : ac P op t (e x) (e y) = some c) : Qs P ι w ρ o c := by
 have hx := hev x (by simp [he, Op.operands])
 have hy := hev y (by simp [he, Op.operands])
 unfold ac at hc
 split at hc
 · rename_i v hv
   injection hc with hc; subst hc
   obtain ⟨u, h1, h2, h3⟩ := C3 (P := P) (w := w) (t := t) (x := x) (y := y) hv hx hy
   refine ⟨u, h1, ?_⟩
   unfold execOp; rw [he]
   simp [h3, h2]
 · have hna : ∀ b, sT P t (e x) (e y) = some b → ∀ k n k' m, ¬ (e x = .nu k n ∧ e y = .nu k' m) := by
    intro b hb k n k' m ⟨h1, h2⟩
    rw [h1, h2] at hb
    unfold sT at hb
    split at hb <;> first | cases hb | (simp [ID] at hb)
   split at hc
   · split at hc
     · rename_i b hb
       injection hc with hc; subst hc
       exact Fh he (.inl ⟨rfl, rfl⟩) hev hb (hna b hb)
     · cases hc
   · split at hc
     · rename_i b hb
       injection hc with hc; subst hc
       exact Fh he (.inr ⟨rfl, rfl⟩) hev hb (hna b hb)
     · cases hc
   · cases hc
theorem IT {op : UnOp} {t : TypeId} {x : Operand} (he : o.op = .unOp op t x) (hev : ∀ x ∈ o.op.operands.toList, VR ι (e x) (ρ x)) (hc : ec op (e x) = some c) : Qs P ι w ρ o c := by
 have hx := hev x (by simp [he, Op.operands])
 obtain ⟨v, h1, h2⟩ := FM (P := P) (w := w) hc hx
 refine ⟨v, h1, ?_⟩
 unfold execOp; rw [he]
 simp [h2]
theorem dB {x : Option Operand} {d n : Nat} (hx : ∀ y, x = some y → VR ι (e y) (ρ y)) (hb : fL e x d = some n) : (x = none ∧ n = d) ∨ ∃ y k, x = some y ∧ ρ y = .int k (.ofNat n) := by
 unfold fL at hb
 split at hb
 · injection hb with hb; exact .inl ⟨rfl, hb.symm⟩
 · rename_i y
   split at hb
   · rename_i k m hy
     injection hb with hb; subst hb
     have := hx y rfl
     rw [hy] at this
     exact .inr ⟨y, k, rfl, bS this⟩
   · cases hb
theorem jc {isS : Bool} {len cap a b : Nat} {lo hi : Option Operand} (hlo : (lo = none ∧ a = 0) ∨ ∃ y k, lo = some y ∧ ρ y = .int k (.ofNat a)) (hhi : (hi = none ∧ b = len) ∨ ∃ y k, hi = some y ∧ ρ y = .int k (.ofNat b)) (h1 : a ≤ b) (h2 : b ≤ cap) :
  (Instr.sliceBounds isS len cap (lo.map ρ) (hi.map ρ) none).run P w = .ok (a, b, cap) w := by
 have hnn : ∀ j : Nat, (0 : Int) ≤ Int.ofNat j := fun j => Int.natCast_nonneg j
 have htn : ∀ j : Nat, (Int.ofNat j).toNat = j := fun j => rfl
 have hle : ∀ {j k : Nat}, j ≤ k → Int.ofNat j ≤ (k : Int) := fun h => Int.ofNat_le.2 h
 rcases hlo with ⟨rfl, rfl⟩ | ⟨y, k, rfl, hy⟩ <;> rcases hhi with ⟨rfl, rfl⟩ | ⟨y', k', rfl, hy'⟩
 · simp [Instr.sliceBounds]
 · simp only [Instr.sliceBounds, Instr.sliceBound, asIntOf, Option.map_some, Option.map_none, hy', Sem.run_bind, Sem.run_pure, Result.andThen_ok, hnn b, hle h2, and_self, if_true, htn]
 · simp only [Instr.sliceBounds, Instr.sliceBound, asIntOf, Option.map_some, Option.map_none, hy, Sem.run_bind, Sem.run_pure, Result.andThen_ok, hnn a, hle h1, and_self, if_true, htn]
 · simp only [Instr.sliceBounds, Instr.sliceBound, asIntOf, Option.map_some, Option.map_none, hy, hy', Sem.run_bind, Sem.run_pure, Result.andThen_ok, hnn a, hnn b, hle h1, hle h2, and_self, if_true, htn]
theorem yK {i : cE} {b : HB} (hb : BR ι i w b) (h : E8 b = true) : i.esz = 0 := by
 cases b with
 | cells cs aO el => obtain ⟨_, _, _, _, _, _, _, h6, _⟩ := hb; exact h6.trans (aW h)
 | ro cs => obtain ⟨_, _, _, _, _, h6, _⟩ := hb; exact h6
 | _ => cases h
theorem qa {i : cE} {cs : List CV} {aO el : Nat} (hb : BR ι i w (.cells cs aO el)) {off cp c' : Nat} (ht : fX cs aO off cp = true) (hcc : (cp = c' ∧ (i.esz ≠ 0 → cp ≠ 0 → off + cp * i.esz ≠ i.size)) ∨ (i.opn = true ∧ cp ≤ c' ∧ (i.esz ≠ 0 → off + cp * i.esz = i.size ∧ off + c' * i.esz = i.mc))) : cp = c' := by
 rcases hcc with hcc | ⟨h1, h2, h3⟩
 · exact hcc.1
 · obtain ⟨arr, el2, _, _, _, h4, h5, h6, _⟩ := hb
   unfold fX at ht
   rw [h1] at h5
   have h7 : Nat.beq aO 0 = false := by
    cases hm : Nat.beq aO 0 with
    | false => rfl
    | true => rw [hm] at h5; cases h5
   rw [h7] at ht
   simp only [Bool.false_or, Bool.not_eq_true'] at ht
   have := (h3 (by rw [h6]; exact jG h7)).1
   rw [h6, h4] at this
   exact absurd this (jG ht)
theorem C6 {t : TypeId} {x mx : Operand} {lo hi : Option Operand} (he : o.op = .slice t x lo hi (some mx)) (hev : ∀ x ∈ o.op.operands.toList, VR ι (e x) (ρ x)) (hc : jr e lo hi mx (e x) (ae P t) = some c) : Qs P ι w ρ o c := by
 have hx := hev x (by simp [he, Op.operands])
 unfold jr at hc
 split at hc
 · rename_i el esz bytes z hty
   obtain ⟨hu, inf, zv, d, hinf, hsz, _⟩ := bT hty
   split at hc
   · rename_i k off n cp hx'
     rw [hx'] at hx
     generalize hv : ρ x = v at hx
     cases hx with
     | @sl _ _ _ _ c' i hi' hcc =>
      have hcle : cp ≤ c' := hcc.elim (fun e => Nat.le_of_eq e.1) fun h => h.2.1
      split at hc
      · rename_i hh
        split at hc
        · rename_i a ha
          split at hc
          · rename_i b hb
            split at hc
            · rename_i m hm
              split at hc
              · rename_i hle
                simp only [Bool.and_eq_true] at hle
                have h1 := bv hle.1.1
                have h2 := bv hle.1.2
                have h3 := bv hle.2
                injection hc with hc; subst hc
                have A := dB (fun y hy => hev y (by rw [he]; subst hy; simp [Op.operands])) ha
                have B := dB (fun y hy => hev y (by rw [he]; injection hy with hy; subst hy; simp [Op.operands])) hb
                have M := dB (fun y hy => hev y (by rw [he]; injection hy with hy; subst hy; simp [Op.operands])) hm
                have hnn : ∀ j : Nat, (0 : Int) ≤ Int.ofNat j := fun j => Int.natCast_nonneg j
                have htn : ∀ j : Nat, (Int.ofNat j).toNat = j := fun j => rfl
                have hlj : ∀ {j k : Nat}, j ≤ k → Int.ofNat j ≤ (k : Int) := fun h => Int.ofNat_le.2 h
                rcases B with ⟨B, _⟩ | ⟨y2, k2, e2, B⟩
                · cases B
                rcases M with ⟨M, _⟩ | ⟨y3, k3, e3, M⟩
                · cases M
                injection e2 with e2; subst e2
                injection e3 with e3; subst e3
                have hr : (Instr.sliceBounds true n c' (lo.map ρ) (some (ρ hh)) (some (ρ mx))).run P w = .ok (a, b, m) w := by
                 rcases A with ⟨rfl, rfl⟩ | ⟨y1, k1, rfl, A⟩
                 · simp only [Instr.sliceBounds, Instr.sliceBound, asIntOf, Option.map_none, B, M, Sem.run_bind, Sem.run_pure, Result.andThen_ok, hnn, hlj h2, hlj (Nat.le_trans h3 hcle), and_self, if_true, htn]
                 · simp only [Instr.sliceBounds, Instr.sliceBound, asIntOf, Option.map_some, A, B, M, Sem.run_bind, Sem.run_pure, Result.andThen_ok, hnn, hlj h1, hlj h2, hlj (Nat.le_trans h3 hcle), and_self, if_true, htn]
                refine ⟨.slice (if m = a then some ⟨i.b, i.base + off, none⟩ else (some ⟨i.b, i.base + off, none⟩ : Option Addr).map (·.add (a * inf.size))) (b - a) (m - a), .undef _, ?_⟩
                unfold execOp; rw [he]
                simp only [Instr.sliceAt, Instr.slice, hv, ap hu, Sem.run_bind, Result.andThen_ok, Option.map_some, hr, bJ hinf, Sem.run_pure]
              · cases hc
            · cases hc
          · cases hc
        · cases hc
      · cases hc
   · cases hc
 · cases hc
theorem FR (S : Sim N0 ι h w) {t : TypeId} {x : Operand} {lo hi : Option Operand} (he : o.op = .slice t x lo hi none) (hev : ∀ x ∈ o.op.operands.toList, VR ι (e x) (ρ x)) (hc : iC e lo hi h (e x) (ae P t) = some c) : Qs P ι w ρ o c := by
 have hx := hev x (by simp [he, Op.operands])
 have hlo : ∀ y, lo = some y → VR ι (e y) (ρ y) := fun y hy => hev y (by simp [he, Op.operands, hy])
 have hhi : ∀ y, hi = some y → VR ι (e y) (ρ y) := fun y hy => hev y (by simp [he, Op.operands, hy])
 unfold iC at hc
 split at hc
 · rename_i hty
   have hu := ef hty
   split at hc
   · rename_i s hx'
     rw [hx'] at hx
     obtain ⟨by_, hv, rfl⟩ := cG hx
     unfold mQ at hc
     split at hc
     · rename_i a b ha hb
       split at hc
       · rename_i hle
         simp only [Bool.and_eq_true] at hle
         injection hc with hc; subst hc
         have h1 := bv hle.1
         have h2 := bv hle.2
         rw [dx] at h2
         have hr := jc (P := P) (w := w) (isS := false) (len := by_.size) (cap := by_.size) (dB hlo ha) (by have := dB hhi hb; rwa [dx] at this) h1 h2
         refine ⟨.string (by_.extract a b), .st ?_, ?_⟩
         · simp [bs, List.map_drop, List.map_take]
         · unfold execOp; rw [he]
           simp only [Instr.sliceAt, Instr.slice, hv, ap hu, Sem.run_bind, Result.andThen_ok, Option.map_none, Option.isSome_none, Bool.false_eq_true, if_false, hr, Sem.run_pure]
       · cases hc
     · cases hc
   · cases hc
 · rename_i el esz bytes z hty
   obtain ⟨hu, inf, zv, d, hinf, hsz, _⟩ := bT hty
   split at hc
   · rename_i hx'
     rw [hx'] at hx
     generalize hv : ρ x = v at hx
     cases hx
     unfold kk at hc
     split at hc
     · rename_i a b ha hb
       split at hc
       · rename_i h0
         simp only [Bool.and_eq_true] at h0
         have := aW h0.1; have := aW h0.2
         subst a; subst b
         injection hc with hc; subst hc
         have hr := jc (P := P) (w := w) (isS := true) (len := 0) (cap := 0) (dB hlo ha) (dB hhi hb) (Nat.le_refl _) (Nat.le_refl _)
         refine ⟨_, .nils, ?_⟩
         unfold execOp; rw [he]
         simp [Instr.sliceAt, Instr.slice, hv, ap hu, hr, bJ hinf]
       · cases hc
     · cases hc
   · rename_i k off n cp hx'
     rw [hx'] at hx
     generalize hv : ρ x = v at hx
     cases hx with
     | @sl _ _ _ _ c' i hi hcc =>
      have hcle : cp ≤ c' := hcc.elim (fun e => Nat.le_of_eq e.1) fun h => h.2.1
      unfold dA at hc
      split at hc
      · rename_i a b ha hb
        split at hc
        · rename_i hle
          simp only [Bool.and_eq_true] at hle
          have h1 := bv hle.1
          have h2 := bv hle.2
          have hr := jc (P := P) (w := w) (isS := true) (len := n) (cap := c') (dB hlo ha) (dB hhi hb) h1 (Nat.le_trans h2 hcle)
          have hrun : (execOp ρ o).run P w = .ok (.value (.slice (if c' = a then (some ⟨i.b, i.base + off, none⟩) else some ⟨i.b, i.base + off + a * esz, none⟩) (b - a) (c' - a))) w := by
           unfold execOp; rw [he]
           simp only [Instr.sliceAt, Instr.slice, hv, ap hu, Sem.run_bind, Result.andThen_ok, Option.map_none, hr, bJ hinf, Sem.run_pure, hsz, Option.map_some, cP]
          split at hc
          · rename_i hlt
            have hlt := cO hlt
            split at hc
            · rename_i hfit
              injection hc with hc; subst hc
              rw [if_neg (by omega)] at hrun
              refine ⟨_, ?_, hrun⟩
              rw [Nat.add_assoc]
              refine .sl hi ?_
              have hez : i.esz ≠ 0 → i.esz = esz := by
               intro hz
               have hB := S.blk k i hi
               unfold qR at hfit
               split at hfit
               · rename_i hb'
                 rw [hb'] at hB
                 obtain ⟨_, _, _, _, _, _, h5, h6, _⟩ := hB
                 simp only [Bool.or_eq_true] at hfit
                 rcases hfit with h | h
                 · exact absurd (h6.trans (aW h)) hz
                 · rw [h6]; exact aW h
               · rename_i hb'
                 rw [hb'] at hB
                 obtain ⟨_, _, _, _, _, h6, _⟩ := hB
                 exact absurd h6 hz
               · cases hfit
              have hm : ∀ m, a ≤ m → a * esz + (m - a) * esz = m * esz := fun m hm => by rw [← Nat.add_mul]; congr 1; omega
              have e1 := hm cp (by omega)
              have e2 := hm c' (by omega)
              rcases hcc with ⟨rfl, g0⟩ | ⟨g1, g2, g3⟩
              · refine .inl ⟨rfl, fun hz hc0 => ?_⟩
                have := g0 hz (by omega)
                rw [hez hz] at this ⊢
                omega
              · refine .inr ⟨g1, by omega, fun hz => ?_⟩
                obtain ⟨g4, g5⟩ := g3 hz
                rw [hez hz] at g4 g5 ⊢
                exact ⟨by omega, by omega⟩
            · cases hc
          · rename_i hlt
            have hlt := C1 hlt
            have hac : a = cp := by omega
            have hbc : b = cp := by omega
            subst hac
            subst hbc
            unfold gw at hc
            split at hc
            · rename_i cs aO el' hb'
              have hB := S.blk k i hi
              rw [hb'] at hB
              split at hc
              · rename_i ht
                injection hc with hc; subst hc
                have := qa hB ht hcc
                subst this
                rw [if_pos rfl] at hrun
                refine ⟨_, ?_, hrun⟩
                simp only [Nat.sub_self]
                exact .sl hi (.inl ⟨rfl, fun _ h0 => absurd rfl h0⟩)
              · injection hc with hc; subst hc
                refine ⟨_, ?_, hrun⟩
                simp only [Nat.sub_self]
                split <;> exact .sle _ _
            · injection hc with hc; subst hc
              refine ⟨_, ?_, hrun⟩
              simp only [Nat.sub_self]
              split <;> exact .sle _ _
            · cases hc
        · cases hc
      · cases hc
   · cases hc
 · rename_i n el esz g z hty
   obtain ⟨hu, ⟨inf, d, hinf, hsz, hd⟩, _⟩ := jw hty
   split at hc
   · rename_i k off hx'
     rw [hx'] at hx
     obtain ⟨i, hi, hv⟩ := cN hx
     unfold mR at hc
     split at hc
     · rename_i a b ha hb
       split at hc
       · rename_i hle
         simp only [Bool.and_eq_true] at hle
         have h1 := bv hle.1.1
         have h2 := bv hle.1.2
         have hr := jc (P := P) (w := w) (isS := false) (len := n) (cap := n) (dB hlo ha) (dB hhi hb) h1 h2
         have hrun : (execOp ρ o).run P w = .ok (.value (.slice (if n = a then (some ⟨i.b, i.base + off, none⟩) else some ⟨i.b, i.base + off + a * esz, none⟩) (b - a) (n - a))) w := by
          unfold execOp; rw [he]
          simp only [Instr.sliceAt, Instr.sureAddr, hv, ap hu, Sem.run_bind, Result.andThen_ok, Option.map_none, hr, bJ hinf, Sem.run_pure, hsz, Option.map_some, cP]
          split <;> rfl
         split at hc
         · rename_i hlt
           have hlt := cO hlt
           injection hc with hc; subst hc
           rw [if_neg (by omega)] at hrun
           refine ⟨_, ?_, hrun⟩
           rw [Nat.add_assoc]
           exact .sl hi (.inl ⟨rfl, fun hz => absurd (yK (S.blk k i hi) hle.2) hz⟩)
         · rename_i hlt
           have hlt := C1 hlt
           have hac : a = n := by omega
           have hbc : b = n := by omega
           subst hac
           subst hbc
           injection hc with hc; subst hc
           rw [if_pos rfl] at hrun
           refine ⟨_, ?_, hrun⟩
           simp only [Nat.sub_self]
           exact .sl hi (.inl ⟨rfl, fun _ h0 => absurd rfl h0⟩)
       · cases hc
     · cases hc
   · cases hc
 · cases hc
end
end Go.CP
namespace Go.CP
variable [LG] [HK]
section
variable {P : Program} {N0 : Nat} {ι : Im} {h : Hp} {w : World} {e : Operand → CV} {ρ : Operand → Value} {o : Oper} {c : CV}
theorem qV {p q : CV} {u v : Value} {b : Bool} (hu : VR ι p u) (hv : VR ι q v) (hb : iX p q = some b) : b = true ↔ v = u := by
 unfold iX at hb
 split at hb
 · obtain rfl := bS hu
   obtain rfl := bS hv
   split at hb
   · rename_i hk
     obtain rfl := li hk
     injection hb with hb; subst hb
     rw [fQ]; simp; exact eq_comm
   · cases hb
 · obtain ⟨a, rfl, rfl⟩ := cG hu
   obtain ⟨b', rfl, rfl⟩ := cG hv
   injection hb with hb; subst hb
   simp only [bs, jH, beq_iff_eq, Value.string.injEq]
   constructor
   · intro h
     obtain ⟨⟨x⟩⟩ := a
     obtain ⟨⟨y⟩⟩ := b'
     simp at h
     rw [h]
   · intro h; rw [h]
 · obtain rfl := dF hu
   obtain rfl := dF hv
   injection hb with hb; subst hb
   simp; exact eq_comm
 · cases hb
theorem uS : ∀ {ps qs : List CV} {us vs : List Value} {b : Bool}, VRL ι ps us → VRL ι qs vs → cB ps qs = some b → (b = true ↔ vs = us)
 | [], [], us, vs, b, hu, hv, hb => by
  simp only [cB, Option.some.injEq] at hb
  have h1 : us = [] := List.eq_nil_of_length_eq_zero hu.1
  have h2 : vs = [] := List.eq_nil_of_length_eq_zero hv.1
  subst h1; subst h2; subst hb; simp
 | [], _ :: _, us, vs, b, hu, hv, hb => by simp [cB] at hb
 | _ :: _, [], us, vs, b, hu, hv, hb => by simp [cB] at hb
 | p :: ps, q :: qs, us, vs, b, hu, hv, hb => by
  cases us with
  | nil => have := hu.1; simp at this
  | cons u us =>
   cases vs with
   | nil => have := hv.1; simp at this
   | cons v vs =>
    obtain ⟨h1, h2⟩ := VRL.tail hu
    obtain ⟨h3, h4⟩ := VRL.tail hv
    simp only [cB] at hb
    split at hb
    · rename_i hpq
      have h5 := (qV h1 h3 hpq).1 rfl
      have h6 := uS h2 h4 hb
      rw [h6]; simp [h5]
    · rename_i hpq
      injection hb with hb; subst hb
      have h5 := qV h1 h3 hpq
      simp only [Bool.false_eq_true, false_iff] at h5 ⊢
      simp [h5]
    · cases hb
theorem C7 {p q : CV} {u v : Value} {b : Bool} (hu : VR ι p u) (hv : VR ι q v) (hb : dH p q = some b) : b = true ↔ v = u := by
 unfold dH at hb
 split at hb
 · obtain ⟨us, rfl, h1⟩ := dd hu
   obtain ⟨vs, rfl, h2⟩ := dd hv
   rw [uS h1 h2 hb]
   simp only [Value.agg.injEq]
   exact ⟨fun h => by rw [← Array.toArray_toList (xs := vs), h], fun h => by rw [h]⟩
 · exact qV hu hv hb
def Fi (P : Program) (w : World) (ι : Im) (kt : TypeId) (key : CV) (kv : Value) : Prop := ∃ Fd : List MapEntry → Nat → Option (Nat × Value) → Prop,
 (∀ i, Fd [] i none) ∧ (∀ k e es i, VR ι k e.key → dH key k = some true → Fd (e :: es) i (some (i, e.val))) ∧ (∀ k e es i r, VR ι k e.key → dH key k = some false → Fd es (i + 1) r → Fd (e :: es) i r) ∧
 (∀ ents r, Fd ents 0 r → (Instr.findKey kt kv ents).run P w = .ok r w) ∧ ∀ em, (Instr.checkKey em 10000 kt kv).run P w = .ok () w
theorem lQ {t : TypeId} (ht : cL (ae P t) = true) {p : CV} {v : Value} (hp : fi P t p = true) (hv : VR ι p v) (em : Bool) (n : Nat) : (Instr.checkKey em (n + 1) t v).run P w = .ok () w := by
 obtain ⟨f1, f2, f3⟩ := mZ hp
 rcases dP ht with ⟨k0, h1⟩ | h1 | h1
 · obtain ⟨k', m, rfl⟩ := f1 k0 h1
   obtain rfl := bS hv
   simp [Instr.checkKey, ap h1]
 · obtain ⟨s, rfl⟩ := f2 h1
   obtain ⟨a, rfl, rfl⟩ := cG hv
   simp [Instr.checkKey, ap h1]
 · obtain ⟨s, rfl⟩ := f3 h1
   obtain rfl := dF hv
   simp [Instr.checkKey, ap h1]
theorem sX : ∀ (fs : List Field) (j : Nat) (cs : List CV), gd P fs j cs = true → fs.all (fun f => cL (ae P f.type)) = true
 | [], _, _, _ => rfl
 | f :: fs, j, [], h => by simp [gd] at h
 | f :: fs, j, c :: cs, h => by
  simp only [gd, Bool.and_eq_true] at h
  simp only [List.all_cons, h.1.1.2, sX fs (j + 1) cs h.2, Bool.and_self]
theorem uT : ∀ (fs : List Field) (j : Nat) (cs pre : List CV), gd P fs j cs = true → pre.length = j → ∀ f ∈ fs, cL (ae P f.type) = true ∧ ∃ c, (pre ++ cs)[f.offset]? = some c ∧ fi P f.type c = true
 | [], _, _, _, _, _, f, hf => by cases hf
 | g :: fs, j, [], _, h, _, f, hf => by simp [gd] at h
 | g :: fs, j, c :: cs, pre, h, hp, f, hf => by
  simp only [gd, Bool.and_eq_true] at h
  obtain ⟨⟨⟨⟨h3, h4⟩, h5⟩, h6⟩, h7⟩ := h
  rcases List.mem_cons.1 hf with rfl | hf
  · exact ⟨h5, c, by rw [aW h3, ← hp]; simp, h6⟩
  · have := uT fs (j + 1) cs (pre ++ [c]) h7 (by simp [hp]) f hf
    simpa using this
theorem xx : ∀ (fs : List Field) (j : Nat) (cs ds pre pre' : List CV) (b : Bool), gd P fs j cs = true → pre.length = j → pre'.length = j → cB cs ds = some b → kP P fs (pre ++ cs) (pre' ++ ds) = some b ∧ fs.all (fun f => cL (ae P f.type)) = true
 | [], j, cs, ds, pre, pre', b, hk, h1, h2, hb => by
  cases cs with
  | nil => cases ds with
   | nil => simpa [cB, kP] using hb
   | cons d ds => simp [cB] at hb
  | cons c cs => simp [gd] at hk
 | f :: fs, j, cs, ds, pre, pre', b, hk, h1, h2, hb => by
  cases cs with
  | nil => simp [gd] at hk
  | cons c cs =>
   cases ds with
   | nil => simp [cB] at hb
   | cons d ds =>
    simp only [gd, Bool.and_eq_true] at hk
    obtain ⟨⟨⟨⟨h3, h4⟩, h5⟩, h6⟩, h7⟩ := hk
    have h3 := aW h3
    have h4 : (f.name == "_") = false := by simpa using h4
    have e1 : (pre ++ c :: cs)[f.offset]? = some c := by rw [h3, ← h1]; simp
    have e2 : (pre' ++ d :: ds)[f.offset]? = some d := by rw [h3, ← h2]; simp
    have rest : ∀ b', cB cs ds = some b' → kP P fs (pre ++ c :: cs) (pre' ++ d :: ds) = some b' ∧ fs.all (fun f => cL (ae P f.type)) = true := by
     intro b' hb'
     have := xx fs (j + 1) cs ds (pre ++ [c]) (pre' ++ [d]) b' h7 (by simp [h1]) (by simp [h2]) hb'
     simpa using this
    have allf : fs.all (fun f => cL (ae P f.type)) = true := sX fs (j + 1) cs h7
    simp only [cB] at hb
    split at hb
    · rename_i hcd
      obtain ⟨g1, g2⟩ := rest b hb
      refine ⟨?_, by simp only [List.all_cons, h5, g2, Bool.and_self]⟩
      simp only [kP, h4, e1, e2, h6, hcd, g1]
    · rename_i hcd
      injection hb with hb; subst hb
      refine ⟨?_, by simp only [List.all_cons, h5, allf, Bool.and_self]⟩
      simp only [kP, h4, e1, e2, h6, hcd]
    · cases hb
theorem Fj {kt : TypeId} {key : CV} {kv : Value} (hk : kj P kt key = true) (hkv : VR ι key kv) : Fi P w ι kt key kv := by
 have flat : cL (ae P kt) = true → fi P kt key = true → (∀ (k : CV) (u : Value) (b : Bool), VR ι k u → dH key k = some b → ∀ d, P.underlying kt = some d → Instr.sameNow d kv u = some b) → Fi P w ι kt key kv := by
  intro hf hfit hs
  have hu : ∃ d, P.underlying kt = some d := by rcases dP hf with ⟨k0, h1⟩ | h1 | h1 <;> exact ⟨_, h1⟩
  obtain ⟨d, hu⟩ := hu
  refine ⟨fun es i r => Instr.findNow d kv es i = some r, fun i => rfl, fun k e es i h1 h2 => ?_, fun k e es i r h1 h2 h3 => ?_, fun ents r h1 => ?_, fun em => lQ hf hfit hkv em 9999⟩
  · simp [Instr.findNow, hs k _ _ h1 h2 d hu]
  · simp only [Instr.findNow, hs k _ _ h1 h2 d hu]; exact h3
  · simp [Instr.findKey, ap hu, h1]
 unfold kj at hk
 split at hk
 · rename_i q hty
   split at hk
   · rename_i k0 n0
     obtain rfl := bS hkv
     refine flat (by simp [cL, hty]) (by simp [fi, hty]) fun k u b h1 h2 d hd => ?_
     have hu := gz hty
     rw [hu] at hd; injection hd with hd; subst hd
     cases k <;> simp only [dH, iX, reduceCtorEq] at h2
     obtain rfl := bS h1
     split at h2
     · rename_i hkk
       obtain rfl := li hkk
       injection h2 with h2
       simp [Instr.sameNow, ← h2, yJ]
     · cases h2
   · cases hk
 · rename_i hty
   split at hk
   · rename_i s0
     obtain ⟨a, rfl, rfl⟩ := cG hkv
     refine flat (by simp [cL, hty]) (by simp [fi, hty]) fun k u b h1 h2 d hd => ?_
     have hu := ef hty
     rw [hu] at hd; injection hd with hd; subst hd
     cases k <;> simp only [dH, iX, reduceCtorEq] at h2
     obtain ⟨a', rfl, rfl⟩ := cG h1
     injection h2 with h2
     simp only [Instr.sameNow, ← h2, bs, jH, beq_toListBytes, ByteArray.toList_eq]
   · cases hk
 · rename_i n el esz g z hty
   split at hk
   · rename_i cs k0 hel
     simp only [Bool.and_eq_true] at hk
     obtain ⟨⟨h3, h4⟩, h5⟩ := hk
     have h3 := aW h3
     have h4 := aW h4
     obtain ⟨us, rfl, hus⟩ := dd hkv
     have hfl : cL (ae P el) = true := by simp [cL, hel]
     have hfit : cs.all (fi P el) = true := by
      rw [List.all_eq_true] at h5 ⊢
      intro x hx
      have := h5 x hx
      simp only [fi, hel]
      split at this
      · rfl
      · cases this
     have fj : ∀ (k : CV) (u : Value) (b : Bool), VR ι k u → dH (.agg cs) k = some b → (Op.equal kt (.agg us) u).run P w = .ok b w := by
      intro k u b h1 h2
      cases k <;> simp only [dH, iX, reduceCtorEq] at h2
      obtain ⟨vs, rfl, hvs⟩ := dd h1
      exact mF hty hfl h3 hus hvs h4 hfit h2 9998
     obtain ⟨hu, ⟨i, d', hi, hsz, hd⟩, _⟩ := jw hty
     refine ⟨fun es i r => (Instr.findAsking kt (.agg us) es i).run P w = .ok r w, fun i => by simp [Instr.findAsking], fun k e es i h1 h2 => ?_, fun k e es i r h1 h2 h3 => ?_, fun ents r h1 => ?_, fun em => ?_⟩
     · simp [Instr.findAsking, fj k _ _ h1 h2]
     · simp [Instr.findAsking, fj k _ _ h1 h2, h3]
     · rw [run_findKey_eq w (by simp [hu])]; exact h1
     · have key : ∀ m, (Instr.checkKey em (m + 2) kt (.agg us)).run P w = .ok () w := by
        intro m
        rw [Instr.checkKey]
        simp only [Sem.run_bind, ap hu, Result.andThen_ok]
        simp only [Std.Legacy.Range.forIn_eq_forIn_range', Std.Legacy.Range.size, Nat.sub_zero, Nat.add_one_sub_one, Nat.div_one]
        have hin : ∀ j ∈ List.range' 0 n, j < n := fun j hj => by simpa using hj
        revert hin
        generalize List.range' 0 n = is
        intro hin
        induction is with
        | nil => simp
        | cons j is ih =>
         have hj : j < cs.length := by rw [h4]; exact hin j List.mem_cons_self
         have hju : us[j]? = some (us.toList.getD j Go.undef) := by
          have : j < us.toList.length := by rw [hus.1]; exact hj
          rw [← Array.getElem?_toList, List.getD_eq_getElem?_getD, List.getElem?_eq_getElem this]; rfl
         have hch := lQ (P := P) (w := w) hfl (List.all_eq_true.1 hfit _ (List.getElem_mem hj)) (hus.2 j hj) em m
         have h1 : i.size = 1 := by rw [hsz, h3]
         simp only [List.forIn_cons, Sem.run_bind, bJ hi, Result.andThen_ok, h1, Nat.mul_one, dK hfl hju, hch, Sem.run_pure]
         exact ih fun y hy => hin y (List.mem_cons_of_mem _ hy)
       exact key 9998
   · cases hk
 · rename_i sfs z hty
   split at hk
   · rename_i cs
     obtain ⟨us, rfl, hus⟩ := dd hkv
     unfold CX at hk
     split at hk
     · rename_i fs hu
       simp only [Bool.and_eq_true, Bool.not_eq_true'] at hk
       obtain ⟨hst, hkf⟩ := hk
       have hfo : P.fieldsOf kt = fs := by simp [Program.fieldsOf, hu]
       have fj : ∀ (k : CV) (u : Value) (b : Bool), VR ι k u → dH (.agg cs) k = some b → (Op.equal kt (.agg us) u).run P w = .ok b w := by
        intro k u b h1 h2
        cases k <;> simp only [dH, iX, reduceCtorEq] at h2
        obtain ⟨vs, rfl, hvs⟩ := dd h1
        obtain ⟨h6, h7⟩ := xx fs.toList 0 cs _ [] [] b hkf rfl rfl h2
        have h9 : (Op.equalIn (9999 + 1) kt (.agg us) (.agg vs)).run P w = .ok b w := by
         rw [run_equalIn_agg w 9999 kt us vs (by rw [hfo]; exact hu) (by simp [hst]), hfo]
         exact px 9998 hus hvs fs.toList b h7 (by simpa using h6)
        exact h9
       refine ⟨fun es i r => (Instr.findAsking kt (.agg us) es i).run P w = .ok r w, fun i => by simp [Instr.findAsking], fun k e es i h1 h2 => ?_, fun k e es i r h1 h2 h3 => ?_, fun ents r h1 => ?_, fun em => ?_⟩
       · simp [Instr.findAsking, fj k _ _ h1 h2]
       · simp [Instr.findAsking, fj k _ _ h1 h2, h3]
       · rw [run_findKey_eq w (by simp [hu])]; exact h1
       · have key : ∀ m, (Instr.checkKey em (m + 2) kt (.agg us)).run P w = .ok () w := by
          intro m
          rw [Instr.checkKey]
          simp only [Sem.run_bind, ap hu, Result.andThen_ok]
          rw [← Array.forIn_toList]
          have hin : ∀ f ∈ fs.toList, cL (ae P f.type) = true ∧ ∃ c, cs[f.offset]? = some c ∧ fi P f.type c = true := fun f hf => by simpa using uT fs.toList 0 cs [] hkf rfl f hf
          revert hin
          generalize fs.toList = l
          intro hin
          induction l with
          | nil => simp
          | cons f l ih =>
           obtain ⟨hfl, c, hc, hfit⟩ := hin f List.mem_cons_self
           obtain ⟨v, hv, hvr⟩ := hus.get? hc
           rw [Array.getElem?_toList] at hv
           have hch := lQ (P := P) (w := w) hfl hfit hvr em m
           have hp := dK (w := w) hfl hv
           by_cases hn : f.name = "_"
           · simp only [List.forIn_cons, Sem.run_bind, hn, ne_eq, not_true_eq_false, if_false, Sem.run_pure, Result.andThen_ok]
             exact ih fun y hy => hin y (List.mem_cons_of_mem _ hy)
           · simp only [List.forIn_cons, Sem.run_bind, hn, ne_eq, not_false_eq_true, if_true, hp, hch, Sem.run_pure, Result.andThen_ok]
             exact ih fun y hy => hin y (List.mem_cons_of_mem _ hy)
         exact key 9998
     · cases hk
   · cases hk
 · cases hk
def MR (ι : Im) (es : List (CV × CV)) (ents : List MapEntry) : Prop := VRL ι (es.map (·.1)) (ents.map (·.key)) ∧ VRL ι (es.map (·.2)) (ents.map (·.val))
theorem MR.cons {ι : Im} {k v : CV} {es : List (CV × CV)} {ents : List MapEntry} (h : MR ι ((k, v) :: es) ents) : ∃ e l, ents = e :: l ∧ VR ι k e.key ∧ VR ι v e.val ∧ MR ι es l := by
 cases ents with
 | nil => have := h.1.1; simp at this
 | cons e l =>
  obtain ⟨h1, h2⟩ := VRL.tail h.1
  obtain ⟨h3, h4⟩ := VRL.tail h.2
  exact ⟨e, l, rfl, h1, h3, h2, h4⟩
theorem MR.nil {ι : Im} {ents : List MapEntry} (h : MR ι [] ents) : ents = [] := by
 have := h.1.1
 simpa using this
theorem na {kt : TypeId} {key : CV} {Fd : List MapEntry → Nat → Option (Nat × Value) → Prop} (h0 : ∀ i, Fd [] i none) (h1 : ∀ k e es i, VR ι k (MapEntry.key e) → dH key k = some true → Fd (e :: es) i (some (i, e.val)))
  (h2 : ∀ k e es i r, VR ι k (MapEntry.key e) → dH key k = some false → Fd es (i + 1) r → Fd (e :: es) i r) : ∀ (es : List (CV × CV)) (ents : List MapEntry) (i : Nat) (r : Option CV), MR ι es ents → bY key es = some r →
  ∃ r', Fd ents i r' ∧ (r = none → r' = none) ∧ ∀ v, r = some v → ∃ j u, r' = some (j, u) ∧ VR ι v u
 | [], ents, i, r, hm, hl => by
  rw [hm.nil]
  simp only [bY, Option.some.injEq] at hl
  subst hl
  exact ⟨none, h0 i, fun _ => rfl, fun v hv => (by cases hv)⟩
 | (k, v) :: es, ents, i, r, hm, hl => by
  obtain ⟨e, l, rfl, hk, hv, hm'⟩ := hm.cons
  simp only [bY] at hl
  split at hl
  · rename_i hkk
    injection hl with hl; subst hl
    exact ⟨_, h1 k e l i hk hkk, fun hn => (by cases hn), fun v' hv' => by injection hv' with hv'; subst hv'; exact ⟨i, e.val, rfl, hv⟩⟩
  · rename_i hkk
    obtain ⟨r', g1, g2, g3⟩ := na (kt := kt) h0 h1 h2 es l (i + 1) r hm' hl
    exact ⟨r', h2 k e l i r' hk hkk g1, g2, g3⟩
  · cases hl
theorem C8 (S : Sim N0 ι h w) {t : TypeId} {x i : Operand} {ok : Bool} (he : o.op = .lookup t x i ok) (hev : ∀ x ∈ o.op.operands.toList, VR ι (e x) (ρ x)) (hc : ed P h ok (e i) (e x) (ae P t) = some c) : Qs P ι w ρ o c := by
 have hx := hev x (by simp [he, Op.operands])
 have hi := hev i (by simp [he, Op.operands])
 unfold ed at hc
 split at hc
 · rename_i kt et hty
   have hu := qT hty
   split at hc
   · rename_i hk
     obtain ⟨Fd, g0, g1, g2, g3, g4⟩ := Fj (w := w) hk hi
     unfold uA at hc
     split at hc
     · rename_i z hz
       obtain ⟨iz, zv, hz1, hz2, rfl⟩ := p8 hz
       have hokV : ∀ {v : CV} {u : Value} {b : Bool}, VR ι v u → VR ι (xr ok v b) (if ok then .tuple #[u, .bool b] else u) := by
        intro v u b hvu
        cases ok with
        | true => exact ee (VRL.cons hvu (VRL.cons (.bo _) (VRL.nil ι)))
        | false => exact hvu
       split at hc
       · rename_i hx'
         rw [hx'] at hx
         generalize hv : ρ x = v at hx
         cases hx
         injection hc with hc; subst hc
         refine ⟨_, hokV (pv ι zv), ?_⟩
         have h5 := g3 [] none (g0 0)
         unfold execOp; rw [he]
         simp [Instr.lookup, ap hu, hv, g4, h5, gX hz1 hz2]
       · rename_i k hx'
         rw [hx'] at hx
         generalize hv : ρ x = v at hx
         cases hx with
         | @mp _ inf hinf =>
          unfold pV at hc
          split at hc
          · rename_i es hb
            have hB := S.blk k inf hinf
            rw [hb] at hB
            obtain ⟨ents, clock, hg, hm1, hm2, _⟩ := hB
            have hm : MR ι _ ents.toList := ⟨hm1, hm2⟩
            unfold pU at hc
            have hobj : (getObj inf.b).run P w = .ok (.map ents clock) w := by simp [getObj, Sem.run, hg]
            split at hc
            · rename_i v hl
              injection hc with hc; subst hc
              obtain ⟨r', h6, _, h7⟩ := na (kt := kt) g0 g1 g2 es ents.toList 0 _ hm hl
              obtain ⟨j, u, rfl, h8⟩ := h7 v rfl
              refine ⟨_, hokV h8, ?_⟩
              unfold execOp; rw [he]
              simp [Instr.lookup, ap hu, hv, hobj, g4, g3 _ _ h6]
            · rename_i hl
              injection hc with hc; subst hc
              obtain ⟨r', h6, h7, _⟩ := na (kt := kt) g0 g1 g2 es ents.toList 0 _ hm hl
              rw [h7 rfl] at h6
              refine ⟨_, hokV (pv ι zv), ?_⟩
              unfold execOp; rw [he]
              simp [Instr.lookup, ap hu, hv, hobj, g4, g3 _ _ h6, gX hz1 hz2]
            · cases hc
          · cases hc
       · cases hc
     · cases hc
   · cases hc
 · cases hc
theorem ic (S : Sim N0 ι h w) {p : CV} {v : Value} {esz : Nat} {cs : List CV} (hv : VR ι p v) (hc : cellsOf h esz p = some cs) : ∃ a n cp vs, v = .slice a n cp ∧ VRL ι cs vs ∧ vs.length = n * esz ∧ n = lenV p ∧ (∀ j u, vs[j]? = some u → ∃ ad, a = some ad ∧ w.cell? (ad.add j) = some u) ∧ (a = none → n = 0) := by
 unfold cellsOf at hc
 split at hc
 · injection hc with hc; subst hc
   cases hv
   exact ⟨none, 0, 0, [], rfl, VRL.nil ι, by simp, rfl, fun j u hu => by simp at hu, fun _ => rfl⟩
 · injection hc with hc; subst hc
   cases hv
   exact ⟨_, 0, _, [], rfl, VRL.nil ι, by simp, rfl, fun j u hu => by simp at hu, fun _ => rfl⟩
 · rename_i k off n cp
   cases hv with
   | @sl _ _ _ _ c' i hi hcc =>
    split at hc
    · rename_i h0
      have h0 := aW h0
      subst h0
      injection hc with hc; subst hc
      exact ⟨_, 0, _, [], rfl, VRL.nil ι, by simp, rfl, fun j u hu => by simp at hu, fun hn => by cases hn⟩
    · obtain ⟨vs, h1, h2, h3⟩ := (S.blk k i hi).sub hc
      exact ⟨_, n, _, vs, rfl, h1, h2, rfl, fun j u hu => ⟨_, rfl, h3 j u hu⟩, fun hn => by cases hn⟩
 · cases hc
theorem xy : ∀ (ns : List Nat) (b : ByteArray), (∀ n ∈ ns, n < 256) → bs ((ns.map Int.ofNat).foldl (fun r n => r.push (UInt8.ofNat n.toNat)) b) = bs b ++ ns
 | [], b, _ => by simp
 | n :: ns, b, h => by
  simp only [List.map_cons, List.foldl_cons]
  rw [xy ns _ fun m hm => h m (List.mem_cons_of_mem _ hm)]
  have hn := h n List.mem_cons_self
  have : bs (b.push (UInt8.ofNat (Int.ofNat n).toNat)) = bs b ++ [n] := by
   have h1 : (Int.ofNat n).toNat = n := rfl
   rw [h1]
   simp only [bs, ByteArray.data_push, Array.toList_push, List.map_append, List.map_cons, List.map_nil, UInt8.toNat_ofNat']
   rw [Nat.mod_eq_of_lt (by omega)]
  rw [this]; simp
theorem lR : ∀ {cs : List CV} {vs : List Value}, VRL ι cs vs → (cs.all uz) = true → vs = (cs.map gH).map (fun n => Value.int .u8 (Int.ofNat n)) ∧ ∀ n ∈ cs.map gH, n < 256
 | [], vs, hv, _ => by
  have : vs = [] := List.eq_nil_of_length_eq_zero hv.1
  subst this; simp
 | p :: cs, vs, hv, hb => by
  cases vs with
  | nil => have := hv.1; simp at this
  | cons v vs =>
   obtain ⟨h1, h2⟩ := VRL.tail hv
   simp only [List.all_cons, Bool.and_eq_true] at hb
   obtain ⟨h3, h4⟩ := lR h2 hb.2
   have hb1 := hb.1
   unfold uz at hb1
   split at hb1
   · rename_i a
     obtain rfl := bS h1
     refine ⟨by rw [h3]; rfl, fun n hn => ?_⟩
     simp only [List.map_cons, List.mem_cons] at hn
     rcases hn with rfl | hn
     · exact cO hb1
     · exact h4 n hn
   · cases hb1
theorem C9 {i : cE} {b : HB} {off : Nat} (hb : BR ι i w b) (h : LV off b = true) : ∃ arr el fr, w.heap[i.b]? = some (.cells arr el fr) ∧ i.base + off < arr.size := by
 cases b with
 | cells cs aO te => obtain ⟨arr, e, h1, h2, h3, _⟩ := hb; exact ⟨arr, e, _, h1, by have := cO h; omega⟩
 | _ => cases h
theorem yL {i : cE} {b : HB} {u off : Nat} (hb : BR ι i w b) (h : yB P u off b = true) : ∃ arr el fr, w.heap[i.b]? = some (.cells arr el fr) ∧ liesAt P P.depth el (arr.size / P.cellsOf el) (i.base + off) u 1 = true := by
 cases b with
 | cells cs aO te =>
  obtain ⟨arr, e, h1, _, _, _, _, _, _, rfl, h5⟩ := hb
  simp only [yB, Bool.and_eq_true] at h
  obtain ⟨h6, h7⟩ := h5 (aW h.1)
  refine ⟨arr, _, _, h1, ?_⟩
  rw [h6, h7, Nat.zero_add]; exact h.2
 | _ => cases h
theorem Lr {cl : Call} (he : o.op = .call cl) (hcl : cl.callee = .builtin .cap) (hev : ∀ x ∈ o.op.operands.toList, VR ι (e x) (ρ x)) (hc : pZ P e cl.argTypes.toList cl.args.toList = some c) : Qs P ι w ρ o c := by
 unfold pZ at hc
 split at hc
 · rename_i t x hts hxs
   have hargs : cl.args = #[x] := by rw [← Array.toArray_toList (xs := cl.args), hxs]
   have hats : cl.argTypes = #[t] := by rw [← Array.toArray_toList (xs := cl.argTypes), hts]
   have hx := hev x (by simp [he, Op.operands, Call.operands, hcl, hargs])
   unfold po at hc
   split at hc
   · rename_i el esz bytes z hty hx'
     have hu := (bT hty).1
     rw [hx'] at hx
     injection hc with hc; subst hc
     generalize hv : ρ x = v at hx
     cases hx
     refine ⟨_, .nu _ _, ?_⟩
     unfold execOp; rw [he]
     simp [resolve, hcl, hargs, hats, invoke, builtin, Builtin.cap_, hv, ap hu, goInt]
   · cases hc
 · cases hc
theorem IU {cl : Call} (he : o.op = .call cl) (hcl : cl.callee = .builtin .unsafeSliceData) (hev : ∀ x ∈ o.op.operands.toList, VR ι (e x) (ρ x)) (hc : pY e cl.args.toList = some c) : Qs P ι w ρ o c := by
 unfold pY at hc
 split at hc
 · rename_i x hxs
   have hargs : cl.args = #[x] := by rw [← Array.toArray_toList (xs := cl.args), hxs]
   have hx := hev x (by simp [he, Op.operands, Call.operands, hcl, hargs])
   unfold Fa at hc
   split at hc
   · rename_i hx'
     rw [hx'] at hx
     injection hc with hc; subst hc
     generalize hv : ρ x = v at hx
     cases hx
     refine ⟨_, .nilp, ?_⟩
     unfold execOp; rw [he]
     have hr := Lib.run_unsafeSliceData_nil (P := P) (w := w) cl.argTypes o.type 0 0
     simp only [resolve, hcl, hargs, invoke, builtin, Sem.run_bind, Sem.run_pure, Result.andThen_ok, List.map_toArray, List.map_cons, List.map_nil, hv, hr]
   · rename_i k off n cp hx'
     rw [hx'] at hx
     split at hc
     · cases hc
     · rename_i h0
       injection hc with hc; subst hc
       generalize hv : ρ x = v at hx
       cases hx with
       | @sl _ _ _ _ c' i hi hcc =>
        have h1 : c' ≠ 0 := by
         have := jG h0
         rcases hcc with ⟨rfl, _⟩ | ⟨_, h, _⟩
         · exact this
         · omega
        refine ⟨_, .ptr hi, ?_⟩
        unfold execOp; rw [he]
        have hr := Lib.run_unsafeSliceData_row (P := P) (w := w) cl.argTypes o.type ⟨i.b, i.base + off, none⟩ n c' h1
        simp only [resolve, hcl, hargs, invoke, builtin, Sem.run_bind, Sem.run_pure, Result.andThen_ok, List.map_toArray, List.map_cons, List.map_nil, hv, hr]
   · cases hc
 · cases hc
theorem IV (S : Sim N0 ι h w) {src dst : TypeId} {x : Operand} (he : o.op = .convert src dst x) (hev : ∀ x ∈ o.op.operands.toList, VR ι (e x) (ρ x)) (hc : dl P h (e x) (ae P src) (ae P dst) = some c) : Qs P ι w ρ o c := by
 have hx := hev x (by simp [he, Op.operands])
 unfold dl at hc
 split at hc
 · rename_i k' k h1 h2
   split at hc
   · rename_i q n hx'
     rw [hx'] at hx
     have hv := bS hx
     injection hc with hc; subst hc
     refine ⟨_, by rw [dO]; exact .nu _ _, ?_⟩
     unfold execOp; rw [he]
     simp [hv, convert, ap (gz h1), ap (gz h2), Conv.intToInt]
   · cases hc
 · rename_i h1 h2
   split at hc
   · rename_i s hx'
     rw [hx'] at hx
     obtain ⟨a, hv, rfl⟩ := cG hx
     injection hc with hc; subst hc
     refine ⟨_, p7 ι a, ?_⟩
     unfold execOp; rw [he]
     simp [hv, convert, ap (ef h1), ap (ef h2)]
   · cases hc
 · rename_i el esz bytes z h1 h2
   unfold E9 at hc
   split at hc
   · rename_i cs hcs
     split at hc
     · rename_i hel
       split at hc
       · rename_i hb
         simp only [Bool.and_eq_true] at hb
         have hesz := aW hb.2
         injection hc with hc; subst hc
         obtain ⟨a, n, cp, vs, hv, h3, h4, _, h5, h6⟩ := ic S hx hcs
         obtain ⟨h7, h8⟩ := lR h3 hb.1
         have hu := (bT h1).1
         refine ⟨.string (((cs.map gH).map Int.ofNat).foldl (fun r n => r.push (UInt8.ofNat n.toNat)) ByteArray.empty), .st ?_, ?_⟩
         · have := xy (cs.map gH) ByteArray.empty h8
           rw [show bs ByteArray.empty = [] from rfl, List.nil_append] at this
           exact this
         · have hr : (Conv.bytesToString (.slice a n cp)).run P w = .ok (.string (((cs.map gH).map Int.ofNat).foldl (fun r n => r.push (UInt8.ofNat n.toNat)) ByteArray.empty)) w := by
            cases a with
            | none =>
             have hn := h6 rfl
             subst hn
             have hvs : vs = [] := List.eq_nil_of_length_eq_zero (by simpa using h4)
             subst hvs
             have hcs0 : cs = [] := List.eq_nil_of_length_eq_zero (by have := h3.1; simpa using this.symm)
             subst hcs0
             simp [Conv.bytesToString]
            | some ad =>
             refine run_bytesToString w ad n cp _ ?_
             rw [hesz, Nat.mul_one] at h4
             have h9 := sW (P := P) (w := w) (ad := ad) (vs := vs) fun j u hu' => by obtain ⟨ad', e1, e2⟩ := h5 j u hu'; injection e1 with e1; subst e1; exact e2
             rw [h4] at h9
             rw [h9, h7]; simp
           unfold execOp; rw [he]
           simp only [hv, Sem.run_bind, run_convert_bytes_string w src dst el a n cp hu (gz hel) (ef h2), hr, Result.andThen_ok, Sem.run_pure]
       · cases hc
     · cases hc
   · cases hc
 · rename_i u h1 h2
   unfold IE at hc
   split at hc
   · rename_i hx'
     rw [hx'] at hx
     injection hc with hc; subst hc
     generalize hv : ρ x = v at hx
     cases hx
     refine ⟨_, .nilp, ?_⟩
     unfold execOp; rw [he]
     simp [hv, convert, ap (jv h1), ap (lM h2), Conv.unsafePointer]
   · rename_i k off hx'
     rw [hx'] at hx
     obtain ⟨i, hi, hv⟩ := cN hx
     split at hc
     · rename_i n g hsz
       obtain ⟨j, d, hj, hjs, _⟩ := jI hsz
       split at hc
       · rename_i hcond
         simp only [Bool.and_eq_true, Bool.not_eq_true'] at hcond
         injection hc with hc; subst hc
         obtain ⟨arr, el, fr, hg, hlt⟩ := C9 (S.blk k i hi) hcond.2
         refine ⟨_, .ptr hi, ?_⟩
         have hr := Lib.run_to_unsafe (P := P) (w := w) (cells := arr.size) (e := el) ⟨i.b, i.base + off, none⟩ (jv h1) (lM h2) hj (by rw [hjs]; exact jG hcond.1) (by simp [World.shape?, hg]) hlt
         unfold execOp; rw [he]
         simp only [hv, Sem.run_bind, hr, Result.andThen_ok, Sem.run_pure]
       · cases hc
     · cases hc
   · cases hc
 · rename_i u h1 h2
   unfold zQ at hc
   split at hc
   · rename_i hx'
     rw [hx'] at hx
     injection hc with hc; subst hc
     generalize hv : ρ x = v at hx
     cases hx
     refine ⟨_, .nilp, ?_⟩
     unfold execOp; rw [he]
     simp [hv, convert, ap (lM h1), ap (jv h2), Conv.unsafePointer]
   · rename_i k off hx'
     rw [hx'] at hx
     obtain ⟨i, hi, hv⟩ := cN hx
     split at hc
     · rename_i sz hsz
       obtain ⟨j, d, hj, hjs, _⟩ := jI (n := sz.1) (a := sz.2) hsz
       split at hc
       · rename_i hcond
         injection hc with hc; subst hc
         obtain ⟨arr, el, fr, hg, hlies⟩ := yL (S.blk k i hi) hcond
         refine ⟨_, .ptr hi, ?_⟩
         have hr := Lib.run_from_unsafe (P := P) (w := w) (cells := arr.size) (e := el) ⟨i.b, i.base + off, none⟩ (lM h1) (jv h2) hj (by simp [World.shape?, hg]) hlies
         unfold execOp; rw [he]
         simp only [hv, Sem.run_bind, hr, Result.andThen_ok, Sem.run_pure]
       · cases hc
     · cases hc
   · cases hc
 · cases hc
theorem uU (S : Sim N0 ι h w) (hev : ∀ x ∈ o.op.operands.toList, VR ι (e x) (ρ x)) (hc : qX P o e h = some c) : Qs P ι w ρ o c := by
 unfold qX at hc
 split at hc
 · rename_i x he
   injection hc with hc; subst hc
   exact ⟨_, hev x (by simp [he, Op.operands]), by unfold execOp; rw [he]; simp⟩
 · rename_i x he
   injection hc with hc; subst hc
   exact ⟨_, hev x (by simp [he, Op.operands]), by unfold execOp; rw [he]; simp⟩
 · rename_i he; exact IR he hev hc
 · rename_i he; exact FN he hev hc
 · rename_i he; exact IS S he hev hc
 · rename_i he; exact Lm he hev hc
 · rename_i he; exact FQ he hev hc
 · rename_i he; exact IT he hev hc
 · rename_i he; exact wL he hev hc
 · rename_i he; exact FO he hev hc
 · rename_i he; exact wM he hev hc
 · rename_i he; exact FP he hev hc
 · rename_i he; exact FR S he hev hc
 · rename_i he; exact C6 he hev hc
 · rename_i he; exact zY he hev hc
 · rename_i he; exact IV S he hev hc
 · rename_i he; exact L0 he hev hc
 · rename_i he; exact C8 S he hev hc
 · rename_i cl he
   unfold jb at hc
   split at hc
   · rename_i b hb
     unfold eA at hc
     split at hc
     · exact Ln S he hb hev hc
     · exact Lo he hb hev hc
     · exact Lq he hb hev hc
     · exact IU he hb hev hc
     · exact Lr he hb hev hc
     · cases hc
   · cases hc
 · cases hc
end
end Go.CP
