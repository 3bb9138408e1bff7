import Derived.Test.YtadagifjonbmjaaGreatDoorKp1
import Derived.Laws.CopyRow
set_option linter.all false
namespace Go.CP
variable [LG] [HK]
section
variable {P : Program} {N0 : Nat} {ι : Im} {h : Hp} {w : World} {e : Operand → CV} {ρ : Operand → Value} {o : Oper} {c : CV} {f : Nat → CV} {b : HB}
def Ls (P : Program) (ι : Im) (w : World) (ρ : Operand → Value) (o : Oper) (f : Nat → CV) (b : HB) : Prop :=
 ∃ (v : Value) (w' : World) (i : cE) (obj : Obj), (execOp ρ o).run P w = .ok (.value v) w' ∧ w'.os = w.os ∧ w'.tape = w.tape ∧ w'.output = w.output ∧ w.drawn ≤ w'.drawn ∧ w'.heap.size = w.heap.size + 1 ∧ (∀ b, b < w.heap.size → w'.heap[b]? = w.heap[b]?) ∧ w'.heap[w.heap.size]? = some obj ∧ i.b = w.heap.size ∧
  (∀ ι' w2, ι.le ι' → w2.heap[w.heap.size]? = some obj → BR ι' i w2 b) ∧ ∀ ι' k, ι' k = some i → VR ι' (f k) v
theorem qb {v : Value} {arr : Array Value} {el : TypeId} {cs : List CV} (hrun : (execOp ρ o).run P w = .ok (.value v) (w.alloc (.cells arr el))) (hv : VRL ι cs arr.toList)
  (hf : ∀ ι' k, ι' k = some ⟨w.heap.size, 0, cs.length, 0, cs.length, false⟩ → VR ι' (f k) v) : Ls P ι w ρ o f (.cells cs 0 el) := by
 refine ⟨v, w.alloc (.cells arr el), ⟨w.heap.size, 0, cs.length, 0, cs.length, false⟩, .cells arr el, hrun, rfl, rfl, rfl, Nat.le_refl _, by simp, fun b hb => heap_alloc_old w _ b hb, heap_alloc_new w _, rfl, fun ι' w2 hle h2 => ?_, hf⟩
 have hl := hv.1
 simp only [Array.length_toList] at hl
 refine ⟨arr, el, h2, by simp [hl], Nat.le_refl _, rfl, rfl, rfl, ?_, rfl, fun _ => ⟨rfl, hl⟩⟩
 rw [List.drop_zero, List.take_of_length_le (by simp [hl])]
 exact hv.mono hle
theorem FS {t : TypeId} (he : o.op = .alloc t) (hl : dM t (cn P t) = some (f, b)) : Ls P ι w ρ o f b := by
 unfold dM at hl
 split at hl
 · rename_i z hz
   obtain ⟨i, zv, hi, hz2, rfl⟩ := p8 hz
   injection hl with hl
   simp only [Prod.mk.injEq] at hl
   obtain ⟨rfl, rfl⟩ := hl
   refine qb (v := .pointer (some ⟨w.heap.size, 0, none⟩)) (arr := zv.cells) (el := t) ?_ (by rw [ud]; exact ku ι _) fun ι' k hk => by simpa using VR.ptr (o := 0) hk
   unfold execOp; rw [he]
   simp [Instr.alloc, gX hi hz2, newVar, newRow]
 · cases hl
theorem Lt {t : TypeId} {x : Operand} (he : o.op = .box t x) (hev : ∀ x ∈ o.op.operands.toList, VR ι (e x) (ρ x)) (hl : cK t (e x) (au P t) = some (f, b)) : Ls P ι w ρ o f b := by
 have hx := hev x (by simp [he, Op.operands])
 unfold cK at hl
 split at hl
 · split at hl
   · rename_i hc
     simp only [Bool.and_eq_true] at hc
     injection hl with hl
     simp only [Prod.mk.injEq] at hl
     obtain ⟨rfl, rfl⟩ := hl
     obtain ⟨h1, _⟩ := hx.cells hc.1
     refine qb (v := .pointer (some ⟨w.heap.size, 0, none⟩)) (arr := (ρ x).cells) (el := t) ?_ h1 fun ι' k hk => by simpa using VR.ptr (o := 0) hk
     unfold execOp; rw [he]
     simp [Instr.box, newVar, newRow]
   · cases hl
 · cases hl
theorem FT {t : TypeId} {len : Nat} {parts : Array (Nat × Operand)} (he : o.op = .buildSlice t len parts) (hev : ∀ x ∈ o.op.operands.toList, VR ι (e x) (ρ x)) (hl : aC len (parts.toList.map fun p => (p.1, e p.2)) (ae P t) = some (f, b)) : Ls P ι w ρ o f b := by
 have hpv := zX (ι := ι) (e := e) (ρ := ρ) parts.toList (fun x hx => hev x (by simp [he, Op.operands]; simpa using hx))
 unfold aC at hl
 split at hl
 · rename_i el esz bytes z hty
   obtain ⟨hu, i, zv, d, hi, hsz, hby, hz, rfl, hd⟩ := bT hty
   split at hl
   · rename_i hc
     simp only [Bool.and_eq_true] at hc
     obtain ⟨⟨h1, h2⟩, h3⟩ := hc
     have h1 := aW h1
     have h2 := bv h2
     split at hl
     · rename_i cs hf
       injection hl with hl
       simp only [Prod.mk.injEq] at hl
       obtain ⟨rfl, rfl⟩ := hl
       obtain ⟨arr, e1, e2⟩ := lO (ι := ι) _ _ (dG (bR zv) len) ((Array.range (len * esz)).map (zv.cells[· % zv.cells.size]!)) cs hpv h3 (kz ι zv len (len * esz) (by rw [h1])) hf
       refine qb (v := .slice (some ⟨w.heap.size, 0, none⟩) len len) (arr := arr) (el := el) ?_ e2 fun ι' k hk => by simpa using VR.sl (o := 0) (n := len) hk (.inl ⟨rfl, fun hz => absurd rfl hz⟩)
       unfold execOp; rw [he]
       have hnb : ¬ 16777216 < len * i.size := by rw [hsz]; omega
       subst hsz
       by_cases hl0 : len * i.size = 0
       · have hr0 : Array.range 0 = #[] := Array.range_zero'
         have e1' : Instr.fill (fun k => some (k * i.size, i.size)) (#[] : Array Value) (parts.toList.map fun x => (x.1, ρ x.2)) = some arr := by
          rw [hl0, hr0, Array.map_empty] at e1; exact e1
         simp [Instr.buildSlice, ap hu, bJ hi, hl0, newRow, e1', hr0]
       · simp [Instr.buildSlice, ap hu, bJ hi, hl0, hnb, newRow, e1, gX hi hz]
     · cases hl
   · cases hl
 · cases hl
theorem ue {t el : TypeId} {i : TypeInfo} {zv : Value} (hu : P.underlying t = some (.slice el)) (hi : P.info? el = some i) (hz : i.zero = some zv) (l c : Nat) (k k' : IntKind) (hlc : l ≤ c) (hb : c * i.bytes ≤ 140737488355328) (hm : c ≤ 9223372036854775807) (w : World) :
  (Instr.makeSlice t (.int k (Int.ofNat l)) (.int k' (Int.ofNat c))).run P w = .ok (.slice (some ⟨w.heap.size, 0, none⟩) l c) (w.alloc (.cells ((Array.range (c * i.size)).map ((if c * i.size = 0 then #[] else zv.cells)[· % (if c * i.size = 0 then #[] else zv.cells).size]!)) el)) := by
 have hwl : IntKind.i64.wrap (Int.ofNat l) = Int.ofNat l := eQ l (by omega)
 have hwc : IntKind.i64.wrap (Int.ofNat c) = Int.ofNat c := eQ c (by omega)
 have h0 : ¬ (Int.ofNat c < 0) := Int.not_lt.2 (Int.natCast_nonneg c)
 have h0l : ¬ (Int.ofNat l < 0) := Int.not_lt.2 (Int.natCast_nonneg l)
 have h1 : ¬ ((i.bytes : Int) * Int.ofNat c > 2 ^ 48) := by
  rw [Int.ofNat_eq_natCast, ← Int.natCast_mul, Nat.mul_comm]
  omega
 have h2 : ¬ (Int.ofNat l > Int.ofNat c) := Int.not_lt.2 (Int.ofNat_le.2 hlc)
 have h3 : ¬ (c * i.bytes > roomBytes) := by unfold roomBytes; omega
 have ht1 : (Int.ofNat c).toNat = c := rfl
 have ht2 : (Int.ofNat l).toNat = l := rfl
 have hcond : (decide (Int.ofNat c < 0) || decide ((i.bytes : Int) * Int.ofNat c > 2 ^ 48) || decide (Int.ofNat l < 0) || decide (Int.ofNat l > Int.ofNat c)) = false := by
  rw [decide_eq_false h0, decide_eq_false h1, decide_eq_false h0l, decide_eq_false h2]; rfl
 unfold Instr.makeSlice
 simp only [Sem.run_bind, ap hu, Result.andThen_ok, asInt, asIntOf, Sem.run_pure, mX hi, hwl, hwc, hcond, Bool.false_eq_true, if_false, ht1, ht2, askRoom, h3, bJ hi]
 by_cases hn : c * i.size = 0
 · simp [hn, newRow]
 · simp [hn, newRow, gX hi hz]
theorem IW {t : TypeId} {l cp : Operand} (he : o.op = .makeSlice t l cp) (hev : ∀ x ∈ o.op.operands.toList, VR ι (e x) (ρ x)) (hl : pT (e l) (e cp) (ae P t) = some (f, b)) : Ls P ι w ρ o f b := by
 have hxl := hev l (by simp [he, Op.operands])
 have hxc := hev cp (by simp [he, Op.operands])
 unfold pT at hl
 split at hl
 · rename_i el esz bytes z hty
   obtain ⟨hu, i, zv, d, hi, hsz, hby, hz, rfl, hd⟩ := bT hty
   split at hl
   · rename_i k n hl'
     rw [hl'] at hxl
     have hvl := bS hxl
     split at hl
     · rename_i k' m hc'
       rw [hc'] at hxc
       have hvc := bS hxc
       split at hl
       · rename_i hc
         simp only [Bool.and_eq_true] at hc
         obtain ⟨⟨⟨h1, h2⟩, h3⟩, h4⟩ := hc
         have h1 := aW h1
         have h2 := bv h2
         have h3 := bv h3
         have h4 := bv h4
         injection hl with hl
         simp only [Prod.mk.injEq] at hl
         obtain ⟨rfl, rfl⟩ := hl
         subst hsz
         subst hby
         refine qb (v := .slice (some ⟨w.heap.size, 0, none⟩) n m) (arr := (Array.range (m * i.size)).map ((if m * i.size = 0 then #[] else zv.cells)[· % (if m * i.size = 0 then #[] else zv.cells).size]!)) (el := el) ?_ ?_ fun ι' k hk => by simpa using VR.sl (o := 0) (n := n) hk (.inl ⟨rfl, fun hz => absurd rfl hz⟩)
         · unfold execOp; rw [he]
           simp only [hvl, hvc, Sem.run_bind, ue hu hi hz n m k k' h2 h3 h4 w, Result.andThen_ok, Sem.run_pure]
         · by_cases hn : m * i.size = 0
           · have hr0 : Array.range 0 = #[] := Array.range_zero'
             have : dG (bR zv) m = [] := List.eq_nil_of_length_eq_zero (by rw [dq, h1]; exact hn)
             rw [this, hn, hr0, Array.map_empty]
             exact VRL.nil ι
           · simp only [if_neg hn]
             exact kz ι zv m (m * i.size) (by rw [h1])
       · cases hl
     · cases hl
   · cases hl
 · cases hl
theorem Lu {t : TypeId} (he : o.op = .makeMap t none) : Ls P ι w ρ o (fun k => .mp k) (.mp []) := by
 refine ⟨.map (some w.heap.size), w.alloc (.map #[] 0), ⟨w.heap.size, 0, 0, 0, 0, false⟩, .map #[] 0, ?_, rfl, rfl, rfl, Nat.le_refl _, by simp, fun b hb => heap_alloc_old w _ b hb, heap_alloc_new w _, rfl, fun ι' w2 hle h2 => ?_, fun ι' k hk => .mp hk⟩
 · unfold execOp; rw [he]
   have h1 : (newObj (.map #[] 0)).run P w = .ok w.heap.size (w.alloc (.map #[] 0)) := rfl
   simp [Instr.makeMap, h1]
 · exact ⟨#[], 0, h2, VRL.nil _, VRL.nil _, by simp, by simp⟩
theorem oL (el : TypeId) (b : ByteArray) (w : World) : ∃ cap w' f, (Conv.stringToBytes el b).run P w = .ok (.slice (some ⟨w.heap.size, 0, none⟩) b.size cap) w' ∧ b.size ≤ cap ∧ w'.os = w.os ∧ w'.tape = w.tape ∧ w'.output = w.output ∧ w.drawn ≤ w'.drawn ∧ w'.heap.size = w.heap.size + 1 ∧ (∀ i, i < w.heap.size → w'.heap[i]? = w.heap[i]?) ∧
  w'.heap[w.heap.size]? = some (.cells (b.data.map (fun c => Value.int .u8 c.toNat) ++ Array.replicate (cap - b.size) (.int .u8 0)) el f) := by
 let cap := (Question.appendCap b.size 0 el).cut (w.tape w.drawn (.appendCap b.size 0 el))
 have hcap : b.size ≤ cap := Nat.le_add_right _ _
 let arr : Array Value := b.data.map (fun c => Value.int .u8 c.toNat) ++ Array.replicate (cap - b.size) (.int .u8 0)
 let w1 : World := { w with drawn := w.drawn + 1, heap := w.heap.push (.cells arr el (0, 0)) }
 have h1 : (Conv.stringToBytes el b).run P w = .ok (.slice (some ⟨w.heap.size, 0, none⟩) b.size cap) (w1.freeze ⟨w.heap.size, arr.size, none⟩ 1) := by
  have hsh : w1.shape? w.heap.size = some (el, arr.size) := by simp [World.shape?, w1]
  have hq : (choose (.appendCap b.size 0 el)).run P w = .ok cap { w with drawn := w.drawn + 1 } := by simp [choose, Sem.run, Question.forced, cap]
  unfold Conv.stringToBytes
  simp only [Sem.run_bind, hq, Result.andThen_ok]
  have hn : (newRow el arr).run P { w with drawn := w.drawn + 1 } = .ok ⟨w.heap.size, 0, none⟩ w1 := rfl
  rw [show (b.data.map (fun c => Value.int .u8 c.toNat) ++ Array.replicate (cap - b.size) (.int .u8 0)) = arr from rfl, hn]
  simp only [Result.andThen_ok]
  have hm : (markStringish ⟨w.heap.size, 0, none⟩).run P w1 = .ok () (w1.freeze ⟨w.heap.size, arr.size, none⟩ 1) := by
   simp [markStringish, shape, freeze, Sem.run, hsh]
  rw [hm]
  simp
 refine ⟨cap, _, (arr.size, arr.size + 1), h1, hcap, rfl, rfl, rfl, Nat.le_succ _, by simp [World.freeze, w1], fun i hi => ?_, ?_⟩
 · simp only [World.freeze, w1, Nat.one_ne_zero, if_false]
   rw [Array.getElem?_modify, if_neg (by omega), Array.getElem?_push_lt hi, Array.getElem?_eq_getElem hi]
 · simp only [World.freeze, w1, Nat.one_ne_zero, if_false]
   rw [Array.getElem?_modify]
   simp [arr]
theorem FU {src dst : TypeId} {x : Operand} (he : o.op = .convert src dst x) (hev : ∀ x ∈ o.op.operands.toList, VR ι (e x) (ρ x)) (hl : cZ P (e x) (ae P src) (ae P dst) = some (f, b)) : Ls P ι w ρ o f b := by
 have hx := hev x (by simp [he, Op.operands])
 unfold cZ at hl
 split at hl
 · rename_i el esz bytes z h1 h2
   split at hl
   · rename_i s hx'
     rw [hx'] at hx
     obtain ⟨a, hv, rfl⟩ := cG hx
     split at hl
     · rename_i hel
       injection hl with hl
       simp only [Prod.mk.injEq] at hl
       obtain ⟨rfl, rfl⟩ := hl
       obtain ⟨cap, w', fz, hr, hcap, ho, ht, hou, hdr, hsz, hold, hnew⟩ := oL (P := P) el a w
       have hu := (bT h2).1
       refine ⟨.slice (some ⟨w.heap.size, 0, none⟩) a.size cap, w', ⟨w.heap.size, 0, 0, 0, 0, true⟩, _, ?_, ho, ht, hou, hdr, hsz, hold, hnew, rfl, fun ι' w2 hle h3 => ?_, fun ι' k hk => ?_⟩
       · unfold execOp; rw [he]
         simp only [hv, convert, ap (ef h1), ap hu, ap (gz hel), Sem.run_bind, Result.andThen_ok, hr, Sem.run_pure]
       · refine ⟨_, el, fz, h3, rfl, rfl, ?_⟩
         have h4 : ((a.data.map (fun (c : UInt8) => Value.int .u8 c.toNat) ++ Array.replicate (cap - a.size) (Value.int .u8 0)).toList.drop 0).take ((bs a).map fun c => CV.nu .u8 (.ofNat c)).length = a.data.toList.map fun c => Value.int .u8 (c.toNat : Int) := by
          simp only [List.drop_zero, List.length_map, dx, Array.toList_append, Array.toList_map]
          rw [List.take_append_of_le_length (by simp), List.take_of_length_le (by simp)]
         rw [h4, bs, List.map_map]
         exact gY _ _ _ fun c _ => .nu _ _
       · have := VR.sl (o := 0) (n := a.size) (c := a.size) (c' := cap) hk (.inr ⟨rfl, hcap, fun hz => absurd rfl hz⟩)
         simpa [dx] using this
     · cases hl
   · cases hl
 · cases hl
theorem qc (hev : ∀ x ∈ o.op.operands.toList, VR ι (e x) (ρ x)) (hl : bA P o e = some (f, b)) : Ls P ι w ρ o f b := by
 unfold bA at hl
 split at hl
 · rename_i he; exact FS he hl
 · rename_i he; exact Lt he hev hl
 · rename_i he; exact FT he hev hl
 · rename_i he; exact IW he hev hl
 · rename_i he
   injection hl with hl
   simp only [Prod.mk.injEq] at hl
   obtain ⟨rfl, rfl⟩ := hl
   exact Lu he
 · rename_i he; exact FU he hev hl
 · cases hl
end
end Go.CP
namespace Go.CP
variable [LG] [HK]
theorem lS {α : Type} : ∀ (cs xs : List α), xs.length = cs.length → setAt cs 0 xs = xs
 | [], [], _ => rfl
 | [], _ :: _, h => by simp at h
 | _ :: _, [], h => by simp at h
 | c :: cs, x :: xs, h => by simp only [setAt]; rw [lS cs xs (by simpa using h)]
theorem dX {α : Type} (l : List α) (o : Nat) (vs : List α) (h : o + vs.length ≤ l.length) : setAt l o vs = l.take o ++ vs ++ l.drop (o + vs.length) := by
 have h1 : l = l.take o ++ (l.drop o).take vs.length ++ l.drop (o + vs.length) := by
  rw [List.append_assoc, ← List.drop_drop, List.take_append_drop, List.take_append_drop]
 conv => lhs; rw [h1]
 have h2 := jJ (l.take o) ((l.drop o).take vs.length) (l.drop (o + vs.length)) vs 0 (by simp; omega)
 rw [show (l.take o).length + 0 = o by simp; omega] at h2
 rw [h2, lS _ _ (by simp; omega)]
section
variable {P : Program} {N0 : Nat} {ι : Im} {h h' : Hp} {w : World} {e : Operand → CV} {ρ : Operand → Value} {o : Oper} {c : CV}
def Ws (P : Program) (N0 : Nat) (ι : Im) (h : Hp) (w : World) (ρ : Operand → Value) (o : Oper) (c : CV) (h' : Hp) : Prop :=
 ∃ (ι' : Im) (w' : World), ((∃ v, (execOp ρ o).run P w = .ok (.value v) w' ∧ VR ι' c v) ∨ ((execOp ρ o).run P w = .ok .skip w' ∧ c = .undef)) ∧ ι.le ι' ∧ (∀ k, k < h.n → ι k = none → ι' k = none) ∧ Sim N0 ι' h' w' ∧ Ext N0 w w' ∧ h.n ≤ h'.n
theorem py {i : cE} {w' : World} {cs xs : List CV} {us : List Value} {aO off te : Nat} {arr : Array Value} {el : TypeId} (hb : BR ι i w (.cells cs aO te)) (hx : VRL ι xs us) (hle : off + xs.length ≤ cs.length) (hg : w.heap[i.b]? = some (.cells arr el (0, 0)))
  (hg' : w'.heap[i.b]? = some (.cells (setAt arr.toList (i.base + off) us).toArray el (0, 0))) : BR ι i w' (.cells (setAt cs off xs) aO te) := by
 obtain ⟨arr2, el2, h1, h2, h3, h4, h5, h6, h7, h8e⟩ := hb
 rw [hg] at h1
 injection h1 with h1
 injection h1 with e1 e2
 subst e1
 subst e2
 have hl : (setAt cs off xs).length = cs.length := c7 _ _ _
 refine ⟨_, _, hg', by simp [c7]; exact h2, by rw [hl]; exact h3, by rw [hl]; exact h4, h5, h6, ?_, h8e.1, fun hm => ⟨(h8e.2 hm).1, by have := (h8e.2 hm).2; simp [c7]; omega⟩⟩
 rw [hl]
 have hA : arr.toList = arr.toList.take i.base ++ (arr.toList.drop i.base).take cs.length ++ arr.toList.drop (i.base + cs.length) := by
  rw [List.append_assoc, ← List.drop_drop, List.take_append_drop, List.take_append_drop]
 have hlen : i.base + cs.length ≤ arr.toList.length := by simp; omega
 have hul : us.length = xs.length := hx.1
 have h8 := jJ (arr.toList.take i.base) ((arr.toList.drop i.base).take cs.length) (arr.toList.drop (i.base + cs.length)) us off (by simp at hlen ⊢; omega)
 rw [← hA, show (arr.toList.take i.base).length = i.base by simp at hlen ⊢; omega] at h8
 rw [h8]
 have h9 : ((arr.toList.take i.base ++ setAt ((arr.toList.drop i.base).take cs.length) off us ++ arr.toList.drop (i.base + cs.length)).toArray.toList.drop i.base).take cs.length = setAt ((arr.toList.drop i.base).take cs.length) off us := by
  rw [List.toList_toArray, List.append_assoc, List.drop_append_of_le_length (by simp at hlen ⊢; omega), List.drop_of_length_le (by simp; omega), List.nil_append,
   List.take_append_of_le_length (by rw [c7]; simp at hlen ⊢; omega), List.take_of_length_le (by rw [c7]; simp; omega)]
 rw [h9]
 exact VRL.setAt xs us h7 hx off
theorem FV (S : Sim N0 ι h w) {t : TypeId} {a x : Operand} (he : o.op = .store t a x) (hev : ∀ x ∈ o.op.operands.toList, VR ι (e x) (ρ x)) (hc : bt h (e a) (e x) (au P t) = some (c, h')) : Ws P N0 ι h w ρ o c h' := by
 have ha := hev a (by simp [he, Op.operands])
 have hx := hev x (by simp [he, Op.operands])
 unfold bt at hc
 split at hc
 · rename_i n g ht
   obtain ⟨inf, d, hi, hs, hu, hg⟩ := jI ht
   split at hc
   · rename_i k off hak
     rw [hak] at ha
     obtain ⟨i, hik, hav⟩ := cN ha
     unfold db at hc
     split at hc
     · rename_i cs aO te hb
       split at hc
       · rename_i hcond
         simp only [Bool.and_eq_true] at hcond
         obtain ⟨⟨h1, h2⟩, h3⟩ := hcond
         have h2 := aW h2
         have h3 := bv h3
         injection hc with hc
         simp only [Prod.mk.injEq] at hc
         obtain ⟨rfl, rfl⟩ := hc
         obtain ⟨hv, hone, _, _⟩ := hx.cells h1
         have hB := S.blk k i hik
         rw [hb] at hB
         have hB' := hB
         obtain ⟨arr, el, hgw, hsz, hmc, _⟩ := hB'
         have hvl : (ρ x).cells.toList.length = n := by rw [hv.1, h2]
         have hfit : i.base + off + 0 + (ρ x).cells.toList.length ≤ arr.size := by rw [hvl]; omega
         have hst := run_storeCells_at P i.b (i.base + off) el (ρ x).cells.toList 0 arr w hgw hfit hone
         rw [Nat.add_zero, ← dX _ _ _ (by rw [hvl]; simp; omega)] at hst
         refine ⟨ι, w.setRow i.b (setAt arr.toList (i.base + off) (ρ x).cells.toList).toArray, .inr ⟨?_, rfl⟩, Im.le_refl ι, fun k _ hk => hk, ?_, ?_, Nat.le_refl _⟩
         · have hsz2 : (ρ x).cells.size = inf.size := by rw [hs, ← hvl]; simp
           unfold execOp; rw [he]
           simp [hav, Instr.storeAt, Instr.sureAddr, storeVar, bJ hi, hsz2, hst]
         · refine S.wrote hik (by rw [hb]; rfl) (.inl rfl) (by simp) (fun j hj => setRow_other w i.b j _ hj) ?_
           exact py hB hv (by rw [h2]; omega) hgw (setRow_heap w i.b arr _ el (0, 0) hgw)
         · have hN := S.own k i hik (by rw [hb]; rfl)
           exact ⟨rfl, rfl, rfl, by simp, fun b hb => setRow_other w i.b b _ (by omega), Nat.le_refl _⟩
       · cases hc
     · cases hc
   · cases hc
 · cases hc
theorem kB : ∀ {v : Value}, (∃ k n, v = .int k n) ∨ (∃ s, v = .string s) ∨ (∃ b, v = .bool b) → ∀ d, Instr.sameBits d v v = true
 | v, .inl ⟨k, n, e⟩, d => by subst e; cases d <;> simp [Instr.sameBits]
 | v, .inr (.inl ⟨s, e⟩), d => by subst e; cases d <;> simp [Instr.sameBits, beq_toListBytes]
 | v, .inr (.inr ⟨b, e⟩), d => by subst e; cases d <;> simp [Instr.sameBits]
theorem Da {kt : TypeId} {key : CV} {kv : Value} (hk : kj P kt key = true) (hkv : VR ι key kv) : Instr.sameBits 10000 kv kv = true := by
 unfold kj at hk
 split at hk
 · split at hk
   · exact kB (.inl ⟨_, _, bS hkv⟩) _
   · cases hk
 · split at hk
   · obtain ⟨a, e, _⟩ := cG hkv
     exact kB (.inr (.inl ⟨_, e⟩)) _
   · cases hk
 · split at hk
   · rename_i cs k0 hel
     simp only [Bool.and_eq_true] at hk
     obtain ⟨us, rfl, hus⟩ := dd hkv
     have hall : ∀ u ∈ us.toList, ∃ k n, u = Value.int k n := by
      intro u hu
      obtain ⟨j, hj, rfl⟩ := List.getElem_of_mem hu
      have hj' : j < cs.length := by rw [← hus.1]; exact hj
      have h1 := hus.2 j hj'
      have h2 := List.all_eq_true.1 hk.2 _ (List.getElem_mem hj')
      rw [List.getD_eq_getElem?_getD, List.getElem?_eq_getElem hj] at h1
      split at h2
      · rename_i q m hq
        rw [hq] at h1
        exact ⟨_, _, bS h1⟩
      · cases h2
     have key : ∀ d, Instr.sameBits (d + 1) (.agg us) (.agg us) = true := by
      intro d
      simp only [Instr.sameBits, beq_self_eq_true, Bool.true_and, List.all_eq_true]
      rintro ⟨x, y⟩ hxy
      obtain ⟨j, hj, hxy⟩ := List.getElem_of_mem hxy
      simp only [List.getElem_zip, Prod.mk.injEq] at hxy
      obtain ⟨rfl, rfl⟩ := hxy
      exact kB (.inl (hall _ (List.getElem_mem _))) d
     exact key 9999
   · cases hk
 · split at hk
   · rename_i cs
     obtain ⟨us, rfl, hus⟩ := dd hkv
     unfold CX at hk
     split at hk
     · rename_i fs hu
       simp only [Bool.and_eq_true, Bool.not_eq_true'] at hk
       have hfit : ∀ (fs : List Field) (j : Nat) (cs : List CV), gd P fs j cs = true → ∀ c ∈ cs, ∃ t, fi P t c = true := by
        intro fs
        induction fs with
        | nil =>
         intro j cs h c hc
         cases cs with
         | nil => cases hc
         | cons d ds => simp [gd] at h
        | cons f fs ih =>
         intro j cs h c hc
         cases cs with
         | nil => cases hc
         | cons d ds =>
          simp only [gd, Bool.and_eq_true] at h
          rcases List.mem_cons.1 hc with rfl | hc
          · exact ⟨_, h.1.2⟩
          · exact ih (j + 1) ds h.2 c hc
       have hall : ∀ u ∈ us.toList, (∃ k n, u = Value.int k n) ∨ (∃ s, u = .string s) ∨ (∃ b, u = .bool b) := by
        intro u hu
        obtain ⟨j, hj, rfl⟩ := List.getElem_of_mem hu
        have hj' : j < cs.length := by rw [← hus.1]; exact hj
        have h1 := hus.2 j hj'
        obtain ⟨t, h2⟩ := hfit _ _ _ hk.2 _ (List.getElem_mem hj')
        rw [List.getD_eq_getElem?_getD, List.getElem?_eq_getElem hj] at h1
        unfold fi at h2
        split at h2 <;> (try (split at h2)) <;> (try (cases h2; done)) <;> (rename_i hq; rw [hq] at h1)
        · exact .inl ⟨_, _, bS h1⟩
        · obtain ⟨a, e, _⟩ := cG h1; exact .inr (.inl ⟨_, e⟩)
        · exact .inr (.inr ⟨_, dF h1⟩)
       have key : ∀ d, Instr.sameBits (d + 1) (.agg us) (.agg us) = true := by
        intro d
        simp only [Instr.sameBits, beq_self_eq_true, Bool.true_and, List.all_eq_true]
        rintro ⟨x, y⟩ hxy
        obtain ⟨j, hj, hxy⟩ := List.getElem_of_mem hxy
        simp only [List.getElem_zip, Prod.mk.injEq] at hxy
        obtain ⟨rfl, rfl⟩ := hxy
        exact kB (hall _ (List.getElem_mem _)) d
       exact key 9999
     · cases hk
   · cases hk
 · cases hk
theorem uV {key v : CV} {kv vv : Value} {Fd : List MapEntry → Nat → Option (Nat × Value) → Prop} (hkv : VR ι key kv) (hvv : VR ι v vv) (h0 : ∀ i, Fd [] i none) (h1 : ∀ k e es i, VR ι k (MapEntry.key e) → dH key k = some true → Fd (e :: es) i (some (i, e.val)))
  (h2 : ∀ k e es i r, VR ι k (MapEntry.key e) → dH key k = some false → Fd es (i + 1) r → Fd (e :: es) i r) : ∀ (es : List (CV × CV)) (ents : List MapEntry) (i : Nat) (es' : List (CV × CV)), MR ι es ents → gc key v es = some es' →
  (Fd ents i none ∧ ∀ born, MR ι es' (ents ++ [{ key := kv, val := vv, born }])) ∨ ∃ j e, Fd ents i (some (i + j, e.val)) ∧ ents[j]? = some e ∧ e.key = kv ∧ ∀ born, MR ι es' (ents.set j { key := kv, val := vv, born })
 | [], ents, i, es', hm, hu => by
  rw [hm.nil]
  simp only [gc, Option.some.injEq] at hu
  subst hu
  exact .inl ⟨h0 i, fun born => ⟨VRL.cons hkv (VRL.nil ι), VRL.cons hvv (VRL.nil ι)⟩⟩
 | (k, u) :: es, ents, i, es', hm, hu => by
  obtain ⟨e, l, rfl, hk, hv, hm'⟩ := hm.cons
  simp only [gc] at hu
  split at hu
  · rename_i hkk
    injection hu with hu; subst hu
    have hek : e.key = kv := (C7 hkv hk hkk).1 rfl
    refine .inr ⟨0, e, h1 k e l i hk hkk, rfl, hek, fun born => ?_⟩
    exact ⟨VRL.cons (by rw [← hek]; exact hk) hm'.1, VRL.cons hvv hm'.2⟩
  · rename_i hkk
    split at hu
    · rename_i es2 hu2
      injection hu with hu; subst hu
      rcases uV hkv hvv h0 h1 h2 es l (i + 1) es2 hm' hu2 with ⟨g1, g2⟩ | ⟨j, e', g1, g2, g3, g4⟩
      · exact .inl ⟨h2 k e l i _ hk hkk g1, fun born => ⟨VRL.cons hk (g2 born).1, VRL.cons hv (g2 born).2⟩⟩
      · refine .inr ⟨j + 1, e', ?_, by simpa using g2, g3, fun born => ⟨VRL.cons hk (g4 born).1, VRL.cons hv (g4 born).2⟩⟩
        have := h2 k e l i _ hk hkk g1
        rwa [show i + 1 + j = i + (j + 1) by omega] at this
    · cases hu
  · cases hu
theorem FW {ents : Array MapEntry} {clock : Nat} {k v : Value} (h : Bn ents.toList clock) : Bn (ents.push { key := k, val := v, born := clock }).toList (clock + 1) := by
 refine ⟨?_, fun x hx => ?_⟩
 · rw [Array.toList_push, List.map_append, List.nodup_append]
   refine ⟨h.1, by simp, fun a ha b hb e => ?_⟩
   obtain ⟨y, hy, rfl⟩ := List.mem_map.1 ha
   simp at hb
   have := h.2 y hy
   omega
 · rw [Array.toList_push, List.mem_append] at hx
   rcases hx with hx | hx
   · have := h.2 x hx; omega
   · simp at hx; subst hx; simp
theorem zZ {ents : Array MapEntry} {clock j : Nat} {k v : Value} (h : Bn ents.toList clock) : Bn (ents.modify j fun en => { en with key := k, val := v }).toList clock := by
 have hm : (ents.modify j fun en => { en with key := k, val := v }).toList.map (·.born) = ents.toList.map (·.born) := by
  apply List.ext_getElem?
  intro n
  rw [List.getElem?_map, List.getElem?_map, Array.getElem?_toList, Array.getElem?_modify, Array.getElem?_toList]
  by_cases hjn : j = n
  · rw [if_pos hjn]; cases ents[n]? <;> rfl
  · rw [if_neg hjn]
 refine ⟨by rw [hm]; exact h.1, fun x hx => ?_⟩
 have : x.born ∈ (ents.modify j fun en => { en with key := k, val := v }).toList.map (·.born) := List.mem_map.2 ⟨x, hx, rfl⟩
 rw [hm] at this
 obtain ⟨y, hy, e⟩ := List.mem_map.1 this
 rw [← e]; exact h.2 y hy
theorem Lv (S : Sim N0 ι h w) {t : TypeId} {m key x : Operand} (he : o.op = .mapUpdate t m key x) (hev : ∀ x ∈ o.op.operands.toList, VR ι (e x) (ρ x)) (hc : iQ P h (e m) (e key) (e x) (ae P t) = some (c, h')) : Ws P N0 ι h w ρ o c h' := by
 have hm := hev m (by simp [he, Op.operands])
 have hk := hev key (by simp [he, Op.operands])
 have hx := hev x (by simp [he, Op.operands])
 unfold iQ at hc
 split at hc
 · rename_i kt et hty
   have hu := qT hty
   split at hc
   · rename_i hcond
     have hkok := hcond
     split at hc
     · rename_i k hmk
       rw [hmk] at hm
       generalize hv : ρ m = v at hm
       cases hm with
       | @mp _ inf hinf =>
        unfold uC at hc
        split at hc
        · rename_i es hb
          have hB := S.blk k inf hinf
          rw [hb] at hB
          obtain ⟨ents, clock, hg, hm1, hm2, hbn⟩ := hB
          have hmr : MR ι es ents.toList := ⟨hm1, hm2⟩
          unfold uB at hc
          split at hc
          · rename_i es' hup
            injection hc with hc
            simp only [Prod.mk.injEq] at hc
            obtain ⟨rfl, rfl⟩ := hc
            obtain ⟨Fd, g0, g1, g2, g3, g4⟩ := Fj (w := w) hkok hk
            have hobj : (getObj inf.b).run P w = .ok (.map ents clock) w := by simp [getObj, Sem.run, hg]
            have hset : ∀ ob, (setObj inf.b ob).run P w = .ok () { w with heap := w.heap.setIfInBounds inf.b ob } := by intro ob; simp [setObj, Sem.run, hg]
            have hlt := (S.lt k inf hinf).2
            have fin : ∀ (ents' : Array MapEntry) (clock' : Nat), (execOp ρ o).run P w = .ok .skip { w with heap := w.heap.setIfInBounds inf.b (.map ents' clock') } → MR ι es' ents'.toList → Bn ents'.toList clock' → Ws P N0 ι h w ρ o .undef (h.set k (.mp es')) := by
             intro ents' clock' hrun hmr' hbn'
             refine ⟨ι, _, .inr ⟨hrun, rfl⟩, Im.le_refl ι, fun k _ hk => hk, ?_, ?_, Nat.le_refl _⟩
             · refine S.wrote hinf (by rw [hb]; rfl) (.inl rfl) (by simp) (fun j hj => by simp [Ne.symm hj]) ?_
               exact ⟨ents', clock', by simp [hlt], hmr'.1, hmr'.2, hbn'⟩
             · have hN := S.own k inf hinf (by rw [hb]; rfl)
               exact ⟨rfl, rfl, rfl, by simp, fun b hb => by simp; rw [Array.getElem?_setIfInBounds_ne (by omega)], Nat.le_refl _⟩
            rcases uV hk hx g0 g1 g2 es ents.toList 0 es' hmr hup with ⟨f1, f2⟩ | ⟨j, e', f1, f2, f3, f4⟩
            · refine fin (ents.push { key := ρ key, val := ρ x, born := clock }) (clock + 1) ?_ (by simpa using f2 clock) (FW hbn)
              unfold execOp; rw [he]
              simp [Instr.mapUpdate, ap hu, hv, hobj, g4, g3 _ _ f1, hset]
            · rw [Array.getElem?_toList] at f2
              have hj : j < ents.size := (Array.getElem?_eq_some_iff.1 f2).1
              refine fin (ents.modify j fun en => { en with key := ρ key, val := ρ x }) clock ?_ ?_ (zZ hbn)
              · rw [Nat.zero_add] at f1
                have hkeep : (Instr.keyThatStays (ρ key) (ρ key)).run P w = .ok (ρ key) w := by simp [Instr.keyThatStays, Da hkok hk]
                unfold execOp; rw [he]
                simp [Instr.mapUpdate, ap hu, hv, hobj, g4, g3 _ _ f1, f2, f3, hkeep, hset]
              · have := f4 e'.born
                have h5 : (ents.modify j fun en => { en with key := ρ key, val := ρ x }).toList = ents.toList.set j { key := ρ key, val := ρ x, born := e'.born } := by
                 apply List.ext_getElem?
                 intro n
                 rw [Array.getElem?_toList, Array.getElem?_modify, List.getElem?_set]
                 by_cases hjn : j = n
                 · subst hjn
                   rw [if_pos rfl, if_pos rfl, f2]
                   simp [hj]
                 · rw [if_neg hjn, if_neg hjn, Array.getElem?_toList]
                rw [h5]; exact this
          · cases hc
        · cases hc
     · cases hc
   · cases hc
 · cases hc
def xz (P : Program) (t' : TypeId) (y : Value) (m : Nat) : Prop := (∃ el' a cy, P.underlying t' = some (.slice el') ∧ y = .slice a m cy) ∨ ∃ b : ByteArray, P.underlying t' = some .string ∧ y = .string b ∧ b.size = m
theorem jd {t t' ty el : TypeId} {i : TypeInfo} (ht : P.underlying t = some (.slice el)) (hi : P.info? el = some i) {ad : Addr} {n cp m : Nat} {y : Value} {news : Array Value} {w' : World} (hl : xz P t' y m)
  (hf : (Builtin.firstCells i.size m y).run P w = .ok news w) (hroom : n + m ≤ cp) (hst : (storeCells (ad.add (n * i.size)) news.toList).run P w = .ok () w') :
  (Builtin.append_ #[t, t'] ty #[.slice (some ad) n cp, y]).run P w = .ok (.slice (some ad) (n + m) cp) w' := by
 rcases hl with ⟨el', a, cy, ht', rfl⟩ | ⟨b, ht', rfl, rfl⟩
 · simp [Builtin.append_, ap ht, ap ht', bJ hi, Builtin.lenOf, hroom, hf, hst]
 · simp [Builtin.append_, ap ht, ap ht', bJ hi, Builtin.lenOf, hroom, hf, hst]
theorem nb {t t' ty el : TypeId} {i : TypeInfo} (ht : P.underlying t = some (.slice el)) (hi : P.info? el = some i) {b : Option Addr} {n cp : Nat} {y : Value} (hl : xz P t' y 0) (hf : (Builtin.firstCells i.size 0 y).run P w = .ok #[] w) (hc : n ≤ cp) :
  (Builtin.append_ #[t, t'] ty #[.slice b n cp, y]).run P w = .ok (.slice b n cp) w := by
 rcases hl with ⟨el', a, cy, ht', rfl⟩ | ⟨s, ht', rfl, hs⟩
 · cases b with
   | none => simp [Builtin.append_, ap ht, ap ht', bJ hi, Builtin.lenOf, hc, hf]
   | some ad => simp [Builtin.append_, ap ht, ap ht', bJ hi, Builtin.lenOf, hc, hf, storeCells]
 · cases b with
   | none => simp [Builtin.append_, ap ht, ap ht', bJ hi, Builtin.lenOf, hs, hc, hf]
   | some ad => simp [Builtin.append_, ap ht, ap ht', bJ hi, Builtin.lenOf, hs, hc, hf, storeCells]
theorem jK {t t' ty el : TypeId} {i : TypeInfo} {z : Value} (ht : P.underlying t = some (.slice el)) (hi : P.info? el = some i) (hz : i.zero = some z) {x y : Value} {n cp m : Nat} {olds news : Array Value} (hlx : ∃ b, x = .slice b n cp) (hly : xz P t' y m)
  (hfx : ∀ w', w'.heap = w.heap → (Builtin.firstCells i.size n x).run P w' = .ok olds w') (hfy : ∀ w', w'.heap = w.heap → (Builtin.firstCells i.size m y).run P w' = .ok news w') (hroom : cp < n + m) (h63 : n + m ≤ 4611686018427387904) (hb : (n + m) * i.bytes ≤ 70368744177664) :
  ∃ cap, n + m ≤ cap ∧ (Builtin.append_ #[t, t'] ty #[x, y]).run P w = .ok (.slice (some ⟨w.heap.size, 0, none⟩) (n + m) cap) (w.drew.alloc (.cells (olds ++ news ++ Builtin.zeroCells z.cells (cap - (n + m))) el)) := by
 obtain ⟨b, rfl⟩ := hlx
 refine ⟨grownCap w (n + m) cp el, Nat.le_add_right _ _, ?_⟩
 have hn : ¬ (n + m ≤ cp) := by omega
 have h63' : ¬ (9223372036854775807 < ((n : Int) + (m : Int))) := by omega
 have h48 := growslice_fits (need := n + m) (old := cp) (bytes := i.bytes) hroom (by omega)
 have h48' : ¬ (281474976710656 < Builtin.nextslicecap (n + m) cp * i.bytes) := by omega
 have h1 := hfx w.drew rfl
 have h2 := hfy w.drew rfl
 rcases hly with ⟨el', a, cy, ht', rfl⟩ | ⟨s, ht', rfl, rfl⟩
 · simp [Builtin.append_, ap ht, ap ht', sizeOf, typeInfo, zeroValue, hi, hz, Builtin.lenOf, hn, h63', h48', Question.forced, h1, h2, newRow, grownCap]
 · simp [Builtin.append_, ap ht, ap ht', sizeOf, typeInfo, zeroValue, hi, hz, Builtin.lenOf, hn, h63', h48', Question.forced, h1, h2, newRow, grownCap]
theorem uf {t t' ty el : TypeId} {i : TypeInfo} {z : Value} {k : IntKind} (ht : P.underlying t = some (.slice el)) (ht' : P.underlying t' = some (.int k)) (hi : P.info? el = some i) (hz : i.zero = some z) {m : Nat} (hm : 0 < m) (hs : i.size ≠ 0) (h63 : m ≤ 4611686018427387904) (hb : m * i.bytes ≤ 70368744177664) :
  ∃ cap, m ≤ cap ∧ (Builtin.append_ #[t, t'] ty #[.slice none 0 0, .int .i64 (Int.ofNat m)]).run P w = .ok (.slice (some ⟨w.heap.size, 0, none⟩) m cap) (w.drew.alloc (.cells (Builtin.zeroCells z.cells m ++ Builtin.zeroCells z.cells (cap - m)) el)) := by
 refine ⟨grownCap w m 0 el, Nat.le_add_right _ _, ?_⟩
 have hw : IntKind.i64.wrap (m : Int) = (m : Int) := eQ m (by omega)
 have hn : ¬ (m = 0) := by omega
 have hne : ¬ (m = 0 ∨ i.size = 0) := by omega
 have h63' : ¬ (9223372036854775807 < (m : Int)) := by omega
 have hl48 : ¬ (281474976710656 < (m : Int) * (i.bytes : Int)) := by
  rw [← Int.natCast_mul]; omega
 have h48 := growslice_fits (need := m) (old := 0) (bytes := i.bytes) hm (by omega)
 have h48' : ¬ (281474976710656 < Builtin.nextslicecap m 0 * i.bytes) := by omega
 simp [Builtin.append_, ap ht, ap ht', sizeOf, typeInfo, zeroValue, hi, hz, Builtin.firstCells, asInt, asIntOf, hw, hl48, hn, hs, hne, h63', h48', Question.forced, newRow, grownCap]
 rw [if_neg (show ¬ ((m : Int) < 0) by omega), if_neg (Nat.mul_ne_zero hn hs)]
end
end Go.CP
namespace Go.CP
variable [LG] [HK]
theorem Sim.attach {N0 : Nat} {ι : Im} {h : Hp} {w : World} (S : Sim N0 ι h w) {k : Nat} (hk : k < h.n) (hn : ι k = none) {i : cE} (hib : i.b < w.heap.size) (hN : N0 ≤ i.b) (hne : ∀ j a, ι j = some a → (h.get j).live = true → a.b ≠ i.b) (hb : BR (ι.set k i) i w (h.get k)) : Sim N0 (ι.set k i) h w := by
 refine ⟨fun j i' e => ?_, fun j i' e hw => ?_, S.fresh, fun j i' e => ?_, fun j j' a a' e e' hjj h1 h2 => ?_⟩
 · unfold Im.set at e; split at e
   · rename_i e'; subst e'; injection e with e; subst e; exact ⟨hk, hib⟩
   · exact S.lt j i' e
 · unfold Im.set at e; split at e
   · injection e with e; subst e; exact hN
   · exact S.own j i' e hw
 · unfold Im.set at e; split at e
   · rename_i e'; subst e'; injection e with e; subst e; exact hb
   · exact (S.blk j i' e).mono (bE hn) rfl
 · have hlive : ∀ b : HB, b.wr = true → b.live = true := fun b hb => by cases b <;> simp [HB.wr, HB.live] at hb ⊢
   unfold Im.set at e e'
   split at e
   · injection e with e; subst e
     split at e'
     · rename_i e1 e2; subst e1; subst e2; exact absurd rfl hjj
     · exact (hne j' a' e' h2).symm
   · split at e'
     · injection e' with e'; subst e'
       exact hne j a e (hlive _ h1)
     · exact S.inj j j' a a' e e' hjj h1 h2
theorem Sim.none {N0 : Nat} {ι : Im} {h : Hp} {w : World} (S : Sim N0 ι h w) : ι h.n = Option.none := by
 cases hn : ι h.n with
 | none => rfl
 | some i => exact absurd (S.lt _ _ hn).1 (Nat.lt_irrefl _)
section
variable {P : Program} {N0 : Nat} {ι : Im} {h h' : Hp} {w : World} {e : Operand → CV} {ρ : Operand → Value} {o : Oper} {c : CV}
theorem jx {k0 : Nat} {i : cE} {n : Nat} (hk : n ≤ k0) : ∀ k, k < n → ι k = none → (ι.set k0 i) k = none := fun k h1 h2 => by
 unfold Im.set; rw [if_neg (by omega)]; exact h2
theorem pz {h1 : Hp} (hN : N0 ≤ w.heap.size) (S1 : Sim N0 ι h1 w) (hn1 : h1.n = h.n) {esz len : Nat} (hesz : 0 < esz) {ds : List CV} {us : List Value} (hv : VRL ι ds us) (hl : ds.length = len * esz) {z : Value} (hz : z.cells.size = esz) {cap : Nat} (hcap : len ≤ cap) {el : TypeId}
  (hrun : (execOp ρ o).run P w = .ok (.value (.slice (some ⟨w.heap.size, 0, none⟩) len cap)) (w.drew.alloc (.cells (us.toArray ++ Builtin.zeroCells z.cells (cap - len)) el))) :
  Ws P N0 ι h w ρ o (.sl h.n 0 len len) (h1.push (.cells ds esz el)) := by
 have hnn : ι h1.n = none := S1.none
 have hsz : (us.toArray ++ Builtin.zeroCells z.cells (cap - len)).size = cap * esz := by
  have hul : us.length = len * esz := by rw [hv.1, hl]
  have hzl : (Builtin.zeroCells z.cells (cap - len)).size = (cap - len) * esz := by simp [Builtin.zeroCells, hz]
  rw [Array.size_append, hzl, List.size_toArray, hul, ← Nat.add_mul]; congr 1; omega
 let i : cE := ⟨w.heap.size, 0, cap * esz, esz, len * esz, true⟩
 have hnew : (w.drew.alloc (.cells (us.toArray ++ Builtin.zeroCells z.cells (cap - len)) el)).heap[w.heap.size]? = some (.cells (us.toArray ++ Builtin.zeroCells z.cells (cap - len)) el (0, 0)) := heap_alloc_new w.drew _
 have hmul : len * esz ≤ cap * esz := Nat.mul_le_mul_right _ hcap
 have hS := (S1.push (.cells ds esz el)).laid hN (k := h1.n) (by simp) hnn (w' := w.drew.alloc (.cells (us.toArray ++ Builtin.zeroCells z.cells (cap - len)) el)) (by simp) (fun b hb => heap_alloc_old w.drew _ b hb) (i := i) rfl (by
  rw [ag, if_pos rfl]
  refine ⟨_, el, hnew, by rw [hsz]; simp [i], by simp [i, hl]; exact hmul, by simp [i, hl], ?_, rfl, ?_, rfl, fun hm => absurd hm (by omega)⟩
  · cases hb : Nat.beq esz 0 with
    | true => have := aW hb; omega
    | false => rfl
  · have h4 : ((us.toArray ++ Builtin.zeroCells z.cells (cap - len)).toList.drop i.base).take ds.length = us := by
     simp only [i, List.drop_zero, Array.toList_append]
     rw [List.take_append_of_le_length (by simp [hv.1]), List.take_of_length_le (by simp [hv.1])]
    rw [h4]; exact hv.mono (bE hnn))
 have hle : ι.le (ι.set h1.n i) := bE hnn
 refine ⟨ι.set h1.n i, _, .inl ⟨_, hrun, ?_⟩, hle, jx (by omega), hS, ⟨rfl, rfl, rfl, by simp, fun b hb => ?_, HK.mono (Nat.le_succ _)⟩, by rw [kq]; omega⟩
 · have hk : (ι.set h1.n i) h.n = some i := by unfold Im.set; rw [if_pos hn1.symm]
   have := VR.sl (o := 0) (n := len) (c := len) (c' := cap) hk (.inr ⟨rfl, hcap, fun _ => ⟨by simp [i], by simp [i]⟩⟩)
   simpa [i] using this
 · rw [heap_alloc_old w.drew _ b (by show b < w.heap.size; omega)]; rfl
theorem z6 {w w' : World} (h : w'.heap = w.heap) (a : Addr) : w'.cell? a = w.cell? a := by unfold World.cell?; rw [h]
theorem ie {a : Option Addr} {m cy esz : Nat} {vs : List Value} (hl : vs.length = m * esz) (h5 : ∀ j u, vs[j]? = some u → ∃ ad, a = some ad ∧ w.cell? (ad.add j) = some u) (h6 : a = none → m = 0) : ∀ w', w'.heap = w.heap → (Builtin.firstCells esz m (.slice a m cy)).run P w' = .ok vs.toArray w' := by
 intro w' hw
 cases a with
 | none =>
  have := h6 rfl
  subst this
  have hvs : vs = [] := List.eq_nil_of_length_eq_zero (by simpa using hl)
  subst hvs
  simp [Builtin.firstCells]
 | some ad =>
  exact run_firstCells_some w' esz m ad m cy vs hl fun j u hu => by
   obtain ⟨ad', e1, e2⟩ := h5 j u hu
   injection e1 with e1; subst e1
   rw [z6 hw]; exact e2
theorem xA {cs : List CV} {vs : List Value} (hv : VRL ι cs vs) (h1 : cs.all CV.one = true) : ∀ u ∈ vs, u.oneCell' = true := by
 intro u hu
 obtain ⟨j, hj, rfl⟩ := List.getElem_of_mem hu
 have hj' : j < cs.length := by rw [← hv.1]; exact hj
 have h2 := hv.2 j hj'
 rw [List.getD_eq_getElem?_getD, List.getElem?_eq_getElem hj] at h2
 exact (h2.one (List.all_eq_true.1 h1 _ (List.getElem_mem hj'))).1
theorem Db (S : Sim N0 ι h w) (hN : N0 ≤ w.heap.size) {t t' : TypeId} {x : CV} {vx vy : Value} (hx : VR ι x vx) {el esz bytes m : Nat} {inf : TypeInfo} {zv : Value} {ys : List CV} {vs : List Value} (hu : P.underlying t = some (.slice el)) (hinf : P.info? el = some inf) (hsz : inf.size = esz) (hby : inf.bytes = bytes) (hzv : inf.zero = some zv) (hsrc : xz P t' vy m)
  (hrun : ∀ {v : Value} {w' : World}, (Builtin.append_ #[t, t'] o.type #[vx, vy]).run P w = .ok v w' → (execOp ρ o).run P w = .ok (.value v) w') (hvs : VRL ι ys vs) (hvl : vs.length = m * esz) (hone : ∀ u ∈ vs, u.oneCell' = true) (hfy : ∀ w', w'.heap = w.heap → (Builtin.firstCells esz m vy).run P w' = .ok vs.toArray w')
  (c2 : 0 < esz) (c3 : (lenV x + m) * bytes ≤ 70368744177664) (c4 : lenV x + m ≤ 4611686018427387904) (hzsz : zv.cells.size = esz) (hc : eC h el esz x ys m = some (c, h')) : Ws P N0 ι h w ρ o c h' := by
 have hyl : ys.length = m * esz := by rw [← hvs.1, hvl]
 unfold eC at hc
 split at hc
 · cases hx
   split at hc
   · rename_i hm0
     have hm0 := aW hm0
     subst hm0
     injection hc with hc
     simp only [Prod.mk.injEq] at hc
     obtain ⟨rfl, rfl⟩ := hc
     have hvs0 : vs = [] := List.eq_nil_of_length_eq_zero (by simpa using hvl)
     subst hvs0
     refine ⟨ι, w, .inl ⟨_, hrun ?_, .nils⟩, Im.le_refl ι, fun _ _ hk => hk, S, Ext.refl _ _, Nat.le_refl _⟩
     skip
     exact nb hu hinf hsrc (by rw [hsz]; exact hfy w rfl) (Nat.le_refl _)
   · rename_i hm0
     have hm0 := jG hm0
     injection hc with hc
     simp only [Prod.mk.injEq] at hc
     obtain ⟨rfl, rfl⟩ := hc
     simp only [lenV, Nat.zero_add] at c3 c4
     obtain ⟨cap, hcap, hr⟩ := jK (P := P) (w := w) (ty := o.type) (x := .slice none 0 0) (y := vy) (n := 0) (cp := 0) (m := m) (olds := #[]) (news := vs.toArray) hu hinf hzv ⟨none, rfl⟩ hsrc (fun w' _ => by simp [Builtin.firstCells]) (by rw [hsz]; exact hfy) (by omega) (by omega) (by rw [hby]; simpa using c3)
     simp only [Nat.zero_add, Array.empty_append] at hr hcap
     skip
     exact pz (h := h) hN S rfl c2 hvs hyl hzsz hcap (hrun hr)
 · rename_i k off n cp
   cases hx with
   | @sl _ _ _ _ c' i hi hcc =>
    have hcle : cp ≤ c' := hcc.elim (fun e => Nat.le_of_eq e.1) fun h => h.2.1
    simp only [lenV] at c3 c4
    split at hc
    · rename_i hm0
      have hm0 := aW hm0
      split at hc
      · rename_i hnc
        have hnc := bv hnc
        injection hc with hc
        simp only [Prod.mk.injEq] at hc
        obtain ⟨rfl, rfl⟩ := hc
        subst hm0
        have hvs0 : vs = [] := List.eq_nil_of_length_eq_zero (by simpa using hvl)
        subst hvs0
        refine ⟨ι, w, .inl ⟨_, hrun ?_, .sl hi hcc⟩, Im.le_refl ι, fun _ _ hk => hk, S, Ext.refl _ _, Nat.le_refl _⟩
        skip
        exact nb hu hinf hsrc (by rw [hsz]; exact hfy w rfl) (by omega)
      · cases hc
    · rename_i hm0
      have hm0 := jG hm0
      have hmul : (n + m) * esz = n * esz + m * esz := Nat.add_mul _ _ _
      split at hc
      · rename_i hroom
        have hroom := bv hroom
        unfold yD at hc
        split at hc
        · rename_i cs aO te hb
          split at hc
          · rename_i hfit
            have hfit := bv hfit
            injection hc with hc
            simp only [Prod.mk.injEq] at hc
            obtain ⟨rfl, rfl⟩ := hc
            have hB := S.blk k i hi
            rw [hb] at hB
            have hB' := hB
            obtain ⟨arr, el2, hgw, hasz, hmc, _⟩ := hB'
            have hfit2 : i.base + (off + n * esz) + 0 + vs.length ≤ arr.size := by rw [hvl]; omega
            have hst := run_storeCells_at P i.b (i.base + (off + n * esz)) el2 vs 0 arr w hgw hfit2 hone
            rw [Nat.add_zero, ← dX _ _ _ (by rw [hvl]; simp; omega)] at hst
            refine ⟨ι, w.setRow i.b (setAt arr.toList (i.base + (off + n * esz)) vs).toArray, .inl ⟨_, hrun ?_, .sl hi hcc⟩, Im.le_refl ι, fun k _ hk => hk, ?_, ?_, Nat.le_refl _⟩
            · skip
              refine jd hu hinf hsrc (by rw [hsz]; exact hfy w rfl) (by omega) ?_
              rw [cP, hsz, Nat.add_assoc]; exact hst
            · refine S.wrote hi (by rw [hb]; rfl) (.inl rfl) (by simp) (fun j hj => setRow_other w i.b j _ hj) ?_
              exact py hB hvs (by rw [hyl]; omega) hgw (setRow_heap w i.b arr _ el2 (0, 0) hgw)
            · have hN' := S.own k i hi (by rw [hb]; rfl)
              exact ⟨rfl, rfl, rfl, by simp, fun b hb => setRow_other w i.b b _ (by omega), Nat.le_refl _⟩
          · cases hc
        · cases hc
      · rename_i hroom
        have hroom := LZ hroom
        unfold jD at hc
        split at hc
        · rename_i cs aO te hb
          have hB := S.blk k i hi
          rw [hb] at hB
          split at hc
          · rename_i hfit
            have hfit' := bv hfit
            obtain ⟨us, hus, hul, huc⟩ := hB.sub (o := off) (n := n * esz) (cs := sub cs off (n * esz)) (by simp only [bk, hfit])
            have hfx : ∀ w', w'.heap = w.heap → (Builtin.firstCells esz n (.slice (some ⟨i.b, i.base + off, none⟩) n c')).run P w' = .ok us.toArray w' := ie hul (fun j u hu => ⟨_, rfl, huc j u hu⟩) (fun hn => by cases hn)
            have hsl : (sub cs off (n * esz)).length = n * esz := lN hfit'
            have grow : ∀ {h1 : Hp}, Sim N0 ι h1 w → h1.n = h.n → c' < n + m → Ws P N0 ι h w ρ o (.sl h.n 0 (n + m) (n + m)) (h1.push (.cells (sub cs off (n * esz) ++ ys) esz el)) := by
             intro h1 S1 hn1 hlt
             obtain ⟨cap, hcap, hr⟩ := jK (P := P) (w := w) (ty := o.type) (x := .slice (some ⟨i.b, i.base + off, none⟩) n c') (y := vy) (n := n) (cp := c') (m := m) (olds := us.toArray) (news := vs.toArray) hu hinf hzv ⟨_, rfl⟩ hsrc (by rw [hsz]; exact hfx) (by rw [hsz]; exact hfy) hlt c4 (by rw [hby]; exact c3)
             rw [show us.toArray ++ vs.toArray = (us ++ vs).toArray by simp] at hr
             exact pz (h := h) hN S1 hn1 c2 (hus.append hvs) (by rw [List.length_append, hsl, hyl, hmul]) hzsz hcap (hrun hr)
            split at hc
            · rename_i ht
              injection hc with hc
              simp only [Prod.mk.injEq] at hc
              obtain ⟨rfl, rfl⟩ := hc
              have := qa hB ht hcc
              exact grow S rfl (by omega)
            · split at hc
              · rename_i hcond2
                simp only [Bool.and_eq_true] at hcond2
                have hme := aW hcond2.1.1
                have hnc := aW hcond2.1.2
                have hte := aW hcond2.2
                injection hc with hc
                simp only [Prod.mk.injEq] at hc
                obtain ⟨rfl, rfl⟩ := hc
                have hwr : (h.get k).wr = true := by rw [hb]; rfl
                by_cases hin : n + m ≤ c'
                · obtain ⟨arr, el2, hgw, hasz, hmc, h4, h5', h6', h7, h7e⟩ := hB
                  rcases hcc with ⟨hcc, _⟩ | ⟨g1, g2, g3⟩
                  · omega
                  · obtain ⟨g4, g5⟩ := g3 (by rw [h6', hme]; omega)
                    rw [h6', hme] at g4 g5
                    have hmc' : (n + m) * esz ≤ c' * esz := Nat.mul_le_mul_right _ hin
                    have hfit2 : i.base + (off + n * esz) + 0 + vs.length ≤ arr.size := by rw [hvl]; omega
                    have hst := run_storeCells_at P i.b (i.base + (off + n * esz)) el2 vs 0 arr w hgw hfit2 hone
                    rw [Nat.add_zero, ← dX _ _ _ (by rw [hvl]; simp; omega)] at hst
                    generalize hW : w.setRow i.b (setAt arr.toList (i.base + (off + n * esz)) vs).toArray = W at hst
                    have hWo : ∀ j, j ≠ i.b → W.heap[j]? = w.heap[j]? := fun j hj => by rw [← hW]; exact setRow_other w i.b j _ hj
                    have hWs : W.heap.size = w.heap.size := by rw [← hW]; simp
                    have hWb : W.heap[i.b]? = some (.cells (setAt arr.toList (i.base + (off + n * esz)) vs).toArray el2 (0, 0)) := by rw [← hW]; exact setRow_heap w i.b arr _ el2 (0, 0) hgw
                    have S1 : Sim N0 ι (h.set k .dead) W := S.wrote hi hwr (.inr rfl) hWs hWo trivial
                    have S2 := S1.push (.cells (sub cs off (n * esz) ++ ys) esz el)
                    have hnn : ι h.n = none := S.none
                    let i2 : cE := ⟨i.b, i.base + off, i.mc - off, esz, (n + m) * esz, true⟩
                    have hge : ((h.set k .dead).push (.cells (sub cs off (n * esz) ++ ys) esz el)).get h.n = .cells (sub cs off (n * esz) ++ ys) esz el := by
                     rw [ag, uP, if_pos rfl]
                    have hdl : (sub cs off (n * esz) ++ ys).length = (n + m) * esz := by rw [List.length_append, hsl, hyl, hmul]
                    have S3 := S2.attach (k := h.n) (by simp) hnn (i := i2) (by show i.b < W.heap.size; rw [hWs]; exact (S.lt k i hi).2) (S.own k i hi hwr) (fun j a' ej hl => by
                     have hjn : j ≠ h.n := fun e => by rw [e, hnn] at ej; cases ej
                     rw [ag, uP, if_neg hjn, Hp.get_set] at hl
                     split at hl
                     · simp [HB.live] at hl
                     · rename_i hjk
                       exact fun e => S.inj k j i a' hi ej (Ne.symm hjk) hwr hl e.symm) (by
                     rw [hge]
                     refine ⟨_, el2, hWb, ?_, ?_, by rw [hdl], ?_, rfl, ?_, h7e.1.trans hte, fun hm => absurd hm (by omega)⟩
                     · show i.base + off + (i.mc - off) ≤ _
                       simp [c7]; omega
                     · rw [hdl]; show _ ≤ i.mc - off; omega
                     · show true = _
                       cases hb0 : Nat.beq esz 0 with
                       | true => have := aW hb0; omega
                       | false => rfl
                     · have h8 : (((setAt arr.toList (i.base + (off + n * esz)) vs).toArray.toList.drop i2.base).take (sub cs off (n * esz) ++ ys).length) = us ++ vs := by
                        show ((setAt arr.toList (i.base + (off + n * esz)) vs).toArray.toList.drop (i.base + off)).take (sub cs off (n * esz) ++ ys).length = us ++ vs
                        rw [hdl, List.toList_toArray, dX _ _ _ (by rw [hvl]; simp; omega)]
                        have hus' : us = (arr.toList.drop (i.base + off)).take (n * esz) := by
                         apply List.ext_getElem?
                         intro j
                         by_cases hj : j < n * esz
                         · have h9 := huc j us[j] (List.getElem?_eq_getElem (by omega))
                           rw [cP, lP hgw] at h9
                           rw [List.getElem?_eq_getElem (by omega), List.getElem?_take, if_pos hj, List.getElem?_drop, Array.getElem?_toList, h9]
                         · rw [List.getElem?_eq_none (by omega), List.getElem?_take, if_neg hj]
                        rw [hus', List.append_assoc, List.drop_append_of_le_length (by simp; omega), ← List.append_assoc, List.drop_take,
                         show i.base + (off + n * esz) - (i.base + off) = n * esz by omega, List.take_append_of_le_length (by simp; omega), List.take_of_length_le (by simp; omega)]
                       rw [h8]
                       exact (hus.append hvs).mono (bE hnn))
                    refine ⟨ι.set h.n i2, W, .inl ⟨.slice (some ⟨i.b, i.base + off, none⟩) (n + m) c', hrun ?_, ?_⟩, bE hnn, jx (Nat.le_refl _), S3, ?_, by simp⟩
                    · skip
                      refine jd hu hinf hsrc (by rw [hsz]; exact hfy w rfl) hin ?_
                      rw [cP, hsz, Nat.add_assoc]; exact hst
                    · have hk : (ι.set h.n i2) h.n = some i2 := by unfold Im.set; rw [if_pos rfl]
                      have := VR.sl (o := 0) (n := n + m) (c := n + m) (c' := c') hk (.inr ⟨rfl, hin, fun _ => ⟨by simp [i2], by show 0 + c' * esz = i.mc - off; omega⟩⟩)
                      simpa [i2] using this
                    · have hN' := S.own k i hi hwr
                      refine ⟨by rw [← hW]; rfl, by rw [← hW]; rfl, by rw [← hW]; rfl, by rw [hWs]; exact Nat.le_refl _, fun b hb => hWo b (by omega), by rw [← hW]; exact Nat.le_refl _⟩
                · have S1 : Sim N0 ι (h.set k .dead) w := S.wrote hi hwr (.inr rfl) rfl (fun _ _ => rfl) trivial
                  exact grow S1 rfl (by omega)
              · cases hc
          · cases hc
        · cases hc
 · cases hc
theorem Fk (S : Sim N0 ι h w) (hN : N0 ≤ w.heap.size) {cl : Call} (he : o.op = .call cl) (hcl : cl.callee = .builtin .append) (hev : ∀ x ∈ o.op.operands.toList, VR ι (e x) (ρ x)) (hc : kl P e h cl.argTypes.toList cl.args.toList = some (c, h')) : Ws P N0 ι h w ρ o c h' := by
 unfold kl at hc
 split at hc
 · rename_i t t' x y hts hxs
   have hargs : cl.args = #[x, y] := by rw [← Array.toArray_toList (xs := cl.args), hxs]
   have hats : cl.argTypes = #[t, t'] := by rw [← Array.toArray_toList (xs := cl.argTypes), hts]
   have hx := hev x (by simp [he, Op.operands, Call.operands, hcl, hargs])
   have hy := hev y (by simp [he, Op.operands, Call.operands, hcl, hargs])
   have hrun : ∀ {v : Value} {w' : World}, (Builtin.append_ #[t, t'] o.type #[ρ x, ρ y]).run P w = .ok v w' → (execOp ρ o).run P w = .ok (.value v) w' := by
    intro v w' hr
    unfold execOp; rw [he]
    simp only [resolve, hcl, hargs, hats, invoke, builtin, Sem.run_bind, Sem.run_pure, Result.andThen_ok, List.map_toArray, List.map_cons, List.map_nil, hr]
   have both : ∀ {el esz bytes : Nat} {z : List CV} {m : Nat} {ys : List CV} {vs : List Value}, ae P t = .slice el esz bytes z → xz P t' (ρ y) m → VRL ι ys vs → vs.length = m * esz → (∀ w', w'.heap = w.heap → (Builtin.firstCells esz m (ρ y)).run P w' = .ok vs.toArray w') → gV h el esz bytes z (e x) m (some ys) = some (c, h') → Ws P N0 ι h w ρ o c h' := by
    intro el esz bytes z m ys vs hty hsrc hvs hvl hfy hc
    obtain ⟨hu, inf, zv, d, hinf, hsz, hby, hzv, rfl, hd⟩ := bT hty
    unfold gV at hc
    split at hc
    · rename_i ys' hys
      injection hys with hys
      subst hys
      split at hc
      · rename_i hcond
        simp only [Bool.and_eq_true] at hcond
        obtain ⟨⟨⟨⟨c0, c1⟩, c2⟩, c3⟩, c4⟩ := hcond
        have c1 := aW c1
        have c2 := cO c2
        have c3 := bv c3
        have c4 := bv c4
        have hzsz : zv.cells.size = esz := by rw [← c1]; simp [bR]
        exact Db S hN hx hu hinf hsz hby hzv hsrc hrun hvs hvl (xA hvs c0) hfy c2 c3 c4 hzsz hc
      · cases hc
    · cases hc
   unfold be at hc
   split at hc
   · rename_i el esz bytes z el' esz' bytes' z' hty hty'
     have hu' := (bT hty').1
     cases hys : cellsOf h esz (e y) with
     | none => rw [hys] at hc; simp [gV] at hc
     | some ys =>
      obtain ⟨a, m, cy, vs, hvy, hvs, hvl, hm, h5, h6⟩ := ic S hy hys
      rw [hys, ← hm] at hc
      have hfy := ie (P := P) (cy := cy) hvl h5 h6
      rw [← hvy] at hfy
      exact both hty (.inl ⟨el', a, cy, hu', hvy⟩) hvs hvl hfy hc
   · rename_i el esz bytes z hty hty'
     split at hc
     · rename_i hes
       have hes := aW hes
       subst hes
       cases hys : e y with
       | st s =>
        rw [hys] at hc hy
        obtain ⟨b, hvy, rfl⟩ := cG hy
        have hl : (bs b).length = b.size := dx b
        simp only [IG, yE] at hc
        refine both (vs := b.data.toList.map fun c => Value.int .u8 (c.toNat : Int)) hty (.inr ⟨b, ef hty', hvy, hl.symm⟩) ?_ ?_ ?_ hc
        · rw [bs, List.map_map]
          exact gY _ _ _ fun c _ => .nu _ _
        · rw [Nat.mul_one, List.length_map, bs, List.length_map]
        · intro w' _
          rw [hvy, hl]
          simp [Builtin.firstCells]
          rw [← Array.toList_map, Array.toArray_toList]
       | _ => rw [hys] at hc; simp [yE, gV] at hc
     · cases hc
   · rename_i el esz bytes z hty hty'
     obtain ⟨hu, inf, zv, d, hinf, hsz, hby, hzv, rfl, hd⟩ := bT hty
     have hu' := gz hty'
     unfold CZ at hc
     split at hc
     · rename_i m hx' hy'
       rw [hx'] at hx
       rw [hy'] at hy
       have hvy := bS hy
       generalize hvx : ρ x = vx at hx
       cases hx
       split at hc
       · rename_i hcond
         simp only [Bool.and_eq_true] at hcond
         obtain ⟨⟨⟨⟨c1, c2⟩, c3⟩, c4⟩, c5⟩ := hcond
         have c1 := aW c1
         have c2 := cO c2
         have c3 := cO c3
         have c4 := bv c4
         have c5 := bv c5
         injection hc with hc
         simp only [Prod.mk.injEq] at hc
         obtain ⟨rfl, rfl⟩ := hc
         have hzsz : zv.cells.size = esz := by rw [← c1]; simp [bR]
         obtain ⟨cap, hcap, hr⟩ := uf (P := P) (w := w) (t := t) (t' := t') (ty := o.type) hu hu' hinf hzv c3 (by rw [hsz]; omega) c5 (by rw [hby]; exact c4)
         refine pz hN S rfl c2 (us := (Builtin.zeroCells zv.cells m).toList) ?_ (by rw [dq, c1]) hzsz hcap (hrun ?_)
         · exact kz ι zv m (m * zv.cells.size) (by simp [bR])
         · rw [hvx, hvy, hr, Array.toArray_toList]
       · cases hc
     · cases hc
   · cases hc
 · cases hc
theorem s8 : ∀ {x y : List Nat}, ga x y = true → x = y
 | [], [], _ => rfl
 | a :: x, b :: y, h => by
  simp only [ga] at h
  split at h
  · rename_i hab
    rw [aW hab, s8 h]
  · cases h
 | [], _ :: _, h => by simp [ga] at h
 | _ :: _, [], h => by simp [ga] at h
theorem IX {a b : CV} (h : iX a b = some true) : a = b := by
 unfold iX at h
 split at h
 · split at h
   · rename_i hk
     obtain rfl := li hk
     injection h with h
     rw [fQ] at h
     rw [of_decide_eq_true h]
   · cases h
 · injection h with h
   rw [s8 h]
 · injection h with h
   rw [beq_iff_eq.1 h]
 · cases h
theorem qW : ∀ {x y : List CV}, cB x y = some true → x = y
 | [], [], _ => rfl
 | a :: x, b :: y, h => by
  simp only [cB] at h
  split at h
  · rename_i hab
    rw [IX hab, qW h]
  · cases h
  · cases h
 | [], _ :: _, h => by simp [cB] at h
 | _ :: _, [], h => by simp [cB] at h
theorem Dc {c : CV} {v v' : Value} (hu : pq c = true) (h : VR ι c v) (h' : VR ι c v') : v = v' := by
 cases c <;> first | (simp [pq] at hu; done) | skip
 · rw [dF h, dF h']
 · rw [bS h, bS h']
 · obtain ⟨x, rfl, hx⟩ := yH h
   obtain ⟨y, rfl, hy⟩ := yH h'
   have : x.data.toList = y.data.toList := by
    rw [← hy] at hx
    exact List.map_inj_right (fun a b hab => UInt8.toNat_inj.1 hab) |>.1 hx
   have : x.data = y.data := Array.toList_inj.1 this
   cases x; cases y; simp_all
theorem s9 : ∀ {cs : List CV} {vs vs' : List Value}, cs.all pq = true → VRL ι cs vs → VRL ι cs vs' → vs = vs'
 | [], vs, vs', _, h, h' => by
  rw [List.eq_nil_of_length_eq_zero h.1, List.eq_nil_of_length_eq_zero h'.1]
 | c :: cs, [], vs', _, h, _ => by have := h.1; simp at this
 | c :: cs, _ :: _, [], _, _, h => by have := h.1; simp at this
 | c :: cs, v :: vs, v' :: vs', hu, h, h' => by
  simp only [List.all_cons, Bool.and_eq_true] at hu
  rw [Dc hu.1 (VRL.tail h).1 (VRL.tail h').1, s9 hu.2 (VRL.tail h).2 (VRL.tail h').2]
theorem Sim.attachR (S : Sim N0 ι h w) {k : Nat} (hk : k < h.n) (hn : ι k = Option.none) {i : cE} (hib : i.b < w.heap.size) (hwr : (h.get k).wr = false) (hne : ∀ j a, ι j = some a → (h.get j).wr = true → a.b ≠ i.b) (hb : BR (ι.set k i) i w (h.get k)) : Sim N0 (ι.set k i) h w := by
 refine ⟨fun j i' e => ?_, fun j i' e hw => ?_, S.fresh, fun j i' e => ?_, fun j j' a a' e e' hjj h1 h2 => ?_⟩
 · unfold Im.set at e; split at e
   · rename_i e'; subst e'; injection e with e; subst e; exact ⟨hk, hib⟩
   · exact S.lt j i' e
 · unfold Im.set at e; split at e
   · rename_i e'; subst e'; rw [hwr] at hw; cases hw
   · exact S.own j i' e hw
 · unfold Im.set at e; split at e
   · rename_i e'; subst e'; injection e with e; subst e; exact hb
   · exact (S.blk j i' e).mono (bE hn) rfl
 · unfold Im.set at e e'
   split at e
   · rename_i e1; subst e1; rw [hwr] at h1; cases h1
   · split at e'
     · injection e' with e'; subst e'
       exact hne j a e h1
     · exact S.inj j j' a a' e e' hjj h1 h2
theorem Sim.same {w' : World} (S : Sim N0 ι h w) (hs : w'.heap.size = w.heap.size) (hh : ∀ j : Nat, w'.heap[j]? = w.heap[j]?) : Sim N0 ι h w' :=
 ⟨fun k i e => ⟨(S.lt k i e).1, by rw [hs]; exact (S.lt k i e).2⟩, S.own, S.fresh, fun k i e => (S.blk k i e).mono (Im.le_refl ι) (hh _), S.inj⟩
theorem FX {h1 : Hp} (hN : N0 ≤ w.heap.size) (S1 : Sim N0 ι h1 w) (hn1 : h1.n = h.n) {len : Nat} {ds : List CV} {us : List Value} (hv : VRL ι ds us) {zs : Array Value} {cap : Nat} (hcap : len ≤ cap) {el : TypeId}
  (hrun : (execOp ρ o).run P w = .ok (.value (.slice (some ⟨w.heap.size, 0, none⟩) len cap)) (w.drew.alloc (.cells (us.toArray ++ zs) el))) :
  Ws P N0 ι h w ρ o (.sl h.n 0 len len) (h1.push (.ro ds)) := by
 have hnn : ι h1.n = Option.none := S1.none
 let i : cE := ⟨w.heap.size, 0, 0, 0, 0, true⟩
 have hnew : (w.drew.alloc (.cells (us.toArray ++ zs) el)).heap[w.heap.size]? = some (.cells (us.toArray ++ zs) el (0, 0)) := heap_alloc_new w.drew _
 have hS := (S1.push (.ro ds)).laid hN (k := h1.n) (by simp) hnn (w' := w.drew.alloc (.cells (us.toArray ++ zs) el)) (by simp) (fun b hb => heap_alloc_old w.drew _ b hb) (i := i) rfl (by
  rw [ag, if_pos rfl]
  refine ⟨_, el, _, hnew, rfl, rfl, ?_⟩
  have h4 : ((us.toArray ++ zs).toList.drop i.base).take ds.length = us := by
   simp only [i, List.drop_zero, Array.toList_append]
   rw [List.take_append_of_le_length (by simp [hv.1]), List.take_of_length_le (by simp [hv.1])]
  rw [h4]; exact hv.mono (bE hnn))
 have hle : ι.le (ι.set h1.n i) := bE hnn
 refine ⟨ι.set h1.n i, _, .inl ⟨_, hrun, ?_⟩, hle, jx (by omega), hS, ⟨rfl, rfl, rfl, by simp, fun b hb => ?_, HK.mono (Nat.le_succ _)⟩, by rw [kq]; omega⟩
 · have hk : (ι.set h1.n i) h.n = some i := by unfold Im.set; rw [if_pos hn1.symm]
   have := VR.sl (o := 0) (n := len) (c := len) (c' := cap) hk (.inr ⟨rfl, hcap, fun hz => absurd rfl hz⟩)
   simpa [i] using this
 · rw [heap_alloc_old w.drew _ b (by show b < w.heap.size; omega)]; rfl
theorem ta (arr : List Value) (a : Nat) (vs : List Value) (h : a + vs.length ≤ arr.length) {o m : Nat} (ho : o + m ≤ a) : ((setAt arr a vs).drop o).take m = (arr.drop o).take m := by
 rw [dX _ _ _ h]
 apply List.ext_getElem?
 intro j
 rw [List.getElem?_take, List.getElem?_take]
 split
 · rw [List.getElem?_drop, List.getElem?_drop, List.append_assoc, List.getElem?_append_left (by simp; omega), List.getElem?_take, if_pos (by omega)]
 · rfl
theorem tb (arr : List Value) (a : Nat) (vs : List Value) (h : a + vs.length ≤ arr.length) : ((setAt arr a vs).drop a).take vs.length = vs := by
 rw [dX _ _ _ h, List.append_assoc, List.drop_append_of_le_length (by simp; omega), List.drop_take, Nat.sub_self, List.take_zero, List.nil_append, List.take_append_of_le_length (Nat.le_refl _), List.take_of_length_le (Nat.le_refl _)]
theorem Lw (S : Sim N0 ι h w) (hN : N0 ≤ w.heap.size) {cl : Call} (he : o.op = .call cl) (hcl : cl.callee = .builtin .append) (hev : ∀ x ∈ o.op.operands.toList, VR ι (e x) (ρ x)) (hc : og P e h cl.argTypes.toList cl.args.toList = some (c, h')) : Ws P N0 ι h w ρ o c h' := by
 unfold og at hc
 split at hc
 · rename_i t t' x y hts hxs
   have hargs : cl.args = #[x, y] := by rw [← Array.toArray_toList (xs := cl.args), hxs]
   have hats : cl.argTypes = #[t, t'] := by rw [← Array.toArray_toList (xs := cl.argTypes), hts]
   have hx := hev x (by simp [he, Op.operands, Call.operands, hcl, hargs])
   have hy := hev y (by simp [he, Op.operands, Call.operands, hcl, hargs])
   have hrun : ∀ {v : Value} {w' : World}, (Builtin.append_ #[t, t'] o.type #[ρ x, ρ y]).run P w = .ok v w' → (execOp ρ o).run P w = .ok (.value v) w' := by
    intro v w' hr
    unfold execOp; rw [he]
    simp only [resolve, hcl, hargs, hats, invoke, builtin, Sem.run_bind, Sem.run_pure, Result.andThen_ok, List.map_toArray, List.map_cons, List.map_nil, hr]
   unfold II at hc
   split at hc
   · rename_i el esz bytes z el' esz' bytes' z' hty hty'
     obtain ⟨hu, inf, zv, d, hinf, hsz, hby, hzv, rfl, hd⟩ := bT hty
     have hu' := (bT hty').1
     split at hc
     · rename_i ys hys
       split at hc
       · rename_i hcond
         simp only [Bool.and_eq_true] at hcond
         obtain ⟨⟨⟨⟨c0, c1⟩, c2⟩, c3⟩, c4⟩ := hcond
         have c1 := aW c1
         have c2 := cO c2
         have c3 := bv c3
         have c4 := bv c4
         obtain ⟨a, m, cy, vs, hvy, hvs, hvl, hm, h5, h6⟩ := ic S hy hys
         have hone := xA hvs c0
         rw [← hm] at hc c3 c4
         have hfy := ie (P := P) (cy := cy) hvl h5 h6
         have hsrc : xz P t' (ρ y) m := .inl ⟨el', a, cy, hu', hvy⟩
         rw [← hvy] at hfy
         have hyl : ys.length = m * esz := by rw [← hvs.1, hvl]
         unfold Fc at hc
         split at hc
         · rename_i k off n cp hx'
           rw [hx'] at hx c3 c4
           generalize hvx : ρ x = vx at hx
           cases hx with
           | @sl _ _ _ _ c' i hi hcc =>
            simp only [lenV] at c3 c4
            have hmul : (n + m) * esz = n * esz + m * esz := Nat.add_mul _ _ _
            have hnn : ι h.n = Option.none := S.none
            have hB := S.blk k i hi
            have main : ∀ (cs : List CV), off + n * esz = cs.length → n = cp → 0 < n → i.esz = esz → i.size = cs.length → (∃ us, VRL ι (sub cs off (n * esz)) us ∧ us.length = n * esz ∧ ∀ j u, us[j]? = some u → w.cell? ((⟨i.b, i.base + off, none⟩ : Addr).add j) = some u) →
             (c' < n + m → i.mc < cs.length + ys.length) ∧ (n + m ≤ c' → off + (n + m) * esz ≤ i.mc) ∧ ∃ us, VRL ι (sub cs off (n * esz)) us ∧ us.length = n * esz ∧ (∀ j u, us[j]? = some u → w.cell? ((⟨i.b, i.base + off, none⟩ : Addr).add j) = some u) ∧
             (∀ {h1 : Hp}, Sim N0 ι h1 w → h1.n = h.n → c' < n + m → Ws P N0 ι h w ρ o (.sl h.n 0 (n + m) (n + m)) (h1.push (.ro (sub cs off (n * esz) ++ ys)))) := by
             intro cs e1 e3 e4 e5 e6 ⟨us, hus, hul, huc⟩
             have hright : off + cp * esz = i.size ∧ off + c' * esz = i.mc := by
              rcases hcc with ⟨_, g0⟩ | ⟨_, _, g3⟩
              · have := g0 (by omega) (by omega)
                rw [e5, e6, ← e3] at this
                exact absurd e1 this
              · have := g3 (by omega)
                rw [e5] at this
                exact this
             refine ⟨fun hlt => ?_, fun hin => ?_, us, hus, hul, huc, ?_⟩
             · have : (c' + 1) * esz ≤ (n + m) * esz := Nat.mul_le_mul_right _ hlt
               rw [Nat.add_mul] at this
               have := hright.2
               omega
             · have : (n + m) * esz ≤ c' * esz := Nat.mul_le_mul_right _ hin
               have := hright.2
               omega
             · intro h1 S1 hn1 hlt
               have hfx : ∀ w', w'.heap = w.heap → (Builtin.firstCells esz n (.slice (some ⟨i.b, i.base + off, none⟩) n c')).run P w' = .ok us.toArray w' := ie hul (fun j u hu => ⟨_, rfl, huc j u hu⟩) (fun hn => by cases hn)
               obtain ⟨cap, hcap, hr⟩ := jK (P := P) (w := w) (ty := o.type) (x := .slice (some ⟨i.b, i.base + off, none⟩) n c') (y := ρ y) (n := n) (cp := c') (m := m) (olds := us.toArray) (news := vs.toArray) hu hinf hzv ⟨_, rfl⟩ hsrc (by rw [hsz]; exact hfx) (by rw [hsz]; exact hfy) hlt c4 (by rw [hby]; exact c3)
               rw [← hvx, show us.toArray ++ vs.toArray = (us ++ vs).toArray by simp] at hr
               exact FX (h := h) hN S1 hn1 (hus.append hvs) hcap (hrun hr)
            have place : ∀ (cs : List CV) (h1 : Hp) (W : World) (us : List Value) (arr : Array Value) (el2 : TypeId), off + n * esz = cs.length → n + m ≤ c' → h1.n = h.n → Sim N0 ι h1 W → W.heap.size = w.heap.size → Ext N0 w W → VRL ι (sub cs off (n * esz)) us → us.length = n * esz →
             (∀ j a, ι j = some a → (h1.get j).wr = true → a.b ≠ i.b) → W.heap[i.b]? = some (.cells arr el2 (0, 0)) → (arr.toList.drop (i.base + off)).take ((n + m) * esz) = us ++ vs →
             (execOp ρ o).run P w = .ok (.value (.slice (some ⟨i.b, i.base + off, none⟩) (n + m) c')) W → Ws P N0 ι h w ρ o (.sl h.n 0 (n + m) (n + m)) (h1.push (.ro (sub cs off (n * esz) ++ ys))) := by
             intro cs h1 W us arr el2 e1 hin hn1 S1 hWs hE hus hul hne hWb hcells hr
             have hnn1 : ι h1.n = Option.none := S1.none
             let i2 : cE := ⟨i.b, i.base + off, 0, 0, 0, true⟩
             have S2 := S1.push (.ro (sub cs off (n * esz) ++ ys))
             have hge : (h1.push (.ro (sub cs off (n * esz) ++ ys))).get h1.n = .ro (sub cs off (n * esz) ++ ys) := by rw [ag, if_pos rfl]
             have hsl : (sub cs off (n * esz)).length = n * esz := by rw [← hus.1, hul]
             have S3 := S2.attachR (k := h1.n) (by simp) hnn1 (i := i2) (by show i.b < W.heap.size; rw [hWs]; exact (S.lt k i hi).2) (by rw [hge]; rfl) (fun j a' ej hw => by
              have hjn : j ≠ h1.n := fun e => by rw [e, hnn1] at ej; cases ej
              rw [ag, if_neg hjn] at hw
              exact hne j a' ej hw) (by
              rw [hge]
              refine ⟨arr, el2, _, hWb, rfl, rfl, ?_⟩
              have hl : (sub cs off (n * esz) ++ ys).length = (n + m) * esz := by rw [List.length_append, hsl, hyl, hmul]
              show VRL _ _ ((arr.toList.drop (i.base + off)).take _)
              rw [hl, hcells]
              exact (hus.append hvs).mono (bE hnn1))
             refine ⟨ι.set h1.n i2, W, .inl ⟨_, hr, ?_⟩, bE hnn1, jx (by omega), S3, hE, by simp; omega⟩
             have hk : (ι.set h1.n i2) h.n = some i2 := by unfold Im.set; rw [if_pos hn1.symm]
             have := VR.sl (o := 0) (n := n + m) (c := n + m) (c' := c') hk (.inr ⟨rfl, hin, fun hz => absurd rfl hz⟩)
             simpa [i2] using this
            have heads : ∀ (cs : List CV) (us : List Value) (arr : Array Value) (el2 : TypeId), us.length = n * esz → (∀ j u, us[j]? = some u → w.cell? ((⟨i.b, i.base + off, none⟩ : Addr).add j) = some u) → w.heap[i.b]? = some (.cells arr el2 (0, 0)) → us = (arr.toList.drop (i.base + off)).take (n * esz) := by
             intro cs us arr el2 hul huc hgw
             apply List.ext_getElem?
             intro j
             by_cases hj : j < n * esz
             · have h9 := huc j us[j] (List.getElem?_eq_getElem (by omega))
               rw [cP, lP hgw] at h9
               rw [List.getElem?_eq_getElem (by omega), List.getElem?_take, if_pos hj, List.getElem?_drop, Array.getElem?_toList, h9]
             · rw [List.getElem?_eq_none (by omega), List.getElem?_take, if_neg hj]
            unfold Fb at hc
            split at hc
            · rename_i cs aO te hb
              rw [hb] at hB
              split at hc
              · rename_i hcond
                simp only [Bool.and_eq_true] at hcond
                obtain ⟨⟨⟨⟨⟨e1, e2⟩, e3⟩, e4⟩, e5⟩, e6⟩ := hcond
                have e1 := aW e1
                have e2 := aW e2
                have e3 := aW e3
                have e4 := cO e4
                injection hc with hc
                simp only [Prod.mk.injEq] at hc
                obtain ⟨rfl, rfl⟩ := hc
                have hB' := hB
                obtain ⟨arr, el2, hgw, hasz, hmc, h4, h5', h6', h7, h7e⟩ := hB'
                have hopn : i.opn = true := by
                 rw [h5', e2]
                 cases hb0 : Nat.beq esz 0 with
                 | true => have := aW hb0; omega
                 | false => rfl
                have hwr : (h.get k).wr = true := by rw [hb]; rfl
                obtain ⟨m1, m2, us, hus, hul, huc, grow⟩ := main cs e1 e3 e4 (h6'.trans e2) h4 (hB.sub (o := off) (n := n * esz) (cs := sub cs off (n * esz)) (by simp only [bk]; rw [e1, Nat.ble_eq_true_of_le (Nat.le_refl _)]))
                by_cases hin : n + m ≤ c'
                · have hmc' := m2 hin
                  have hfit2 : i.base + (off + n * esz) + 0 + vs.length ≤ arr.size := by rw [hvl]; omega
                  have hst := run_storeCells_at P i.b (i.base + (off + n * esz)) el2 vs 0 arr w hgw hfit2 hone
                  rw [Nat.add_zero, ← dX _ _ _ (by rw [hvl]; simp; omega)] at hst
                  have hfl : i.base + (off + n * esz) + vs.length ≤ arr.toList.length := by rw [hvl]; simp; omega
                  generalize hW : w.setRow i.b (setAt arr.toList (i.base + (off + n * esz)) vs).toArray = W at hst
                  have hWo : ∀ j, j ≠ i.b → W.heap[j]? = w.heap[j]? := fun j hj => by rw [← hW]; exact setRow_other w i.b j _ hj
                  have hWs : W.heap.size = w.heap.size := by rw [← hW]; simp
                  have hWb : W.heap[i.b]? = some (.cells (setAt arr.toList (i.base + (off + n * esz)) vs).toArray el2 (0, 0)) := by rw [← hW]; exact setRow_heap w i.b arr _ el2 (0, 0) hgw
                  have hN' := S.own k i hi hwr
                  have S1 : Sim N0 ι (h.set k (.kp cs ys aO)) W := S.put hi hwr hWs hWo (by
                   refine ⟨_, el2, hWb, by simp [c7]; omega, hmc, h4, hopn, h6', ?_, e6, fun _ => ?_⟩
                   · rw [List.toList_toArray, ta _ _ _ hfl (by omega)]; exact h7
                   · rw [List.toList_toArray, ← e1, hyl, ← hvl, tb _ _ _ hfl]; exact hvs)
                  refine place cs _ W us _ el2 e1 hin rfl S1 hWs ⟨by rw [← hW]; rfl, by rw [← hW]; rfl, by rw [← hW]; rfl, by rw [hWs]; exact Nat.le_refl _, fun b hb => hWo b (by omega), by rw [← hW]; exact Nat.le_refl _⟩ hus hul (fun j a' ej hw => ?_) hWb ?_ (hrun ?_)
                  · rw [Hp.get_set] at hw
                    split at hw
                    · simp [HB.wr] at hw
                    · rename_i hjk
                      have hl : (h.get j).live = true := by cases hd : h.get j <;> rw [hd] at hw <;> first | rfl | (simp [HB.wr] at hw)
                      exact fun e => S.inj k j i a' hi ej (Ne.symm hjk) hwr hl e.symm
                  · rw [List.toList_toArray, hmul]
                    have h8 := ta arr.toList (i.base + (off + n * esz)) vs hfl (o := i.base + off) (m := n * esz) (by omega)
                    have h9 := tb arr.toList (i.base + (off + n * esz)) vs hfl
                    rw [← heads cs us arr el2 hul huc hgw] at h8
                    rw [List.take_add, h8, List.drop_drop, show i.base + off + n * esz = i.base + (off + n * esz) by omega, ← hvl, h9]
                  · rw [hvx]
                    refine jd hu hinf hsrc (by rw [hsz]; exact hfy w rfl) hin ?_
                    rw [cP, hsz, Nat.add_assoc]; exact hst
                · have S1 : Sim N0 ι (h.set k (.kp cs ys aO)) w := S.put hi hwr rfl (fun _ _ => rfl) ⟨arr, el2, hgw, hasz, hmc, h4, hopn, h6', h7, e6, fun hh => absurd (m1 (by omega)) (by omega)⟩
                  exact grow S1 rfl (by omega)
              · cases hc
            · rename_i cs zs aO hb
              rw [hb] at hB
              split at hc
              · rename_i hcond
                simp only [Bool.and_eq_true] at hcond
                obtain ⟨⟨⟨⟨e1, e2⟩, e3⟩, e4⟩, e5⟩ := hcond
                have e1 := aW e1
                have e2 := aW e2
                have e3 := aW e3
                have e4 := cO e4
                split at hc
                · rename_i hyz
                  have hyz := qW hyz
                  subst hyz
                  injection hc with hc
                  simp only [Prod.mk.injEq] at hc
                  obtain ⟨rfl, rfl⟩ := hc
                  have hB' := hB
                  obtain ⟨arr, el2, hgw, hasz, hmc, h4, hopn, hez, h7, e6, hbh⟩ := hB'
                  have hse : i.esz = esz := hez.trans e2
                  obtain ⟨m1, m2, us, hus, hul, huc, grow⟩ := main cs e1 e3 e4 hse h4 (hB.sub (o := off) (n := n * esz) (cs := sub cs off (n * esz)) (by simp only [bk]; rw [e1, Nat.ble_eq_true_of_le (Nat.le_refl _)]))
                  by_cases hin : n + m ≤ c'
                  · have hmc' := m2 hin
                    have hold := hbh (by rw [hyl]; omega)
                    have hvv := s9 e6 hold hvs
                    have hfit2 : i.base + (off + n * esz) + 0 + vs.length ≤ arr.size := by rw [hvl]; omega
                    have hst := run_storeCells_at P i.b (i.base + (off + n * esz)) el2 vs 0 arr w hgw hfit2 hone
                    rw [Nat.add_zero, ← dX _ _ _ (by rw [hvl]; simp; omega)] at hst
                    have hfl : i.base + (off + n * esz) + vs.length ≤ arr.toList.length := by rw [hvl]; simp; omega
                    have hsame : setAt arr.toList (i.base + (off + n * esz)) vs = arr.toList := by
                     rw [dX _ _ _ hfl]
                     rw [← e1, hyl] at hvv
                     conv => rhs; rw [← List.take_append_drop (i.base + (off + n * esz)) arr.toList, ← List.take_append_drop (m * esz) (arr.toList.drop (i.base + (off + n * esz))), hvv, List.drop_drop, ← hvl]
                     rw [List.append_assoc]
                    rw [hsame] at hst
                    generalize hW : w.setRow i.b arr.toList.toArray = W at hst
                    have hWs : W.heap.size = w.heap.size := by rw [← hW]; simp
                    have hWb : W.heap[i.b]? = some (.cells arr el2 (0, 0)) := by rw [← hW]; have := setRow_heap w i.b arr arr.toList.toArray el2 (0, 0) hgw; simpa using this
                    have hWa : ∀ j, W.heap[j]? = w.heap[j]? := fun j => by
                     by_cases hj : j = i.b
                     · rw [hj, hWb, hgw]
                     · rw [← hW]; exact setRow_other w i.b j _ hj
                    refine place cs _ W us arr el2 e1 hin rfl (S.same hWs hWa) hWs ⟨by rw [← hW]; rfl, by rw [← hW]; rfl, by rw [← hW]; rfl, by rw [hWs]; exact Nat.le_refl _, fun b hb => hWa b, by rw [← hW]; exact Nat.le_refl _⟩ hus hul (fun j a' ej hw => ?_) hWb ?_ (hrun ?_)
                    · have hjk : j ≠ k := fun e => by rw [e, hb] at hw; simp [HB.wr] at hw
                      exact S.inj j k a' i ej hi hjk hw (by rw [hb]; rfl)
                    · rw [hmul, List.take_add, ← heads cs us arr el2 hul huc hgw, List.drop_drop, show i.base + off + n * esz = i.base + cs.length by omega, ← hyl, hvv]
                    · rw [hvx]
                      refine jd hu hinf hsrc (by rw [hsz]; exact hfy w rfl) hin ?_
                      rw [cP, hsz, Nat.add_assoc]; exact hst
                  · exact grow S rfl (by omega)
                · cases hc
              · cases hc
            · cases hc
         · cases hc
       · cases hc
     · cases hc
   · cases hc
 · cases hc
theorem Dd {pe : TypeId} (hc : P.cellsOf pe = 1) (count off n : Nat) (h : off + n ≤ count) : liesAt P P.depth pe count off pe n = true := by
 have hd : ∃ d, P.depth = d + 1 := ⟨_, rfl⟩
 obtain ⟨d, hd⟩ := hd
 rw [hd]
 have h1 : sameLayout P (d + 1) pe pe = true := by simp [sameLayout]
 have h2 : rowAt P (sameLayout P (d + 1) · pe) (d + 1) pe count off n = true := by
  simp [rowAt, hc, h, h1, Nat.mod_one]
 simp [liesAt, hd, h2]
theorem De (w : World) {pt it ty pe : TypeId} (hp : P.underlying pt = some (.pointer pe)) (hc : P.cellsOf pe = 1) (g off cells : Nat) (hsh : w.shape? g = some (pe, cells)) (l : List UInt8) (h0 : l ≠ []) (hn : off + l.length ≤ cells) (h63 : l.length ≤ 9223372036854775807)
  (hcell : ∀ j x, l[j]? = some x → w.cell? ((⟨g, off, none⟩ : Addr).add j) = some (.int .u8 x.toNat)) :
  (Builtin.unsafeString_ #[pt, it] ty #[.pointer (some ⟨g, off, none⟩), .int .i64 l.length]).run P w = .ok (.string ⟨l.toArray⟩) (w.freeze ⟨g, off, none⟩ l.length) := by
 have hl : l.length ≠ 0 := by simpa using h0
 have hlb := Lib.run_loadBytes (P := P) w l ⟨g, off, none⟩ .empty hcell
 have hlies := Dd (P := P) hc (cells / P.cellsOf pe) off l.length (by rw [hc]; simpa using hn)
 have h63' : ¬ (9223372036854775807 : Int) < (l.length : Int) := by omega
 have hdef : ∃ s1 s2 s3 : String, Builtin.unsafeString_ #[pt, it] ty #[.pointer (some ⟨g, off, none⟩), .int .i64 l.length] =
   (do
     let n ← asInt (.int .i64 l.length)
     if n < 0 then runtimePanic (.error s1)
     if n > IntKind.i64.max then unsupported (.unsafePointer s2)
     if n = 0 then pure (.string .empty)
     else if ← variablesAt ⟨g, off, none⟩ (← elemOf pt) n.toNat then do
      let s ← loadBytes ⟨g, off, none⟩ .empty n.toNat
      freeze ⟨g, off, none⟩ n.toNat
      pure (.string s)
     else unsupported (.unsafePointer s3)) := ⟨_, _, _, rfl⟩
 obtain ⟨s1, s2, s3, hdef⟩ := hdef
 rw [hdef]
 have hmax : IntKind.i64.max = 9223372036854775807 := rfl
 have hneg : ¬ (l.length : Int) < 0 := by omega
 simp [asInt, asIntOf, hmax, h63', hneg, hl, variablesAt, hsh, elemOf, run_underlying hp, hlies, hlb]
theorem IY (S : Sim N0 ι h w) {cl : Call} (he : o.op = .call cl) (hcl : cl.callee = .builtin .unsafeString) (hev : ∀ x ∈ o.op.operands.toList, VR ι (e x) (ρ x)) (hc : lg P e h cl.argTypes.toList cl.args.toList = some (c, h')) : Ws P N0 ι h w ρ o c h' := by
 unfold lg at hc
 split at hc
 · rename_i t t' x y hts hxs
   have hargs : cl.args = #[x, y] := by rw [← Array.toArray_toList (xs := cl.args), hxs]
   have hats : cl.argTypes = #[t, t'] := by rw [← Array.toArray_toList (xs := cl.argTypes), hts]
   have hx := hev x (by simp [he, Op.operands, Call.operands, hcl, hargs])
   have hy := hev y (by simp [he, Op.operands, Call.operands, hcl, hargs])
   have hrun : ∀ {v : Value} {w' : World}, (Builtin.unsafeString_ #[t, t'] o.type #[ρ x, ρ y]).run P w = .ok v w' → (execOp ρ o).run P w = .ok (.value v) w' := by
    intro v w' hr
    unfold execOp; rw [he]
    simp only [resolve, hcl, hargs, hats, invoke, builtin, Sem.run_bind, Sem.run_pure, Result.andThen_ok, List.map_toArray, List.map_cons, List.map_nil, hr]
   unfold Fe at hc
   split at hc
   · rename_i pe hty
     have hu := jv hty
     split at hc
     · rename_i n hy'
       rw [hy'] at hy
       have hvy := bS hy
       have empty : ∀ {p : Option Addr}, ρ x = .pointer p → n = 0 → some (CV.st [], h) = some (c, h') → Ws P N0 ι h w ρ o c h' := by
        intro p hvx hn hc
        injection hc with hc
        simp only [Prod.mk.injEq] at hc
        obtain ⟨rfl, rfl⟩ := hc
        refine ⟨ι, w, .inl ⟨_, hrun (v := .string .empty) ?_, p7 ι .empty⟩, Im.le_refl ι, fun _ _ hk => hk, S, Ext.refl _ _, Nat.le_refl _⟩
        rw [hvx, hvy, hn]
        exact Lib.run_unsafeString_none (P := P) w t t' o.type p
       split at hc
       · rename_i hx'
         rw [hx'] at hx
         generalize hvx : ρ x = vx at hx
         cases hx
         split at hc
         · rename_i hn
           exact empty hvx (aW hn) hc
         · cases hc
       · rename_i k off hx'
         rw [hx'] at hx
         obtain ⟨i, hi, hvx⟩ := cN hx
         split at hc
         · rename_i hn
           exact empty hvx (aW hn) hc
         · rename_i hn
           have hn := jG hn
           have hB := S.blk k i hi
           unfold zR at hc
           split at hc
           · rename_i cs aO el hb
             rw [hb] at hB
             split at hc
             · rename_i hcond
               simp only [Bool.and_eq_true] at hcond
               obtain ⟨⟨⟨⟨c1, c2⟩, c3⟩, c4⟩, c5⟩ := hcond
               have c1 := aW c1
               have c2 := aW c2
               have c5 := bv c5
               subst c1
               injection hc with hc
               simp only [Prod.mk.injEq] at hc
               obtain ⟨rfl, rfl⟩ := hc
               obtain ⟨us, hus, hul, huc⟩ := hB.sub (o := off) (n := n) (cs := sub cs off n) (by simp only [bk]; rw [c3])
               have c3 := bv c3
               obtain ⟨h7, h8⟩ := lR hus c4
               obtain ⟨arr, el2, hg, hasz, hmc, h4, h5, h6, hv, rfl, _⟩ := hB
               generalize hl : (((sub cs off n).map gH).map fun m => UInt8.ofNat m) = l
               have hll : l.length = n := by rw [← hl, List.length_map, List.length_map, ← hus.1, hul]
               have hlb : bs ⟨l.toArray⟩ = (sub cs off n).map gH := by
                rw [← hl]
                have hid : ∀ l : List Nat, (∀ m ∈ l, m < 256) → (l.map fun m => UInt8.ofNat m).map (·.toNat) = l := by
                 intro l hl'
                 rw [List.map_map]
                 conv => rhs; rw [← List.map_id l]
                 exact List.map_congr_left fun m hm => by simp [Nat.mod_eq_of_lt (hl' m hm)]
                exact hid _ h8
               have hr := De (P := P) w (it := t') (ty := o.type) hu c2 i.b (i.base + off) arr.size (by simp [World.shape?, hg]) l (by intro e1; rw [e1] at hll; exact hn hll.symm) (by rw [hll]; omega) (by rw [hll]; exact c5) (fun j x hj => by
                refine huc j _ ?_
                rw [h7, ← hlb]
                simp [bs, hj])
               rw [hll] at hr
               have hwr : (h.get k).wr = true := by rw [hb]; rfl
               have hN' := S.own k i hi hwr
               have hS : Sim N0 ι (h.set k (.fz cs)) (w.freeze ⟨i.b, i.base + off, none⟩ n) := by
                refine S.put hi hwr ?_ (fun j hj => ?_) ?_
                · simp [World.freeze, hn]
                · simp only [World.freeze, if_neg hn]
                  rw [Array.getElem?_modify, if_neg (Ne.symm hj)]
                · refine ⟨arr, el2, (World.freeze w ⟨i.b, i.base + off, none⟩ n).heap[i.b]?.casesOn (0, 0) (fun ob => match ob with | .cells _ _ f => f | _ => (0, 0)), ?_, hv⟩
                  simp only [World.freeze, if_neg hn]
                  rw [Array.getElem?_modify, if_pos rfl, hg]
                  simp
               refine ⟨ι, _, .inl ⟨_, hrun (by rw [hvx, hvy]; exact hr), ?_⟩, Im.le_refl ι, fun _ _ hk => hk, hS, ⟨?_, ?_, ?_, ?_, fun b hb' => ?_, ?_⟩, Nat.le_refl _⟩
               · rw [← hlb]; exact p7 ι _
               · simp [World.freeze, hn]
               · simp [World.freeze, hn]
               · simp [World.freeze, hn]
               · simp [World.freeze, hn]
               · simp only [World.freeze, if_neg hn]
                 rw [Array.getElem?_modify, if_neg (by omega)]
               · simp [World.freeze, hn]
             · cases hc
           · cases hc
       · cases hc
     · cases hc
   · cases hc
 · cases hc
theorem xB {z : List CV} (h : z.all CV.one = true) : ∀ n, (dG z n).all CV.one = true
 | 0 => rfl
 | n + 1 => by rw [dG, List.all_append, h, xB h n]; rfl
theorem Lx (S : Sim N0 ι h w) {cl : Call} (he : o.op = .call cl) (hcl : cl.callee = .builtin .clear) (hev : ∀ x ∈ o.op.operands.toList, VR ι (e x) (ρ x)) (hc : oh P e h cl.argTypes.toList cl.args.toList = some (c, h')) : Ws P N0 ι h w ρ o c h' := by
 unfold oh at hc
 split at hc
 · rename_i t x hts hxs
   have hargs : cl.args = #[x] := by rw [← Array.toArray_toList (xs := cl.args), hxs]
   have hats : cl.argTypes = #[t] := by rw [← Array.toArray_toList (xs := cl.argTypes), hts]
   have hx := hev x (by simp [he, Op.operands, Call.operands, hcl, hargs])
   have hrun : ∀ {v : Value} {w' : World}, (Builtin.clear_ #[t] o.type #[ρ x]).run P w = .ok v w' → (execOp ρ o).run P w = .ok (.value v) w' := by
    intro v w' hr
    unfold execOp; rw [he]
    simp only [resolve, hcl, hargs, hats, invoke, builtin, Sem.run_bind, Sem.run_pure, Result.andThen_ok, List.map_toArray, List.map_cons, List.map_nil, hr]
   unfold IJ at hc
   split at hc
   · rename_i el esz bytes z hty
     obtain ⟨hu, inf, zv, d, hinf, hsz, hby, hz, hzz, hd⟩ := bT hty
     have stay : (Builtin.clear_ #[t] o.type #[ρ x]).run P w = .ok (.tuple #[]) w → some (CV.tup [], h) = some (c, h') → Ws P N0 ι h w ρ o c h' := by
      intro hr hc
      injection hc with hc
      simp only [Prod.mk.injEq] at hc
      obtain ⟨rfl, rfl⟩ := hc
      exact ⟨ι, w, .inl ⟨_, hrun hr, ee (VRL.nil ι)⟩, Im.le_refl ι, fun _ _ hk => hk, S, Ext.refl _ _, Nat.le_refl _⟩
     split at hc
     · rename_i hx'
       rw [hx'] at hx
       generalize hv : ρ x = v at hx stay
       cases hx
       exact stay (by simp [Builtin.clear_, ap hu]) hc
     · rename_i hx'
       rw [hx'] at hx
       generalize hv : ρ x = v at hx stay
       cases hx
       exact stay (by simp [Builtin.clear_, ap hu]) hc
     · rename_i k off n cp hx'
       rw [hx'] at hx
       generalize hv : ρ x = v at hx stay hrun
       cases hx with
       | @sl _ _ _ _ c' i hi hcc =>
        split at hc
        · rename_i hn
          have hn := aW hn
          subst hn
          exact stay (by simp [Builtin.clear_, ap hu]) hc
        · rename_i hn
          have hn := jG hn
          split at hc
          · rename_i hcond
            simp only [Bool.and_eq_true] at hcond
            obtain ⟨c1, c2⟩ := hcond
            have c1 := aW c1
            unfold Ff at hc
            split at hc
            · rename_i cs aO te hb
              split at hc
              · rename_i hle
                have hle := bv hle
                injection hc with hc
                simp only [Prod.mk.injEq] at hc
                obtain ⟨rfl, rfl⟩ := hc
                have hB := S.blk k i hi
                rw [hb] at hB
                have hB' := hB
                obtain ⟨arr, el2, hgw, hasz, hmc, _⟩ := hB'
                have hzv : z = bR zv := hzz
                have hzsz : zv.cells.size = esz := by rw [← c1, hzv]; simp [bR]
                generalize hus : (Builtin.zeroCells zv.cells n).toList = us
                have hvl : VRL ι (dG z n) us := by
                 rw [← hus, hzv]
                 exact kz ι zv n (n * zv.cells.size) (by simp [bR])
                have hul : us.length = n * esz := by rw [hvl.1, dq, c1]
                have hone : ∀ u ∈ us, u.oneCell' = true := by
                 intro u hu'
                 obtain ⟨j, hj, rfl⟩ := List.getElem_of_mem hu'
                 have hj' : j < (dG z n).length := by rw [← hvl.1]; exact hj
                 have h1 := hvl.2 j hj'
                 have h2 : (dG z n).all CV.one = true := xB c2 n
                 have h3 := (h1.one (List.all_eq_true.1 h2 _ (List.getElem_mem hj'))).1
                 rw [List.getD_eq_getElem?_getD, List.getElem?_eq_getElem hj] at h3
                 exact h3
                have hfit : i.base + off + 0 + us.length ≤ arr.size := by rw [hul]; omega
                have hst := run_storeCells_at P i.b (i.base + off) el2 us 0 arr w hgw hfit hone
                rw [Nat.add_zero, ← dX _ _ _ (by rw [hul]; simp; omega)] at hst
                refine ⟨ι, w.setRow i.b (setAt arr.toList (i.base + off) us).toArray, .inl ⟨.tuple #[], hrun ?_, ee (VRL.nil ι)⟩, Im.le_refl ι, fun k _ hk => hk, ?_, ?_, Nat.le_refl _⟩
                · obtain ⟨m, rfl⟩ : ∃ m, n = m + 1 := ⟨n - 1, by omega⟩
                  simp [Builtin.clear_, ap hu, gX hinf hz, hus, hst]
                · refine S.wrote hi (by rw [hb]; rfl) (.inl rfl) (by simp) (fun j hj => setRow_other w i.b j _ hj) ?_
                  exact py hB hvl (by rw [dq, c1]; omega) hgw (setRow_heap w i.b arr _ el2 (0, 0) hgw)
                · have hN := S.own k i hi (by rw [hb]; rfl)
                  exact ⟨rfl, rfl, rfl, by simp, fun b hb => setRow_other w i.b b _ (by omega), Nat.le_refl _⟩
              · cases hc
            · cases hc
          · cases hc
     · cases hc
   · cases hc
 · cases hc
theorem Df (S : Sim N0 ι h w) (hN : N0 ≤ w.heap.size) (hev : ∀ x ∈ o.op.operands.toList, VR ι (e x) (ρ x)) (hc : wX P o e h = some (c, h')) : Ws P N0 ι h w ρ o c h' := by
 unfold wX at hc
 split at hc
 · rename_i he; exact FV S he hev hc
 · rename_i he; exact Lv S he hev hc
 · rename_i cl he
   unfold lL at hc
   split at hc
   · rename_i hcl
     split at hc
     · split at hc
       · rename_i r hr
         injection hc with hc
         subst hc
         exact Lw S hN he hcl hev hr
       · exact Fk S hN he hcl hev hc
     · exact Fk S hN he hcl hev hc
   · rename_i hcl
     exact IY S he hcl hev hc
   · rename_i hcl
     exact Lx S he hcl hev hc
   · cases hc
 · cases hc
theorem IZ (S : Sim N0 ι h w) (hN : N0 ≤ w.heap.size) {f : Nat → CV} {b : HB} (hl : Ls P ι w ρ o f b) : Ws P N0 ι h w ρ o (f h.n) (h.push b) := by
 obtain ⟨v, w', i, obj, h1, h2, h3, h4, hdr, h5, h6, h7, h8, h9, h10⟩ := hl
 have hnn : ι h.n = none := S.none
 refine ⟨ι.set h.n i, w', .inl ⟨v, h1, h10 _ _ (by unfold Im.set; rw [if_pos rfl])⟩, bE hnn, jx (Nat.le_refl _), (S.push b).laid hN (k := h.n) (by simp) hnn h5 h6 h8 ?_, ⟨h2, h3, h4, by omega, fun b hb => h6 b (by omega), HK.mono hdr⟩, by simp⟩
 rw [ag, if_pos rfl]
 exact h9 _ _ (bE hnn) h7
theorem nc (S : Sim N0 ι h w) (hN : N0 ≤ w.heap.size) (hev : ∀ x ∈ o.op.operands.toList, VR ι (e x) (ρ x)) (hc : gS P o e h = some (c, h')) : Ws P N0 ι h w ρ o c h' := by
 unfold gS at hc
 split at hc
 · rename_i v hq
   injection hc with hc
   simp only [Prod.mk.injEq] at hc
   obtain ⟨rfl, rfl⟩ := hc
   obtain ⟨u, h1, h2⟩ := uU S hev hq
   exact ⟨ι, w, .inl ⟨u, h2, h1⟩, Im.le_refl ι, fun _ _ hk => hk, S, Ext.refl _ _, Nat.le_refl _⟩
 · split at hc
   · rename_i f b hl
     injection hc with hc
     simp only [Prod.mk.injEq] at hc
     obtain ⟨rfl, rfl⟩ := hc
     exact IZ S hN (qc hev hl)
   · exact Df S hN hev hc
end
end Go.CP
