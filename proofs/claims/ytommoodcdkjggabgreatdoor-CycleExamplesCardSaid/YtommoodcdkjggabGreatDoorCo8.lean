/- The reckoner with memory: operations that lay a block are sound. -/
import Derived.Test.YtommoodcdkjggabGreatDoorCo7
set_option linter.unusedVariables false
set_option linter.unusedSectionVars false
set_option linter.unusedSimpArgs false
namespace Go.CO
variable [LG] [HK]

section
variable {P : Program} {N0 : Nat} {ι : Im} {h : Hp} {w : World} {e : Operand → CV} {ρ : Operand → Value} {o : Oper} {c : CV} {f : Nat → CV} {b : HB}

/-- The operation lays a block and comes to a value that names it. -/
def Ls (P : Program) (ι : Im) (w : World) (ρ : Operand → Value) (o : Oper) (f : Nat → CV) (b : HB) : Prop :=
  ∃ (v : Value) (w' : World) (i : Inf) (obj : Obj), (execOp ρ o).run P w = .ok (.value v) w' ∧ w'.os = w.os ∧ w'.tape = w.tape ∧ w'.output = w.output ∧ w'.heap.size = w.heap.size + 1 ∧ (∀ b, b < w.heap.size → w'.heap[b]? = w.heap[b]?) ∧ w'.heap[w.heap.size]? = some obj ∧ i.b = w.heap.size ∧
    (∀ ι' w2, ι.le ι' → w2.heap[w.heap.size]? = some obj → BR ι' i w2 b) ∧ ∀ ι' k, ι' k = some i → VR ι' (f k) v
theorem ls_new {v : Value} {arr : Array Value} {el : TypeId} {cs : List CV} (hrun : (execOp ρ o).run P w = .ok (.value v) (w.alloc (.cells arr el))) (hv : VRL ι cs arr.toList)
    (hf : ∀ ι' k, ι' k = some ⟨w.heap.size, 0, cs.length, 0, cs.length, false⟩ → VR ι' (f k) v) : Ls P ι w ρ o f (.cells cs 0 el) := by
  refine ⟨v, w.alloc (.cells arr el), ⟨w.heap.size, 0, cs.length, 0, cs.length, false⟩, .cells arr el, hrun, rfl, rfl, rfl, by simp, fun b hb => heap_alloc_old w _ b hb, heap_alloc_new w _, rfl, fun ι' w2 hle h2 => ?_, hf⟩
  have hl := hv.1
  simp only [Array.length_toList] at hl
  refine ⟨arr, el, h2, by simp [hl], Nat.le_refl _, rfl, rfl, rfl, ?_, rfl, fun _ => ⟨rfl, hl⟩⟩
  rw [List.drop_zero, List.take_of_length_le (by simp [hl])]
  exact hv.mono hle
theorem l_alloc {t : TypeId} (he : o.op = .alloc t) (hl : lAlloc t (tzero P t) = some (f, b)) : Ls P ι w ρ o f b := by
  unfold lAlloc at hl
  split at hl
  · rename_i z hz
    obtain ⟨i, zv, hi, hz2, rfl⟩ := tzero_some hz
    injection hl with hl
    simp only [Prod.mk.injEq] at hl
    obtain ⟨rfl, rfl⟩ := hl
    refine ls_new (v := .pointer (some ⟨w.heap.size, 0, none⟩)) (arr := zv.cells) (el := t) ?_ (by rw [ofValue_cells]; exact vrl_cells ι _) fun ι' k hk => by simpa using VR.ptr (o := 0) hk
    unfold execOp; rw [he]
    simp [Instr.alloc, run_zero hi hz2, newVar, newRow]
  · cases hl
theorem l_box {t : TypeId} {x : Operand} (he : o.op = .box t x) (hev : ∀ x ∈ o.op.operands.toList, VR ι (e x) (ρ x)) (hl : lBox t (e x) (tsz P t) = some (f, b)) : Ls P ι w ρ o f b := by
  have hx := hev x (by simp [he, Op.operands])
  unfold lBox at hl
  split at hl
  · split at hl
    · rename_i hc
      simp only [Bool.and_eq_true] at hc
      injection hl with hl
      simp only [Prod.mk.injEq] at hl
      obtain ⟨rfl, rfl⟩ := hl
      obtain ⟨h1, _⟩ := hx.cells hc.1
      refine ls_new (v := .pointer (some ⟨w.heap.size, 0, none⟩)) (arr := (ρ x).cells) (el := t) ?_ h1 fun ι' k hk => by simpa using VR.ptr (o := 0) hk
      unfold execOp; rw [he]
      simp [Instr.box, newVar, newRow]
    · cases hl
  · cases hl
theorem l_slice {t : TypeId} {len : Nat} {parts : Array (Nat × Operand)} (he : o.op = .buildSlice t len parts) (hev : ∀ x ∈ o.op.operands.toList, VR ι (e x) (ρ x)) (hl : lSlice len (parts.toList.map fun p => (p.1, e p.2)) (tyk P t) = some (f, b)) : Ls P ι w ρ o f b := by
  have hpv := pvs_of (ι := ι) (e := e) (ρ := ρ) parts.toList (fun x hx => hev x (by simp [he, Op.operands]; simpa using hx))
  unfold lSlice at hl
  split at hl
  · rename_i el esz bytes z hty
    obtain ⟨hu, i, zv, d, hi, hsz, hby, hz, rfl, hd⟩ := tyk_slice hty
    split at hl
    · rename_i hc
      simp only [Bool.and_eq_true] at hc
      obtain ⟨⟨h1, h2⟩, h3⟩ := hc
      have h1 := beq1 h1
      have h2 := ble1 h2
      split at hl
      · rename_i cs hf
        injection hl with hl
        simp only [Prod.mk.injEq] at hl
        obtain ⟨rfl, rfl⟩ := hl
        obtain ⟨arr, e1, e2⟩ := fillA_spec (ι := ι) _ _ (rep (zeroL zv) len) ((Array.range (len * esz)).map (zv.cells[· % zv.cells.size]!)) cs hpv h3 (vrl_zeros ι zv len (len * esz) (by rw [h1])) hf
        refine ls_new (v := .slice (some ⟨w.heap.size, 0, none⟩) len len) (arr := arr) (el := el) ?_ e2 fun ι' k hk => by simpa using VR.sl (o := 0) (n := len) hk (.inl ⟨rfl, fun hz => absurd rfl hz⟩)
        unfold execOp; rw [he]
        have hnb : ¬ 16777216 < len * i.size := by rw [hsz]; omega
        subst hsz
        by_cases hl0 : len * i.size = 0
        · have hr0 : Array.range 0 = #[] := Array.range_zero'
          have e1' : Instr.fill (fun k => some (k * i.size, i.size)) (#[] : Array Value) (parts.toList.map fun x => (x.1, ρ x.2)) = some arr := by
            rw [hl0, hr0, Array.map_empty] at e1; exact e1
          simp [Instr.buildSlice, run_under hu, run_size hi, hl0, newRow, e1', hr0]
        · simp [Instr.buildSlice, run_under hu, run_size hi, hl0, hnb, newRow, e1, run_zero hi hz]
      · cases hl
    · cases hl
  · cases hl
theorem run_makeSlice {t el : TypeId} {i : TypeInfo} {zv : Value} (hu : P.underlying t = some (.slice el)) (hi : P.info? el = some i) (hz : i.zero = some zv) (l c : Nat) (k k' : IntKind) (hlc : l ≤ c) (hb : c * i.bytes ≤ 140737488355328) (hm : c ≤ 9223372036854775807) (w : World) :
    (Instr.makeSlice t (.int k (Int.ofNat l)) (.int k' (Int.ofNat c))).run P w = .ok (.slice (some ⟨w.heap.size, 0, none⟩) l c) (w.alloc (.cells ((Array.range (c * i.size)).map ((if c * i.size = 0 then #[] else zv.cells)[· % (if c * i.size = 0 then #[] else zv.cells).size]!)) el)) := by
  have hwl : IntKind.i64.wrap (Int.ofNat l) = Int.ofNat l := wr_i64 l (by omega)
  have hwc : IntKind.i64.wrap (Int.ofNat c) = Int.ofNat c := wr_i64 c (by omega)
  have h0 : ¬ (Int.ofNat c < 0) := Int.not_lt.2 (Int.natCast_nonneg c)
  have h0l : ¬ (Int.ofNat l < 0) := Int.not_lt.2 (Int.natCast_nonneg l)
  have h1 : ¬ ((i.bytes : Int) * Int.ofNat c > 2 ^ 48) := by
    rw [Int.ofNat_eq_natCast, ← Int.natCast_mul, Nat.mul_comm]
    omega
  have h2 : ¬ (Int.ofNat l > Int.ofNat c) := Int.not_lt.2 (Int.ofNat_le.2 hlc)
  have h3 : ¬ (c * i.bytes > roomBytes) := by unfold roomBytes; omega
  have ht1 : (Int.ofNat c).toNat = c := rfl
  have ht2 : (Int.ofNat l).toNat = l := rfl
  have hcond : (decide (Int.ofNat c < 0) || decide ((i.bytes : Int) * Int.ofNat c > 2 ^ 48) || decide (Int.ofNat l < 0) || decide (Int.ofNat l > Int.ofNat c)) = false := by
    rw [decide_eq_false h0, decide_eq_false h1, decide_eq_false h0l, decide_eq_false h2]; rfl
  unfold Instr.makeSlice
  simp only [Sem.run_bind, run_under hu, Result.andThen_ok, asInt, asIntOf, Sem.run_pure, run_tinfo hi, hwl, hwc, hcond, Bool.false_eq_true, if_false, ht1, ht2, askRoom, h3, run_size hi]
  by_cases hn : c * i.size = 0
  · simp [hn, newRow]
  · simp [hn, newRow, run_zero hi hz]
theorem l_make {t : TypeId} {l cp : Operand} (he : o.op = .makeSlice t l cp) (hev : ∀ x ∈ o.op.operands.toList, VR ι (e x) (ρ x)) (hl : lMake (e l) (e cp) (tyk P t) = some (f, b)) : Ls P ι w ρ o f b := by
  have hxl := hev l (by simp [he, Op.operands])
  have hxc := hev cp (by simp [he, Op.operands])
  unfold lMake at hl
  split at hl
  · rename_i el esz bytes z hty
    obtain ⟨hu, i, zv, d, hi, hsz, hby, hz, rfl, hd⟩ := tyk_slice hty
    split at hl
    · rename_i k n hl'
      rw [hl'] at hxl
      have hvl := vr_nu hxl
      split at hl
      · rename_i k' m hc'
        rw [hc'] at hxc
        have hvc := vr_nu hxc
        split at hl
        · rename_i hc
          simp only [Bool.and_eq_true] at hc
          obtain ⟨⟨⟨h1, h2⟩, h3⟩, h4⟩ := hc
          have h1 := beq1 h1
          have h2 := ble1 h2
          have h3 := ble1 h3
          have h4 := ble1 h4
          injection hl with hl
          simp only [Prod.mk.injEq] at hl
          obtain ⟨rfl, rfl⟩ := hl
          subst hsz
          subst hby
          refine ls_new (v := .slice (some ⟨w.heap.size, 0, none⟩) n m) (arr := (Array.range (m * i.size)).map ((if m * i.size = 0 then #[] else zv.cells)[· % (if m * i.size = 0 then #[] else zv.cells).size]!)) (el := el) ?_ ?_ fun ι' k hk => by simpa using VR.sl (o := 0) (n := n) hk (.inl ⟨rfl, fun hz => absurd rfl hz⟩)
          · unfold execOp; rw [he]
            simp only [hvl, hvc, Sem.run_bind, run_makeSlice hu hi hz n m k k' h2 h3 h4 w, Result.andThen_ok, Sem.run_pure]
          · by_cases hn : m * i.size = 0
            · have hr0 : Array.range 0 = #[] := Array.range_zero'
              have : rep (zeroL zv) m = [] := List.eq_nil_of_length_eq_zero (by rw [rep_length, h1]; exact hn)
              rw [this, hn, hr0, Array.map_empty]
              exact VRL.nil ι
            · simp only [if_neg hn]
              exact vrl_zeros ι zv m (m * i.size) (by rw [h1])
        · cases hl
      · cases hl
    · cases hl
  · cases hl
theorem l_map {t : TypeId} (he : o.op = .makeMap t none) : Ls P ι w ρ o (fun k => .mp k) (.mp []) := by
  refine ⟨.map (some w.heap.size), w.alloc (.map #[] 0), ⟨w.heap.size, 0, 0, 0, 0, false⟩, .map #[] 0, ?_, rfl, rfl, rfl, by simp, fun b hb => heap_alloc_old w _ b hb, heap_alloc_new w _, rfl, fun ι' w2 hle h2 => ?_, fun ι' k hk => .mp hk⟩
  · unfold execOp; rw [he]
    have h1 : (newObj (.map #[] 0)).run P w = .ok w.heap.size (w.alloc (.map #[] 0)) := rfl
    simp [Instr.makeMap, h1]
  · exact ⟨#[], 0, h2, VRL.nil _, VRL.nil _⟩
theorem run_stringToBytes (el : TypeId) (b : ByteArray) (w : World) : ∃ cap w' f, (Conv.stringToBytes el b).run P w = .ok (.slice (some ⟨w.heap.size, 0, none⟩) b.size cap) w' ∧ b.size ≤ cap ∧ w'.os = w.os ∧ w'.tape = w.tape ∧ w'.output = w.output ∧ w'.heap.size = w.heap.size + 1 ∧ (∀ i, i < w.heap.size → w'.heap[i]? = w.heap[i]?) ∧
    w'.heap[w.heap.size]? = some (.cells (b.data.map (fun c => Value.int .u8 c.toNat) ++ Array.replicate (cap - b.size) (.int .u8 0)) el f) := by
  let cap := (Question.appendCap b.size 0 el).cut (w.tape w.drawn (.appendCap b.size 0 el))
  have hcap : b.size ≤ cap := Nat.le_add_right _ _
  let arr : Array Value := b.data.map (fun c => Value.int .u8 c.toNat) ++ Array.replicate (cap - b.size) (.int .u8 0)
  let w1 : World := { w with drawn := w.drawn + 1, heap := w.heap.push (.cells arr el (0, 0)) }
  have h1 : (Conv.stringToBytes el b).run P w = .ok (.slice (some ⟨w.heap.size, 0, none⟩) b.size cap) (w1.freeze ⟨w.heap.size, arr.size, none⟩ 1) := by
    have hsh : w1.shape? w.heap.size = some (el, arr.size) := by simp [World.shape?, w1]
    have hq : (choose (.appendCap b.size 0 el)).run P w = .ok cap { w with drawn := w.drawn + 1 } := by simp [choose, Sem.run, Question.forced, cap]
    unfold Conv.stringToBytes
    simp only [Sem.run_bind, hq, Result.andThen_ok]
    have hn : (newRow el arr).run P { w with drawn := w.drawn + 1 } = .ok ⟨w.heap.size, 0, none⟩ w1 := rfl
    rw [show (b.data.map (fun c => Value.int .u8 c.toNat) ++ Array.replicate (cap - b.size) (.int .u8 0)) = arr from rfl, hn]
    simp only [Result.andThen_ok]
    have hm : (markStringish ⟨w.heap.size, 0, none⟩).run P w1 = .ok () (w1.freeze ⟨w.heap.size, arr.size, none⟩ 1) := by
      simp [markStringish, shape, freeze, Sem.run, hsh]
    rw [hm]
    simp
  refine ⟨cap, _, (arr.size, arr.size + 1), h1, hcap, rfl, rfl, rfl, by simp [World.freeze, w1], fun i hi => ?_, ?_⟩
  · simp only [World.freeze, w1, Nat.one_ne_zero, if_false]
    rw [Array.getElem?_modify, if_neg (by omega), Array.getElem?_push_lt hi, Array.getElem?_eq_getElem hi]
  · simp only [World.freeze, w1, Nat.one_ne_zero, if_false]
    rw [Array.getElem?_modify]
    simp [arr]
theorem l_bytes {src dst : TypeId} {x : Operand} (he : o.op = .convert src dst x) (hev : ∀ x ∈ o.op.operands.toList, VR ι (e x) (ρ x)) (hl : lBytes P (e x) (tyk P src) (tyk P dst) = some (f, b)) : Ls P ι w ρ o f b := by
  have hx := hev x (by simp [he, Op.operands])
  unfold lBytes at hl
  split at hl
  · rename_i el esz bytes z h1 h2
    split at hl
    · rename_i s hx'
      rw [hx'] at hx
      obtain ⟨a, hv, rfl⟩ := vr_st' hx
      split at hl
      · rename_i hel
        injection hl with hl
        simp only [Prod.mk.injEq] at hl
        obtain ⟨rfl, rfl⟩ := hl
        obtain ⟨cap, w', fz, hr, hcap, ho, ht, hou, hsz, hold, hnew⟩ := run_stringToBytes (P := P) el a w
        have hu := (tyk_slice h2).1
        refine ⟨.slice (some ⟨w.heap.size, 0, none⟩) a.size cap, w', ⟨w.heap.size, 0, 0, 0, 0, true⟩, _, ?_, ho, ht, hou, hsz, hold, hnew, rfl, fun ι' w2 hle h3 => ?_, fun ι' k hk => ?_⟩
        · unfold execOp; rw [he]
          simp only [hv, convert, run_under (tyk_str h1), run_under hu, run_under (tyk_int hel), Sem.run_bind, Result.andThen_ok, hr, Sem.run_pure]
        · refine ⟨_, el, fz, h3, rfl, rfl, ?_⟩
          have h4 : ((a.data.map (fun (c : UInt8) => Value.int .u8 c.toNat) ++ Array.replicate (cap - a.size) (Value.int .u8 0)).toList.drop 0).take ((bs a).map fun c => CV.nu .u8 (.ofNat c)).length = a.data.toList.map fun c => Value.int .u8 (c.toNat : Int) := by
            simp only [List.drop_zero, List.length_map, bs_length, Array.toList_append, Array.toList_map]
            rw [List.take_append_of_le_length (by simp), List.take_of_length_le (by simp)]
          rw [h4, bs, List.map_map]
          exact vrl_map _ _ _ fun c _ => .nu _ _
        · have := VR.sl (o := 0) (n := a.size) (c := a.size) (c' := cap) hk (.inr ⟨rfl, hcap, fun hz => absurd rfl hz⟩)
          simpa [bs_length] using this
      · cases hl
    · cases hl
  · cases hl
theorem layX_sound (hev : ∀ x ∈ o.op.operands.toList, VR ι (e x) (ρ x)) (hl : layX P o e = some (f, b)) : Ls P ι w ρ o f b := by
  unfold layX at hl
  split at hl
  · rename_i he; exact l_alloc he hl
  · rename_i he; exact l_box he hev hl
  · rename_i he; exact l_slice he hev hl
  · rename_i he; exact l_make he hev hl
  · rename_i he
    injection hl with hl
    simp only [Prod.mk.injEq] at hl
    obtain ⟨rfl, rfl⟩ := hl
    exact l_map he
  · rename_i he; exact l_bytes he hev hl
  · cases hl
end
end Go.CO
