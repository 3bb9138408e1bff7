/- The reckoner with memory: numbers, strings, sameness, types. -/
import Derived.Test.YtommoodcdkjggabGreatDoorCo2
import Derived.Laws.Strings
import Derived.Laws.StructEq
import Derived.ChangeKeysEq
set_option linter.unusedVariables false
set_option linter.unusedSectionVars false
set_option linter.unusedSimpArgs false
namespace Go.CO
variable [LG] [HK]

theorem blt1 {a b : Nat} (h : Nat.blt a b = true) : a < b := by simpa using h
theorem blt0 {a b : Nat} (h : Nat.blt a b = false) : b ≤ a := by
  rcases Nat.lt_or_ge a b with h1 | h1
  · have : Nat.blt a b = true := by simpa using h1
    rw [this] at h; cases h
  · exact h1
theorem ble1 {a b : Nat} (h : Nat.ble a b = true) : a ≤ b := Nat.le_of_ble_eq_true h
theorem ble0 {a b : Nat} (h : Nat.ble a b = false) : b < a := by
  rcases Nat.lt_or_ge b a with h1 | h1
  · exact h1
  · have : Nat.ble a b = true := Nat.ble_eq_true_of_le h1
    rw [this] at h; cases h
theorem beq1 {a b : Nat} (h : Nat.beq a b = true) : a = b := Nat.eq_of_beq_eq_true h
theorem beq0 {a b : Nat} (h : Nat.beq a b = false) : a ≠ b := Nat.ne_of_beq_eq_false h
theorem ile_eq (a b : Int) : ile a b = decide (a ≤ b) := by
  cases a <;> cases b <;> simp only [ile] <;> (rw [Bool.eq_iff_iff]; simp <;> omega)
theorem ieq_eq (a b : Int) : ieq a b = decide (a = b) := by
  cases a <;> cases b <;> simp only [ieq] <;> (rw [Bool.eq_iff_iff]; simp <;> omega)
theorem c_eql (a b : Int) : ieq a b = (a == b) := ieq_eq a b
theorem c_leq (a b : Int) : ile a b = decide (a ≤ b) := ile_eq a b
theorem c_lss (a b : Int) : (!(ile b a)) = decide (a < b) := by rw [ile_eq, Bool.eq_iff_iff]; simp
theorem keq_eq {k k' : IntKind} (h : keq k k' = true) : k = k' := by cases k <;> cases k' <;> simp [keq] at h <;> rfl
theorem wr_lo {k : IntKind} {n : Int} (h0 : 0 ≤ n) (h1 : n < 2 ^ k.bits) (h2 : k.signed = true → n < 2 ^ (k.bits - 1)) : k.wrap n = n := by
  unfold IntKind.wrap
  have hm : n % (2 ^ k.bits : Int) = n := Int.emod_eq_of_lt h0 h1
  simp only [hm]
  rw [if_neg]
  simp only [Bool.and_eq_true, decide_eq_true_eq, not_and, Int.not_le, ge_iff_le]
  exact h2
theorem wr_i64 (a : Nat) (h : a < 9223372036854775808) : IntKind.i64.wrap (.ofNat a) = .ofNat a :=
  wr_lo (Int.natCast_nonneg a) (by show (a : Int) < 2 ^ 64; omega) fun _ => by show (a : Int) < 2 ^ 63; omega
theorem wr_u64 (a : Nat) (h : a < 18446744073709551616) : IntKind.u64.wrap (.ofNat a) = .ofNat a :=
  wr_lo (Int.natCast_nonneg a) (by show (a : Int) < 2 ^ 64; omega) fun h => by cases h
theorem wr_u32 (a : Nat) (h : a < 4294967296) : IntKind.u32.wrap (.ofNat a) = .ofNat a :=
  wr_lo (Int.natCast_nonneg a) (by show (a : Int) < 2 ^ 32; omega) fun h => by cases h
theorem wr_u8 (a : Nat) (h : a < 256) : IntKind.u8.wrap (.ofNat a) = .ofNat a :=
  wr_lo (Int.natCast_nonneg a) (by show (a : Int) < 2 ^ 8; omega) fun h => by cases h
theorem wr_neg (a : Nat) (h : a < 9223372036854775808) : IntKind.i64.wrap (.negSucc a) = .negSucc a := by
  unfold IntKind.wrap
  have hm : Int.negSucc a % (2 ^ IntKind.i64.bits : Int) = 2 ^ 64 - 1 - (a : Int) := by
    show Int.negSucc a % (2 ^ 64 : Int) = _
    rw [Int.negSucc_eq]; omega
  simp only [hm]
  rw [if_pos]
  · show (2 ^ 64 - 1 - (a : Int) : Int) - 2 ^ 64 = _
    rw [Int.negSucc_eq]; omega
  · simp only [IntKind.signed, Bool.true_and, decide_eq_true_eq, ge_iff_le]
    show (2 ^ 63 : Int) ≤ 2 ^ 64 - 1 - (a : Int)
    omega
theorem bif_wr {b : Bool} {x y : Int} (h : b = true → y = x) : (bif b then x else y) = y := by
  cases b with
  | true => exact (h rfl).symm
  | false => rfl
theorem wrapF_eq (k : IntKind) (n : Int) : wrapF k n = k.wrap n := by
  unfold wrapF
  cases n with
  | ofNat a =>
    cases k with
    | i64 => exact bif_wr fun h => wr_i64 a (blt1 h)
    | u64 => exact bif_wr fun h => wr_u64 a (blt1 h)
    | u32 => exact bif_wr fun h => wr_u32 a (blt1 h)
    | u8 => exact bif_wr fun h => wr_u8 a (blt1 h)
    | _ => rfl
  | negSucc a =>
    cases k with
    | i64 => exact bif_wr fun h => wr_neg a (blt1 h)
    | _ => rfl
theorem nuW_eq (k : IntKind) (n : Int) : nuW k n = .nu k (k.wrap n) := by unfold nuW; rw [wrapF_eq]

/-! ### Strings -/
def bs (x : ByteArray) : List Nat := x.data.toList.map (·.toNat)
theorem neqL_map : ∀ (x y : List UInt8), neqL (x.map (·.toNat)) (y.map (·.toNat)) = (x == y)
  | [], [] => rfl
  | [], _ :: _ => rfl
  | _ :: _, [] => rfl
  | a :: x, b :: y => by
    simp only [List.map_cons, neqL]
    rw [neqL_map x y]
    cases h : Nat.beq a.toNat b.toNat with
    | true => have := UInt8.toNat_inj.1 (Nat.eq_of_beq_eq_true h); subst this; simp
    | false =>
      have : a ≠ b := fun e => Nat.ne_of_beq_eq_false h (by rw [e])
      have h2 : (a == b) = false := by simpa using this
      rw [List.cons_beq_cons, h2]; rfl
theorem nlt_map : ∀ (x y : List UInt8), nlt (x.map (·.toNat)) (y.map (·.toNat)) = Op.bytesLess x y
  | [], [] => rfl
  | [], _ :: _ => rfl
  | _ :: _, [] => rfl
  | a :: x, b :: y => by
    simp only [List.map_cons, nlt, Op.bytesLess]
    rw [nlt_map x y]
    cases h : Nat.blt a.toNat b.toNat with
    | true => have h2 : a < b := UInt8.lt_iff_toNat_lt.2 (blt1 h); simp [h2]
    | false =>
      have h1 : ¬ a < b := fun e => by have := UInt8.lt_iff_toNat_lt.1 e; have := blt0 h; omega
      cases h2 : Nat.beq a.toNat b.toNat with
      | true => have := UInt8.toNat_inj.1 (Nat.eq_of_beq_eq_true h2); subst this; simp
      | false =>
        have : a ≠ b := fun e => Nat.ne_of_beq_eq_false h2 (by rw [e])
        simp [h1, this]
theorem nlt_swap : ∀ (x y : List UInt8), Op.bytesLess y x = !(Op.bytesLess x y || (x == y))
  | [], [] => rfl
  | [], _ :: _ => rfl
  | _ :: _, [] => rfl
  | a :: x, b :: y => by
    simp only [Op.bytesLess]
    rw [nlt_swap x y]
    rcases Nat.lt_trichotomy a.toNat b.toNat with h | h | h
    · have h1 : a < b := UInt8.lt_iff_toNat_lt.2 h
      have h2 : ¬ b < a := fun e => by have := UInt8.lt_iff_toNat_lt.1 e; omega
      have h3 : ¬ b = a := fun e => by rw [e] at h; omega
      simp [h1, h2, h3]
    · have := UInt8.toNat_inj.1 h
      subst this
      have h2 : ¬ a < a := fun e => by have := UInt8.lt_iff_toNat_lt.1 e; omega
      simp [h2]
    · have h1 : b < a := UInt8.lt_iff_toNat_lt.2 h
      have h2 : ¬ a < b := fun e => by have := UInt8.lt_iff_toNat_lt.1 e; omega
      have h3 : ¬ a = b := fun e => by rw [e] at h; omega
      simp [h1, h2, h3]
theorem bs_length (x : ByteArray) : (bs x).length = x.size := by simp [bs]
theorem bs_append (x y : ByteArray) : bs (x ++ y) = bs x ++ bs y := by simp [bs]
theorem vr_st' {ι : Im} {s : List Nat} {v : Value} (h : VR ι (.st s) v) : ∃ x : ByteArray, v = .string x ∧ s = bs x := by
  obtain ⟨x, h1, h2⟩ := vr_st h; exact ⟨x, h1, h2.symm⟩
theorem vr_bs (ι : Im) (x : ByteArray) : VR ι (.st (bs x)) (.string x) := .st rfl

section
variable {P : Program} {w : World} {ι : Im}

theorem run_abin {op : BinOp} {t : TypeId} {x y : Operand} {p q r : CV} {u v : Value} (h : abin op p q = some r) (hu : VR ι p u) (hv : VR ι q v) :
    ∃ c, VR ι r c ∧ (binOp op t u v).run P w = .ok c w ∧ (eqGuard op t x y u v).run P w = .ok () w := by
  unfold abin at h
  split at h
  · obtain rfl := vr_nu hu
    obtain rfl := vr_nu hv
    rename_i k a k' b
    have hg : (eqGuard op t x y (.int k a) (.int k' b)).run P w = .ok () w := by cases op <;> simp [eqGuard]
    have hnn : ∀ n : Nat, ¬ (Int.ofNat n < 0) := fun n => Int.not_lt.2 (Int.natCast_nonneg n)
    have htn : ∀ n : Nat, (Int.ofNat n).toNat = n := fun n => rfl
    split at h
    · split at h
      · injection h with h; subst h
        rename_i n
        refine ⟨_, by rw [nuW_eq]; exact .nu _ _, ?_, hg⟩
        simp only [binOp, Op.shift, if_neg (hnn n), Sem.run_pure, htn]
      · cases h
    · split at h
      · injection h with h; subst h
        rename_i n
        refine ⟨_, .nu _ _, ?_, hg⟩
        simp only [binOp, Op.shift, if_neg (hnn n), Sem.run_pure, htn]
      · cases h
    · split at h
      · cases h
      · rename_i hk
        obtain rfl := keq_eq hk
        cases op <;> simp only [] at h <;> first
          | (injection h with h; subst h; exact ⟨_, by rw [nuW_eq]; exact .nu _ _, by simp [binOp, Op.intArith], hg⟩)
          | (injection h with h; subst h; refine ⟨_, .bo _, ?_, hg⟩; simp only [binOp, Op.intCmp, c_eql, c_lss, bne, Sem.run_pure, ne_eq, not_true_eq_false, if_false, GT.gt, GE.ge]; done)
          | (injection h with h; subst h; refine ⟨_, .bo _, ?_, hg⟩; simp only [binOp, Op.intCmp, c_leq, Sem.run_pure, ne_eq, not_true_eq_false, if_false, GT.gt, GE.ge]; done)
          | (split at h
             · cases h
             · rename_i h0
               rw [ieq_eq] at h0
               have h0 : b ≠ 0 := by simpa using h0
               injection h with h; subst h
               first
                 | exact ⟨_, by rw [nuW_eq]; exact .nu _ _, by simp [binOp, Op.intDiv, h0], hg⟩
                 | exact ⟨_, .nu _ _, by simp [binOp, Op.intDiv, h0], hg⟩)
          | (cases h; done)
  · obtain ⟨a, rfl, rfl⟩ := vr_st' hu
    obtain ⟨b, rfl, rfl⟩ := vr_st' hv
    have hg : (eqGuard op t x y (.string a) (.string b)).run P w = .ok () w := by cases op <;> simp [eqGuard]
    cases op <;> simp only [] at h
    · split at h
      · rename_i hle
        have hle := Nat.le_of_ble_eq_true hle
        rw [bs_length, bs_length] at hle
        injection h with h; subst h
        rw [← bs_append]
        refine ⟨_, vr_bs ι _, ?_, hg⟩
        simp [binOp, Op.stringOp, IntKind.max, IntKind.signed, IntKind.bits]
        omega
      · cases h
    all_goals first
      | (injection h with h; subst h
         refine ⟨_, .bo _, ?_, hg⟩
         simp only [bs, neqL_map, nlt_map, binOp, Op.stringOp, ByteArray.toList_eq, Sem.run_pure, nlt_swap a.data.toList b.data.toList])
      | (cases h; done)
  · cases h

theorem run_aun {op : UnOp} {p r : CV} {u : Value} (h : aun op p = some r) (hu : VR ι p u) : ∃ c, VR ι r c ∧ (Op.unary op u).run P w = .ok c w := by
  unfold aun at h
  split at h
  · obtain rfl := vr_nu hu
    cases op <;> simp at h
    subst h
    exact ⟨_, by rw [nuW_eq]; exact .nu _ _, by simp [Op.unary, Op.intArith]⟩
  · obtain rfl := vr_bo hu
    cases op <;> simp at h
    subst h
    exact ⟨_, .bo _, by simp [Op.unary]⟩
  · cases h

/-! ### Types -/
theorem run_under {t : TypeId} {d : TypeDesc} (h : P.underlying t = some d) (w : World) : (underlying t).run P w = .ok d w := by simp [underlying, program, Sem.run, h]
theorem run_tinfo {t : TypeId} {i : TypeInfo} (h : P.info? t = some i) (w : World) : (typeInfo t).run P w = .ok i w := by simp [typeInfo, program, Sem.run, h]
theorem run_size {t : TypeId} {i : TypeInfo} (h : P.info? t = some i) (w : World) : (sizeOf t).run P w = .ok i.size w := by simp [sizeOf, run_tinfo h]
theorem run_zero {t : TypeId} {i : TypeInfo} {z : Value} (h : P.info? t = some i) (hz : i.zero = some z) (w : World) : (zeroValue t).run P w = .ok z w := by simp [zeroValue, run_tinfo h, hz]
theorem run_isAgg {t : TypeId} {d : TypeDesc} (h : P.underlying t = some d) (w : World) : (isAgg t).run P w = .ok (aggT P t) w := by
  simp only [isAgg, Sem.run_bind, run_under h, Result.andThen_ok, aggT, h]
  cases d <;> rfl
theorem tyk_int {t : TypeId} {k : IntKind} (h : tyk P t = .int k) : P.underlying t = some (.int k) := by
  unfold tyk at h
  cases hu : P.underlying t with
  | none => simp [hu] at h
  | some d =>
    cases d <;> simp only [hu] at h <;> (try (repeat' split at h)) <;> simp only [reduceCtorEq, TyK.int.injEq] at h
    rw [h]
theorem tyk_str {t : TypeId} (h : tyk P t = .str) : P.underlying t = some .string := by
  unfold tyk at h
  cases hu : P.underlying t with
  | none => simp [hu] at h
  | some d => cases d <;> simp only [hu] at h <;> (try (repeat' split at h)) <;> first | rfl | (simp only [reduceCtorEq] at h; done)
theorem tyk_bool {t : TypeId} (h : tyk P t = .bool) : P.underlying t = some .bool := by
  unfold tyk at h
  cases hu : P.underlying t with
  | none => simp [hu] at h
  | some d => cases d <;> simp only [hu] at h <;> (try (repeat' split at h)) <;> first | rfl | (simp only [reduceCtorEq] at h; done)
theorem tyk_ptr {t : TypeId} {e : Nat} (h : tyk P t = .ptr e) : P.underlying t = some (.pointer e) := by
  unfold tyk at h
  cases hu : P.underlying t with
  | none => simp [hu] at h
  | some d =>
    cases d <;> simp only [hu] at h <;> (try (repeat' split at h)) <;> simp only [reduceCtorEq, TyK.ptr.injEq] at h
    rw [h]
theorem tyk_uptr {t : TypeId} (h : tyk P t = .uptr) : P.underlying t = some .unsafePointer := by
  unfold tyk at h
  cases hu : P.underlying t with
  | none => simp [hu] at h
  | some d => cases d <;> simp only [hu] at h <;> (try (repeat' split at h)) <;> first | rfl | (simp only [reduceCtorEq] at h; done)
theorem tyk_map {t : TypeId} {k e : Nat} (h : tyk P t = .map k e) : P.underlying t = some (.map k e) := by
  unfold tyk at h
  cases hu : P.underlying t with
  | none => simp [hu] at h
  | some d =>
    cases d <;> simp only [hu] at h <;> (try (repeat' split at h)) <;> simp only [reduceCtorEq, TyK.map.injEq] at h
    obtain ⟨rfl, rfl⟩ := h; rfl
theorem tyk_slice {t : TypeId} {e esz bytes : Nat} {z : List CV} (h : tyk P t = .slice e esz bytes z) : P.underlying t = some (.slice e) ∧ ∃ i zv d, P.info? e = some i ∧ i.size = esz ∧ i.bytes = bytes ∧ i.zero = some zv ∧ z = zeroL zv ∧ P.underlying e = some d := by
  unfold tyk at h
  cases hu : P.underlying t with
  | none => simp [hu] at h
  | some d =>
    cases d <;> simp only [hu] at h <;> (try (repeat' split at h)) <;> simp only [reduceCtorEq, TyK.slice.injEq] at h
    rename_i e' _ _ i d hi hd _ z' hz
    obtain ⟨rfl, h2, h3, h4⟩ := h
    exact ⟨rfl, i, z', d, hi, h2, h3, hz, h4.symm, hd⟩
theorem tyk_arr {t : TypeId} {n e esz : Nat} {g : Bool} {z : List CV} (h : tyk P t = .arr n e esz g z) : P.underlying t = some (.array n e) ∧ (∃ i d, P.info? e = some i ∧ i.size = esz ∧ P.underlying e = some d) ∧ aggT P e = g ∧ ∃ j zv, P.info? t = some j ∧ j.zero = some zv ∧ z = zeroL zv := by
  unfold tyk at h
  cases hu : P.underlying t with
  | none => simp [hu] at h
  | some d =>
    cases d <;> simp only [hu] at h <;> (try (repeat' split at h)) <;> simp only [reduceCtorEq, TyK.arr.injEq] at h
    rename_i n' e' _ _ _ i d j hi hd hj _ zv hz
    obtain ⟨rfl, rfl, h3, h4, h5⟩ := h
    exact ⟨rfl, ⟨i, d, hi, h3, hd⟩, h4, j, zv, hj, hz, h5.symm⟩
theorem tyk_strct {t : TypeId} {fs : List (Nat × Nat × Bool)} {z : List CV} (h : tyk P t = .strct fs z) :
    ∃ fields i zv, P.underlying t = some (.struct fields) ∧ P.info? t = some i ∧ i.zero = some zv ∧ z = zeroL zv ∧ fs = fields.toList.map (fun f => (f.offset, P.cellsOf f.type, aggT P f.type)) ∧
      ∀ f ∈ fields.toList, (P.info? f.type).isSome = true ∧ (P.underlying f.type).isSome = true ∧ P.cellsOf f.type ≠ 0 := by
  unfold tyk at h
  cases hu : P.underlying t with
  | none => simp [hu] at h
  | some d =>
    cases d <;> simp only [hu] at h <;> (try (repeat' split at h)) <;> simp only [reduceCtorEq, TyK.strct.injEq] at h
    rename_i fields _ i hi _ zv hz hall
    obtain ⟨h1, h2⟩ := h
    refine ⟨fields, i, zv, rfl, hi, hz, h2.symm, h1.symm, fun f hf => ?_⟩
    have := List.all_eq_true.1 hall f hf
    simp only [Bool.and_eq_true, bne_iff_ne] at this
    exact ⟨this.1.1, this.1.2, this.2⟩
theorem tsz_some {t : TypeId} {n : Nat} {a : Bool} (h : tsz P t = some (n, a)) : ∃ i d, P.info? t = some i ∧ i.size = n ∧ P.underlying t = some d ∧ aggT P t = a := by
  unfold tsz at h
  split at h
  · rename_i i d hi hu
    injection h with h
    injection h with h1 h2
    exact ⟨i, d, hi, h1, hu, h2⟩
  · cases h
theorem tzero_some {t : TypeId} {z : CV} (h : tzero P t = some z) : ∃ i zv, P.info? t = some i ∧ i.zero = some zv ∧ z = ofValue zv := by
  unfold tzero at h
  split at h
  · rename_i i hi
    split at h
    · rename_i zv hz
      injection h with h
      exact ⟨i, zv, hi, hz, h.symm⟩
    · cases h
  · cases h
end
end Go.CO
