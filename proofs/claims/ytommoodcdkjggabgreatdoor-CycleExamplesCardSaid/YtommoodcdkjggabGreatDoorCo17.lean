/- The reckoner with memory: tables; the library's search for a byte. -/
import Derived.Test.YtommoodcdkjggabGreatDoorCo16
import Derived.Laws.Externs
set_option linter.unusedVariables false
set_option linter.unusedSectionVars false
set_option linter.unusedSimpArgs false
namespace Go.CO
variable [LG] [HK]

def mkT {α : Type} : List (Nat × α) → T α
  | [] => .lf
  | (k, x) :: l => T.set (mkT l) k x
theorem mkT_get {α : Type} : ∀ {l : List (Nat × α)} {k : Nat} {x : α}, (mkT l).get k = some x → (k, x) ∈ l
  | [], k, x, h => by
    have hat : ∀ p : Ix, T.at p (T.lf : T α) = none := by
      intro p; induction p with
      | e => rfl
      | l p ih => exact ih
      | r p ih => exact ih
    simp only [mkT, T.get, hat] at h
    cases h
  | (j, y) :: l, k, x, h => by
    simp only [mkT, T.get_set] at h
    split at h
    · rename_i e; injection h with h; subst h; subst e; exact List.mem_cons_self
    · exact List.mem_cons_of_mem _ (mkT_get h)
/-- Known results, by function. -/
abbrev Memo := List (Nat × List (DL × CV))
def memoOf (M : Memo) (f : FuncId) : List (DL × CV) := match (mkT M).get f with
  | some l => l
  | none => []
def planOf (pl : T (T (List Stp))) (f : FuncId) (r : Nat) : Option (List Stp) := match pl.get f with
  | some t => t.get r
  | none => none
def KnownAll (P : Program) (M : Memo) : Prop := ∀ x ∈ M, ∀ y ∈ x.2, Known P x.1 y.1 y.2
theorem KnownAll.of {P : Program} {M : Memo} (h : KnownAll P M) (f : FuncId) : ∀ x ∈ memoOf M f, Known P f x.1 x.2 := by
  intro x hx
  unfold memoOf at hx
  split at hx
  · rename_i l hl
    exact h _ (mkT_get hl) x hx
  · cases hx
theorem KnownAll.nil (P : Program) : KnownAll P [] := fun x hx => by cases hx
theorem KnownAll.cons {P : Program} {M : Memo} {f : FuncId} {l : List (DL × CV)} (h : ∀ y ∈ l, Known P f y.1 y.2) (hM : KnownAll P M) : KnownAll P ((f, l) :: M) := by
  intro x hx
  rcases List.mem_cons.1 hx with rfl | hx
  · exact h
  · exact hM x hx
theorem KnownAll.app {P : Program} {f : FuncId} {l l' : List (DL × CV)} (h : ∀ y ∈ l, Known P f y.1 y.2) (h' : ∀ y ∈ l', Known P f y.1 y.2) : ∀ y ∈ l ++ l', Known P f y.1 y.2 := by
  intro y hy
  rcases List.mem_append.1 hy with hy | hy
  · exact h y hy
  · exact h' y hy
/-- Each of a list of calls comes to what is told. -/
def allRun (P : Program) (E : Env) (d : Nat) (f : FuncId) : List (DL × CV) → Bool
  | [] => true
  | (ds, r) :: l => match runX P E d f ds with
    | some r' => match ceq r' r with
      | true => allRun P E d f l
      | false => false
    | none => false
theorem allRun_spec {P : Program} {E : Env} (hE : EnvOk P E) {d : Nat} {f : FuncId} : ∀ {l : List (DL × CV)}, allRun P E d f l = true → ∀ y ∈ l, Known P f y.1 y.2
  | [], _, y, hy => by cases hy
  | (ds, r) :: l, h, y, hy => by
    simp only [allRun] at h
    split at h
    · rename_i r' hr
      split at h
      · rename_i hc
        rcases List.mem_cons.1 hy with rfl | hy
        · have := ceq_spec hc
          subst this
          exact runX_spec hE hr
        · exact allRun_spec hE h y hy
      · cases h
    · cases h

/-! ### Looking for a byte -/
def findB (c : Nat) : Nat → List Nat → Int
  | _, [] => .negSucc 0
  | i, a :: l => match Nat.beq a c with
    | true => .ofNat i
    | false => findB c (i + 1) l
def primB (k : Nat) : PrimX := fun f args => match Nat.beq f k with
  | true => match args with
    | [.st s, .nu .u8 (.ofNat c)] => match Nat.blt c 256 with
      | true => some (.nu .i64 (findB c 0 s))
      | false => none
    | _ => none
  | false => none
theorem findB_spec (b : ByteArray) (c : Nat) (hc : c < 256) : ∀ (m i : Nat), i + m = b.size → (match (List.range' i m).find? fun j => b[j]! == c.toUInt8 with
    | some j => Int.ofNat j
    | none => .negSucc 0) = findB c i ((bs b).drop i)
  | 0, i, h => by
    have : (bs b).drop i = [] := List.drop_of_length_le (by rw [bs_length]; omega)
    rw [this]; rfl
  | m + 1, i, h => by
    have hi : i < (bs b).length := by rw [bs_length]; omega
    have hib : i < b.size := by omega
    rw [List.drop_eq_getElem_cons hi, List.range'_succ, List.find?_cons]
    have hb : b[i]! = b[i] := getElem!_pos b i hib
    have hbe : (bs b)[i] = (b[i]).toNat := by simp [bs]; rfl
    simp only [findB]
    cases hq : Nat.beq (bs b)[i] c with
    | true =>
      have hq := beq1 hq
      have : (b[i]! == c.toUInt8) = true := by
        rw [hb, beq_iff_eq]
        apply UInt8.toNat_inj.1
        rw [← hbe, hq]
        simp [Nat.mod_eq_of_lt hc]
      rw [this]
    | false =>
      have hq := beq0 hq
      have : (b[i]! == c.toUInt8) = false := by
        rw [hb, beq_eq_false_iff_ne]
        intro e
        apply hq
        rw [hbe, e]
        simp [Nat.mod_eq_of_lt hc]
      rw [this]
      exact findB_spec b c hc m (i + 1) (by omega)
theorem primB_spec {P : Program} {k : Nat} {fn : Func} (hf : P.funcs[k]? = some fn) (hn : fn.name = "internal/bytealg.IndexByteString") (hb : fn.body = none) (hx : Extern.findNext fn = none) (hr : Extern.find fn = some Extern.BytealgIndexByte.indexByte) :
    ∀ f args r, primB k f args = some r → PrimW P f args r := by
  intro f args r hp ι w vals hv
  unfold primB at hp
  split at hp
  · rename_i hfk
    have hfk := beq1 hfk
    subst hfk
    split at hp
    · rename_i s c
      split at hp
      · rename_i hc
        have hc := blt1 hc
        injection hp with hp; subst hp
        obtain ⟨v1, l1, rfl, h1, hv1⟩ := vrl_pre hv
        obtain ⟨v2, l2, rfl, h2, hv2⟩ := vrl_pre hv1
        have : l2 = [] := List.eq_nil_of_length_eq_zero hv2.1
        subst this
        obtain ⟨b, rfl, rfl⟩ := vr_st' h1
        obtain rfl := vr_nu h2
        have hs := findB_spec b c hc b.size 0 (by omega)
        rw [List.drop_zero, ← List.range_eq_range'] at hs
        have hrow : (Extern.BytealgIndexByte.indexByte #[.string b, .int .u8 (Int.ofNat c)]).run P w = .ok (.int .i64 (findB c 0 (bs b))) w := by
          rw [← hs]
          have he : Extern.BytealgIndexByte.indexByte #[.string b, .int .u8 (Int.ofNat c)] = (do
              let b' ← Extern.Bytes.bytesOf (.string b)
              let i ← Extern.Bytes.asByte (.int .u8 (Int.ofNat c))
              match (List.range b'.size).find? fun j => b'[j]! == i with
                | some j => pure (goInt j)
                | none => pure (goInt (-1))) := rfl
          rw [he]
          simp only [Extern.Bytes.bytesOf, Extern.Bytes.asByte, Sem.run_bind, Sem.run_pure, Result.andThen_ok]
          have ht : (Int.ofNat c).toNat = c := rfl
          rw [ht]
          cases hfd : (List.range b.size).find? fun j => b[j]! == c.toUInt8 with
          | none => rfl
          | some j => rfl
        have hrow' : (Extern.BytealgIndexByte.indexByte #[.string b, .int .u8 (c : Int)]).run P w = .ok (.int .i64 (findB c 0 (bs b))) w := hrow
        refine ⟨_, .nu _ _, ?_⟩
        unfold callFunc
        simp [program, Sem.run, hf, hn, hb, hx, hr, mark, hrow']
      · cases hp
    · cases hp
  · cases hp
/-- Either. -/
def primOr (p q : PrimX) : PrimX := fun f args => match p f args with
  | some r => some r
  | none => q f args
theorem primOr_spec {P : Program} {p q : PrimX} (hp : ∀ f args r, p f args = some r → PrimW P f args r) (hq : ∀ f args r, q f args = some r → PrimW P f args r) : ∀ f args r, primOr p q f args = some r → PrimW P f args r := by
  intro f args r h
  unfold primOr at h
  split at h
  · rename_i r' hr
    injection h with h; subst h
    exact hp _ _ _ hr
  · exact hq _ _ _ h
/-- A function that returns its argument. -/
def same1 : List CV → Option CV
  | [x] => some x
  | _ => none
def primE (k : Nat) : PrimX := fun f args => match Nat.beq f k with
  | true => same1 args
  | false => none
theorem primE_spec {P : Program} {k : Nat} {fn : Func} (hf : P.funcs[k]? = some fn) (hn : (fn.name == "runtime.NumGoroutine") = false) (hb : fn.body.isNone = true) (hx : Extern.findNext fn = none) (hr : Extern.find fn = some Extern.AbiNoEscape.same) :
    ∀ f args r, primE k f args = some r → PrimW P f args r := by
  intro f args r hp ι w vals hv
  unfold primE at hp
  split at hp
  · rename_i hfk
    have hfk := beq1 hfk
    subst hfk
    unfold same1 at hp
    split at hp
    · rename_i x
      injection hp with hp; subst hp
      obtain ⟨v1, l1, rfl, h1, hv1⟩ := vrl_pre hv
      have : l1 = [] := List.eq_nil_of_length_eq_zero hv1.1
      subst this
      exact ⟨v1, h1, by rw [run_callFunc_extern hf hn hb hx hr]; rfl⟩
    · cases hp
  · cases hp
end Go.CO
