import Derived.Test.YtadagifjonbmjaaGreatDoorKw2
import Derived.Test.YtadagifjonbmjaaGreatDoorKq0
import Derived.KernelRfl
set_option linter.all false
namespace Go.CP
open Go.Proofs
variable [LG] [HK]
theorem t45 : ae Tryz.prog 45 = .slice 3 1 8 [.nu .i64 0] := by kernel_rfl
theorem KP : ae Tryz.prog 26 = .slice 45 1 24 [.nils] := by kernel_rfl
theorem z3 : au Tryz.prog 3 = some (1, false) := by kernel_rfl
theorem z45 : au Tryz.prog 45 = some (1, false) := by kernel_rfl
theorem nE {P : Program} {t : TypeId} (x y : Int) : ac P .lss t (.nu .i64 x) (.nu .i64 y) = some (.bo (!(cr y x))) := rfl
theorem aO {P : Program} {t : TypeId} (x y : Int) : ac P .gtr t (.nu .i64 x) (.nu .i64 y) = some (.bo (!(cr x y))) := rfl
theorem nF {P : Program} {t : TypeId} (x y : Int) : ac P .eql t (.nu .i64 x) (.nu .i64 y) = some (.bo (eu x y)) := rfl
theorem nG {P : Program} {t : TypeId} (x y : Int) : ac P .neq t (.nu .i64 x) (.nu .i64 y) = some (.bo (!(eu x y))) := rfl
theorem cI {P : Program} {t : TypeId} {i : Nat} (hi : i < 9223372036854775807) : ac P .add t (.nu .i64 (.ofNat i)) (.nu .i64 1) = some (.nu .i64 (.ofNat (i + 1))) := by
 show some (fK .i64 (Int.ofNat i + 1)) = _
 rw [dO]; exact congrArg _ (congrArg _ (eQ (i + 1) (by omega)))
theorem ik {a b : Nat} (h : a ≤ b) : Nat.ble a b = true := Nat.ble_eq_true_of_le h
theorem il {a b : Nat} (h : b < a) : Nat.ble a b = false := by
 cases hq : Nat.ble a b with
 | false => rfl
 | true => have := Nat.le_of_ble_eq_true hq; omega
theorem aV {P : Program} {t : TypeId} {x y : Nat} (h : x < y) : ac P .lss t (.nu .i64 (.ofNat x)) (.nu .i64 (.ofNat y)) = some (.bo true) := by
 rw [nE, show cr (.ofNat y) (.ofNat x) = Nat.ble y x from rfl, il h]; rfl
theorem bu {P : Program} {t : TypeId} {x y : Nat} (h : y ≤ x) : ac P .lss t (.nu .i64 (.ofNat x)) (.nu .i64 (.ofNat y)) = some (.bo false) := by
 rw [nE, show cr (.ofNat y) (.ofNat x) = Nat.ble y x from rfl, ik h]; rfl
theorem ck {K : Ctx} {h : Hp} {f : Nat} {args : List CV} {fn : Func} {r : CV} {vs : List CV} {h1 : Hp} {s1 : Fr} {e : Exit} (hf : K.P.funcs[f]? = some fn) (hb : fn.body.isSome = true) (hm : K.memo f = []) (hsp : ∀ args h, K.spec f args h = none) (hl : Nat.ble args.length fn.ntmps = true) (a : Runs K f fn.ntmps none (an fn) (entry 0 args) h e s1 h1) (he : e = .normal ∨ e = .ret) (hn : h.n ≤ h1.n) (hs : s1.at ai = .undef) (hr : gf K.P s1 h1 fn.results.toList = some vs) (hp : ib vs = r) : Comes K f args h r h1 := by
 obtain ⟨c, hc⟩ := Option.isSome_iff_exists.1 hb
 have hbo : an fn = c := by simp [an, hc]
 rw [hbo] at a
 exact Comes.of hf hc hm hsp hl a he hn (by rw [hs]; rfl) hr hp
def uI (f : Nat) : Bool := Nat.beq f 72 || Nat.beq f 90 || Nat.beq f 108 || Nat.beq f 134 || Nat.beq f 181 || Nat.beq f 53 || Nat.beq f 34 || Nat.beq f 36 || Nat.beq f 37 || Nat.beq f 41
structure Std (K : Ctx) : Prop where
 hk : ∀ o, HK.keep o = false
 hP : K.P = Tryz.prog
 memo : ∀ f, f ≠ 14 → K.memo f = []
 spec : ∀ (f : Nat) (_ : uI f = false := by rfl) (args : List CV) (h : Hp), K.spec f args h = none
 prim : ∀ f args, K.prim f args = none
 pl : uH K
theorem Std.go {K : Ctx} (H : Std K) {h : Hp} {f : Nat} {args : List CV} {fn : Func} {r : CV} {vs : List CV} {h1 : Hp} {s1 : Fr} {e : Exit} (hf : K.P.funcs[f]? = some fn) (a : Runs K f fn.ntmps none (an fn) (entry 0 args) h e s1 h1) (he : e = .normal ∨ e = .ret) (hn : h.n ≤ h1.n) (hs : s1.at ai = .undef) (hr : gf K.P s1 h1 fn.results.toList = some vs) (hp : ib vs = r) (hb : fn.body.isSome = true := by rfl) (hl : Nat.ble args.length fn.ntmps = true := by rfl) (h14 : f ≠ 14 := by decide) (ht : uI f = false := by rfl) : Comes K f args h r h1 := ck hf hb (H.memo f h14) (H.spec f ht) hl a he hn hs hr hp
section
variable {K : Ctx} {h : Hp}
theorem oD (H : Std K) {x : CV} {cs : List CV} (r : Row h x cs) : aB h x (ae K.P 45) = some (.nu .i64 (.ofNat cs.length)) := by rw [H.hP, t45]; exact r.len
theorem LK (H : Std K) {x : CV} {cs : List CV} (r : Row h x cs) : aB h x (ae K.P 26) = some (.nu .i64 (.ofNat cs.length)) := by rw [H.hP, KP]; exact r.len
theorem aw (a : List Int) : (ah a).length = a.length := by simp [ah]
theorem zc (H : Std K) {x : CV} {a : List Int} (r : Row h x (ah a)) {i : Nat} (hi : i < a.length) : ∃ p, ak x (.nu .i64 (.ofNat i)) (ae K.P 45) = some p ∧ ao h p (au K.P 3) = some (.nu .i64 a[i]) := by
 obtain ⟨k, o, h1, h2⟩ := r.at (i := i) (by rw [aw]; exact hi) (e := 3) (b := 8) (z := [.nu .i64 0])
 refine ⟨_, by rw [H.hP, t45]; exact h1, ?_⟩
 rw [H.hP, z3, h2]; simp [ah]
theorem L3 (H : Std K) {x : CV} {xs : List CV} (r : Row h x xs) {i : Nat} (hi : i < xs.length) : ∃ p, ak x (.nu .i64 (.ofNat i)) (ae K.P 26) = some p ∧ ao h p (au K.P 45) = some xs[i] := by
 obtain ⟨k, o, h1, h2⟩ := r.at (i := i) hi (e := 45) (b := 24) (z := [.nils])
 exact ⟨_, by rw [H.hP, KP]; exact h1, by rw [H.hP, z45, h2]⟩
def cC : List Int → List Int → Int
 | x :: a, y :: b => match cr y x with
  | false => -1
  | true => match cr x y with
   | false => 1
   | true => cC a b
 | _, _ => 0
def aZ (a b : List Int) : Int := if a.length = b.length then cC a b else if a.length < b.length then -1 else 1
theorem Ef (H : Std K) {a b : List Int} (hab : a.length = b.length) (hbig : a.length < 4611686018427387904) {x y : CV} (ha : Row h x (ah a)) (hb : Row h y (ah b)) : ∀ (m i : Nat) (s : Fr), i + m = a.length → s.at 0 = x → s.at 1 = y → s.at 5 = .nu .i64 (.ofNat i) → s.at ai = .undef →
  ∃ e s', iZ K [1, 1, 0, 1, 0] s h e s' h ∧ s'.at ai = .undef ∧ ((e = .exit 0 ∧ cC (a.drop i) (b.drop i) = 0) ∨ (e = .ret ∧ s'.at 4 = .nu .i64 (cC (a.drop i) (b.drop i)))) := by
 have hk := H.hk
 have hlen := oD H ha
 rw [aw] at hlen
 intro m
 induction m with
 | zero =>
  intro i s him h0 h1 h5 hs
  have hn : i = a.length := by omega
  subst hn
  refine ⟨_, _, aH (aE (Runs.seq (Au (h := h) hk h5 h0 hlen (bu (Nat.le_refl _))) (Runs.condF rfl Runs.exit)) (by simp)) (by simp), hs, .inl ⟨rfl, ?_⟩⟩
  rw [List.drop_of_length_le (Nat.le_refl _)]; simp [cC]
 | succ m ih =>
  intro i s him h0 h1 h5 hs
  have hi : i < a.length := by omega
  have hib : i < b.length := by omega
  have hda : a.drop i = a[i] :: a.drop (i + 1) := List.drop_eq_getElem_cons hi
  have hdb : b.drop i = b[i] :: b.drop (i + 1) := List.drop_eq_getElem_cons hib
  obtain ⟨p, hp1, hp2⟩ := zc H ha hi
  obtain ⟨q, hq1, hq2⟩ := zc H hb hib
  have r1 := Runs.seq (Au (h := h) hk h5 h0 hlen (aV hi)) (Runs.condT (o := .tmp 19) (y := .exit 0) rfl Runs.skip)
  have r2 := fun (s1 : Fr) (g0 : s1.at 0 = x) (g1 : s1.at 1 = y) (g5 : s1.at 5 = .nu .i64 (.ofNat i)) => Jd (h := h) hk H.pl.p38_8 g0 g5 g1 hp1 hp2 (dS _) hq1 hq2 (nE a[i] b[i])
  have r3 := fun (s1 : Fr) (g0 : s1.at 0 = x) (g1 : s1.at 1 = y) (g5 : s1.at 5 = .nu .i64 (.ofNat i)) => Gh (h := h) hk H.pl.p38_10 g0 g5 g1 hp1 hp2 (dS _) hq1 hq2 (aO a[i] b[i])
  cases hlt : cr b[i] a[i] with
  | false =>
   rw [hlt] at r2
   refine ⟨.ret, _, aH (Runs.seq r1 (aE (aG (aE (Runs.seq (r2 _ h0 h1 h5) (Runs.condT rfl (Runs.seq (Je (h := h) hk) Runs.ret))) (by simp))) (by simp))) (by simp), hs, .inr ⟨rfl, ?_⟩⟩
   rw [hda, hdb]
   simp only [cC, hlt]
   rfl
  | true =>
   rw [hlt] at r2
   cases hgt : cr a[i] b[i] with
   | false =>
    rw [hgt] at r3
    refine ⟨.ret, _, aH (Runs.seq r1 (aE (aG (Runs.seq (Runs.seq (r2 _ h0 h1 h5) (Runs.condF rfl Runs.skip)) (Runs.seq (r3 _ h0 h1 h5) (Runs.condT rfl (Runs.seq (Gi (h := h) hk) Runs.ret))))) (by simp))) (by simp), hs, .inr ⟨rfl, ?_⟩⟩
    rw [hda, hdb]
    simp only [cC, hlt, hgt]
    rfl
   | true =>
    rw [hgt] at r3
    have step : ∃ s4, iZ K [1, 1, 0, 1, 0, 0] s h .normal s4 h ∧ s4.at 0 = x ∧ s4.at 1 = y ∧ s4.at 5 = .nu .i64 (.ofNat (i + 1)) ∧ s4.at ai = .undef :=
     ⟨_, Runs.seq r1 (Runs.seq (aF (Runs.seq (Runs.seq (r2 _ h0 h1 h5) (Runs.condF rfl Runs.skip)) (Runs.seq (r3 _ h0 h1 h5) (Runs.condF rfl Runs.skip)))) (Jf (h := h) hk h5 (cI (by omega)))), h0, h1, rfl, hs⟩
    obtain ⟨s4, r4, g0, g1, g5, gs⟩ := step
    obtain ⟨e, s', r5, hs', hr⟩ := ih (i + 1) s4 (by omega) g0 g1 g5 gs
    refine ⟨e, s', Runs.loop r4 r5, hs', ?_⟩
    rw [hda, hdb]
    simp only [cC, hlt, hgt]
    exact hr
theorem Ic (a b : Nat) : eu (.ofNat a) (.ofNat b) = Nat.beq a b := rfl
theorem tu (H : Std K) {a b : List Int} (hbig : a.length < 4611686018427387904) {x y : CV} (ha : Row h x (ah a)) (hb : Row h y (ah b)) : Comes K 38 [x, y] h (.nu .i64 (aZ a b)) h := by
 have hk := H.hk
 have hm := H.memo 38 (by decide)
 have hsp := H.spec 38
 have hf : K.P.funcs[38]? = some Tryz.f38 := by rw [H.hP]; exact Tryz.func38
 have hla := oD H ha
 have hlb := oD H hb
 rw [aw] at hla hlb
 have o10 := nG (P := K.P) (t := 3) (Int.ofNat a.length) (Int.ofNat b.length)
 rw [Ic] at o10
 by_cases hab : a.length = b.length
 · rw [show Nat.beq a.length b.length = true by rw [hab]; exact Nat.beq_refl _] at o10
   have pre : ∃ s1, iZ K [1, 0] (T.set (entry 0 [x, y]) 4 (.nu .i64 0)) h .normal s1 h ∧ s1.at 0 = x ∧ s1.at 1 = y ∧ s1.at ai = .undef :=
    ⟨_, Runs.seq (vh (h := h) hk rfl rfl hla hlb o10) (Runs.condF rfl Runs.skip), rfl, rfl, rfl⟩
   obtain ⟨s1, r1, g0, g1, gs⟩ := pre
   obtain ⟨e, s2, r2, hs2, hr⟩ := Ef H hab hbig ha hb a.length 0 (T.set s1 5 (.nu .i64 0)) (by omega) g0 g1 rfl gs
   have hcmp : aZ a b = cC (a.drop 0) (b.drop 0) := by simp [aZ, hab]
   rcases hr with ⟨rfl, h0⟩ | ⟨rfl, h4⟩
   · rw [hcmp, h0]
     exact ck hf rfl hm hsp rfl (Runs.seq (ql (h := h) hk) (Runs.seq r1 (Runs.seq (Runs.seq (At (h := h) hk) (aS r2)) (Runs.seq (Gj (h := h) hk) Runs.ret)))) (.inr rfl) (Nat.le_refl _) hs2 rfl rfl
   · rw [hcmp]
     refine ck hf rfl hm hsp rfl (Runs.seq (ql (h := h) hk) (Runs.seq r1 (aE (Runs.seq (At (h := h) hk) (aG r2)) (by simp)))) (.inr rfl) (Nat.le_refl _) hs2 (vs := [s2.at 4]) rfl ?_
     exact h4
 · rw [show Nat.beq a.length b.length = false by
    cases hq : Nat.beq a.length b.length with
    | false => rfl
    | true => exact absurd (Nat.eq_of_beq_eq_true hq) hab] at o10
   by_cases hlt : a.length < b.length
   · have hcmp : aZ a b = -1 := by simp [aZ, hab, hlt]
     rw [hcmp]
     exact ck hf rfl hm hsp rfl (Runs.seq (ql (h := h) hk) (aE (Runs.seq (vh (h := h) hk rfl rfl hla hlb o10) (Runs.condT rfl (aE (Runs.seq (As (h := h) hk rfl rfl hla hlb (aV hlt)) (Runs.condT rfl (Runs.seq (Jb (h := h) hk) Runs.ret))) (by simp)))) (by simp))) (.inr rfl) (Nat.le_refl _) rfl rfl rfl
   · have hcmp : aZ a b = 1 := by simp [aZ, hab, hlt]
     rw [hcmp]
     exact ck hf rfl hm hsp rfl (Runs.seq (ql (h := h) hk) (aE (Runs.seq (vh (h := h) hk rfl rfl hla hlb o10) (Runs.condT rfl (Runs.seq (Runs.seq (As (h := h) hk rfl rfl hla hlb (bu (by omega))) (Runs.condF rfl Runs.skip)) (Runs.seq (Jc (h := h) hk) Runs.ret)))) (by simp))) (.inr rfl) (Nat.le_refl _) rfl rfl rfl
end
theorem L4 {P : Program} {N el b t : Nat} {h : Hp} {z0 x v : CV} {cs : List CV} (ht : ae P t = .slice el 1 b [z0]) (ok : HpOk h) (hN : N ≤ h.n) (r : Out N h el x cs) (hv : v.one = true) (hb : b ≤ 64) (hn : cs.length < 1099511627776) :
  ∃ F B x' h', aC 1 [(0, v)] (ae P t) = some (F, B) ∧ be (h.push B) x (F h.n) (ae P t) (ae P t) = some (x', h') ∧ Out N h' el x' (cs ++ [v]) ∧ Same N h h' ∧ HpOk h' := by
 have r' : Out N (h.push (.cells [v] 0 el)) el x cs := r.mono (Same.push (Nat.le_refl _) _) (Nat.le_refl _)
 have hb2 : (cs.length + [v].length) * b ≤ 70368744177664 := by
  have : (cs.length + 1) * b ≤ 1099511627776 * 64 := Nat.mul_le_mul (by omega) hb
  simpa using this
 obtain ⟨x', h', h1, h2, h3, h4⟩ := r'.app (z := [z0]) (t' := .slice el 1 b [z0]) (bytes := b) (ok.push _) (by simp; omega) (lr (h := h) (v := v) (el := el)) (by simp) (by simp [hv]) rfl ⟨_, _, _, rfl⟩ hb2 (by simp; omega)
 refine ⟨_, _, x', h', by rw [ht]; exact iH hv, by rw [ht]; exact h1, h2, (Same.push hN _).trans h3, h4⟩
section
variable {K : Ctx} {h : Hp}
def jX (a : List Int) (v : Int) : Bool := a.any fun y => eu y v
def jk (s : List Int) : List (List Int) → List (List Int) → Bool → Option (List (List Int))
 | [], out, done => some (if done then out else out ++ [s])
 | a :: r, out, done => match eu (aZ s a) 0 with
  | true => none
  | false => match cr 0 (aZ s a), done with
   | false, false => jk s r (out ++ [s] ++ [a]) true
   | _, _ => jk s r (out ++ [a]) done
def nH (l : List (List Int)) (s : List Int) : List (List Int) := (jk s l [] false).getD l
end
theorem tw {α : Type} : ∀ (cs : List α) (i : Nat) (v : α), setAt cs i [v] = cs.set i v := fun cs i v => by rw [dp, c6]
theorem Out.cell {N el : Nat} {h : Hp} {x : CV} {cs : List CV} (r : Out N h el x cs) {i : Nat} (hi : i < cs.length) : ∃ p, (∀ e b z, ak x (.nu .i64 (.ofNat i)) (.slice e 1 b z) = Option.some p) ∧ ao h p (Option.some (1, false)) = Option.some cs[i] ∧ ∀ v : CV, v.one = true → ∃ h', bt h p v (Option.some (1, false)) = Option.some (.undef, h') ∧ Out N h' el x (cs.set i v) ∧ Same N h h' ∧ (HpOk h → HpOk h') := by
 cases r with
 | nils => simp at hi
 | @some k cs hk hn hne hs =>
  have hb : Nat.blt i cs.length = true := by simpa using hi
  refine ⟨.ptr k (0 + i * 1), fun e b z => by simp only [ak, sU, hb], ?_, fun v hv => ?_⟩
  · show eZ (0 + i * 1) 1 false (h.get k) = _
    rw [hs]
    have h1 : cs[i]? = Option.some cs[i] := List.getElem?_eq_getElem hi
    simp only [eZ, val, Nat.mul_one, Nat.zero_add, Nat.ble_eq_true_of_le (show i + 1 ≤ cs.length by omega), Nat.beq_refl, h1]
  · have hc := dT hv
    have hl : v.cells.length = 1 := by rw [hc]; rfl
    refine ⟨h.set k (.cells (cs.set i v) 1 el), ?_, ?_, Same.set hk _, fun ok => ok.set hn _⟩
    · show db h k (0 + i * 1) 1 v (h.get k) = _
      rw [hs]
      simp only [db, CV.sol, hc, List.all_cons, hv, List.all_nil, Bool.and_self, List.length_singleton, Nat.beq_refl, Nat.mul_one, Nat.zero_add, Nat.ble_eq_true_of_le (show i + 1 ≤ cs.length by omega), tw]
    · have := Out.some (N := N) (h := h.set k (.cells (cs.set i v) 1 el)) (el := el) (k := k) (cs := cs.set i v) hk hn (by intro e; apply hne; have := congrArg List.length e; simp at this; exact this) (by rw [Hp.get_set, if_pos rfl])
      simpa using this
theorem Eg {P : Program} {el b t t' : Nat} {h : Hp} {z0 y : CV} {ys : List CV} (ht : ae P t = .slice el 1 b [z0]) (ht' : ∃ e' b' z', ae P t' = .slice e' 1 b' z') (ok : HpOk h) (r : Row h y ys) (hne : ys ≠ []) (hone : ys.all CV.one = true) (hb : b ≤ 64) (hn : ys.length < 1099511627776) :
  ∃ F B x' h', aC 0 [] (ae P t) = some (F, B) ∧ be (h.push B) (F h.n) y (ae P t) (ae P t') = some (x', h') ∧ Out h.n h' el x' ys ∧ Same h.n h h' ∧ HpOk h' := by
 obtain ⟨e', b', z', ht'⟩ := ht'
 refine ⟨fun k => .sl k 0 0 0, .cells [] 0 el, .sl (h.n + 1) 0 ys.length ys.length, (h.push (.cells [] 0 el)).push (.cells ys 1 el), by rw [ht]; rfl, ?_, ?_, (Same.push (Nat.le_refl _) _).trans (Same.push (by simp) _), (ok.push _).push _⟩
 · rw [ht, ht']
   have r' : Row (h.push (.cells [] 0 el)) y ys := r.mono (Same.push (Nat.le_refl _) _) ok (Nat.le_refl _)
   have hcells := r'.cells
   have hlen := r'.lenV
   have hm : Nat.beq ys.length 0 = false := by
    cases ys with
    | nil => exact absurd rfl hne
    | cons a l => rfl
   have hm2 : Nat.ble ys.length 0 = false := il (by cases ys with | nil => exact absurd rfl hne | cons a l => simp)
   have hb2 : ys.length * b ≤ 70368744177664 := by
    have : ys.length * b ≤ 1099511627776 * 64 := Nat.mul_le_mul (by omega) hb
    omega
   have hc : (ys.all CV.one && Nat.beq [z0].length 1 && Nat.blt 0 1 && Nat.ble ((CP.lenV (.sl h.n 0 0 0) + ys.length) * b) 70368744177664 && Nat.ble (CP.lenV (.sl h.n 0 0 0) + ys.length) 4611686018427387904) = true := by
    rw [hone, show CP.lenV (.sl h.n 0 0 0) = 0 from rfl, Nat.zero_add, Nat.ble_eq_true_of_le hb2, Nat.ble_eq_true_of_le (by omega)]; rfl
   have hg : (h.push (.cells [] 0 el)).get h.n = .cells [] 0 el := by rw [ag, if_pos rfl]
   have hz : Nat.ble (0 + 0 * 1) ([] : List CV).length = true := rfl
   have ht2 : fX ([] : List CV) 0 0 0 = true := rfl
   simp only [be, gV, hcells, hlen, hc, eC, hm, Nat.zero_add, hm2, jD, hg, hz, ht2]
   simp [sub]
 · have := Out.some (N := h.n) (h := (h.push (.cells [] 0 el)).push (.cells ys 1 el)) (el := el) (k := h.n + 1) (cs := ys) (by omega) (by simp) hne (by rw [ag, if_pos (by simp)])
   exact this
def yn (c : List Int) (j : Nat) : List Int := (c.set j (c.getD (j + 1) 0)).set (j + 1) (c.getD j 0)
def mh : List Int → Nat → List Int
 | c, 0 => c
 | c, j + 1 => match cr (c.getD j 0) (c.getD (j + 1) 0) with
  | true => c
  | false => mh (yn c j) j
def jY : Nat → Nat → List Int → List Int
 | 0, _, c => c
 | m + 1, i, c => jY m (i + 1) (mh c i)
def sortI (c : List Int) : List Int := jY c.length 0 c
theorem ml (c : List Int) (j : Nat) : (yn c j).length = c.length := by simp [yn]
theorem io : ∀ (j : Nat) (c : List Int), (mh c j).length = c.length
 | 0, c => rfl
 | j + 1, c => by
  simp only [mh]
  split
  · rfl
  · rw [io j, ml]
theorem yo {P : Program} {t : TypeId} {i : Nat} (hi : i < 9223372036854775807) : ac P .sub t (.nu .i64 (.ofNat (i + 1))) (.nu .i64 1) = some (.nu .i64 (.ofNat i)) := by
 show some (fK .i64 (Int.ofNat (i + 1) - 1)) = _
 rw [dO, show Int.ofNat (i + 1) - 1 = Int.ofNat i by simp]; exact congrArg _ (congrArg _ (eQ i (by omega)))
section
variable {K : Ctx} {h : Hp}
theorem vQ (H : Std K) {N : Nat} {x : CV} {c : List Int} (r : Out N h 3 x (ah c)) {i : Nat} (hi : i < c.length) : ∃ p, ak x (.nu .i64 (.ofNat i)) (ae K.P 45) = some p ∧ ao h p (au K.P 3) = some (.nu .i64 (c.getD i 0)) ∧ ∀ v, ∃ h', bt h p (.nu .i64 v) (au K.P 3) = some (.undef, h') ∧ Out N h' 3 x (ah (c.set i v)) ∧ Same N h h' ∧ (HpOk h → HpOk h') := by
 obtain ⟨p, h1, h2, h3⟩ := r.cell (i := i) (by rw [aw]; exact hi)
 refine ⟨p, by rw [H.hP, t45]; exact h1 _ _ _, ?_, fun v => ?_⟩
 · rw [H.hP, z3, h2]; simp [ah, List.getD_eq_getElem?_getD, List.getElem?_eq_getElem hi]
 · obtain ⟨h', g1, g2, g3, g4⟩ := h3 (.nu .i64 v) rfl
   refine ⟨h', by rw [H.hP, z3, g1], ?_, g3, g4⟩
   have : (ah c).set i (.nu .i64 v) = ah (c.set i v) := by simp [ah, List.map_set]
   rw [← this]; exact g2
theorem jZ (a : List Int) : (ah a).all CV.one = true := by
 induction a with
 | nil => rfl
 | cons x l ih => exact ih
end
theorem Fx {n : Int} (h1 : -9223372036854775808 ≤ n) (h2 : n < 9223372036854775808) : IntKind.i64.wrap n = n := by
 cases n with
 | ofNat a => exact eQ a (by simp at h2; omega)
 | negSucc a => exact zU a (by rw [Int.negSucc_eq] at h1; omega)
theorem sr {P : Program} {t : TypeId} {x y : Int} (h1 : -9223372036854775808 ≤ x + y) (h2 : x + y < 9223372036854775808) : ac P .add t (.nu .i64 x) (.nu .i64 y) = some (.nu .i64 (x + y)) := by
 show some (fK .i64 (x + y)) = _
 rw [dO, Fx h1 h2]
theorem B0 (c : List Int) (v : Int) : ah c ++ [.nu .i64 v] = ah (c ++ [v]) := by simp [ah]
section
variable {K : Ctx} {h : Hp}
theorem Same.le {N M : Nat} {h h' : Hp} (S : Same M h h') (hN : N ≤ M) : Same N h h' := ⟨S.n, fun k hk => S.get k (by omega)⟩
theorem vR {N M el : Nat} {h : Hp} {x : CV} {cs : List CV} (hNM : M ≤ N) (r : Out N h el x cs) : Out M h el x cs := by
 cases r with
 | nils => exact .nils
 | @some k cs hk hn hne hs => exact .some (by omega) hn hne hs
end
theorem t46 : ae Tryz.prog 46 = .slice 3 1 8 [.nu .i64 0] := by kernel_rfl
theorem t22 : ae Tryz.prog 22 = .slice 46 1 24 [.nils] := by kernel_rfl
theorem z46 : au Tryz.prog 46 = some (1, false) := by kernel_rfl
def oE (out : List (List Int)) (f : List (List Int)) : List (List Int) := f.foldl nH out
section
variable {K : Ctx} {h : Hp}
theorem fc (H : Std K) {x : CV} {cs : List CV} (r : Row h x cs) : aB h x (ae K.P 22) = some (.nu .i64 (.ofNat cs.length)) := by rw [H.hP, t22]; exact r.len
theorem cA (H : Std K) {x : CV} {cs : List CV} (r : Row h x cs) : aB h x (ae K.P 46) = some (.nu .i64 (.ofNat cs.length)) := by rw [H.hP, t46]; exact r.len
theorem j8 (H : Std K) {x : CV} {xs : List CV} (r : Row h x xs) {i : Nat} (hi : i < xs.length) : ∃ p, ak x (.nu .i64 (.ofNat i)) (ae K.P 22) = some p ∧ ao h p (au K.P 46) = some xs[i] := by
 obtain ⟨k, o, h1, h2⟩ := r.at (i := i) hi (e := 46) (b := 24) (z := [.nils])
 exact ⟨_, by rw [H.hP, t22]; exact h1, by rw [H.hP, z46, h2]⟩
theorem gM (H : Std K) {x : CV} {a : List Int} (r : Row h x (ah a)) {i : Nat} (hi : i < a.length) : ∃ p, ak x (.nu .i64 (.ofNat i)) (ae K.P 46) = some p ∧ ao h p (au K.P 3) = some (.nu .i64 a[i]) := by
 obtain ⟨k, o, h1, h2⟩ := r.at (i := i) (by rw [aw]; exact hi) (e := 3) (b := 8) (z := [.nu .i64 0])
 refine ⟨_, by rw [H.hP, t46]; exact h1, ?_⟩
 rw [H.hP, z3, h2]; simp [ah]
end
theorem mL : ∀ (m i : Nat) (c : List Int), (jY m i c).length = c.length
 | 0, i, c => rfl
 | m + 1, i, c => by rw [jY, mL, io]
theorem vS (c : List Int) : (sortI c).length = c.length := mL _ _ _
structure OkS (a : List Int) : Prop where
 ne : a ≠ []
 le : a.length ≤ 5
 rng : ∀ v ∈ a, 0 ≤ v ∧ v < 64
 asc : a.Pairwise (· < ·)
theorem pK {P : Program} {t : TypeId} (x y : Int) : ac P .geq t (.nu .i64 x) (.nu .i64 y) = some (.bo (cr y x)) := rfl
theorem nI {P : Program} {t : TypeId} (x y : Int) : ac P .leq t (.nu .i64 x) (.nu .i64 y) = some (.bo (cr x y)) := rfl
theorem fZ {a b : Int} (h : a ≤ b) : cr a b = true := by rw [de]; exact decide_eq_true h
theorem fE {a b : Int} (h : b < a) : cr a b = false := by rw [de]; exact decide_eq_false (by omega)
theorem ip {a b : Int} (h : a = b) : eu a b = true := by rw [fQ]; exact decide_eq_true h
theorem gN {a b : Int} (h : a ≠ b) : eu a b = false := by rw [fQ]; exact decide_eq_false h
theorem Row.ceq {h : Hp} {x : CV} {cs : List CV} (r : Row h x cs) : CP.ceq x x = true := by
 cases r with
 | nils => rfl
 | sle => rfl
 | none k o c => exact eR _ _ _ _
 | some => exact eR _ _ _ _
section
variable {K : Ctx} {h : Hp}
theorem wY (H : Std K) {v : Int} (hv : 0 ≤ v ∧ v < 64) : Comes K 139 [.nu .i64 v] h (.bo false) h := by
 have hf : K.P.funcs[139]? = some Tryz.f139 := by rw [H.hP]; exact Tryz.func139
 have o4 := nE (P := K.P) (t := 3) v 0
 have o7 := pK (P := K.P) (t := 3) v 64
 rw [fZ hv.1] at o4
 rw [fE hv.2] at o7
 exact H.go hf (vI H.hk H.prim H.pl (s := entry 0 [.nu .i64 v]) rfl o4 o7 rfl) (.inr rfl) (Nat.le_refl _) rfl rfl rfl
theorem B7 (H : Std K) {a : List Int} {G : FuncId} {C : List CV} (hbig : a.length < 4611686018427387904) {x : CV} (ha : Row h x (ah a)) (hg : ∀ v ∈ a, Comes K G ([.nu .i64 v] ++ C) h (.bo false) h) : ∀ (m i : Nat) (s : Fr), i + m = a.length → s.at 0 = x → s.at 1 = .fn G C → s.at 7 = .nu .i64 (.ofNat a.length) → s.at 8 = .nu .i64 (.ofNat i) → s.at ai = .undef →
  ∃ s', fN K [1, 0, 1, 0] s h (.exit 0) s' h ∧ s'.at ai = .undef := by
 intro m
 induction m with
 | zero =>
  intro i s him g0 g1 g7 g8 gs
  exact ⟨_, aH (mK H.hk H.prim H.pl g8 g7 (bu (by omega))) (by simp), gs⟩
 | succ m ih =>
  intro i s him g0 g1 g7 g8 gs
  have hi : i < a.length := by omega
  obtain ⟨p, hp1, hp2⟩ := zc H ha hi
  obtain ⟨s1, r1, k0, k1, k7, k8, ks⟩ : ∃ s1, fN K [1, 0, 1, 0, 0] s h .normal s1 h ∧ s1.at 0 = x ∧ s1.at 1 = .fn G C ∧ s1.at 7 = .nu .i64 (.ofNat a.length) ∧ s1.at 8 = .nu .i64 (.ofNat (i + 1)) ∧ s1.at ai = .undef :=
   ⟨_, lz H.hk H.prim H.pl g8 g7 g1 g0 (aV hi) hp1 hp2 rfl (hg _ (List.getElem_mem hi)) (cI (by omega)), g0, g1, g7, rfl, gs⟩
  obtain ⟨s', r2, hs'⟩ := ih (i + 1) s1 (by omega) k0 k1 k7 k8 ks
  exact ⟨s', Runs.loop r1 r2, hs'⟩
theorem zd (H : Std K) {a : List Int} {G : FuncId} {C : List CV} (hbig : a.length < 4611686018427387904) {x : CV} (ha : Row h x (ah a)) (hg : ∀ v ∈ a, Comes K G ([.nu .i64 v] ++ C) h (.bo false) h) : Comes K 166 [x, .fn G C] h (.nu .i64 (-1)) h := by
 have hf : K.P.funcs[166]? = some Tryz.f166 := by rw [H.hP]; exact Tryz.func166
 have hlen := oD H ha
 rw [aw] at hlen
 obtain ⟨s1, r1, k0, k1, k7, k8, ks⟩ : ∃ s1, fN K [1, 0, 0] (T.set (entry 0 [x, .fn G C]) 4 (.nu .i64 0)) h .normal s1 h ∧ s1.at 0 = x ∧ s1.at 1 = .fn G C ∧ s1.at 7 = .nu .i64 (.ofNat a.length) ∧ s1.at 8 = .nu .i64 (.ofNat 0) ∧ s1.at ai = .undef := ⟨_, xO H.hk rfl hlen, rfl, rfl, rfl, rfl, rfl⟩
 obtain ⟨s2, r2, hs2⟩ := B7 H hbig ha hg a.length 0 s1 (by omega) k0 k1 k7 k8 ks
 exact H.go hf (Runs.seq (rj H.hk) (Runs.seq (Runs.seq r1 (aS r2)) (vH H.hk H.prim H.pl))) (.inr rfl) (Nat.le_refl _) hs2 rfl rfl
theorem wZ (H : Std K) {a : List Int} {G : FuncId} {C : List CV} (hbig : a.length < 4611686018427387904) {x : CV} (ha : Row h x (ah a)) (hg : ∀ v ∈ a, Comes K G ([.nu .i64 v] ++ C) h (.bo false) h) : Comes K 138 [x, .fn G C] h (.bo false) h := by
 have hf : K.P.funcs[138]? = some Tryz.f138 := by rw [H.hP]; exact Tryz.func138
 exact H.go hf (A8 H.hk H.prim H.pl (s := entry 0 [x, .fn G C]) rfl rfl (zd H hbig ha hg) rfl) (.inr rfl) (Nat.le_refl _) rfl rfl rfl
theorem su (H : Std K) {a : List Int} (hne : a ≠ []) (hle : a.length ≤ 5) (hr : ∀ v ∈ a, 0 ≤ v ∧ v < 64) {x : CV} (ha : Row h x (ah a)) : Comes K 110 [x] h (.nu .i64 0) h := by
 have hf : K.P.funcs[110]? = some Tryz.f110 := by rw [H.hP]; exact Tryz.func110
 have hlen := oD H ha
 rw [aw] at hlen
 have hl : a.length ≠ 0 := fun e => hne (List.eq_nil_of_length_eq_zero e)
 have o6 := nF (P := K.P) (t := 3) (Int.ofNat a.length) 0
 rw [gN (by simpa using hl)] at o6
 have o10 := aO (P := K.P) (t := 3) (Int.ofNat a.length) 5
 rw [fZ (by simp; omega)] at o10
 exact H.go hf (qt H.hk H.prim H.pl (s := entry 0 [x]) rfl hlen o6 o10 (wZ H (by omega) ha fun v hv => wY H (hr v hv))) (.inr rfl) (Nat.le_refl _) rfl rfl rfl
theorem ze (H : Std K) {a : List Int} (hok : OkS a) {x y : CV} (ha : Row h x (ah a)) (hy : Row h y (ah (a.drop 1))) : ∀ (m i : Nat) (s : Fr), i + m = a.length - 1 → s.at 0 = x → s.at 12 = y → s.at 13 = .nu .i64 (.ofNat (a.length - 1)) → s.at 14 = .nu .i64 (.ofNat i) → s.at ai = .undef →
  ∃ s', fq K [1, 1, 0, 1, 0] s h (.exit 0) s' h ∧ s'.at ai = .undef := by
 have hle := hok.le
 intro m
 induction m with
 | zero =>
  intro i s him g0 g12 g13 g14 gs
  exact ⟨_, aH (mJ H.hk H.prim H.pl g14 g13 (bu (by omega))) (by simp), gs⟩
 | succ m ih =>
  intro i s him g0 g12 g13 g14 gs
  have hi : i < a.length := by omega
  have hi1 : i < (a.drop 1).length := by simp; omega
  obtain ⟨p, hp1, hp2⟩ := gM H ha hi
  obtain ⟨q, hq1, hq2⟩ := gM H hy hi1
  have hlt : a[i] < (a.drop 1)[i] := by
   rw [List.getElem_drop]
   exact List.pairwise_iff_getElem.1 hok.asc i (1 + i) hi (by omega) (by omega)
  have o24 := nI (P := K.P) (t := 3) (a.drop 1)[i] a[i]
  rw [fE hlt] at o24
  obtain ⟨s1, r1, k0, k12, k13, k14, ks⟩ : ∃ s1, fq K [1, 1, 0, 1, 0, 0] s h .normal s1 h ∧ s1.at 0 = x ∧ s1.at 12 = y ∧ s1.at 13 = .nu .i64 (.ofNat (a.length - 1)) ∧ s1.at 14 = .nu .i64 (.ofNat (i + 1)) ∧ s1.at ai = .undef :=
   ⟨_, ly H.hk H.prim H.pl g14 g13 g12 g0 (aV (by omega)) hq1 hq2 hp1 hp2 o24 (cI (by omega)), g0, g12, g13, rfl, gs⟩
  obtain ⟨s', r2, hs'⟩ := ih (i + 1) s1 (by omega) k0 k12 k13 k14 ks
  exact ⟨s', Runs.loop r1 r2, hs'⟩
theorem B8 (a : List Int) (n : Nat) : (ah a).drop n = ah (a.drop n) := by simp [ah, List.map_drop]
theorem B9 (a : List Int) (n : Nat) : (ah a).take n = ah (a.take n) := by simp [ah, List.map_take]
theorem ep {a : List Int} (h : a ≠ []) : ah a ≠ [] := by simpa [ah] using h
theorem oF (H : Std K) {a : List Int} (hne : a ≠ []) {x : CV} (ha : Row h x (ah a)) {lo hi : Option CV} {i j : Nat} (hlo : gk lo 0 = some i) (hhi : gk hi a.length = some j) (hij : i ≤ j) (hj : j ≤ a.length) : ∃ y, bC lo hi h x (ae K.P 46) = some y ∧ Row h y (ah ((a.drop i).take (j - i))) := by
 obtain ⟨y, h1, h2⟩ := ha.cut (ep hne) (lo := lo) (hi := hi) (a := i) (b := j) (e := 3) (by' := 8) (z := [.nu .i64 0]) hlo (by rw [aw]; exact hhi) hij (by rw [aw]; exact hj)
 rw [B8, B9] at h2
 exact ⟨y, by rw [H.hP, t46]; exact h1, h2⟩
theorem cX (H : Std K) {a : List Int} (hok : OkS a) {x : CV} (ha : Row h x (ah a)) : Comes K 66 [x] h (.nu .i64 0) h := by
 have hf : K.P.funcs[66]? = some Tryz.f66 := by rw [H.hP]; exact Tryz.func66
 have hl : 1 ≤ a.length := by cases hq : a with | nil => exact absurd hq hok.ne | cons => simp
 obtain ⟨y, hy1, hy2⟩ := oF H hok.ne ha (lo := some (.nu .i64 1)) (hi := none) (i := 1) (j := a.length) rfl rfl hl (Nat.le_refl _)
 have ht : (a.drop 1).take (a.length - 1) = a.drop 1 := List.take_of_length_le (by simp)
 rw [ht] at hy2
 have hlen := cA H hy2
 rw [aw, List.length_drop] at hlen
 obtain ⟨s1, r1, j0, js⟩ : ∃ s1, fq K [1, 0] (T.set (entry 0 [x]) 2 (.nu .i64 0)) h .normal s1 h ∧ s1.at 0 = x ∧ s1.at ai = .undef := ⟨_, tj H.hk H.prim H.pl rfl (su H hok.ne hok.le hok.rng ha) rfl, rfl, rfl⟩
 obtain ⟨s2, r2, k0, k12, k13, k14, ks⟩ : ∃ s2, fq K [1, 1, 0, 0] s1 h .normal s2 h ∧ s2.at 0 = x ∧ s2.at 12 = y ∧ s2.at 13 = .nu .i64 (.ofNat (a.length - 1)) ∧ s2.at 14 = .nu .i64 (.ofNat 0) ∧ s2.at ai = .undef := ⟨_, Ay H.hk j0 hy1 hlen, j0, rfl, rfl, rfl, js⟩
 obtain ⟨s3, r3, hs3⟩ := ze H hok ha hy2 (a.length - 1) 0 s2 (by omega) k0 k12 k13 k14 ks
 exact H.go hf (Runs.seq (qm H.hk) (Runs.seq r1 (Runs.seq (Runs.seq r2 (aS r3)) (vE H.hk H.prim H.pl)))) (.inr rfl) (Nat.le_refl _) hs3 rfl rfl
theorem dY (H : Std K) (v : Int) : Comes K 144 [.nu .i64 v] h (.bo false) h := by
 have hf : K.P.funcs[144]? = some Tryz.f144 := by rw [H.hP]; exact Tryz.func144
 have o5 := nG (P := K.P) (t := 3) v v
 rw [ip rfl] at o5
 exact H.go hf (JU H.hk H.prim H.pl (s := entry 0 [.nu .i64 v]) rfl o5) (.inr rfl) (Nat.le_refl _) rfl rfl rfl
def hY (x y : Int) : Int := if x < y then -1 else if y < x then 1 else 0
theorem mM (H : Std K) (x y : Int) : Comes K 118 [.nu .i64 x, .nu .i64 y] h (.nu .i64 (hY x y)) h := by
 have hf : K.P.funcs[118]? = some Tryz.f118 := by rw [H.hP]; exact Tryz.func118
 have o16 := nE (P := K.P) (t := 3) x y
 have o19 := aO (P := K.P) (t := 3) x y
 unfold hY
 split
 · rename_i hlt
   rw [fE hlt] at o16
   exact H.go hf (y5 H.hk H.prim H.pl (s := entry 0 [.nu .i64 x, .nu .i64 y]) rfl rfl (dY H x) (dY H y) o16) (.inr rfl) (Nat.le_refl _) rfl rfl rfl
 · rename_i hlt
   rw [fZ (by omega)] at o16
   split
   · rename_i hgt
     rw [fE hgt] at o19
     exact H.go hf (wS H.hk H.prim H.pl (s := entry 0 [.nu .i64 x, .nu .i64 y]) rfl rfl (dY H x) (dY H y) o16 o19) (.inr rfl) (Nat.le_refl _) rfl rfl rfl
   · rename_i hgt
     rw [fZ (by omega)] at o19
     exact H.go hf (wT H.hk H.prim H.pl (s := entry 0 [.nu .i64 x, .nu .i64 y]) rfl rfl (dY H x) (dY H y) o16 o19) (.inr rfl) (Nat.le_refl _) rfl rfl rfl
theorem tx (x y : Int) (a b : List Int) : cC (x :: a) (y :: b) = if hY x y = 0 then cC a b else hY x y := by
 unfold hY
 simp only [cC]
 split
 · rename_i h
   rw [de] at h
   have := of_decide_eq_false h
   simp [show x < y by omega]
 · rename_i h
   rw [de] at h
   have h1 := of_decide_eq_true h
   rw [if_neg (show ¬ x < y by omega)]
   split
   · rename_i h2
     rw [de] at h2
     have := of_decide_eq_false h2
     simp [show y < x by omega]
   · rename_i h2
     rw [de] at h2
     have := of_decide_eq_true h2
     simp [show ¬ y < x by omega]
theorem Ca (H : Std K) {a b : List Int} (hab : a.length = b.length) (hbig : a.length < 4611686018427387904) {x y : CV} (ha : Row h x (ah a)) (hb : Row h y (ah b)) : ∀ (m i : Nat) (s : Fr), i + m = a.length → s.at 0 = x → s.at 1 = y → s.at 9 = x → s.at 10 = .nu .i64 (.ofNat a.length) → s.at 11 = .nu .i64 (.ofNat i) → s.at ai = .undef →
  ∃ e s', eJ K [1, 0, 1, 0] s h e s' h ∧ s'.at ai = .undef ∧ ((e = .exit 0 ∧ s'.at 0 = x ∧ s'.at 1 = y ∧ cC (a.drop i) (b.drop i) = 0) ∨ (e = .ret ∧ s'.at 4 = .nu .i64 (cC (a.drop i) (b.drop i)))) := by
 intro m
 have hlb := cA H hb
 rw [aw] at hlb
 induction m with
 | zero =>
  intro i s him g0 g1 g9 g10 g11 gs
  refine ⟨_, _, aH (um H.hk H.prim H.pl g11 g10 (bu (by omega))) (by simp), gs, .inl ⟨rfl, g0, g1, ?_⟩⟩
  rw [List.drop_of_length_le (by omega)]; simp [cC]
 | succ m ih =>
  intro i s him g0 g1 g9 g10 g11 gs
  have hi : i < a.length := by omega
  have hib : i < b.length := by omega
  have hda : a.drop i = a[i] :: a.drop (i + 1) := List.drop_eq_getElem_cons hi
  have hdb : b.drop i = b[i] :: b.drop (i + 1) := List.drop_eq_getElem_cons hib
  obtain ⟨p, hp1, hp2⟩ := gM H ha hi
  obtain ⟨q, hq1, hq2⟩ := gM H hb hib
  have o19 := pK (P := K.P) (t := 3) (Int.ofNat i) (Int.ofNat b.length)
  rw [fE (by simp; omega)] at o19
  have hc := mM (h := h) H a[i] b[i]
  have o28 := nG (P := K.P) (t := 3) (hY a[i] b[i]) 0
  rw [hda, hdb, tx]
  by_cases hz : hY a[i] b[i] = 0
  · rw [ip hz] at o28
    obtain ⟨s1, r1, k0, k1, k9, k10, k11, ks⟩ : ∃ s1, eJ K [1, 0, 1, 0, 0] s h .normal s1 h ∧ s1.at 0 = x ∧ s1.at 1 = y ∧ s1.at 9 = x ∧ s1.at 10 = .nu .i64 (.ofNat a.length) ∧ s1.at 11 = .nu .i64 (.ofNat (i + 1)) ∧ s1.at ai = .undef :=
     ⟨_, qv H.hk H.prim H.pl g11 g10 g9 g1 (aV hi) hp1 hp2 hlb o19 hq1 hq2 hc o28 (cI (by omega)), g0, g1, g9, g10, rfl, gs⟩
    obtain ⟨e, s', r2, hs', hr⟩ := ih (i + 1) s1 (by omega) k0 k1 k9 k10 k11 ks
    refine ⟨e, s', Runs.loop r1 r2, hs', ?_⟩
    rw [if_pos hz]; exact hr
  · rw [gN hz] at o28
    refine ⟨_, _, aH (qu H.hk H.prim H.pl g11 g10 g9 g1 (aV hi) hp1 hp2 hlb o19 hq1 hq2 hc o28) (by simp), gs, .inr ⟨rfl, ?_⟩⟩
    rw [if_neg hz]; rfl
theorem sv (H : Std K) {a b : List Int} (hab : a.length = b.length) (hbig : a.length < 4611686018427387904) {x y : CV} (ha : Row h x (ah a)) (hb : Row h y (ah b)) : Comes K 119 [x, y] h (.nu .i64 (cC a b)) h := by
 have hf : K.P.funcs[119]? = some Tryz.f119 := by rw [H.hP]; exact Tryz.func119
 have hla := cA H ha
 have hlb := cA H hb
 rw [aw] at hla hlb
 obtain ⟨s1, r1, k0, k1, k9, k10, k11, ks⟩ : ∃ s1, eJ K [1, 0, 0] (T.set (entry 0 [x, y]) 4 (.nu .i64 0)) h .normal s1 h ∧ s1.at 0 = x ∧ s1.at 1 = y ∧ s1.at 9 = x ∧ s1.at 10 = .nu .i64 (.ofNat a.length) ∧ s1.at 11 = .nu .i64 (.ofNat 0) ∧ s1.at ai = .undef := ⟨_, GD H.hk rfl hla, rfl, rfl, rfl, rfl, rfl, rfl⟩
 obtain ⟨e, s2, r2, hs2, hr⟩ := Ca H hab hbig ha hb a.length 0 s1 (by omega) k0 k1 k9 k10 k11 ks
 rw [List.drop_zero, List.drop_zero] at hr
 rcases hr with ⟨rfl, j0, j1, hz⟩ | ⟨rfl, h4⟩
 · rw [hz]
   exact H.go hf (Runs.seq (xR H.hk) (Runs.seq (Runs.seq r1 (aS r2)) (y6 H.hk H.prim H.pl j0 j1 hla hlb (bu (by omega))))) (.inr rfl) (Nat.le_refl _) hs2 rfl rfl
 · exact H.go hf (Runs.seq (xR H.hk) (aE (Runs.seq r1 (aG r2)) (by simp))) (.inr rfl) (Nat.le_refl _) hs2 (vs := [s2.at 4]) rfl h4
theorem qA (H : Std K) {a b : List Int} (hbig : a.length < 4611686018427387904) {x y : CV} (ha : Row h x (ah a)) (hb : Row h y (ah b)) : Comes K 74 [x, y] h (.nu .i64 (aZ a b)) h := by
 have hf : K.P.funcs[74]? = some Tryz.f74 := by rw [H.hP]; exact Tryz.func74
 have hla := cA H ha
 have hlb := cA H hb
 rw [aw] at hla hlb
 have hc := mM (h := h) H (Int.ofNat a.length) (Int.ofNat b.length)
 have o12 := nG (P := K.P) (t := 3) (hY (Int.ofNat a.length) (Int.ofNat b.length)) 0
 by_cases hab : a.length = b.length
 · have hz : hY (Int.ofNat a.length) (Int.ofNat b.length) = 0 := by simp [hY, hab]
   rw [ip hz] at o12
   have : aZ a b = cC a b := by simp [aZ, hab]
   rw [this]
   exact H.go hf (Hu H.hk H.prim H.pl (s := entry 0 [x, y]) rfl rfl hla hlb hc o12 (sv H hab hbig ha hb)) (.inr rfl) (Nat.le_refl _) rfl rfl rfl
 · have hz : hY (Int.ofNat a.length) (Int.ofNat b.length) = aZ a b := by
    simp only [hY, aZ, if_neg hab, Int.ofNat_eq_natCast, Int.ofNat_lt]
    split
    · rfl
    · rw [if_pos (by omega)]
   have hne : aZ a b ≠ 0 := by
    simp only [aZ, if_neg hab]; split <;> decide
   rw [hz] at o12 hc
   rw [gN hne] at o12
   exact H.go hf (Ht H.hk H.prim H.pl (s := entry 0 [x, y]) rfl rfl hla hlb hc o12) (.inr rfl) (Nat.le_refl _) rfl rfl rfl
end
end Go.CP
