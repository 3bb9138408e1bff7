import Derived.Test.YtadagifjonbmjaaGreatDoorKw2
import Derived.Test.YtadagifjonbmjaaGreatDoorKq0
import Derived.KernelRfl
set_option linter.all false
namespace Go.CP
open Go.Proofs
variable [LG] [HK]
theorem t45 : ae Tryz.prog 45 = .slice 3 1 8 [.nu .i64 0] := by kernel_rfl
theorem wZ : ae Tryz.prog 26 = .slice 45 1 24 [.nils] := by kernel_rfl
theorem z3 : ar Tryz.prog 3 = some (1, false) := by kernel_rfl
theorem z45 : ar Tryz.prog 45 = some (1, false) := by kernel_rfl
theorem li {P : Program} {t : TypeId} (x y : Int) : ab P .lss t (.nu .i64 x) (.nu .i64 y) = some (.bo (!(cI y x))) := rfl
theorem aP {P : Program} {t : TypeId} (x y : Int) : ab P .gtr t (.nu .i64 x) (.nu .i64 y) = some (.bo (!(cI x y))) := rfl
theorem iW {P : Program} {t : TypeId} (x y : Int) : ab P .eql t (.nu .i64 x) (.nu .i64 y) = some (.bo (dT x y)) := rfl
theorem tq {P : Program} {t : TypeId} (x y : Int) : ab P .neq t (.nu .i64 x) (.nu .i64 y) = some (.bo (!(dT x y))) := rfl
theorem bI {P : Program} {t : TypeId} {i : Nat} (hi : i < 9223372036854775807) : ab P .add t (.nu .i64 (.ofNat i)) (.nu .i64 1) = some (.nu .i64 (.ofNat (i + 1))) := by
 show some (gu .i64 (Int.ofNat i + 1)) = _
 rw [ez]; exact congrArg _ (congrArg _ (fq (i + 1) (by omega)))
theorem cC {a b : Nat} (h : a ≤ b) : Nat.ble a b = true := Nat.ble_eq_true_of_le h
theorem jp {a b : Nat} (h : b < a) : Nat.ble a b = false := by
 cases hq : Nat.ble a b with
 | false => rfl
 | true => have := Nat.le_of_ble_eq_true hq; omega
theorem aM {P : Program} {t : TypeId} {x y : Nat} (h : x < y) : ab P .lss t (.nu .i64 (.ofNat x)) (.nu .i64 (.ofNat y)) = some (.bo true) := by
 rw [li, show cI (.ofNat y) (.ofNat x) = Nat.ble y x from rfl, jp h]; rfl
theorem aY {P : Program} {t : TypeId} {x y : Nat} (h : y ≤ x) : ab P .lss t (.nu .i64 (.ofNat x)) (.nu .i64 (.ofNat y)) = some (.bo false) := by
 rw [li, show cI (.ofNat y) (.ofNat x) = Nat.ble y x from rfl, cC h]; rfl
theorem bO {K : Ctx} {h : Hp} {f : Nat} {args : List CV} {fn : Func} {r : CV} {vs : List CV} {h1 : Hp} {s1 : Fr} {e : Exit} (hf : K.P.funcs[f]? = some fn) (hb : fn.body.isSome = true) (hm : K.memo f = []) (hsp : ∀ args h, K.spec f args h = none) (hl : Nat.ble args.length fn.ntmps = true) (a : Runs K f fn.ntmps none (am fn) (entry 0 args) h e s1 h1) (he : e = .normal ∨ e = .ret) (hn : h.n ≤ h1.n) (hs : s1.at ag = .undef) (hr : fZ K.P s1 h1 fn.results.toList = some vs) (hp : ij vs = r) : Comes K f args h r h1 := by
 obtain ⟨c, hc⟩ := Option.isSome_iff_exists.1 hb
 have hbo : am fn = c := by simp [am, hc]
 rw [hbo] at a
 exact Comes.of hf hc hm hsp hl a he hn (by rw [hs]; rfl) hr hp
def vH (f : Nat) : Bool := Nat.beq f 72 || Nat.beq f 90 || Nat.beq f 108 || Nat.beq f 134 || Nat.beq f 181
structure Std (K : Ctx) : Prop where
 hk : ∀ o, HK.keep o = false
 hP : K.P = Tryz.prog
 memo : ∀ f, f ≠ 14 → K.memo f = []
 spec : ∀ (f : Nat) (_ : vH f = false := by rfl) (args : List CV) (h : Hp), K.spec f args h = none
 prim : ∀ f args, K.prim f args = none
 pl : Al K
theorem Std.go {K : Ctx} (H : Std K) {h : Hp} {f : Nat} {args : List CV} {fn : Func} {r : CV} {vs : List CV} {h1 : Hp} {s1 : Fr} {e : Exit} (hf : K.P.funcs[f]? = some fn) (a : Runs K f fn.ntmps none (am fn) (entry 0 args) h e s1 h1) (he : e = .normal ∨ e = .ret) (hn : h.n ≤ h1.n) (hs : s1.at ag = .undef) (hr : fZ K.P s1 h1 fn.results.toList = some vs) (hp : ij vs = r) (hb : fn.body.isSome = true := by rfl) (hl : Nat.ble args.length fn.ntmps = true := by rfl) (h14 : f ≠ 14 := by decide) (ht : vH f = false := by rfl) : Comes K f args h r h1 := bO hf hb (H.memo f h14) (H.spec f ht) hl a he hn hs hr hp
section
variable {K : Ctx} {h : Hp}
theorem fj (H : Std K) {x : CV} {cs : List CV} (r : Row h x cs) : an h x (ae K.P 45) = some (.nu .i64 (.ofNat cs.length)) := by rw [H.hP, t45]; exact r.len
theorem gK (H : Std K) {x : CV} {cs : List CV} (r : Row h x cs) : an h x (ae K.P 26) = some (.nu .i64 (.ofNat cs.length)) := by rw [H.hP, wZ]; exact r.len
theorem ax (a : List Int) : (ak a).length = a.length := by simp [ak]
theorem p8 (H : Std K) {x : CV} {a : List Int} (r : Row h x (ak a)) {i : Nat} (hi : i < a.length) : ∃ p, ai x (.nu .i64 (.ofNat i)) (ae K.P 45) = some p ∧ ap h p (ar K.P 3) = some (.nu .i64 a[i]) := by
 obtain ⟨k, o, h1, h2⟩ := r.at (i := i) (by rw [ax]; exact hi) (e := 3) (b := 8) (z := [.nu .i64 0])
 refine ⟨_, by rw [H.hP, t45]; exact h1, ?_⟩
 rw [H.hP, z3, h2]; simp [ak]
theorem p9 (H : Std K) {x : CV} {xs : List CV} (r : Row h x xs) {i : Nat} (hi : i < xs.length) : ∃ p, ai x (.nu .i64 (.ofNat i)) (ae K.P 26) = some p ∧ ap h p (ar K.P 45) = some xs[i] := by
 obtain ⟨k, o, h1, h2⟩ := r.at (i := i) hi (e := 45) (b := 24) (z := [.nils])
 exact ⟨_, by rw [H.hP, wZ]; exact h1, by rw [H.hP, z45, h2]⟩
def cE : List Int → List Int → Int
 | x :: a, y :: b => match cI y x with
  | false => -1
  | true => match cI x y with
   | false => 1
   | true => cE a b
 | _, _ => 0
def a8 (a b : List Int) : Int := if a.length = b.length then cE a b else if a.length < b.length then -1 else 1
theorem Fm (H : Std K) {a b : List Int} (hab : a.length = b.length) (hbig : a.length < 4611686018427387904) {x y : CV} (ha : Row h x (ak a)) (hb : Row h y (ak b)) : ∀ (m i : Nat) (s : Fr), i + m = a.length → s.at 0 = x → s.at 1 = y → s.at 5 = .nu .i64 (.ofNat i) → s.at ag = .undef →
  ∃ e s', jc K [1, 1, 0, 1, 0] s h e s' h ∧ s'.at ag = .undef ∧ ((e = .exit 0 ∧ cE (a.drop i) (b.drop i) = 0) ∨ (e = .ret ∧ s'.at 4 = .nu .i64 (cE (a.drop i) (b.drop i)))) := by
 have hk := H.hk
 have hlen := fj H ha
 rw [ax] at hlen
 intro m
 induction m with
 | zero =>
  intro i s him h0 h1 h5 hs
  have hn : i = a.length := by omega
  subst hn
  refine ⟨_, _, aE (aC (Runs.seq (BT (h := h) hk h5 h0 hlen (aY (Nat.le_refl _))) (Runs.condF rfl Runs.exit)) (by simp)) (by simp), hs, .inl ⟨rfl, ?_⟩⟩
  rw [List.drop_of_length_le (Nat.le_refl _)]; simp [cE]
 | succ m ih =>
  intro i s him h0 h1 h5 hs
  have hi : i < a.length := by omega
  have hib : i < b.length := by omega
  have hda : a.drop i = a[i] :: a.drop (i + 1) := List.drop_eq_getElem_cons hi
  have hdb : b.drop i = b[i] :: b.drop (i + 1) := List.drop_eq_getElem_cons hib
  obtain ⟨p, hp1, hp2⟩ := p8 H ha hi
  obtain ⟨q, hq1, hq2⟩ := p8 H hb hib
  have r1 := Runs.seq (BT (h := h) hk h5 h0 hlen (aM hi)) (Runs.condT (o := .tmp 19) (y := .exit 0) rfl Runs.skip)
  have r2 := fun (s1 : Fr) (g0 : s1.at 0 = x) (g1 : s1.at 1 = y) (g5 : s1.at 5 = .nu .i64 (.ofNat i)) => J5 (h := h) hk H.pl.p38_8 g0 g5 g1 hp1 hp2 (gG _) hq1 hq2 (li a[i] b[i])
  have r3 := fun (s1 : Fr) (g0 : s1.at 0 = x) (g1 : s1.at 1 = y) (g5 : s1.at 5 = .nu .i64 (.ofNat i)) => G4 (h := h) hk H.pl.p38_10 g0 g5 g1 hp1 hp2 (gG _) hq1 hq2 (aP a[i] b[i])
  cases hlt : cI b[i] a[i] with
  | false =>
   rw [hlt] at r2
   refine ⟨.ret, _, aE (Runs.seq r1 (aC (aF (aC (Runs.seq (r2 _ h0 h1 h5) (Runs.condT rfl (Runs.seq (J6 (h := h) hk) Runs.ret))) (by simp))) (by simp))) (by simp), hs, .inr ⟨rfl, ?_⟩⟩
   rw [hda, hdb]
   simp only [cE, hlt]
   rfl
  | true =>
   rw [hlt] at r2
   cases hgt : cI a[i] b[i] with
   | false =>
    rw [hgt] at r3
    refine ⟨.ret, _, aE (Runs.seq r1 (aC (aF (Runs.seq (Runs.seq (r2 _ h0 h1 h5) (Runs.condF rfl Runs.skip)) (Runs.seq (r3 _ h0 h1 h5) (Runs.condT rfl (Runs.seq (G5 (h := h) hk) Runs.ret))))) (by simp))) (by simp), hs, .inr ⟨rfl, ?_⟩⟩
    rw [hda, hdb]
    simp only [cE, hlt, hgt]
    rfl
   | true =>
    rw [hgt] at r3
    have step : ∃ s4, jc K [1, 1, 0, 1, 0, 0] s h .normal s4 h ∧ s4.at 0 = x ∧ s4.at 1 = y ∧ s4.at 5 = .nu .i64 (.ofNat (i + 1)) ∧ s4.at ag = .undef :=
     ⟨_, Runs.seq r1 (Runs.seq (aB (Runs.seq (Runs.seq (r2 _ h0 h1 h5) (Runs.condF rfl Runs.skip)) (Runs.seq (r3 _ h0 h1 h5) (Runs.condF rfl Runs.skip)))) (J7 (h := h) hk h5 (bI (by omega)))), h0, h1, rfl, hs⟩
    obtain ⟨s4, r4, g0, g1, g5, gs⟩ := step
    obtain ⟨e, s', r5, hs', hr⟩ := ih (i + 1) s4 (by omega) g0 g1 g5 gs
    refine ⟨e, s', Runs.loop r4 r5, hs', ?_⟩
    rw [hda, hdb]
    simp only [cE, hlt, hgt]
    exact hr
theorem I2 (a b : Nat) : dT (.ofNat a) (.ofNat b) = Nat.beq a b := rfl
theorem uc (H : Std K) {a b : List Int} (hbig : a.length < 4611686018427387904) {x y : CV} (ha : Row h x (ak a)) (hb : Row h y (ak b)) : Comes K 38 [x, y] h (.nu .i64 (a8 a b)) h := by
 have hk := H.hk
 have hm := H.memo 38 (by decide)
 have hsp := H.spec 38
 have hf : K.P.funcs[38]? = some Tryz.f38 := by rw [H.hP]; exact Tryz.func38
 have hla := fj H ha
 have hlb := fj H hb
 rw [ax] at hla hlb
 have o10 := tq (P := K.P) (t := 3) (Int.ofNat a.length) (Int.ofNat b.length)
 rw [I2] at o10
 by_cases hab : a.length = b.length
 · rw [show Nat.beq a.length b.length = true by rw [hab]; exact Nat.beq_refl _] at o10
   have pre : ∃ s1, jc K [1, 0] (T.set (entry 0 [x, y]) 4 (.nu .i64 0)) h .normal s1 h ∧ s1.at 0 = x ∧ s1.at 1 = y ∧ s1.at ag = .undef :=
    ⟨_, Runs.seq (wv (h := h) hk rfl rfl hla hlb o10) (Runs.condF rfl Runs.skip), rfl, rfl, rfl⟩
   obtain ⟨s1, r1, g0, g1, gs⟩ := pre
   obtain ⟨e, s2, r2, hs2, hr⟩ := Fm H hab hbig ha hb a.length 0 (T.set s1 5 (.nu .i64 0)) (by omega) g0 g1 rfl gs
   have hcmp : a8 a b = cE (a.drop 0) (b.drop 0) := by simp [a8, hab]
   rcases hr with ⟨rfl, h0⟩ | ⟨rfl, h4⟩
   · rw [hcmp, h0]
     exact bO hf rfl hm hsp rfl (Runs.seq (qM (h := h) hk) (Runs.seq r1 (Runs.seq (Runs.seq (BS (h := h) hk) (aN r2)) (Runs.seq (G6 (h := h) hk) Runs.ret)))) (.inr rfl) (Nat.le_refl _) hs2 rfl rfl
   · rw [hcmp]
     refine bO hf rfl hm hsp rfl (Runs.seq (qM (h := h) hk) (Runs.seq r1 (aC (Runs.seq (BS (h := h) hk) (aF r2)) (by simp)))) (.inr rfl) (Nat.le_refl _) hs2 (vs := [s2.at 4]) rfl ?_
     exact h4
 · rw [show Nat.beq a.length b.length = false by
    cases hq : Nat.beq a.length b.length with
    | false => rfl
    | true => exact absurd (Nat.eq_of_beq_eq_true hq) hab] at o10
   by_cases hlt : a.length < b.length
   · have hcmp : a8 a b = -1 := by simp [a8, hab, hlt]
     rw [hcmp]
     exact bO hf rfl hm hsp rfl (Runs.seq (qM (h := h) hk) (aC (Runs.seq (wv (h := h) hk rfl rfl hla hlb o10) (Runs.condT rfl (aC (Runs.seq (BQ (h := h) hk rfl rfl hla hlb (aM hlt)) (Runs.condT rfl (Runs.seq (J3 (h := h) hk) Runs.ret))) (by simp)))) (by simp))) (.inr rfl) (Nat.le_refl _) rfl rfl rfl
   · have hcmp : a8 a b = 1 := by simp [a8, hab, hlt]
     rw [hcmp]
     exact bO hf rfl hm hsp rfl (Runs.seq (qM (h := h) hk) (aC (Runs.seq (wv (h := h) hk rfl rfl hla hlb o10) (Runs.condT rfl (Runs.seq (Runs.seq (BQ (h := h) hk rfl rfl hla hlb (aY (by omega))) (Runs.condF rfl Runs.skip)) (Runs.seq (J4 (h := h) hk) Runs.ret)))) (by simp))) (.inr rfl) (Nat.le_refl _) rfl rfl rfl
end
theorem qa {P : Program} {N el b t : Nat} {h : Hp} {z0 x v : CV} {cs : List CV} (ht : ae P t = .slice el 1 b [z0]) (ok : HpOk h) (hN : N ≤ h.n) (r : Out N h el x cs) (hv : v.one = true) (hb : b ≤ 64) (hn : cs.length < 1099511627776) :
  ∃ F B x' h', aL 1 [(0, v)] (ae P t) = some (F, B) ∧ aQ (h.push B) x (F h.n) (ae P t) (ae P t) = some (x', h') ∧ Out N h' el x' (cs ++ [v]) ∧ Same N h h' ∧ HpOk h' := by
 have r' : Out N (h.push (.cells [v] 0 el)) el x cs := r.mono (Same.push (Nat.le_refl _) _) (Nat.le_refl _)
 have hb2 : (cs.length + [v].length) * b ≤ 70368744177664 := by
  have : (cs.length + 1) * b ≤ 1099511627776 * 64 := Nat.mul_le_mul (by omega) hb
  simpa using this
 obtain ⟨x', h', h1, h2, h3, h4⟩ := r'.app (z := [z0]) (t' := .slice el 1 b [z0]) (bytes := b) (ok.push _) (by simp; omega) (lG (h := h) (v := v) (el := el)) (by simp) (by simp [hv]) rfl ⟨_, _, _, rfl⟩ hb2 (by simp; omega)
 refine ⟨_, _, x', h', by rw [ht]; exact iH hv, by rw [ht]; exact h1, h2, (Same.push hN _).trans h3, h4⟩
section
variable {K : Ctx} {h : Hp}
def eo (a : List Int) (v : Int) : Bool := a.any fun y => dT y v
theorem I3 (H : Std K) {a : List Int} {v : Int} (hbig : a.length < 4611686018427387904) {x : CV} (ha : Row h x (ak a)) : ∀ (m i : Nat) (s : Fr), i + m = a.length → s.at 0 = x → s.at 1 = .nu .i64 v → s.at 5 = .nu .i64 (.ofNat i) → s.at ag = .undef →
  ∃ e s', hF K [1, 0, 1, 0] s h e s' h ∧ s'.at ag = .undef ∧ ((e = .exit 0 ∧ eo (a.drop i) v = false) ∨ (e = .ret ∧ s'.at 4 = .bo true ∧ eo (a.drop i) v = true)) := by
 have hlen := fj H ha
 rw [ax] at hlen
 intro m
 induction m with
 | zero =>
  intro i s him h0 h1 h5 hs
  have hn : i = a.length := by omega
  subst hn
  exact ⟨_, _, aE (uY H.hk H.prim H.pl h5 h0 hlen (aY (Nat.le_refl _))) (by simp), hs, .inl ⟨rfl, by simp [eo]⟩⟩
 | succ m ih =>
  intro i s him h0 h1 h5 hs
  have hi : i < a.length := by omega
  have hda : a.drop i = a[i] :: a.drop (i + 1) := List.drop_eq_getElem_cons hi
  obtain ⟨p, hp1, hp2⟩ := p8 H ha hi
  cases he : dT a[i] v with
  | true =>
   exact ⟨_, _, aE (sV H.hk H.prim H.pl h5 h0 h1 hlen (aM hi) hp1 hp2 (by rw [iW, he])) (by simp), hs, .inr ⟨rfl, rfl, by rw [hda, eo, List.any_cons, he]; rfl⟩⟩
  | false =>
   obtain ⟨s1, r1, g0, g1, g5, gs⟩ : ∃ s1, hF K [1, 0, 1, 0, 0] s h .normal s1 h ∧ s1.at 0 = x ∧ s1.at 1 = .nu .i64 v ∧ s1.at 5 = .nu .i64 (.ofNat (i + 1)) ∧ s1.at ag = .undef :=
    ⟨_, sW H.hk H.prim H.pl h5 h0 h1 hlen (aM hi) hp1 hp2 (by rw [iW, he]) (bI (by omega)), h0, h1, rfl, hs⟩
   obtain ⟨e, s', r2, hs', hr⟩ := ih (i + 1) s1 (by omega) g0 g1 g5 gs
   refine ⟨e, s', Runs.loop r1 r2, hs', ?_⟩
   rw [hda, show eo (a[i] :: a.drop (i + 1)) v = eo (a.drop (i + 1)) v by rw [eo, List.any_cons, he]; rfl]
   exact hr
theorem Fn (H : Std K) {a : List Int} {v : Int} (hbig : a.length < 4611686018427387904) {x : CV} (ha : Row h x (ak a)) : Comes K 104 [x, .nu .i64 v] h (.bo (eo a v)) h := by
 have hf : K.P.funcs[104]? = some Tryz.f104 := by rw [H.hP]; exact Tryz.func104
 obtain ⟨e, s2, r2, hs2, hr⟩ := I3 H (v := v) hbig ha a.length 0 (T.set (T.set (entry 0 [x, .nu .i64 v]) 4 (.bo false)) 5 (.nu .i64 0)) (by omega) rfl rfl rfl rfl
 rcases hr with ⟨rfl, h0⟩ | ⟨rfl, h4, h0⟩
 · rw [show eo a v = false from h0]
   exact H.go hf (Runs.seq (yV H.hk) (Runs.seq (Runs.seq (yW H.hk) (aN r2)) (EP H.hk H.prim H.pl))) (.inr rfl) (Nat.le_refl _) hs2 rfl rfl
 · rw [show eo a v = true from h0]
   exact H.go hf (Runs.seq (yV H.hk) (aC (Runs.seq (yW H.hk) (aF r2)) (by simp))) (.inr rfl) (Nat.le_refl _) hs2 (vs := [s2.at 4]) rfl h4
def cP (s : List Int) : List (List Int) → List (List Int) → Bool → Option (List (List Int))
 | [], out, done => some (if done then out else out ++ [s])
 | a :: r, out, done => match dT (a8 s a) 0 with
  | true => none
  | false => match cI 0 (a8 s a), done with
   | false, false => cP s r (out ++ [s] ++ [a]) true
   | _, _ => cP s r (out ++ [a]) done
def ee (l : List (List Int)) (s : List Int) : List (List Int) := (cP s l [] false).getD l
theorem Rows.snoc {xs : List CV} {l : List (List Int)} {x : CV} {a : List Int} (r : Rows h xs l) (hx : Row h x (ak a)) : Rows h (xs ++ [x]) (l ++ [a]) := r.append (.cons hx .nil)
theorem Fo (H : Std K) {h0 : Hp} (bW : HpOk h0) {b : List Int} (hbig : b.length < 4611686018427387904) {l : List (List Int)} (hl : l.length < 549755813888) {x y : CV} {xs : List CV} (hx : Row h0 x xs) (hxs : Rows h0 xs l) (hy : Row h0 y (ak b)) : ∀ (m i : Nat) (s : Fr) (h : Hp) (o : CV) (cs : List CV) (out : List (List Int)) (done : Bool), i + m = l.length → HpOk h → Same h0.n h0 h → Out h0.n h 45 o cs → Rows h0 cs out → out.length ≤ 2 * i → s.at 0 = x → s.at 1 = y → s.at 5 = o → s.at 6 = .bo done → s.at 7 = .nu .i64 (.ofNat i) → s.at ag = .undef →
  ∃ e s' h', ef K [1, 1, 1, 0, 1, 0] s h e s' h' ∧ s'.at ag = .undef ∧ HpOk h' ∧ Same h0.n h0 h' ∧ ((e = .exit 0 ∧ s'.at 1 = y ∧ ∃ o' cs' out' done', s'.at 5 = o' ∧ s'.at 6 = .bo done' ∧ Out h0.n h' 45 o' cs' ∧ Rows h0 cs' out' ∧ out'.length ≤ 2 * l.length ∧ cP b (l.drop i) out done = some (if done' then out' else out' ++ [b])) ∨ (e = .ret ∧ s'.at 4 = x ∧ cP b (l.drop i) out done = none)) := by
 intro m
 have hlx := hxs.length
 induction m with
 | zero =>
  intro i s h o cs out done him ok S ho hr hle g0 g1 g5 g6 g7 gs
  have hn : i = l.length := by omega
  subst hn
  have hlen := gK H (hx.mono S bW (Nat.le_refl _))
  rw [hlx] at hlen
  refine ⟨_, _, _, aE (sU H.hk H.prim H.pl g7 g0 hlen (aY (Nat.le_refl _))) (by simp), gs, ok, S, .inl ⟨rfl, g1, o, cs, out, done, g5, g6, ho, hr, hle, ?_⟩⟩
  rw [List.drop_length]; rfl
 | succ m ih =>
  intro i s h o cs out done him ok S ho hr hle g0 g1 g5 g6 g7 gs
  have hi : i < l.length := by omega
  have hix : i < xs.length := by omega
  have hlen := gK H (hx.mono S bW (Nat.le_refl _))
  rw [hlx] at hlen
  have hdl : l.drop i = l[i] :: l.drop (i + 1) := List.drop_eq_getElem_cons hi
  obtain ⟨p, hp1, hp2⟩ := p9 H (hx.mono S bW (Nat.le_refl _)) hix
  have hxi := hxs.get hix hi
  have hc := uc H hbig (hy.mono S bW (Nat.le_refl _)) (hxi.mono S bW (Nat.le_refl _))
  have hcs : cs.length = out.length := hr.length
  cases hq : dT (a8 b l[i]) 0 with
  | true =>
   refine ⟨_, _, _, aE (qZ H.hk H.prim H.pl g7 g0 g1 hlen (aM hi) hp1 hp2 hc (by rw [iW, hq])) (by simp), gs, ok, S, .inr ⟨rfl, rfl, ?_⟩⟩
   rw [hdl]; simp only [cP, hq]
  | false =>
   have tail : ∀ (g : Hp) (o1 : CV) (cs1 : List CV) (out1 : List (List Int)), HpOk g → Same h0.n h0 g → Out h0.n g 45 o1 cs1 → Rows h0 cs1 out1 → out1.length ≤ 2 * i + 1 → ∃ F B x' g', aL 1 [(0, xs[i])] (ae K.P 26) = some (F, B) ∧ aQ (g.push B) o1 (F g.n) (ae K.P 26) (ae K.P 26) = some (x', g') ∧ Out h0.n g' 45 x' (cs1 ++ [xs[i]]) ∧ Same h0.n h0 g' ∧ HpOk g' ∧ Rows h0 (cs1 ++ [xs[i]]) (out1 ++ [l[i]]) ∧ ap g p (ar K.P 45) = some xs[i] := by
    intro g o1 cs1 out1 okg Sg og rg hlg
    have hlr := rg.length
    obtain ⟨F, B, x', g', a1, a2, a3, a4, a5⟩ := qa (P := K.P) (t := 26) (v := xs[i]) (by rw [H.hP]; exact wZ) okg Sg.n og hxi.one (by decide) (by omega)
    obtain ⟨p', hp1', hp2'⟩ := p9 H (hx.mono Sg bW (Nat.le_refl _)) hix
    rw [hp1] at hp1'; cases hp1'
    exact ⟨F, B, x', g', a1, a2, a3, Sg.trans a4, a5, rg.snoc hxi, hp2'⟩
   cases hlt : cI 0 (a8 b l[i]) with
   | true =>
    obtain ⟨F, B, x', g', a1, a2, a3, a4, a5, a6, a7⟩ := tail h o cs out ok S ho hr (by omega)
    obtain ⟨s1, r1, k0, k1, k5, k6, k7, ks⟩ : ∃ s1, ef K [1, 1, 1, 0, 1, 0, 0] s h .normal s1 g' ∧ s1.at 0 = x ∧ s1.at 1 = y ∧ s1.at 5 = x' ∧ s1.at 6 = .bo done ∧ s1.at 7 = .nu .i64 (.ofNat (i + 1)) ∧ s1.at ag = .undef :=
     ⟨_, pg H.hk H.prim H.pl g7 g0 g1 g5 hlen (aM hi) hp1 hp2 hc (by rw [iW, hq]) (by rw [li, hlt]; rfl) rfl a7 a1 a2 (bI (by omega)), g0, g1, rfl, g6, rfl, gs⟩
    obtain ⟨e, s', h', r2, rest⟩ := ih (i + 1) s1 g' x' _ _ done (by omega) a5 a4 a3 a6 (by simp; omega) k0 k1 k5 k6 k7 ks
    refine ⟨e, s', h', Runs.loop r1 r2, ?_⟩
    rw [hdl]
    simp only [cP, hq, hlt]
    exact rest
   | false =>
    cases done with
    | true =>
     obtain ⟨F, B, x', g', a1, a2, a3, a4, a5, a6, a7⟩ := tail h o cs out ok S ho hr (by omega)
     obtain ⟨s1, r1, k0, k1, k5, k6, k7, ks⟩ : ∃ s1, ef K [1, 1, 1, 0, 1, 0, 0] s h .normal s1 g' ∧ s1.at 0 = x ∧ s1.at 1 = y ∧ s1.at 5 = x' ∧ s1.at 6 = .bo true ∧ s1.at 7 = .nu .i64 (.ofNat (i + 1)) ∧ s1.at ag = .undef :=
      ⟨_, pf H.hk H.prim H.pl g7 g0 g1 g6 g5 hlen (aM hi) hp1 hp2 hc (by rw [iW, hq]) (by rw [li, hlt]; rfl) rfl rfl a7 a1 a2 (bI (by omega)), g0, g1, rfl, g6, rfl, gs⟩
     obtain ⟨e, s', h', r2, rest⟩ := ih (i + 1) s1 g' x' _ _ true (by omega) a5 a4 a3 a6 (by simp; omega) k0 k1 k5 k6 k7 ks
     refine ⟨e, s', h', Runs.loop r1 r2, ?_⟩
     rw [hdl]
     simp only [cP, hq, hlt]
     exact rest
    | false =>
     obtain ⟨F1, B1, x1, h1, b1, b2, b3, b4, b5⟩ := qa (P := K.P) (t := 26) (v := y) (by rw [H.hP]; exact wZ) ok S.n ho hy.one (by decide) (by omega)
     obtain ⟨F, B, x', g', a1, a2, a3, a4, a5, a6, a7⟩ := tail h1 x1 _ _ b5 (S.trans b4) b3 (hr.snoc hy) (by simp; omega)
     obtain ⟨s1, r1, k0, k1, k5, k6, k7, ks⟩ : ∃ s1, ef K [1, 1, 1, 0, 1, 0, 0] s h .normal s1 g' ∧ s1.at 0 = x ∧ s1.at 1 = y ∧ s1.at 5 = x' ∧ s1.at 6 = .bo true ∧ s1.at 7 = .nu .i64 (.ofNat (i + 1)) ∧ s1.at ag = .undef :=
      ⟨_, pc H.hk H.prim H.pl g7 g0 g1 g6 g5 hlen (aM hi) hp1 hp2 hc (by rw [iW, hq]) (by rw [li, hlt]; rfl) rfl rfl b1 b2 a7 a1 a2 (bI (by omega)), g0, g1, rfl, rfl, rfl, gs⟩
     obtain ⟨e, s', h', r2, rest⟩ := ih (i + 1) s1 g' x' _ _ true (by omega) a5 a4 a3 a6 (by simp; omega) k0 k1 k5 k6 k7 ks
     refine ⟨e, s', h', Runs.loop r1 r2, ?_⟩
     rw [hdl]
     simp only [cP, hq, hlt]
     exact rest
theorem ud (H : Std K) (ok : HpOk h) {b : List Int} (hbig : b.length < 4611686018427387904) {l : List (List Int)} (hl : l.length < 549755813888) {x y : CV} {xs : List CV} (hx : Row h x xs) (hxs : Rows h xs l) (hy : Row h y (ak b)) :
  ∃ x' xs' h', Comes K 98 [x, y] h x' h' ∧ Same h.n h h' ∧ HpOk h' ∧ Row h' x' xs' ∧ Rows h xs' (ee l b) := by
 have hf : K.P.funcs[98]? = some Tryz.f98 := by rw [H.hP]; exact Tryz.func98
 obtain ⟨e, s2, h2, r2, hs2, bt, S2, hr⟩ := Fo H ok hbig hl hx hxs hy l.length 0 (T.set (T.set (T.set (T.set (entry 0 [x, y]) 4 .nils) 5 .nils) 6 (.bo false)) 7 (.nu .i64 0)) h .nils [] [] false (by omega) ok (Same.refl _ _) .nils .nil (by simp) rfl rfl rfl rfl rfl rfl
 rcases hr with ⟨rfl, h1, o', cs', out', done', h5, h6, ho, hrs, hlo, hput⟩ | ⟨rfl, h4, hput⟩
 · rw [List.drop_zero] at hput
   cases done' with
   | true =>
    refine ⟨o', cs', h2, ?_, S2, bt, ho.row, ?_⟩
    · exact H.go hf (Runs.seq (wB H.hk) (Runs.seq (wC H.hk) (Runs.seq (wD H.hk) (Runs.seq (Runs.seq (wE H.hk) (aN r2)) (x6 H.hk H.prim H.pl h6 h5 rfl))))) (.inr rfl) S2.n hs2 rfl rfl
    · rw [ee, hput]; exact hrs
   | false =>
    have hlr := hrs.length
    obtain ⟨F, B, x', g', a1, a2, a3, a4, a5⟩ := qa (P := K.P) (t := 26) (v := y) (by rw [H.hP]; exact wZ) bt S2.n ho hy.one (by decide) (by omega)
    refine ⟨x', _, g', ?_, S2.trans a4, a5, a3.row, ?_⟩
    · exact H.go hf (Runs.seq (wB H.hk) (Runs.seq (wC H.hk) (Runs.seq (wD H.hk) (Runs.seq (Runs.seq (wE H.hk) (aN r2)) (x0 H.hk H.prim H.pl h6 h5 h1 rfl a1 a2))))) (.inr rfl) (S2.trans a4).n hs2 rfl rfl
    · rw [ee, hput]; exact hrs.snoc hy
 · rw [List.drop_zero] at hput
   refine ⟨x, xs, h2, ?_, S2, bt, hx.mono S2 ok (Nat.le_refl _), ?_⟩
   · exact H.go hf (Runs.seq (wB H.hk) (Runs.seq (wC H.hk) (Runs.seq (wD H.hk) (aC (Runs.seq (wE H.hk) (aF r2)) (by simp))))) (.inr rfl) S2.n hs2 (vs := [s2.at 4]) rfl h4
   · rw [ee, hput]; exact hxs
end
theorem ue {α : Type} : ∀ (cs : List α) (i : Nat) (v : α), setAt cs i [v] = cs.set i v := fun cs i v => by rw [c7, dy]
theorem Out.cell {N el : Nat} {h : Hp} {x : CV} {cs : List CV} (r : Out N h el x cs) {i : Nat} (hi : i < cs.length) : ∃ p, (∀ e b z, ai x (.nu .i64 (.ofNat i)) (.slice e 1 b z) = Option.some p) ∧ ap h p (Option.some (1, false)) = Option.some cs[i] ∧ ∀ v : CV, v.one = true → ∃ h', bc h p v (Option.some (1, false)) = Option.some (.undef, h') ∧ Out N h' el x (cs.set i v) ∧ Same N h h' ∧ (HpOk h → HpOk h') := by
 cases r with
 | nils => simp at hi
 | @some k cs hk hn hne hs =>
  have hb : Nat.blt i cs.length = true := by simpa using hi
  refine ⟨.ptr k (0 + i * 1), fun e b z => by simp only [ai, tM, hb], ?_, fun v hv => ?_⟩
  · show eK (0 + i * 1) 1 false (h.get k) = _
    rw [hs]
    have h1 : cs[i]? = Option.some cs[i] := List.getElem?_eq_getElem hi
    simp only [eK, val, Nat.mul_one, Nat.zero_add, Nat.ble_eq_true_of_le (show i + 1 ≤ cs.length by omega), Nat.beq_refl, h1]
  · have hc := fv hv
    have hl : v.cells.length = 1 := by rw [hc]; rfl
    refine ⟨h.set k (.cells (cs.set i v) 1 el), ?_, ?_, Same.set hk _, fun ok => ok.set hn _⟩
    · show dz h k (0 + i * 1) 1 v (h.get k) = _
      rw [hs]
      simp only [dz, CV.sol, hc, List.all_cons, hv, List.all_nil, Bool.and_self, List.length_singleton, Nat.beq_refl, Nat.mul_one, Nat.zero_add, Nat.ble_eq_true_of_le (show i + 1 ≤ cs.length by omega), ue]
    · have := Out.some (N := N) (h := h.set k (.cells (cs.set i v) 1 el)) (el := el) (k := k) (cs := cs.set i v) hk hn (by intro e; apply hne; have := congrArg List.length e; simp at this; exact this) (by rw [Hp.get_set, if_pos rfl])
      simpa using this
theorem w7 {P : Program} {el b t t' : Nat} {h : Hp} {z0 y : CV} {ys : List CV} (ht : ae P t = .slice el 1 b [z0]) (ht' : ∃ e' b' z', ae P t' = .slice e' 1 b' z') (ok : HpOk h) (r : Row h y ys) (hne : ys ≠ []) (hone : ys.all CV.one = true) (hb : b ≤ 64) (hn : ys.length < 1099511627776) :
  ∃ F B x' h', aL 0 [] (ae P t) = some (F, B) ∧ aQ (h.push B) (F h.n) y (ae P t) (ae P t') = some (x', h') ∧ Out h.n h' el x' ys ∧ Same h.n h h' ∧ HpOk h' := by
 obtain ⟨e', b', z', ht'⟩ := ht'
 refine ⟨fun k => .sl k 0 0 0, .cells [] 0 el, .sl (h.n + 1) 0 ys.length ys.length, (h.push (.cells [] 0 el)).push (.cells ys 1 el), by rw [ht]; rfl, ?_, ?_, (Same.push (Nat.le_refl _) _).trans (Same.push (by simp) _), (ok.push _).push _⟩
 · rw [ht, ht']
   have r' : Row (h.push (.cells [] 0 el)) y ys := r.mono (Same.push (Nat.le_refl _) _) ok (Nat.le_refl _)
   have hcells := r'.cells
   have hlen := r'.lenV
   have hm : Nat.beq ys.length 0 = false := by
    cases ys with
    | nil => exact absurd rfl hne
    | cons a l => rfl
   have hm2 : Nat.ble ys.length 0 = false := jp (by cases ys with | nil => exact absurd rfl hne | cons a l => simp)
   have hb2 : ys.length * b ≤ 70368744177664 := by
    have : ys.length * b ≤ 1099511627776 * 64 := Nat.mul_le_mul (by omega) hb
    omega
   have hc : (ys.all CV.one && Nat.beq [z0].length 1 && Nat.blt 0 1 && Nat.ble ((CP.lenV (.sl h.n 0 0 0) + ys.length) * b) 70368744177664 && Nat.ble (CP.lenV (.sl h.n 0 0 0) + ys.length) 4611686018427387904) = true := by
    rw [hone, show CP.lenV (.sl h.n 0 0 0) = 0 from rfl, Nat.zero_add, Nat.ble_eq_true_of_le hb2, Nat.ble_eq_true_of_le (by omega)]; rfl
   have hg : (h.push (.cells [] 0 el)).get h.n = .cells [] 0 el := by rw [ah, if_pos rfl]
   have hz : Nat.ble (0 + 0 * 1) ([] : List CV).length = true := rfl
   have ht2 : fg ([] : List CV) 0 0 0 = true := rfl
   simp only [aQ, gw, hcells, hlen, hc, eM, hm, Nat.zero_add, hm2, iC, hg, hz, ht2]
   simp [sub]
 · have := Out.some (N := h.n) (h := (h.push (.cells [] 0 el)).push (.cells ys 1 el)) (el := el) (k := h.n + 1) (cs := ys) (by omega) (by simp) hne (by rw [ah, if_pos (by simp)])
   exact this
def zG (c : List Int) (j : Nat) : List Int := (c.set j (c.getD (j + 1) 0)).set (j + 1) (c.getD j 0)
def kc : List Int → Nat → List Int
 | c, 0 => c
 | c, j + 1 => match cI (c.getD j 0) (c.getD (j + 1) 0) with
  | true => c
  | false => kc (zG c j) j
def iL : Nat → Nat → List Int → List Int
 | 0, _, c => c
 | m + 1, i, c => iL m (i + 1) (kc c i)
def gL (c : List Int) : List Int := iL c.length 0 c
theorem mI (c : List Int) (j : Nat) : (zG c j).length = c.length := by simp [zG]
theorem ip : ∀ (j : Nat) (c : List Int), (kc c j).length = c.length
 | 0, c => rfl
 | j + 1, c => by
  simp only [kc]
  split
  · rfl
  · rw [ip j, mI]
theorem zH {P : Program} {t : TypeId} {i : Nat} (hi : i < 9223372036854775807) : ab P .sub t (.nu .i64 (.ofNat (i + 1))) (.nu .i64 1) = some (.nu .i64 (.ofNat i)) := by
 show some (gu .i64 (Int.ofNat (i + 1) - 1)) = _
 rw [ez, show Int.ofNat (i + 1) - 1 = Int.ofNat i by simp]; exact congrArg _ (congrArg _ (fq i (by omega)))
theorem L4 {P : Program} {t : TypeId} {w : Int} (hw : w = 0 ∨ w = 1) : ∃ w', (w' = 0 ∨ w' = 1) ∧ ab P .sub t (.nu .i64 1) (.nu .i64 w) = some (.nu .i64 w') := by
 rcases hw with rfl | rfl
 · exact ⟨1, .inr rfl, rfl⟩
 · exact ⟨0, .inl rfl, rfl⟩
section
variable {K : Ctx} {h : Hp}
theorem w8 (H : Std K) {N : Nat} {x : CV} {c : List Int} (r : Out N h 3 x (ak c)) {i : Nat} (hi : i < c.length) : ∃ p, ai x (.nu .i64 (.ofNat i)) (ae K.P 45) = some p ∧ ap h p (ar K.P 3) = some (.nu .i64 (c.getD i 0)) ∧ ∀ v, ∃ h', bc h p (.nu .i64 v) (ar K.P 3) = some (.undef, h') ∧ Out N h' 3 x (ak (c.set i v)) ∧ Same N h h' ∧ (HpOk h → HpOk h') := by
 obtain ⟨p, h1, h2, h3⟩ := r.cell (i := i) (by rw [ax]; exact hi)
 refine ⟨p, by rw [H.hP, t45]; exact h1 _ _ _, ?_, fun v => ?_⟩
 · rw [H.hP, z3, h2]; simp [ak, List.getD_eq_getElem?_getD, List.getElem?_eq_getElem hi]
 · obtain ⟨h', g1, g2, g3, g4⟩ := h3 (.nu .i64 v) rfl
   refine ⟨h', by rw [H.hP, z3, g1], ?_, g3, g4⟩
   have : (ak c).set i (.nu .i64 v) = ak (c.set i v) := by simp [ak, List.map_set]
   rw [← this]; exact g2
theorem Df (H : Std K) {N : Nat} {x v6 : CV} : ∀ (k : Nat) (s : Fr) (h : Hp) (c : List Int) (w : Int), k < c.length → c.length < 4611686018427387904 → HpOk h → Out N h 3 x (ak c) → N ≤ h.n → (w = 0 ∨ w = 1) → s.at 4 = x → s.at 5 = .nu .i64 w → s.at 6 = v6 → s.at 7 = .nu .i64 (.ofNat k) → s.at ag = .undef →
  ∃ s' h' w', eH K [1, 1, 1, 0, 1, 0, 0, 1, 0, 0, 1, 0] s h (.exit 2) s' h' ∧ HpOk h' ∧ Same N h h' ∧ Out N h' 3 x (ak (kc c k)) ∧ (w' = 0 ∨ w' = 1) ∧ s'.at 4 = x ∧ s'.at 5 = .nu .i64 w' ∧ s'.at 6 = v6 ∧ s'.at ag = .undef := by
 intro k
 induction k with
 | zero =>
  intro s h c w hk hbig ok ho hN hw g4 g5 g6 g7 gs
  exact ⟨_, _, w, aE (lM H.hk H.prim H.pl g7 rfl rfl) (by simp), ok, Same.refl _ _, ho, hw, g4, g5, g6, gs⟩
 | succ j ih =>
  intro s h c w hk hbig ok ho hN hw g4 g5 g6 g7 gs
  obtain ⟨p, hp1, hp2, hp3⟩ := w8 H ho (i := j) (by omega)
  obtain ⟨q, hq1, hq2, hq3⟩ := w8 H ho (i := j + 1) hk
  have hc := aP (P := K.P) (t := 3) (c.getD j 0) (c.getD (j + 1) 0)
  cases hle : cI (c.getD j 0) (c.getD (j + 1) 0) with
  | true =>
   rw [hle] at hc
   refine ⟨_, _, w, aE (lL H.hk H.prim H.pl g7 g4 rfl (zH (by omega)) hp1 hp2 (gG _) hq1 hq2 hc rfl) (by simp), ok, Same.refl _ _, ?_, hw, g4, g5, g6, gs⟩
   simp only [kc, hle]; exact ho
  | false =>
   rw [hle] at hc
   obtain ⟨h1, a1, a2, a3, a4⟩ := hp3 (c.getD (j + 1) 0)
   obtain ⟨q', b1, b2, b3⟩ := w8 H a2 (i := j + 1) (by simpa using hk)
   rw [hq1] at b1; cases b1
   obtain ⟨h2, d1, d2, d3, d4⟩ := b3 (c.getD j 0)
   obtain ⟨w', hw', hf⟩ := L4 (P := K.P) (t := 3) hw
   obtain ⟨s1, r1, k4, k5, k6, k7, ks⟩ : ∃ s1, eH K [1, 1, 1, 0, 1, 0, 0, 1, 0, 0, 1, 0, 0] s h .normal s1 h2 ∧ s1.at 4 = x ∧ s1.at 5 = .nu .i64 w' ∧ s1.at 6 = v6 ∧ s1.at 7 = .nu .i64 (.ofNat j) ∧ s1.at ag = .undef :=
    ⟨_, lK H.hk H.prim H.pl g7 g4 g5 rfl (zH (by omega)) hp1 hp2 (gG _) hq1 hq2 hc rfl (gG _) a1 d1 hf, g4, rfl, g6, rfl, gs⟩
   obtain ⟨s', h', w2, r2, e1, e2, e3, e4, e5, e6, e7, e8⟩ := ih s1 h2 (zG c j) w' (by rw [mI]; omega) (by rw [mI]; omega) (d4 (a4 ok)) d2 (Nat.le_trans hN (a3.trans d3).n) hw' k4 k5 k6 k7 ks
   refine ⟨s', h', w2, Runs.loop r1 r2, e1, (a3.trans d3).trans e2, ?_, e4, e5, e6, e7, e8⟩
   simp only [kc, hle]; exact e3
theorem jC {N el : Nat} {x : CV} {c : List Int} (H : Std K) (r : Out N h el x (ak c)) : an h x (ae K.P 45) = some (.nu .i64 (.ofNat c.length)) := by
 have := fj H r.row
 rwa [ax] at this
theorem Dg (H : Std K) {N : Nat} {x : CV} : ∀ (m i : Nat) (s : Fr) (h : Hp) (c : List Int) (w : Int), i + m = c.length → c.length < 4611686018427387904 → HpOk h → Out N h 3 x (ak c) → N ≤ h.n → (w = 0 ∨ w = 1) → s.at 4 = x → s.at 5 = .nu .i64 w → s.at 6 = .nu .i64 (.ofNat i) → s.at ag = .undef →
  ∃ s' h' w', eH K [1, 1, 1, 0, 1, 0] s h (.exit 0) s' h' ∧ HpOk h' ∧ Same N h h' ∧ Out N h' 3 x (ak (iL m i c)) ∧ s'.at 4 = x ∧ s'.at 5 = .nu .i64 w' ∧ s'.at ag = .undef := by
 intro m
 induction m with
 | zero =>
  intro i s h c w him hbig ok ho hN hw g4 g5 g6 gs
  have hn : i = c.length := by omega
  exact ⟨_, _, w, aE (aC (qY H.hk H.prim H.pl g6 g4 (jC H ho) (aY (by omega))) (by simp)) (by simp), ok, Same.refl _ _, ho, g4, g5, gs⟩
 | succ m ih =>
  intro i s h c w him hbig ok ho hN hw g4 g5 g6 gs
  have hi : i < c.length := by omega
  obtain ⟨s1, r1, k4, k5, k6, ks⟩ : ∃ s1, eH K [1, 1, 1, 0, 1, 0, 0, 0] s h .normal s1 h ∧ s1.at 4 = x ∧ s1.at 5 = .nu .i64 w ∧ s1.at 6 = .nu .i64 (.ofNat i) ∧ s1.at ag = .undef :=
   ⟨_, qW H.hk H.prim H.pl g6 g4 (jC H ho) (aM hi), g4, g5, g6, gs⟩
  obtain ⟨s2, r2, l4, l5, l6, l7, ls⟩ : ∃ s2, eH K [1, 1, 1, 0, 1, 0, 0, 1, 0, 0, 0] s1 h .normal s2 h ∧ s2.at 4 = x ∧ s2.at 5 = .nu .i64 w ∧ s2.at 6 = .nu .i64 (.ofNat i) ∧ s2.at 7 = .nu .i64 (.ofNat i) ∧ s2.at ag = .undef :=
   ⟨_, KH H.hk k6, k4, k5, k6, rfl, ks⟩
  obtain ⟨s3, h3, w3, r3, dj, S3, o3, hw3, m4, m5, m6, ms⟩ := Df H i s2 h c w hi hbig ok ho hN hw l4 l5 l6 l7 ls
  obtain ⟨s4, r4, n4, n5, n6, ns⟩ : ∃ s4, eH K [1, 1, 1, 0, 1, 0, 0, 1, 1] s3 h3 .normal s4 h3 ∧ s4.at 4 = x ∧ s4.at 5 = .nu .i64 w3 ∧ s4.at 6 = .nu .i64 (.ofNat (i + 1)) ∧ s4.at ag = .undef :=
   ⟨_, KK H.hk m6 (bI (by omega)), m4, m5, rfl, ms⟩
  obtain ⟨s5, h5, w5, r5, gS, S5, o5, q4, q5, qs⟩ := ih (i + 1) s4 h3 (kc c i) w3 (by rw [ip]; omega) (by rw [ip]; omega) dj o3 (Nat.le_trans hN S3.n) hw3 n4 n5 n6 ns
  exact ⟨s5, h5, w5, Runs.loop (Runs.seq r1 (Runs.seq (aB (Runs.seq r2 (aN r3))) r4)) r5, gS, S3.trans S5, o5, q4, q5, qs⟩
theorem hZ (a : List Int) : (ak a).all CV.one = true := by
 induction a with
 | nil => rfl
 | cons x l ih => exact ih
theorem nU (H : Std K) (ok : HpOk h) {a : List Int} (hne : a ≠ []) (hbig : a.length < 1099511627776) {x : CV} (ha : Row h x (ak a)) :
  ∃ x' w h', Comes K 85 [x] h (.tup [x', .nu .i64 w]) h' ∧ Same h.n h h' ∧ HpOk h' ∧ Out h.n h' 3 x' (ak (gL a)) := by
 have hf : K.P.funcs[85]? = some Tryz.f85 := by rw [H.hP]; exact Tryz.func85
 obtain ⟨F, B, x1, h1, a1, a2, a3, a4, a5⟩ := w7 (P := K.P) (t := 45) (t' := 45) (by rw [H.hP]; exact t45) ⟨_, _, _, by rw [H.hP]; exact t45⟩ ok ha (by simpa [ak] using hne) (hZ a) (by decide) (by rw [ax]; exact hbig)
 obtain ⟨s1, r1, g4, gs⟩ : ∃ s1, eH K [1, 0] (T.set (T.set (entry 0 [x]) 2 .nils) 3 (.nu .i64 0)) h .normal s1 h1 ∧ s1.at 4 = x1 ∧ s1.at ag = .undef := ⟨_, KE H.hk rfl a1 a2, rfl, rfl⟩
 obtain ⟨s2, h2, w2, r2, bt, S2, o2, k4, k5, ks⟩ := Dg H a.length 0 (T.set (T.set s1 5 (.nu .i64 0)) 6 (.nu .i64 0)) h1 a 0 (by omega) (by omega) a5 a3 a4.n (.inl rfl) g4 rfl rfl gs
 refine ⟨x1, w2, h2, ?_, a4.trans S2, bt, o2⟩
 exact H.go hf (Runs.seq (KD H.hk) (Runs.seq r1 (Runs.seq (KF H.hk) (Runs.seq (Runs.seq (KG H.hk) (aN r2)) (Cp H.hk H.prim H.pl k4 k5))))) (.inr rfl) (a4.trans S2).n ks rfl rfl
end
def nV (n x : Int) : Int := (x.tmod n + n).tmod n
def cd (most : Nat) (n : Int) : List Int → List Int → List Int
 | [], out => out
 | y :: r, out => if out.length < most then (match eo out (nV n y) with
  | true => cd most n r out
  | false => cd most n r (out ++ [nV n y])) else out
def dH (a : List Int) (most : Nat) (n : Int) : List Int := match cd most n a [] with
 | [] => gL [0]
 | o => gL o
theorem Gn {n : Int} (h1 : -9223372036854775808 ≤ n) (h2 : n < 9223372036854775808) : IntKind.i64.wrap n = n := by
 cases n with
 | ofNat a => exact fq a (by simp at h2; omega)
 | negSucc a => exact Bg a (by rw [Int.negSucc_eq] at h1; omega)
theorem w9 {P : Program} {t : TypeId} {x y : Int} (h1 : -9223372036854775808 ≤ x + y) (h2 : x + y < 9223372036854775808) : ab P .add t (.nu .i64 x) (.nu .i64 y) = some (.nu .i64 (x + y)) := by
 show some (gu .i64 (x + y)) = _
 rw [ez, Gn h1 h2]
theorem L5 {P : Program} {t : TypeId} {x y : Int} (hy : y ≠ 0) : ab P .rem t (.nu .i64 x) (.nu .i64 y) = some (.nu .i64 (x.tmod y)) := by
 have : dT y 0 = false := by rw [eW]; simpa using hy
 simp only [ab, kZ, mT, this]
theorem tr {n x : Int} (hn : 0 < n) : -n < x.tmod n ∧ x.tmod n < n := by
 constructor
 · exact Int.lt_tmod_of_pos x hn
 · exact Int.tmod_lt_of_pos x hn
theorem uf (c : List Int) (v : Int) : ak c ++ [.nu .i64 v] = ak (c ++ [v]) := by simp [ak]
section
variable {K : Ctx} {h : Hp}
theorem Same.le {N M : Nat} {h h' : Hp} (S : Same M h h') (hN : N ≤ M) : Same N h h' := ⟨S.n, fun k hk => S.get k (by omega)⟩
theorem Fp (H : Std K) {N : Nat} {h : Hp} {x : CV} {c : List Int} (ok : HpOk h) (hN : N ≤ h.n) (r : Out N h 3 x (ak c)) (v : Int) (hn : c.length < 1099511627776) :
  ∃ F B x' h', aL 1 [(0, .nu .i64 v)] (ae K.P 45) = some (F, B) ∧ aQ (h.push B) x (F h.n) (ae K.P 45) (ae K.P 45) = some (x', h') ∧ Out N h' 3 x' (ak (c ++ [v])) ∧ Same N h h' ∧ HpOk h' := by
 obtain ⟨F, B, x', h', a1, a2, a3, a4, a5⟩ := qa (P := K.P) (t := 45) (v := .nu .i64 v) (by rw [H.hP]; exact t45) ok hN r rfl (by decide) (by rw [ax]; exact hn)
 exact ⟨F, B, x', h', a1, a2, by rw [← uf]; exact a3, a4, a5⟩
theorem AC (H : Std K) {h0 : Hp} (bW : HpOk h0) {a : List Int} {most : Nat} {n : Int} (hmost : most < 1073741824) (hn : 0 < n) (hn2 : n < 1073741824) (hbig : a.length ≤ 9223372036854775807) {x : CV} (ha : Row h0 x (ak a)) : ∀ (m i : Nat) (s : Fr) (h : Hp) (o : CV) (c : List Int), i + m = a.length → HpOk h → Same h0.n h0 h → Out h0.n h 3 o (ak c) → c.length ≤ most → s.at 0 = x → s.at 1 = .nu .i64 (.ofNat most) → s.at 2 = .nu .i64 n → s.at 7 = o → s.at 8 = .nu .i64 (.ofNat i) → s.at ag = .undef →
  ∃ s' h' o', fw K [1, 1, 0, 1, 0] s h (.exit 0) s' h' ∧ s'.at ag = .undef ∧ HpOk h' ∧ Same h0.n h0 h' ∧ s'.at 7 = o' ∧ Out h0.n h' 3 o' (ak (cd most n (a.drop i) c)) ∧ (cd most n (a.drop i) c).length ≤ most := by
 intro m
 induction m with
 | zero =>
  intro i s h o c him ok S ho hc g0 g1 g2 g7 g8 gs
  have hi : i = a.length := by omega
  have hlen := fj H (ha.mono S bW (Nat.le_refl _))
  rw [ax] at hlen
  refine ⟨_, _, o, aE (sQ H.hk H.prim H.pl g8 g0 hlen (aY (by omega)) rfl) (by simp), gs, ok, S, g7, ?_⟩
  rw [hi, List.drop_length]; exact ⟨ho, hc⟩
 | succ m ih =>
  intro i s h o c him ok S ho hc g0 g1 g2 g7 g8 gs
  have hi : i < a.length := by omega
  have hr := ha.mono S bW (Nat.le_refl _)
  have hlen := fj H hr
  rw [ax] at hlen
  have hda : a.drop i = a[i] :: a.drop (i + 1) := List.drop_eq_getElem_cons hi
  obtain ⟨p, hp1, hp2⟩ := p8 H hr hi
  by_cases hcm : c.length < most
  · have t1 := tr (x := a[i]) hn
    have t2 := tr (x := a[i].tmod n + n) hn
    have o27 := L5 (P := K.P) (t := 3) (x := a[i]) (y := n) (by omega)
    have o29 := w9 (P := K.P) (t := 3) (x := a[i].tmod n) (y := n) (by omega) (by omega)
    have o31 := L5 (P := K.P) (t := 3) (x := a[i].tmod n + n) (y := n) (by omega)
    have hin := Fn H (v := nV n a[i]) (by omega) ho.row
    cases hq : eo c (nV n a[i]) with
    | true =>
     rw [hq] at hin
     obtain ⟨s1, r1, k0, k1, k2, k7, k8, ks⟩ : ∃ s1, fw K [1, 1, 0, 1, 0, 0] s h .normal s1 h ∧ s1.at 0 = x ∧ s1.at 1 = .nu .i64 (.ofNat most) ∧ s1.at 2 = .nu .i64 n ∧ s1.at 7 = o ∧ s1.at 8 = .nu .i64 (.ofNat (i + 1)) ∧ s1.at ag = .undef :=
      ⟨_, qV H.hk H.prim H.pl g8 g0 g7 g1 g2 hlen (aM hi) (jC H ho) (aM hcm) rfl hp1 hp2 o27 o29 o31 hin rfl (bI (by omega)), g0, g1, g2, g7, rfl, gs⟩
     obtain ⟨s', h', o', r2, rest⟩ := ih (i + 1) s1 h o c (by omega) ok S ho hc k0 k1 k2 k7 k8 ks
     refine ⟨s', h', o', Runs.loop r1 r2, ?_⟩
     have hv : cd most n (a.drop i) c = cd most n (a.drop (i + 1)) c := by rw [hda, cd, if_pos hcm, hq]
     rw [hv]; exact rest
    | false =>
     rw [hq] at hin
     obtain ⟨F, B, x', h', a1, a2, a3, a4, a5⟩ := Fp H ok S.n ho (nV n a[i]) (by omega)
     obtain ⟨s1, r1, k0, k1, k2, k7, k8, ks⟩ : ∃ s1, fw K [1, 1, 0, 1, 0, 0] s h .normal s1 h' ∧ s1.at 0 = x ∧ s1.at 1 = .nu .i64 (.ofNat most) ∧ s1.at 2 = .nu .i64 n ∧ s1.at 7 = x' ∧ s1.at 8 = .nu .i64 (.ofNat (i + 1)) ∧ s1.at ag = .undef :=
      ⟨_, qU H.hk H.prim H.pl g8 g0 g7 g1 g2 hlen (aM hi) (jC H ho) (aM hcm) rfl hp1 hp2 o27 o29 o31 hin rfl a1 a2 (bI (by omega)), g0, g1, g2, rfl, rfl, gs⟩
     obtain ⟨s', h2, o', r2, rest⟩ := ih (i + 1) s1 h' x' (c ++ [nV n a[i]]) (by omega) a5 (S.trans a4) a3 (by simp; omega) k0 k1 k2 k7 k8 ks
     refine ⟨s', h2, o', Runs.loop r1 r2, ?_⟩
     have hv : cd most n (a.drop i) c = cd most n (a.drop (i + 1)) (c ++ [nV n a[i]]) := by rw [hda, cd, if_pos hcm, hq]
     rw [hv]; exact rest
  · refine ⟨_, _, o, aE (sP H.hk H.prim H.pl g8 g0 g7 g1 hlen (aM hi) (jC H ho) (aY (by omega)) rfl) (by simp), gs, ok, S, g7, ?_⟩
    have hv : cd most n (a.drop i) c = c := by rw [hda, cd, if_neg hcm]
    rw [hv]; exact ⟨ho, hc⟩
theorem qb {N M el : Nat} {h : Hp} {x : CV} {cs : List CV} (hNM : M ≤ N) (r : Out N h el x cs) : Out M h el x cs := by
 cases r with
 | nils => exact .nils
 | @some k cs hk hn hne hs => exact .some (by omega) hn hne hs
theorem yc (H : Std K) (ok : HpOk h) {a : List Int} {most : Nat} {n : Int} (hmost : most < 1073741824) (hn : 0 < n) (hn2 : n < 1073741824) (hbig : a.length ≤ 9223372036854775807) {x : CV} (ha : Row h x (ak a)) :
  ∃ x' h', Comes K 55 [x, .nu .i64 (.ofNat most), .nu .i64 n] h x' h' ∧ Same h.n h h' ∧ HpOk h' ∧ Out h.n h' 3 x' (ak (dH a most n)) := by
 have hf : K.P.funcs[55]? = some Tryz.f55 := by rw [H.hP]; exact Tryz.func55
 obtain ⟨s1, r1, k0, k1, k2, k7, ks⟩ : ∃ s1, (∀ {e s' h'}, fw K [1, 1] s1 h e s' h' → Runs K 55 52 none (am Tryz.f55) (entry 0 [x, .nu .i64 (.ofNat most), .nu .i64 n]) h e s' h') ∧ s1.at 0 = x ∧ s1.at 1 = .nu .i64 (.ofNat most) ∧ s1.at 2 = .nu .i64 n ∧ s1.at 7 = .nils ∧ s1.at ag = .undef :=
  ⟨_, fun r => Runs.seq (J8 H.hk) (Runs.seq (J9 H.hk) r), rfl, rfl, rfl, rfl, rfl⟩
 obtain ⟨s2, h2, o2, r2, hs2, bt, S2, k72, ho2, hl2⟩ := AC H ok hmost hn hn2 hbig ha a.length 0 (T.set s1 8 (.nu .i64 0)) h .nils [] (by omega) ok (Same.refl _ _) .nils (by simp) k0 k1 k2 k7 rfl ks
 rw [List.drop_zero] at ho2 hl2
 have hlen := jC H ho2
 cases hq : cd most n a [] with
 | nil =>
  rw [hq] at hlen ho2
  obtain ⟨F, B, x', h3, a1, a2, a3, a4, a5⟩ := Fp H bt S2.n ho2 0 (by simp)
  obtain ⟨x4, w, h4, c1, c2, c3, c4⟩ := nU H a5 (a := [0]) (by simp) (by simp) a3.row
  refine ⟨x4, h4, ?_, (S2.trans a4).trans (c2.le (S2.trans a4).n), c3, ?_⟩
  · exact H.go hf (r1 (Runs.seq (Runs.seq (BU H.hk) (aN r2)) (Ao H.hk H.prim H.pl k72 hlen rfl a1 a2 c1 rfl rfl))) (.inr rfl) ((S2.trans a4).trans (c2.le (S2.trans a4).n)).n hs2 rfl rfl
  · have : dH a most n = gL [0] := by simp [dH, hq]
    rw [this]; exact qb (S2.trans a4).n c4
 | cons y l =>
  rw [hq] at hlen ho2 hl2
  obtain ⟨x4, w, h4, c1, c2, c3, c4⟩ := nU H bt (a := y :: l) (by simp) (by omega) ho2.row
  refine ⟨x4, h4, ?_, S2.trans (c2.le S2.n), c3, ?_⟩
  · exact H.go hf (r1 (Runs.seq (Runs.seq (BU H.hk) (aN r2)) (Ap H.hk H.prim H.pl k72 hlen rfl c1 rfl rfl))) (.inr rfl) (S2.trans (c2.le S2.n)).n hs2 rfl rfl
  · have : dH a most n = gL (y :: l) := by simp [dH, hq]
    rw [this]; exact qb S2.n c4
end
def cw (m : Nat) : Nat → List Int → List Int
 | _, [] => []
 | i, y :: r => if m / 2 ^ i % 2 = 1 then y :: cw m (i + 1) r else cw m (i + 1) r
def fb (a : List Int) : Nat → Nat → List (List Int) → List (List Int)
 | 0, _, out => out
 | c + 1, m, out => fb a c (m + 1) (ee out (cw m 0 a))
def dI (a : List Int) : List (List Int) := fb a (2 ^ a.length - 1) 1 []
theorem kd (s : List Int) : ∀ (r out : List (List Int)) (done : Bool) {o : List (List Int)}, cP s r out done = some o → o.length ≤ out.length + r.length + (if done then 0 else 1)
 | [], out, done, o, h => by
  simp only [cP, Option.some.injEq] at h
  subst h
  cases done <;> simp
 | a :: r, out, done, o, h => by
  unfold cP at h
  split at h
  · cases h
  · split at h
    · have := kd s r _ _ h
      simp at this ⊢
      omega
    · have := kd s r _ _ h
      simp at this ⊢
      omega
theorem iq (l : List (List Int)) (s : List Int) : (ee l s).length ≤ l.length + 1 := by
 unfold ee
 cases h : cP s l [] false with
 | none => simp
 | some o => have := kd s l [] false h; simp at this ⊢; omega
theorem lj (m : Nat) : ∀ (a : List Int) (i : Nat), (cw m i a).length ≤ a.length
 | [], i => by simp [cw]
 | y :: r, i => by
  unfold cw
  have := lj m r (i + 1)
  split <;> simp <;> omega
theorem lS (a : List Int) : ∀ (c m : Nat) (out : List (List Int)), (fb a c m out).length ≤ out.length + c
 | 0, m, out => by simp [fb]
 | c + 1, m, out => by
  have h1 := lS a c (m + 1) (ee out (cw m 0 a))
  have h2 := iq out (cw m 0 a)
  simp only [fb]; omega
theorem L6 {P : Program} {t : TypeId} {k : Nat} (hk : k ≤ 40) : ab P .shl t (.nu .i64 1) (.nu .i64 (.ofNat k)) = some (.nu .i64 (.ofNat (2 ^ k))) := by
 show some (gu .i64 (1 * 2 ^ (min k 64))) = _
 have h1 : (1 * 2 ^ (min k 64) : Int) = Int.ofNat (2 ^ k) := by
  rw [Nat.min_eq_left (by omega), Int.one_mul]
  simp
 have h2 : 2 ^ k ≤ 2 ^ 40 := Nat.pow_le_pow_right (by decide) hk
 have h3 : (2 : Nat) ^ 40 = 1099511627776 := by decide
 rw [h1, ez, fq (2 ^ k) (by omega)]
theorem L7 {P : Program} {t : TypeId} {m i : Nat} (hi : i ≤ 40) : ab P .shr t (.nu .i64 (.ofNat m)) (.nu .i64 (.ofNat i)) = some (.nu .i64 (.ofNat (m / 2 ^ i))) := by
 show some (CV.nu .i64 ((Int.ofNat m).fdiv (2 ^ (min i 64)))) = _
 have h1 : (2 ^ (min i 64) : Int) = Int.ofNat (2 ^ i) := by
  rw [Nat.min_eq_left (by omega)]
  simp
 rw [h1]
 exact congrArg (fun z => some (CV.nu .i64 z)) (Int.ofNat_fdiv m (2 ^ i)).symm
theorem L8 {P : Program} {t : TypeId} {q : Nat} : ab P .rem t (.nu .i64 (.ofNat q)) (.nu .i64 2) = some (.nu .i64 (.ofNat (q % 2))) := rfl
section
variable {K : Ctx} {h : Hp}
theorem Fq (H : Std K) {h0 : Hp} (bW : HpOk h0) {N : Nat} (hN : N ≤ h0.n) {a : List Int} (hbig : a.length ≤ 40) {x v3 : CV} (ha : Row h0 x (ak a)) (mm : Nat) : ∀ (m i : Nat) (s : Fr) (h : Hp) (o : CV) (c : List Int), i + m = a.length → HpOk h → Same h0.n h0 h → Out h0.n h 3 o (ak c) → c.length ≤ i → s.at 0 = x → s.at 3 = v3 → s.at 4 = .nu .i64 (.ofNat mm) → s.at 5 = o → s.at 6 = .nu .i64 (.ofNat i) → s.at ag = .undef →
  ∃ s' h' o', dc K [1, 1, 0, 1, 0, 0, 1, 0, 0, 1, 0, 1, 0] s h (.exit 2) s' h' ∧ s'.at ag = .undef ∧ s'.at 0 = x ∧ s'.at 3 = v3 ∧ s'.at 4 = .nu .i64 (.ofNat mm) ∧ HpOk h' ∧ Same h0.n h0 h' ∧ s'.at 5 = o' ∧ Out h0.n h' 3 o' (ak (c ++ cw mm i (a.drop i))) := by
 intro m
 induction m with
 | zero =>
  intro i s h o c him ok S ho hc g0 g3 g4 g5 g6 gs
  have hi : i = a.length := by omega
  have hlen := fj H (ha.mono S bW (Nat.le_refl _))
  rw [ax] at hlen
  refine ⟨_, _, o, aE (lh H.hk H.prim H.pl g6 g0 hlen (aY (by omega))) (by simp), gs, g0, g3, g4, ok, S, g5, ?_⟩
  rw [hi, List.drop_length]; simpa [cw] using ho
 | succ m ih =>
  intro i s h o c him ok S ho hc g0 g3 g4 g5 g6 gs
  have hi : i < a.length := by omega
  have hr := ha.mono S bW (Nat.le_refl _)
  have hlen := fj H hr
  rw [ax] at hlen
  have hda : a.drop i = a[i] :: a.drop (i + 1) := List.drop_eq_getElem_cons hi
  obtain ⟨p, hp1, hp2⟩ := p8 H hr hi
  have o24 := iW (P := K.P) (t := 3) (Int.ofNat (mm / 2 ^ i % 2)) 1
  have he : dT (Int.ofNat (mm / 2 ^ i % 2)) 1 = Nat.beq (mm / 2 ^ i % 2) 1 := rfl
  by_cases hb : mm / 2 ^ i % 2 = 1
  · rw [he, show Nat.beq (mm / 2 ^ i % 2) 1 = true by rw [hb]; rfl] at o24
    obtain ⟨F, B, x', h', a1, a2, a3, a4, a5⟩ := Fp H ok S.n ho a[i] (by omega)
    obtain ⟨s1, r1, k0, k3, k4, k5, k6, ks⟩ : ∃ s1, dc K [1, 1, 0, 1, 0, 0, 1, 0, 0, 1, 0, 1, 0, 0] s h .normal s1 h' ∧ s1.at 0 = x ∧ s1.at 3 = v3 ∧ s1.at 4 = .nu .i64 (.ofNat mm) ∧ s1.at 5 = x' ∧ s1.at 6 = .nu .i64 (.ofNat (i + 1)) ∧ s1.at ag = .undef :=
     ⟨_, kq H.hk H.prim H.pl g6 g0 g4 g5 hlen (aM hi) (L7 (by omega)) L8 o24 hp1 hp2 a1 a2 (bI (by omega)), g0, g3, g4, rfl, rfl, gs⟩
    obtain ⟨s', h2, o', r2, q1, q2, q3, q4, q5, q6, q7, q8⟩ := ih (i + 1) s1 h' x' (c ++ [a[i]]) (by omega) a5 (S.trans a4) a3 (by simp; omega) k0 k3 k4 k5 k6 ks
    refine ⟨s', h2, o', Runs.loop r1 r2, q1, q2, q3, q4, q5, q6, q7, ?_⟩
    have : c ++ cw mm i (a.drop i) = c ++ [a[i]] ++ cw mm (i + 1) (a.drop (i + 1)) := by rw [hda, cw, if_pos hb]; simp
    rw [this]; exact q8
  · rw [he, show Nat.beq (mm / 2 ^ i % 2) 1 = false by
     cases hq : Nat.beq (mm / 2 ^ i % 2) 1 with
     | false => rfl
     | true => exact absurd (Nat.eq_of_beq_eq_true hq) hb] at o24
    obtain ⟨s1, r1, k0, k3, k4, k5, k6, ks⟩ : ∃ s1, dc K [1, 1, 0, 1, 0, 0, 1, 0, 0, 1, 0, 1, 0, 0] s h .normal s1 h ∧ s1.at 0 = x ∧ s1.at 3 = v3 ∧ s1.at 4 = .nu .i64 (.ofNat mm) ∧ s1.at 5 = o ∧ s1.at 6 = .nu .i64 (.ofNat (i + 1)) ∧ s1.at ag = .undef :=
     ⟨_, ku H.hk H.prim H.pl g6 g0 g4 hlen (aM hi) (L7 (by omega)) L8 o24 (bI (by omega)), g0, g3, g4, g5, rfl, gs⟩
    obtain ⟨s', h2, o', r2, q1, q2, q3, q4, q5, q6, q7, q8⟩ := ih (i + 1) s1 h o c (by omega) ok S ho (by omega) k0 k3 k4 k5 k6 ks
    refine ⟨s', h2, o', Runs.loop r1 r2, q1, q2, q3, q4, q5, q6, q7, ?_⟩
    have : cw mm i (a.drop i) = cw mm (i + 1) (a.drop (i + 1)) := by rw [hda, cw, if_neg hb]
    rw [this]; exact q8
theorem AD (H : Std K) {h0 : Hp} (bW : HpOk h0) {a : List Int} (hbig : a.length ≤ 38) {x : CV} (ha : Row h0 x (ak a)) : ∀ (n m : Nat) (s : Fr) (h : Hp) (o : CV) (xs : List CV) (out : List (List Int)), m + n = 2 ^ a.length → HpOk h → Same h0.n h0 h → Row h o xs → Rows h xs out → out.length ≤ m → s.at 0 = x → s.at 3 = o → s.at 4 = .nu .i64 (.ofNat m) → s.at ag = .undef →
  ∃ s' h' o' xs', dc K [1, 1, 0, 1, 0] s h (.exit 0) s' h' ∧ s'.at ag = .undef ∧ HpOk h' ∧ Same h0.n h0 h' ∧ s'.at 3 = o' ∧ Row h' o' xs' ∧ Rows h' xs' (fb a n m out) := by
 intro n
 have hp : 2 ^ a.length ≤ 2 ^ 38 := Nat.pow_le_pow_right (by decide) hbig
 have hp2 : (2 : Nat) ^ 38 = 274877906944 := by decide
 induction n with
 | zero =>
  intro m s h o xs out hm ok S ho hxs hle g0 g3 g4 gs
  have hlen := fj H (ha.mono S bW (Nat.le_refl _))
  rw [ax] at hlen
  exact ⟨_, _, o, xs, aE (aC (ri H.hk H.prim H.pl g4 g0 hlen (L6 (by omega)) (aY (by omega))) (by simp)) (by simp), gs, ok, S, g3, ho, hxs⟩
 | succ n ih =>
  intro m s h o xs out hm ok S ho hxs hle g0 g3 g4 gs
  have hr := ha.mono S bW (Nat.le_refl _)
  have hlen := fj H hr
  rw [ax] at hlen
  obtain ⟨s1, r1, k0, k3, k4, ks⟩ : ∃ s1, dc K [1, 1, 0, 1, 0, 0, 0] s h .normal s1 h ∧ s1.at 0 = x ∧ s1.at 3 = o ∧ s1.at 4 = .nu .i64 (.ofNat m) ∧ s1.at ag = .undef :=
   ⟨_, q9 H.hk H.prim H.pl g4 g0 hlen (L6 (by omega)) (aM (by omega)), g0, g3, g4, gs⟩
  obtain ⟨s2, h2, o2, r2, l1, l2, l3, l4, bt, S2, l5, l6⟩ := Fq H ok (Nat.le_refl h.n) (by omega) hr m a.length 0 (T.set (T.set s1 5 .nils) 6 (.nu .i64 0)) h .nils [] (by omega) ok (Same.refl _ _) .nils (by simp) k0 k3 k4 rfl rfl ks
  rw [List.drop_zero, List.nil_append] at l6
  have hsl := lj m a 0
  obtain ⟨o3, xs3, h3, c3, S3, dj, hr3, hx3⟩ := ud H bt (b := cw m 0 a) (by omega) (l := out) (by omega) (ho.mono S2 ok (Nat.le_refl _)) (hxs.mono S2 ok (Nat.le_refl _)) l6.row
  obtain ⟨s3, r3, q0, q3, q4, qs⟩ : ∃ s3, dc K [1, 1, 0, 1, 0, 0, 1, 0, 0, 1, 1] s2 h2 .normal s3 h3 ∧ s3.at 0 = x ∧ s3.at 3 = o3 ∧ s3.at 4 = .nu .i64 (.ofNat m) ∧ s3.at ag = .undef :=
   ⟨_, EE H.hk l3 l5 (H.prim _ _) c3, l2, rfl, l4, l1⟩
  obtain ⟨s4, r4, t0, t3, t4, ts⟩ : ∃ s4, dc K [1, 1, 0, 1, 0, 0, 1, 1] s3 h3 .normal s4 h3 ∧ s4.at 0 = x ∧ s4.at 3 = o3 ∧ s4.at 4 = .nu .i64 (.ofNat (m + 1)) ∧ s4.at ag = .undef :=
   ⟨_, Hm H.hk q4 (bI (by omega)), q0, q3, rfl, qs⟩
  have S3' : Same h0.n h0 h3 := (S.trans (S2.le S.n)).trans (S3.le (S.trans (S2.le S.n)).n)
  have hpl := iq out (cw m 0 a)
  obtain ⟨s5, h5, o5, xs5, r5, e1, e2, e3, e4, e5, e6⟩ := ih (m + 1) s4 h3 o3 xs3 (ee out (cw m 0 a)) (by omega) dj S3' hr3 (hx3.mono S3 bt (Nat.le_refl _)) (by omega) t0 t3 t4 ts
  exact ⟨s5, h5, o5, xs5, Runs.loop (Runs.seq r1 (Runs.seq (aB (Runs.seq (Hk H.hk) (Runs.seq (Runs.seq (Hl H.hk) (aN r2)) r3))) r4)) r5, e1, e2, e3, e4, e5, e6⟩
theorem yd (H : Std K) (ok : HpOk h) {a : List Int} (hbig : a.length ≤ 38) {x : CV} (ha : Row h x (ak a)) :
  ∃ x' xs' h', Comes K 105 [x] h x' h' ∧ Same h.n h h' ∧ HpOk h' ∧ Row h' x' xs' ∧ Rows h' xs' (dI a) := by
 have hf : K.P.funcs[105]? = some Tryz.f105 := by rw [H.hP]; exact Tryz.func105
 have hpos : 0 < 2 ^ a.length := Nat.pow_pos (by decide)
 obtain ⟨s2, h2, o2, xs2, r2, hs2, bt, S2, k3, hr, hx⟩ := AD H ok hbig ha (2 ^ a.length - 1) 1 (T.set (T.set (T.set (entry 0 [x]) 2 .nils) 3 .nils) 4 (.nu .i64 1)) h .nils [] [] (by omega) ok (Same.refl _ _) .nils .nil (by simp) rfl rfl rfl rfl
 refine ⟨o2, xs2, h2, ?_, S2, bt, hr, hx⟩
 exact H.go hf (Runs.seq (Hh H.hk) (Runs.seq (Hi H.hk) (Runs.seq (Runs.seq (Hj H.hk) (aN r2)) (Cq H.hk H.prim H.pl k3)))) (.inr rfl) S2.n hs2 rfl rfl
end
theorem t46 : ae Tryz.prog 46 = .slice 3 1 8 [.nu .i64 0] := by kernel_rfl
theorem t22 : ae Tryz.prog 22 = .slice 46 1 24 [.nils] := by kernel_rfl
theorem z46 : ar Tryz.prog 46 = some (1, false) := by kernel_rfl
def eS (out : List (List Int)) (f : List (List Int)) : List (List Int) := f.foldl ee out
def cx : List (List Int) → List (List Int) → List (List Int)
 | [], out => out
 | a :: r, out => cx r (eS out (dI a))
def fc (l : List (List Int)) : List (List Int) := cx l []
theorem gM : ∀ (f out : List (List Int)), (eS out f).length ≤ out.length + f.length
 | [], out => by simp [eS]
 | s :: f, out => by
  have h1 := gM f (ee out s)
  have h2 := iq out s
  simp only [eS, List.foldl_cons, List.length_cons] at h1 ⊢
  omega
theorem iX (a : List Int) : (dI a).length < 2 ^ a.length := by
 have h := lS a (2 ^ a.length - 1) 1 []
 have hp : 0 < 2 ^ a.length := Nat.pow_pos (by decide)
 simp only [dI]
 simp at h
 omega
section
variable {K : Ctx} {h : Hp}
theorem fk (H : Std K) {x : CV} {cs : List CV} (r : Row h x cs) : an h x (ae K.P 22) = some (.nu .i64 (.ofNat cs.length)) := by rw [H.hP, t22]; exact r.len
theorem dM (H : Std K) {x : CV} {cs : List CV} (r : Row h x cs) : an h x (ae K.P 46) = some (.nu .i64 (.ofNat cs.length)) := by rw [H.hP, t46]; exact r.len
theorem ke (H : Std K) {x : CV} {xs : List CV} (r : Row h x xs) {i : Nat} (hi : i < xs.length) : ∃ p, ai x (.nu .i64 (.ofNat i)) (ae K.P 22) = some p ∧ ap h p (ar K.P 46) = some xs[i] := by
 obtain ⟨k, o, h1, h2⟩ := r.at (i := i) hi (e := 46) (b := 24) (z := [.nils])
 exact ⟨_, by rw [H.hP, t22]; exact h1, by rw [H.hP, z46, h2]⟩
theorem iY (H : Std K) {x : CV} {a : List Int} (r : Row h x (ak a)) {i : Nat} (hi : i < a.length) : ∃ p, ai x (.nu .i64 (.ofNat i)) (ae K.P 46) = some p ∧ ap h p (ar K.P 3) = some (.nu .i64 a[i]) := by
 obtain ⟨k, o, h1, h2⟩ := r.at (i := i) (by rw [ax]; exact hi) (e := 3) (b := 8) (z := [.nu .i64 0])
 refine ⟨_, by rw [H.hP, t46]; exact h1, ?_⟩
 rw [H.hP, z3, h2]; simp [ak]
theorem Dh (H : Std K) {v0 v4 x5 : CV} {fs : List CV} {f : List (List Int)} (hsm : ∀ a ∈ f, a.length < 4611686018427387904) : ∀ (m i : Nat) (s : Fr) (h : Hp) (o : CV) (xs : List CV) (out : List (List Int)), i + m = f.length → f.length < 4611686018427387904 → HpOk h → Row h x5 fs → Rows h fs f → Row h o xs → Rows h xs out → out.length + f.length < 549755813888 + i → s.at 0 = v0 → s.at 4 = v4 → s.at 5 = x5 → s.at 3 = o → s.at 6 = .nu .i64 (.ofNat i) → s.at ag = .undef →
  ∃ s' h' o' xs', fJ K [1, 1, 0, 1, 0, 0, 1, 0, 0, 1, 1, 0] s h (.exit 2) s' h' ∧ s'.at ag = .undef ∧ s'.at 0 = v0 ∧ s'.at 4 = v4 ∧ HpOk h' ∧ Same h.n h h' ∧ s'.at 3 = o' ∧ Row h' o' xs' ∧ Rows h' xs' (eS out (f.drop i)) := by
 intro m
 induction m with
 | zero =>
  intro i s h o xs out him hbf ok hf hfs ho hxs hle g0 g4 g5 g3 g6 gs
  have hi : i = f.length := by omega
  have hlen := gK H hf
  rw [hfs.length] at hlen
  refine ⟨_, _, o, xs, aE (mD H.hk H.prim H.pl g6 g5 hlen (aY (by omega))) (by simp), gs, g0, g4, ok, Same.refl _ _, g3, ho, ?_⟩
  rw [hi, List.drop_length]; exact hxs
 | succ m ih =>
  intro i s h o xs out him hbf ok hf hfs ho hxs hle g0 g4 g5 g3 g6 gs
  have hi : i < f.length := by omega
  have hfl := hfs.length
  have hlen := gK H hf
  rw [hfl] at hlen
  obtain ⟨p, hp1, hp2⟩ := p9 H hf (i := i) (by omega)
  obtain ⟨o3, xs3, h3, c3, S3, dj, hr3, hx3⟩ := ud H ok (b := f[i]) (hsm _ (List.getElem_mem hi)) (l := out) (by omega) ho hxs (hfs.get (by omega) hi)
  obtain ⟨s1, r1, k0, k4, k5, k3, k6, ks⟩ : ∃ s1, fJ K [1, 1, 0, 1, 0, 0, 1, 0, 0, 1, 1, 0, 0] s h .normal s1 h3 ∧ s1.at 0 = v0 ∧ s1.at 4 = v4 ∧ s1.at 5 = x5 ∧ s1.at 3 = o3 ∧ s1.at 6 = .nu .i64 (.ofNat (i + 1)) ∧ s1.at ag = .undef :=
   ⟨_, mC H.hk H.prim H.pl g6 g5 g3 hlen (aM hi) hp1 hp2 c3 (bI (by omega)), g0, g4, g5, rfl, rfl, gs⟩
  have hpl := iq out f[i]
  obtain ⟨s', h', o', xs', r2, e1, e2, e3, e4, e5, e6, e7, e8⟩ := ih (i + 1) s1 h3 o3 xs3 (ee out f[i]) (by omega) hbf dj (hf.mono S3 ok (Nat.le_refl _)) (hfs.mono S3 ok (Nat.le_refl _)) hr3 (hx3.mono S3 ok (Nat.le_refl _)) (by omega) k0 k4 k5 k3 k6 ks
  refine ⟨s', h', o', xs', Runs.loop r1 r2, e1, e2, e3, e4, S3.trans (e5.le S3.n), e6, e7, ?_⟩
  have hd : f.drop i = f[i] :: f.drop (i + 1) := List.drop_eq_getElem_cons hi
  rw [hd, eS, List.foldl_cons]; exact e8
theorem nW {s : List Int} {x : List Int} : ∀ (r out : List (List Int)) (done : Bool) {o : List (List Int)}, cP s r out done = some o → x ∈ o → x = s ∨ x ∈ out ∨ x ∈ r
 | [], out, done, o, h, hx => by
  simp only [cP, Option.some.injEq] at h
  subst h
  cases done <;> simp at hx
  · exact hx.symm.elim .inl (fun h => .inr (.inl h))
  · exact .inr (.inl hx)
 | a :: r, out, done, o, h, hx => by
  unfold cP at h
  split at h
  · cases h
  · split at h
    · have := nW r _ _ h hx
      simp at this ⊢
      rcases this with h | (h | h | h) | h <;> simp [h]
    · have := nW r _ _ h hx
      simp at this ⊢
      rcases this with h | (h | h) | h <;> simp [h]
theorem Fs {l : List (List Int)} {s x : List Int} (h : x ∈ ee l s) : x = s ∨ x ∈ l := by
 unfold ee at h
 cases hq : cP s l [] false with
 | none => rw [hq] at h; exact .inr h
 | some o => rw [hq] at h; have := nW l [] false hq h; simpa using this
theorem pF {a x : List Int} : ∀ (c m : Nat) (out : List (List Int)), x ∈ fb a c m out → (∃ k, x = cw k 0 a) ∨ x ∈ out
 | 0, m, out, h => .inr h
 | c + 1, m, out, h => by
  rcases pF c (m + 1) _ h with h | h
  · exact .inl h
  · rcases Fs h with h | h
    · exact .inl ⟨m, h⟩
    · exact .inr h
theorem po {a x : List Int} (h : x ∈ dI a) : x.length ≤ a.length := by
 rcases pF _ _ _ h with ⟨k, rfl⟩ | h
 · exact lj _ _ _
 · simp at h
theorem ye (H : Std K) {h0 : Hp} (bW : HpOk h0) {l : List (List Int)} (hl : l.length ≤ 1000) (hsm : ∀ a ∈ l, a.length ≤ 10) {x : CV} {cs : List CV} (hx : Row h0 x cs) (hxs : Rows h0 cs l) : ∀ (m i : Nat) (s : Fr) (h : Hp) (o : CV) (xs : List CV) (out : List (List Int)), i + m = l.length → HpOk h → Same h0.n h0 h → Row h o xs → Rows h xs out → out.length ≤ 1024 * i → s.at 0 = x → s.at 3 = o → s.at 4 = .nu .i64 (.ofNat i) → s.at ag = .undef →
  ∃ s' h' o' xs', fJ K [1, 1, 0, 1, 0] s h (.exit 0) s' h' ∧ s'.at ag = .undef ∧ HpOk h' ∧ Same h0.n h0 h' ∧ s'.at 3 = o' ∧ Row h' o' xs' ∧ Rows h' xs' (cx (l.drop i) out) := by
 intro m
 have hcl := hxs.length
 induction m with
 | zero =>
  intro i s h o xs out him ok S ho hxo hle g0 g3 g4 gs
  have hi : i = l.length := by omega
  have hlen := gK H (hx.mono S bW (Nat.le_refl _))
  rw [hcl] at hlen
  refine ⟨_, _, o, xs, aE (aC (sS H.hk H.prim H.pl g4 g0 hlen (aY (by omega))) (by simp)) (by simp), gs, ok, S, g3, ho, ?_⟩
  rw [hi, List.drop_length]; exact hxo
 | succ m ih =>
  intro i s h o xs out him ok S ho hxo hle g0 g3 g4 gs
  have hi : i < l.length := by omega
  have hr := hx.mono S bW (Nat.le_refl _)
  have hlen := gK H hr
  rw [hcl] at hlen
  obtain ⟨p, hp1, hp2⟩ := p9 H hr (i := i) (by omega)
  have hai := hsm _ (List.getElem_mem hi)
  have hxi := (hxs.mono S bW (Nat.le_refl _)).get (i := i) (by omega) hi
  obtain ⟨o5, xs5, h5, c5, S5, gS, hr5, hx5⟩ := yd H ok (a := l[i]) (by omega) hxi
  have hfl := iX l[i]
  have hpw : 2 ^ (l[i]).length ≤ 2 ^ 10 := Nat.pow_le_pow_right (by decide) hai
  have hpw2 : (2 : Nat) ^ 10 = 1024 := by decide
  obtain ⟨s1, r1, k0, k3, k4, ks⟩ : ∃ s1, fJ K [1, 1, 0, 1, 0, 0, 0] s h .normal s1 h ∧ s1.at 0 = x ∧ s1.at 3 = o ∧ s1.at 4 = .nu .i64 (.ofNat i) ∧ s1.at ag = .undef :=
   ⟨_, sR H.hk H.prim H.pl g4 g0 hlen (aM hi), g0, g3, g4, gs⟩
  obtain ⟨s2, r2, l0, l3, l4, l5, ls⟩ : ∃ s2, fJ K [1, 1, 0, 1, 0, 0, 1, 0, 0, 0] s1 h .normal s2 h5 ∧ s2.at 0 = x ∧ s2.at 3 = o ∧ s2.at 4 = .nu .i64 (.ofNat i) ∧ s2.at 5 = o5 ∧ s2.at ag = .undef :=
   ⟨_, Kf H.hk k0 k4 hp1 hp2 (H.prim _ _) c5, k0, k3, k4, rfl, ks⟩
  obtain ⟨s3, h3, o3, xs3, r3, e1, e2, e3, dj, S3, e6, e7, e8⟩ := Dh H (v0 := x) (v4 := .nu .i64 (.ofNat i)) (fun a ha => by have := po ha; omega) (dI l[i]).length 0 (T.set s2 6 (.nu .i64 0)) h5 o xs out (by omega) (by omega) gS hr5 hx5 (ho.mono S5 ok (Nat.le_refl _)) (hxo.mono S5 ok (Nat.le_refl _)) (by omega) l0 l4 l5 l3 rfl ls
  rw [List.drop_zero] at e8
  obtain ⟨s4, r4, t0, t3, t4, ts⟩ : ∃ s4, fJ K [1, 1, 0, 1, 0, 0, 1, 1] s3 h3 .normal s4 h3 ∧ s4.at 0 = x ∧ s4.at 3 = o3 ∧ s4.at 4 = .nu .i64 (.ofNat (i + 1)) ∧ s4.at ag = .undef :=
   ⟨_, Kj H.hk e3 (bI (by omega)), e2, e6, rfl, e1⟩
  have hpl := gM (dI l[i]) out
  have S' : Same h0.n h0 h3 := (S.trans (S5.le S.n)).trans (S3.le (S.trans (S5.le S.n)).n)
  obtain ⟨s6, h6, o6, xs6, r6, q1, q2, q3, q4, q5, q6⟩ := ih (i + 1) s4 h3 o3 xs3 (eS out (dI l[i])) (by omega) dj S' e7 e8 (by omega) t0 t3 t4 ts
  refine ⟨s6, h6, o6, xs6, Runs.loop (Runs.seq r1 (Runs.seq (aB (Runs.seq r2 (Runs.seq (Kg H.hk) (aN r3)))) r4)) r6, q1, q2, q3, q4, q5, ?_⟩
  have hd : l.drop i = l[i] :: l.drop (i + 1) := List.drop_eq_getElem_cons hi
  rw [hd, cx]; exact q6
theorem xa (H : Std K) (ok : HpOk h) {l : List (List Int)} (hl : l.length ≤ 1000) (hsm : ∀ a ∈ l, a.length ≤ 10) {x : CV} {cs : List CV} (hx : Row h x cs) (hxs : Rows h cs l) :
  ∃ x' xs' h', Comes K 56 [x] h x' h' ∧ Same h.n h h' ∧ HpOk h' ∧ Row h' x' xs' ∧ Rows h' xs' (fc l) := by
 have hf : K.P.funcs[56]? = some Tryz.f56 := by rw [H.hP]; exact Tryz.func56
 obtain ⟨s2, h2, o2, xs2, r2, hs2, bt, S2, k3, hr, hx2⟩ := ye H ok hl hsm hx hxs l.length 0 (T.set (T.set (T.set (entry 0 [x]) 2 .nils) 3 .nils) 4 (.nu .i64 0)) h .nils [] [] (by omega) ok (Same.refl _ _) .nils .nil (by simp) rfl rfl rfl rfl
 refine ⟨o2, xs2, h2, ?_, S2, bt, hr, hx2⟩
 exact H.go hf (Runs.seq (Kc H.hk) (Runs.seq (Kd H.hk) (Runs.seq (Runs.seq (Ke H.hk) (aN r2)) (EN H.hk H.prim H.pl k3)))) (.inr rfl) S2.n hs2 rfl rfl
end
def cu (most vm : Nat) (n : Int) : List (List Int) → List (List Int)
 | a :: r => match most with
  | 0 => []
  | m + 1 => dH a vm n :: cu m vm n r
 | [] => []
def iM (l : List (List Int)) (most dim : Nat) (n : Int) : List (List Int) := fc (cu most (dim + 1) n l)
theorem gN (vm : Nat) (n : Int) : ∀ (l : List (List Int)) (most : Nat), (cu most vm n l).length ≤ most
 | [], most => by cases most <;> simp [cu]
 | a :: r, 0 => by simp [cu]
 | a :: r, m + 1 => by have := gN vm n r m; simp [cu]; omega
theorem mZ : ∀ (m i : Nat) (c : List Int), (iL m i c).length = c.length
 | 0, i, c => rfl
 | m + 1, i, c => by rw [iL, mZ, ip]
theorem gO (c : List Int) : (gL c).length = c.length := mZ _ _ _
theorem ia (most : Nat) (n : Int) : ∀ (a c : List Int), c.length ≤ most → (cd most n a c).length ≤ most
 | [], c, h => h
 | y :: r, c, h => by
  unfold cd
  split
  · split
    · exact ia most n r c h
    · exact ia most n r _ (by simp; omega)
  · exact h
theorem na (a : List Int) (most : Nat) (n : Int) (hm : 1 ≤ most) : (dH a most n).length ≤ most := by
 have := ia most n a [] (by simp)
 unfold dH
 split
 · rw [gO]; exact hm
 · rename_i o ho _; rw [gO]; exact this
section
variable {K : Ctx} {h : Hp}
theorem Ft (H : Std K) {h0 : Hp} (bW : HpOk h0) {l : List (List Int)} {most dim : Nat} {n : Int} (hl : l.length < 549755813888) (hsm : ∀ a ∈ l, a.length ≤ 9223372036854775807) (hmost : most ≤ 1000) (hdim : dim < 1000) (hn : 0 < n) (hn2 : n < 1073741824) {x : CV} {cs : List CV} (hx : Row h0 x cs) (hxs : Rows h0 cs l) : ∀ (m i : Nat) (s : Fr) (h : Hp) (o : CV) (xs : List CV) (out : List (List Int)), i + m = most → i ≤ l.length → HpOk h → Same h0.n h0 h → Own h0.n h 45 o xs out → out.length ≤ i → s.at 0 = x → s.at 1 = .nu .i64 (.ofNat most) → s.at 2 = .nu .i64 (.ofNat dim) → s.at 3 = .nu .i64 n → s.at 9 = o → s.at 10 = .nu .i64 (.ofNat i) → s.at ag = .undef →
  ∃ s' h' o' xs', eE K [1, 1, 0, 1, 0] s h (.exit 0) s' h' ∧ s'.at ag = .undef ∧ HpOk h' ∧ Same h0.n h0 h' ∧ s'.at 9 = o' ∧ Own h0.n h' 45 o' xs' (out ++ cu m (dim + 1) n (l.drop i)) := by
 intro m
 have hcl := hxs.length
 induction m with
 | zero =>
  intro i s h o xs out him hil ok S ho hle g0 g1 g2 g3 g9 g10 gs
  have hlen := gK H (hx.mono S bW (Nat.le_refl _))
  rw [hcl] at hlen
  have hf : cu 0 (dim + 1) n (l.drop i) = [] := by cases l.drop i <;> rfl
  rw [hf, List.append_nil]
  by_cases hi : i < l.length
  · exact ⟨_, _, o, xs, aE (sN H.hk H.prim H.pl g10 g0 g1 hlen (aM hi) (aY (by omega)) rfl) (by simp), gs, ok, S, g9, ho⟩
  · exact ⟨_, _, o, xs, aE (lI H.hk H.prim H.pl g10 g0 hlen (aY (by omega)) rfl) (by simp), gs, ok, S, g9, ho⟩
 | succ m ih =>
  intro i s h o xs out him hil ok S ho hle g0 g1 g2 g3 g9 g10 gs
  have hr := hx.mono S bW (Nat.le_refl _)
  have hlen := gK H hr
  rw [hcl] at hlen
  by_cases hi : i < l.length
  · obtain ⟨p, hp1, hp2⟩ := p9 H hr (i := i) (by omega)
    have hxi := (hxs.mono S bW (Nat.le_refl _)).get (i := i) (by omega) hi
    have o31 := w9 (P := K.P) (t := 3) (x := Int.ofNat dim) (y := 1) (by simp; omega) (by simp; omega)
    obtain ⟨y, h1, c1, S1, cm, hy1⟩ := yc H ok (a := l[i]) (most := dim + 1) (n := n) (by omega) hn hn2 (hsm _ (List.getElem_mem hi)) hxi
    have ho1 : Own h0.n h1 45 o xs out := ho.mono S1 ok
    have hol := ho.rows.length
    obtain ⟨F, B, x', h', a1, a2, a3, a4, a5⟩ := Own.app (P := K.P) (t := 26) (by rw [H.hP]; exact wZ) cm (S.trans (S1.le S.n)).n ho1 (Row.off ho.out (Nat.le_refl _) hy1) (by decide) (by omega)
    obtain ⟨s1, r1, k0, k1, k2, k3, k9, k10, ks⟩ : ∃ s1, eE K [1, 1, 0, 1, 0, 0] s h .normal s1 h' ∧ s1.at 0 = x ∧ s1.at 1 = .nu .i64 (.ofNat most) ∧ s1.at 2 = .nu .i64 (.ofNat dim) ∧ s1.at 3 = .nu .i64 n ∧ s1.at 9 = x' ∧ s1.at 10 = .nu .i64 (.ofNat (i + 1)) ∧ s1.at ag = .undef :=
     ⟨_, sM H.hk H.prim H.pl g10 g0 g1 g9 g2 g3 hlen (aM hi) (aM (by omega)) rfl hp1 hp2 o31 c1 a1 a2 (bI (by omega)), g0, g1, g2, g3, rfl, rfl, gs⟩
    obtain ⟨s2, h2, o2, xs2, r2, e1, e2, e3, e4, e5⟩ := ih (i + 1) s1 h' x' _ _ (by omega) (by omega) a5 ((S.trans (S1.le S.n)).trans a4) a3 (by simp; omega) k0 k1 k2 k3 k9 k10 ks
    refine ⟨s2, h2, o2, xs2, Runs.loop r1 r2, e1, e2, e3, e4, ?_⟩
    have hd : l.drop i = l[i] :: l.drop (i + 1) := List.drop_eq_getElem_cons hi
    have : out ++ cu (m + 1) (dim + 1) n (l.drop i) = out ++ [dH l[i] (dim + 1) n] ++ cu m (dim + 1) n (l.drop (i + 1)) := by rw [hd, cu]; simp
    rw [this]; exact e5
  · have hf : cu (m + 1) (dim + 1) n (l.drop i) = [] := by rw [List.drop_of_length_le (by omega)]; rfl
    rw [hf, List.append_nil]
    exact ⟨_, _, o, xs, aE (lI H.hk H.prim H.pl g10 g0 hlen (aY (by omega)) rfl) (by simp), gs, ok, S, g9, ho⟩
theorem Di (H : Std K) {h0 : Hp} (bW : HpOk h0) {l : List (List Int)} (hl : l.length < 549755813888) {x : CV} {cs : List CV} (hx : Row h0 x cs) (hxs : Rows h0 cs l) : ∀ (m i : Nat) (s : Fr) (h : Hp) (o : CV), i + m = l.length → HpOk h → Same h0.n h0 h → Out h0.n h 46 o (cs.take i) → s.at 37 = x → s.at 38 = .nu .i64 (.ofNat l.length) → s.at 39 = .nu .i64 (.ofNat i) → s.at 11 = o → s.at ag = .undef →
  ∃ s' h' o', eE K [1, 1, 1, 1, 0, 1, 0] s h (.exit 2) s' h' ∧ s'.at ag = .undef ∧ HpOk h' ∧ Same h0.n h0 h' ∧ s'.at 11 = o' ∧ Out h0.n h' 46 o' cs := by
 intro m
 have hcl := hxs.length
 induction m with
 | zero =>
  intro i s h o him ok S ho g37 g38 g39 g11 gs
  refine ⟨_, _, o, aE (qR H.hk H.prim H.pl g39 g38 (aY (by omega))) (by simp), gs, ok, S, g11, ?_⟩
  rw [List.take_of_length_le (by omega)] at ho; exact ho
 | succ m ih =>
  intro i s h o him ok S ho g37 g38 g39 g11 gs
  have hi : i < l.length := by omega
  obtain ⟨p, hp1, hp2⟩ := p9 H (hx.mono S bW (Nat.le_refl _)) (i := i) (by omega)
  have hxi := hxs.get (i := i) (by omega) hi
  obtain ⟨F, B, x', h', a1, a2, a3, a4, a5⟩ := qa (P := K.P) (t := 22) (v := cs[i]) (by rw [H.hP]; exact t22) ok S.n ho hxi.one (by decide) (by simp; omega)
  obtain ⟨s1, r1, k37, k38, k39, k11, ks⟩ : ∃ s1, eE K [1, 1, 1, 1, 0, 1, 0, 0] s h .normal s1 h' ∧ s1.at 37 = x ∧ s1.at 38 = .nu .i64 (.ofNat l.length) ∧ s1.at 39 = .nu .i64 (.ofNat (i + 1)) ∧ s1.at 11 = x' ∧ s1.at ag = .undef :=
   ⟨_, qQ H.hk H.prim H.pl g39 g38 g37 g11 (aM hi) hp1 hp2 a1 a2 (bI (by omega)), g37, g38, rfl, rfl, gs⟩
  obtain ⟨s2, h2, o2, r2, e1, e2, e3, e4, e5⟩ := ih (i + 1) s1 h' x' (by omega) a5 (S.trans a4) (by rw [List.take_add_one, List.getElem?_eq_getElem (by omega)]; exact a3) k37 k38 k39 k11 ks
  exact ⟨s2, h2, o2, Runs.loop r1 r2, e1, e2, e3, e4, e5⟩
theorem kP : ∀ (l out : List (List Int)), (∀ a ∈ l, a.length ≤ 10) → (cx l out).length ≤ out.length + 1024 * l.length
 | [], out, _ => by simp [cx]
 | a :: r, out, h => by
  have h1 := kP r (eS out (dI a)) (fun b hb => h b (List.mem_cons_of_mem _ hb))
  have h2 := gM (dI a) out
  have h3 := iX a
  have h4 : 2 ^ a.length ≤ 2 ^ 10 := Nat.pow_le_pow_right (by decide) (h a List.mem_cons_self)
  have h5 : (2 : Nat) ^ 10 = 1024 := by decide
  simp only [cx, List.length_cons] at h1 ⊢
  omega
theorem kQ {vm : Nat} {n : Int} {x : List Int} : ∀ (l : List (List Int)) (most : Nat), x ∈ cu most vm n l → ∃ a, x = dH a vm n
 | [], most, h => by cases most <;> simp [cu] at h
 | a :: r, 0, h => by simp [cu] at h
 | a :: r, m + 1, h => by
  simp only [cu, List.mem_cons] at h
  rcases h with h | h
  · exact ⟨a, h⟩
  · exact kQ r m h
theorem xb (H : Std K) (ok : HpOk h) {l : List (List Int)} {most dim : Nat} {n : Int} (hl : l.length < 549755813888) (hsm : ∀ a ∈ l, a.length ≤ 9223372036854775807) (hmost : most ≤ 1000) (hdim : dim < 10) (hn : 0 < n) (hn2 : n < 1073741824) {x : CV} {cs : List CV} (hx : Row h x cs) (hxs : Rows h cs l) :
  ∃ x' xs' h', Comes K 15 [x, .nu .i64 (.ofNat most), .nu .i64 (.ofNat dim), .nu .i64 n] h x' h' ∧ Same h.n h h' ∧ HpOk h' ∧ Row h' x' xs' ∧ Rows h' xs' (iM l most dim n) := by
 have hf : K.P.funcs[15]? = some Tryz.f15 := by rw [H.hP]; exact Tryz.func15
 obtain ⟨s1, r1, k0, k1, k2, k3, k9, k10, ks⟩ : ∃ s1, (∀ {e s' h'}, eE K [1, 1, 0, 1] s1 h e s' h' → eE K [1, 1, 0] (T.set (T.set (entry 0 [x, .nu .i64 (.ofNat most), .nu .i64 (.ofNat dim), .nu .i64 n]) 8 .nils) 9 .nils) h e s' h') ∧ s1.at 0 = x ∧ s1.at 1 = .nu .i64 (.ofNat most) ∧ s1.at 2 = .nu .i64 (.ofNat dim) ∧ s1.at 3 = .nu .i64 n ∧ s1.at 9 = .nils ∧ s1.at 10 = .nu .i64 (.ofNat 0) ∧ s1.at ag = .undef :=
  ⟨_, fun r => Runs.seq (JO H.hk) r, rfl, rfl, rfl, rfl, rfl, rfl, rfl⟩
 obtain ⟨s2, h2, o2, xs2, r2, hs2, bt, S2, k92, ho2⟩ := Ft H ok hl hsm hmost (by omega) hn hn2 hx hxs most 0 s1 h .nils [] [] (by omega) (Nat.zero_le _) ok (Same.refl _ _) Own.nil (by simp) k0 k1 k2 k3 k9 k10 ks
 rw [List.drop_zero, List.nil_append] at ho2
 have hfl := gN (dim + 1) n l most
 have hfs : ∀ a ∈ cu most (dim + 1) n l, a.length ≤ 10 := by
  intro a ha
  obtain ⟨b, rfl⟩ := kQ l most ha
  have := na b (dim + 1) n (by omega); omega
 obtain ⟨o3, xs3, h3, c3, S3, dj, hr3, hx3⟩ := xa H bt (by omega) hfs ho2.out.row ho2.all
 have hcl := kP _ [] hfs
 have hv : iM l most dim n = cx (cu most (dim + 1) n l) [] := rfl
 have hlen3 := gK H hr3
 rw [hx3.length] at hlen3
 obtain ⟨s4, r4, l37, l38, l39, l11, ls⟩ : ∃ s4, eE K [1, 1, 1, 1, 0, 0] (T.set s2 11 .nils) h2 .normal s4 h3 ∧ s4.at 37 = o3 ∧ s4.at 38 = .nu .i64 (.ofNat (fc (cu most (dim + 1) n l)).length) ∧ s4.at 39 = .nu .i64 (.ofNat 0) ∧ s4.at 11 = .nils ∧ s4.at ag = .undef :=
  ⟨_, JS H.hk k92 (H.prim _ _) c3 hlen3, rfl, rfl, rfl, rfl, hs2⟩
 obtain ⟨s5, h5, o5, r5, e1, e2, e3, e4, e5⟩ := Di H dj (l := fc (cu most (dim + 1) n l)) (by simp only [fc]; simp at hcl; omega) hr3 hx3 (fc (cu most (dim + 1) n l)).length 0 s4 h3 .nils (by omega) dj (Same.refl _ _) (by simpa using Out.nils) l37 l38 l39 l11 ls
 have S' : Same h.n h h5 := (S2.trans (S3.le S2.n)).trans (e3.le (S2.trans (S3.le S2.n)).n)
 refine ⟨o5, xs3, h5, ?_, S', e2, e5.row, hx3.mono e3 dj (Nat.le_refl _)⟩
 exact H.go hf (Runs.seq (JM H.hk) (Runs.seq (JN H.hk) (Runs.seq (r1 (aN r2)) (Runs.seq (JR H.hk) (Runs.seq (Runs.seq r4 (aN r5)) (Am H.hk H.prim H.pl e4)))))) (.inr rfl) S'.n e1 rfl rfl
end
structure OkS (a : List Int) : Prop where
 ne : a ≠ []
 le : a.length ≤ 5
 rng : ∀ v ∈ a, 0 ≤ v ∧ v < 64
 asc : a.Pairwise (· < ·)
theorem tu {P : Program} {t : TypeId} (x y : Int) : ab P .geq t (.nu .i64 x) (.nu .i64 y) = some (.bo (cI y x)) := rfl
theorem tw {P : Program} {t : TypeId} (x y : Int) : ab P .leq t (.nu .i64 x) (.nu .i64 y) = some (.bo (cI x y)) := rfl
theorem ir {a b : Int} (h : a ≤ b) : cI a b = true := by rw [dD]; exact decide_eq_true h
theorem iu {a b : Int} (h : b < a) : cI a b = false := by rw [dD]; exact decide_eq_false (by omega)
theorem jq {a b : Int} (h : a = b) : dT a b = true := by rw [eW]; exact decide_eq_true h
theorem jr {a b : Int} (h : a ≠ b) : dT a b = false := by rw [eW]; exact decide_eq_false h
theorem Row.ceq {h : Hp} {x : CV} {cs : List CV} (r : Row h x cs) : CP.ceq x x = true := by
 cases r with
 | nils => rfl
 | sle => rfl
 | none k o c => exact wk _ _ _ _
 | some => exact wk _ _ _ _
section
variable {K : Ctx} {h : Hp}
theorem yf (H : Std K) {v : Int} (hv : 0 ≤ v ∧ v < 64) : Comes K 139 [.nu .i64 v] h (.bo false) h := by
 have hf : K.P.funcs[139]? = some Tryz.f139 := by rw [H.hP]; exact Tryz.func139
 have o4 := li (P := K.P) (t := 3) v 0
 have o7 := tu (P := K.P) (t := 3) v 64
 rw [ir hv.1] at o4
 rw [iu hv.2] at o7
 exact H.go hf (wM H.hk H.prim H.pl (s := entry 0 [.nu .i64 v]) rfl o4 o7 rfl) (.inr rfl) (Nat.le_refl _) rfl rfl rfl
theorem Dj (H : Std K) {a : List Int} {G : FuncId} {C : List CV} (hbig : a.length < 4611686018427387904) {x : CV} (ha : Row h x (ak a)) (hg : ∀ v ∈ a, Comes K G ([.nu .i64 v] ++ C) h (.bo false) h) : ∀ (m i : Nat) (s : Fr), i + m = a.length → s.at 0 = x → s.at 1 = .fn G C → s.at 7 = .nu .i64 (.ofNat a.length) → s.at 8 = .nu .i64 (.ofNat i) → s.at ag = .undef →
  ∃ s', fL K [1, 0, 1, 0] s h (.exit 0) s' h ∧ s'.at ag = .undef := by
 intro m
 induction m with
 | zero =>
  intro i s him g0 g1 g7 g8 gs
  exact ⟨_, aE (mY H.hk H.prim H.pl g8 g7 (aY (by omega))) (by simp), gs⟩
 | succ m ih =>
  intro i s him g0 g1 g7 g8 gs
  have hi : i < a.length := by omega
  obtain ⟨p, hp1, hp2⟩ := p8 H ha hi
  obtain ⟨s1, r1, k0, k1, k7, k8, ks⟩ : ∃ s1, fL K [1, 0, 1, 0, 0] s h .normal s1 h ∧ s1.at 0 = x ∧ s1.at 1 = .fn G C ∧ s1.at 7 = .nu .i64 (.ofNat a.length) ∧ s1.at 8 = .nu .i64 (.ofNat (i + 1)) ∧ s1.at ag = .undef :=
   ⟨_, lN H.hk H.prim H.pl g8 g7 g1 g0 (aM hi) hp1 hp2 rfl (hg _ (List.getElem_mem hi)) (bI (by omega)), g0, g1, g7, rfl, gs⟩
  obtain ⟨s', r2, hs'⟩ := ih (i + 1) s1 (by omega) k0 k1 k7 k8 ks
  exact ⟨s', Runs.loop r1 r2, hs'⟩
theorem AE (H : Std K) {a : List Int} {G : FuncId} {C : List CV} (hbig : a.length < 4611686018427387904) {x : CV} (ha : Row h x (ak a)) (hg : ∀ v ∈ a, Comes K G ([.nu .i64 v] ++ C) h (.bo false) h) : Comes K 166 [x, .fn G C] h (.nu .i64 (-1)) h := by
 have hf : K.P.funcs[166]? = some Tryz.f166 := by rw [H.hP]; exact Tryz.func166
 have hlen := fj H ha
 rw [ax] at hlen
 obtain ⟨s1, r1, k0, k1, k7, k8, ks⟩ : ∃ s1, fL K [1, 0, 0] (T.set (entry 0 [x, .fn G C]) 4 (.nu .i64 0)) h .normal s1 h ∧ s1.at 0 = x ∧ s1.at 1 = .fn G C ∧ s1.at 7 = .nu .i64 (.ofNat a.length) ∧ s1.at 8 = .nu .i64 (.ofNat 0) ∧ s1.at ag = .undef := ⟨_, y9 H.hk rfl hlen, rfl, rfl, rfl, rfl, rfl⟩
 obtain ⟨s2, r2, hs2⟩ := Dj H hbig ha hg a.length 0 s1 (by omega) k0 k1 k7 k8 ks
 exact H.go hf (Runs.seq (sv H.hk) (Runs.seq (Runs.seq r1 (aN r2)) (wL H.hk H.prim H.pl))) (.inr rfl) (Nat.le_refl _) hs2 rfl rfl
theorem yg (H : Std K) {a : List Int} {G : FuncId} {C : List CV} (hbig : a.length < 4611686018427387904) {x : CV} (ha : Row h x (ak a)) (hg : ∀ v ∈ a, Comes K G ([.nu .i64 v] ++ C) h (.bo false) h) : Comes K 138 [x, .fn G C] h (.bo false) h := by
 have hf : K.P.funcs[138]? = some Tryz.f138 := by rw [H.hP]; exact Tryz.func138
 exact H.go hf (Cs H.hk H.prim H.pl (s := entry 0 [x, .fn G C]) rfl rfl (AE H hbig ha hg) rfl) (.inr rfl) (Nat.le_refl _) rfl rfl rfl
theorem tx (H : Std K) {a : List Int} (hne : a ≠ []) (hle : a.length ≤ 5) (hr : ∀ v ∈ a, 0 ≤ v ∧ v < 64) {x : CV} (ha : Row h x (ak a)) : Comes K 110 [x] h (.nu .i64 0) h := by
 have hf : K.P.funcs[110]? = some Tryz.f110 := by rw [H.hP]; exact Tryz.func110
 have hlen := fj H ha
 rw [ax] at hlen
 have hl : a.length ≠ 0 := fun e => hne (List.eq_nil_of_length_eq_zero e)
 have o6 := iW (P := K.P) (t := 3) (Int.ofNat a.length) 0
 rw [jr (by simpa using hl)] at o6
 have o10 := aP (P := K.P) (t := 3) (Int.ofNat a.length) 5
 rw [ir (by simp; omega)] at o10
 exact H.go hf (rj H.hk H.prim H.pl (s := entry 0 [x]) rfl hlen o6 o10 (yg H (by omega) ha fun v hv => yf H (hr v hv))) (.inr rfl) (Nat.le_refl _) rfl rfl rfl
theorem AF (H : Std K) {a : List Int} (hok : OkS a) {x y : CV} (ha : Row h x (ak a)) (hy : Row h y (ak (a.drop 1))) : ∀ (m i : Nat) (s : Fr), i + m = a.length - 1 → s.at 0 = x → s.at 12 = y → s.at 13 = .nu .i64 (.ofNat (a.length - 1)) → s.at 14 = .nu .i64 (.ofNat i) → s.at ag = .undef →
  ∃ s', fx K [1, 1, 0, 1, 0] s h (.exit 0) s' h ∧ s'.at ag = .undef := by
 have hle := hok.le
 intro m
 induction m with
 | zero =>
  intro i s him g0 g12 g13 g14 gs
  exact ⟨_, aE (mX H.hk H.prim H.pl g14 g13 (aY (by omega))) (by simp), gs⟩
 | succ m ih =>
  intro i s him g0 g12 g13 g14 gs
  have hi : i < a.length := by omega
  have hi1 : i < (a.drop 1).length := by simp; omega
  obtain ⟨p, hp1, hp2⟩ := iY H ha hi
  obtain ⟨q, hq1, hq2⟩ := iY H hy hi1
  have hlt : a[i] < (a.drop 1)[i] := by
   rw [List.getElem_drop]
   exact List.pairwise_iff_getElem.1 hok.asc i (1 + i) hi (by omega) (by omega)
  have o24 := tw (P := K.P) (t := 3) (a.drop 1)[i] a[i]
  rw [iu hlt] at o24
  obtain ⟨s1, r1, k0, k12, k13, k14, ks⟩ : ∃ s1, fx K [1, 1, 0, 1, 0, 0] s h .normal s1 h ∧ s1.at 0 = x ∧ s1.at 12 = y ∧ s1.at 13 = .nu .i64 (.ofNat (a.length - 1)) ∧ s1.at 14 = .nu .i64 (.ofNat (i + 1)) ∧ s1.at ag = .undef :=
   ⟨_, lJ H.hk H.prim H.pl g14 g13 g12 g0 (aM (by omega)) hq1 hq2 hp1 hp2 o24 (bI (by omega)), g0, g12, g13, rfl, gs⟩
  obtain ⟨s', r2, hs'⟩ := ih (i + 1) s1 (by omega) k0 k12 k13 k14 ks
  exact ⟨s', Runs.loop r1 r2, hs'⟩
theorem Dk (a : List Int) (n : Nat) : (ak a).drop n = ak (a.drop n) := by simp [ak, List.map_drop]
theorem Dl (a : List Int) (n : Nat) : (ak a).take n = ak (a.take n) := by simp [ak, List.map_take]
theorem fd {a : List Int} (h : a ≠ []) : ak a ≠ [] := by simpa [ak] using h
theorem oT (H : Std K) {a : List Int} (hne : a ≠ []) {x : CV} (ha : Row h x (ak a)) {lo hi : Option CV} {i j : Nat} (hlo : gI lo 0 = some i) (hhi : gI hi a.length = some j) (hij : i ≤ j) (hj : j ≤ a.length) : ∃ y, ba lo hi h x (ae K.P 46) = some y ∧ Row h y (ak ((a.drop i).take (j - i))) := by
 obtain ⟨y, h1, h2⟩ := ha.cut (fd hne) (lo := lo) (hi := hi) (a := i) (b := j) (e := 3) (by' := 8) (z := [.nu .i64 0]) hlo (by rw [ax]; exact hhi) hij (by rw [ax]; exact hj)
 rw [Dk, Dl] at h2
 exact ⟨y, by rw [H.hP, t46]; exact h1, h2⟩
theorem lk (H : Std K) {a : List Int} (hok : OkS a) {x : CV} (ha : Row h x (ak a)) : Comes K 66 [x] h (.nu .i64 0) h := by
 have hf : K.P.funcs[66]? = some Tryz.f66 := by rw [H.hP]; exact Tryz.func66
 have hl : 1 ≤ a.length := by cases hq : a with | nil => exact absurd hq hok.ne | cons => simp
 obtain ⟨y, hy1, hy2⟩ := oT H hok.ne ha (lo := some (.nu .i64 1)) (hi := none) (i := 1) (j := a.length) rfl rfl hl (Nat.le_refl _)
 have ht : (a.drop 1).take (a.length - 1) = a.drop 1 := List.take_of_length_le (by simp)
 rw [ht] at hy2
 have hlen := dM H hy2
 rw [ax, List.length_drop] at hlen
 obtain ⟨s1, r1, j0, js⟩ : ∃ s1, fx K [1, 0] (T.set (entry 0 [x]) 2 (.nu .i64 0)) h .normal s1 h ∧ s1.at 0 = x ∧ s1.at ag = .undef := ⟨_, tZ H.hk H.prim H.pl rfl (tx H hok.ne hok.le hok.rng ha) rfl, rfl, rfl⟩
 obtain ⟨s2, r2, k0, k12, k13, k14, ks⟩ : ∃ s2, fx K [1, 1, 0, 0] s1 h .normal s2 h ∧ s2.at 0 = x ∧ s2.at 12 = y ∧ s2.at 13 = .nu .i64 (.ofNat (a.length - 1)) ∧ s2.at 14 = .nu .i64 (.ofNat 0) ∧ s2.at ag = .undef := ⟨_, Ca H.hk j0 hy1 hlen, j0, rfl, rfl, rfl, js⟩
 obtain ⟨s3, r3, hs3⟩ := AF H hok ha hy2 (a.length - 1) 0 s2 (by omega) k0 k12 k13 k14 ks
 exact H.go hf (Runs.seq (qN H.hk) (Runs.seq r1 (Runs.seq (Runs.seq r2 (aN r3)) (wI H.hk H.prim H.pl)))) (.inr rfl) (Nat.le_refl _) hs3 rfl rfl
theorem fe (H : Std K) (v : Int) : Comes K 144 [.nu .i64 v] h (.bo false) h := by
 have hf : K.P.funcs[144]? = some Tryz.f144 := by rw [H.hP]; exact Tryz.func144
 have o5 := tq (P := K.P) (t := 3) v v
 rw [jq rfl] at o5
 exact H.go hf (KN H.hk H.prim H.pl (s := entry 0 [.nu .i64 v]) rfl o5) (.inr rfl) (Nat.le_refl _) rfl rfl rfl
def ib (x y : Int) : Int := if x < y then -1 else if y < x then 1 else 0
theorem nb (H : Std K) (x y : Int) : Comes K 118 [.nu .i64 x, .nu .i64 y] h (.nu .i64 (ib x y)) h := by
 have hf : K.P.funcs[118]? = some Tryz.f118 := by rw [H.hP]; exact Tryz.func118
 have o16 := li (P := K.P) (t := 3) x y
 have o19 := aP (P := K.P) (t := 3) x y
 unfold ib
 split
 · rename_i hlt
   rw [iu hlt] at o16
   exact H.go hf (Au H.hk H.prim H.pl (s := entry 0 [.nu .i64 x, .nu .i64 y]) rfl rfl (fe H x) (fe H y) o16) (.inr rfl) (Nat.le_refl _) rfl rfl rfl
 · rename_i hlt
   rw [ir (by omega)] at o16
   split
   · rename_i hgt
     rw [iu hgt] at o19
     exact H.go hf (x7 H.hk H.prim H.pl (s := entry 0 [.nu .i64 x, .nu .i64 y]) rfl rfl (fe H x) (fe H y) o16 o19) (.inr rfl) (Nat.le_refl _) rfl rfl rfl
   · rename_i hgt
     rw [ir (by omega)] at o19
     exact H.go hf (x8 H.hk H.prim H.pl (s := entry 0 [.nu .i64 x, .nu .i64 y]) rfl rfl (fe H x) (fe H y) o16 o19) (.inr rfl) (Nat.le_refl _) rfl rfl rfl
theorem ug (x y : Int) (a b : List Int) : cE (x :: a) (y :: b) = if ib x y = 0 then cE a b else ib x y := by
 unfold ib
 simp only [cE]
 split
 · rename_i h
   rw [dD] at h
   have := of_decide_eq_false h
   simp [show x < y by omega]
 · rename_i h
   rw [dD] at h
   have h1 := of_decide_eq_true h
   rw [if_neg (show ¬ x < y by omega)]
   split
   · rename_i h2
     rw [dD] at h2
     have := of_decide_eq_false h2
     simp [show y < x by omega]
   · rename_i h2
     rw [dD] at h2
     have := of_decide_eq_true h2
     simp [show ¬ y < x by omega]
theorem Dm (H : Std K) {a b : List Int} (hab : a.length = b.length) (hbig : a.length < 4611686018427387904) {x y : CV} (ha : Row h x (ak a)) (hb : Row h y (ak b)) : ∀ (m i : Nat) (s : Fr), i + m = a.length → s.at 0 = x → s.at 1 = y → s.at 9 = x → s.at 10 = .nu .i64 (.ofNat a.length) → s.at 11 = .nu .i64 (.ofNat i) → s.at ag = .undef →
  ∃ e s', eR K [1, 0, 1, 0] s h e s' h ∧ s'.at ag = .undef ∧ ((e = .exit 0 ∧ s'.at 0 = x ∧ s'.at 1 = y ∧ cE (a.drop i) (b.drop i) = 0) ∨ (e = .ret ∧ s'.at 4 = .nu .i64 (cE (a.drop i) (b.drop i)))) := by
 intro m
 have hlb := dM H hb
 rw [ax] at hlb
 induction m with
 | zero =>
  intro i s him g0 g1 g9 g10 g11 gs
  refine ⟨_, _, aE (uZ H.hk H.prim H.pl g11 g10 (aY (by omega))) (by simp), gs, .inl ⟨rfl, g0, g1, ?_⟩⟩
  rw [List.drop_of_length_le (by omega)]; simp [cE]
 | succ m ih =>
  intro i s him g0 g1 g9 g10 g11 gs
  have hi : i < a.length := by omega
  have hib : i < b.length := by omega
  have hda : a.drop i = a[i] :: a.drop (i + 1) := List.drop_eq_getElem_cons hi
  have hdb : b.drop i = b[i] :: b.drop (i + 1) := List.drop_eq_getElem_cons hib
  obtain ⟨p, hp1, hp2⟩ := iY H ha hi
  obtain ⟨q, hq1, hq2⟩ := iY H hb hib
  have o19 := tu (P := K.P) (t := 3) (Int.ofNat i) (Int.ofNat b.length)
  rw [iu (by simp; omega)] at o19
  have hc := nb (h := h) H a[i] b[i]
  have o28 := tq (P := K.P) (t := 3) (ib a[i] b[i]) 0
  rw [hda, hdb, ug]
  by_cases hz : ib a[i] b[i] = 0
  · rw [jq hz] at o28
    obtain ⟨s1, r1, k0, k1, k9, k10, k11, ks⟩ : ∃ s1, eR K [1, 0, 1, 0, 0] s h .normal s1 h ∧ s1.at 0 = x ∧ s1.at 1 = y ∧ s1.at 9 = x ∧ s1.at 10 = .nu .i64 (.ofNat a.length) ∧ s1.at 11 = .nu .i64 (.ofNat (i + 1)) ∧ s1.at ag = .undef :=
     ⟨_, rm H.hk H.prim H.pl g11 g10 g9 g1 (aM hi) hp1 hp2 hlb o19 hq1 hq2 hc o28 (bI (by omega)), g0, g1, g9, g10, rfl, gs⟩
    obtain ⟨e, s', r2, hs', hr⟩ := ih (i + 1) s1 (by omega) k0 k1 k9 k10 k11 ks
    refine ⟨e, s', Runs.loop r1 r2, hs', ?_⟩
    rw [if_pos hz]; exact hr
  · rw [jr hz] at o28
    refine ⟨_, _, aE (rk H.hk H.prim H.pl g11 g10 g9 g1 (aM hi) hp1 hp2 hlb o19 hq1 hq2 hc o28) (by simp), gs, .inr ⟨rfl, ?_⟩⟩
    rw [if_neg hz]; rfl
theorem tA (H : Std K) {a b : List Int} (hab : a.length = b.length) (hbig : a.length < 4611686018427387904) {x y : CV} (ha : Row h x (ak a)) (hb : Row h y (ak b)) : Comes K 119 [x, y] h (.nu .i64 (cE a b)) h := by
 have hf : K.P.funcs[119]? = some Tryz.f119 := by rw [H.hP]; exact Tryz.func119
 have hla := dM H ha
 have hlb := dM H hb
 rw [ax] at hla hlb
 obtain ⟨s1, r1, k0, k1, k9, k10, k11, ks⟩ : ∃ s1, eR K [1, 0, 0] (T.set (entry 0 [x, y]) 4 (.nu .i64 0)) h .normal s1 h ∧ s1.at 0 = x ∧ s1.at 1 = y ∧ s1.at 9 = x ∧ s1.at 10 = .nu .i64 (.ofNat a.length) ∧ s1.at 11 = .nu .i64 (.ofNat 0) ∧ s1.at ag = .undef := ⟨_, HC H.hk rfl hla, rfl, rfl, rfl, rfl, rfl, rfl⟩
 obtain ⟨e, s2, r2, hs2, hr⟩ := Dm H hab hbig ha hb a.length 0 s1 (by omega) k0 k1 k9 k10 k11 ks
 rw [List.drop_zero, List.drop_zero] at hr
 rcases hr with ⟨rfl, j0, j1, hz⟩ | ⟨rfl, h4⟩
 · rw [hz]
   exact H.go hf (Runs.seq (zc H.hk) (Runs.seq (Runs.seq r1 (aN r2)) (Av H.hk H.prim H.pl j0 j1 hla hlb (aY (by omega))))) (.inr rfl) (Nat.le_refl _) hs2 rfl rfl
 · exact H.go hf (Runs.seq (zc H.hk) (aC (Runs.seq r1 (aF r2)) (by simp))) (.inr rfl) (Nat.le_refl _) hs2 (vs := [s2.at 4]) rfl h4
theorem ru (H : Std K) {a b : List Int} (hbig : a.length < 4611686018427387904) {x y : CV} (ha : Row h x (ak a)) (hb : Row h y (ak b)) : Comes K 74 [x, y] h (.nu .i64 (a8 a b)) h := by
 have hf : K.P.funcs[74]? = some Tryz.f74 := by rw [H.hP]; exact Tryz.func74
 have hla := dM H ha
 have hlb := dM H hb
 rw [ax] at hla hlb
 have hc := nb (h := h) H (Int.ofNat a.length) (Int.ofNat b.length)
 have o12 := tq (P := K.P) (t := 3) (ib (Int.ofNat a.length) (Int.ofNat b.length)) 0
 by_cases hab : a.length = b.length
 · have hz : ib (Int.ofNat a.length) (Int.ofNat b.length) = 0 := by simp [ib, hab]
   rw [jq hz] at o12
   have : a8 a b = cE a b := by simp [a8, hab]
   rw [this]
   exact H.go hf (HO H.hk H.prim H.pl (s := entry 0 [x, y]) rfl rfl hla hlb hc o12 (tA H hab hbig ha hb)) (.inr rfl) (Nat.le_refl _) rfl rfl rfl
 · have hz : ib (Int.ofNat a.length) (Int.ofNat b.length) = a8 a b := by
    simp only [ib, a8, if_neg hab, Int.ofNat_eq_natCast, Int.ofNat_lt]
    split
    · rfl
    · rw [if_pos (by omega)]
   have hne : a8 a b ≠ 0 := by
    simp only [a8, if_neg hab]; split <;> decide
   rw [hz] at o12 hc
   rw [jr hne] at o12
   exact H.go hf (HN H.hk H.prim H.pl (s := entry 0 [x, y]) rfl rfl hla hlb hc o12) (.inr rfl) (Nat.le_refl _) rfl rfl rfl
end
end Go.CP
