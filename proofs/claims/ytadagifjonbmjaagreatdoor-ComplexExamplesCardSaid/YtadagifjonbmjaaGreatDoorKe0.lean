import Derived.Shelf.Strings.Repeat
import Derived.Test.YtadagifjonbmjaaGreatDoorChecked
import Derived.Test.YtadagifjonbmjaaGreatDoorKs0
import Derived.Lib.Repeat
import Derived.Test.YtadagifjonbmjaaGreatDoorKv3
import Derived.Test.YtadagifjonbmjaaGreatDoorKg0
import Derived.Test.YtadagifjonbmjaaGreatDoorKt0
import Derived.KernelRfl
import Derived.Test.YtadagifjonbmjaaGreatDoorKw1
import Derived.Test.YtadagifjonbmjaaGreatDoorKl4
set_option linter.all false
set_option maxRecDepth 100000
namespace Go.Proofs
open Go.Shelf
def Tryz.repI_ren : Go.Shelf.Ren := ⟨fun | 105 => 53 | 212 => 99 | 99 => 100 | 165 => 101 | 166 => 62 | 170 => 102 | 169 => 64 | 263 => 129 | 264 => 130 | 206 => 131 | 240 => 108 | 241 => 132 | 276 => 136 | 277 => 157 | n => n, fun | 9 => 9 | 3 => 3 | 4 => 4 | 20 => 20 | 0 => 0 | 46 => 126 | 109 => 127 | 5 => 5 | 72 => 85 | 76 => 89 | 51 => 154 | 146 => 155 | 53 => 157 | 148 => 158 | 70 => 82 | 37 => 83 | 75 => 87 | 127 => 135 | 164 => 162 | 80 => 91 | n => n, fun | n => n⟩
theorem Tryz.repI : Go.Proofs.Lays.n105 Tryz.prog Tryz.repI_ren := {
 mixed := by kernel_rfl
 f99 := Tryz.func100.trans (congrArg some (by kernel_rfl))
 f105 := Tryz.func53.trans (congrArg some (by kernel_rfl))
 f165 := Tryz.func101.trans (congrArg some (by kernel_rfl))
 f166 := Tryz.func62.trans (congrArg some (by kernel_rfl))
 f169 := Tryz.func64.trans (congrArg some (by kernel_rfl))
 f170 := Tryz.func102.trans (congrArg some (by kernel_rfl))
 f206 := Tryz.func131.trans (congrArg some (by kernel_rfl))
 f212 := Tryz.func99.trans (congrArg some (by kernel_rfl))
 f240 := Tryz.func108.trans (congrArg some (by kernel_rfl))
 f241 := Tryz.func132.trans (congrArg some (by kernel_rfl))
 f263 := Tryz.func129.trans (congrArg some (by kernel_rfl))
 f264 := Tryz.func130.trans (congrArg some (by kernel_rfl))
 f276 := Tryz.func136.trans (congrArg some (by kernel_rfl))
 f277 := Tryz.func157.trans (congrArg some (by kernel_rfl))
 t0 := Tryz.underlying0
 a0 := Tryz.isAgg0
 z0 := Tryz.sizeOf0
 v0 := Tryz.zeroValue0
 t3 := Tryz.underlying3
 a3 := Tryz.isAgg3
 z3 := Tryz.sizeOf3
 v3 := Tryz.zeroValue3
 t4 := Tryz.underlying4
 a4 := Tryz.isAgg4
 z4 := Tryz.sizeOf4
 v4 := Tryz.zeroValue4
 t5 := Tryz.underlying5
 a5 := Tryz.isAgg5
 z5 := Tryz.sizeOf5
 v5 := Tryz.zeroValue5
 t9 := Tryz.underlying9
 a9 := Tryz.isAgg9
 z9 := Tryz.sizeOf9
 v9 := Tryz.zeroValue9
 t20 := Tryz.underlying20
 a20 := Tryz.isAgg20
 z20 := Tryz.sizeOf20
 v20 := Tryz.zeroValue20
 t37 := Tryz.underlying83
 a37 := Tryz.isAgg83
 z37 := Tryz.sizeOf83
 v37 := Tryz.zeroValue83
 t46 := Tryz.underlying126
 a46 := Tryz.isAgg126
 z46 := Tryz.sizeOf126
 v46 := Tryz.zeroValue126
 t51 := Tryz.underlying154
 a51 := Tryz.isAgg154
 z51 := Tryz.sizeOf154
 v51 := Tryz.zeroValue154
 t53 := Tryz.underlying157
 a53 := Tryz.isAgg157
 z53 := Tryz.sizeOf157
 v53 := Tryz.zeroValue157
 t70 := Tryz.underlying82
 a70 := Tryz.isAgg82
 z70 := Tryz.sizeOf82
 v70 := Tryz.zeroValue82
 t72 := Tryz.underlying85
 a72 := Tryz.isAgg85
 z72 := Tryz.sizeOf85
 v72 := Tryz.zeroValue85
 t75 := Tryz.underlying87
 a75 := Tryz.isAgg87
 z75 := Tryz.sizeOf87
 v75 := Tryz.zeroValue87
 t76 := Tryz.underlying89
 a76 := Tryz.isAgg89
 z76 := Tryz.sizeOf89
 v76 := Tryz.zeroValue89
 t109 := Tryz.underlying127
 a109 := Tryz.isAgg127
 z109 := Tryz.sizeOf127
 v109 := Tryz.zeroValue127
 t127 := Tryz.underlying135
 a127 := Tryz.isAgg135
 z127 := Tryz.sizeOf135
 v127 := Tryz.zeroValue135
 t146 := Tryz.underlying155
 a146 := Tryz.isAgg155
 z146 := Tryz.sizeOf155
 v146 := Tryz.zeroValue155
 t148 := Tryz.underlying158
 a148 := Tryz.isAgg158
 z148 := Tryz.sizeOf158
 v148 := Tryz.zeroValue158
 t164 := Tryz.underlying162
 a164 := Tryz.isAgg162
 z164 := Tryz.sizeOf162
 v164 := Tryz.zeroValue162 }
end Go.Proofs
namespace Go.CP
open Go.Proofs
variable [LG] [HK]
class ND [HK] : Prop where
 d : ∀ n, HK.dr n = 0
theorem tT [ND] {N : Nat} {w w' : World} (B : Go.RowKit.Below N w w') : Ext N w w' := ⟨B.os, B.tape, B.output, B.size, B.block, by rw [ND.d, ND.d]; exact Nat.le_refl _⟩
theorem Is : Builder.Extra Tryz.prog Tryz.repI_ren := {
 sizeBuilder := by kernel_rfl
 liesBuilder := by kernel_rfl
 t5 := Tryz.repI.t5
 a5 := Tryz.repI.a5
 z5 := Tryz.repI.z5
 v5 := Tryz.repI.v5
 infoByte := by kernel_rfl
 cellsByte := by kernel_rfl
 sizeByte := by kernel_rfl
 neB5 := by decide }
theorem LR : Tryz.repI_ren.f 105 = 53 := by kernel_rfl
def gu (s : List Nat) : Nat → List Nat
 | 0 => []
 | c + 1 => s ++ gu s c
theorem yw (l : List UInt8) : ∀ c, (Lib.repeatL l c).map (·.toNat) = gu (l.map (·.toNat)) c
 | 0 => rfl
 | c + 1 => by rw [Lib.repeatL, List.map_append, yw l c]; rfl
theorem K8 : qY Tryz.prog 53 := ⟨Tryz.f53, Tryz.func53, rfl, by kernel_rfl⟩
theorem CK [ND] {s : List Nat} {c : Nat} (h2 : 2 ≤ c) (h0 : 0 < s.length) (hl : s.length * c ≤ 140737488355328) (h : Hp) : FCall Tryz.prog 53 [.st s, .nu .i64 (.ofNat c)] h (.st (gu s c)) h := by
 refine ⟨K8, Nat.le_refl _, fun N0 ι w vals hN S hv => ?_⟩
 obtain ⟨v1, l1, rfl, g1, hv1⟩ := fB hv
 obtain ⟨v2, l2, rfl, g2, hv2⟩ := fB hv1
 have : l2 = [] := List.eq_nil_of_length_eq_zero hv2.1
 subst this
 obtain ⟨b, rfl, rfl⟩ := cG g1
 obtain rfl := bS g2
 have hsz : (bs b).length = b.size := by unfold bs; rw [List.length_map]; rfl
 rw [hsz] at h0 hl
 have hc63 : (c : Nat) ≤ 9223372036854775807 := Nat.le_trans (Nat.le_mul_of_pos_left _ h0) (by omega)
 have C := Any.strings_Repeat_main Tryz.repI Is b c w h2 hc63 hl h0
 rw [LR] at C
 refine C.mono ?_
 rintro e w' ⟨rfl, hB⟩
 have E : Ext w.heap.size w w' := tT hB
 have E0 : Ext N0 w w' := tT (hB.mono hN)
 refine ⟨_, ι, rfl, Im.le_refl ι, fun _ _ h => h, S.world E, ?_, E0⟩
 have := p7 ι ⟨(Lib.repeatL b.data.toList c).toArray⟩
 have e : bs ⟨(Lib.repeatL b.data.toList c).toArray⟩ = gu (bs b) c := by
  unfold bs
  rw [← yw]
 rw [e] at this
 exact this
def nW (args : List CV) (h : Hp) : Option (CV × Hp) := match args with
 | [.st s, .nu .i64 (.ofNat c)] => match Nat.ble 2 c && Nat.ble 1 s.length && Nat.ble (s.length * c) 140737488355328 with
  | true => some (.st (gu s c), h)
  | false => none
 | _ => none
theorem CL [ND] {args : List CV} {h h' : Hp} {r : CV} (hs : nW args h = some (r, h')) : FCall Tryz.prog 53 args h r h' := by
 unfold nW at hs
 split at hs
 · rename_i s c
   split at hs
   · rename_i hb
     simp only [Bool.and_eq_true] at hb
     obtain ⟨⟨h1, h2⟩, h3⟩ := hb
     cases hs
     exact CK (Nat.le_of_ble_eq_true h1) (Nat.le_of_ble_eq_true h2) (Nat.le_of_ble_eq_true h3) h
   · cases hs
 · cases hs
def Told53 (K : Ctx) : Prop := ∀ args h, K.spec 53 args h = nW args h
theorem Told53.comes {K : Ctx} (T : Told53 K) (hm : K.memo 53 = []) {s : List Nat} {c : Nat} (h2 : 2 ≤ c) (h0 : 0 < s.length) (hl : s.length * c ≤ 140737488355328) (h : Hp) : Comes K 53 [.st s, .nu .i64 (.ofNat c)] h (.st (gu s c)) h := Comes.told hm (by
 rw [T]
 simp only [nW, Nat.ble_eq_true_of_le h2, Nat.ble_eq_true_of_le (show 1 ≤ s.length from h0), Nat.ble_eq_true_of_le hl, Bool.and_self])
def fg : List (List Int) := [[0], [1], [2], [3], [0, 1], [0, 2], [1, 2], [2, 3], [0, 1, 2]]
theorem zH : er [[0, 1, 2], [2, 3]] = fg := by kernel_rfl
theorem tU : kZ [[0, 1, 2], [2, 3]] = 0 := by kernel_rfl
theorem kM : cd fg = 0 := by kernel_rfl
theorem CM : (fg.filter fun a => wc a [2]) = [[2], [0, 2], [1, 2], [2, 3], [0, 1, 2]] := by kernel_rfl
theorem yx : kX fg [2] = 0 := by kernel_rfl
theorem EJ : kX fg [1, 3] = 4 := by kernel_rfl
theorem CN : kX fg [] = 4 := by kernel_rfl
theorem EK : (fg.filter (oH 0)).length = 4 := by kernel_rfl
theorem EL : (fg.filter (oH (-1))) = [] := by kernel_rfl
def nY : List (List Int) := [[0], [1], [5], [0, 5]]
def jp : List (List Int) := [[0], [1], [2], [0, 1], [0, 2], [1, 2]]
theorem Mh : cd [] = 0 := by kernel_rfl
theorem Mi : cd [[0], [0, 1]] = 7 := by kernel_rfl
theorem Mj : cd [[1], [0]] = 6 := by kernel_rfl
theorem Mk : cd [[0], [0]] = 5 := by kernel_rfl
theorem Ml : cd [[0], [1, 0]] = 6 := by kernel_rfl
theorem Mm : cd [[]] = 1 := by kernel_rfl
theorem Mn : cd [[0, 1], [0]] = 7 := by kernel_rfl
theorem Mo : cd (List.replicate 1025 []) = 3 := by kernel_rfl
theorem MC : cm [48, 32, 49] = ([], 3, 2) := by kernel_rfl
theorem MD : cm [49, 32, 48, 10] = ([], 0, 6) := by kernel_rfl
theorem ME : cm [48, 49, 10] = ([], 1, 2) := by kernel_rfl
theorem MF : cm [10] = ([], 0, 2) := by kernel_rfl
theorem MG : cm [48, 10, 10] = ([], 2, 2) := by kernel_rfl
theorem MH : cm [48, 32, 10] = ([], 2, 2) := by kernel_rfl
theorem MI : cm [32, 48, 10] = ([], 0, 2) := by kernel_rfl
theorem MJ : cm [48, 32, 32, 49, 10] = ([], 2, 2) := by kernel_rfl
theorem MK : cm [49, 10, 54, 52, 10] = ([], 2, 1) := by kernel_rfl
theorem Mp : cm [49, 50, 51, 52, 53, 54, 55, 56, 57, 48, 10] = ([], 9, 2) := by kernel_rfl
theorem Mq : cm [48, 13, 10] = ([], 1, 2) := by kernel_rfl
theorem Mr : cm [48, 32, 49, 32, 50, 32, 51, 32, 52, 32, 53, 10] = ([], 0, 3) := by kernel_rfl
theorem ia {h : Hp} {cs : List CV} {el : Nat} : Row (h.push (.cells cs 0 el)) (.sl h.n 0 cs.length cs.length) cs := by
 have hg : (h.push (.cells cs 0 el)).get h.n = .cells cs 0 el := by rw [ag, if_pos rfl]
 by_cases hne : cs = []
 · subst hne; exact .none _ _ _
 · refine Row.some hne ?_ (Nat.le_refl _) (by rw [hg]; rfl)
   rw [hg]
   simp only [bk, Nat.zero_add, Nat.ble_eq_true_of_le (Nat.le_refl _), sub, List.drop_zero, List.take_length]
def bi : List (List Int) → Hp → List CV × Hp
 | [], h => ([], h)
 | a :: l, h => (.sl h.n 0 a.length a.length :: (bi l (h.push (.cells (ah a) 0 3))).1, (bi l (h.push (.cells (ah a) 0 3))).2)
theorem qO : ∀ (l : List (List Int)) (h : Hp), HpOk h → HpOk (bi l h).2 ∧ Same h.n h (bi l h).2 ∧ Rows (bi l h).2 (bi l h).1 l
 | [], h, ok => ⟨ok, Same.refl _ _, .nil⟩
 | a :: l, h, ok => by
  have S0 : Same h.n h (h.push (.cells (ah a) 0 3)) := Same.push (Nat.le_refl _) _
  have aX : HpOk (h.push (.cells (ah a) 0 3)) := ok.push _
  obtain ⟨ok', S, R⟩ := qO l (h.push (.cells (ah a) 0 3)) aX
  have hr := (ia (h := h) (cs := ah a) (el := 3)).mono S aX (Nat.le_refl _)
  rw [aw] at hr
  exact ⟨ok', S0.trans (S.le S0.n), .cons hr R⟩
theorem jC {l : List (List Int)} {h : Hp} {el : Nat} (ok : HpOk h) : Val ((bi l h).2.push (.cells (bi l h).1 0 el)) (.sl (bi l h).2.n 0 l.length l.length) l ∧ HpOk ((bi l h).2.push (.cells (bi l h).1 0 el)) ∧ Same h.n h ((bi l h).2.push (.cells (bi l h).1 0 el)) := by
 obtain ⟨ok', S, R⟩ := qO l h ok
 have S1 : Same (bi l h).2.n (bi l h).2 ((bi l h).2.push (.cells (bi l h).1 0 el)) := Same.push (Nat.le_refl _) _
 have hr := ia (h := (bi l h).2) (cs := (bi l h).1) (el := el)
 rw [R.length] at hr
 exact ⟨⟨_, hr, R.mono S1 ok' (Nat.le_refl _)⟩, ok'.push _, S.trans (S1.le S.n)⟩
section
variable {K : Ctx} {h : Hp}
theorem fI (H : Std K) (x : CV) : Comes K 51 [x] h x h := by
 have hf : K.P.funcs[51]? = some Tryz.f51 := by rw [H.hP]; exact Tryz.func51
 exact H.go hf (Runs.seq (J5 H.hk) (Runs.seq (J6 H.hk rfl) Runs.ret)) (.inr rfl) (Nat.le_refl _) rfl rfl rfl
theorem dc (H : Std K) {n : Nat} {parts : List (Nat × CV)} {F : Nat → CV} {B : HB} (h1 : aC n parts (.slice 3 1 8 [.nu .i64 0]) = some (F, B)) : aC n parts (ae K.P 46) = some (F, B) := by rw [H.hP, t46]; exact h1
theorem nZ (H : Std K) {n : Nat} {parts : List (Nat × CV)} {F : Nat → CV} {B : HB} (h1 : aC n parts (.slice 3 1 8 [.nu .i64 0]) = some (F, B)) : aC n parts (ae K.P 45) = some (F, B) := by rw [H.hP, t45]; exact h1
theorem mA (H : Std K) {n : Nat} {parts : List (Nat × CV)} {F : Nat → CV} {B : HB} (h1 : aC n parts (.slice 46 1 24 [.nils]) = some (F, B)) : aC n parts (ae K.P 22) = some (F, B) := by rw [H.hP, t22]; exact h1
theorem K9 (H : Std K) {n : Nat} {parts : List (Nat × CV)} {F : Nat → CV} {B : HB} (h1 : aC n parts (.slice 45 1 24 [.nils]) = some (F, B)) : aC n parts (ae K.P 26) = some (F, B) := by rw [H.hP, KP]; exact h1
theorem EM (H : Std K) (TT : fx K) (PD : cj K) (PY : da K) (h70 : ∀ args h, K.spec 70 args h = none) (ok : HpOk h) : fV K 50 [] h fun r h' => Val h' r fg := by
 have hf : K.P.funcs[50]? = some Tryz.f50 := by rw [H.hP]; exact Tryz.func50
 obtain ⟨V, aX, S1⟩ := jC (l := [[0, 1, 2], [2, 3]]) (h := h) (el := 46) ok
 obtain ⟨cs, hx, hxs⟩ := V
 obtain ⟨_, h2, c25, S2, bz, o, ds, rfl, O⟩ := la H TT PD PY h70 aX (l := [[0, 1, 2], [2, 3]]) ⟨by decide, by decide⟩ hx hxs
 rw [if_pos tU, zH] at O
 rw [tU] at c25
 have r1 := J3 (K := K) (s := T.set (entry 0 []) 0 .nils) (h := h) H.hk (F4 := fun k => .sl k 0 3 3) (B4 := .cells (ah [0, 1, 2]) 0 3) (F5 := fun k => .sl k 0 2 2) (B5 := .cells (ah [2, 3]) 0 3) (F6 := fun k => .sl k 0 2 2) (B6 := .cells [.sl h.n 0 3 3, .sl (h.n + 1) 0 2 2] 0 46) (dc H rfl) (dc H rfl) (mA H rfl) (H.prim _ _) (fI H _) (H.prim _ _) c25 rfl rfl
 exact ⟨_, h2, H.go hf (Runs.seq (J2 H.hk) (Runs.seq r1 (Runs.seq (J4 H.hk rfl) Runs.ret))) (.inr rfl) (S1.trans (S2.le S1.n)).n rfl rfl rfl, S1.trans (S2.le S1.n), bz, O.val⟩
theorem cg (H : Std K) (TT : fx K) (PD : cj K) (PY : da K) (PT : fU K) (h70 : ∀ args h, K.spec 70 args h = none) (ok : HpOk h) {t : List Nat} {a : Nat} {e : Int} (hp : cm t = ([], a, e)) : fV K 52 [.st t, .nu .i64 (.ofNat a), .nu .i64 e] h fun r _ => r = .bo true := by
 have hf : K.P.funcs[52]? = some Tryz.f52 := by rw [H.hP]; exact Tryz.func52
 obtain ⟨_, h1, c21, S1, aX, o, rfl, cs, hx, hxs⟩ := CI H TT PD PY PT h70 ok t
 rw [hp] at c21 hxs
 have hcs : cs = [] := List.eq_nil_of_length_eq_zero hxs.length
 subst hcs
 have o17 := fc H hx
 obtain ⟨s1, r1, a7, a8, a9, a1, a2, as1⟩ : ∃ s1, Fw K [1, 0] (T.set (entry 0 [.st t, .nu .i64 (.ofNat a), .nu .i64 e]) 6 (.bo false)) h .normal s1 h1 ∧ s1.at 7 = o ∧ s1.at 8 = .nu .i64 (.ofNat a) ∧ s1.at 9 = .nu .i64 e ∧ s1.at 1 = .nu .i64 (.ofNat a) ∧ s1.at 2 = .nu .i64 e ∧ s1.at ai = .undef :=
  ⟨_, Kq H.hk rfl (H.prim _ _) c21 rfl rfl rfl, rfl, rfl, rfl, rfl, rfl, rfl⟩
 have o22 : ac K.P .eql 3 (.nu .i64 (.ofNat a)) (.nu .i64 (.ofNat a)) = some (.bo true) := by rw [nF, md]
 have o27 : ac K.P .eql 29 (.nu .i64 e) (.nu .i64 e) = some (.bo true) := by rw [nF, md]
 exact ⟨_, h1, H.go hf (Runs.seq (Kp H.hk) (Runs.seq r1 (Runs.seq (BF H.hk a7 a8 a1 a9 a2 o17 rfl o22 rfl o27 rfl) Runs.ret))) (.inr rfl) S1.n as1 rfl rfl, S1, aX, rfl⟩
end
def wC : List Int → DL
 | [] => .nil
 | v :: a => .cons (.c (.nu .i64 v)) (wC a)
def n4 (a : List Int) : DV := .sl a.length (wC a)
def iP : List (List Int) → DL
 | [] => .nil
 | a :: l => .cons (n4 a) (iP l)
def fW (l : List (List Int)) : DV := .sl l.length (iP l)
def eN (l : List (List Int)) : DL := .cons (fW l) .nil
def n7 (l m : List (List Int)) : DL := .cons (fW l) (.cons (fW m) .nil)
def eO (d : DV) : RV := .tup (.cons d (.cons (.c (.nu .i64 0)) .nil))
section
variable {h : Hp} {x : CV} {cs : List CV} {a : List Int} {l m : List (List Int)}
theorem wD : ∀ (a : List Int) (r : List CV), mE h (wC a) (ah a ++ r) = true
 | [], r => by simp only [wC, mE]
 | v :: a, r => by
  have e : ah (v :: a) ++ r = .nu .i64 v :: (ah a ++ r) := rfl
  rw [e]
  simp only [wC, mE, dm, p1, dS, Bool.and_self, wD a r]
theorem tV (r : Row h x cs) (hne : cs ≠ []) : ∃ k o c rr, x = .sl k o cs.length c ∧ cs.length ≤ c ∧ eV o (h.get k) = some (cs ++ rr) := by
 cases r with
 | nils => exact absurd rfl hne
 | sle => exact absurd rfl hne
 | none k o c => exact absurd rfl hne
 | @some k o c cs _ hs hc _ =>
  have key : ∀ ds : List CV, (match Nat.ble (o + cs.length) ds.length with
    | true => some (sub ds o cs.length)
    | false => none) = some cs → ds.drop o = cs ++ (ds.drop o).drop cs.length := by
   intro ds hd
   split at hd
   · injection hd with hd
     unfold sub at hd
     have := List.take_append_drop cs.length (ds.drop o)
     rw [hd] at this
     exact this.symm
   · cases hd
  unfold bk at hs
  split at hs
  · rename_i ds m t hb; exact ⟨k, o, c, _, rfl, hc, by rw [hb]; simp only [eV]; exact congrArg _ (key ds hs)⟩
  · rename_i ds hb; exact ⟨k, o, c, _, rfl, hc, by rw [hb]; simp only [eV]; exact congrArg _ (key ds hs)⟩
  · rename_i ds ys m hb; exact ⟨k, o, c, _, rfl, hc, by rw [hb]; simp only [eV]; exact congrArg _ (key ds hs)⟩
  · rename_i ds hb; exact ⟨k, o, c, _, rfl, hc, by rw [hb]; simp only [eV]; exact congrArg _ (key ds hs)⟩
  · cases hs
theorem La (r : Row h x (ah a)) (hne : a ≠ []) : dm h (n4 a) x = true := by
 obtain ⟨k, o, c, rr, rfl, hc, hb⟩ := tV r (by cases a with | nil => exact absurd rfl hne | cons v a => intro e; cases e)
 rw [aw] at hc ⊢
 simp only [n4, dm, hb, Nat.beq_refl, Nat.ble_eq_true_of_le hc, wD, Bool.and_self]
theorem EN (R : Rows h cs l) : (∀ a ∈ l, a ≠ []) → ∀ r, mE h (iP l) (cs ++ r) = true := by
 induction R with
 | nil => intro _ r; simp only [iP, mE]
 | cons hx hs ih =>
  intro hne r
  simp only [List.cons_append, iP, mE, La hx (hne _ List.mem_cons_self), ih (fun a ha => hne a (List.mem_cons_of_mem _ ha)) r, Bool.and_self]
theorem wE (v : Val h x l) (hl : l ≠ []) (hne : ∀ a ∈ l, a ≠ []) : dm h (fW l) x = true := by
 obtain ⟨cs, hx, hs⟩ := v
 have hlen := hs.length
 obtain ⟨k, o, c, rr, rfl, hc, hb⟩ := tV hx (by rintro rfl; exact hl (List.eq_nil_of_length_eq_zero hlen.symm))
 rw [hlen] at hc ⊢
 simp only [fW, dm, hb, Nat.beq_refl, Nat.ble_eq_true_of_le hc, EN hs hne, Bool.and_self]
theorem tW : ∀ (a : List Int) (h : Hp), bm (wC a) h = (ah a, h)
 | [], h => rfl
 | v :: a, h => by simp only [wC, bm, lay, tW a h]; rfl
theorem yy (a : List Int) (h : Hp) : lay (n4 a) h = (.sl h.n 0 a.length a.length, h.push (.ro (ah a))) := by simp only [n4, lay, tW]
theorem wF {h : Hp} {cs : List CV} : Row (h.push (.ro cs)) (.sl h.n 0 cs.length cs.length) cs := by
 have hg : (h.push (.ro cs)).get h.n = .ro cs := by rw [ag, if_pos rfl]
 by_cases hne : cs = []
 · subst hne; exact .none _ _ _
 · refine Row.some hne ?_ (Nat.le_refl _) (by rw [hg]; rfl)
   rw [hg]
   simp only [bk, Nat.zero_add, Nat.ble_eq_true_of_le (Nat.le_refl _), sub, List.drop_zero, List.take_length]
theorem tX : ∀ (l : List (List Int)) (h : Hp), HpOk h → HpOk (bm (iP l) h).2 ∧ Same h.n h (bm (iP l) h).2 ∧ Rows (bm (iP l) h).2 (bm (iP l) h).1 l
 | [], h, ok => by simp only [iP, bm]; exact ⟨ok, Same.refl _ _, .nil⟩
 | a :: l, h, ok => by
  have S0 : Same h.n h (h.push (.ro (ah a))) := Same.push (Nat.le_refl _) _
  have aX : HpOk (h.push (.ro (ah a))) := ok.push _
  obtain ⟨ok', S, R⟩ := tX l (h.push (.ro (ah a))) aX
  have hr := (wF (h := h) (cs := ah a)).mono S aX (Nat.le_refl _)
  rw [aw] at hr
  simp only [iP, bm, yy]
  exact ⟨ok', S0.trans (S.le S0.n), .cons hr R⟩
theorem It (l : List (List Int)) (ok : HpOk h) : HpOk (lay (fW l) h).2 ∧ Same h.n h (lay (fW l) h).2 ∧ Val (lay (fW l) h).2 (lay (fW l) h).1 l := by
 obtain ⟨ok', S, R⟩ := tX l h ok
 have S1 : Same (bm (iP l) h).2.n (bm (iP l) h).2 ((bm (iP l) h).2.push (.ro (bm (iP l) h).1)) := Same.push (Nat.le_refl _) _
 have hr := wF (h := (bm (iP l) h).2) (cs := (bm (iP l) h).1)
 rw [R.length] at hr
 simp only [fW, lay]
 exact ⟨ok'.push _, S.trans (S1.le S.n), _, hr, R.mono S1 ok' (Nat.le_refl _)⟩
end
def tm (d : DL) (r : RV) (args : List CV) (h : Hp) : Option (CV × Hp) := match jE h d args with
 | true => some (kQ r h)
 | false => none
def Tells (K : Ctx) (f : FuncId) (d : DL) (r : RV) : Prop := ∀ args h, K.spec f args h = tm d r args h
section
variable {K : Ctx} {f : FuncId} {h : Hp} {x y : CV} {l m : List (List Int)} {c : List Int}
theorem Tells.comes {d : DL} {r : RV} {args : List CV} (T : Tells K f d r) (hm : K.memo f = []) (hd : jE h d args = true) : Comes K f args h (kQ r h).1 (kQ r h).2 := Comes.told hm (by rw [T]; simp only [tm, hd])
theorem Lb (v : Val h x l) (hl : l ≠ []) (hne : ∀ a ∈ l, a ≠ []) : jE h (eN l) [x] = true := by simp only [eN, jE, wE v hl hne, Bool.and_self]
theorem Ms (v : Val h x l) (hl : l ≠ []) (hne : ∀ a ∈ l, a ≠ []) (w : Val h y m) (hm : m ≠ []) (hnm : ∀ a ∈ m, a ≠ []) : jE h (n7 l m) [x, y] = true := by simp only [n7, jE, wE v hl hne, wE w hm hnm, Bool.and_self]
theorem tY (d : DV) : kQ (eO d) h = (.tup [(lay d h).1, .nu .i64 0], (lay d h).2) := by simp only [eO, kQ, bm, lay]
theorem zI (T : Tells K f (eN l) (eO (n4 c))) (hm : K.memo f = []) (ok : HpOk h) (v : Val h x l) (hl : l ≠ []) (hne : ∀ a ∈ l, a ≠ []) : fV K f [x] h fun r h' => ∃ o, r = .tup [o, .nu .i64 0] ∧ Row h' o (ah c) := by
 have C := T.comes hm (Lb v hl hne)
 rw [tY, yy] at C
 have R := wF (h := h) (cs := ah c)
 rw [aw] at R
 exact ⟨_, _, C, Same.push (Nat.le_refl _) _, ok.push _, _, rfl, R⟩
theorem qP (T : Tells K f (eN l) (eO (fW m))) (hm : K.memo f = []) (ok : HpOk h) (v : Val h x l) (hl : l ≠ []) (hne : ∀ a ∈ l, a ≠ []) : fV K f [x] h fun r h' => ∃ o, r = .tup [o, .nu .i64 0] ∧ Val h' o m := by
 have C := T.comes hm (Lb v hl hne)
 rw [tY] at C
 obtain ⟨ok', S, V⟩ := It m ok
 exact ⟨_, _, C, S, ok', _, rfl, V⟩
theorem zJ (T : Tells K f (n7 l m) (.one (.c (.bo true)))) (hk : K.memo f = []) (v : Val h x l) (hl : l ≠ []) (hne : ∀ a ∈ l, a ≠ []) (w : Val h y m) (hm : m ≠ []) (hnm : ∀ a ∈ m, a ≠ []) : Comes K f [x, y] h (.bo true) h := by
 have C := T.comes hk (Ms v hl hne w hm hnm)
 simp only [kQ, lay] at C
 exact C
end
section
variable {K : Ctx} {h : Hp}
theorem EO (H : Std K) {x : CV} {l : List (List Int)} (v : Val h x l) : aB h x (ae K.P 22) = some (.nu .i64 (.ofNat l.length)) := by
 obtain ⟨cs, hx, hxs⟩ := v
 have := fc H hx
 rw [hxs.length] at this; exact this
theorem EP (H : Std K) (A : Awake K) (TT : fx K) (T34 : Tells K 34 (eN fg) (eO (n4 [4, 4, 1]))) (T36 : Tells K 36 (eN nY) (eO (fW [[0, 5], [1]]))) (T37 : Tells K 37 (eN jp) (eO (fW jp))) (T41 : Tells K 41 (n7 [[0, 5], [1]] [[0, 5], [1]]) (.one (.c (.bo true)))) (PB : eo K) (PD : cj K) (PY : da K) (h70 : ∀ args h, K.spec 70 args h = none) (ok : HpOk h) :
  ∃ s' h', (∀ {e s2 h2}, bI K [1, 1, 1, 1, 1, 1, 1, 1, 1, 1, 1, 1] s' h' e s2 h2 → Runs K 11 277 none (an Tryz.f11) (entry 0 []) h e s2 h2) ∧ HpOk h' ∧ Same h.n h h' ∧ s'.at ai = .undef := by
 obtain ⟨sA, rA, as1⟩ : ∃ s1, (∀ {e s2 h2}, bI K [1, 1] s1 h e s2 h2 → Runs K 11 277 none (an Tryz.f11) (entry 0 []) h e s2 h2) ∧ s1.at ai = .undef :=
  ⟨_, fun r => Runs.seq (D2 H.hk) (Runs.seq (Runs.seq (Ea H.hk (H.prim _ _) A.comes rfl rfl) (Runs.condF (o := .tmp 28) rfl Runs.skip)) r), rfl⟩
 obtain ⟨k, g1, c50, S1, aX, vk⟩ := EM H TT PD PY h70 ok
 obtain ⟨sB, rB, b1, bs⟩ : ∃ s1, bI K [1, 1, 0] sA h .normal s1 g1 ∧ s1.at 1 = k ∧ s1.at ai = .undef := ⟨_, D3 H.hk (H.prim _ _) c50, rfl, as1⟩
 have hks : gU fg := ⟨by decide, by decide⟩
 obtain ⟨_, g2, c34, S2, bz, o2, rfl, h2⟩ := zI T34 (H.memo 34 (by decide)) aX vk (by decide) (by decide)
 obtain ⟨sC, rC, d1, d2, d3, ds⟩ : ∃ s1, bI K [1, 1, 1, 0] sB g1 .normal s1 g2 ∧ s1.at 1 = k ∧ s1.at 2 = o2 ∧ s1.at 3 = .nu .i64 0 ∧ s1.at ai = .undef := ⟨_, D4 H.hk b1 (H.prim _ _) c34 rfl rfl, b1, rfl, rfl, bs⟩
 have vk2 := vk.mono S2 aX
 have Sp2 : Same g2.n g2 (g2.push (.cells (ah [2]) 0 3)) := Same.push (Nat.le_refl _) _
 have okp2 : HpOk (g2.push (.cells (ah [2]) 0 3)) := bz.push _
 obtain ⟨_, hk2, hks2⟩ := id (vk2.mono Sp2 bz)
 obtain ⟨_, g3, c30, S3, ct, o4, ds4, rfl, O4⟩ := wj H PB okp2 (t := [2]) hks (by decide) hk2 hks2 (ia (h := g2) (cs := ah [2]) (el := 3))
 rw [if_pos yx, CM] at O4
 rw [yx] at c30
 obtain ⟨sD, rD, e1, e2, e3, e4, e5, es⟩ : ∃ s1, bI K [1, 1, 1, 1, 0] sC g2 .normal s1 g3 ∧ s1.at 1 = k ∧ s1.at 2 = o2 ∧ s1.at 3 = .nu .i64 0 ∧ s1.at 4 = o4 ∧ s1.at 5 = .nu .i64 0 ∧ s1.at ai = .undef :=
  ⟨_, D5 H.hk d1 (F37 := fun k => .sl k 0 1 1) (B37 := .cells (ah [2]) 0 3) (dc H rfl) (H.prim _ _) c30 rfl rfl, d1, d2, d3, rfl, rfl, ds⟩
 have T3 : Same g2.n g2 g3 := Sp2.trans (S3.le Sp2.n)
 have vk3 := vk2.mono T3 bz
 have h3 := h2.mono T3 bz (Nat.le_refl _)
 have v4 : Val g3 o4 [[2], [0, 2], [1, 2], [2, 3], [0, 1, 2]] := O4.val
 obtain ⟨Vp, okp, Sp⟩ := jC (l := nY) (h := g3) (el := 46) ct
 obtain ⟨_, g4, c36, S4, ez, o6, rfl, v6⟩ := qP T36 (H.memo 36 (by decide)) okp Vp (by decide) (by decide)
 have T4 : Same g3.n g3 g4 := Sp.trans (S4.le Sp.n)
 obtain ⟨sE, rE, f1, f2, f3, f4, f5, f6, f7, fs⟩ : ∃ s1, bI K [1, 1, 1, 1, 1, 0] sD g3 .normal s1 g4 ∧ s1.at 1 = k ∧ s1.at 2 = o2 ∧ s1.at 3 = .nu .i64 0 ∧ s1.at 4 = o4 ∧ s1.at 5 = .nu .i64 0 ∧ s1.at 6 = o6 ∧ s1.at 7 = .nu .i64 0 ∧ s1.at ai = .undef :=
  ⟨_, D6 H.hk (F42 := fun k => .sl k 0 1 1) (B42 := .cells (ah [0]) 0 3) (F43 := fun k => .sl k 0 1 1) (B43 := .cells (ah [1]) 0 3) (F44 := fun k => .sl k 0 1 1) (B44 := .cells (ah [5]) 0 3) (F45 := fun k => .sl k 0 2 2) (B45 := .cells (ah [0, 5]) 0 3) (F46 := fun k => .sl k 0 4 4) (B46 := .cells [.sl g3.n 0 1 1, .sl (g3.n + 1) 0 1 1, .sl (g3.n + 1 + 1) 0 1 1, .sl (g3.n + 1 + 1 + 1) 0 2 2] 0 46) (dc H rfl) (dc H rfl) (dc H rfl) (dc H rfl) (mA H rfl) (H.prim _ _) (fI H _) (H.prim _ _) c36 rfl rfl, e1, e2, e3, e4, e5, rfl, rfl, es⟩
 have vk4 := vk3.mono T4 ct
 have h4 := h3.mono T4 ct (Nat.le_refl _)
 have v44 := v4.mono T4 ct
 have Sp4 : Same g4.n g4 (g4.push (.cells (ah [1, 3]) 0 3)) := Same.push (Nat.le_refl _) _
 have okp4 : HpOk (g4.push (.cells (ah [1, 3]) 0 3)) := ez.push _
 obtain ⟨_, hk4, hks4⟩ := id (vk4.mono Sp4 ez)
 obtain ⟨_, g5, c30', S5, fh, o8, ds8, rfl, O8⟩ := wj H PB okp4 (t := [1, 3]) hks (by decide) hk4 hks4 (ia (h := g4) (cs := ah [1, 3]) (el := 3))
 rw [EJ] at c30'
 have T5 : Same g4.n g4 g5 := Sp4.trans (S5.le Sp4.n)
 obtain ⟨sF, rF, i1, i2, i3, i4, i5, i6, i7, i9, is⟩ : ∃ s1, bI K [1, 1, 1, 1, 1, 1, 0] sE g4 .normal s1 g5 ∧ s1.at 1 = k ∧ s1.at 2 = o2 ∧ s1.at 3 = .nu .i64 0 ∧ s1.at 4 = o4 ∧ s1.at 5 = .nu .i64 0 ∧ s1.at 6 = o6 ∧ s1.at 7 = .nu .i64 0 ∧ s1.at 9 = .nu .i64 4 ∧ s1.at ai = .undef :=
  ⟨_, D7 H.hk f1 (F53 := fun k => .sl k 0 2 2) (B53 := .cells (ah [1, 3]) 0 3) (dc H rfl) (H.prim _ _) c30' rfl rfl, f1, f2, f3, f4, f5, f6, f7, rfl, fs⟩
 have vk5 := vk4.mono T5 ez
 have h5 := h4.mono T5 ez (Nat.le_refl _)
 have v45 := v44.mono T5 ez
 have v65 := v6.mono T5 ez
 obtain ⟨_, hk5, hks5⟩ := id vk5
 obtain ⟨_, g6, c27, S6, ok6, o10, ds10, rfl, O10⟩ := KW H fh (t := []) hks (by decide) hk5 hks5 .nils
 rw [CN] at c27
 obtain ⟨sG, rG, j1, j2, j3, j4, j5, j6, j7, j9, j11, js⟩ : ∃ s1, bI K [1, 1, 1, 1, 1, 1, 1, 0] sF g5 .normal s1 g6 ∧ s1.at 1 = k ∧ s1.at 2 = o2 ∧ s1.at 3 = .nu .i64 0 ∧ s1.at 4 = o4 ∧ s1.at 5 = .nu .i64 0 ∧ s1.at 6 = o6 ∧ s1.at 7 = .nu .i64 0 ∧ s1.at 9 = .nu .i64 4 ∧ s1.at 11 = .nu .i64 4 ∧ s1.at ai = .undef :=
  ⟨_, D8 H.hk i1 (H.prim _ _) c27 rfl rfl, i1, i2, i3, i4, i5, i6, i7, i9, rfl, is⟩
 have vk6 := vk5.mono S6 fh
 have h6 := h5.mono S6 fh (Nat.le_refl _)
 have v46 := v45.mono S6 fh
 have v66 := v65.mono S6 fh
 obtain ⟨_, hk6, hks6⟩ := id vk6
 obtain ⟨_, g7, c29, S7, ok7, o12, ds12, rfl, O12⟩ := wk H PB (d := 0) ok6 hks hk6 hks6
 rw [if_pos kM] at O12
 rw [kM] at c29
 obtain ⟨sI, rI, k1, k2, k3, k4, k5, k6, k7, k9, k11, k12, k13, ks⟩ : ∃ s1, bI K [1, 1, 1, 1, 1, 1, 1, 1, 0] sG g6 .normal s1 g7 ∧ s1.at 1 = k ∧ s1.at 2 = o2 ∧ s1.at 3 = .nu .i64 0 ∧ s1.at 4 = o4 ∧ s1.at 5 = .nu .i64 0 ∧ s1.at 6 = o6 ∧ s1.at 7 = .nu .i64 0 ∧ s1.at 9 = .nu .i64 4 ∧ s1.at 11 = .nu .i64 4 ∧ s1.at 12 = o12 ∧ s1.at 13 = .nu .i64 0 ∧ s1.at ai = .undef :=
  ⟨_, D9 H.hk j1 (H.prim _ _) c29 rfl rfl, j1, j2, j3, j4, j5, j6, j7, j9, j11, rfl, rfl, js⟩
 have vk7 := vk6.mono S7 ok6
 have h7 := h6.mono S7 ok6 (Nat.le_refl _)
 have v47 := v46.mono S7 ok6
 have v67 := v66.mono S7 ok6
 have v12 := O12.val
 obtain ⟨_, hk7, hks7⟩ := id vk7
 obtain ⟨_, g8, c29', S8, ok8, o14, ds14, rfl, O14⟩ := wk H PB (d := -1) ok7 hks hk7 hks7
 rw [if_pos kM, EL] at O14
 rw [kM] at c29'
 obtain ⟨sJ, rJ, l1, l2, l3, l4, l5, l6, l7, l9, l11, l12, l13, l14, l15, ls⟩ : ∃ s1, bI K [1, 1, 1, 1, 1, 1, 1, 1, 1, 0] sI g7 .normal s1 g8 ∧ s1.at 1 = k ∧ s1.at 2 = o2 ∧ s1.at 3 = .nu .i64 0 ∧ s1.at 4 = o4 ∧ s1.at 5 = .nu .i64 0 ∧ s1.at 6 = o6 ∧ s1.at 7 = .nu .i64 0 ∧ s1.at 9 = .nu .i64 4 ∧ s1.at 11 = .nu .i64 4 ∧ s1.at 12 = o12 ∧ s1.at 13 = .nu .i64 0 ∧ s1.at 14 = o14 ∧ s1.at 15 = .nu .i64 0 ∧ s1.at ai = .undef :=
  ⟨_, BG H.hk k1 (H.prim _ _) c29' rfl rfl, k1, k2, k3, k4, k5, k6, k7, k9, k11, k12, k13, rfl, rfl, ks⟩
 have h8 := h7.mono S8 ok7 (Nat.le_refl _)
 have v48 := v47.mono S8 ok7
 have v68 := v67.mono S8 ok7
 have v128 := v12.mono S8 ok7
 have v14 := O14.val
 obtain ⟨Vr, okr, Sr⟩ := jC (l := jp) (h := g8) (el := 46) ok8
 obtain ⟨_, g9, c37, S9, ok9, o16, rfl, v16⟩ := qP T37 (H.memo 37 (by decide)) okr Vr (by decide) (by decide)
 have T9 : Same g8.n g8 g9 := Sr.trans (S9.le Sr.n)
 obtain ⟨sL, rL, m1, m2, m3, m4, m5, m6, m7, m9, m11, m12, m13, m14, m15, m16, m17, ms⟩ : ∃ s1, bI K [1, 1, 1, 1, 1, 1, 1, 1, 1, 1, 0] sJ g8 .normal s1 g9 ∧ s1.at 1 = k ∧ s1.at 2 = o2 ∧ s1.at 3 = .nu .i64 0 ∧ s1.at 4 = o4 ∧ s1.at 5 = .nu .i64 0 ∧ s1.at 6 = o6 ∧ s1.at 7 = .nu .i64 0 ∧ s1.at 9 = .nu .i64 4 ∧ s1.at 11 = .nu .i64 4 ∧ s1.at 12 = o12 ∧ s1.at 13 = .nu .i64 0 ∧ s1.at 14 = o14 ∧ s1.at 15 = .nu .i64 0 ∧ s1.at 16 = o16 ∧ s1.at 17 = .nu .i64 0 ∧ s1.at ai = .undef :=
  ⟨_, BH H.hk (F73 := fun k => .sl k 0 1 1) (B73 := .cells (ah [0]) 0 3) (F74 := fun k => .sl k 0 1 1) (B74 := .cells (ah [1]) 0 3) (F75 := fun k => .sl k 0 1 1) (B75 := .cells (ah [2]) 0 3) (F76 := fun k => .sl k 0 2 2) (B76 := .cells (ah [0, 1]) 0 3) (F77 := fun k => .sl k 0 2 2) (B77 := .cells (ah [0, 2]) 0 3) (F78 := fun k => .sl k 0 2 2) (B78 := .cells (ah [1, 2]) 0 3) (F79 := fun k => .sl k 0 6 6) (B79 := .cells [.sl g8.n 0 1 1, .sl (g8.n + 1) 0 1 1, .sl (g8.n + 1 + 1) 0 1 1, .sl (g8.n + 1 + 1 + 1) 0 2 2, .sl (g8.n + 1 + 1 + 1 + 1) 0 2 2, .sl (g8.n + 1 + 1 + 1 + 1 + 1) 0 2 2] 0 46) (dc H rfl) (dc H rfl) (dc H rfl) (dc H rfl) (dc H rfl) (dc H rfl) (mA H rfl) (H.prim _ _) (fI H _) (H.prim _ _) c37 rfl rfl, l1, l2, l3, l4, l5, l6, l7, l9, l11, l12, l13, l14, l15, rfl, rfl, ls⟩
 have h9 := h8.mono T9 ok8 (Nat.le_refl _)
 have v49 := v48.mono T9 ok8
 have v69 := v68.mono T9 ok8
 have v129 := v128.mono T9 ok8
 have v149 := v14.mono T9 ok8
 have Sq : Same g9.n g9 (g9.push (.cells (ah [4, 4, 1]) 0 3)) := Same.push (Nat.le_refl _) _
 have okq : HpOk (g9.push (.cells (ah [4, 4, 1]) 0 3)) := ok9.push _
 have c38 := tu H (a := [4, 4, 1]) (b := [4, 4, 1]) (by decide) (h9.mono Sq ok9 (Nat.le_refl _)) (ia (h := g9) (cs := ah [4, 4, 1]) (el := 3))
 have hz : aZ [4, 4, 1] [4, 4, 1] = 0 := (ew _ _).2 rfl
 obtain ⟨Vs, oks, Ss⟩ := jC (l := [[2], [0, 2], [1, 2], [2, 3], [0, 1, 2]]) (h := g9.push (.cells (ah [4, 4, 1]) 0 3)) (el := 45) okq
 have c23 := Ev H PB (l := [[2], [0, 2], [1, 2], [2, 3], [0, 1, 2]]) ⟨by decide, by decide⟩ ((v49.mono Sq ok9).mono Ss okq) Vs rfl
 have Sqs := Sq.trans (Ss.le Sq.n)
 obtain ⟨Vt, okt, St⟩ := jC (l := [[0, 5], [1]]) (h := (bi [[2], [0, 2], [1, 2], [2, 3], [0, 1, 2]] (g9.push (.cells (ah [4, 4, 1]) 0 3))).2.push (.cells (bi [[2], [0, 2], [1, 2], [2, 3], [0, 1, 2]] (g9.push (.cells (ah [4, 4, 1]) 0 3))).1 0 45)) (el := 45) oks
 have c41 := zJ T41 (H.memo 41 (by decide)) ((v69.mono Sqs ok9).mono St oks) (by decide) (by decide) Vt (by decide) (by decide)
 have T10 := Sqs.trans (St.le Sqs.n)
 have q12 := EO H (v129.mono T10 ok9)
 rw [EK] at q12
 have q14 := EO H (v149.mono T10 ok9)
 have q16 := EO H (v16.mono T10 ok9)
 obtain ⟨sM, rM, ns⟩ : ∃ s1, bI K [1, 1, 1, 1, 1, 1, 1, 1, 1, 1, 1, 0] sL g9 .normal s1 ((bi [[0, 5], [1]] ((bi [[2], [0, 2], [1, 2], [2, 3], [0, 1, 2]] (g9.push (.cells (ah [4, 4, 1]) 0 3))).2.push (.cells (bi [[2], [0, 2], [1, 2], [2, 3], [0, 1, 2]] (g9.push (.cells (ah [4, 4, 1]) 0 3))).1 0 45))).2.push (.cells (bi [[0, 5], [1]] ((bi [[2], [0, 2], [1, 2], [2, 3], [0, 1, 2]] (g9.push (.cells (ah [4, 4, 1]) 0 3))).2.push (.cells (bi [[2], [0, 2], [1, 2], [2, 3], [0, 1, 2]] (g9.push (.cells (ah [4, 4, 1]) 0 3))).1 0 45))).1 0 45)) ∧ s1.at ai = .undef :=
  ⟨_, Runs.seq (BT H.hk m3 m2 m5 m4 m7 m6 m9 m11 m13 m12 m15 m14 m17 m16 (eM rfl)
    (F88 := fun k => .sl k 0 3 3) (B88 := .cells (ah [4, 4, 1]) 0 3) (nZ H rfl) (H.prim _ _) c38 (eM hz) rfl (eM rfl) rfl
    (F98 := fun k => .sl k 0 1 1) (B98 := .cells (ah [2]) 0 3) (nZ H rfl) (F99 := fun k => .sl k 0 2 2) (B99 := .cells (ah [0, 2]) 0 3) (nZ H rfl) (F100 := fun k => .sl k 0 2 2) (B100 := .cells (ah [1, 2]) 0 3) (nZ H rfl) (F101 := fun k => .sl k 0 2 2) (B101 := .cells (ah [2, 3]) 0 3) (nZ H rfl) (F102 := fun k => .sl k 0 3 3) (B102 := .cells (ah [0, 1, 2]) 0 3) (nZ H rfl)
    (F103 := fun k => .sl k 0 5 5) (B103 := .cells (bi [[2], [0, 2], [1, 2], [2, 3], [0, 1, 2]] (g9.push (.cells (ah [4, 4, 1]) 0 3))).1 0 45) (K9 H rfl) (H.prim _ _) c23 rfl rfl (eM rfl) rfl
    (F113 := fun k => .sl k 0 2 2) (B113 := .cells (ah [0, 5]) 0 3) (nZ H rfl) (F114 := fun k => .sl k 0 1 1) (B114 := .cells (ah [1]) 0 3) (nZ H rfl)
    (F115 := fun k => .sl k 0 2 2) (B115 := .cells (bi [[0, 5], [1]] ((bi [[2], [0, 2], [1, 2], [2, 3], [0, 1, 2]] (g9.push (.cells (ah [4, 4, 1]) 0 3))).2.push (.cells (bi [[2], [0, 2], [1, 2], [2, 3], [0, 1, 2]] (g9.push (.cells (ah [4, 4, 1]) 0 3))).1 0 45))).1 0 45) (K9 H rfl) (H.prim _ _) c41 rfl rfl
    (eM rfl) rfl (eM rfl) rfl (eM rfl) rfl q12 (eM rfl) rfl (eM rfl) rfl q14 (eM rfl) rfl (eM rfl) rfl q16 (eM rfl) rfl) (Runs.condF (o := .tmp 153) rfl Runs.skip), ms⟩
 have U2 := S1.trans (S2.le S1.n)
 have U3 := U2.trans (T3.le U2.n)
 have U4 := U3.trans (T4.le U3.n)
 have U5 := U4.trans (T5.le U4.n)
 have U6 := U5.trans (S6.le U5.n)
 have U7 := U6.trans (S7.le U6.n)
 have U8 := U7.trans (S8.le U7.n)
 have U9 := U8.trans (T9.le U8.n)
 have U10 := U9.trans (T10.le U9.n)
 exact ⟨sM, _, fun r => rA (Runs.seq rB (Runs.seq rC (Runs.seq rD (Runs.seq rE (Runs.seq rF (Runs.seq rG (Runs.seq rI (Runs.seq rJ (Runs.seq rL (Runs.seq rM r)))))))))), okt, U10, ns⟩
end
theorem t72 : ae Tryz.prog 72 = .strct [(0, 1, false), (1, 1, false)] [.nils, .nu .i64 0] := by kernel_rfl
theorem Lc : ae Tryz.prog 73 = .slice 72 2 32 [.nils, .nu .i64 0] := by kernel_rfl
theorem z72 : au Tryz.prog 72 = some (2, true) := by kernel_rfl
theorem tZ {f : CV → CV → Bool} : ∀ (cs : List CV), (∀ c ∈ cs, f c c = true) → gW f cs cs = true
 | [], _ => rfl
 | c :: cs, h => by
  simp only [gW, h c List.mem_cons_self]
  exact tZ cs fun x hx => h x (List.mem_cons_of_mem _ hx)
theorem kN {cs : List CV} {m el : Nat} (h : ∀ c ∈ cs, ceq c c = true) : fj (.cells cs m el) (.cells cs m el) = true := by
 simp only [fj, Nat.beq_refl, tZ cs h, Bool.and_self]
structure PdI (h : Hp) (pd : List Pd) : Prop where
 a : ∀ p ∈ pd, (∃ k b, p.skip = false ∧ p.lay = some (k, b) ∧ k < h.n ∧ h.get k = b ∧ fj b b = true) ∨ (p.lay = none ∧ ∀ P, bO P p.o = false)
theorem PdI.nil {h : Hp} : PdI h [] := ⟨fun p hp => by cases hp⟩
theorem PdI.ok {h : Hp} {pd : List Pd} (I : PdI h pd) {P : Program} {s : Fr} : pd.all (bQ P s h) = true := by
 rw [List.all_eq_true]
 intro p hp
 rcases I.a p hp with ⟨k, b, h0, h1, _, h2, h3⟩ | ⟨h1, h2⟩
 · simp only [bQ, h0, h1, h2, h3]
 · cases hs : p.skip
   · simp only [bQ, hs, h1, h2 P]
   · simp only [bQ, hs]
theorem PdI.push {h : Hp} {pd : List Pd} (I : PdI h pd) (b : HB) : PdI (h.push b) pd := ⟨fun p hp => by
 rcases I.a p hp with ⟨k, b', h0, h1, hk, h2, h3⟩ | g
 · exact .inl ⟨k, b', h0, h1, Nat.lt_succ_of_lt hk, by rw [ag, if_neg (by omega)]; exact h2, h3⟩
 · exact .inr g⟩
theorem PdI.filter {h : Hp} {pd : List Pd} (I : PdI h pd) (f : Pd → Bool) : PdI h (pd.filter f) := ⟨fun p hp => I.a p (List.mem_filter.1 hp).1⟩
theorem PdI.cons {h : Hp} {pd : List Pd} (I : PdI h pd) {p : Pd} (hp : p.lay = none ∧ ∀ P, bO P p.o = false) : PdI h (p :: pd) := ⟨fun q hq => by
 rcases List.mem_cons.1 hq with rfl | hq
 · exact .inr hp
 · exact I.a q hq⟩
theorem PdI.laid {h : Hp} {pd : List Pd} (I : PdI h pd) {i : Nat} {o : Oper} {v : CV} {b : HB} (hb : fj b b = true) : PdI (h.push b) (⟨i, o, false, v, some (h.n, b)⟩ :: pd) := ⟨fun q hq => by
 rcases List.mem_cons.1 hq with rfl | hq
 · exact .inl ⟨h.n, b, rfl, rfl, Nat.lt_succ_self _, by rw [ag, if_pos rfl], hb⟩
 · exact (I.push b).a q hq⟩
section
variable {K : Ctx} {ops : Array Oper} {l : List Stp} {pd : List Pd} {i : Nat} {o : Oper} {s s2 : Fr} {h h2 : Hp} {v : CV}
theorem gG (I : PdI h pd) (ho : ops[i]? = some o) (hw : bN ops o s = some true) (H : Q1 K o s h v) (hl : ∀ P, bO P o = false) (rest : ∀ pd', PdI h pd' → RunP K ops l pd' (Fr.putO s o.dst v) h s2 h2) : RunP K ops (.take i :: l) pd s h s2 h2 := RunP.q ho hw H (rest _ (I.cons ⟨rfl, hl⟩))
theorem bP {F : Nat → CV} {b : HB} (I : PdI h pd) (ho : ops[i]? = some o) (hw : bN ops o s = some true) (hl : bA K.P o (ev s) = some (F, b)) (hb : fj b b = true) (rest : ∀ pd', PdI (h.push b) pd' → RunP K ops l pd' (Fr.putO s o.dst (F h.n)) (h.push b) s2 h2) : RunP K ops (.take i :: l) pd s h s2 h2 := jP ho hw hl (I.push b).ok (rest _ (I.laid hb))
theorem fJ {keep : List Nat} {cl : Call} {g : Operand} {f' : FuncId} {caps args : List CV} (I : PdI h pd) (ho : ops[i]? = some o) (hw : bN ops o s = some true) (hop : o.op = .call cl) (hc : cl.callee = .value g) (hg : ev s g = .fn f' caps) (ha : cl.args.toList.map (ev s) ++ caps = args) (hpr : K.prim f' args = none) (hC : Comes K f' args h v h) (rest : ∀ pd', PdI h pd' → RunP K ops l pd' (Fr.putO s o.dst v) h s2 h2) : RunP K ops (.only i keep :: l) pd s h s2 h2 := RunP.call ho hw hop hc hg ha hpr hC (I.filter _).ok (rest _ (I.filter _))
theorem wG {keep : List Nat} (I : PdI h pd) (ho : ops[i]? = some o) (hw : bN ops o s = some true) (H : Q1 K o s h v) (rest : ∀ pd', PdI h pd' → RunP K ops l pd' (Fr.putO s o.dst v) h s2 h2) : RunP K ops (.only i keep :: l) pd s h s2 h2 := RunP.only ho hw H.e (I.filter _).ok (rest _ (I.filter _))
theorem zK {keep : List Nat} {F : Nat → CV} {b : HB} (I : PdI h pd) (ho : ops[i]? = some o) (hw : bN ops o s = some true) (H : E1 K o s h (F h.n) (h.push b)) (rest : ∀ pd', PdI (h.push b) pd' → RunP K ops l pd' (Fr.putO s o.dst (F h.n)) (h.push b) s2 h2) : RunP K ops (.only i keep :: l) pd s h s2 h2 := RunP.only ho hw H ((I.push b).filter _).ok (rest _ ((I.push b).filter _))
theorem cH {t : TypeId} {F : Nat → CV} {B : HB} {n : Nat} {ps : Array (Nat × Operand)} {l : List (Nat × CV)} (ho : o.op = .buildSlice t n ps) (hp : ps.toList.map (fun p => (p.1, ev s p.2)) = l) (hr : aC n l (ae K.P t) = some (F, B)) : bA K.P o (ev s) = some (F, B) := by simp only [bA, ho, hp, hr]
theorem Ld {t : TypeId} {x y : Operand} {a b : CV} {F : Nat → CV} {B : HB} (ho : o.op = .makeSlice t x y) (hx : ev s x = a) (hy : ev s y = b) (hr : pT a b (ae K.P t) = some (F, B)) : bA K.P o (ev s) = some (F, B) := by simp [bA, ho, hx, hy, hr]
end
section
variable {K : Ctx} {h : Hp}
def lb (x : CV) (e : Nat) : CV := .agg [x, .nu .i64 (.ofNat e)]
theorem kO (H : Std K) {x : CV} (hx : x.sol = true) (hc : x.cells = [x]) {e : Nat} : lc [(0, x), (1, .nu .i64 (.ofNat e))] (ae K.P 72) = some (lb x e) := by
 rw [H.hP, t72]
 have hs : (CV.nu IntKind.i64 (Int.ofNat e)).sol = true := rfl
 have hcn : (CV.nu IntKind.i64 (Int.ofNat e)).cells = [.nu .i64 (.ofNat e)] := rfl
 simp only [lc, List.all_cons, List.all_nil, hx, hs, Bool.and_self, Bool.and_true, od, List.getElem?_cons_zero, List.getElem?_cons_succ, hc, hcn, List.length_cons, List.length_nil, setAt, lb]
 rfl
theorem dZ {l : List Nat} {m el : Nat} : fj (.cells (l.map fun n => .nu .i64 (.ofNat n)) m el) (.cells (l.map fun n => .nu .i64 (.ofNat n)) m el) = true := kN fun c hc => by
 obtain ⟨n, _, rfl⟩ := List.mem_map.1 hc
 exact dS _
theorem lI {a b : CV} {m el : Nat} (ha : ceq a a = true) (hb : ceq b b = true) : fj (.cells [a, b] m el) (.cells [a, b] m el) = true := kN fun c hc => by
 rcases List.mem_cons.1 hc with rfl | hc
 · exact ha
 · rcases List.mem_cons.1 hc with rfl | hc
   · exact hb
   · cases hc
theorem EQ (n : Nat) : dG [.nils] n = List.replicate n .nils := by
 induction n with
 | zero => rfl
 | succ n ih => rw [dG, ih, List.replicate_succ]; rfl
theorem Iu (n : Nat) : fj (.cells (List.replicate n .nils) 0 46) (.cells (List.replicate n .nils) 0 46) = true := kN fun c hc => by
 rw [List.eq_of_mem_replicate hc]; rfl
theorem Mt (H : Std K) : pT (.nu .i64 (.ofNat 1025)) (.nu .i64 (.ofNat 1025)) (ae K.P 22) = some (fun k => .sl k 0 1025 1025, .cells (List.replicate 1025 .nils) 0 46) := by
 rw [H.hP, t22, ← EQ]
 rfl
theorem Mu (H : Std K) {n : Nat} {parts : List (Nat × CV)} {F : Nat → CV} {B : HB} (h1 : aC n parts (.slice 72 2 32 [.nils, .nu .i64 0]) = some (F, B)) : aC n parts (ae K.P 73) = some (F, B) := by rw [H.hP, Lc]; exact h1
def FE : List Stp := [.t 0,.t 1,.t 2,.t 3,.t 6,.t 7,.t 8,.t 11,.t 12,.t 13,.t 16,.t 17,.t 18,.t 21,.t 24,.t 25,.t 26,.t 29,.t 30,.t 33,.o 4 [33, 30, 29, 26, 25, 24, 21, 18, 17, 16, 13, 12, 11, 8, 7, 6, 0],.t 5,.o 9 [5, 33, 30, 29, 26, 25, 24, 21, 18, 17, 16, 13, 12, 11, 0],.t 10,.o 14 [10, 5, 33, 30, 29, 26, 25, 24, 21, 18, 17, 16, 0],.t 15,.o 19 [15, 10, 5, 33, 30, 29, 26, 25, 24, 21, 0],.t 20,.o 22 [20, 15, 10, 5, 33, 30, 29, 26, 25, 24, 0],.t 23,.o 27 [23, 20, 15, 10, 5, 33, 30, 29, 0],.o 28 [23, 20, 15, 10, 5, 33, 30, 29, 0],.o 31 [33],.o 32 [33]]
def gR (h : Hp) (a b : List Int) : Hp := ((h.push (.cells (ah a) 0 3)).push (.cells (ah b) 0 3)).push (.cells [.sl h.n 0 a.length a.length, .sl (h.n + 1) 0 b.length b.length] 0 46)
def n9 (n : Nat) : CV := .sl (n + 2) 0 2 2
def g7 (h : Hp) : Hp := (gR (gR (gR (gR h [0] [0, 1]) [1] [0]) [0] [0]) [0] [1, 0]).push (.cells [.nils] 0 46)
def g8 (h : Hp) : Hp := (gR (g7 h) [0, 1] [0]).push (.cells (List.replicate 1025 .nils) 0 46)
def wH (n : Nat) : List CV := [.nils, .nu .i64 0, n9 n, .nu .i64 7, n9 (n + 3), .nu .i64 6, n9 (n + 6), .nu .i64 5, n9 (n + 9), .nu .i64 6, .sl (n + 12) 0 1 1, .nu .i64 1, n9 (n + 13), .nu .i64 7, .sl (n + 16) 0 1025 1025, .nu .i64 3]
theorem Le (H : Std K) (hp : K.plan 11 14 = some FE) {s : Fr} : ∃ s1, bI K [1, 1, 1, 1, 1, 1, 1, 1, 1, 1, 1, 1, 0, 0] s h .normal s1 ((g8 h).push (.cells (wH h.n) 0 72)) ∧ s1.at 185 = .sl (h.n + 17) 0 8 8 ∧ s1.at 186 = .nu .i64 8 ∧ s1.at 187 = .nu .i64 0 ∧ s1.at ai = s.at ai := by
 refine ⟨?w, Runs.drawn hp ?a, ?b⟩
 case a =>
  refine gG .nil (v := lb .nils 0) rfl rfl (gB rfl rfl (kO H rfl rfl)) (fun _ => rfl) fun _ I => ?_
  refine bP I (F := fun k => .sl k 0 1 1) (b := .cells (ah [0]) 0 3) rfl rfl (cH rfl rfl (dc H rfl)) (dZ (l := [0])) fun _ I => ?_
  refine bP I (F := fun k => .sl k 0 2 2) (b := .cells (ah [0, 1]) 0 3) rfl rfl (cH rfl rfl (dc H rfl)) (dZ (l := [0, 1])) fun _ I => ?_
  refine bP I (F := fun k => .sl k 0 2 2) (b := .cells [.sl h.n 0 1 1, .sl (h.n + 1) 0 2 2] 0 46) rfl rfl (cH rfl rfl (mA H rfl)) (lI (eR _ _ _ _) (eR _ _ _ _)) fun _ I => ?_
  refine bP I (F := fun k => .sl k 0 1 1) (b := .cells (ah [1]) 0 3) rfl rfl (cH rfl rfl (dc H rfl)) (dZ (l := [1])) fun _ I => ?_
  refine bP I (F := fun k => .sl k 0 1 1) (b := .cells (ah [0]) 0 3) rfl rfl (cH rfl rfl (dc H rfl)) (dZ (l := [0])) fun _ I => ?_
  refine bP I (F := fun k => .sl k 0 2 2) (b := .cells [.sl (h.n + 3) 0 1 1, .sl (h.n + 4) 0 1 1] 0 46) rfl rfl (cH rfl rfl (mA H rfl)) (lI (eR _ _ _ _) (eR _ _ _ _)) fun _ I => ?_
  refine bP I (F := fun k => .sl k 0 1 1) (b := .cells (ah [0]) 0 3) rfl rfl (cH rfl rfl (dc H rfl)) (dZ (l := [0])) fun _ I => ?_
  refine bP I (F := fun k => .sl k 0 1 1) (b := .cells (ah [0]) 0 3) rfl rfl (cH rfl rfl (dc H rfl)) (dZ (l := [0])) fun _ I => ?_
  refine bP I (F := fun k => .sl k 0 2 2) (b := .cells [.sl (h.n + 6) 0 1 1, .sl (h.n + 7) 0 1 1] 0 46) rfl rfl (cH rfl rfl (mA H rfl)) (lI (eR _ _ _ _) (eR _ _ _ _)) fun _ I => ?_
  refine bP I (F := fun k => .sl k 0 1 1) (b := .cells (ah [0]) 0 3) rfl rfl (cH rfl rfl (dc H rfl)) (dZ (l := [0])) fun _ I => ?_
  refine bP I (F := fun k => .sl k 0 2 2) (b := .cells (ah [1, 0]) 0 3) rfl rfl (cH rfl rfl (dc H rfl)) (dZ (l := [1, 0])) fun _ I => ?_
  refine bP I (F := fun k => .sl k 0 2 2) (b := .cells [.sl (h.n + 9) 0 1 1, .sl (h.n + 10) 0 2 2] 0 46) rfl rfl (cH rfl rfl (mA H rfl)) (lI (eR _ _ _ _) (eR _ _ _ _)) fun _ I => ?_
  refine bP I (F := fun k => .sl k 0 1 1) (b := .cells [.nils] 0 46) rfl rfl (cH rfl rfl (mA H rfl)) (kN fun c hc => by rw [List.mem_singleton.1 hc]; rfl) fun _ I => ?_
  refine bP I (F := fun k => .sl k 0 2 2) (b := .cells (ah [0, 1]) 0 3) rfl rfl (cH rfl rfl (dc H rfl)) (dZ (l := [0, 1])) fun _ I => ?_
  refine bP I (F := fun k => .sl k 0 1 1) (b := .cells (ah [0]) 0 3) rfl rfl (cH rfl rfl (dc H rfl)) (dZ (l := [0])) fun _ I => ?_
  refine bP I (F := fun k => .sl k 0 2 2) (b := .cells [.sl (h.n + 13) 0 2 2, .sl (h.n + 14) 0 1 1] 0 46) rfl rfl (cH rfl rfl (mA H rfl)) (lI (eR _ _ _ _) (eR _ _ _ _)) fun _ I => ?_
  refine bP I (F := fun k => .sl k 0 1025 1025) (b := .cells (List.replicate 1025 .nils) 0 46) rfl rfl (Ld rfl rfl rfl (Mt H)) (Iu 1025) fun _ I => ?_
  refine gG I (v := lb (.sl (h.n + 16) 0 1025 1025) 3) rfl rfl (gB rfl rfl (kO H rfl rfl)) (fun _ => rfl) fun _ I => ?_
  refine gG I (v := .nu .i64 0) rfl rfl (aY rfl rfl) (fun _ => rfl) fun _ I => ?_
  refine fJ I (v := .sl (h.n + 2) 0 2 2) rfl rfl rfl rfl rfl rfl (H.prim _ _) (fI H _) fun _ I => ?_
  refine gG I (v := lb (.sl (h.n + 2) 0 2 2) 7) rfl rfl (gB rfl rfl (kO H rfl rfl)) (fun _ => rfl) fun _ I => ?_
  refine fJ I (v := .sl (h.n + 5) 0 2 2) rfl rfl rfl rfl rfl rfl (H.prim _ _) (fI H _) fun _ I => ?_
  refine gG I (v := lb (.sl (h.n + 5) 0 2 2) 6) rfl rfl (gB rfl rfl (kO H rfl rfl)) (fun _ => rfl) fun _ I => ?_
  refine fJ I (v := .sl (h.n + 8) 0 2 2) rfl rfl rfl rfl rfl rfl (H.prim _ _) (fI H _) fun _ I => ?_
  refine gG I (v := lb (.sl (h.n + 8) 0 2 2) 5) rfl rfl (gB rfl rfl (kO H rfl rfl)) (fun _ => rfl) fun _ I => ?_
  refine fJ I (v := .sl (h.n + 11) 0 2 2) rfl rfl rfl rfl rfl rfl (H.prim _ _) (fI H _) fun _ I => ?_
  refine gG I (v := lb (.sl (h.n + 11) 0 2 2) 6) rfl rfl (gB rfl rfl (kO H rfl rfl)) (fun _ => rfl) fun _ I => ?_
  refine fJ I (v := .sl (h.n + 12) 0 1 1) rfl rfl rfl rfl rfl rfl (H.prim _ _) (fI H _) fun _ I => ?_
  refine gG I (v := lb (.sl (h.n + 12) 0 1 1) 1) rfl rfl (gB rfl rfl (kO H rfl rfl)) (fun _ => rfl) fun _ I => ?_
  refine fJ I (v := .sl (h.n + 15) 0 2 2) rfl rfl rfl rfl rfl rfl (H.prim _ _) (fI H _) fun _ I => ?_
  refine wG I (v := lb (.sl (h.n + 15) 0 2 2) 7) rfl rfl (gB rfl rfl (kO H rfl rfl)) fun _ I => ?_
  refine zK I (F := fun k => .sl k 0 8 8) (b := .cells (wH h.n) 0 72) rfl rfl (aT (F := fun k => .sl k 0 8 8) (B := .cells (wH h.n) 0 72) rfl rfl (Mu H rfl)) fun _ I => ?_
  refine wG I (v := .nu .i64 8) rfl rfl (aN rfl rfl rfl rfl rfl (by rw [H.hP, Lc]; rfl)) fun _ I => ?_
  exact RunP.nil
 case b => exact ⟨rfl, rfl, rfl, rfl⟩
end
theorem ML : au Tryz.prog 29 = some (1, false) := by kernel_rfl
theorem Mv : cn Tryz.prog 72 = some (.agg [.nils, .nu .i64 0]) := by kernel_rfl
def mB : List (CV × Nat) → List CV
 | [] => []
 | (x, e) :: l => x :: .nu .i64 (.ofNat e) :: mB l
theorem ua : ∀ (l : List (CV × Nat)), (mB l).length = 2 * l.length
 | [] => rfl
 | _ :: l => by simp only [mB, List.length_cons, ua l]; omega
theorem ub : ∀ (l : List (CV × Nat)) (i : Nat) (hi : i < l.length), sub (mB l) (i * 2) 2 = [l[i].1, .nu .i64 (.ofNat l[i].2)]
 | (x, e) :: l, 0, _ => rfl
 | (x, e) :: l, i + 1, hi => by
  have := ub l i (by simpa using hi)
  rw [show (i + 1) * 2 = i * 2 + 2 from by omega]
  simpa [sub, mB] using this
def ER (h : Hp) (p : CV × Nat) : Prop := p.1.one = true ∧ ∃ l, Val h p.1 l ∧ gU l ∧ cd l = .ofNat p.2
section
variable {K : Ctx} {h : Hp}
theorem Iv (H : Std K) (hp : K.plan 11 17 = some [.t 0,.t 1,.t 3,.t 4,.o 2 [4, 3],.o 5 []]) (ok : HpOk h) {k i : Nat} {T0 : List (CV × Nat)} (hi : i < T0.length) (hk : h.get k = .cells (mB T0) 0 72) (hT : ER h T0[i]) (hl : T0.length < 1000) {s : Fr} (h5 : s.at 185 = .sl k 0 T0.length T0.length) (h6 : s.at 186 = .nu .i64 (.ofNat T0.length)) (h7 : s.at 187 = .nu .i64 (.ofNat i)) (hs : s.at ai = .undef) :
  ∃ s' h', bI K [1, 1, 1, 1, 1, 1, 1, 1, 1, 1, 1, 1, 0, 1, 0, 0] s h .normal s' h' ∧ HpOk h' ∧ Same h.n h h' ∧ s'.at 185 = .sl k 0 T0.length T0.length ∧ s'.at 186 = .nu .i64 (.ofNat T0.length) ∧ s'.at 187 = .nu .i64 (.ofNat (i + 1)) ∧ s'.at ai = .undef := by
 obtain ⟨one, l, ⟨cs, hx, hxs⟩, sml, err⟩ := hT
 have hsub := ub T0 i hi
 have hlen := ua T0
 generalize hx0 : T0[i].1 = x at *
 generalize he0 : T0[i].2 = e at *
 have o189 : ak (.sl k 0 T0.length T0.length) (.nu .i64 (.ofNat i)) (ae K.P 73) = some (.ptr k (0 + i * 2)) := by
  rw [H.hP, Lc]
  simp only [ak, sU, show Nat.blt i T0.length = true from by rw [Nat.blt_eq]; exact hi]
 have o190 : ao h (.ptr k (0 + i * 2)) (au K.P 72) = some (.agg [x, .nu .i64 (.ofNat e)]) := by
  rw [H.hP, z72]
  simp only [ao, hk, eZ, val, hlen, Nat.zero_add, Nat.ble_eq_true_of_le (show i * 2 + 2 ≤ 2 * T0.length by omega), hsub]
 have hsol : (CV.agg [x, .nu .i64 (.ofNat e)]).sol = true := by
  show [x, CV.nu .i64 (.ofNat e)].all CV.one = true
  simp only [List.all_cons, one, List.all_nil, Bool.and_true]; rfl
 have hcl : (CV.agg [x, .nu .i64 (.ofNat e)]).cells = [x, .nu .i64 (.ofNat e)] := rfl
 have w19 : bt (h.push (.cells [.nils, .nu .i64 0] 0 72)) (.ptr h.n 0) (.agg [x, .nu .i64 (.ofNat e)]) (au K.P 72) = some (.undef, (h.push (.cells [.nils, .nu .i64 0] 0 72)).set h.n (.cells [x, .nu .i64 (.ofNat e)] 0 72)) := by
  rw [H.hP, z72]
  show db _ h.n 0 2 _ ((h.push (.cells [.nils, .nu .i64 0] 0 72)).get h.n) = _
  rw [ag, if_pos rfl]
  simp only [db, hsol, hcl]
  rfl
 generalize hg : (h.push (.cells [.nils, .nu .i64 0] 0 72)).set h.n (.cells [x, .nu .i64 (.ofNat e)] 0 72) = g at w19
 have hgn : g.n = h.n + 1 := by rw [← hg]; rfl
 have hgk : g.get h.n = .cells [x, .nu .i64 (.ofNat e)] 0 72 := by rw [← hg, Hp.get_set, if_pos rfl]
 have Sg : Same h.n h g := by rw [← hg]; exact (Same.push (Nat.le_refl _) _).trans (Same.set (Nat.le_refl _) _)
 have okg : HpOk g := by rw [← hg]; exact (ok.push _).set (by show h.n < h.n + 1; omega) _
 have o191 : dN 0 (.ptr h.n 0) (ae K.P 72) = some (.ptr h.n 0) := by rw [H.hP, t72]; rfl
 have o194 : dN 1 (.ptr h.n 0) (ae K.P 72) = some (.ptr h.n 1) := by rw [H.hP, t72]; rfl
 have ld : ∀ g' : Hp, g'.get h.n = .cells [x, .nu .i64 (.ofNat e)] 0 72 → ao g' (.ptr h.n 0) (au K.P 22) = some x ∧ ao g' (.ptr h.n 1) (au K.P 29) = some (.nu .i64 (.ofNat e)) := by
  intro g' hg'
  rw [H.hP, z22, ML]
  simp only [ao, hg']
  exact ⟨rfl, rfl⟩
 obtain ⟨rv, g1, c26, S1, aX, rfl⟩ := jl H okg sml (hx.mono Sg ok (Nat.le_refl _)) (hxs.mono Sg ok (Nat.le_refl _))
 have hg1 : g1.get h.n = .cells [x, .nu .i64 (.ofNat e)] 0 72 := S1.get1 (by omega) hgk
 rw [err] at c26
 obtain ⟨s', r, q⟩ : ∃ s', bI K [1, 1, 1, 1, 1, 1, 1, 1, 1, 1, 1, 1, 0, 1, 0, 0] s h .normal s' g1 ∧ s'.at 185 = .sl k 0 T0.length T0.length ∧ s'.at 186 = .nu .i64 (.ofNat T0.length) ∧ s'.at 187 = .nu .i64 (.ofNat (i + 1)) ∧ s'.at ai = .undef :=
  ⟨_, Runs.seq (tl H.hk h7 h6 (aV hi)) (Runs.seq (Runs.condT (o := .tmp 188) rfl Runs.skip) (Runs.seq (aF (Runs.seq (BI H.hk (F19 := fun k => .ptr k 0) (B19 := .cells [.nils, .nu .i64 0] 0 72) h5 h7 o189 o190 (by rw [H.hP, Mv]; rfl) w19) (Runs.seq (BJ H.hk hp rfl o191 (ld g hgk).1 hx.ceq o194 (ld g hgk).2 (dS _) (H.prim _ _) c26 (ld g1 hg1).2 (eM rfl)) (Runs.condF (o := .tmp 196) rfl Runs.skip)))) (BK H.hk h7 (cI (by omega))))), h5, h6, rfl, hs⟩
 exact ⟨s', g1, r, aX, Sg.trans (S1.le Sg.n), q⟩
theorem Iw (H : Std K) (hp : K.plan 11 17 = some [.t 0,.t 1,.t 3,.t 4,.o 2 [4, 3],.o 5 []]) (ok : HpOk h) {k : Nat} {T0 : List (CV × Nat)} (hkn : k < h.n) (hk : h.get k = .cells (mB T0) 0 72) (hT : ∀ i (hi : i < T0.length), ER h T0[i]) (hl : T0.length < 1000) {s : Fr} (h5 : s.at 185 = .sl k 0 T0.length T0.length) (h6 : s.at 186 = .nu .i64 (.ofNat T0.length)) (h7 : s.at 187 = .nu .i64 (.ofNat 0)) (hs : s.at ai = .undef) :
  ∃ s' h', bI K [1, 1, 1, 1, 1, 1, 1, 1, 1, 1, 1, 1, 0, 1] s h .normal s' h' ∧ HpOk h' ∧ Same h.n h h' ∧ s'.at ai = .undef := by
 have key : ∀ (m i : Nat) (s : Fr) (g : Hp), i + m = T0.length → HpOk g → Same h.n h g → s.at 185 = .sl k 0 T0.length T0.length → s.at 186 = .nu .i64 (.ofNat T0.length) → s.at 187 = .nu .i64 (.ofNat i) → s.at ai = .undef →
   ∃ s' h', bI K [1, 1, 1, 1, 1, 1, 1, 1, 1, 1, 1, 1, 0, 1, 0] s g (.exit 0) s' h' ∧ HpOk h' ∧ Same h.n h h' ∧ s'.at ai = .undef := by
  intro m
  induction m with
  | zero =>
   intro i s g him okg Sg g5 g6 g7 gs
   exact ⟨_, g, aH (Runs.seq (tl H.hk g7 g6 (bu (by omega))) (aE (Runs.condF (o := .tmp 188) rfl Runs.exit) (by simp))) (by simp), okg, Sg, gs⟩
  | succ m ih =>
   intro i s g him okg Sg g5 g6 g7 gs
   have hi : i < T0.length := by omega
   obtain ⟨one, l, v, sml, err⟩ := hT i hi
   obtain ⟨s1, g1, r1, aX, S1, q5, q6, q7, qs⟩ := Iv H hp okg hi (by rw [Sg.get k hkn, hk]) ⟨one, l, v.mono Sg ok, sml, err⟩ hl g5 g6 g7 gs
   obtain ⟨s', h', r2, q⟩ := ih (i + 1) s1 g1 (by omega) aX (Sg.trans (S1.le Sg.n)) q5 q6 q7 qs
   exact ⟨s', h', Runs.loop r1 r2, q⟩
 obtain ⟨s', h', r, q⟩ := key T0.length 0 s h (by omega) ok (Same.refl _ _) h5 h6 h7 hs
 exact ⟨s', h', aS r, q⟩
theorem lJ (ok : HpOk h) (a b : List Int) : Val (gR h a b) (n9 h.n) [a, b] ∧ HpOk (gR h a b) ∧ Same h.n h (gR h a b) := jC (l := [a, b]) (h := h) (el := 46) ok
theorem pS {cs : List CV} (h : Hp) : ∀ n, Rows h (List.replicate n .nils) (List.replicate n [])
 | 0 => .nil
 | n + 1 => .cons .nils (pS (cs := cs) h n)
def ES (n : Nat) : List (CV × Nat) := [(.nils, 0), (n9 n, 7), (n9 (n + 3), 6), (n9 (n + 6), 5), (n9 (n + 9), 6), (.sl (n + 12) 0 1 1, 1), (n9 (n + 13), 7), (.sl (n + 16) 0 1025 1025, 3)]
theorem Lf (ok : HpOk h) : HpOk ((g8 h).push (.cells (wH h.n) 0 72)) ∧ Same h.n h ((g8 h).push (.cells (wH h.n) 0 72)) ∧ ∀ i (hi : i < (ES h.n).length), ER ((g8 h).push (.cells (wH h.n) 0 72)) (ES h.n)[i] := by
 obtain ⟨v1, aX, S1⟩ := lJ ok [0] [0, 1]
 obtain ⟨v2, bz, S2⟩ := lJ aX [1] [0]
 obtain ⟨v3, ct, S3⟩ := lJ bz [0] [0]
 obtain ⟨v4, ez, S4⟩ := lJ ct [0] [1, 0]
 have fh : HpOk (g7 h) := ez.push _
 have S5 : Same (gR (gR (gR (gR h [0] [0, 1]) [1] [0]) [0] [0]) [0] [1, 0]).n (gR (gR (gR (gR h [0] [0, 1]) [1] [0]) [0] [0]) [0] [1, 0]) (g7 h) := Same.push (Nat.le_refl _) _
 have v5 : Val (g7 h) (.sl (h.n + 12) 0 1 1) [[]] := ⟨[.nils], ia (cs := [.nils]) (el := 46), pS (cs := []) (g7 h) 1⟩
 obtain ⟨v6, ok6, S6⟩ := lJ fh [0, 1] [0]
 have ok7 : HpOk (g8 h) := ok6.push _
 have S7 : Same (gR (g7 h) [0, 1] [0]).n (gR (g7 h) [0, 1] [0]) (g8 h) := Same.push (Nat.le_refl _) _
 have v7 : Val (g8 h) (.sl (h.n + 16) 0 1025 1025) (List.replicate 1025 []) := by
  refine ⟨List.replicate 1025 .nils, ?_, pS (cs := []) (g8 h) 1025⟩
  have := ia (h := gR (g7 h) [0, 1] [0]) (cs := List.replicate 1025 .nils) (el := 46)
  rw [List.length_replicate] at this
  exact this
 have S8 : Same (g8 h).n (g8 h) ((g8 h).push (.cells (wH h.n) 0 72)) := Same.push (Nat.le_refl _) _
 have w7 := v7.mono S8 ok7
 have T7 := S7.trans (S8.le S7.n)
 have w6 := v6.mono T7 ok6
 have T6 := S6.trans (T7.le S6.n)
 have w5 := v5.mono T6 fh
 have T5 := S5.trans (T6.le S5.n)
 have w4 := v4.mono T5 ez
 have T4 := S4.trans (T5.le S4.n)
 have w3 := v3.mono T4 ct
 have T3 := S3.trans (T4.le S3.n)
 have w2 := v2.mono T3 bz
 have T2 := S2.trans (T3.le S2.n)
 have w1 := v1.mono T2 aX
 have T1 := S1.trans (T2.le S1.n)
 refine ⟨ok7.push _, T1, fun i hi => ?_⟩
 have hi8 : i < 8 := hi
 match i, hi8 with
 | 0, _ => exact ⟨rfl, [], ⟨[], .nils, .nil⟩, ⟨by decide, by decide⟩, Mh⟩
 | 1, _ => exact ⟨rfl, _, w1, ⟨by decide, by decide⟩, Mi⟩
 | 2, _ => exact ⟨rfl, _, w2, ⟨by decide, by decide⟩, Mj⟩
 | 3, _ => exact ⟨rfl, _, w3, ⟨by decide, by decide⟩, Mk⟩
 | 4, _ => exact ⟨rfl, _, w4, ⟨by decide, by decide⟩, Ml⟩
 | 5, _ => exact ⟨rfl, _, w5, ⟨by decide, by decide⟩, Mm⟩
 | 6, _ => exact ⟨rfl, _, w6, ⟨by decide, by decide⟩, Mn⟩
 | 7, _ => exact ⟨rfl, _, w7, ⟨by rw [List.length_replicate]; decide, fun a ha => by rw [List.eq_of_mem_replicate ha]; decide⟩, Mo⟩
theorem ET (H : Std K) (h14 : K.plan 11 14 = some FE) (h17 : K.plan 11 17 = some [.t 0,.t 1,.t 3,.t 4,.o 2 [4, 3],.o 5 []]) (ok : HpOk h) {s : Fr} (hs : s.at ai = .undef) :
  ∃ s' h', bI K [1, 1, 1, 1, 1, 1, 1, 1, 1, 1, 1, 1, 0] s h .normal s' h' ∧ HpOk h' ∧ Same h.n h h' ∧ s'.at ai = .undef := by
 obtain ⟨s1, r1, a5, a6, a7, aq⟩ := Le (h := h) H h14 (s := s)
 obtain ⟨aX, S1, T1⟩ := Lf ok
 obtain ⟨s2, h2, r2, bz, S2, qs⟩ := Iw H h17 aX (k := h.n + 17) (T0 := ES h.n) (Nat.lt_succ_self _) (by rw [ag, if_pos (show h.n + 17 = (g8 h).n from rfl)]; rfl) T1 (show 8 < 1000 by decide) a5 a6 a7 (by rw [aq]; exact hs)
 exact ⟨s2, h2, Runs.seq r1 r2, bz, S1.trans (S2.le S1.n), qs⟩
end
def mC (x y : Nat) : List (List Int) := if x = y then [] else [[.ofNat (min x y), .ofNat (min x y + 1), .ofNat (max x y), .ofNat (max x y + 1), .ofNat 63]]
def iB (x n : Nat) : List (List Int) := (List.range n).flatMap fun b => mC x (5 * b)
def dW (n : Nat) : List (List Int) := (List.range n).flatMap fun a => iB (5 * a) 12
theorem jq (x n : Nat) : iB x (n + 1) = iB x n ++ mC x (5 * n) := by
 unfold iB
 rw [List.range_succ, List.flatMap_append]
 simp
theorem pm (n : Nat) : dW (n + 1) = dW n ++ iB (5 * n) 12 := by
 unfold dW
 rw [List.range_succ, List.flatMap_append]
 simp
theorem yz : (dW 12).length = 132 := by kernel_rfl
theorem EU : ((dW 12).all fun a => Nat.beq a.length 5) = true := by kernel_rfl
theorem EV : iW (dW 12) = 0 := by kernel_rfl
def pk (x : Nat) : Nat → List Int
 | 0 => [.ofNat x]
 | 1 => [.ofNat (x + 1)]
 | _ => [.ofNat x, .ofNat (x + 1)]
def pc : Nat → List Int
 | 0 => []
 | _ => [.ofNat 63]
def wI : List (List Int) := (List.range 2).flatMap fun c => (List.range 12).flatMap fun j => (List.range 3).flatMap fun mj => (List.range j).flatMap fun i => (List.range 3).map fun mi => pk (5 * i) mi ++ (pk (5 * j) mj ++ pc c)
def Mw (f : List Int) : Nat := f.foldl (fun n v => Nat.add n (Nat.pow 2 v.toNat)) 0
def zL : List Nat → Bool
 | a :: b :: l => Nat.blt a b && zL (b :: l)
 | _ => true
theorem yA : ∀ (l : List Nat) (a : Nat), zL (a :: l) = true → (∀ x ∈ l, a < x) ∧ l.Nodup
 | [], _, _ => ⟨fun x hx => (nomatch hx), List.nodup_nil⟩
 | b :: l, a, h => by
  simp only [zL, Bool.and_eq_true] at h
  have hab : a < b := by have := h.1; rw [Nat.blt_eq] at this; exact this
  obtain ⟨h1, h2⟩ := yA l b h.2
  refine ⟨fun x hx => ?_, List.nodup_cons.2 ⟨fun hb => Nat.lt_irrefl _ (h1 b hb), h2⟩⟩
  rcases List.mem_cons.1 hx with rfl | hx
  · exact hab
  · exact Nat.lt_trans hab (h1 x hx)
theorem EW : wI.length = 1188 := by kernel_rfl
theorem EX : zL (0 :: wI.map Mw) = true := by kernel_rfl
theorem uc {α β : Type} {f : α → β} : ∀ {l : List α}, (l.map f).Nodup → l.Nodup
 | [], _ => List.nodup_nil
 | a :: l, h => by
  rw [List.map_cons, List.nodup_cons] at h
  exact List.nodup_cons.2 ⟨fun ha => h.1 (List.mem_map_of_mem ha), uc h.2⟩
theorem zM : wI.Nodup := uc (yA _ _ EX).2
theorem wJ {α : Type} [DecidableEq α] : ∀ {l m : List α}, l.Nodup → (∀ x ∈ l, x ∈ m) → l.length ≤ m.length
 | [], _, _, _ => Nat.zero_le _
 | a :: l, m, hn, hs => by
  rw [List.nodup_cons] at hn
  have ha := hs a List.mem_cons_self
  have := wJ (m := m.erase a) hn.2 fun x hx => by
   rw [List.mem_erase_of_ne]
   · exact hs x (List.mem_cons_of_mem _ hx)
   · rintro rfl; exact hn.1 hx
  rw [List.length_erase_of_mem ha] at this
  have hm : 0 < m.length := List.length_pos_of_mem ha
  rw [List.length_cons]
  omega
theorem CO (x m : Nat) : (pk x m).Sublist [.ofNat x, .ofNat (x + 1)] := by
 match m with
 | 0 => exact (List.nil_sublist _).cons_cons _
 | 1 => exact ((List.nil_sublist _).cons_cons _).cons _
 | n + 2 => exact List.Sublist.refl _
theorem Lg (c : Nat) : (pc c).Sublist [.ofNat 63] := by
 match c with
 | 0 => exact List.nil_sublist _
 | n + 1 => exact List.Sublist.refl _
theorem LS (x m : Nat) (l : List Int) : pk x m ++ l ≠ [] := by
 match m with
 | 0 => simp [pk]
 | 1 => simp [pk]
 | n + 2 => simp [pk]
theorem zN : ∀ f ∈ wI, f ∈ er (dW 12) := by
 intro f hf
 simp only [wI, List.mem_flatMap, List.mem_map, List.mem_range] at hf
 obtain ⟨c, hc, j, hj, mj, hmj, i, hi, mi, hmi, rfl⟩ := hf
 refine zD.2 ⟨[.ofNat (5 * i), .ofNat (5 * i + 1)] ++ ([.ofNat (5 * j), .ofNat (5 * j + 1)] ++ [.ofNat 63]), ?_, (CO _ _).append ((CO _ _).append (Lg c)), LS _ _ _⟩
 refine List.mem_flatMap.2 ⟨i, List.mem_range.2 (by omega), List.mem_flatMap.2 ⟨j, List.mem_range.2 hj, ?_⟩⟩
 rw [mC, if_neg (by omega), Nat.min_eq_left (by omega), Nat.max_eq_right (by omega)]
 exact List.mem_singleton.2 rfl
theorem EY : 1024 < (er (dW 12)).length := by
 have := wJ zM zN
 rw [EW] at this
 omega
theorem Iy : kZ (dW 12) = 3 := by
 unfold kZ
 rw [if_neg (by rw [yz]; decide), if_neg (fun h => h EV), if_pos EY]
theorem Iz : gU (dW 12) := ⟨by rw [yz]; decide, fun a ha => by
 have := List.all_eq_true.1 EU a ha
 have := Nat.eq_of_beq_eq_true this
 omega⟩
theorem LU (x y : Nat) : uL (.nu .i64 (.ofNat x)) (.nu .i64 (.ofNat y)) = some (.nu .i64 (.ofNat (max x y))) := by
 show some (CV.nu .i64 (match Nat.ble y x with | true => .ofNat x | false => .ofNat y)) = _
 rcases Nat.le_total y x with h | h
 · rw [ik h, Nat.max_eq_left h]
 · rcases Nat.lt_or_eq_of_le h with h | rfl
   · rw [il h, Nat.max_eq_right (by omega)]
   · rw [ik (Nat.le_refl _), Nat.max_self]
theorem IA {N el : Nat} {g : Hp} {x : CV} {cs : List CV} {a : List Int} (O : Out N g el x cs) : Row (wipe (g.push (.cells (ah a) 0 3)) x) (.sl g.n 0 a.length a.length) (ah a) := by
 by_cases hne : ah a = []
 · have : a.length = 0 := by rw [← aw, hne]; rfl
   rw [hne, this]; exact .none _ _ _
 · have hg : (wipe (g.push (.cells (ah a) 0 3)) x).get g.n = .cells (ah a) 0 3 := by
    rw [pQ, ag, if_pos rfl]
    cases O with
    | nils => exact fun h => h
    | some hk hn _ _ => intro h; have : g.n = _ := h; omega
   have := Row.some (h := wipe (g.push (.cells (ah a) 0 3)) x) (k := g.n) (o := 0) (c := (ah a).length) hne ?_ (Nat.le_refl _) (by rw [hg]; rfl)
   · rw [aw] at this; exact this
   rw [hg]
   simp only [bk, Nat.zero_add, Nat.ble_eq_true_of_le (Nat.le_refl _), sub, List.drop_zero, List.take_length]
section
variable {K : Ctx} {h : Hp}
theorem Lh (H : Std K) {N : Nat} {p : Nat} (hpn : p < 1000) {L : List (List Int)} (hL : L.length < 1000000) : ∀ (m b : Nat) (s : Fr) (g : Hp) (x : CV) (cs : List CV), b + m = 12 → HpOk g → N ≤ g.n → Own N g 46 x cs (L ++ iB p b) → s.at 20 = x → s.at 21 = .nu .i64 (.ofNat p) → s.at 22 = .nu .i64 (.ofNat (5 * b)) → s.at ai = .undef →
  ∃ s' g' x' cs', bI K [1, 1, 1, 1, 1, 1, 1, 1, 1, 1, 1, 1, 1, 1, 0, 1, 0, 0, 1, 0, 0, 1, 0] s g (.exit 4) s' g' ∧ HpOk g' ∧ Same N g g' ∧ Own N g' 46 x' cs' (L ++ iB p 12) ∧ s'.at 20 = x' ∧ s'.at 21 = .nu .i64 (.ofNat p) ∧ s'.at ai = .undef := by
 intro m
 induction m with
 | zero =>
  intro b s g x cs hbm ok hN O g20 g21 g22 gs
  obtain rfl : b = 12 := by omega
  exact ⟨_, g, x, cs, aH (aE (Runs.seq (nD H.hk g22 (bu (y := 60) (by omega))) (Runs.condF (o := .tmp 203) rfl Runs.exit)) (by simp)) (by simp), ok, Same.refl _ _, O, g20, g21, gs⟩
 | succ m ih =>
  intro b s g x cs hbm ok hN O g20 g21 g22 gs
  have hb5 : 5 * b < 60 := by omega
  by_cases he : p = 5 * b
  · -- nothing is added
    obtain ⟨s1, r1, k20, k21, k22, ks⟩ : ∃ s1, bI K [1, 1, 1, 1, 1, 1, 1, 1, 1, 1, 1, 1, 1, 1, 0, 1, 0, 0, 1, 0, 0, 1, 0, 0] s g .normal s1 g ∧ s1.at 20 = x ∧ s1.at 21 = .nu .i64 (.ofNat p) ∧ s1.at 22 = .nu .i64 (.ofNat (5 * b + 5)) ∧ s1.at ai = .undef :=
     ⟨_, Runs.seq (Runs.seq (nD H.hk g22 (aV (y := 60) hb5)) (Runs.condT (o := .tmp 203) rfl Runs.skip)) (Runs.seq (aF (Runs.seq (tr H.hk g21 g22 (eM (by rw [he]))) (Runs.condF (o := .tmp 208) rfl Runs.skip))) (tq H.hk g22 (oK (b := 5) (by omega)))), g20, g21, rfl, gs⟩
    obtain ⟨s', g', x', cs', r2, q⟩ := ih (b + 1) s1 g x cs (by omega) ok hN (by rw [jq, mC, if_pos he, List.append_nil]; exact O) k20 k21 (by rw [k22]; congr 2) ks
    exact ⟨s', g', x', cs', Runs.loop r1 r2, q⟩
  · have hcl := O.rows.length
    have hlen : cs.length < 1000000 + 12 := by
     rw [hcl, List.length_append]
     have : ∀ n, (iB p n).length ≤ n := by
      intro n
      induction n with
      | zero => exact Nat.le_refl _
      | succ n ihn =>
       rw [jq, List.length_append]
       have : (mC p (5 * n)).length ≤ 1 := by
        unfold mC; split <;> simp
       omega
     have := this b
     omega
    obtain ⟨a, ha⟩ : ∃ a : List Int, a = [.ofNat (min p (5 * b)), .ofNat (min p (5 * b) + 1), .ofNat (max p (5 * b)), .ofNat (max p (5 * b) + 1), .ofNat 63] := ⟨_, rfl⟩
    have hal : a.length = 5 := by rw [ha]; rfl
    have Sp : Same g.n g (g.push (.cells (ah a) 0 3)) := Same.push (Nat.le_refl _) _
    have hrow := IA (a := a) O.out
    obtain ⟨F, B, x', g', e1, e2, O', S', ok'⟩ := Own.app (P := K.P) (t := 22) (by rw [H.hP]; exact t22) (ok.push (.cells (ah a) 0 3)) (Nat.le_trans hN Sp.n) (O.mono Sp ok) hrow (by decide) (by omega)
    rw [hal] at e1
    have o224 : aC 5 [(0, .nu .i64 (.ofNat (min p (5 * b)))), (1, .nu .i64 (.ofNat (min p (5 * b) + 1))), (2, .nu .i64 (.ofNat (max p (5 * b)))), (3, .nu .i64 (.ofNat (max p (5 * b) + 1))), (4, .nu .i64 63)] (ae K.P 46) = some (fun k => .sl k 0 5 5, .cells (ah a) 0 3) := by
     rw [ha]; exact dc H rfl
    obtain ⟨s1, r1, k20, k21, k22, ks⟩ : ∃ s1, bI K [1, 1, 1, 1, 1, 1, 1, 1, 1, 1, 1, 1, 1, 1, 0, 1, 0, 0, 1, 0, 0, 1, 0, 0] s g .normal s1 g' ∧ s1.at 20 = x' ∧ s1.at 21 = .nu .i64 (.ofNat p) ∧ s1.at 22 = .nu .i64 (.ofNat (5 * b + 5)) ∧ s1.at ai = .undef :=
     ⟨_, Runs.seq (Runs.seq (nD H.hk g22 (aV (y := 60) hb5)) (Runs.condT (o := .tmp 203) rfl Runs.skip)) (Runs.seq (aF (Runs.seq (tr H.hk g21 g22 (ka (by intro h; injection h with h; exact he h))) (Runs.condT (o := .tmp 208) rfl (BP H.hk (s := T.set (T.set (T.set (T.set (T.set s 202 (.nu .i64 (.ofNat (5 * b)))) 203 (.bo true)) 206 (.nu .i64 (.ofNat p))) 207 (.nu .i64 (.ofNat (5 * b)))) 208 (.bo true)) g20 g21 g22 (LN _ _) (cI (by omega)) (LU _ _) (cI (by omega)) (F224 := fun k => .sl k 0 5 5) (B224 := .cells (ah a) 0 3) o224 e1 e2)))) (tq H.hk g22 (oK (b := 5) (by omega)))), rfl, g21, rfl, gs⟩
    have hSN : Same N g g' := (Sp.le hN).trans (S'.le (Nat.le_refl _))
    obtain ⟨s', g'', x'', cs'', r2, bz, S2, O2, q⟩ := ih (b + 1) s1 g' x' _ (by omega) ok' (Nat.le_trans hN hSN.n) (by rw [jq, mC, if_neg he, ← ha, ← List.append_assoc]; exact O') k20 k21 (by rw [k22]; congr 2) ks
    exact ⟨s', g'', x'', cs'', Runs.loop r1 r2, bz, hSN.trans S2, O2, q⟩
theorem IB (H : Std K) {N : Nat} : ∀ (m a : Nat) (s : Fr) (g : Hp) (x : CV) (cs : List CV), a + m = 12 → HpOk g → N ≤ g.n → Own N g 46 x cs (dW a) → s.at 20 = x → s.at 21 = .nu .i64 (.ofNat (5 * a)) → s.at ai = .undef →
  ∃ s' g' x' cs', bI K [1, 1, 1, 1, 1, 1, 1, 1, 1, 1, 1, 1, 1, 1, 0, 1, 0] s g (.exit 2) s' g' ∧ HpOk g' ∧ Same N g g' ∧ Own N g' 46 x' cs' (dW 12) ∧ s'.at 20 = x' ∧ s'.at ai = .undef := by
 intro m
 induction m with
 | zero =>
  intro a s g x cs ham ok hN O g20 g21 gs
  obtain rfl : a = 12 := by omega
  exact ⟨_, g, x, cs, aH (aE (Runs.seq (tp H.hk g21 (bu (y := 60) (by omega))) (Runs.condF (o := .tmp 199) rfl Runs.exit)) (by simp)) (by simp), ok, Same.refl _ _, O, g20, gs⟩
 | succ m ih =>
  intro a s g x cs ham ok hN O g20 g21 gs
  have ha5 : 5 * a < 60 := by omega
  have hle : (dW a).length < 1000000 := by
   have hin : ∀ p n, (iB p n).length ≤ n := by
    intro p n
    induction n with
    | zero => exact Nat.le_refl _
    | succ n ihn =>
     rw [jq, List.length_append]
     have : (mC p (5 * n)).length ≤ 1 := by
      unfold mC; split <;> simp
     omega
   have : ∀ n, (dW n).length ≤ 12 * n := by
    intro n
    induction n with
    | zero => exact Nat.le_refl _
    | succ n ihn =>
     rw [pm, List.length_append]
     have := hin (5 * n) 12
     omega
   have := this a
   omega
  obtain ⟨s1, r1, k20, k21, k22, ks⟩ : ∃ s1, bI K [1, 1, 1, 1, 1, 1, 1, 1, 1, 1, 1, 1, 1, 1, 0, 1, 0, 0, 1, 0, 0, 0] (T.set (T.set s 198 (.nu .i64 (.ofNat (5 * a)))) 199 (.bo true)) g .normal s1 g ∧ s1.at 20 = x ∧ s1.at 21 = .nu .i64 (.ofNat (5 * a)) ∧ s1.at 22 = .nu .i64 (.ofNat (5 * 0)) ∧ s1.at ai = .undef :=
   ⟨T.set (T.set (T.set s 198 (.nu .i64 (.ofNat (5 * a)))) 199 (.bo true)) 22 (.nu .i64 0), BO H.hk, g20, g21, rfl, gs⟩
  obtain ⟨s2, g2, x2, cs2, r2, bz, S2, O2, l20, l21, ls⟩ := Lh H (p := 5 * a) (by omega) hle 12 0 s1 g x cs (by omega) ok hN (by rw [show iB (5 * a) 0 = [] from rfl, List.append_nil]; exact O) k20 k21 k22 ks
  obtain ⟨s3, r3, m20, m21, ms⟩ : ∃ s3, bI K [1, 1, 1, 1, 1, 1, 1, 1, 1, 1, 1, 1, 1, 1, 0, 1, 0, 0] s g .normal s3 g2 ∧ s3.at 20 = x2 ∧ s3.at 21 = .nu .i64 (.ofNat (5 * a + 5)) ∧ s3.at ai = .undef :=
   ⟨_, Runs.seq (Runs.seq (tp H.hk g21 (aV (y := 60) ha5)) (Runs.condT (o := .tmp 199) rfl Runs.skip)) (Runs.seq (aF (Runs.seq r1 (aS r2))) (BN H.hk l21 (oK (b := 5) (by omega)))), l20, rfl, ls⟩
  obtain ⟨s', g', x', cs', r4, ez, S4, q⟩ := ih (a + 1) s3 g2 x2 cs2 (by omega) bz (Nat.le_trans hN S2.n) (by rw [pm]; exact O2) m20 (by rw [m21]; congr 2) ms
  exact ⟨s', g', x', cs', Runs.loop r3 r4, ez, S2.trans S4, q⟩
theorem Li (H : Std K) (TT : fx K) (PD : cj K) (PY : da K) (h70 : ∀ args h, K.spec 70 args h = none) (ok : HpOk h) {s : Fr} (hs : s.at ai = .undef) :
  ∃ s' h', (∀ {e s2 h2}, bI K [1, 1, 1, 1, 1, 1, 1, 1, 1, 1, 1, 1, 1, 1, 1, 1] s' h' e s2 h2 → bI K [1, 1, 1, 1, 1, 1, 1, 1, 1, 1, 1, 1, 1] s h e s2 h2) ∧ HpOk h' ∧ Same h.n h h' ∧ s'.at ai = .undef := by
 obtain ⟨s1, r1, a20, a21, as1⟩ : ∃ s1, (∀ {e s2 h2}, bI K [1, 1, 1, 1, 1, 1, 1, 1, 1, 1, 1, 1, 1, 1] s1 h e s2 h2 → bI K [1, 1, 1, 1, 1, 1, 1, 1, 1, 1, 1, 1, 1] s h e s2 h2) ∧ s1.at 20 = .nils ∧ True ∧ s1.at ai = .undef :=
  ⟨_, fun r => Runs.seq (BL H.hk) r, rfl, trivial, hs⟩
 obtain ⟨s2, r2, b20, b21, bs⟩ : ∃ s2, bI K [1, 1, 1, 1, 1, 1, 1, 1, 1, 1, 1, 1, 1, 1, 0, 0] s1 h .normal s2 h ∧ s2.at 20 = .nils ∧ s2.at 21 = .nu .i64 (.ofNat (5 * 0)) ∧ s2.at ai = .undef :=
  ⟨_, BM H.hk, a20, rfl, as1⟩
 obtain ⟨s3, h3, x, cs, r3, ct, S3, O, c20, c_s⟩ := IB H (N := h.n) 12 0 s2 h .nils [] (by omega) ok (Nat.le_refl _) Own.nil b20 b21 bs
 obtain ⟨rv, h4, c25, S4, ez, o, ds, rfl, _⟩ := la H TT PD PY h70 ct Iz O.out.row O.all
 rw [Iy] at c25
 obtain ⟨s5, r5, ss⟩ : ∃ s5, bI K [1, 1, 1, 1, 1, 1, 1, 1, 1, 1, 1, 1, 1, 1, 1, 0] s3 h3 .normal s5 h4 ∧ s5.at ai = .undef :=
  ⟨_, Runs.seq (BQ H.hk c20 (H.prim _ _) c25 rfl rfl) (Runs.seq (BS H.hk rfl (eM rfl)) (Runs.condF (o := .tmp 233) rfl Runs.skip)), c_s⟩
 exact ⟨s5, h4, fun r => r1 (Runs.seq (Runs.seq r2 (aS r3)) (Runs.seq r5 r)), ez, S3.trans (S4.le S3.n), ss⟩
end
theorem wK : ∀ n, gu [48, 10] n = iA (List.replicate n [0])
 | 0 => rfl
 | n + 1 => by
  rw [gu, wK n, List.replicate_succ]
  show [48, 10] ++ iA (List.replicate n [0]) = (iy true [0] ++ [10]) ++ iA (List.replicate n [0])
  rfl
theorem mD (s : List Nat) : ∀ n, (gu s n).length = s.length * n
 | 0 => rfl
 | n + 1 => by rw [gu, List.length_append, mD s n, Nat.mul_succ, Nat.add_comm]
theorem Mx : cm (gu [48, 10] 1025) = ([], 0, 3) := by
 have hok : ∀ x ∈ List.replicate 1025 [(0 : Int)], OkS x := fun x hx => by
  rw [List.eq_of_mem_replicate hx]
  exact ⟨by decide, by decide, by decide, by decide⟩
 have e : kZ (List.replicate 1025 [(0 : Int)]) = 3 := by
  unfold kZ
  rw [if_pos (by rw [List.length_replicate]; decide)]
 rw [cm, if_neg (by rw [mD]; decide), wK, qN (t := iA (List.replicate 1025 [0])) (List.replicate 1025 [0]) 0 _ [] hok rfl (Nat.zero_le _) (by omega), List.nil_append]
 simp only [e]
 rw [if_neg (by decide)]
theorem My : cm (gu [48, 10] 32768 ++ [48]) = ([], 0, 3) := by
 rw [cm, if_pos (by rw [List.length_append, mD]; decide)]
section
variable {K : Ctx} {h : Hp}
theorem EZ (H : Std K) (TT : fx K) (TR : Told53 K) (PD : cj K) (PY : da K) (PT : fU K) (h70 : ∀ args h, K.spec 70 args h = none) (ok : HpOk h) {s : Fr} (hs : s.at ai = .undef) :
  ∃ s' h', bI K [1, 1, 1, 1, 1, 1, 1, 1, 1, 1, 1, 1, 1, 1, 1, 1, 0] s h .normal s' h' ∧ HpOk h' ∧ Same h.n h h' ∧ s'.at 0 = .bo true ∧ s'.at ai = .undef := by
 obtain ⟨_, g1, w1, S1, aX, rfl⟩ := cg H TT PD PY PT h70 ok (t := [48, 32, 49]) (a := 3) (e := 2) MC
 obtain ⟨_, g2, w2, S2, bz, rfl⟩ := cg H TT PD PY PT h70 aX (t := [49, 32, 48, 10]) (a := 0) (e := 6) MD
 obtain ⟨_, g3, w3, S3, ct, rfl⟩ := cg H TT PD PY PT h70 bz (t := [48, 49, 10]) (a := 1) (e := 2) ME
 obtain ⟨_, g4, w4, S4, ez, rfl⟩ := cg H TT PD PY PT h70 ct (t := [10]) (a := 0) (e := 2) MF
 obtain ⟨_, g5, w5, S5, fh, rfl⟩ := cg H TT PD PY PT h70 ez (t := [48, 10, 10]) (a := 2) (e := 2) MG
 obtain ⟨_, g6, w6, S6, ok6, rfl⟩ := cg H TT PD PY PT h70 fh (t := [48, 32, 10]) (a := 2) (e := 2) MH
 obtain ⟨_, g7, w7, S7, ok7, rfl⟩ := cg H TT PD PY PT h70 ok6 (t := [32, 48, 10]) (a := 0) (e := 2) MI
 obtain ⟨_, g8, w8, S8, ok8, rfl⟩ := cg H TT PD PY PT h70 ok7 (t := [48, 32, 32, 49, 10]) (a := 2) (e := 2) MJ
 obtain ⟨_, g9, w9, S9, ok9, rfl⟩ := cg H TT PD PY PT h70 ok8 (t := [49, 10, 54, 52, 10]) (a := 2) (e := 1) MK
 obtain ⟨_, g10, w10, S10, ok10, rfl⟩ := cg H TT PD PY PT h70 ok9 (t := [49, 50, 51, 52, 53, 54, 55, 56, 57, 48, 10]) (a := 9) (e := 2) Mp
 obtain ⟨_, g11, w11, S11, ok11, rfl⟩ := cg H TT PD PY PT h70 ok10 (t := [48, 13, 10]) (a := 1) (e := 2) Mq
 obtain ⟨_, g12, w12, S12, ok12, rfl⟩ := cg H TT PD PY PT h70 ok11 (t := [48, 32, 49, 32, 50, 32, 51, 32, 52, 32, 53, 10]) (a := 0) (e := 3) Mr
 have R1 := TR.comes (H.memo 53 (by decide)) (s := [48, 10]) (c := 1025) (by decide) (by decide) (by decide) g12
 obtain ⟨_, g13, w13, S13, ok13, rfl⟩ := cg H TT PD PY PT h70 ok12 (t := gu [48, 10] 1025) (a := 0) (e := 3) Mx
 have R2 := TR.comes (H.memo 53 (by decide)) (s := [48, 10]) (c := 32768) (by decide) (by decide) (by decide) g13
 obtain ⟨_, g14, w14, S14, ok14, rfl⟩ := cg H TT PD PY PT h70 ok13 (t := gu [48, 10] 32768 ++ [48]) (a := 0) (e := 3) My
 have T1 := S1
 have T2 := T1.trans (S2.le T1.n)
 have T3 := T2.trans (S3.le T2.n)
 have T4 := T3.trans (S4.le T3.n)
 have T5 := T4.trans (S5.le T4.n)
 have T6 := T5.trans (S6.le T5.n)
 have T7 := T6.trans (S7.le T6.n)
 have T8 := T7.trans (S8.le T7.n)
 have T9 := T8.trans (S9.le T8.n)
 have T10 := T9.trans (S10.le T9.n)
 have T11 := T10.trans (S11.le T10.n)
 have T12 := T11.trans (S12.le T11.n)
 have T13 := T12.trans (S13.le T12.n)
 have T14 := T13.trans (S14.le T13.n)
 exact ⟨_, g14, BU H.hk (H.prim _ _) w1 (H.prim _ _) w2 rfl (H.prim _ _) w3 rfl (H.prim _ _) w4 rfl (H.prim _ _) w5 rfl (H.prim _ _) w6 rfl (H.prim _ _) w7 rfl (H.prim _ _) w8 rfl (H.prim _ _) w9 rfl (H.prim _ _) w10 rfl (H.prim _ _) w11 rfl (H.prim _ _) w12 rfl (H.prim _ _) R1 (H.prim _ _) w13 rfl (H.prim _ _) R2 (Mg (x := gu [48, 10] 32768) (y := [48]) (by rw [mD]; decide)) (H.prim _ _) w14 rfl, ok14, T14, rfl, hs⟩
theorem E6 (H : Std K) (A : Awake K) (TT : fx K) (T34 : Tells K 34 (eN fg) (eO (n4 [4, 4, 1]))) (T36 : Tells K 36 (eN nY) (eO (fW [[0, 5], [1]]))) (T37 : Tells K 37 (eN jp) (eO (fW jp))) (T41 : Tells K 41 (n7 [[0, 5], [1]] [[0, 5], [1]]) (.one (.c (.bo true)))) (TR : Told53 K) (PB : eo K) (PD : cj K) (PY : da K) (PT : fU K) (h70 : ∀ args h, K.spec 70 args h = none) (h14 : K.plan 11 14 = some FE) (h17 : K.plan 11 17 = some [.t 0,.t 1,.t 3,.t 4,.o 2 [4, 3],.o 5 []]) (ok : HpOk h) : ∃ h', Comes K 11 [] h (.bo true) h' := by
 have hf : K.P.funcs[11]? = some Tryz.f11 := by rw [H.hP]; exact Tryz.func11
 obtain ⟨s1, h1, r1, aX, S1, a1⟩ := EP H A TT T34 T36 T37 T41 PB PD PY h70 ok
 obtain ⟨s2, h2, r2, bz, S2, a2⟩ := ET H h14 h17 aX a1
 obtain ⟨s3, h3, r3, ct, S3, a3⟩ := Li H TT PD PY h70 bz a2
 obtain ⟨s4, h4, r4, ez, S4, a0, a4⟩ := EZ H TT TR PD PY PT h70 ct a3
 have S := ((S1.trans (S2.le S1.n)).trans (S3.le (S1.trans (S2.le S1.n)).n))
 exact ⟨h4, H.go hf (r1 (Runs.seq r2 (r3 (Runs.seq r4 Runs.ret)))) (.inr rfl) (S.trans (S4.le S.n)).n a4 (vs := [.bo true]) (by show some [Fr.at s4 0] = some [.bo true]; rw [a0]) rfl⟩
end
end Go.CP
