import Derived.Test.YtadagifjonbmjaaGreatDoorKp4
set_option linter.all false
namespace Go.CP
variable [LG] [HK]
theorem md (n : Int) : eu n n = true := by rw [fQ]; simp
theorem dS (n : Int) : ceq (.nu .i64 n) (.nu .i64 n) = true := by
 show (mP .i64 .i64 && eu n n) = true
 rw [md]; rfl
theorem eR (k o n c : Nat) : ceq (.sl k o n c) (.sl k o n c) = true := by
 show (Nat.beq k k && Nat.beq o o && Nat.beq n n && Nat.beq c c) = true
 rw [Nat.beq_refl, Nat.beq_refl, Nat.beq_refl, Nat.beq_refl]; rfl
def aD : List Nat → Code → Code
 | 0 :: p, .seq a _ => aD p a
 | 1 :: p, .seq _ b => aD p b
 | 0 :: p, .cond _ a _ => aD p a
 | 1 :: p, .cond _ _ b => aD p b
 | 0 :: p, .block _ c => aD p c
 | 0 :: p, .loop c => aD p c
 | 0 :: p, .scope c => aD p c
 | 0 :: p, .rangeFunc _ _ a _ => aD p a
 | 1 :: p, .rangeFunc _ _ _ b => aD p b
 | _, c => c
def an (f : Func) : Code := match f.body with
 | some c => c
 | none => .skip
structure Ctx where
 P : Program
 plan : FuncId → Nat → Option (List Stp)
 prim : cM
 memo : FuncId → List (DL × RV)
 spec : FuncId → List CV → Hp → Option (CV × Hp)
def Ctx.env (K : Ctx) (fu : Nat) : fl := ⟨K.plan, K.prim, K.memo, K.spec, fu⟩
def Comes (K : Ctx) (f : FuncId) (args : List CV) (h : Hp) (r : CV) (h' : Hp) : Prop := ∃ N, ∀ d fu, N ≤ d → N ≤ fu → cz K.P (K.env fu) d (.fn f) args h = some (r, h')
section
variable (K : Ctx) (f n : Nat) (ro : Option Nat)
def Runs (c : Code) (s : Fr) (h : Hp) (e : Exit) (s' : Fr) (h' : Hp) : Prop := ∃ N, ∀ d fu k, N ≤ d → N ≤ fu → N ≤ k → ba K.P K.prim (cz K.P (K.env fu) d) (K.plan f) f n ro k c s h = some (e, s', h')
def RunL (ops : Array Oper) (l : List Oper) (s : Fr) (h : Hp) (s' : Fr) (h' : Hp) : Prop := ∃ N, ∀ d fu, N ≤ d → N ≤ fu → eD K.P K.prim (cz K.P (K.env fu) d) ops l s h = some (s', h')
end
section
variable {K : Ctx} {f n : Nat} {ro : Option Nat} {c x y : Code} {s s' s1 s2 : Fr} {h h' h1 h2 : Hp} {e : Exit}
theorem Runs.skip : Runs K f n ro .skip s h .normal s h := ⟨1, fun d fu k _ _ hk => by obtain ⟨k, rfl⟩ : ∃ m, k = m + 1 := ⟨k - 1, by omega⟩; rfl⟩
theorem Runs.ret : Runs K f n ro .ret s h .ret s h := ⟨1, fun d fu k _ _ hk => by obtain ⟨k, rfl⟩ : ∃ m, k = m + 1 := ⟨k - 1, by omega⟩; rfl⟩
theorem Runs.exit {i : Nat} : Runs K f n ro (.exit i) s h (.exit i) s h := ⟨1, fun d fu k _ _ hk => by obtain ⟨k, rfl⟩ : ∃ m, k = m + 1 := ⟨k - 1, by omega⟩; rfl⟩
theorem Runs.seq (a : Runs K f n ro x s h .normal s1 h1) (b : Runs K f n ro y s1 h1 e s2 h2) : Runs K f n ro (.seq x y) s h e s2 h2 := by
 obtain ⟨N, a⟩ := a
 obtain ⟨M, b⟩ := b
 refine ⟨N + M + 1, fun d fu k h1 h2 hk => ?_⟩
 obtain ⟨k, rfl⟩ : ∃ m, k = m + 1 := ⟨k - 1, by omega⟩
 simp only [ba, a d fu k (by omega) (by omega) (by omega), b d fu k (by omega) (by omega) (by omega)]
theorem aE (a : Runs K f n ro x s h e s1 h1) (he : e ≠ .normal) : Runs K f n ro (.seq x y) s h e s1 h1 := by
 obtain ⟨N, a⟩ := a
 refine ⟨N + 1, fun d fu k h1 h2 hk => ?_⟩
 obtain ⟨k, rfl⟩ : ∃ m, k = m + 1 := ⟨k - 1, by omega⟩
 simp only [ba, a d fu k (by omega) (by omega) (by omega)]
 cases e <;> first | rfl | exact absurd rfl he
theorem Runs.condT {o : Operand} (hc : ev s o = .bo true) (a : Runs K f n ro x s h e s1 h1) : Runs K f n ro (.cond o x y) s h e s1 h1 := by
 obtain ⟨N, a⟩ := a
 refine ⟨N + 1, fun d fu k h1 h2 hk => ?_⟩
 obtain ⟨k, rfl⟩ : ∃ m, k = m + 1 := ⟨k - 1, by omega⟩
 simp only [ba, hc]
 exact a d fu k (by omega) (by omega) (by omega)
theorem Runs.condF {o : Operand} (hc : ev s o = .bo false) (a : Runs K f n ro y s h e s1 h1) : Runs K f n ro (.cond o x y) s h e s1 h1 := by
 obtain ⟨N, a⟩ := a
 refine ⟨N + 1, fun d fu k h1 h2 hk => ?_⟩
 obtain ⟨k, rfl⟩ : ∃ m, k = m + 1 := ⟨k - 1, by omega⟩
 simp only [ba, hc]
 exact a d fu k (by omega) (by omega) (by omega)
theorem aS {i : Nat} (a : Runs K f n ro c s h (.exit i) s1 h1) : Runs K f n ro (.block i c) s h .normal s1 h1 := by
 obtain ⟨N, a⟩ := a
 refine ⟨N + 1, fun d fu k h1 h2 hk => ?_⟩
 obtain ⟨k, rfl⟩ : ∃ m, k = m + 1 := ⟨k - 1, by omega⟩
 simp only [ba, a d fu k (by omega) (by omega) (by omega), Nat.beq_refl]
theorem aF {i : Nat} (a : Runs K f n ro c s h .normal s1 h1) : Runs K f n ro (.block i c) s h .normal s1 h1 := by
 obtain ⟨N, a⟩ := a
 refine ⟨N + 1, fun d fu k h1 h2 hk => ?_⟩
 obtain ⟨k, rfl⟩ : ∃ m, k = m + 1 := ⟨k - 1, by omega⟩
 simp only [ba, a d fu k (by omega) (by omega) (by omega)]
theorem aG {i : Nat} (a : Runs K f n ro c s h .ret s1 h1) : Runs K f n ro (.block i c) s h .ret s1 h1 := by
 obtain ⟨N, a⟩ := a
 refine ⟨N + 1, fun d fu k h1 h2 hk => ?_⟩
 obtain ⟨k, rfl⟩ : ∃ m, k = m + 1 := ⟨k - 1, by omega⟩
 simp only [ba, a d fu k (by omega) (by omega) (by omega)]
theorem Runs.loop (a : Runs K f n ro c s h .normal s1 h1) (b : Runs K f n ro (.loop c) s1 h1 e s2 h2) : Runs K f n ro (.loop c) s h e s2 h2 := by
 obtain ⟨N, a⟩ := a
 obtain ⟨M, b⟩ := b
 refine ⟨N + M + 1, fun d fu k h1 h2 hk => ?_⟩
 obtain ⟨k, rfl⟩ : ∃ m, k = m + 1 := ⟨k - 1, by omega⟩
 simp only [ba, a d fu k (by omega) (by omega) (by omega)]
 exact b d fu k (by omega) (by omega) (by omega)
theorem aH (a : Runs K f n ro c s h e s1 h1) (he : e ≠ .normal) : Runs K f n ro (.loop c) s h e s1 h1 := by
 obtain ⟨N, a⟩ := a
 refine ⟨N + 1, fun d fu k h1 h2 hk => ?_⟩
 obtain ⟨k, rfl⟩ : ∃ m, k = m + 1 := ⟨k - 1, by omega⟩
 simp only [ba, a d fu k (by omega) (by omega) (by omega)]
 cases e <;> first | rfl | exact absurd rfl he
theorem Runs.region {id : Nat} {ops : Array Oper} (a : RunL K ops ops.toList s h s1 h1) : Runs K f n ro (.region id ops false) s h .normal s1 h1 := by
 obtain ⟨N, a⟩ := a
 refine ⟨N + 1, fun d fu k h1 h2 hk => ?_⟩
 obtain ⟨k, rfl⟩ : ∃ m, k = m + 1 := ⟨k - 1, by omega⟩
 simp only [ba, a d fu (by omega) (by omega)]
theorem Ak {id : Nat} {ops : Array Oper} {p : List Stp} (hp : K.plan f id = some p) (a : ∃ N, ∀ d fu, N ≤ d → N ≤ fu → co K.P K.prim (cz K.P (K.env fu) d) ops p [] s h = some (s1, h1)) : Runs K f n ro (.region id ops true) s h .normal s1 h1 := by
 obtain ⟨N, a⟩ := a
 refine ⟨N + 1, fun d fu k h1 h2 hk => ?_⟩
 obtain ⟨k, rfl⟩ : ∃ m, k = m + 1 := ⟨k - 1, by omega⟩
 simp only [ba, hp, a d fu (by omega) (by omega)]
theorem RunL.nil {ops : Array Oper} : RunL K ops [] s h s h := ⟨0, fun _ _ _ _ => rfl⟩
theorem RunL.op {ops : Array Oper} {o : Oper} {l : List Oper} {v : CV} (hw : bN ops o s = some true) (ho : ∀ call, gy K.P K.prim call o (ev s) h = some (v, h1)) (rest : RunL K ops l (Fr.putO s o.dst v) h1 s2 h2) : RunL K ops (o :: l) s h s2 h2 := by
 obtain ⟨N, r⟩ := rest
 refine ⟨N, fun d fu hd hfu => ?_⟩
 simp only [eD, hw, ho, r d fu hd hfu]
theorem RunL.pass {ops : Array Oper} {o : Oper} {l : List Oper} (hw : bN ops o s = some false) (rest : RunL K ops l (Fr.putO s o.dst .skp) h s2 h2) : RunL K ops (o :: l) s h s2 h2 := by
 obtain ⟨N, r⟩ := rest
 refine ⟨N, fun d fu hd hfu => ?_⟩
 simp only [eD, hw, r d fu hd hfu]
theorem RunL.call {ops : Array Oper} {o : Oper} {l : List Oper} {v : CV} {cl : Call} {g : Operand} {f : FuncId} {caps args : List CV} (hw : bN ops o s = some true) (ho : o.op = .call cl) (hc : cl.callee = .value g) (hg : ev s g = .fn f caps) (ha : cl.args.toList.map (ev s) ++ caps = args) (hp : K.prim f args = none) (hC : Comes K f args h v h1) (rest : RunL K ops l (Fr.putO s o.dst v) h1 s2 h2) : RunL K ops (o :: l) s h s2 h2 := by
 obtain ⟨N, r⟩ := rest
 obtain ⟨M, c⟩ := hC
 refine ⟨N + M, fun d fu hd hfu => ?_⟩
 simp only [eD, hw, gy, ho, hc, hg, ha, hp, c d fu (by omega) (by omega), r d fu (by omega) (by omega)]
theorem Comes.of {args : List CV} {fn : Func} {c : Code} {r : CV} {vs : List CV} (hf : K.P.funcs[f]? = some fn) (hb : fn.body = some c) (hm : K.memo f = []) (hsp : ∀ args h, K.spec f args h = none) (hl : Nat.ble args.length fn.ntmps = true) (a : Runs K f fn.ntmps none c (entry 0 args) h e s1 h1) (he : e = .normal ∨ e = .ret) (hn : h.n ≤ h1.n) (hs : eE (ce (s1.at ai)) h1 = some h2) (hr : gf K.P s1 h2 fn.results.toList = some vs) (hp : ib vs = r) : Comes K f args h r h2 := by
 obtain ⟨N, a⟩ := a
 refine ⟨N + 1, fun d fu hd hfu => ?_⟩
 obtain ⟨d, rfl⟩ : ∃ m, d = m + 1 := ⟨d - 1, by omega⟩
 have h3 := a d fu fu (by omega) (by omega) (by omega)
 have h4 : cz K.P (K.env fu) (d + 1) (.fn f) args h = ol K.P (K.env fu) (cz K.P (K.env fu) d) f args h := by
  simp only [cz, Ctx.env, hm, ko, hsp]
 rw [h4]
 simp only [ol, hf, hb, hl]
 have h5 : ba K.P (K.env fu).prim (cz K.P (K.env fu) d) ((K.env fu).plan f) f fn.ntmps none (K.env fu).fuel c (entry 0 args) h = some (e, s1, h1) := h3
 rw [h5]
 rcases he with rfl | rfl <;> simp only [yF, Nat.ble_eq_true_of_le hn, hs, hr, hp]
end
section
variable {K : Ctx} {f n : Nat} {ro : Option Nat} {s s1 s2 : Fr} {h h1 h2 : Hp}
def RunP (K : Ctx) (ops : Array Oper) (l : List Stp) (pd : List Pd) (s : Fr) (h : Hp) (s' : Fr) (h' : Hp) : Prop := ∃ N, ∀ d fu, N ≤ d → N ≤ fu → co K.P K.prim (cz K.P (K.env fu) d) ops l pd s h = some (s', h')
theorem Runs.drawn {id : Nat} {ops : Array Oper} {p : List Stp} (hp : K.plan f id = some p) (a : RunP K ops p [] s h s1 h1) : Runs K f n ro (.region id ops true) s h .normal s1 h1 := Ak hp a
variable {ops : Array Oper} {o : Oper} {l : List Stp} {pd : List Pd} {i : Nat} {v : CV}
theorem RunP.nil : RunP K ops [] pd s h s h := ⟨0, fun _ _ _ _ => rfl⟩
theorem RunP.take (ho : ops[i]? = some o) (hw : bN ops o s = some true) (hl : bA K.P o (ev s) = none) (hq : qX K.P o (ev s) h = some v) (rest : RunP K ops l (⟨i, o, false, v, none⟩ :: pd) (Fr.putO s o.dst v) h s2 h2) : RunP K ops (.take i :: l) pd s h s2 h2 := by
 obtain ⟨N, r⟩ := rest
 exact ⟨N, fun d fu hd hfu => by simp only [co, ho, hw, hl, hq, r d fu hd hfu]⟩
theorem jP {F : Nat → CV} {b : HB} (ho : ops[i]? = some o) (hw : bN ops o s = some true) (hl : bA K.P o (ev s) = some (F, b)) (hp : pd.all (bQ K.P s (h.push b)) = true) (rest : RunP K ops l (⟨i, o, false, F h.n, some (h.n, b)⟩ :: pd) (Fr.putO s o.dst (F h.n)) (h.push b) s2 h2) : RunP K ops (.take i :: l) pd s h s2 h2 := by
 obtain ⟨N, r⟩ := rest
 exact ⟨N, fun d fu hd hfu => by simp only [co, ho, hw, hl, hp, r d fu hd hfu]⟩
theorem fo (ho : ops[i]? = some o) (hw : bN ops o s = some false) (rest : RunP K ops l (⟨i, o, true, .skp, none⟩ :: pd) (Fr.putO s o.dst .skp) h s2 h2) : RunP K ops (.take i :: l) pd s h s2 h2 := by
 obtain ⟨N, r⟩ := rest
 exact ⟨N, fun d fu hd hfu => by simp only [co, ho, hw, r d fu hd hfu]⟩
theorem RunP.only {keep : List Nat} (ho : ops[i]? = some o) (hw : bN ops o s = some true) (hop : ∀ call, gy K.P K.prim call o (ev s) h = some (v, h1)) (hp : (pd.filter fun p => keep.any (Nat.beq p.i)).all (bQ K.P (Fr.putO s o.dst v) h1) = true) (rest : RunP K ops l (pd.filter fun p => keep.any (Nat.beq p.i)) (Fr.putO s o.dst v) h1 s2 h2) : RunP K ops (.only i keep :: l) pd s h s2 h2 := by
 obtain ⟨N, r⟩ := rest
 exact ⟨N, fun d fu hd hfu => by simp only [co, ho, hw, hop, hp, r d fu hd hfu]⟩
theorem fp {keep : List Nat} (ho : ops[i]? = some o) (hw : bN ops o s = some false) (rest : RunP K ops l (pd.filter fun p => keep.any (Nat.beq p.i)) (Fr.putO s o.dst .skp) h s2 h2) : RunP K ops (.only i keep :: l) pd s h s2 h2 := by
 obtain ⟨N, r⟩ := rest
 exact ⟨N, fun d fu hd hfu => by simp only [co, ho, hw, r d fu hd hfu]⟩
theorem RunP.call {keep : List Nat} {cl : Call} {g : Operand} {f' : FuncId} {caps args : List CV} (ho : ops[i]? = some o) (hw : bN ops o s = some true) (hop : o.op = .call cl) (hc : cl.callee = .value g) (hg : ev s g = .fn f' caps) (ha : cl.args.toList.map (ev s) ++ caps = args) (hpr : K.prim f' args = none) (hC : Comes K f' args h v h1) (hp : (pd.filter fun p => keep.any (Nat.beq p.i)).all (bQ K.P (Fr.putO s o.dst v) h1) = true) (rest : RunP K ops l (pd.filter fun p => keep.any (Nat.beq p.i)) (Fr.putO s o.dst v) h1 s2 h2) : RunP K ops (.only i keep :: l) pd s h s2 h2 := by
 obtain ⟨N, r⟩ := rest
 obtain ⟨M, c⟩ := hC
 exact ⟨N + M, fun d fu hd hfu => by simp only [co, ho, hw, gy, hop, hc, hg, ha, hpr, c d fu (by omega) (by omega), hp, r d fu (by omega) (by omega)]⟩
end
def ComesY (K : Ctx) (k : Nat) (args : List CV) (h : Hp) (r : CV) (h' : Hp) : Prop := ∃ N, ∀ d fu, N ≤ d → N ≤ fu → cz K.P (K.env fu) d (.yl k) args h = some (r, h')
def jQ (K : Ctx) (v : CV) (args : List CV) (h : Hp) (r : CV) (h' : Hp) : Prop := match v with
 | .fn f caps => K.prim f (args ++ caps) = none ∧ Comes K f (args ++ caps) h r h'
 | .yl k => ComesY K k args h r h'
 | _ => False
section
variable {K : Ctx} {f n : Nat} {ro : Option Nat} {s s1 s2 : Fr} {h h1 h2 h3 h4 : Hp}
theorem RunL.callV {ops : Array Oper} {o : Oper} {l : List Oper} {v g0 : CV} {cl : Call} {g : Operand} {args : List CV} (hw : bN ops o s = some true) (ho : o.op = .call cl) (hc : cl.callee = .value g) (hg : ev s g = g0) (ha : cl.args.toList.map (ev s) = args) (hC : jQ K g0 args h v h1) (rest : RunL K ops l (Fr.putO s o.dst v) h1 s2 h2) : RunL K ops (o :: l) s h s2 h2 := by
 obtain ⟨N, r⟩ := rest
 unfold jQ at hC
 split at hC
 · obtain ⟨hp, M, c⟩ := hC
   refine ⟨N + M, fun d fu hd hfu => ?_⟩
   simp only [eD, hw, gy, ho, hc, hg, ha, hp, c d fu (by omega) (by omega), r d fu (by omega) (by omega)]
 · obtain ⟨M, c⟩ := hC
   refine ⟨N + M, fun d fu hd hfu => ?_⟩
   simp only [eD, hw, gy, ho, hc, hg, ha, c d fu (by omega) (by omega), r d fu (by omega) (by omega)]
 · exact hC.elim
theorem Runs.range {g : Operand} {ps : Array Tmp} {as bd : Code} {f' : FuncId} {caps : List CV} {v : CV} (hg : ev s g = .fn f' caps) (he : jF ro f n ps as bd s h = some (s1, h1)) (hC : Comes K f' (.yl (h1.n - 1) :: caps) h1 v h2) (hl : iD (h1.n - 1) h2 = some (none, h3)) : Runs K f n ro (.rangeFunc g ps as bd) s h .normal s1 h3 := by
 obtain ⟨N, c⟩ := hC
 refine ⟨N + 1, fun d fu k hd hfu hk => ?_⟩
 obtain ⟨k, rfl⟩ : ∃ m, k = m + 1 := ⟨k - 1, by omega⟩
 simp only [ba, hg, he, c d fu (by omega) (by omega), hl]
theorem ComesY.of {k : Nat} {args : List CV} {r : Lp} {s0 : Fr} {e : Exit} {v : CV} (hk : h.get k = .lp r) (hp : iE (T.set r.s ai .undef) r.ps.toList args = some s0) (ra : Runs K r.f r.n (some k) r.as s0 h .normal s1 h1) (hb : iF k h1 = some h2) (rb : Runs K r.f r.n (some k) r.bd s1 h2 e s2 h3) (hn : h.n ≤ h3.n) (he : pu k e h3 = some (v, h4)) : ComesY K k args h v h4 := by
 obtain ⟨N, ra⟩ := ra
 obtain ⟨M, rb⟩ := rb
 refine ⟨N + M + 1, fun d fu hd hfu => ?_⟩
 obtain ⟨d, rfl⟩ : ∃ m, d = m + 1 := ⟨d - 1, by omega⟩
 have e1 := ra d fu fu (by omega) (by omega) (by omega)
 have e2 := rb d fu fu (by omega) (by omega) (by omega)
 have e1' : ba K.P (K.env fu).prim (cz K.P (K.env fu) d) ((K.env fu).plan r.f) r.f r.n (some k) (K.env fu).fuel r.as s0 h = some (.normal, s1, h1) := e1
 have e2' : ba K.P (K.env fu).prim (cz K.P (K.env fu) d) ((K.env fu).plan r.f) r.f r.n (some k) (K.env fu).fuel r.bd s1 h2 = some (e, s2, h3) := e2
 simp only [cz, p5, hk, hp, e1', hb, e2', Nat.ble_eq_true_of_le hn, he]
end
theorem aP (k : IntKind) (n : Int) : ofValue (.int k n) = .nu k n := rfl
def I0 : CV → Option Nat
 | .nu _ (.ofNat n) => some n
 | _ => none
def gk (x : Option CV) (d : Nat) : Option Nat := match x with
 | none => some d
 | some c => I0 c
theorem Dn (e : Operand → CV) (x : Option Operand) (d : Nat) : fL e x d = gk (x.map e) d := by
 cases x with
 | none => rfl
 | some o =>
  simp only [fL, Option.map_some, gk]
  cases e o <;> first | rfl | (rename_i k n; cases n <;> rfl)
def bC (lo hi : Option CV) (h : Hp) (x : CV) : cq → Option CV
 | .str => match x with
  | .st s => mQ s (gk lo 0) (gk hi s.length)
  | _ => none
 | .slice _ esz _ _ => match x with
  | .nils => kk (gk lo 0) (gk hi 0)
  | .sl k o n c => dA h esz k o c (gk lo 0) (gk hi n)
  | _ => none
 | .arr n _ esz _ _ => match x with
  | .ptr k o => mR h n esz k o (gk lo 0) (gk hi n)
  | _ => none
 | _ => none
theorem bh (e : Operand → CV) (lo hi : Option Operand) (h : Hp) (x : CV) (t : cq) : iC e lo hi h x t = bC (lo.map e) (hi.map e) h x t := by
 unfold iC bC
 simp only [Dn]
 cases t <;> first | rfl | (cases x <;> rfl)
end Go.CP
namespace Go.CP
variable [LG] [HK] {K : Ctx} {o : Oper} {s : Fr} {h h1 : Hp} {x y z : Operand} {a b c v : CV} {t t' : TypeId}
structure Q1 (K : Ctx) (o : Oper) (s : Fr) (h : Hp) (v : CV) : Prop where
 l : bA K.P o (ev s) = none
 q : qX K.P o (ev s) h = some v
 n : ∀ c g, o.op = .call c → c.callee ≠ .value g
def E1 (K : Ctx) (o : Oper) (s : Fr) (h : Hp) (v : CV) (h1 : Hp) : Prop := ∀ call, gy K.P K.prim call o (ev s) h = some (v, h1)
theorem qZ {P : Program} {prim : cM} {call : dE} {e : Operand → CV} (hn : ∀ c g, o.op = .call c → c.callee ≠ .value g) : gy P prim call o e h = gS P o e h := by
 unfold gy
 split
 · rename_i c hc
   split
   · rename_i g hg; exact absurd hg (hn c g hc)
   · rfl
 · rfl
theorem Q1.e (H : Q1 K o s h v) : E1 K o s h v h := fun call => by
 rw [qZ H.n, gS, H.q]
theorem E1.lay {F : Nat → CV} {B : HB} (hq : qX K.P o (ev s) h = none) (hl : bA K.P o (ev s) = some (F, B)) (hn : ∀ c g, o.op = .call c → c.callee ≠ .value g) : E1 K o s h (F h.n) (h.push B) := fun call => by
 rw [qZ hn, gS, hq, hl]
theorem E1.wr (hq : qX K.P o (ev s) h = none) (hl : bA K.P o (ev s) = none) (hn : ∀ c g, o.op = .call c → c.callee ≠ .value g) (hw : wX K.P o (ev s) h = some (v, h1)) : E1 K o s h v h1 := fun call => by
 rw [qZ hn, gS, hq, hl, hw]
theorem aY (ho : o.op = .move x) (hx : ev s x = v) : Q1 K o s h v := ⟨by simp [bA, ho], by simp [qX, ho, hx], by simp [ho]⟩
theorem pG (ho : o.op = .assign x) (hx : ev s x = v) : Q1 K o s h v := ⟨by simp [bA, ho], by simp [qX, ho, hx], by simp [ho]⟩
theorem aL (ho : o.op = .pick x y z) (hx : ev s x = a) (hy : ev s y = b) (hz : ev s z = c) (hr : az b c a = some v) : Q1 K o s h v := ⟨by simp [bA, ho], by simp [qX, ho, hx, hy, hz, hr], by simp [ho]⟩
theorem e9 {op : BinOp} (ho : o.op = .binOp op t x y t') (hx : ev s x = a) (hy : ev s y = b) (hr : ac K.P op t a b = some v) : Q1 K o s h v := ⟨by simp [bA, ho], by simp [qX, ho, hx, hy, hr], by simp [ho]⟩
theorem jR {op : UnOp} (ho : o.op = .unOp op t x) (hx : ev s x = a) (hr : ec op a = some v) : Q1 K o s h v := ⟨by simp [bA, ho], by simp [qX, ho, hx, hr], by simp [ho]⟩
theorem aM (ho : o.op = .load t x) (hx : ev s x = a) (hr : ao h a (au K.P t) = some v) : Q1 K o s h v := ⟨by simp [bA, ho], by simp [qX, ho, hx, hr], by simp [ho]⟩
theorem I1 {f : Nat} (ho : o.op = .fieldAddr t x f) (hx : ev s x = a) (hr : dN f a (ae K.P t) = some v) : Q1 K o s h v := ⟨by simp [bA, ho], by simp [qX, ho, hx, hr], by simp [ho]⟩
theorem bV (ho : o.op = .indexAddr t x y) (hx : ev s x = a) (hy : ev s y = b) (hr : ak a b (ae K.P t) = some v) : Q1 K o s h v := ⟨by simp [bA, ho], by simp [qX, ho, hx, hy, hr], by simp [ho]⟩
theorem eW (ho : o.op = .index t x y) (hx : ev s x = a) (hy : ev s y = b) (hr : bD a b (ae K.P t) = some v) : Q1 K o s h v := ⟨by simp [bA, ho], by simp [qX, ho, hx, hy, hr], by simp [ho]⟩
theorem jz {lo hi : Option Operand} {lv hv : Option CV} (ho : o.op = .slice t x lo hi none) (hx : ev s x = a) (hl : lo.map (ev s) = lv) (hh : hi.map (ev s) = hv) (hr : bC lv hv h a (ae K.P t) = some v) : Q1 K o s h v := ⟨by simp [bA, ho], by simp only [qX, ho, hx, bh, hl, hh, hr], by simp [ho]⟩
theorem aK {i : Nat} (ho : o.op = .extract x i) (hx : ev s x = a) (hr : ar i a = some v) : Q1 K o s h v := ⟨by simp [bA, ho], by simp [qX, ho, hx, hr], by simp [ho]⟩
theorem gB {ps : Array (Nat × Operand)} {l : List (Nat × CV)} (ho : o.op = .build t ps) (hp : ps.toList.map (fun p => (p.1, ev s p.2)) = l) (hr : lc l (ae K.P t) = some v) : Q1 K o s h v := ⟨by simp [bA, ho], by simp only [qX, ho, hp, hr], by simp [ho]⟩
theorem Do {ok : Bool} (ho : o.op = .lookup t x y ok) (hx : ev s x = a) (hy : ev s y = b) (hr : ed K.P h ok b a (ae K.P t) = some v) : Q1 K o s h v := ⟨by simp [bA, ho], by simp [qX, ho, hx, hy, hr], by simp [ho]⟩
theorem jS {f : FuncId} {caps : Array Operand} {l : List CV} (ho : o.op = .makeFunc (.func f) #[] caps) (hc : caps.toList.map (ev s) = l) : Q1 K o s h (.fn f l) := ⟨by simp [bA, ho], by simp only [qX, ho, hc]; rfl, by simp [ho]⟩
theorem qi (ho : o.op = .convert t t' x) (hx : ev s x = a) (hl : cZ K.P a (ae K.P t) (ae K.P t') = none) (hr : dl K.P h a (ae K.P t) (ae K.P t') = some v) : Q1 K o s h v := ⟨by simp [bA, ho, hx, hl], by simp [qX, ho, hx, hr], by simp [ho]⟩
theorem aN {cl : Call} (ho : o.op = .call cl) (hc : cl.callee = .builtin .len) (ha : cl.args.toList = [x]) (ht : cl.argTypes.toList = [t]) (hx : ev s x = a) (hr : aB h a (ae K.P t) = some v) : Q1 K o s h v := ⟨by simp [bA, ho], by simp only [qX, ho, jb, hc, eA, ha, ht, oe, hx, hr], by rintro c g h1; rw [ho] at h1; injection h1 with h1; subst h1; simp [hc]⟩
theorem Fo {cl : Call} (ho : o.op = .call cl) (hc : cl.callee = .builtin .cap) (ha : cl.args.toList = [x]) (ht : cl.argTypes.toList = [t]) (hx : ev s x = a) (hr : po (ae K.P t) a = some v) : Q1 K o s h v := ⟨by simp [bA, ho], by simp only [qX, ho, jb, hc, eA, ha, ht, pZ, hx, hr], by rintro c g h1; rw [ho] at h1; injection h1 with h1; subst h1; simp [hc]⟩
theorem Fp {cl : Call} (ho : o.op = .call cl) (hc : cl.callee = .builtin .max) (ha : cl.args.toList = [x, y]) (hx : ev s x = a) (hy : ev s y = b) (hr : uL a b = some v) : Q1 K o s h v := ⟨by simp [bA, ho], by simp only [qX, ho, jb, hc, eA, ha, pW, hx, hy, hr], by rintro c g h1; rw [ho] at h1; injection h1 with h1; subst h1; simp [hc]⟩
theorem Fq {cl : Call} (ho : o.op = .call cl) (hc : cl.callee = .builtin .min) (ha : cl.args.toList = [x, y]) (hx : ev s x = a) (hy : ev s y = b) (hr : uM a b = some v) : Q1 K o s h v := ⟨by simp [bA, ho], by simp only [qX, ho, jb, hc, eA, ha, pX, hx, hy, hr], by rintro c g h1; rw [ho] at h1; injection h1 with h1; subst h1; simp [hc]⟩
theorem lq {F : Nat → CV} {B : HB} (ho : o.op = .alloc t) (hr : dM t (cn K.P t) = some (F, B)) : E1 K o s h (F h.n) (h.push B) := E1.lay (by simp [qX, ho]) (by simp [bA, ho, hr]) (by simp [ho])
theorem ij {F : Nat → CV} {B : HB} (ho : o.op = .box t x) (hx : ev s x = a) (hr : cK t a (au K.P t) = some (F, B)) : E1 K o s h (F h.n) (h.push B) := E1.lay (by simp [qX, ho]) (by simp [bA, ho, hx, hr]) (by simp [ho])
theorem aT {F : Nat → CV} {B : HB} {n : Nat} {ps : Array (Nat × Operand)} {l : List (Nat × CV)} (ho : o.op = .buildSlice t n ps) (hp : ps.toList.map (fun p => (p.1, ev s p.2)) = l) (hr : aC n l (ae K.P t) = some (F, B)) : E1 K o s h (F h.n) (h.push B) := E1.lay (by simp [qX, ho]) (by simp only [bA, ho, hp, hr]) (by simp [ho])
theorem Fs (ho : o.op = .makeMap t none) : E1 K o s h (.mp h.n) (h.push (.mp [])) := E1.lay (F := fun k => .mp k) (by simp [qX, ho]) (by simp [bA, ho]) (by simp [ho])
theorem eX (ho : o.op = .store t x y) (hx : ev s x = a) (hy : ev s y = b) (hr : bt h a b (au K.P t) = some (.undef, h1)) : E1 K o s h .undef h1 := E1.wr (by simp [qX, ho]) (by simp [bA, ho]) (by simp [ho]) (by simp [wX, ho, hx, hy, hr])
theorem Ft (ho : o.op = .mapUpdate t x y z) (hx : ev s x = a) (hy : ev s y = b) (hz : ev s z = c) (hr : iQ K.P h a b c (ae K.P t) = some (.undef, h1)) : E1 K o s h .undef h1 := E1.wr (by simp [qX, ho]) (by simp [bA, ho]) (by simp [ho]) (by simp [wX, ho, hx, hy, hz, hr])
theorem fa {cl : Call} (hk : ∀ o, HK.keep o = false) (ho : o.op = .call cl) (hc : cl.callee = .builtin .append) (ha : cl.args.toList = [x, y]) (ht : cl.argTypes.toList = [t, t']) (hx : ev s x = a) (hy : ev s y = b) (hr : be h a b (ae K.P t) (ae K.P t') = some (v, h1)) : E1 K o s h v h1 := E1.wr (by simp [qX, ho, jb, hc, eA]) (by simp [bA, ho]) (by rintro c g h1; rw [ho] at h1; injection h1 with h1; subst h1; simp [hc]) (by simp only [wX, ho, lL, hc, hk, kl, ha, ht, hx, hy, hr])
section
variable {ops : Array Oper} {l : List Stp} {pd : List Pd} {i : Nat} {s2 : Fr} {h2 : Hp}
theorem RunP.q (ho : ops[i]? = some o) (hw : bN ops o s = some true) (H : Q1 K o s h v) (rest : RunP K ops l (⟨i, o, false, v, none⟩ :: pd) (Fr.putO s o.dst v) h s2 h2) : RunP K ops (.take i :: l) pd s h s2 h2 := RunP.take ho hw H.l H.q rest
end
end Go.CP
namespace Go.CP
variable [LG] [HK]
def HpOk (h : Hp) : Prop := ∀ k, h.n ≤ k → h.get k = .dead
structure Same (N : Nat) (h h' : Hp) : Prop where
 n : h.n ≤ h'.n
 get : ∀ k, k < N → h'.get k = h.get k
theorem Same.refl (N : Nat) (h : Hp) : Same N h h := ⟨Nat.le_refl _, fun _ _ => rfl⟩
theorem Same.trans {N : Nat} {h h' h'' : Hp} (a : Same N h h') (b : Same N h' h'') : Same N h h'' := ⟨Nat.le_trans a.n b.n, fun k hk => (b.get k hk).trans (a.get k hk)⟩
theorem HpOk.push {h : Hp} (ok : HpOk h) (b : HB) : HpOk (h.push b) := fun k hk => by
 have : h.n + 1 ≤ k := hk
 rw [ag, if_neg (by omega)]; exact ok k (by omega)
theorem HpOk.set {h : Hp} (ok : HpOk h) {k : Nat} (hk : k < h.n) (b : HB) : HpOk (h.set k b) := fun j hj => by
 have : h.n ≤ j := hj
 rw [Hp.get_set, if_neg (by omega)]; exact ok j this
theorem Same.push {N : Nat} {h : Hp} (hN : N ≤ h.n) (b : HB) : Same N h (h.push b) := ⟨by simp, fun k hk => by rw [ag, if_neg (by omega)]⟩
theorem Same.set {N k : Nat} {h : Hp} (hN : N ≤ k) (b : HB) : Same N h (h.set k b) := ⟨Nat.le_refl _, fun j hj => by rw [Hp.get_set, if_neg (by omega)]⟩
inductive Row (h : Hp) : CV → List CV → Prop
 | nils : Row h .nils []
 | sle : Row h .sle []
 | none (k o c : Nat) : Row h (.sl k o 0 c) []
 | some {k o c : Nat} {cs : List CV} (hne : cs ≠ []) (hs : bk o cs.length (h.get k) = Option.some cs) (hc : cs.length ≤ c) (hf : qR 1 (h.get k) = true) : Row h (.sl k o cs.length c) cs
theorem gL {o n : Nat} {b : HB} {cs : List CV} (h : bk o n b = Option.some cs) : b ≠ .dead := by
 intro e; rw [e] at h; simp [bk] at h
theorem Row.mono {N : Nat} {h h' : Hp} (S : Same N h h') (ok : HpOk h) (hN : h.n ≤ N) {x : CV} {cs : List CV} (r : Row h x cs) : Row h' x cs := by
 cases r with
 | nils => exact .nils
 | sle => exact .sle
 | none k o c => exact .none k o c
 | @some k o c cs hne hs hc hf =>
  have hk : h'.get k = h.get k := by
   refine S.get k ?_
   rcases Nat.lt_or_ge k h.n with hk | hk
   · omega
   · exact absurd (ok k hk) (gL hs)
  exact .some hne (by rw [hk]; exact hs) hc (by rw [hk]; exact hf)
theorem Row.len {h : Hp} {x : CV} {cs : List CV} (r : Row h x cs) {e b : Nat} {z : List CV} : aB h x (.slice e 1 b z) = Option.some (.nu .i64 (.ofNat cs.length)) := by
 cases r <;> rfl
theorem Row.lenV {h : Hp} {x : CV} {cs : List CV} (r : Row h x cs) : CP.lenV x = cs.length := by
 cases r <;> rfl
theorem Row.cells {h : Hp} {x : CV} {cs : List CV} (r : Row h x cs) : cellsOf h 1 x = Option.some cs := by
 cases r with
 | nils => rfl
 | sle => rfl
 | none k o c => rfl
 | @some k o c cs hne hs _ _ =>
  have h0 : Nat.beq cs.length 0 = false := by
   cases cs with
   | nil => exact absurd rfl hne
   | cons a l => rfl
  simp only [cellsOf, h0, Nat.mul_one, hs]
theorem Row.at {h : Hp} {x : CV} {cs : List CV} (r : Row h x cs) {i : Nat} (hi : i < cs.length) {e b : Nat} {z : List CV} : ∃ k o, ak x (.nu .i64 (.ofNat i)) (.slice e 1 b z) = Option.some (.ptr k (o + i * 1)) ∧ ao h (.ptr k (o + i * 1)) (Option.some (1, false)) = Option.some cs[i] := by
 cases r with
 | nils => simp at hi
 | sle => simp at hi
 | none k o c => simp at hi
 | @some k o c cs hne hs _ _ =>
  have hb : Nat.blt i cs.length = true := by simpa using hi
  refine ⟨k, o, by simp only [ak, sU, hb], ?_⟩
  have key : ∀ ds : List CV, (match Nat.ble (o + cs.length) ds.length with
    | true => Option.some (sub ds o cs.length)
    | false => Option.none) = Option.some cs → val ds (o + i * 1) 1 false = Option.some cs[i] := by
   intro ds hc
   split at hc
   · rename_i hle
     have hle := bv hle
     injection hc with hc
     have h1 : ds[o + i]? = Option.some cs[i] := by
      have h2 : (sub ds o cs.length)[i]? = cs[i]? := by rw [hc]
      simp only [sub, List.getElem?_take, List.getElem?_drop, if_pos hi, List.getElem?_eq_getElem hi] at h2
      exact h2
     simp only [val, Nat.mul_one, Nat.ble_eq_true_of_le (show o + i + 1 ≤ ds.length by omega), Nat.beq_refl, h1]
   · cases hc
  show eZ (o + i * 1) 1 false (h.get k) = _
  unfold bk at hs
  split at hs
  · rename_i ds m t hb'; rw [hb']; exact key ds hs
  · rename_i ds hb'; rw [hb']; exact key ds hs
  · rename_i ds ys m hb'; rw [hb']; exact key ds hs
  · rename_i ds hb'; rw [hb']; exact key ds hs
  · cases hs
inductive Out (N : Nat) (h : Hp) (el : Nat) : CV → List CV → Prop
 | nils : Out N h el .nils []
 | some {k : Nat} {cs : List CV} (hk : N ≤ k) (hn : k < h.n) (hne : cs ≠ []) (hs : h.get k = .cells cs 1 el) : Out N h el (.sl k 0 cs.length cs.length) cs
theorem Out.row {N el : Nat} {h : Hp} {x : CV} {cs : List CV} (r : Out N h el x cs) : Row h x cs := by
 cases r with
 | nils => exact .nils
 | @some k cs hk hn hne hs =>
  refine .some hne ?_ (Nat.le_refl _) (by rw [hs]; rfl)
  rw [hs]
  simp only [bk, Nat.zero_add, Nat.ble_eq_true_of_le (Nat.le_refl _), sub, List.drop_zero, List.take_length]
theorem Out.mono {N M el : Nat} {h h' : Hp} (S : Same M h h') (hM : h.n ≤ M) {x : CV} {cs : List CV} (r : Out N h el x cs) : Out N h' el x cs := by
 cases r with
 | nils => exact .nils
 | @some k cs hk hn hne hs => exact .some hk (Nat.lt_of_lt_of_le hn S.n) hne (by rw [S.get k (by omega)]; exact hs)
theorem Out.app {N el bytes : Nat} {h : Hp} {z : List CV} {t' : cq} (ok : HpOk h) (hNn : N ≤ h.n) {x y : CV} {cs ys : List CV} (r : Out N h el x cs) (hy : Row h y ys) (hne : ys ≠ []) (hone : ys.all CV.one = true) (hz : z.length = 1) (ht : ∃ e' b' z', t' = .slice e' 1 b' z') (hb : (cs.length + ys.length) * bytes ≤ 70368744177664) (hn : cs.length + ys.length ≤ 4611686018427387904) :
  ∃ x' h', be h x y (.slice el 1 bytes z) t' = Option.some (x', h') ∧ Out N h' el x' (cs ++ ys) ∧ Same N h h' ∧ HpOk h' := by
 obtain ⟨e', b', z', rfl⟩ := ht
 have hcells := hy.cells
 have hlen := hy.lenV
 have hm : Nat.beq ys.length 0 = false := by
  cases ys with
  | nil => exact absurd rfl hne
  | cons a l => rfl
 have hx : CP.lenV x = cs.length := r.row.lenV
 have hc : (ys.all CV.one && Nat.beq z.length 1 && Nat.blt 0 1 && Nat.ble ((CP.lenV x + ys.length) * bytes) 70368744177664 && Nat.ble (CP.lenV x + ys.length) 4611686018427387904) = true := by
  rw [hone, hz, hx, Nat.ble_eq_true_of_le hb, Nat.ble_eq_true_of_le hn]; rfl
 have h1 : be h x y (.slice el 1 bytes z) (.slice e' 1 b' z') = eC h el 1 x ys ys.length := by
  simp only [be, gV, hcells, hlen, hc]
 rw [h1]
 have fin : ∀ h2 : Hp, h2.n = h.n → HpOk h2 → Same N h h2 → Out N (h2.push (.cells (cs ++ ys) 1 el)) el (.sl h.n 0 (cs.length + ys.length) (cs.length + ys.length)) (cs ++ ys) ∧ Same N h (h2.push (.cells (cs ++ ys) 1 el)) ∧ HpOk (h2.push (.cells (cs ++ ys) 1 el)) := by
  intro h2 hn2 bz S2
  refine ⟨?_, S2.trans (Same.push (by omega) _), bz.push _⟩
  have := Out.some (N := N) (h := h2.push (.cells (cs ++ ys) 1 el)) (el := el) (k := h.n) (cs := cs ++ ys) hNn (by simp; omega) (by simp [hne]) (by rw [ag, if_pos hn2.symm])
  simpa using this
 cases r with
 | nils =>
  refine ⟨.sl h.n 0 ys.length ys.length, h.push (.cells ys 1 el), by simp only [eC, hm], ?_⟩
  have := fin h rfl ok (Same.refl N h)
  simpa using this
 | @some k cs hk hkn hcne hs =>
  have h0 : Nat.ble (cs.length + ys.length) cs.length = false := by
   cases hq : Nat.ble (cs.length + ys.length) cs.length with
   | false => rfl
   | true =>
    have := bv hq
    have : ys.length = 0 := by omega
    exact absurd (List.eq_nil_of_length_eq_zero this) hne
  have h2 : Nat.ble (0 + cs.length * 1) cs.length = true := Nat.ble_eq_true_of_le (by omega)
  have h3 : fX cs 1 0 cs.length = false := by
   simp only [fX, Nat.zero_add, Nat.mul_one, Nat.beq_refl, Bool.not_true, Bool.or_false]; rfl
  have h4 : sub cs 0 (cs.length * 1) = cs := by simp [sub]
  refine ⟨.sl h.n 0 (cs.length + ys.length) (cs.length + ys.length), (h.set k .dead).push (.cells (cs ++ ys) 1 el), ?_, fin (h.set k .dead) rfl (ok.set hkn _) (Same.set hk _)⟩
  simp only [eC, hm, h0, hs, jD, h2, h3, Nat.beq_refl, Bool.and_self, h4]
end Go.CP
namespace Go.CP
variable [LG] [HK]
theorem dT {v : CV} (hv : v.one = true) : v.cells = [v] := by cases v <;> first | rfl | (simp [CV.one] at hv)
theorem iH {v z0 : CV} {el b : Nat} (hv : v.one = true) : aC 1 [(0, v)] (.slice el 1 b [z0]) = some (fun k => .sl k 0 1 1, .cells [v] 0 el) := by
 have hc := dT hv
 have hs : v.sol = true := by simp [CV.sol, hc, hv]
 simp only [aC, List.all_cons, hs, List.all_nil, kh, dG, hc, List.length_cons, List.length_nil]
 rfl
theorem lr {h : Hp} {v : CV} {el : Nat} : Row (h.push (.cells [v] 0 el)) (.sl h.n 0 1 1) [v] := by
 refine Row.some (k := h.n) (o := 0) (c := 1) (cs := [v]) (by simp) ?_ (Nat.le_refl _) ?_
 · rw [ag, if_pos rfl]; rfl
 · rw [ag, if_pos rfl]; rfl
def ah (a : List Int) : List CV := a.map (CV.nu .i64)
inductive Rows (h : Hp) : List CV → List (List Int) → Prop
 | nil : Rows h [] []
 | cons {x : CV} {a : List Int} {xs : List CV} {l : List (List Int)} (hx : Row h x (ah a)) (hs : Rows h xs l) : Rows h (x :: xs) (a :: l)
theorem Rows.length {h : Hp} {xs : List CV} {l : List (List Int)} (r : Rows h xs l) : xs.length = l.length := by
 induction r with
 | nil => rfl
 | cons _ _ ih => simp [ih]
theorem Rows.mono {N : Nat} {h h' : Hp} (S : Same N h h') (ok : HpOk h) (hN : h.n ≤ N) {xs : List CV} {l : List (List Int)} (r : Rows h xs l) : Rows h' xs l := by
 induction r with
 | nil => exact .nil
 | cons hx _ ih => exact .cons (hx.mono S ok hN) ih
theorem Rows.get {h : Hp} {xs : List CV} {l : List (List Int)} (r : Rows h xs l) : ∀ {i : Nat} (hi : i < xs.length) (hi' : i < l.length), Row h xs[i] (ah l[i]) := by
 induction r with
 | nil => intro i hi; simp at hi
 | cons hx _ ih =>
  intro i hi hi'
  cases i with
  | zero => exact hx
  | succ i => exact ih (by simpa using hi) (by simpa using hi')
theorem Rows.append {h : Hp} {xs ys : List CV} {l m : List (List Int)} (r : Rows h xs l) (r' : Rows h ys m) : Rows h (xs ++ ys) (l ++ m) := by
 induction r with
 | nil => exact r'
 | cons hx _ ih => exact .cons hx ih
theorem Row.one {h : Hp} {x : CV} {cs : List CV} (r : Row h x cs) : x.one = true := by cases r <;> rfl
end Go.CP
namespace Go.CP
variable [LG] [HK]
def wipe (h : Hp) : CV → Hp
 | .sl k _ _ _ => h.set k .dead
 | _ => h
theorem di (h : Hp) (x : CV) : (wipe h x).n = h.n := by cases x <;> rfl
theorem HpOk.wipe {h : Hp} (ok : HpOk h) (x : CV) : HpOk (wipe h x) := by
 cases x with
 | sl k o n c => intro j hj; show (h.set k .dead).get j = _; rw [Hp.get_set]; split
                 · rfl
                 · exact ok j hj
 | _ => exact ok
theorem Dp (h : Hp) (x : CV) (j : Nat) : (wipe h x).get j = .dead ∨ (wipe h x).get j = h.get j := by
 cases x with
 | sl k o n c => show (h.set k .dead).get j = _ ∨ (h.set k .dead).get j = _; rw [Hp.get_set]; split <;> simp
 | _ => exact .inr rfl
theorem Row.unwipe {h : Hp} {x y : CV} {cs : List CV} (r : Row (wipe h x) y cs) : Row h y cs := by
 cases r with
 | nils => exact .nils
 | sle => exact .sle
 | none k o c => exact .none k o c
 | @some k o c cs hne hs hc hf =>
  rcases Dp h x k with h1 | h1
  · exact absurd h1 (gL hs)
  · exact .some hne (by rw [← h1]; exact hs) hc (by rw [← h1]; exact hf)
theorem Rows.unwipe {h : Hp} {x : CV} {xs : List CV} {l : List (List Int)} (r : Rows (wipe h x) xs l) : Rows h xs l := by
 induction r with
 | nil => exact .nil
 | cons hx _ ih => exact .cons hx.unwipe ih
theorem Same.wipe {N : Nat} {h h' : Hp} (S : Same N h h') (x : CV) : Same N (wipe h x) (wipe h' x) := by
 refine ⟨by rw [di, di]; exact S.n, fun j hj => ?_⟩
 cases x with
 | sl k o n c =>
  show (h'.set k .dead).get j = (h.set k .dead).get j
  rw [Hp.get_set, Hp.get_set]; split
  · rfl
  · exact S.get j hj
 | _ => exact S.get j hj
theorem Out.appE {N el bytes : Nat} {h : Hp} {z : List CV} {t' : cq} {x y : CV} {cs ys : List CV} (r : Out N h el x cs) (hy : Row h y ys) (hne : ys ≠ []) (hone : ys.all CV.one = true) (hz : z.length = 1) (ht : ∃ e' b' z', t' = .slice e' 1 b' z') (hb : (cs.length + ys.length) * bytes ≤ 70368744177664) (hn : cs.length + ys.length ≤ 4611686018427387904) :
  be h x y (.slice el 1 bytes z) t' = Option.some (.sl h.n 0 (cs.length + ys.length) (cs.length + ys.length), (wipe h x).push (.cells (cs ++ ys) 1 el)) := by
 obtain ⟨e', b', z', rfl⟩ := ht
 have hcells := hy.cells
 have hlen := hy.lenV
 have hm : Nat.beq ys.length 0 = false := by
  cases ys with
  | nil => exact absurd rfl hne
  | cons a l => rfl
 have hx : CP.lenV x = cs.length := r.row.lenV
 have hc : (ys.all CV.one && Nat.beq z.length 1 && Nat.blt 0 1 && Nat.ble ((CP.lenV x + ys.length) * bytes) 70368744177664 && Nat.ble (CP.lenV x + ys.length) 4611686018427387904) = true := by
  rw [hone, hz, hx, Nat.ble_eq_true_of_le hb, Nat.ble_eq_true_of_le hn]; rfl
 have h1 : be h x y (.slice el 1 bytes z) (.slice e' 1 b' z') = eC h el 1 x ys ys.length := by
  simp only [be, gV, hcells, hlen, hc]
 rw [h1]
 cases r with
 | nils => simp only [eC, hm, CP.wipe, List.length_nil, Nat.zero_add, List.nil_append]
 | @some k cs hk hkn hcne hs =>
  have h0 : Nat.ble (cs.length + ys.length) cs.length = false := by
   cases hq : Nat.ble (cs.length + ys.length) cs.length with
   | false => rfl
   | true =>
    have := bv hq
    have : ys.length = 0 := by omega
    exact absurd (List.eq_nil_of_length_eq_zero this) hne
  have h2 : Nat.ble (0 + cs.length * 1) cs.length = true := Nat.ble_eq_true_of_le (by omega)
  have h3 : fX cs 1 0 cs.length = false := by
   simp only [fX, Nat.zero_add, Nat.mul_one, Nat.beq_refl, Bool.not_true, Bool.or_false]; rfl
  have h4 : sub cs 0 (cs.length * 1) = cs := by simp [sub]
  simp only [eC, hm, h0, hs, jD, h2, h3, Nat.beq_refl, Bool.and_self, h4, CP.wipe]
structure Own (N : Nat) (h : Hp) (el : Nat) (x : CV) (cs : List CV) (l : List (List Int)) : Prop where
 out : Out N h el x cs
 rows : Rows (wipe h x) cs l
theorem Own.nil {N : Nat} {h : Hp} {el : Nat} : Own N h el .nils [] [] := ⟨.nils, .nil⟩
theorem Own.all {N : Nat} {h : Hp} {el : Nat} {x : CV} {cs : List CV} {l : List (List Int)} (O : Own N h el x cs l) : Rows h cs l := O.rows.unwipe
theorem Own.mono {N : Nat} {h h' : Hp} {el : Nat} {x : CV} {cs : List CV} {l : List (List Int)} (S : Same h.n h h') (ok : HpOk h) (O : Own N h el x cs l) : Own N h' el x cs l :=
 ⟨O.out.mono S (Nat.le_refl _), O.rows.mono (S.wipe x) (ok.wipe x) (by rw [di]; exact Nat.le_refl _)⟩
theorem Row.off {N M : Nat} {h h1 : Hp} {el el' : Nat} {x y : CV} {cs ys : List CV} (o : Out N h el x cs) (hM : h.n ≤ M) (r : Out M h1 el' y ys) : Row (wipe h1 x) y ys := by
 cases r with
 | nils => exact .nils
 | @some k ys hk hn hne hs =>
  have : (wipe h1 x).get k = h1.get k := by
   cases o with
   | nils => rfl
   | @some j cs hj hjn _ _ => show (h1.set j .dead).get k = _; rw [Hp.get_set, if_neg (by omega)]
  refine .some hne ?_ (Nat.le_refl _) (by rw [this, hs]; rfl)
  rw [this, hs]
  simp only [bk, Nat.zero_add, Nat.ble_eq_true_of_le (Nat.le_refl _), sub, List.drop_zero, List.take_length]
theorem Own.app {P : Program} {N el b t : Nat} {h : Hp} {z0 x y : CV} {cs : List CV} {l : List (List Int)} {a : List Int} (ht : ae P t = .slice el 1 b [z0]) (ok : HpOk h) (hN : N ≤ h.n) (O : Own N h el x cs l) (hy : Row (wipe h x) y (ah a)) (hb : b ≤ 64) (hn : cs.length < 1099511627776) :
  ∃ F B x' h', aC 1 [(0, y)] (ae P t) = some (F, B) ∧ be (h.push B) x (F h.n) (ae P t) (ae P t) = some (x', h') ∧ Own N h' el x' (cs ++ [y]) (l ++ [a]) ∧ Same N h h' ∧ HpOk h' := by
 have hv : y.one = true := hy.one
 have r' : Out N (h.push (.cells [y] 0 el)) el x cs := O.out.mono (Same.push (Nat.le_refl _) _) (Nat.le_refl _)
 have hb2 : (cs.length + [y].length) * b ≤ 70368744177664 := by
  have : (cs.length + 1) * b ≤ 1099511627776 * 64 := Nat.mul_le_mul (by omega) hb
  simpa using this
 have e := r'.appE (z := [z0]) (t' := .slice el 1 b [z0]) (bytes := b) (lr (h := h) (v := y) (el := el)) (by simp) (by simp [hv]) rfl ⟨_, _, _, rfl⟩ hb2 (by simp; omega)
 have aX : HpOk (wipe (h.push (.cells [y] 0 el)) x) := (ok.push _).wipe x
 have hn1 : (wipe (h.push (.cells [y] 0 el)) x).n = h.n + 1 := by rw [di]; rfl
 have S1 : Same h.n (wipe h x) (wipe (h.push (.cells [y] 0 el)) x) := (Same.push (Nat.le_refl _) _).wipe x
 have hlt : ∀ j, j < h.n → (wipe (wipe (h.push (.cells [y] 0 el)) x |>.push (.cells (cs ++ [y]) 1 el)) (.sl (h.push (.cells [y] 0 el)).n 0 (cs.length + [y].length) (cs.length + [y].length))).get j = (wipe h x).get j := by
  intro j hj
  show (Hp.set _ (h.n + 1) .dead).get j = _
  rw [Hp.get_set, if_neg (by omega), ag, if_neg (by omega)]
  exact S1.get j hj
 have S2 : Same h.n (wipe h x) (wipe ((wipe (h.push (.cells [y] 0 el)) x).push (.cells (cs ++ [y]) 1 el)) (.sl (h.push (.cells [y] 0 el)).n 0 (cs.length + [y].length) (cs.length + [y].length))) :=
  ⟨by rw [di, di]; show h.n ≤ (wipe (h.push (.cells [y] 0 el)) x).n + 1; omega, hlt⟩
 refine ⟨_, _, _, _, by rw [ht]; exact iH hv, by rw [ht]; exact e, ⟨?_, ?_⟩, ?_, aX.push _⟩
 · have := Out.some (N := N) (h := (wipe (h.push (.cells [y] 0 el)) x).push (.cells (cs ++ [y]) 1 el)) (el := el) (k := h.n + 1) (cs := cs ++ [y]) (by omega) (by show h.n + 1 < (wipe (h.push (.cells [y] 0 el)) x).n + 1; omega) (by simp) (by rw [ag, if_pos hn1.symm])
   simpa using this
 · exact (O.rows.mono S2 (ok.wipe x) (by rw [di]; exact Nat.le_refl _)).append (.cons (hy.mono S2 (ok.wipe x) (by rw [di]; exact Nat.le_refl _)) .nil)
 · refine ⟨by show h.n ≤ (wipe (h.push (.cells [y] 0 el)) x).n + 1; omega, fun j hj => ?_⟩
   rw [ag, if_neg (by omega), S1.get j (by omega)]
   cases O.out with
   | nils => rfl
   | @some k cs hk hn _ _ => show (h.set k .dead).get j = _; rw [Hp.get_set, if_neg (by omega)]
end Go.CP
namespace Go.CP
variable [LG] [HK]
inductive New (N : Nat) (h : Hp) (el : Nat) : CV → List CV → Prop
 | emp {k : Nat} (hk : N ≤ k) (hn : k < h.n) (hs : h.get k = .cells [] 0 el) : New N h el (.sl k 0 0 0) []
 | out {x : CV} {cs : List CV} (o : Out N h el x cs) : New N h el x cs
theorem New.row {N el : Nat} {h : Hp} {x : CV} {cs : List CV} (r : New N h el x cs) : Row h x cs := by
 cases r with
 | emp => exact .none _ _ _
 | out o => exact o.row
theorem New.got {N el : Nat} {h : Hp} {x : CV} {cs : List CV} (r : New N h el x cs) (hne : cs ≠ []) : Out N h el x cs := by
 cases r with
 | emp => exact absurd rfl hne
 | out o => exact o
theorem Al {N el : Nat} {h : Hp} {x : CV} {cs : List CV} (r : Out N h el x cs) : Same N h (wipe h x) := by
 refine ⟨by rw [di]; exact Nat.le_refl _, fun j hj => ?_⟩
 cases r with
 | nils => rfl
 | @some k cs hk hn _ _ => show (h.set k .dead).get j = _; rw [Hp.get_set, if_neg (by omega)]
theorem New.app {N el bytes : Nat} {h : Hp} {z : List CV} {t' : cq} {x y : CV} {cs ys : List CV} (ok : HpOk h) (hN : N ≤ h.n) (r : New N h el x cs) (hy : Row h y ys) (hone : ys.all CV.one = true) (hz : z.length = 1) (ht : ∃ e' b' z', t' = .slice e' 1 b' z') (hb : (cs.length + ys.length) * bytes ≤ 70368744177664) (hn : cs.length + ys.length ≤ 4611686018427387904) :
  ∃ x' h', be h x y (.slice el 1 bytes z) t' = some (x', h') ∧ New N h' el x' (cs ++ ys) ∧ Same N h h' ∧ HpOk h' := by
 have hcells := hy.cells
 have hlen := hy.lenV
 have hx : CP.lenV x = cs.length := r.row.lenV
 have hc : (ys.all CV.one && Nat.beq z.length 1 && Nat.blt 0 1 && Nat.ble ((CP.lenV x + ys.length) * bytes) 70368744177664 && Nat.ble (CP.lenV x + ys.length) 4611686018427387904) = true := by
  rw [hone, hz, hx, Nat.ble_eq_true_of_le hb, Nat.ble_eq_true_of_le hn]; rfl
 by_cases hne : ys = []
 · obtain ⟨e', b', z', rfl⟩ := ht
   subst hne
   refine ⟨x, h, ?_, by rw [List.append_nil]; exact r, Same.refl _ _, ok⟩
   have h1 : be h x y (.slice el 1 bytes z) (.slice e' 1 b' z') = eC h el 1 x [] 0 := by
    simp only [be, gV, hcells, hlen, hc]; rfl
   rw [h1]
   cases r with
   | emp => rfl
   | out o => cases o with
    | nils => rfl
    | @some k cs hk hn hcne hs =>
     have : Nat.ble cs.length cs.length = true := Nat.ble_eq_true_of_le (Nat.le_refl _)
     simp only [eC, Nat.beq_refl, this]
 · have hm : Nat.beq ys.length 0 = false := by
    cases ys with
    | nil => exact absurd rfl hne
    | cons a l => rfl
   cases r with
   | emp hk hkn hs =>
    obtain ⟨e', b', z', rfl⟩ := ht
    rename_i k
    have h1 : be h (.sl k 0 0 0) y (.slice el 1 bytes z) (.slice e' 1 b' z') = eC h el 1 (.sl k 0 0 0) ys ys.length := by
     simp only [be, gV, hcells, hlen, hc]
    have hm2 : Nat.ble ys.length 0 = false := by
     cases hq : Nat.ble ys.length 0 with
     | false => rfl
     | true => have := bv hq; exact absurd (List.eq_nil_of_length_eq_zero (by omega)) hne
    refine ⟨.sl h.n 0 ys.length ys.length, h.push (.cells ys 1 el), ?_, .out ?_, Same.push hN _, ok.push _⟩
    · have hz0 : Nat.ble (0 + 0 * 1) ([] : List CV).length = true := rfl
      have ht2 : fX ([] : List CV) 0 0 0 = true := rfl
      rw [h1]
      simp only [eC, hm, Nat.zero_add, hm2, jD, hs, hz0, ht2]
      rfl
    · exact Out.some hN (by simp) hne (by rw [ag, if_pos rfl])
   | out o =>
    have e := o.appE hy hne hone hz ht hb hn
    have S := Al o
    refine ⟨_, _, e, .out ?_, S.trans (Same.push (by rw [di]; exact hN) _), (ok.wipe x).push _⟩
    have := Out.some (N := N) (h := (wipe h x).push (.cells (cs ++ ys) 1 el)) (el := el) (k := h.n) (cs := cs ++ ys) hN (by show h.n < (wipe h x).n + 1; rw [di]; omega) (by simp [hne]) (by rw [ag, if_pos (di h x).symm])
    simpa using this
theorem Row.cut {h : Hp} {x : CV} {cs : List CV} (r : Row h x cs) (hne : cs ≠ []) {lo hi : Option CV} {a b e by' : Nat} {z : List CV} (hlo : gk lo 0 = Option.some a) (hhi : gk hi cs.length = Option.some b) (hab : a ≤ b) (hb : b ≤ cs.length) : ∃ y, bC lo hi h x (.slice e 1 by' z) = Option.some y ∧ Row h y ((cs.drop a).take (b - a)) := by
 cases r with
 | nils => exact absurd rfl hne
 | sle => exact absurd rfl hne
 | none => exact absurd rfl hne
 | @some k o c cs hne' hs hc hf =>
  have h1 : (Nat.ble a b && Nat.ble b c) = true := by rw [Nat.ble_eq_true_of_le hab, Nat.ble_eq_true_of_le (by omega)]; rfl
  have hq : bC lo hi h (.sl k o cs.length c) (.slice e 1 by' z) = dA h 1 k o c (Option.some a) (Option.some b) := by
   simp only [bC, hlo, hhi]
  rw [hq]
  have key : ∀ ds : List CV, (match Nat.ble (o + cs.length) ds.length with
    | true => Option.some (sub ds o cs.length)
    | false => Option.none) = Option.some cs → ∀ m, a + m ≤ cs.length → (match Nat.ble (o + a * 1 + m) ds.length with
    | true => Option.some (sub ds (o + a * 1) m)
    | false => Option.none) = Option.some ((cs.drop a).take m) := by
   intro ds hcc m hm
   split at hcc
   · rename_i hle
     have hle := bv hle
     injection hcc with hcc
     rw [Nat.ble_eq_true_of_le (by omega)]
     simp only [Nat.mul_one]
     rw [← hcc]
     congr 1
     simp only [sub]
     apply List.ext_getElem?
     intro i
     simp only [List.getElem?_take, List.getElem?_drop]
     split
     · rw [if_pos (by omega)]; congr 1; omega
     · rfl
   · cases hcc
  have key2 : ∀ m, a + m ≤ cs.length → bk (o + a * 1) m (h.get k) = Option.some ((cs.drop a).take m) := by
   intro m hm
   unfold bk at hs ⊢
   split at hs
   · rename_i ds mm t hb'; exact key ds hs m hm
   · rename_i ds hb'; exact key ds hs m hm
   · rename_i ds ys mm hb'; exact key ds hs m hm
   · rename_i ds hb'; exact key ds hs m hm
   · cases hs
  rcases Nat.lt_or_ge a c with hac | hac
  · have h2 : Nat.blt a c = true := by simpa using hac
    refine ⟨.sl k (o + a * 1) (b - a) (c - a), by simp only [dA, h1, h2, hf], ?_⟩
    by_cases hz : b - a = 0
    · rw [hz, List.take_zero]; exact .none _ _ _
    · have hl : ((cs.drop a).take (b - a)).length = b - a := by simp; omega
      have := Row.some (h := h) (k := k) (o := o + a * 1) (c := c - a) (cs := (cs.drop a).take (b - a)) (by intro e; rw [e] at hl; simp at hl; omega) (by rw [hl]; exact key2 _ (by omega)) (by rw [hl]; omega) hf
      rwa [hl] at this
  · have h2 : Nat.blt a c = false := by
     cases hq : Nat.blt a c with
     | false => rfl
     | true => have := cO hq; omega
    have hz : b - a = 0 := by omega
    rw [hz, List.take_zero]
    simp only [dA, h1, h2]
    cases hg : h.get k with
    | cells ds aO el =>
     cases ht : fX ds aO o c with
     | true => exact ⟨.sl k o 0 0, by simp only [gw, ht], .none _ _ _⟩
     | false => exact ⟨.sle, by simp only [gw, ht], .sle⟩
    | ro ds => exact ⟨.sle, by simp only [gw], .sle⟩
    | _ => rw [hg] at hf; cases hf
end Go.CP
namespace Go.CP
variable [LG] [HK]
def RunQ (K : Ctx) (f n : Nat) (c : Code) (s : Fr) (h : Hp) (Q : Exit → Fr → Hp → Prop) : Prop := ∃ e s' h', Runs K f n none c s h e s' h' ∧ Q e s' h'
section
variable {K : Ctx} {f n : Nat} {c x y : Code} {s s1 : Fr} {h h1 : Hp} {e : Exit} {Q Q1 : Exit → Fr → Hp → Prop}
theorem RunQ.loop {m : Nat} (I : Nat → Fr → Hp → Prop) (step : ∀ i s h, i < m → I i s h → RunQ K f n c s h fun e s' h' => (e = .normal ∧ I (i + 1) s' h') ∨ (e ≠ .normal ∧ Q e s' h'))
  (stop : ∀ s h, I m s h → RunQ K f n c s h fun e s' h' => e ≠ .normal ∧ Q e s' h') : ∀ (d i : Nat) (s : Fr) (h : Hp), i + d = m → I i s h → RunQ K f n (.loop c) s h Q := by
 intro d
 induction d with
 | zero =>
  intro i s h him hi
  obtain rfl : i = m := by omega
  obtain ⟨e, s', h', r, he, q⟩ := stop s h hi
  exact ⟨e, s', h', aH r he, q⟩
 | succ d ih =>
  intro i s h him hi
  obtain ⟨e, s', h', r, ⟨rfl, q⟩ | ⟨he, q⟩⟩ := step i s h (by omega) hi
  · obtain ⟨e2, s2, h2, r2, q2⟩ := ih (i + 1) s' h' (by omega) q
    exact ⟨e2, s2, h2, Runs.loop r r2, q2⟩
  · exact ⟨e, s', h', aH r he, q⟩
theorem yS {m : Nat} (I : Nat → Fr → Hp → Prop) (start : I 0 s h) (step : ∀ i s h, i < m → I i s h → RunQ K f n c s h fun e s' h' => (e = .normal ∧ I (i + 1) s' h') ∨ (e ≠ .normal ∧ Q e s' h'))
  (stop : ∀ s h, I m s h → RunQ K f n c s h fun e s' h' => e ≠ .normal ∧ Q e s' h') : RunQ K f n (.loop c) s h Q := RunQ.loop I step stop m 0 s h (by omega) start
theorem dU {m b : Nat} (I : Nat → Fr → Hp → Prop) {E R : Fr → Hp → Prop} (start : I 0 s h)
  (step : ∀ i s h, i < m → I i s h → (∃ s' h', Runs K f n none c s h .normal s' h' ∧ I (i + 1) s' h') ∨ (∃ s' h', Runs K f n none c s h .ret s' h' ∧ R s' h') ∨ (∃ s' h', Runs K f n none c s h (.exit b) s' h' ∧ E s' h'))
  (stop : ∀ s h, I m s h → ∃ s' h', Runs K f n none c s h (.exit b) s' h' ∧ E s' h') :
  (∃ s' h', Runs K f n none (.block b (.loop c)) s h .normal s' h' ∧ E s' h') ∨ (∃ s' h', Runs K f n none (.block b (.loop c)) s h .ret s' h' ∧ R s' h') := by
 obtain ⟨e, s', h', r, q⟩ : RunQ K f n (.loop c) s h fun e s' h' => (e = .exit b ∧ E s' h') ∨ (e = .ret ∧ R s' h') := by
  refine yS (m := m) I start (fun i s h hi hI => ?_) (fun s h hI => ?_)
  · rcases step i s h hi hI with ⟨s', h', r, q⟩ | ⟨s', h', r, q⟩ | ⟨s', h', r, q⟩
    · exact ⟨_, _, _, r, .inl ⟨rfl, q⟩⟩
    · exact ⟨_, _, _, r, .inr ⟨by simp, .inr ⟨rfl, q⟩⟩⟩
    · exact ⟨_, _, _, r, .inr ⟨by simp, .inl ⟨rfl, q⟩⟩⟩
  · obtain ⟨s', h', r, q⟩ := stop s h hI
    exact ⟨_, _, _, r, by simp, .inl ⟨rfl, q⟩⟩
 rcases q with ⟨rfl, q⟩ | ⟨rfl, q⟩
 · exact .inl ⟨s', h', aS r, q⟩
 · exact .inr ⟨s', h', aG r, q⟩
theorem qj {m b : Nat} (I : Nat → Fr → Hp → Prop) {E : Fr → Hp → Prop} (start : I 0 s h)
  (step : ∀ i s h, i < m → I i s h → ∃ s' h', Runs K f n none c s h .normal s' h' ∧ I (i + 1) s' h')
  (stop : ∀ s h, I m s h → ∃ s' h', Runs K f n none c s h (.exit b) s' h' ∧ E s' h') :
  ∃ s' h', Runs K f n none (.block b (.loop c)) s h .normal s' h' ∧ E s' h' := by
 rcases dU (R := fun _ _ => False) I start (fun i s h hi hI => .inl (step i s h hi hI)) stop with h | ⟨_, _, _, hf⟩
 · exact h
 · exact hf.elim
end
end Go.CP
namespace Go.CP
variable [LG] [HK] {K : Ctx} {o : Oper} {s s2 : Fr} {h h1 h2 : Hp} {x y z : Operand} {a b c v : CV} {t t' : TypeId} {ops : Array Oper} {l : List Oper}
theorem R1 (hw : bN ops o s = some true) (q : Q1 K o s h v) (rest : RunL K ops l (Fr.putO s o.dst v) h s2 h2) : RunL K ops (o :: l) s h s2 h2 := RunL.op hw q.e rest
theorem Rm (hw : bN ops o s = some true) (ho : o.op = .move x) (hx : ev s x = v) (rest : RunL K ops l (Fr.putO s o.dst v) h s2 h2) : RunL K ops (o :: l) s h s2 h2 := RunL.op hw (aY ho hx).e rest
theorem Ra (hw : bN ops o s = some true) (ho : o.op = .assign x) (hx : ev s x = v) (rest : RunL K ops l (Fr.putO s o.dst v) h s2 h2) : RunL K ops (o :: l) s h s2 h2 := RunL.op hw (pG ho hx).e rest
theorem Rb {op : BinOp} (hw : bN ops o s = some true) (ho : o.op = .binOp op t x y t') (hx : ev s x = a) (hy : ev s y = b) (hr : ac K.P op t a b = some v) (rest : RunL K ops l (Fr.putO s o.dst v) h s2 h2) : RunL K ops (o :: l) s h s2 h2 := RunL.op hw (e9 ho hx hy hr).e rest
abbrev W4 (s : Fr) (a : Nat) (x : CV) (b : Nat) (y : CV) (c : Nat) (z : CV) (d : Nat) (w : CV) : Fr := T.set (T.set (T.set (T.set s a x) b y) c z) d w
abbrev W8 (s : Fr) (a : Nat) (x : CV) (b : Nat) (y : CV) (c : Nat) (z : CV) (d : Nat) (w : CV) (a2 : Nat) (x2 : CV) (b2 : Nat) (y2 : CV) (c2 : Nat) (z2 : CV) (d2 : Nat) (w2 : CV) : Fr := W4 (W4 s a x b y c z d w) a2 x2 b2 y2 c2 z2 d2 w2
abbrev W (s : Fr) (k : Nat) (v : CV) : Fr := T.set s k v
abbrev tt : CV := .bo true
abbrev ff : CV := .bo false
abbrev n0 : CV := .nu .i64 0
section
variable {f n : Nat} {ro : Option Nat} {k1 k2 : Code} {s1 : Fr} {e : Exit}
theorem sq (p : Runs K f n ro k1 s h .normal s1 h1) (q : Runs K f n ro k2 s1 h1 e s2 h2) : Runs K f n ro (.seq k1 k2) s h e s2 h2 := Runs.seq p q
theorem sx (p : Runs K f n ro k1 s h e s1 h1) (he : e ≠ .normal) : Runs K f n ro (.seq k1 k2) s h e s1 h1 := aE p he
theorem cT (i : Nat) (hc : ev s (.tmp i) = .bo true) (p : Runs K f n ro k1 s h e s1 h1) : Runs K f n ro (.cond (.tmp i) k1 k2) s h e s1 h1 := Runs.condT hc p
theorem cF (i : Nat) (hc : ev s (.tmp i) = .bo false) (p : Runs K f n ro k2 s h e s1 h1) : Runs K f n ro (.cond (.tmp i) k1 k2) s h e s1 h1 := Runs.condF hc p
theorem rg {id : Nat} {ops : Array Oper} (p : RunL K ops ops.toList s h s1 h1) : Runs K f n ro (.region id ops false) s h .normal s1 h1 := Runs.region p
theorem sk : Runs K f n ro .skip s h .normal s h := Runs.skip
end
abbrev bq (K : Ctx) := ac K.P
abbrev ty (K : Ctx) := ae K.P
abbrev tz (K : Ctx) := au K.P
end Go.CP
namespace Go.CP
variable [LG] [HK] {K : Ctx} {o : Oper} {s : Fr} {h h1 : Hp} {x lo hi mx : Operand} {u v a b c : CV} {t : TypeId}
section
variable {ops : Array Oper} {l : List Stp} {pd : List Pd} {i : Nat} {s2 : Fr} {h2 : Hp} {keep : List Nat} {cl : Call} {g : Operand} {g0 w : CV} {args : List CV}
theorem RunP.callV (ho : ops[i]? = some o) (hw : bN ops o s = some true) (hop : o.op = .call cl) (hc : cl.callee = .value g) (hg : ev s g = g0) (ha : cl.args.toList.map (ev s) = args) (hC : jQ K g0 args h w h1) (hp : (pd.filter fun p => keep.any (Nat.beq p.i)).all (bQ K.P (Fr.putO s o.dst w) h1) = true) (rest : RunP K ops l (pd.filter fun p => keep.any (Nat.beq p.i)) (Fr.putO s o.dst w) h1 s2 h2) : RunP K ops (.only i keep :: l) pd s h s2 h2 := by
 obtain ⟨N, r⟩ := rest
 unfold jQ at hC
 split at hC
 · obtain ⟨hpr, M, c⟩ := hC
   exact ⟨N + M, fun d fu hd hfu => by simp only [co, ho, hw, gy, hop, hc, hg, ha, hpr, c d fu (by omega) (by omega), hp, r d fu (by omega) (by omega)]⟩
 · obtain ⟨M, c⟩ := hC
   exact ⟨N + M, fun d fu hd hfu => by simp only [co, ho, hw, gy, hop, hc, hg, ha, c d fu (by omega) (by omega), hp, r d fu (by omega) (by omega)]⟩
 · exact hC.elim
end
end Go.CP
