/- The reckoner with memory: regions, code, calls. -/
import Derived.Test.YtommoodcdkjggabGreatDoorCo0
set_option linter.unusedVariables false
namespace Go.CO
variable [HK]

/-- What is called: a function, or a round of a range over a function. -/
inductive Tg where
  | fn (f : FuncId)
  | yl (k : Nat)
abbrev CallX := Tg → List CV → Hp → Option (CV × Hp)
abbrev PrimX := FuncId → List CV → Option CV
def opC (P : Program) (prim : PrimX) (call : CallX) (o : Oper) (e : Operand → CV) (h : Hp) : Option (CV × Hp) := match o.op with
  | .call c => match c.callee with
    | .value g => match e g with
      | .fn f caps => match prim f (c.args.toList.map e ++ caps) with
        | some v => some (v, h)
        | none => call (.fn f) (c.args.toList.map e ++ caps) h
      | .yl k => call (.yl k) (c.args.toList.map e) h
      | _ => none
    | _ => opX P o e h
  | _ => opX P o e h
/-- Is an operation to be carried out? -/
def wantX (ops : Array Oper) (o : Oper) (s : Fr) : Option Bool := match o.guard with
  | none => some true
  | some (j, want) => match ops[j]? with
    | none => none
    | some g => match g.dst with
      | none => none
      | some t => match s.at t with
        | .bo b => some (b == want)
        | .skp => some false
        | _ => none
def listX (P : Program) (prim : PrimX) (call : CallX) (ops : Array Oper) : List Oper → Fr → Hp → Option (Fr × Hp)
  | [], s, h => some (s, h)
  | o :: l, s, h => match wantX ops o s with
    | some true => match opC P prim call o (ev s) h with
      | some (v, h') => listX P prim call ops l (Fr.putO s o.dst v) h'
      | none => none
    | some false => listX P prim call ops l (Fr.putO s o.dst .skp) h
    | none => none

/-! ### Regions whose order is drawn -/
/-- One step: an operation is looked at though others may come before it; or the only one that can come, with those that may still be open behind it. -/
inductive Stp where
  | take (i : Nat)
  | only (i : Nat) (keep : List Nat)
/-- What was looked at: the operation, its value, the block that it lays. -/
structure Pd where
  i : Nat
  o : Oper
  skip : Bool
  c : CV
  lay : Option (Nat × HB)
def allZ (f : CV → CV → Bool) : List CV → List CV → Bool
  | [], [] => true
  | x :: xs, y :: ys => match f x y with
    | true => allZ f xs ys
    | false => false
  | _, _ => false
def ceqF : Nat → CV → CV → Bool
  | 0, _, _ => false
  | d + 1, x, y => match x, y with
    | .undef, .undef => true
    | .skp, .skp => true
    | .bo a, .bo b => a == b
    | .nu k a, .nu k' b => keq k k' && ieq a b
    | .st a, .st b => neqL a b
    | .nilp, .nilp => true
    | .ptr k o, .ptr k' o' => Nat.beq k k' && Nat.beq o o'
    | .nils, .nils => true
    | .sle, .sle => true
    | .sl k o n c, .sl k' o' n' c' => Nat.beq k k' && Nat.beq o o' && Nat.beq n n' && Nat.beq c c'
    | .agg xs, .agg ys => allZ (ceqF d) xs ys
    | .tup xs, .tup ys => allZ (ceqF d) xs ys
    | .fn f xs, .fn g ys => Nat.beq f g && allZ (ceqF d) xs ys
    | .nilf, .nilf => true
    | .mp k, .mp k' => Nat.beq k k'
    | .yl k, .yl k' => Nat.beq k k'
    | .nilm, .nilm => true
    | _, _ => false
def ceq : CV → CV → Bool := ceqF 10
def heq : HB → HB → Bool
  | .cells xs m e, .cells ys m' e' => Nat.beq m m' && Nat.beq e e' && allZ ceq xs ys
  | .ro xs, .ro ys => allZ ceq xs ys
  | .mp [], .mp [] => true
  | _, _ => false
/-- Does it look at memory? -/
def looks (P : Program) (o : Oper) : Bool := match o.op with
  | .load _ _ | .lookup _ _ _ _ | .slice _ _ _ _ _ | .convert _ _ _ => true
  | .call c => match c.argTypes.toList with
    | [t] => match tyk P t with
      | .map _ _ => true
      | _ => false
    | _ => false
  | _ => false
def pdOk (P : Program) (s : Fr) (h : Hp) (p : Pd) : Bool := match p.skip with
  | true => true
  | false => match p.lay with
    | some (k, b) => heq (h.get k) b
    | none => match looks P p.o with
      | false => true
      | true => match qX P p.o (ev s) h with
        | some c => ceq c p.c
        | none => false
def planX (P : Program) (prim : PrimX) (call : CallX) (ops : Array Oper) : List Stp → List Pd → Fr → Hp → Option (Fr × Hp)
  | [], _, s, h => some (s, h)
  | .take i :: l, pd, s, h => match ops[i]? with
    | none => none
    | some o => match wantX ops o s with
      | none => none
      | some false => planX P prim call ops l (⟨i, o, true, .skp, none⟩ :: pd) (Fr.putO s o.dst .skp) h
      | some true => match layX P o (ev s) with
        | some (f, b) => match pd.all (pdOk P s (h.push b)) with
          | true => planX P prim call ops l (⟨i, o, false, f h.n, some (h.n, b)⟩ :: pd) (Fr.putO s o.dst (f h.n)) (h.push b)
          | false => none
        | none => match qX P o (ev s) h with
          | some c => planX P prim call ops l (⟨i, o, false, c, none⟩ :: pd) (Fr.putO s o.dst c) h
          | none => none
  | .only i keep :: l, pd, s, h => match ops[i]? with
    | none => none
    | some o => match wantX ops o s with
      | none => none
      | some false => planX P prim call ops l (pd.filter fun p => keep.any (Nat.beq p.i)) (Fr.putO s o.dst .skp) h
      | some true => match opC P prim call o (ev s) h with
        | some (c, h') => match (pd.filter fun p => keep.any (Nat.beq p.i)).all (pdOk P (Fr.putO s o.dst c) h') with
          | true => planX P prim call ops l (pd.filter fun p => keep.any (Nat.beq p.i)) (Fr.putO s o.dst c) h'
          | false => none
        | none => none
/-- What can come while operation i has not. -/
def reach (ops : Array Oper) (i : Nat) (listed : Array Bool) : Array Bool :=
  (List.range ops.size).foldl (fun R j => if j == i then R else match ops[j]? with
    | some o => if o.after.all (fun e => !Region.binds .any e || R.getD e.on false) then R.setIfInBounds j true else R
    | none => R) listed
/-- Is it all that can come? -/
def reachOk (ops : Array Oper) (i : Nat) (listed R : Array Bool) : Bool :=
  (List.range listed.size).all (fun j => !listed.getD j false || R.getD j false) && (List.range ops.size).all fun j => j == i || match ops[j]? with
    | some o => !(o.after.all fun e => !Region.binds .any e || R.getD e.on false) || R.getD j false
    | none => true
/-- The first one's result is neither read nor written by the second one. -/
def half (ops : Array Oper) (x y : Oper) : Bool := match x.dst with
  | some d => !(y.looksAt ops).contains d && !(y.dst == some d)
  | none => true
def selfOk (ops : Array Oper) (x : Oper) : Bool := match x.dst with
  | some d => !(x.looksAt ops).contains d
  | none => true
/-- Are the steps an order in which the region may be looked at? -/
def planOk (ops : Array Oper) : List Stp → List (Nat × Array Bool) → Array Bool → Bool
  | [], _, listed => (Region.ready .any ops listed).isEmpty
  | .take i :: l, pd, listed => (Region.ready .any ops listed).contains i && (match ops[i]? with
      | some o => selfOk ops o && reachOk ops i listed (reach ops i listed) && pd.all (fun p => match ops[p.1]? with
        | some q => half ops o q && (!p.2.getD i false || half ops q o)
        | none => false)
      | none => false) && planOk ops l ((i, reach ops i listed) :: pd) (listed.setIfInBounds i true)
  | .only i keep :: l, pd, listed => Region.ready .any ops listed == [i] && (match ops[i]? with
      | some o => pd.all (fun p => match ops[p.1]? with
        | some q => if keep.any (Nat.beq p.1) then half ops q o && half ops o q else !p.2.getD i false
        | none => false)
      | none => false) && planOk ops l (pd.filter fun p => keep.any (Nat.beq p.1)) (listed.setIfInBounds i true)

/-! ### Calls whose result is known -/
mutual
/-- A value with what it reaches. -/
inductive DV where
  | c (v : CV)
  | sl (n : Nat) (l : DL)
  | p (l : DL)
  | agg (l : DL)
  | e
inductive DL where
  | nil
  | cons (d : DV) (l : DL)
end
def flatV : CV → Bool
  | .bo _ | .nu _ _ | .st _ | .nilp | .nils | .nilf | .nilm => true
  | _ => false
/-- A result without memory. -/
def flatR : CV → Bool
  | .tup cs => cs.all flatV
  | v => flatV v
def hbCells (o : Nat) : HB → Option (List CV)
  | .cells cs _ _ => some (cs.drop o)
  | .ro cs => some (cs.drop o)
  | .kp cs _ _ => some (cs.drop o)
  | .fz cs => some (cs.drop o)
  | _ => none
mutual
/-- Does a value reach just this? -/
def dm (h : Hp) : DV → CV → Bool
  | .c v, x => flatV v && ceq v x
  | .sl n l, x => match x with
    | .sl k o n' c => Nat.beq n n' && Nat.ble n c && match hbCells o (h.get k) with
      | some cs => dml h l cs
      | none => false
    | _ => false
  | .p l, x => match x with
    | .ptr k o => match hbCells o (h.get k) with
      | some cs => dml h l cs
      | none => false
    | _ => false
  | .agg l, x => match x with
    | .agg cs => dmx h l cs
    | _ => false
  | .e, x => match x with
    | .sle => true
    | .sl _ _ n _ => Nat.beq n 0
    | _ => false
def dml (h : Hp) : DL → List CV → Bool
  | .nil, _ => true
  | .cons d l, x :: xs => dm h d x && dml h l xs
  | .cons _ _, [] => false
def dmx (h : Hp) : DL → List CV → Bool
  | .nil, [] => true
  | .cons d l, x :: xs => dm h d x && dmx h l xs
  | _, _ => false
end
mutual
/-- It laid anew, to be read only. -/
def lay : DV → Hp → CV × Hp
  | .c v, h => (v, h)
  | .sl n l, h => match layL l h with
    | (vs, h') => (.sl h'.n 0 n n, h'.push (.ro vs))
  | .p l, h => match layL l h with
    | (vs, h') => (.ptr h'.n 0, h'.push (.ro vs))
  | .agg l, h => match layL l h with
    | (vs, h') => (.agg vs, h')
  | .e, h => (.sle, h)
def layL : DL → Hp → List CV × Hp
  | .nil, h => ([], h)
  | .cons d l, h => match lay d h with
    | (v, h1) => match layL l h1 with
      | (vs, h2) => (v :: vs, h2)
end
def memoX (h : Hp) (args : List CV) : List (DL × CV) → Option CV
  | [] => none
  | (ds, r) :: l => match dmx h ds args with
    | true => some r
    | false => memoX h args l

/-! ### Code -/
structure Env where
  plan : FuncId → Nat → Option (List Stp)
  prim : PrimX
  memo : FuncId → List (DL × CV)
  fuel : Nat
/-- Where a frame keeps the marks of the ranges over functions that it has begun. -/
def slot : Nat := 65535
def ylK : CV → Nat
  | .yl k => k
  | _ => 0
def marks : CV → List Nat
  | .tup cs => cs.map ylK
  | _ => []
def addMark (k : Nat) : CV → CV
  | .tup cs => .tup (.yl k :: cs)
  | _ => .tup [.yl k]
/-- The record of a range is laid, and, if it is no round's, the place for calls that are put off. -/
def enterX (ro : Option Nat) (f n : Nat) (ps : Array Tmp) (as bd : Code) (s : Fr) (h : Hp) : Option (Fr × Hp) := match ro with
  | none => some (T.set s slot (addMark h.n (s.at slot)), (h.push .df).push (.lp ⟨.ready, none, s, f, n, ps, as, bd⟩))
  | some l => match h.get l with
    | .lp _ => some (s, h.push (.lp ⟨.ready, none, s, f, n, ps, as, bd⟩))
    | _ => none
def jumpC : Option Code → Bool
  | none | some .ret | some (.exit _) | some (.goto _) => true
  | _ => false
/-- The range is over. -/
def leaveX (l : Nat) (h : Hp) : Option (Option Code × Hp) := match h.get l with
  | .lp r => match r.st with
    | .busy => none
    | _ => match jumpC r.pend with
      | true => some (r.pend, h.set l (.lp ⟨.exhausted, r.pend, r.s, r.f, r.n, r.ps, r.as, r.bd⟩))
      | false => none
  | _ => none
section
variable (P : Program) (prim : PrimX) (call : CallX) (pl : Nat → Option (List Stp)) (f n : Nat) (ro : Option Nat)
def codeX : Nat → Code → Fr → Hp → Option (Exit × Fr × Hp)
  | 0, _, _, _ => none
  | k + 1, c, s, h => match c with
    | .skip => some (.normal, s, h)
    | .label _ => some (.normal, s, h)
    | .exit id => some (.exit id, s, h)
    | .goto i => some (.goto i, s, h)
    | .ret => some (.ret, s, h)
    | .seq x y => match codeX k x s h with
      | some (.normal, s', h') => codeX k y s' h'
      | r => r
    | .cond c x y => match ev s c with
      | .bo true => codeX k x s h
      | .bo false => codeX k y s h
      | _ => none
    | .block id c => match codeX k c s h with
      | some (.exit i, s', h') => match Nat.beq i id with
        | true => some (.normal, s', h')
        | false => some (.exit i, s', h')
      | r => r
    | .scope c => match codeX k c s h with
      | some (.goto _, _) => none
      | r => r
    | .loop c => match codeX k c s h with
      | some (.normal, s', h') => codeX k (.loop c) s' h'
      | r => r
    | .region id ops true => match pl id with
      | some p => match planX P prim call ops p [] s h with
        | some (s', h') => some (.normal, s', h')
        | none => none
      | none => none
    | .region id ops false => match listX P prim call ops ops.toList s h with
      | some (s', h') => some (.normal, s', h')
      | none => none
    | .rangeFunc g ps as bd => match ev s g with
      | .fn f' caps => match enterX ro f n ps as bd s h with
        | some (s', h') => match call (.fn f') (.yl (h'.n - 1) :: caps) h' with
          | some (_, h1) => match leaveX (h'.n - 1) h1 with
            | some (none, h2) => some (.normal, s', h2)
            | some (some c, h2) => codeX k c s' h2
            | none => none
          | none => none
        | none => none
      | _ => none
    | _ => none
end
def resX (P : Program) (s : Fr) (h : Hp) : List ResultVar → Option (List CV)
  | [] => some []
  | .tmp t :: l => match resX P s h l with
    | some vs => some (s.at t :: vs)
    | none => none
  | .cell a t :: l => match s.at a, tsz P t with
    | .ptr k o, some (n, g) => match hbVal o n g (h.get k), resX P s h l with
      | some v, some vs => some (v :: vs)
      | _, _ => none
    | _, _ => none
def packR : List CV → CV
  | [p] => p
  | ps => .tup ps
def entry : Nat → List CV → Fr
  | _, [] => .lf
  | i, p :: l => T.set (entry (i + 1) l) i p
/-- The places that a frame has laid are shut. -/
def shutX : List Nat → Hp → Option Hp
  | [], h => some h
  | k :: l, h => match h.get k with
    | .df => shutX l (h.set k .dead)
    | _ => none
def endsX (P : Program) (fn : Func) (h : Hp) : Option (Exit × Fr × Hp) → Option (CV × Hp)
  | some (e, s, h') => match e with
    | .normal | .ret => match Nat.ble h.n h'.n with
      | true => match shutX (marks (s.at slot)) h' with
        | some h2 => match resX P s h2 fn.results.toList with
          | some vs => some (packR vs, h2)
          | none => none
        | none => none
      | false => none
    | _ => none
  | none => none
def bodyX (P : Program) (E : Env) (call : CallX) (f : FuncId) (args : List CV) (h : Hp) : Option (CV × Hp) := match P.funcs[f]? with
    | none => none
    | some fn => match fn.body with
      | some c => match Nat.ble args.length fn.ntmps with
        | true => endsX P fn h (codeX P E.prim call (E.plan f) f fn.ntmps none E.fuel c (entry 0 args) h)
        | false => none
      | none => none
/-- The loop's variables. -/
def putAll : Fr → List Tmp → List CV → Option Fr
  | s, [], [] => some s
  | s, t :: ts, c :: cs => putAll (T.set s t c) ts cs
  | _, _, _ => none
def beginX (k : Nat) (h : Hp) : Option Hp := match h.get k with
  | .lp r => match r.st with
    | .ready => some (h.set k (.lp ⟨.busy, r.pend, r.s, r.f, r.n, r.ps, r.as, r.bd⟩))
    | _ => none
  | _ => none
def jumpX : Exit → Option (Option Code)
  | .normal => some none
  | .ret => some (some .ret)
  | .exit id => some (some (.exit id))
  | .goto t => some (some (.goto t))
  | _ => none
def endX (k : Nat) (e : Exit) (h : Hp) : Option (CV × Hp) := match h.get k with
  | .lp r => match jumpX e with
    | some none => some (.bo true, h.set k (.lp ⟨.ready, none, r.s, r.f, r.n, r.ps, r.as, r.bd⟩))
    | some (some c) => some (.bo false, h.set k (.lp ⟨.done, some c, r.s, r.f, r.n, r.ps, r.as, r.bd⟩))
    | none => none
  | _ => none
/-- A round. -/
def roundX (P : Program) (E : Env) (call : CallX) (k : Nat) (args : List CV) (h : Hp) : Option (CV × Hp) := match h.get k with
  | .lp r => match putAll (T.set r.s slot .undef) r.ps.toList args with
    | some s0 => match codeX P E.prim call (E.plan r.f) r.f r.n (some k) E.fuel r.as s0 h with
      | some (.normal, s1, h1) => match beginX k h1 with
        | some h2 => match codeX P E.prim call (E.plan r.f) r.f r.n (some k) E.fuel r.bd s1 h2 with
          | some (e, _, h3) => match Nat.ble h.n h3.n with
            | true => endX k e h3
            | false => none
          | none => none
        | none => none
      | _ => none
    | none => none
  | _ => none
def callX (P : Program) (E : Env) : Nat → CallX
  | 0, _, _, _ => none
  | d + 1, .fn f, args, h => match memoX h args (E.memo f) with
    | some r => some (r, h)
    | none => bodyX P E (callX P E d) f args h
  | d + 1, .yl k, args, h => roundX P E (callX P E d) k args h
def h0 : Hp := ⟨0, .lf⟩
/-- The call on arguments that are laid. -/
def runX (P : Program) (E : Env) (d : Nat) (f : FuncId) (ds : DL) : Option CV := match layL ds h0 with
  | (args, h) => match bodyX P E (callX P E d) f args h with
    | some (r, _) => match flatR r with
      | true => some r
      | false => none
    | none => none
end Go.CO
