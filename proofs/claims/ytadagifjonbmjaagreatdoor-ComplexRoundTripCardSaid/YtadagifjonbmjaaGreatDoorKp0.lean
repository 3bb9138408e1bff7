import Derived.Control
import Derived.Calls
import Derived.Wp
import Derived.Orders
import Derived.Scope
import Derived.Laws.MakeOwn
import Derived.Laws.Strings
import Derived.Laws.StructEq
import Derived.ChangeKeysEq
set_option linter.all false
namespace Go.CP
inductive CV where
 | undef
 | skp
 | bo (x : Bool)
 | nu (k : IntKind) (n : Int)
 | st (s : List Nat)
 | nilp
 | ptr (k o : Nat)
 | nils
 | sle
 | sl (k o n c : Nat)
 | agg (cs : List CV)
 | tup (cs : List CV)
 | fn (f : FuncId) (cs : List CV)
 | nilf
 | mp (k : Nat)
 | nilm
 | yl (k : Nat)
 deriving Inhabited
namespace CV
def cells : CV → List CV
 | .agg cs => cs
 | p => [p]
def one : CV → Bool
 | .undef | .skp | .agg _ | .tup _ => false
 | _ => true
def sol (p : CV) : Bool := p.cells.all one
def isAgg : CV → Bool
 | .agg _ => true
 | _ => false
end CV
inductive Ix where
 | e
 | l (p : Ix)
 | r (p : Ix)
 deriving DecidableEq
def Bc : Nat → Nat → Ix
 | 0, _ => .e
 | f + 1, k => match Nat.beq k 0 with
  | true => .e
  | false => match Nat.beq (k % 2) 1 with
   | true => .l (Bc f (k / 2))
   | false => .r (Bc f (k / 2 - 1))
def ix (k : Nat) : Ix := Bc (k + 1) k
inductive T (α : Type) where
 | lf
 | nd (v : Option α) (l r : T α)
def T.vl {α : Type} : T α → Option α
 | .lf => none
 | .nd v _ _ => v
def T.lt {α : Type} : T α → T α
 | .lf => .lf
 | .nd _ l _ => l
def T.rt {α : Type} : T α → T α
 | .lf => .lf
 | .nd _ _ r => r
def T.at {α : Type} : Ix → T α → Option α
 | .e, t => t.vl
 | .l p, t => T.at p t.lt
 | .r p, t => T.at p t.rt
def T.put {α : Type} (x : α) : Ix → T α → T α
 | .e, t => .nd (some x) t.lt t.rt
 | .l p, t => .nd t.vl (T.put x p t.lt) t.rt
 | .r p, t => .nd t.vl t.lt (T.put x p t.rt)
def T.get {α : Type} (t : T α) (k : Nat) : Option α := T.at (ix k) t
def T.set {α : Type} (t : T α) (k : Nat) (x : α) : T α := T.put x (ix k) t
structure Lp where
 st : LoopState
 pend : Option Code
 s : T CV
 f : Nat
 n : Nat
 ps : Array Tmp
 as : Code
 bd : Code
inductive HB where
 | cells (cs : List CV) (aP e : Nat)
 | ro (cs : List CV)
 | mp (es : List (CV × CV))
 | kp (cs ys : List CV) (aP : Nat)
 | fz (cs : List CV)
 | df
 | lp (r : Lp)
 | mi (es : List (CV × CV)) (bs : List Nat) (clock : Nat)
 | it (m since : Nat) (seen : List Nat) (c0 : Nat)
 | dead
structure Hp where
 n : Nat
 t : T HB
def Hp.get (h : Hp) (k : Nat) : HB := match h.t.get k with
 | some b => b
 | none => .dead
def Hp.push (h : Hp) (b : HB) : Hp := ⟨h.n + 1, h.t.set h.n b⟩
def Hp.set (h : Hp) (k : Nat) (b : HB) : Hp := ⟨h.n, h.t.set k b⟩
abbrev Fr := T CV
def Fr.at (s : Fr) (t : Nat) : CV := match s.get t with
 | some p => p
 | none => .undef
def Fr.putO (s : Fr) (d : Option Tmp) (p : CV) : Fr := match d with
 | some d => s.set d p
 | none => s
def eU : Value → CV
 | .bool b => .bo b
 | .int k n => .nu k n
 | .string s => .st (s.data.toList.map (·.toNat))
 | .pointer none => .nilp
 | .slice none 0 0 => .nils
 | .map none => .nilm
 | .nilFunc => .nilf
 | _ => .undef
def ofValue : Value → CV
 | .agg cs => .agg (cs.toList.map eU)
 | v => eU v
def ev (s : Fr) : Operand → CV
 | .tmp t => s.at t
 | .const v => ofValue v
 | .global _ => .undef
 | .func f => .fn f []
inductive cH where
 | int (k : IntKind)
 | bool
 | str
 | slice (e esz bytes : Nat) (zero : List CV)
 | strct (fs : List (Nat × Nat × Bool)) (zero : List CV)
 | arr (n e esz : Nat) (agg : Bool) (zero : List CV)
 | ptr (e : Nat)
 | map (key elem : Nat)
 | uptr
 | other
def lY (P : Program) (t : TypeId) : Bool := match P.underlying t with
 | some (.struct _) | some (.array _ _) => true
 | _ => false
def bM (v : Value) : List CV := v.cells.toList.map eU
def ae (P : Program) (t : TypeId) : cH := match P.underlying t with
 | some (.int k) => .int k
 | some .bool => .bool
 | some .string => .str
 | some (.slice e) => match P.info? e, P.underlying e with
  | some i, some _ => match i.zero with
   | some z => .slice e i.size i.bytes (bM z)
   | none => .other
  | _, _ => .other
 | some (.struct fs) => match P.info? t with
  | some i => match i.zero with
   | some z => if fs.toList.all (fun f => (P.info? f.type).isSome && (P.underlying f.type).isSome && P.cellsOf f.type != 0) then .strct (fs.toList.map fun f => (f.offset, P.cellsOf f.type, lY P f.type)) (bM z) else .other
   | none => .other
  | none => .other
 | some (.array n e) => match P.info? e, P.underlying e, P.info? t with
  | some i, some _, some j => match j.zero with
   | some z => .arr n e i.size (lY P e) (bM z)
   | none => .other
  | _, _, _ => .other
 | some (.pointer e) => .ptr e
 | some (.map k e) => .map k e
 | some .unsafePointer => .uptr
 | _ => .other
def ar (P : Program) (t : TypeId) : Option (Nat × Bool) := match P.info? t, P.underlying t with
 | some i, some _ => some (i.size, lY P t)
 | _, _ => none
def dh (P : Program) (t : TypeId) : Option CV := match P.info? t with
 | some i => match i.zero with
  | some z => some (ofValue z)
  | none => none
 | none => none
def cI : Int → Int → Bool
 | .ofNat a, .ofNat b => Nat.ble a b
 | .ofNat _, .negSucc _ => false
 | .negSucc _, .ofNat _ => true
 | .negSucc a, .negSucc b => Nat.ble b a
def dT : Int → Int → Bool
 | .ofNat a, .ofNat b => Nat.beq a b
 | .negSucc a, .negSucc b => Nat.beq a b
 | _, _ => false
def mT : IntKind → IntKind → Bool
 | .i8, .i8 | .i16, .i16 | .i32, .i32 | .i64, .i64 | .u8, .u8 | .u16, .u16 | .u32, .u32 | .u64, .u64 => true
 | _, _ => false
def vn (k : IntKind) (n : Int) : Int := match n with
 | .ofNat a => match k with
  | .i64 => bif Nat.blt a 9223372036854775808 then n else k.wrap n
  | .u64 => bif Nat.blt a 18446744073709551616 then n else k.wrap n
  | .u32 => bif Nat.blt a 4294967296 then n else k.wrap n
  | .u8 => bif Nat.blt a 256 then n else k.wrap n
  | _ => k.wrap n
 | .negSucc a => match k with
  | .i64 => bif Nat.blt a 9223372036854775808 then n else k.wrap n
  | _ => k.wrap n
def gu (k : IntKind) (n : Int) : CV := .nu k (vn k n)
def Bd : List Nat → List Nat → Bool
 | [], [] => false
 | [], _ :: _ => true
 | _ :: _, [] => false
 | a :: x, b :: y => bif Nat.blt a b then true else bif Nat.beq a b then Bd x y else false
def eJ : List Nat → List Nat → Bool
 | [], [] => true
 | a :: x, b :: y => match Nat.beq a b with
  | true => eJ x y
  | false => false
 | _, _ => false
def kZ (op : BinOp) : CV → CV → Option CV
 | .nu k x, .nu k' y => match op with
  | .shl => match y with
   | .ofNat a => some (gu k (x * 2 ^ (min a k.bits)))
   | _ => none
  | .shr => match y with
   | .ofNat a => some (.nu k (x.fdiv (2 ^ (min a k.bits))))
   | _ => none
  | _ => match mT k k' with
   | false => none
   | true => match op with
    | .add => some (gu k (x + y))
    | .sub => some (gu k (x - y))
    | .mul => some (gu k (x * y))
    | .quo => match dT y 0 with
     | true => none
     | false => some (gu k (x.tdiv y))
    | .rem => match dT y 0 with
     | true => none
     | false => some (.nu k (x.tmod y))
    | .eql => some (.bo (dT x y))
    | .neq => some (.bo (!(dT x y)))
    | .lss => some (.bo (!(cI y x)))
    | .leq => some (.bo (cI x y))
    | .gtr => some (.bo (!(cI x y)))
    | .geq => some (.bo (cI y x))
    | _ => none
 | .st x, .st y => match op with
  | .add => match Nat.ble (x.length + y.length) 9223372036854775807 with
   | true => some (.st (x ++ y))
   | false => none
  | .eql => some (.bo (eJ x y))
  | .neq => some (.bo (!(eJ x y)))
  | .lss => some (.bo (Bd x y))
  | .gtr => some (.bo (Bd y x))
  | _ => none
 | _, _ => none
def ja : CV → CV → Option Bool
 | .nu k x, .nu k' y => match mT k k' with
  | true => some (dT x y)
  | false => none
 | .st x, .st y => some (eJ x y)
 | .bo x, .bo y => some (x == y)
 | _, _ => none
def cD : List CV → List CV → Option Bool
 | [], [] => some true
 | a :: x, b :: y => match ja a b with
  | some true => cD x y
  | some false => some false
  | none => none
 | _, _ => none
def cV : cH → Bool
 | .int _ | .str | .bool => true
 | _ => false
def fm (P : Program) (t : TypeId) (p : CV) : Bool := match ae P t with
 | .int _ => match p with
  | .nu _ _ => true
  | _ => false
 | .str => match p with
  | .st _ => true
  | _ => false
 | .bool => match p with
  | .bo _ => true
  | _ => false
 | _ => false
def la (P : Program) : List Field → List CV → List CV → Option Bool
 | [], _, _ => some true
 | f :: l, xs, ys => match f.name == "_" with
  | true => none
  | false => match xs[f.offset]?, ys[f.offset]? with
   | some a, some b => match fm P f.type a with
    | true => match ja a b with
     | some true => la P l xs ys
     | some false => some false
     | none => none
    | false => none
   | _, _ => none
def Jm (P : Program) (t : TypeId) (xs ys : List CV) : Option TypeDesc → Option Bool
 | some (.struct fs) => match P.stoodInHeld t with
  | true => none
  | false => match fs.toList.all (fun f => cV (ae P f.type)) with
   | true => la P fs.toList xs ys
   | false => none
 | _ => none
def FX (sz : Option (Nat × Bool)) : CV → CV → Option Bool
 | .nilp, .nilp => some true
 | .nilp, .ptr _ _ => some false
 | .ptr _ _, .nilp => some false
 | .ptr k o, .ptr k' o' => match sz with
  | some (n, _) => match !(Nat.beq n 0) && Nat.beq k k' with
   | true => some (Nat.beq o o')
   | false => none
  | none => none
 | _, _ => none
def kz (P : Program) (t : TypeId) (p q : CV) : Option Bool := match ae P t with
 | .bool => match p, q with
  | .bo x, .bo y => some (x == y)
  | _, _ => none
 | .slice _ _ _ _ => match p, q with
  | .nils, .nils => some true
  | .nils, .sl _ _ _ _ => some false
  | .nils, .sle => some false
  | .sl _ _ _ _, .nils => some false
  | .sle, .nils => some false
  | _, _ => none
 | .arr n e esz _ _ => match p, q with
  | .agg xs, .agg ys => match cV (ae P e) && xs.all (fm P e) && Nat.beq esz 1 && Nat.beq xs.length n && Nat.beq ys.length n with
   | true => cD xs ys
   | false => none
  | _, _ => none
 | .strct _ _ => match p, q with
  | .agg xs, .agg ys => Jm P t xs ys (P.underlying t)
  | _, _ => none
 | .ptr el => FX (ar P el) p q
 | _ => none
def ab (P : Program) (op : BinOp) (t : TypeId) (p q : CV) : Option CV := match kZ op p q with
 | some v => some v
 | none => match op with
  | .eql => match kz P t p q with
   | some b => some (.bo b)
   | none => none
  | .neq => match kz P t p q with
   | some b => some (.bo (!b))
   | none => none
  | _ => none
def dC (op : UnOp) : CV → Option CV
 | .nu k n => match op with
  | .neg => some (gu k (0 - n))
  | _ => none
 | .bo b => match op with
  | .not => some (.bo (!b))
  | _ => none
 | _ => none
def setAt {α : Type} : List α → Nat → List α → List α
 | cs, _, [] => cs
 | [], _, _ => []
 | c :: cs, 0, x :: xs => x :: setAt cs 0 xs
 | c :: cs, o + 1, xs => c :: setAt cs o xs
def sub (cs : List CV) (o n : Nat) : List CV := (cs.drop o).take n
def dN (z : List CV) : Nat → List CV
 | 0 => []
 | n + 1 => z ++ dN z n
def qm (fs : List (Nat × Nat × Bool)) : List CV → List (Nat × CV) → Option (List CV)
 | cs, [] => some cs
 | cs, (i, p) :: rest => match fs[i]? with
  | none => none
  | some (off, size, _) => match Nat.beq p.cells.length size && Nat.ble (off + size) cs.length with
   | true => qm fs (setAt cs off p.cells) rest
   | false => none
def lZ (esz : Nat) : List CV → List (Nat × CV) → Option (List CV)
 | cs, [] => some cs
 | cs, (i, p) :: rest => match Nat.beq p.cells.length esz && Nat.ble (i * esz + esz) cs.length with
  | true => lZ esz (setAt cs (i * esz) p.cells) rest
  | false => none
def val (cs : List CV) (o n : Nat) (agg : Bool) : Option CV := match Nat.ble (o + n) cs.length with
 | false => none
 | true => match agg with
  | true => some (.agg (sub cs o n))
  | false => match Nat.beq n 1 with
   | true => cs[o]?
   | false => none
def dP : CV → CV → Option Bool
 | .agg xs, .agg ys => cD xs ys
 | x, y => ja x y
def bX (key : CV) : List (CV × CV) → Option (Option CV)
 | [] => some none
 | (k, v) :: es => match dP key k with
  | some true => some (some v)
  | some false => bX key es
  | none => none
def fX (key v : CV) : List (CV × CV) → Option (List (CV × CV))
 | [] => some [(key, v)]
 | (k, u) :: es => match dP key k with
  | some true => some ((k, v) :: es)
  | some false => match fX key v es with
   | some es' => some ((k, u) :: es')
   | none => none
  | none => none
def fY (P : Program) : List Field → Nat → List CV → Bool
 | [], _, [] => true
 | f :: fs, j, c :: cs => Nat.beq f.offset j && !(f.name == "_") && cV (ae P f.type) && fm P f.type c && fY P fs (j + 1) cs
 | _, _, _ => false
def D2 (P : Program) (t : TypeId) (cs : List CV) : Option TypeDesc → Bool
 | some (.struct fs) => !(P.stoodInHeld t) && fY P fs.toList 0 cs
 | _ => false
def kA (P : Program) (t : TypeId) (p : CV) : Bool := match ae P t with
 | .int _ => match p with
  | .nu _ _ => true
  | _ => false
 | .str => match p with
  | .st _ => true
  | _ => false
 | .arr n e esz _ _ => match p, ae P e with
  | .agg cs, .int k => Nat.beq esz 1 && Nat.beq cs.length n && cs.all fun c => match c with
   | .nu k' _ => mT k k'
   | _ => false
  | _, _ => false
 | .strct _ _ => match p with
  | .agg cs => D2 P t cs (P.underlying t)
  | _ => false
 | _ => false
def bl (o n : Nat) : HB → Option (List CV)
 | .cells cs _ _ => match Nat.ble (o + n) cs.length with
  | true => some (sub cs o n)
  | false => none
 | .ro cs => match Nat.ble (o + n) cs.length with
  | true => some (sub cs o n)
  | false => none
 | .kp cs _ _ => match Nat.ble (o + n) cs.length with
  | true => some (sub cs o n)
  | false => none
 | .fz cs => match Nat.ble (o + n) cs.length with
  | true => some (sub cs o n)
  | false => none
 | _ => none
def cellsOf (h : Hp) (esz : Nat) : CV → Option (List CV)
 | .nils => some []
 | .sle => some []
 | .sl k o n _ => match Nat.beq n 0 with
  | true => some []
  | false => bl o (n * esz) (h.get k)
 | _ => none
def fI (e : Operand → CV) (x : Option Operand) (d : Nat) : Option Nat := match x with
 | none => some d
 | some x => match e x with
  | .nu _ (.ofNat n) => some n
  | _ => none
abbrev Lay := (Nat → CV) × HB
def fN (t : Nat) : Option CV → Option Lay
 | some z => some (fun k => .ptr k 0, .cells z.cells 0 t)
 | none => none
def fK (t : Nat) (x : CV) : Option (Nat × Bool) → Option Lay
 | some (n, a) => match x.sol && Nat.beq x.cells.length n with
  | true => some (fun k => .ptr k 0, .cells x.cells 0 t)
  | false => none
 | none => none
def aL (len : Nat) (parts : List (Nat × CV)) : cH → Option Lay
 | .slice el esz _ z => match Nat.beq z.length esz && Nat.ble (len * esz) 16777216 && parts.all (fun p => p.2.sol) with
  | true => match lZ esz (dN z len) parts with
   | some cs => some (fun k => .sl k 0 len len, .cells cs 0 el)
   | none => none
  | false => none
 | _ => none
def ma (l c : CV) : cH → Option Lay
 | .slice el esz bytes z => match l with
  | .nu _ (.ofNat l) => match c with
   | .nu _ (.ofNat c) => match Nat.beq z.length esz && Nat.ble l c && Nat.ble (c * bytes) 140737488355328 && Nat.ble c 9223372036854775807 with
    | true => some (fun k => .sl k 0 l c, .cells (dN z c) 0 el)
    | false => none
   | _ => none
  | _ => none
 | _ => none
def fO (P : Program) (x : CV) : cH → cH → Option Lay
 | .str, .slice el _ _ _ => match x with
  | .st s => match ae P el with
   | .int .u8 => some (fun k => .sl k 0 s.length s.length, .ro (s.map fun c => .nu .u8 (.ofNat c)))
   | _ => none
  | _ => none
 | _, _ => none
def bA (P : Program) (o : Oper) (e : Operand → CV) : Option Lay := match o.op with
 | .alloc t => fN t (dh P t)
 | .box t x => fK t (e x) (ar P t)
 | .buildSlice t len parts => aL len (parts.toList.map fun p => (p.1, e p.2)) (ae P t)
 | .makeSlice t l c => ma (e l) (e c) (ae P t)
 | .makeMap t none => some (fun k => .mp k, .mp [])
 | .convert src dst x => fO P (e x) (ae P src) (ae P dst)
 | _ => none
def aA (a b : CV) : CV → Option CV
 | .bo true => some a
 | .bo false => some b
 | _ => none
def vK (parts : List (Nat × CV)) (t : cH) : Option CV := match parts.all (fun p => p.2.sol) with
 | false => none
 | true => match t with
  | .strct fs z => match qm fs z parts with
   | some cs => some (.agg cs)
   | none => none
  | .arr n _ esz _ z => match lZ esz z parts with
   | some cs => some (.agg cs)
   | none => none
  | _ => none
def eK (o n : Nat) (a : Bool) : HB → Option CV
 | .cells cs _ _ => val cs o n a
 | .ro cs => val cs o n a
 | .kp cs _ _ => val cs o n a
 | .fz cs => val cs o n a
 | _ => none
def ap (h : Hp) (x : CV) : Option (Nat × Bool) → Option CV
 | some (n, a) => match x with
  | .ptr k o => eK o n a (h.get k)
  | _ => none
 | none => none
def mb : CV → Option CV
 | .ptr k o => some (.ptr k o)
 | .fn f cs => some (.fn f cs)
 | .yl k => some (.yl k)
 | _ => none
def cK (f : Nat) (x : CV) : cH → Option CV
 | .strct fs _ => match x with
  | .ptr k o => match fs[f]? with
   | some (off, _, _) => some (.ptr k (o + off))
   | none => none
  | _ => none
 | _ => none
def vL (f : Nat) (x : CV) : cH → Option CV
 | .strct fs _ => match x with
  | .agg cs => match fs[f]? with
   | some (off, size, a) => val cs off size a
   | none => none
  | _ => none
 | _ => none
def tM (k o n esz : Nat) : CV → Option CV
 | .nu _ (.ofNat i) => match Nat.blt i n with
  | true => some (.ptr k (o + i * esz))
  | false => none
 | _ => none
def ai (x i : CV) : cH → Option CV
 | .slice _ esz _ _ => match x with
  | .sl k o n _ => tM k o n esz i
  | _ => none
 | .arr n _ esz _ _ => match x with
  | .ptr k o => tM k o n esz i
  | _ => none
 | _ => none
def bC (x i : CV) : cH → Option CV
 | .str => match x with
  | .st s => match i with
   | .nu _ (.ofNat i) => match s[i]? with
    | some c => some (.nu .u8 (.ofNat c))
    | none => none
   | _ => none
  | _ => none
 | _ => none
def fg (cs : List CV) (aP o c : Nat) : Bool := Nat.beq aP 0 || !(Nat.beq (o + c * aP) cs.length)
def dU (s : List Nat) : Option Nat → Option Nat → Option CV
 | some a, some b => match Nat.ble a b && Nat.ble b s.length with
  | true => some (.st ((s.drop a).take (b - a)))
  | false => none
 | _, _ => none
def gl (k o c : Nat) : HB → Option CV
 | .cells cs aP _ => match fg cs aP o c with
  | true => some (.sl k o 0 0)
  | false => some .sle
 | .ro _ => some .sle
 | _ => none
def vM (esz : Nat) : HB → Bool
 | .cells _ aP _ => Nat.beq aP 0 || Nat.beq aP esz
 | .ro _ => true
 | _ => false
def eb (h : Hp) (esz k o c : Nat) : Option Nat → Option Nat → Option CV
 | some a, some b => match Nat.ble a b && Nat.ble b c with
  | true => match Nat.blt a c with
   | true => match vM esz (h.get k) with
    | true => some (.sl k (o + a * esz) (b - a) (c - a))
    | false => none
   | false => gl k o c (h.get k)
  | false => none
 | _, _ => none
def kB : Option Nat → Option Nat → Option CV
 | some a, some b => match Nat.beq a 0 && Nat.beq b 0 with
  | true => some .nils
  | false => none
 | _, _ => none
def FY : HB → Bool
 | .cells _ aP _ => Nat.beq aP 0
 | .ro _ => true
 | _ => false
def nk (h : Hp) (n esz k o : Nat) : Option Nat → Option Nat → Option CV
 | some a, some b => match Nat.ble a b && Nat.ble b n && FY (h.get k) with
  | true => match Nat.blt a n with
   | true => some (.sl k (o + a * esz) (b - a) (n - a))
   | false => some (.sl k o 0 0)
  | false => none
 | _, _ => none
def iB (e : Operand → CV) (lo hi : Option Operand) (h : Hp) (x : CV) : cH → Option CV
 | .str => match x with
  | .st s => dU s (fI e lo 0) (fI e hi s.length)
  | _ => none
 | .slice _ esz _ _ => match x with
  | .nils => kB (fI e lo 0) (fI e hi 0)
  | .sl k o n c => eb h esz k o c (fI e lo 0) (fI e hi n)
  | _ => none
 | .arr n _ esz _ _ => match x with
  | .ptr k o => nk h n esz k o (fI e lo 0) (fI e hi n)
  | _ => none
 | _ => none
def jv (e : Operand → CV) (lo hi : Option Operand) (mx : Operand) (x : CV) : cH → Option CV
 | .slice _ _ _ _ => match x with
  | .sl _ _ _ c => match hi with
   | some hh => match fI e lo 0 with
    | some a => match fI e (some hh) 0 with
     | some b => match fI e (some mx) 0 with
      | some m => match Nat.ble a b && Nat.ble b m && Nat.ble m c with
       | true => some .undef
       | false => none
      | none => none
     | none => none
    | none => none
   | none => none
  | _ => none
 | _ => none
def aG (i : Nat) : CV → Option CV
 | .tup vs => vs[i]?
 | _ => none
def md : CV → Bool
 | .nu .u8 (.ofNat a) => Nat.blt a 256
 | _ => false
def eV : CV → Nat
 | .nu .u8 (.ofNat a) => a
 | _ => 0
def FZ (el : cH) (esz : Nat) : Option (List CV) → Option CV
 | some cs => match el with
  | .int .u8 => match cs.all md && Nat.beq esz 1 with
   | true => some (.st (cs.map eV))
   | false => none
  | _ => none
 | none => none
def Jn (o : Nat) : HB → Bool
 | .cells cs _ _ => Nat.blt o cs.length
 | _ => false
def vo (P : Program) (u o : Nat) : HB → Bool
 | .cells cs aP el => Nat.beq aP 0 && liesAt P P.depth el (cs.length / P.cellsOf el) o u 1
 | _ => false
def D3 (P : Program) (h : Hp) (u : Nat) : CV → Option CV
 | .nilp => some .nilp
 | .ptr k o => match ar P u with
  | some (n, _) => match !(Nat.beq n 0) && Jn o (h.get k) with
   | true => some (.ptr k o)
   | false => none
  | none => none
 | _ => none
def vN (P : Program) (h : Hp) (u : Nat) : CV → Option CV
 | .nilp => some .nilp
 | .ptr k o => match ar P u with
  | some _ => match vo P u o (h.get k) with
   | true => some (.ptr k o)
   | false => none
  | none => none
 | _ => none
def fV (P : Program) (h : Hp) (x : CV) : cH → cH → Option CV
 | .int _, .int k => match x with
  | .nu _ n => some (gu k n)
  | _ => none
 | .str, .str => match x with
  | .st s => some (.st s)
  | _ => none
 | .slice el esz _ _, .str => FZ (ae P el) esz (cellsOf h esz x)
 | .ptr u, .uptr => D3 P h u x
 | .uptr, .ptr u => vN P h u x
 | _, _ => none
def Jo (f : FuncId) (caps : List CV) : List Operand → Option CV
 | [] => some (.fn f caps)
 | _ => none
def yw (ok : Bool) (v : CV) (b : Bool) : CV := match ok with
 | true => .tup [v, .bo b]
 | false => v
def qn (ok : Bool) (z : CV) : Option (Option CV) → Option CV
 | some (some v) => some (yw ok v true)
 | some none => some (yw ok z false)
 | none => none
def qo (ok : Bool) (z key : CV) : HB → Option CV
 | .mp es => qn ok z (bX key es)
 | _ => none
def vp (h : Hp) (ok : Bool) (key x : CV) : Option CV → Option CV
 | some z => match x with
  | .nilm => some (yw ok z false)
  | .mp k => qo ok z key (h.get k)
  | _ => none
 | none => none
def ew (P : Program) (h : Hp) (ok : Bool) (key x : CV) : cH → Option CV
 | .map kt et => match kA P kt key with
  | true => vp h ok key x (dh P et)
  | false => none
 | _ => none
def zV : HB → Option CV
 | .mp es => some (.nu .i64 (.ofNat es.length))
 | _ => none
def an (h : Hp) (x : CV) : cH → Option CV
 | .map _ _ => match x with
  | .nilm => some (.nu .i64 (.ofNat 0))
  | .mp k => zV (h.get k)
  | _ => none
 | .slice _ _ _ _ => match x with
  | .sl _ _ n _ => some (.nu .i64 (.ofNat n))
  | .nils => some (.nu .i64 (.ofNat 0))
  | .sle => some (.nu .i64 (.ofNat 0))
  | _ => none
 | .str => match x with
  | .st s => some (.nu .i64 (.ofNat s.length))
  | _ => none
 | _ => none
def Jp : CV → CV → Option CV
 | .nu k a, .nu _ b => some (.nu k (match cI b a with
  | true => a
  | false => b))
 | _, _ => none
def rT : CV → CV → Option CV
 | .nu k a, .nu _ b => some (.nu k (match cI a b with
  | true => a
  | false => b))
 | _, _ => none
def oE (P : Program) (h : Hp) (e : Operand → CV) : List TypeId → List Operand → Option CV
 | [t], [x] => an h (e x) (ae P t)
 | _, _ => none
def vq (e : Operand → CV) : List Operand → Option CV
 | [x, y] => Jp (e x) (e y)
 | _ => none
def qp (e : Operand → CV) : List Operand → Option CV
 | [x, y] => rT (e x) (e y)
 | _ => none
def oF : CV → Option CV
 | .nils => some .nilp
 | .sl k o _ c => match Nat.beq c 0 with
  | true => none
  | false => some (.ptr k o)
 | _ => none
def nl (e : Operand → CV) : List Operand → Option CV
 | [x] => oF (e x)
 | _ => none
def Jq : cH → CV → Option CV
 | .slice _ _ _ _, .nils => some (.nu .i64 (.ofNat 0))
 | _, _ => none
def vt (P : Program) (e : Operand → CV) : List TypeId → List Operand → Option CV
 | [t], [x] => Jq (ae P t) (e x)
 | _, _ => none
def eL (P : Program) (h : Hp) (c : Call) (e : Operand → CV) : Builtin → Option CV
 | .len => oE P h e c.argTypes.toList c.args.toList
 | .max => vq e c.args.toList
 | .min => qp e c.args.toList
 | .unsafeSliceData => nl e c.args.toList
 | .cap => vt P e c.argTypes.toList c.args.toList
 | _ => none
def jf (P : Program) (h : Hp) (c : Call) (e : Operand → CV) : Callee → Option CV
 | .builtin b => eL P h c e b
 | _ => none
def qX (P : Program) (o : Oper) (e : Operand → CV) (h : Hp) : Option CV := match o.op with
 | .move x => some (e x)
 | .assign x => some (e x)
 | .pick c a b => aA (e a) (e b) (e c)
 | .build t parts => vK (parts.toList.map fun p => (p.1, e p.2)) (ae P t)
 | .load t x => ap h (e x) (ar P t)
 | .nilCheck x => mb (e x)
 | .binOp op t x y _ => ab P op t (e x) (e y)
 | .unOp op _ x => dC op (e x)
 | .fieldAddr t x f => cK f (e x) (ae P t)
 | .field t x f => vL f (e x) (ae P t)
 | .indexAddr t x i => ai (e x) (e i) (ae P t)
 | .index t x i => bC (e x) (e i) (ae P t)
 | .slice t x lo hi none => iB e lo hi h (e x) (ae P t)
 | .slice t x lo hi (some mx) => jv e lo hi mx (e x) (ae P t)
 | .extract x i => aG i (e x)
 | .convert src dst x => fV P h (e x) (ae P src) (ae P dst)
 | .makeFunc (.func f) first caps => Jo f (caps.toList.map e) first.toList
 | .lookup t x i ok => ew P h ok (e i) (e x) (ae P t)
 | .call c => jf P h c e c.callee
 | _ => none
def dz (h : Hp) (k o n : Nat) (x : CV) : HB → Option (CV × Hp)
 | .cells cs aP el => match x.sol && Nat.beq x.cells.length n && Nat.ble (o + n) cs.length with
  | true => some (.undef, h.set k (.cells (setAt cs o x.cells) aP el))
  | false => none
 | _ => none
def bc (h : Hp) (a x : CV) : Option (Nat × Bool) → Option (CV × Hp)
 | some (n, _) => match a with
  | .ptr k o => dz h k o n x (h.get k)
  | _ => none
 | none => none
def vw (h : Hp) (k : Nat) : Option (List (CV × CV)) → Option (CV × Hp)
 | some es => some (.undef, h.set k (.mp es))
 | none => none
def vA (h : Hp) (k : Nat) (key x : CV) : HB → Option (CV × Hp)
 | .mp es => vw h k (fX key x es)
 | _ => none
def iR (P : Program) (h : Hp) (m key x : CV) : cH → Option (CV × Hp)
 | .map kt _ => match kA P kt key with
  | true => match m with
   | .mp k => vA h k key x (h.get k)
   | _ => none
  | false => none
 | _ => none
def F0 (h : Hp) (esz k o n c m : Nat) (ys : List CV) : HB → Option (CV × Hp)
 | .cells cs aP el => match Nat.ble (o + (n + m) * esz) cs.length with
  | true => some (.sl k o (n + m) c, h.set k (.cells (setAt cs (o + n * esz) ys) aP el))
  | false => none
 | _ => none
def iC (h : Hp) (el esz k o n c m : Nat) (ys : List CV) : HB → Option (CV × Hp)
 | .cells cs aP te => match Nat.ble (o + n * esz) cs.length with
  | true => match fg cs aP o c with
   | true => some (.sl h.n 0 (n + m) (n + m), h.push (.cells (sub cs o (n * esz) ++ ys) esz el))
   | false => match Nat.beq aP esz && Nat.beq n c && Nat.beq te el with
    | true => some (.sl h.n 0 (n + m) (n + m), (h.set k .dead).push (.cells (sub cs o (n * esz) ++ ys) esz el))
    | false => none
  | false => none
 | _ => none
def lenV : CV → Nat
 | .sl _ _ n _ => n
 | _ => 0
def eM (h : Hp) (el esz : Nat) (x : CV) (ys : List CV) (m : Nat) : Option (CV × Hp) := match x with
 | .nils => match Nat.beq m 0 with
  | true => some (.nils, h)
  | false => some (.sl h.n 0 m m, h.push (.cells ys esz el))
 | .sl k o n c => match Nat.beq m 0 with
  | true => match Nat.ble n c with
   | true => some (.sl k o n c, h)
   | false => none
  | false => match Nat.ble (n + m) c with
   | true => F0 h esz k o n c m ys (h.get k)
   | false => iC h el esz k o n c m ys (h.get k)
 | _ => none
def gw (h : Hp) (el esz bytes : Nat) (z : List CV) (x : CV) (m : Nat) : Option (List CV) → Option (CV × Hp)
 | some ys => match ys.all CV.one && Nat.beq z.length esz && Nat.blt 0 esz && Nat.ble ((lenV x + m) * bytes) 70368744177664 && Nat.ble (lenV x + m) 4611686018427387904 with
  | true => eM h el esz x ys m
  | false => none
 | none => none
def zW : CV → Option (List CV)
 | .st s => some (s.map fun c => .nu .u8 (.ofNat c))
 | _ => none
def Jr : CV → Nat
 | .st s => s.length
 | _ => 0
def Js (h : Hp) (el esz bytes : Nat) (z : List CV) : CV → CV → Option (CV × Hp)
 | .nils, .nu .i64 (.ofNat m) => match Nat.beq z.length esz && Nat.blt 0 esz && Nat.blt 0 m && Nat.ble (m * bytes) 70368744177664 && Nat.ble m 4611686018427387904 with
  | true => some (.sl h.n 0 m m, h.push (.cells (dN z m) esz el))
  | false => none
 | _, _ => none
def aQ (h : Hp) (x y : CV) : cH → cH → Option (CV × Hp)
 | .slice el esz bytes z, .slice _ _ _ _ => gw h el esz bytes z x (lenV y) (cellsOf h esz y)
 | .slice el esz bytes z, .str => match Nat.beq esz 1 with
  | true => gw h el esz bytes z x (Jr y) (zW y)
  | false => none
 | .slice el esz bytes z, .int .i64 => Js h el esz bytes z x y
 | _, _ => none
def kC (P : Program) (e : Operand → CV) (h : Hp) : List TypeId → List Operand → Option (CV × Hp)
 | [t, t'], [x, y] => aQ h (e x) (e y) (ae P t) (ae P t')
 | _, _ => none
def pP : CV → Bool
 | .nu _ _ | .st _ | .bo _ => true
 | _ => false
def F7 (h : Hp) (esz k o n c m : Nat) (ys : List CV) : HB → Option (CV × Hp)
 | .cells cs aP _ => match Nat.beq (o + n * esz) cs.length && Nat.beq aP esz && Nat.beq n c && Nat.blt 0 n && Nat.blt 0 m && ys.all pP with
  | true => some (.sl h.n 0 (n + m) (n + m), (h.set k (.kp cs ys aP)).push (.ro (sub cs o (n * esz) ++ ys)))
  | false => none
 | .kp cs zs aP => match Nat.beq (o + n * esz) cs.length && Nat.beq aP esz && Nat.beq n c && Nat.blt 0 n && Nat.blt 0 m with
  | true => match cD ys zs with
   | some true => some (.sl h.n 0 (n + m) (n + m), h.push (.ro (sub cs o (n * esz) ++ ys)))
   | _ => none
  | false => none
 | _ => none
def F9 (h : Hp) (esz : Nat) (x : CV) (ys : List CV) (m : Nat) : Option (CV × Hp) := match x with
 | .sl k o n c => F7 h esz k o n c m ys (h.get k)
 | _ => none
def Jt (h : Hp) (x y : CV) : cH → cH → Option (CV × Hp)
 | .slice _ esz bytes z, .slice _ _ _ _ => match cellsOf h esz y with
  | some ys => match ys.all CV.one && Nat.beq z.length esz && Nat.blt 0 esz && Nat.ble ((lenV x + lenV y) * bytes) 70368744177664 && Nat.ble (lenV x + lenV y) 4611686018427387904 with
   | true => F9 h esz x ys (lenV y)
   | false => none
  | none => none
 | _, _ => none
def oG (P : Program) (e : Operand → CV) (h : Hp) : List TypeId → List Operand → Option (CV × Hp)
 | [t, t'], [x, y] => Jt h (e x) (e y) (ae P t) (ae P t')
 | _, _ => none
class HK where
 keep : Oper → Bool
variable [HK]
def vO (P : Program) (h : Hp) (k o n pe : Nat) : HB → Option (CV × Hp)
 | .cells cs _ el => match Nat.beq el pe && Nat.beq (P.cellsOf pe) 1 && Nat.ble (o + n) cs.length && (sub cs o n).all md && Nat.ble n 9223372036854775807 with
  | true => some (.st ((sub cs o n).map eV), h.set k (.fz cs))
  | false => none
 | _ => none
def me (P : Program) (h : Hp) (p n : CV) : cH → Option (CV × Hp)
 | .ptr pe => match n with
  | .nu .i64 (.ofNat n) => match p with
   | .nilp => match Nat.beq n 0 with
    | true => some (.st [], h)
    | false => none
   | .ptr k o => match Nat.beq n 0 with
    | true => some (.st [], h)
    | false => vO P h k o n pe (h.get k)
   | _ => none
  | _ => none
 | _ => none
def jG (P : Program) (e : Operand → CV) (h : Hp) : List TypeId → List Operand → Option (CV × Hp)
 | [t, _], [p, n] => me P h (e p) (e n) (ae P t)
 | _, _ => none
def Ga (h : Hp) (k o n esz : Nat) (z : List CV) : HB → Option (CV × Hp)
 | .cells cs aP el => match Nat.ble (o + n * esz) cs.length with
  | true => some (.tup [], h.set k (.cells (setAt cs o (dN z n)) aP el))
  | false => none
 | _ => none
def Ju (h : Hp) (x : CV) : cH → Option (CV × Hp)
 | .slice _ esz _ z => match x with
  | .nils => some (.tup [], h)
  | .sle => some (.tup [], h)
  | .sl k o n _ => match Nat.beq n 0 with
   | true => some (.tup [], h)
   | false => match Nat.beq z.length esz && z.all CV.one with
    | true => Ga h k o n esz z (h.get k)
    | false => none
  | _ => none
 | _ => none
def oH (P : Program) (e : Operand → CV) (h : Hp) : List TypeId → List Operand → Option (CV × Hp)
 | [t], [x] => Ju h (e x) (ae P t)
 | _, _ => none
def jH (P : Program) (o : Oper) (c : Call) (e : Operand → CV) (h : Hp) : Callee → Option (CV × Hp)
 | .builtin .append => match HK.keep o with
  | true => match oG P e h c.argTypes.toList c.args.toList with
   | some r => some r
   | none => kC P e h c.argTypes.toList c.args.toList
  | false => kC P e h c.argTypes.toList c.args.toList
 | .builtin .unsafeString => jG P e h c.argTypes.toList c.args.toList
 | .builtin .clear => oH P e h c.argTypes.toList c.args.toList
 | _ => none
def wX (P : Program) (o : Oper) (e : Operand → CV) (h : Hp) : Option (CV × Hp) := match o.op with
 | .store t a x => bc h (e a) (e x) (ar P t)
 | .mapUpdate t m key x => iR P h (e m) (e key) (e x) (ae P t)
 | .call c => jH P o c e h c.callee
 | _ => none
def gT (P : Program) (o : Oper) (e : Operand → CV) (h : Hp) : Option (CV × Hp) := match qX P o e h with
 | some v => some (v, h)
 | none => match bA P o e with
  | some (f, b) => some (f h.n, h.push b)
  | none => wX P o e h
end Go.CP
namespace Go.CP
variable [HK]
inductive Tg where
 | fn (f : FuncId)
 | yl (k : Nat)
abbrev dK := Tg → List CV → Hp → Option (CV × Hp)
abbrev cL := FuncId → List CV → Option CV
def fP (P : Program) (prim : cL) (call : dK) (o : Oper) (e : Operand → CV) (h : Hp) : Option (CV × Hp) := match o.op with
 | .call c => match c.callee with
  | .value g => match e g with
   | .fn f caps => match prim f (c.args.toList.map e ++ caps) with
    | some v => some (v, h)
    | none => call (.fn f) (c.args.toList.map e ++ caps) h
   | .yl k => call (.yl k) (c.args.toList.map e) h
   | _ => none
  | _ => gT P o e h
 | _ => gT P o e h
def bU (ops : Array Oper) (o : Oper) (s : Fr) : Option Bool := match o.guard with
 | none => some true
 | some (j, want) => match ops[j]? with
  | none => none
  | some g => match g.dst with
   | none => none
   | some t => match s.at t with
    | .bo b => some (b == want)
    | .skp => some false
    | _ => none
def er (P : Program) (prim : cL) (call : dK) (ops : Array Oper) : List Oper → Fr → Hp → Option (Fr × Hp)
 | [], s, h => some (s, h)
 | o :: l, s, h => match bU ops o s with
  | some true => match fP P prim call o (ev s) h with
   | some (v, h') => er P prim call ops l (Fr.putO s o.dst v) h'
   | none => none
  | some false => er P prim call ops l (Fr.putO s o.dst .skp) h
  | none => none
inductive Stp where
 | take (i : Nat)
 | only (i : Nat) (keep : List Nat)
abbrev Stp.t (i : Nat) : Stp := .take i
abbrev Stp.o (i : Nat) (l : List Nat) : Stp := .only i l
structure Pd where
 i : Nat
 o : Oper
 skip : Bool
 c : CV
 lay : Option (Nat × HB)
def jI (f : CV → CV → Bool) : List CV → List CV → Bool
 | [], [] => true
 | x :: xs, y :: ys => match f x y with
  | true => jI f xs ys
  | false => false
 | _, _ => false
def nm : Nat → CV → CV → Bool
 | 0, _, _ => false
 | d + 1, x, y => match x, y with
  | .undef, .undef => true
  | .skp, .skp => true
  | .bo a, .bo b => a == b
  | .nu k a, .nu k' b => mT k k' && dT a b
  | .st a, .st b => eJ a b
  | .nilp, .nilp => true
  | .ptr k o, .ptr k' o' => Nat.beq k k' && Nat.beq o o'
  | .nils, .nils => true
  | .sle, .sle => true
  | .sl k o n c, .sl k' o' n' c' => Nat.beq k k' && Nat.beq o o' && Nat.beq n n' && Nat.beq c c'
  | .agg xs, .agg ys => jI (nm d) xs ys
  | .tup xs, .tup ys => jI (nm d) xs ys
  | .fn f xs, .fn g ys => Nat.beq f g && jI (nm d) xs ys
  | .nilf, .nilf => true
  | .mp k, .mp k' => Nat.beq k k'
  | .yl k, .yl k' => Nat.beq k k'
  | .nilm, .nilm => true
  | _, _ => false
def ceq : CV → CV → Bool := nm 10
def jJ : HB → HB → Bool
 | .cells xs m e, .cells ys m' e' => Nat.beq m m' && Nat.beq e e' && jI ceq xs ys
 | .ro xs, .ro ys => jI ceq xs ys
 | .mp [], .mp [] => true
 | _, _ => false
def zX : cH → Bool
 | .map _ _ => true
 | _ => false
def bS (P : Program) (o : Oper) : Bool := match o.op with
 | .load _ _ | .lookup _ _ _ _ | .slice _ _ _ _ _ | .convert _ _ _ => true
 | .call c => match c.argTypes.toList with
  | [t] => zX (ae P t)
  | _ => false
 | _ => false
def bV (P : Program) (s : Fr) (h : Hp) (p : Pd) : Bool := match p.skip with
 | true => true
 | false => match p.lay with
  | some (k, b) => jJ (h.get k) b
  | none => match bS P p.o with
   | false => true
   | true => match qX P p.o (ev s) h with
    | some c => ceq c p.c
    | none => false
def cr (P : Program) (prim : cL) (call : dK) (ops : Array Oper) : List Stp → List Pd → Fr → Hp → Option (Fr × Hp)
 | [], _, s, h => some (s, h)
 | .take i :: l, pd, s, h => match ops[i]? with
  | none => none
  | some o => match bU ops o s with
   | none => none
   | some false => cr P prim call ops l (⟨i, o, true, .skp, none⟩ :: pd) (Fr.putO s o.dst .skp) h
   | some true => match bA P o (ev s) with
    | some (f, b) => match pd.all (bV P s (h.push b)) with
     | true => cr P prim call ops l (⟨i, o, false, f h.n, some (h.n, b)⟩ :: pd) (Fr.putO s o.dst (f h.n)) (h.push b)
     | false => none
    | none => match qX P o (ev s) h with
     | some c => cr P prim call ops l (⟨i, o, false, c, none⟩ :: pd) (Fr.putO s o.dst c) h
     | none => none
 | .only i keep :: l, pd, s, h => match ops[i]? with
  | none => none
  | some o => match bU ops o s with
   | none => none
   | some false => cr P prim call ops l (pd.filter fun p => keep.any (Nat.beq p.i)) (Fr.putO s o.dst .skp) h
   | some true => match fP P prim call o (ev s) h with
    | some (c, h') => match (pd.filter fun p => keep.any (Nat.beq p.i)).all (bV P (Fr.putO s o.dst c) h') with
     | true => cr P prim call ops l (pd.filter fun p => keep.any (Nat.beq p.i)) (Fr.putO s o.dst c) h'
     | false => none
    | none => none
def qq (ops : Array Oper) (i : Nat) (listed : Array Bool) : Array Bool :=
 (List.range ops.size).foldl (fun R j => if j == i then R else match ops[j]? with
   | some o => if o.after.all (fun e => !Region.binds .any e || R.getD e.on false) then R.setIfInBounds j true else R
   | none => R) listed
def lz (ops : Array Oper) (i : Nat) (listed R : Array Bool) : Bool :=
 (List.range listed.size).all (fun j => !listed.getD j false || R.getD j false) && (List.range ops.size).all fun j => j == i || match ops[j]? with
   | some o => !(o.after.all fun e => !Region.binds .any e || R.getD e.on false) || R.getD j false
   | none => true
def np (ops : Array Oper) (x y : Oper) : Bool := match x.dst with
 | some d => !(y.looksAt ops).contains d && !(y.dst == some d)
 | none => true
def nq (ops : Array Oper) (x : Oper) : Bool := match x.dst with
 | some d => !(x.looksAt ops).contains d
 | none => true
def fo (ops : Array Oper) : List Stp → List (Nat × Array Bool) → Array Bool → Bool
 | [], _, listed => (Region.ready .any ops listed).isEmpty
 | .take i :: l, pd, listed => (Region.ready .any ops listed).contains i && (match ops[i]? with
   | some o => nq ops o && lz ops i listed (qq ops i listed) && pd.all (fun p => match ops[p.1]? with
    | some q => np ops o q && (!p.2.getD i false || np ops q o)
    | none => false)
   | none => false) && fo ops l ((i, qq ops i listed) :: pd) (listed.setIfInBounds i true)
 | .only i keep :: l, pd, listed => Region.ready .any ops listed == [i] && (match ops[i]? with
   | some o => pd.all (fun p => match ops[p.1]? with
    | some q => if keep.any (Nat.beq p.1) then np ops q o && np ops o q else !p.2.getD i false
    | none => false)
   | none => false) && fo ops l (pd.filter fun p => keep.any (Nat.beq p.1)) (listed.setIfInBounds i true)
mutual
inductive DV where
 | c (v : CV)
 | sl (n : Nat) (l : DL)
 | p (l : DL)
 | agg (l : DL)
 | e
inductive DL where
 | nil
 | cons (d : DV) (l : DL)
end
def vB : CV → Bool
 | .bo _ | .nu _ _ | .st _ | .nilp | .nils | .nilf | .nilm => true
 | _ => false
def lA (o : Nat) : HB → Option (List CV)
 | .cells cs _ _ => some (cs.drop o)
 | .ro cs => some (cs.drop o)
 | .kp cs _ _ => some (cs.drop o)
 | .fz cs => some (cs.drop o)
 | _ => none
mutual
def dm (h : Hp) : DV → CV → Bool
 | .c v, x => vB v && ceq v x
 | .sl n l, x => match x with
  | .sl k o n' c => Nat.beq n n' && Nat.ble n c && match lA o (h.get k) with
   | some cs => yx h l cs
   | none => false
  | _ => false
 | .p l, x => match x with
  | .ptr k o => match lA o (h.get k) with
   | some cs => yx h l cs
   | none => false
  | _ => false
 | .agg l, x => match x with
  | .agg cs => qr h l cs
  | _ => false
 | .e, x => match x with
  | .sle => true
  | .sl _ _ n _ => Nat.beq n 0
  | _ => false
def yx (h : Hp) : DL → List CV → Bool
 | .nil, _ => true
 | .cons d l, x :: xs => dm h d x && yx h l xs
 | .cons _ _, [] => false
def qr (h : Hp) : DL → List CV → Bool
 | .nil, [] => true
 | .cons d l, x :: xs => dm h d x && qr h l xs
 | _, _ => false
end
mutual
def lay : DV → Hp → CV × Hp
 | .c v, h => (v, h)
 | .sl n l, h => match bL l h with
  | (vs, h') => (.sl h'.n 0 n n, h'.push (.ro vs))
 | .p l, h => match bL l h with
  | (vs, h') => (.ptr h'.n 0, h'.push (.ro vs))
 | .agg l, h => match bL l h with
  | (vs, h') => (.agg vs, h')
 | .e, h => (.sle, h)
def bL : DL → Hp → List CV × Hp
 | .nil, h => ([], h)
 | .cons d l, h => match lay d h with
  | (v, h1) => match bL l h1 with
   | (vs, h2) => (v :: vs, h2)
end
inductive RV where
 | one (d : DV)
 | tup (l : DL)
def zY : RV → Hp → CV × Hp
 | .one d, h => lay d h
 | .tup l, h => match bL l h with
  | (vs, h') => (.tup vs, h')
def vC (o : Nat) : HB → Option (List CV)
 | .cells cs _ _ => some (cs.drop o)
 | _ => none
mutual
def dn (h : Hp) : DV → CV → Bool
 | .c v, x => vB v && ceq v x
 | .sl n l, x => match x with
  | .sl k o n' c => Nat.beq n n' && Nat.ble n c && match vC o (h.get k) with
   | some cs => yy h l cs
   | none => false
  | _ => false
 | .p l, x => match x with
  | .ptr k o => match vC o (h.get k) with
   | some cs => yy h l cs
   | none => false
  | _ => false
 | .agg l, x => match x with
  | .agg cs => vP h l cs
  | _ => false
 | .e, x => match x with
  | .sle => true
  | .sl _ _ n _ => Nat.beq n 0
  | _ => false
def yy (h : Hp) : DL → List CV → Bool
 | .nil, _ => true
 | .cons d l, x :: xs => dn h d x && yy h l xs
 | .cons _ _, [] => false
def vP (h : Hp) : DL → List CV → Bool
 | .nil, [] => true
 | .cons d l, x :: xs => dn h d x && vP h l xs
 | _, _ => false
end
def Jv (h : Hp) : RV → CV → Bool
 | .one d, x => dn h d x
 | .tup l, x => match x with
  | .tup cs => vP h l cs
  | _ => false
def kD (h : Hp) (args : List CV) : List (DL × RV) → Option (CV × Hp)
 | [] => none
 | (ds, r) :: l => match qr h ds args with
  | true => some (zY r h)
  | false => kD h args l
structure fp where
 plan : FuncId → Nat → Option (List Stp)
 prim : cL
 memo : FuncId → List (DL × RV)
 spec : FuncId → List CV → Hp → Option (CV × Hp)
 fuel : Nat
def ag : Nat := 65535
def Nw : CV → Nat
 | .yl k => k
 | _ => 0
def ck : CV → List Nat
 | .tup cs => cs.map Nw
 | _ => []
def jw (k : Nat) : CV → CV
 | .tup cs => .tup (.yl k :: cs)
 | _ => .tup [.yl k]
def jK (ro : Option Nat) (f n : Nat) (ps : Array Tmp) (as bd : Code) (s : Fr) (h : Hp) : Option (Fr × Hp) := match ro with
 | none => some (T.set s ag (jw h.n (s.at ag)), (h.push .df).push (.lp ⟨.ready, none, s, f, n, ps, as, bd⟩))
 | some l => match h.get l with
  | .lp _ => some (s, h.push (.lp ⟨.ready, none, s, f, n, ps, as, bd⟩))
  | _ => none
def qt : Option Code → Bool
 | none | some .ret | some (.exit _) | some (.goto _) => true
 | _ => false
def iD (l : Nat) (h : Hp) : Option (Option Code × Hp) := match h.get l with
 | .lp r => match r.st with
  | .busy => none
  | _ => match qt r.pend with
   | true => some (r.pend, h.set l (.lp ⟨.exhausted, r.pend, r.s, r.f, r.n, r.ps, r.as, r.bd⟩))
   | false => none
 | _ => none
def pQ (run : Code → Fr → Hp → Option (Exit × Fr × Hp)) (c : Code) : Nat → Code → Fr → Hp → Option (Exit × Fr × Hp)
 | 0, _, _, _ => none
 | j + 1, r, s, h => match run r s h with
  | some (.goto l, s', h') => match findLabel c l with
   | some rest => pQ run c j rest s' h'
   | none => none
  | x => x
section
variable (P : Program) (prim : cL) (call : dK) (pl : Nat → Option (List Stp)) (f n : Nat) (ro : Option Nat)
def aZ : Nat → Code → Fr → Hp → Option (Exit × Fr × Hp)
 | 0, _, _, _ => none
 | k + 1, c, s, h => match c with
  | .skip => some (.normal, s, h)
  | .label _ => some (.normal, s, h)
  | .exit id => some (.exit id, s, h)
  | .goto i => some (.goto i, s, h)
  | .ret => some (.ret, s, h)
  | .seq x y => match aZ k x s h with
   | some (.normal, s', h') => aZ k y s' h'
   | r => r
  | .cond c x y => match ev s c with
   | .bo true => aZ k x s h
   | .bo false => aZ k y s h
   | _ => none
  | .block id c => match aZ k c s h with
   | some (.exit i, s', h') => match Nat.beq i id with
    | true => some (.normal, s', h')
    | false => some (.exit i, s', h')
   | r => r
  | .scope c => pQ (aZ k) c (k + 1) c s h
  | .loop c => match aZ k c s h with
   | some (.normal, s', h') => aZ k (.loop c) s' h'
   | r => r
  | .region id ops true => match pl id with
   | some p => match cr P prim call ops p [] s h with
    | some (s', h') => some (.normal, s', h')
    | none => none
   | none => none
  | .region id ops false => match er P prim call ops ops.toList s h with
   | some (s', h') => some (.normal, s', h')
   | none => none
  | .rangeFunc g ps as bd => match ev s g with
   | .fn f' caps => match jK ro f n ps as bd s h with
    | some (s', h') => match call (.fn f') (.yl (h'.n - 1) :: caps) h' with
     | some (_, h1) => match iD (h'.n - 1) h1 with
      | some (none, h2) => some (.normal, s', h2)
      | some (some c, h2) => aZ k c s' h2
      | none => none
     | none => none
    | none => none
   | _ => none
  | _ => none
end
def fZ (P : Program) (s : Fr) (h : Hp) : List ResultVar → Option (List CV)
 | [] => some []
 | .tmp t :: l => match fZ P s h l with
  | some vs => some (s.at t :: vs)
  | none => none
 | .cell a t :: l => match s.at a, ar P t with
  | .ptr k o, some (n, g) => match eK o n g (h.get k), fZ P s h l with
   | some v, some vs => some (v :: vs)
   | _, _ => none
  | _, _ => none
def ij : List CV → CV
 | [p] => p
 | ps => .tup ps
def entry : Nat → List CV → Fr
 | _, [] => .lf
 | i, p :: l => T.set (entry (i + 1) l) i p
def eN : List Nat → Hp → Option Hp
 | [], h => some h
 | k :: l, h => match h.get k with
  | .df => eN l (h.set k .dead)
  | _ => none
def zZ (P : Program) (fn : Func) (h : Hp) : Option (Exit × Fr × Hp) → Option (CV × Hp)
 | some (e, s, h') => match e with
  | .normal | .ret => match Nat.ble h.n h'.n with
   | true => match eN (ck (s.at ag)) h' with
    | some h2 => match fZ P s h2 fn.results.toList with
     | some vs => some (ij vs, h2)
     | none => none
    | none => none
   | false => none
  | _ => none
 | none => none
def oI (P : Program) (E : fp) (call : dK) (f : FuncId) (args : List CV) (h : Hp) : Option (CV × Hp) := match P.funcs[f]? with
  | none => none
  | some fn => match fn.body with
   | some c => match Nat.ble args.length fn.ntmps with
    | true => zZ P fn h (aZ P E.prim call (E.plan f) f fn.ntmps none E.fuel c (entry 0 args) h)
    | false => none
   | none => none
def iE : Fr → List Tmp → List CV → Option Fr
 | s, [], [] => some s
 | s, t :: ts, c :: cs => iE (T.set s t c) ts cs
 | _, _, _ => none
def iF (k : Nat) (h : Hp) : Option Hp := match h.get k with
 | .lp r => match r.st with
  | .ready => some (h.set k (.lp ⟨.busy, r.pend, r.s, r.f, r.n, r.ps, r.as, r.bd⟩))
  | _ => none
 | _ => none
def qu : Exit → Option (Option Code)
 | .normal => some none
 | .ret => some (some .ret)
 | .exit id => some (some (.exit id))
 | .goto t => some (some (.goto t))
 | _ => none
def pR (k : Nat) (e : Exit) (h : Hp) : Option (CV × Hp) := match h.get k with
 | .lp r => match qu e with
  | some none => some (.bo true, h.set k (.lp ⟨.ready, none, r.s, r.f, r.n, r.ps, r.as, r.bd⟩))
  | some (some c) => some (.bo false, h.set k (.lp ⟨.done, some c, r.s, r.f, r.n, r.ps, r.as, r.bd⟩))
  | none => none
 | _ => none
def qv (P : Program) (E : fp) (call : dK) (k : Nat) (args : List CV) (h : Hp) : Option (CV × Hp) := match h.get k with
 | .lp r => match iE (T.set r.s ag .undef) r.ps.toList args with
  | some s0 => match aZ P E.prim call (E.plan r.f) r.f r.n (some k) E.fuel r.as s0 h with
   | some (.normal, s1, h1) => match iF k h1 with
    | some h2 => match aZ P E.prim call (E.plan r.f) r.f r.n (some k) E.fuel r.bd s1 h2 with
     | some (e, _, h3) => match Nat.ble h.n h3.n with
      | true => pR k e h3
      | false => none
     | none => none
    | none => none
   | _ => none
  | none => none
 | _ => none
def ct (P : Program) (E : fp) : Nat → dK
 | 0, _, _, _ => none
 | d + 1, .fn f, args, h => match kD h args (E.memo f) with
  | some r => some r
  | none => match E.spec f args h with
   | some r => some r
   | none => oI P E (ct P E d) f args h
 | d + 1, .yl k, args, h => qv P E (ct P E d) k args h
def h0 : Hp := ⟨0, .lf⟩
def z6 (P : Program) (E : fp) (d : Nat) (f : FuncId) (ds : DL) (rd : RV) : Bool := match bL ds h0 with
 | (args, h) => match oI P E (ct P E d) f args h with
  | some (r, h') => Jv h' rd r
  | none => false
end Go.CP
namespace Go.CP
def Ix.num : Ix → Nat
 | .e => 0
 | .l p => 2 * p.num + 1
 | .r p => 2 * p.num + 2
theorem yz : ∀ (f k : Nat), k < f → (Bc f k).num = k := by
 intro f
 induction f with
 | zero => intro k h; omega
 | succ f ih =>
  intro k h
  simp only [Bc]
  cases h0 : Nat.beq k 0 with
  | true => simp only [Ix.num]; exact (Nat.eq_of_beq_eq_true h0).symm
  | false =>
   have hk : k ≠ 0 := Nat.ne_of_beq_eq_false h0
   cases h1 : Nat.beq (k % 2) 1 with
   | true =>
    have := Nat.eq_of_beq_eq_true h1
    simp only [Ix.num]; rw [ih _ (by omega)]; omega
   | false =>
    have := Nat.ne_of_beq_eq_false h1
    simp only [Ix.num]; rw [ih _ (by omega)]; omega
theorem Jw {j k : Nat} (h : ix j = ix k) : j = k := by
 have h1 := yz (j + 1) j (by omega)
 have h2 := yz (k + 1) k (by omega)
 unfold ix at h
 rw [← h1, ← h2, h]
theorem D4 {α : Type} (x : α) : ∀ (p q : Ix) (t : T α), T.at p (T.put x q t) = if p = q then some x else T.at p t := by
 intro p
 induction p with
 | e => intro q t; cases q <;> cases t <;> simp [T.at, T.put, T.vl]
 | l p ih => intro q t; cases q <;> cases t <;> simp [T.at, T.put, T.lt, ih]
 | r p ih => intro q t; cases q <;> cases t <;> simp [T.at, T.put, T.rt, ih]
theorem T.get_set {α : Type} (t : T α) (k j : Nat) (x : α) : (t.set k x).get j = if j = k then some x else t.get j := by
 simp only [T.get, T.set, D4]
 by_cases h : j = k
 · subst h; simp
 · rw [if_neg h, if_neg fun e => h (Jw e)]
theorem Hp.get_set (h : Hp) (k j : Nat) (b : HB) : (h.set k b).get j = if j = k then b else h.get j := by
 simp only [Hp.get, Hp.set, T.get_set]
 by_cases e : j = k
 · simp [e]
 · simp [e]
theorem ah (h : Hp) (j : Nat) (b : HB) : (h.push b).get j = if j = h.n then b else h.get j := by
 simp only [Hp.get, Hp.push, T.get_set]
 by_cases e : j = h.n
 · simp [e]
 · simp [e]
@[simp] theorem vQ (h : Hp) (k : Nat) (b : HB) : (h.set k b).n = h.n := rfl
@[simp] theorem kE (h : Hp) (b : HB) : (h.push b).n = h.n + 1 := rfl
theorem aI (s : Fr) (k j : Nat) (p : CV) : Fr.at (T.set s k p) j = if j = k then p else Fr.at s j := by
 simp only [Fr.at, T.get_set]
 by_cases e : j = k
 · simp [e]
 · simp [e]
structure cJ where
 b : Nat
 base : Nat
 mc : Nat
 esz : Nat
 size : Nat
 opn : Bool
abbrev Im := Nat → Option cJ
inductive VR (ι : Im) : CV → Value → Prop where
 | undef (v) : VR ι .undef v
 | skp : VR ι .skp Go.undef
 | bo (x) : VR ι (.bo x) (.bool x)
 | nu (k n) : VR ι (.nu k n) (.int k n)
 | st {s : List Nat} {x : ByteArray} (h : x.data.toList.map (·.toNat) = s) : VR ι (.st s) (.string x)
 | nilp : VR ι .nilp (.pointer none)
 | ptr {k o : Nat} {i : cJ} (h : ι k = some i) : VR ι (.ptr k o) (.pointer (some ⟨i.b, i.base + o, none⟩))
 | nils : VR ι .nils (.slice none 0 0)
 | sle (a c) : VR ι .sle (.slice (some a) 0 c)
 | sl {k o n c c' : Nat} {i : cJ} (h : ι k = some i) (hc : (c = c' ∧ (i.esz ≠ 0 → c ≠ 0 → o + c * i.esz ≠ i.size)) ∨ (i.opn = true ∧ c ≤ c' ∧ (i.esz ≠ 0 → o + c * i.esz = i.size ∧ o + c' * i.esz = i.mc))) : VR ι (.sl k o n c) (.slice (some ⟨i.b, i.base + o, none⟩) n c')
 | agg {cs : List CV} {vs : Array Value} (hl : vs.size = cs.length) (h : ∀ j (hj : j < cs.length), VR ι cs[j] (vs.getD j Go.undef)) : VR ι (.agg cs) (.agg vs)
 | tup {cs : List CV} {vs : Array Value} (hl : vs.size = cs.length) (h : ∀ j (hj : j < cs.length), VR ι cs[j] (vs.getD j Go.undef)) : VR ι (.tup cs) (.tuple vs)
 | fn {f : FuncId} {cs : List CV} {vs : Array Value} (hl : vs.size = cs.length) (h : ∀ j (hj : j < cs.length), VR ι cs[j] (vs.getD j Go.undef)) : VR ι (.fn f cs) (.func (.func f) #[] vs)
 | nilf : VR ι .nilf .nilFunc
 | mp {k : Nat} {i : cJ} (h : ι k = some i) : VR ι (.mp k) (.map (some i.b))
 | nilm : VR ι .nilm (.map none)
 | yl {k : Nat} {i : cJ} (h : ι k = some i) : VR ι (.yl k) (.func (.yield i.b) #[] #[])
def Im.le (ι ι' : Im) : Prop := ∀ k i, ι k = some i → ι' k = some i
theorem Im.le_refl (ι : Im) : ι.le ι := fun _ _ h => h
theorem Im.le.trans {ι ι' ι'' : Im} (h : ι.le ι') (h' : ι'.le ι'') : ι.le ι'' := fun k i e => h' k i (h k i e)
theorem VR.mono {ι ι' : Im} (hle : ι.le ι') {p : CV} {v : Value} (h : VR ι p v) : VR ι' p v := by
 induction h with
 | undef v => exact .undef v
 | skp => exact .skp
 | bo x => exact .bo x
 | nu k n => exact .nu k n
 | st h => exact .st h
 | nilp => exact .nilp
 | ptr h => exact .ptr (hle _ _ h)
 | nils => exact .nils
 | sle a c => exact .sle a c
 | sl h hc => exact .sl (hle _ _ h) hc
 | agg hl _ ih => exact .agg hl ih
 | tup hl _ ih => exact .tup hl ih
 | fn hl _ ih => exact .fn hl ih
 | nilf => exact .nilf
 | mp h => exact .mp (hle _ _ h)
 | nilm => exact .nilm
 | yl h => exact .yl (hle _ _ h)
def VRL (ι : Im) (cs : List CV) (vs : List Value) : Prop := vs.length = cs.length ∧ ∀ j (hj : j < cs.length), VR ι cs[j] (vs.getD j Go.undef)
theorem VRL.nil (ι : Im) : VRL ι [] [] := ⟨rfl, fun j hj => absurd hj (Nat.not_lt_zero _)⟩
theorem VRL.cons {ι : Im} {c : CV} {cs : List CV} {v : Value} {vs : List Value} (h : VR ι c v) (hs : VRL ι cs vs) : VRL ι (c :: cs) (v :: vs) :=
 ⟨by simp [hs.1], fun j hj => by
   cases j with
   | zero => exact h
   | succ j => exact hs.2 j (by simpa using hj)⟩
theorem VRL.tail {ι : Im} {c : CV} {cs : List CV} {v : Value} {vs : List Value} (h : VRL ι (c :: cs) (v :: vs)) : VR ι c v ∧ VRL ι cs vs :=
 ⟨h.2 0 (by simp), by simpa using h.1, fun j hj => h.2 (j + 1) (by simpa using hj)⟩
theorem VRL.append {ι : Im} {cs ds : List CV} {vs us : List Value} (h : VRL ι cs vs) (h' : VRL ι ds us) : VRL ι (cs ++ ds) (vs ++ us) := by
 refine ⟨by simp [h.1, h'.1], fun j hj => ?_⟩
 by_cases hlt : j < cs.length
 · have := h.2 j hlt
   rw [List.getElem_append_left hlt, List.getD_eq_getElem?_getD, List.getElem?_append_left (by rw [h.1]; exact hlt), ← List.getD_eq_getElem?_getD]
   exact this
 · have hlt' : j - cs.length < ds.length := by simp at hj; omega
   have := h'.2 _ hlt'
   rw [List.getElem_append_right (by omega), List.getD_eq_getElem?_getD, List.getElem?_append_right (by rw [h.1]; omega), ← List.getD_eq_getElem?_getD, h.1]
   exact this
theorem VRL.mono {ι ι' : Im} (hle : ι.le ι') {cs : List CV} {vs : List Value} (h : VRL ι cs vs) : VRL ι' cs vs := ⟨h.1, fun j hj => (h.2 j hj).mono hle⟩
theorem VRL.get? {ι : Im} {cs : List CV} {vs : List Value} (h : VRL ι cs vs) {j : Nat} {c : CV} (hc : cs[j]? = some c) : ∃ v, vs[j]? = some v ∧ VR ι c v := by
 obtain ⟨hj, rfl⟩ := List.getElem?_eq_some_iff.1 hc
 have h1 := h.2 j hj
 have hj' : j < vs.length := by rw [h.1]; exact hj
 exact ⟨vs[j], List.getElem?_eq_getElem hj', by simpa [List.getD_eq_getElem?_getD, List.getElem?_eq_getElem hj'] using h1⟩
theorem VRL.drop {ι : Im} {cs : List CV} {vs : List Value} (h : VRL ι cs vs) (o : Nat) : VRL ι (cs.drop o) (vs.drop o) := by
 refine ⟨by simp [h.1], fun j hj => ?_⟩
 have hj' : o + j < cs.length := by simp at hj; omega
 have := h.2 _ hj'
 simpa [List.getD_eq_getElem?_getD, List.getElem_drop, List.getElem?_drop] using this
theorem VRL.take {ι : Im} {cs : List CV} {vs : List Value} (h : VRL ι cs vs) (n : Nat) : VRL ι (cs.take n) (vs.take n) := by
 refine ⟨by simp [h.1], fun j hj => ?_⟩
 have hj' : j < n ∧ j < cs.length := by simp at hj; omega
 have := h.2 _ hj'.2
 simpa [List.getD_eq_getElem?_getD, List.getElem_take, List.getElem?_take, hj'.1] using this
theorem VRL.sub {ι : Im} {cs : List CV} {vs : List Value} (h : VRL ι cs vs) (o n : Nat) : VRL ι (sub cs o n) ((vs.drop o).take n) := (h.drop o).take n
theorem jx {ι : Im} {cs : List CV} {vs : Array Value} (h : VRL ι cs vs.toList) : VR ι (.agg cs) (.agg vs) :=
 .agg (by simpa using h.1) fun j hj => by simpa [Array.getD_eq_getD_getElem?, List.getD_eq_getElem?_getD] using h.2 j hj
theorem ey {ι : Im} {cs : List CV} {vs : Array Value} (h : VRL ι cs vs.toList) : VR ι (.tup cs) (.tuple vs) :=
 .tup (by simpa using h.1) fun j hj => by simpa [Array.getD_eq_getD_getElem?, List.getD_eq_getElem?_getD] using h.2 j hj
theorem Be {ι : Im} {f : FuncId} {cs : List CV} {vs : Array Value} (h : VRL ι cs vs.toList) : VR ι (.fn f cs) (.func (.func f) #[] vs) :=
 .fn (by simpa using h.1) fun j hj => by simpa [Array.getD_eq_getD_getElem?, List.getD_eq_getElem?_getD] using h.2 j hj
theorem nt (vs : Array Value) (j : Nat) : vs.getD j Go.undef = vs.toList.getD j Go.undef := by simp [Array.getD_eq_getD_getElem?, List.getD_eq_getElem?_getD]
theorem dl {ι : Im} {cs : List CV} {v : Value} (h : VR ι (.agg cs) v) : ∃ vs, v = .agg vs ∧ VRL ι cs vs.toList := by
 cases h with
 | agg hl h => exact ⟨_, rfl, by simpa using hl, fun j hj => by rw [← nt]; exact h j hj⟩
theorem Bf {ι : Im} {cs : List CV} {v : Value} (h : VR ι (.tup cs) v) : ∃ vs, v = .tuple vs ∧ VRL ι cs vs.toList := by
 cases h with
 | tup hl h => exact ⟨_, rfl, by simpa using hl, fun j hj => by rw [← nt]; exact h j hj⟩
theorem qw {ι : Im} {f : FuncId} {cs : List CV} {v : Value} (h : VR ι (.fn f cs) v) : ∃ vs, v = .func (.func f) #[] vs ∧ VRL ι cs vs.toList := by
 cases h with
 | fn hl h => exact ⟨_, rfl, by simpa using hl, fun j hj => by rw [← nt]; exact h j hj⟩
theorem Gb {ι : Im} {k : Nat} {v : Value} (h : VR ι (.yl k) v) : ∃ i, ι k = some i ∧ v = .func (.yield i.b) #[] #[] := by cases h with | yl h => exact ⟨_, h, rfl⟩
theorem dL {ι : Im} {x : Bool} {v : Value} (h : VR ι (.bo x) v) : v = .bool x := by cases h; rfl
theorem bN {ι : Im} {k : IntKind} {n : Int} {v : Value} (h : VR ι (.nu k n) v) : v = .int k n := by cases h; rfl
theorem Aa {ι : Im} {s : List Nat} {v : Value} (h : VR ι (.st s) v) : ∃ x : ByteArray, v = .string x ∧ x.data.toList.map (·.toNat) = s := by cases h with | st h => exact ⟨_, rfl, h⟩
theorem cW {ι : Im} {k o : Nat} {v : Value} (h : VR ι (.ptr k o) v) : ∃ i, ι k = some i ∧ v = .pointer (some ⟨i.b, i.base + o, none⟩) := by cases h with | ptr h => exact ⟨_, h, rfl⟩
theorem VR.one {ι : Im} {p : CV} {v : Value} (h : VR ι p v) (hp : p.one = true) : v.oneCell' = true ∧ v.cells = #[v] := by
 cases h <;> first | exact ⟨rfl, rfl⟩ | simp [CV.one] at hp
theorem Ab {p : CV} (h : p.isAgg = false) : p.cells = [p] := by cases p <;> first | rfl | simp [CV.isAgg] at h
theorem VR.cells {ι : Im} {p : CV} {v : Value} (h : VR ι p v) (hp : p.sol = true) : VRL ι p.cells v.cells.toList ∧ (∀ u ∈ v.cells.toList, u.oneCell' = true) ∧ (p.isAgg = true → ∃ vs, v = .agg vs) ∧ (p.isAgg = false → v.cells = #[v]) := by
 by_cases ha : p.isAgg = true
 · cases p <;> simp [CV.isAgg] at ha
   rename_i cs
   obtain ⟨vs, rfl, hv⟩ := dl h
   refine ⟨hv, fun u hu => ?_, fun _ => ⟨_, rfl⟩, fun h => by simp [CV.isAgg] at h⟩
   obtain ⟨j, hj, rfl⟩ := List.getElem_of_mem hu
   have hj' : j < cs.length := by rw [← hv.1]; exact hj
   have h1 := hv.2 j hj'
   have h2 : cs[j].one = true := List.all_eq_true.1 hp _ (List.getElem_mem hj')
   have h3 := (h1.one h2).1
   have hj2 : j < vs.toList.length := hj
   rw [List.getD_eq_getElem?_getD, List.getElem?_eq_getElem hj2] at h3
   exact h3
 · have ha : p.isAgg = false := by simpa using ha
   have h1 := Ab ha
   have h2 : p.one = true := List.all_eq_true.1 hp _ (by rw [h1]; simp)
   obtain ⟨h3, h4⟩ := h.one h2
   refine ⟨by rw [h1, h4]; exact VRL.cons h (VRL.nil ι), fun u hu => ?_, fun h => by rw [ha] at h; simp at h, fun _ => h4⟩
   rw [h4] at hu
   simp at hu; subst hu; exact h3
theorem rU (ι : Im) (v : Value) : VR ι (eU v) v := by
 unfold eU
 split <;> first
  | exact .bo _
  | exact .nu _ _
  | exact .st rfl
  | exact .nils
  | exact .nilp
  | exact .nilm
  | exact .nilf
  | exact .undef _
theorem kF (ι : Im) (vs : List Value) : VRL ι (vs.map eU) vs := by
 induction vs with
 | nil => exact VRL.nil ι
 | cons v vs ih => exact VRL.cons (rU ι v) ih
theorem pS (ι : Im) (v : Value) : VR ι (ofValue v) v := by
 by_cases h : ∃ cs, v = .agg cs
 · obtain ⟨cs, rfl⟩ := h
   exact jx (kF ι cs.toList)
 · have h1 : ofValue v = eU v := by cases v <;> first | rfl | exact absurd ⟨_, rfl⟩ h
   rw [h1]; exact rU ι v
theorem uP (v : Value) : (ofValue v).cells = bM v := by
 by_cases h : ∃ cs, v = .agg cs
 · obtain ⟨cs, rfl⟩ := h; rfl
 · have h1 : ofValue v = eU v := by cases v <;> first | rfl | exact absurd ⟨_, rfl⟩ h
   have h2 : (eU v).cells = [eU v] := by
    unfold eU; split <;> rfl
   have h3 : v.cells = #[v] := by cases v <;> first | rfl | exact absurd ⟨_, rfl⟩ h
   rw [h1, h2, bM, h3]; rfl
class LG where
 good : Nat → Nat → Array Tmp → Code → Code → Prop
variable [LG] [HK]
def Bn (ents : List MapEntry) (clock : Nat) : Prop := (ents.map (·.born)).Nodup ∧ ∀ x ∈ ents, x.born < clock
def HB.wr : HB → Bool
 | .cells _ _ _ | .mp _ | .df | .lp _ | .mi _ _ _ | .it _ _ _ _ => true
 | _ => false
def HB.live : HB → Bool
 | .dead => false
 | _ => true
def BR (ι : Im) (i : cJ) (w : World) : HB → Prop
 | .cells cs aP el => ∃ arr e, w.heap[i.b]? = some (.cells arr e (0, 0)) ∧ i.base + i.mc ≤ arr.size ∧ cs.length ≤ i.mc ∧ i.size = cs.length ∧ i.opn = (!Nat.beq aP 0) ∧ i.esz = aP ∧ VRL ι cs ((arr.toList.drop i.base).take cs.length) ∧ e = el ∧ (aP = 0 → i.base = 0 ∧ arr.size = cs.length)
 | .ro cs => ∃ arr e fr, w.heap[i.b]? = some (.cells arr e fr) ∧ i.opn = true ∧ i.esz = 0 ∧ VRL ι cs ((arr.toList.drop i.base).take cs.length)
 | .mp es => ∃ ents clock, w.heap[i.b]? = some (.map ents clock) ∧ VRL ι (es.map (·.1)) (ents.toList.map (·.key)) ∧ VRL ι (es.map (·.2)) (ents.toList.map (·.val)) ∧ Bn ents.toList clock
 | .mi es bs clock => ∃ ents, w.heap[i.b]? = some (.map ents clock) ∧ VRL ι (es.map (·.1)) (ents.toList.map (·.key)) ∧ VRL ι (es.map (·.2)) (ents.toList.map (·.val)) ∧ Bn ents.toList clock ∧ ents.toList.map (·.born) = bs
 | .it m since seen c0 => ∃ im, ι m = some im ∧ w.heap[i.b]? = some (.mapIter (some im.b) since seen.toArray c0) ∧ i.base = 0
 | .kp cs ys aP => ∃ arr e, w.heap[i.b]? = some (.cells arr e (0, 0)) ∧ i.base + i.mc ≤ arr.size ∧ cs.length ≤ i.mc ∧ i.size = cs.length ∧ i.opn = true ∧ i.esz = aP ∧ VRL ι cs ((arr.toList.drop i.base).take cs.length) ∧ ys.all pP = true ∧ (cs.length + ys.length ≤ i.mc → VRL ι ys ((arr.toList.drop (i.base + cs.length)).take ys.length))
 | .fz cs => ∃ arr e fr, w.heap[i.b]? = some (.cells arr e fr) ∧ VRL ι cs ((arr.toList.drop i.base).take cs.length)
 | .df => w.heap[i.b]? = some (.deferred (some []))
 | .lp r => ∃ fn tmps d, w.heap[i.b]? = some (.loop { state := r.st, pending := r.pend, fn := fn, tmps := tmps, params := r.ps, assign := r.as, body := r.bd, defers := d }) ∧ tmps.size = r.n ∧ (∀ t, t < r.n → VR ι (Fr.at r.s t) (tmps.getD t Go.undef)) ∧ LG.good r.f r.n r.ps r.as r.bd
 | .dead => True
structure Sim (N0 : Nat) (ι : Im) (h : Hp) (w : World) : Prop where
 lt : ∀ k i, ι k = some i → k < h.n ∧ i.b < w.heap.size
 own : ∀ k i, ι k = some i → (h.get k).wr = true → N0 ≤ i.b
 fresh : ∀ k, h.n ≤ k → h.get k = .dead
 blk : ∀ k i, ι k = some i → BR ι i w (h.get k)
 inj : ∀ k k' i i', ι k = some i → ι k' = some i' → k ≠ k' → (h.get k).wr = true → (h.get k').live = true → i.b ≠ i'.b
theorem BR.mono {ι ι' : Im} (hle : ι.le ι') {i : cJ} {w w' : World} (hw : w'.heap[i.b]? = w.heap[i.b]?) {b : HB} (h : BR ι i w b) : BR ι' i w' b := by
 cases b with
 | cells cs aP el => obtain ⟨arr, e, h1, h2, h3, h4, h5, h6, h7, h8⟩ := h; exact ⟨arr, e, hw.trans h1, h2, h3, h4, h5, h6, h7.mono hle, h8⟩
 | fz cs => obtain ⟨arr, e, fr, h1, h2⟩ := h; exact ⟨arr, e, fr, hw.trans h1, h2.mono hle⟩
 | ro cs => obtain ⟨arr, e, fr, h1, h2, h3, h4⟩ := h; exact ⟨arr, e, fr, hw.trans h1, h2, h3, h4.mono hle⟩
 | mp es => obtain ⟨en, c, h1, h2, h3, h4⟩ := h; exact ⟨en, c, hw.trans h1, h2.mono hle, h3.mono hle, h4⟩
 | mi es bs clock => obtain ⟨en, h1, h2, h3, h4, h5⟩ := h; exact ⟨en, hw.trans h1, h2.mono hle, h3.mono hle, h4, h5⟩
 | it m since seen c0 => obtain ⟨im, h1, h2, h3⟩ := h; exact ⟨im, hle _ _ h1, hw.trans h2, h3⟩
 | kp cs ys aP => obtain ⟨arr, e, h1, h2, h3, h4, h5, h6, h7, h8, h9⟩ := h; exact ⟨arr, e, hw.trans h1, h2, h3, h4, h5, h6, h7.mono hle, h8, fun hm => (h9 hm).mono hle⟩
 | df => exact hw.trans h
 | lp r => obtain ⟨fn, tmps, d, h1, h2, h3, h4⟩ := h; exact ⟨fn, tmps, d, hw.trans h1, h2, fun t ht => (h3 t ht).mono hle, h4⟩
 | dead => trivial
structure Ext (N0 : Nat) (w w' : World) : Prop where
 os : w'.os = w.os
 tape : w'.tape = w.tape
 output : w'.output = w.output
 size : w.heap.size ≤ w'.heap.size
 block : ∀ b, b < N0 → w'.heap[b]? = w.heap[b]?
 drew : w.drawn ≤ w'.drawn
theorem Ext.refl (N0 : Nat) (w : World) : Ext N0 w w := ⟨rfl, rfl, rfl, Nat.le_refl _, fun _ _ => rfl, Nat.le_refl _⟩
theorem Ext.trans {N0 : Nat} {w w' w'' : World} (h : Ext N0 w w') (h' : Ext N0 w' w'') : Ext N0 w w'' :=
 ⟨h'.os.trans h.os, h'.tape.trans h.tape, h'.output.trans h.output, Nat.le_trans h.size h'.size, fun b hb => (h'.block b hb).trans (h.block b hb), Nat.le_trans h.drew h'.drew⟩
theorem Sim.world {N0 : Nat} {ι : Im} {h : Hp} {w w' : World} (S : Sim N0 ι h w) (E : Ext w.heap.size w w') : Sim N0 ι h w' :=
 ⟨fun k i e => ⟨(S.lt k i e).1, Nat.lt_of_lt_of_le (S.lt k i e).2 E.size⟩, S.own, S.fresh, fun k i e => (S.blk k i e).mono (Im.le_refl ι) (E.block _ (S.lt k i e).2), S.inj⟩
theorem Sim.push {N0 : Nat} {ι : Im} {h : Hp} {w : World} (S : Sim N0 ι h w) (b : HB) : Sim N0 ι (h.push b) w := by
 have hg : ∀ k i, ι k = some i → (h.push b).get k = h.get k := fun k i e => by
  rw [ah, if_neg (Nat.ne_of_lt (S.lt k i e).1)]
 refine ⟨fun k i e => ⟨Nat.lt_succ_of_lt (S.lt k i e).1, (S.lt k i e).2⟩, fun k i e hw => S.own k i e (by rw [← hg k i e]; exact hw), fun k hk => ?_, fun k i e => by rw [hg k i e]; exact S.blk k i e, fun k k' i i' e e' hne h1 h2 => ?_⟩
 · have : h.n + 1 ≤ k := hk
   rw [ah, if_neg (by omega)]; exact S.fresh k (by omega)
 · rw [hg k i e] at h1; rw [hg k' i' e'] at h2
   exact S.inj k k' i i' e e' hne h1 h2
def Im.set (ι : Im) (k : Nat) (i : cJ) : Im := fun j => if j = k then some i else ι j
theorem bv {ι : Im} {k : Nat} {i : cJ} (h : ι k = none) : ι.le (ι.set k i) := fun j i' e => by
 unfold Im.set
 split
 · rename_i e'; subst e'; rw [h] at e; cases e
 · exact e
theorem Sim.laid {N0 : Nat} {ι : Im} {h : Hp} {w : World} (S : Sim N0 ι h w) (hN : N0 ≤ w.heap.size) {k : Nat} (hk : k < h.n) (hn : ι k = none) {w' : World} (hsz : w'.heap.size = w.heap.size + 1) (hold : ∀ b, b < w.heap.size → w'.heap[b]? = w.heap[b]?) {i : cJ} (hib : i.b = w.heap.size) (hb : BR (ι.set k i) i w' (h.get k)) : Sim N0 (ι.set k i) h w' := by
 refine ⟨fun j i' e => ?_, fun j i' e hw => ?_, S.fresh, fun j i' e => ?_, fun j j' a a' e e' hne h1 h2 => ?_⟩
 · unfold Im.set at e; split at e
   · rename_i e'; subst e'; injection e with e; subst e; exact ⟨hk, by rw [hib, hsz]; omega⟩
   · have := S.lt j i' e; exact ⟨this.1, by rw [hsz]; omega⟩
 · unfold Im.set at e; split at e
   · injection e with e; subst e; rw [hib]; exact hN
   · exact S.own j i' e hw
 · unfold Im.set at e; split at e
   · rename_i e'; subst e'; injection e with e; subst e; exact hb
   · exact (S.blk j i' e).mono (bv hn) (hold _ (S.lt j i' e).2)
 · unfold Im.set at e e'
   split at e
   · injection e with e; subst e
     split at e'
     · rename_i e1 e2; subst e1; subst e2; exact absurd rfl hne
     · have := (S.lt j' a' e').2; rw [hib]; omega
   · split at e'
     · injection e' with e'; subst e'
       have := (S.lt j a e).2; rw [hib]; omega
     · exact S.inj j j' a a' e e' hne h1 h2
theorem Sim.put {N0 : Nat} {ι : Im} {h : Hp} {w w' : World} (S : Sim N0 ι h w) {k : Nat} {i : cJ} (hi : ι k = some i) (hw : (h.get k).wr = true) {b : HB} (hs : w'.heap.size = w.heap.size) (hold : ∀ j, j ≠ i.b → w'.heap[j]? = w.heap[j]?) (hb : BR ι i w' b) : Sim N0 ι (h.set k b) w' := by
 refine ⟨fun j i' e => ⟨(S.lt j i' e).1, by rw [hs]; exact (S.lt j i' e).2⟩, fun j i' e hw' => ?_, fun j hj => ?_, fun j i' e => ?_, fun j j' a a' e e' hne h1 h2 => ?_⟩
 · rw [Hp.get_set] at hw'
   split at hw'
   · rename_i e1; subst e1; exact S.own j i' e hw
   · exact S.own j i' e hw'
 · rw [Hp.get_set, if_neg]
   · exact S.fresh j hj
   · have := (S.lt k i hi).1; have : h.n ≤ j := hj; omega
 · rw [Hp.get_set]
   split
   · rename_i e1; subst e1; rw [hi] at e; injection e with e; subst e; exact hb
   · rename_i hne
     by_cases hl : (h.get j).live = true
     · exact (S.blk j i' e).mono (Im.le_refl ι) (hold _ (fun e1 => S.inj k j i i' hi e (Ne.symm hne) hw hl e1.symm))
     · cases hd : h.get j with
       | dead => trivial
       | _ => rw [hd] at hl; simp [HB.live] at hl
 · rw [Hp.get_set] at h1 h2
   by_cases e1 : j = k
   · subst e1
     rw [if_neg (Ne.symm hne)] at h2
     exact S.inj j j' a a' e e' hne hw h2
   · rw [if_neg e1] at h1
     by_cases e2 : j' = k
     · subst e2
       have hl : (h.get j').live = true := by cases hd : h.get j' with
        | dead => rw [hd] at hw; simp [HB.wr] at hw
        | _ => rfl
       exact S.inj j j' a a' e e' hne h1 hl
     · rw [if_neg e2] at h2
       exact S.inj j j' a a' e e' hne h1 h2
theorem Sim.wrote {N0 : Nat} {ι : Im} {h : Hp} {w w' : World} (S : Sim N0 ι h w) {k : Nat} {i : cJ} (hi : ι k = some i) (hw : (h.get k).wr = true) {b : HB} (hb1 : b.wr = true ∨ b = .dead) (hs : w'.heap.size = w.heap.size) (hold : ∀ j, j ≠ i.b → w'.heap[j]? = w.heap[j]?) (hb : BR ι i w' b) : Sim N0 ι (h.set k b) w' := S.put hi hw hs hold hb
end Go.CP
namespace Go.CP
variable [LG] [HK]
theorem cR {a b : Nat} (h : Nat.blt a b = true) : a < b := by simpa using h
theorem D5 {a b : Nat} (h : Nat.blt a b = false) : b ≤ a := by
 rcases Nat.lt_or_ge a b with h1 | h1
 · have : Nat.blt a b = true := by simpa using h1
   rw [this] at h; cases h
 · exact h1
theorem bk {a b : Nat} (h : Nat.ble a b = true) : a ≤ b := Nat.le_of_ble_eq_true h
theorem Nk {a b : Nat} (h : Nat.ble a b = false) : b < a := by
 rcases Nat.lt_or_ge b a with h1 | h1
 · exact h1
 · have : Nat.ble a b = true := Nat.ble_eq_true_of_le h1
   rw [this] at h; cases h
theorem aX {a b : Nat} (h : Nat.beq a b = true) : a = b := Nat.eq_of_beq_eq_true h
theorem jL {a b : Nat} (h : Nat.beq a b = false) : a ≠ b := Nat.ne_of_beq_eq_false h
theorem dD (a b : Int) : cI a b = decide (a ≤ b) := by
 cases a <;> cases b <;> simp only [cI] <;> (rw [Bool.eq_iff_iff]; simp <;> omega)
theorem eW (a b : Int) : dT a b = decide (a = b) := by
 cases a <;> cases b <;> simp only [dT] <;> (rw [Bool.eq_iff_iff]; simp <;> omega)
theorem Ac (a b : Int) : dT a b = (a == b) := eW a b
theorem MA (a b : Int) : cI a b = decide (a ≤ b) := dD a b
theorem MB (a b : Int) : (!(cI b a)) = decide (a < b) := by rw [dD, Bool.eq_iff_iff]; simp
theorem lB {k k' : IntKind} (h : mT k k' = true) : k = k' := by cases k <;> cases k' <;> simp [mT] at h <;> rfl
theorem vD {k : IntKind} {n : Int} (h0 : 0 ≤ n) (h1 : n < 2 ^ k.bits) (h2 : k.signed = true → n < 2 ^ (k.bits - 1)) : k.wrap n = n := by
 unfold IntKind.wrap
 have hm : n % (2 ^ k.bits : Int) = n := Int.emod_eq_of_lt h0 h1
 simp only [hm]
 rw [if_neg]
 simp only [Bool.and_eq_true, decide_eq_true_eq, not_and, Int.not_le, ge_iff_le]
 exact h2
theorem fq (a : Nat) (h : a < 9223372036854775808) : IntKind.i64.wrap (.ofNat a) = .ofNat a :=
 vD (Int.natCast_nonneg a) (by show (a : Int) < 2 ^ 64; omega) fun _ => by show (a : Int) < 2 ^ 63; omega
theorem Jx (a : Nat) (h : a < 18446744073709551616) : IntKind.u64.wrap (.ofNat a) = .ofNat a :=
 vD (Int.natCast_nonneg a) (by show (a : Int) < 2 ^ 64; omega) fun h => by cases h
theorem Jy (a : Nat) (h : a < 4294967296) : IntKind.u32.wrap (.ofNat a) = .ofNat a :=
 vD (Int.natCast_nonneg a) (by show (a : Int) < 2 ^ 32; omega) fun h => by cases h
theorem MC (a : Nat) (h : a < 256) : IntKind.u8.wrap (.ofNat a) = .ofNat a :=
 vD (Int.natCast_nonneg a) (by show (a : Int) < 2 ^ 8; omega) fun h => by cases h
theorem Bg (a : Nat) (h : a < 9223372036854775808) : IntKind.i64.wrap (.negSucc a) = .negSucc a := by
 unfold IntKind.wrap
 have hm : Int.negSucc a % (2 ^ IntKind.i64.bits : Int) = 2 ^ 64 - 1 - (a : Int) := by
  show Int.negSucc a % (2 ^ 64 : Int) = _
  rw [Int.negSucc_eq]; omega
 simp only [hm]
 rw [if_pos]
 · show (2 ^ 64 - 1 - (a : Int) : Int) - 2 ^ 64 = _
   rw [Int.negSucc_eq]; omega
 · simp only [IntKind.signed, Bool.true_and, decide_eq_true_eq, ge_iff_le]
   show (2 ^ 63 : Int) ≤ 2 ^ 64 - 1 - (a : Int)
   omega
theorem nw {b : Bool} {x y : Int} (h : b = true → y = x) : (bif b then x else y) = y := by
 cases b with
 | true => exact (h rfl).symm
 | false => rfl
theorem D6 (k : IntKind) (n : Int) : vn k n = k.wrap n := by
 unfold vn
 cases n with
 | ofNat a =>
  cases k with
  | i64 => exact nw fun h => fq a (cR h)
  | u64 => exact nw fun h => Jx a (cR h)
  | u32 => exact nw fun h => Jy a (cR h)
  | u8 => exact nw fun h => MC a (cR h)
  | _ => rfl
 | negSucc a =>
  cases k with
  | i64 => exact nw fun h => Bg a (cR h)
  | _ => rfl
theorem ez (k : IntKind) (n : Int) : gu k n = .nu k (k.wrap n) := by unfold gu; rw [D6]
def bs (x : ByteArray) : List Nat := x.data.toList.map (·.toNat)
theorem jM : ∀ (x y : List UInt8), eJ (x.map (·.toNat)) (y.map (·.toNat)) = (x == y)
 | [], [] => rfl
 | [], _ :: _ => rfl
 | _ :: _, [] => rfl
 | a :: x, b :: y => by
  simp only [List.map_cons, eJ]
  rw [jM x y]
  cases h : Nat.beq a.toNat b.toNat with
  | true => have := UInt8.toNat_inj.1 (Nat.eq_of_beq_eq_true h); subst this; simp
  | false =>
   have : a ≠ b := fun e => Nat.ne_of_beq_eq_false h (by rw [e])
   have h2 : (a == b) = false := by simpa using this
   rw [List.cons_beq_cons, h2]; rfl
theorem yA : ∀ (x y : List UInt8), Bd (x.map (·.toNat)) (y.map (·.toNat)) = Op.bytesLess x y
 | [], [] => rfl
 | [], _ :: _ => rfl
 | _ :: _, [] => rfl
 | a :: x, b :: y => by
  simp only [List.map_cons, Bd, Op.bytesLess]
  rw [yA x y]
  cases h : Nat.blt a.toNat b.toNat with
  | true => have h2 : a < b := UInt8.lt_iff_toNat_lt.2 (cR h); simp [h2]
  | false =>
   have h1 : ¬ a < b := fun e => by have := UInt8.lt_iff_toNat_lt.1 e; have := D5 h; omega
   cases h2 : Nat.beq a.toNat b.toNat with
   | true => have := UInt8.toNat_inj.1 (Nat.eq_of_beq_eq_true h2); subst this; simp
   | false =>
    have : a ≠ b := fun e => Nat.ne_of_beq_eq_false h2 (by rw [e])
    simp [h1, this]
theorem vR : ∀ (x y : List UInt8), Op.bytesLess y x = !(Op.bytesLess x y || (x == y))
 | [], [] => rfl
 | [], _ :: _ => rfl
 | _ :: _, [] => rfl
 | a :: x, b :: y => by
  simp only [Op.bytesLess]
  rw [vR x y]
  rcases Nat.lt_trichotomy a.toNat b.toNat with h | h | h
  · have h1 : a < b := UInt8.lt_iff_toNat_lt.2 h
    have h2 : ¬ b < a := fun e => by have := UInt8.lt_iff_toNat_lt.1 e; omega
    have h3 : ¬ b = a := fun e => by rw [e] at h; omega
    simp [h1, h2, h3]
  · have := UInt8.toNat_inj.1 h
    subst this
    have h2 : ¬ a < a := fun e => by have := UInt8.lt_iff_toNat_lt.1 e; omega
    simp [h2]
  · have h1 : b < a := UInt8.lt_iff_toNat_lt.2 h
    have h2 : ¬ a < b := fun e => by have := UInt8.lt_iff_toNat_lt.1 e; omega
    have h3 : ¬ a = b := fun e => by rw [e] at h; omega
    simp [h1, h2, h3]
theorem dx (x : ByteArray) : (bs x).length = x.size := by simp [bs]
theorem Bh (x y : ByteArray) : bs (x ++ y) = bs x ++ bs y := by simp [bs]
theorem cM {ι : Im} {s : List Nat} {v : Value} (h : VR ι (.st s) v) : ∃ x : ByteArray, v = .string x ∧ s = bs x := by
 obtain ⟨x, h1, h2⟩ := Aa h; exact ⟨x, h1, h2.symm⟩
theorem vE (ι : Im) (x : ByteArray) : VR ι (.st (bs x)) (.string x) := .st rfl
section
variable {P : Program} {w : World} {ι : Im}
theorem D7 {op : BinOp} {t : TypeId} {x y : Operand} {p q r : CV} {u v : Value} (h : kZ op p q = some r) (hu : VR ι p u) (hv : VR ι q v) :
  ∃ c, VR ι r c ∧ (binOp op t u v).run P w = .ok c w ∧ (eqGuard op t x y u v).run P w = .ok () w := by
 unfold kZ at h
 split at h
 · obtain rfl := bN hu
   obtain rfl := bN hv
   rename_i k a k' b
   have hg : (eqGuard op t x y (.int k a) (.int k' b)).run P w = .ok () w := by cases op <;> simp [eqGuard]
   have hnn : ∀ n : Nat, ¬ (Int.ofNat n < 0) := fun n => Int.not_lt.2 (Int.natCast_nonneg n)
   have htn : ∀ n : Nat, (Int.ofNat n).toNat = n := fun n => rfl
   split at h
   · split at h
     · injection h with h; subst h
       rename_i n
       refine ⟨_, by rw [ez]; exact .nu _ _, ?_, hg⟩
       simp only [binOp, Op.shift, if_neg (hnn n), Sem.run_pure, htn]
     · cases h
   · split at h
     · injection h with h; subst h
       rename_i n
       refine ⟨_, .nu _ _, ?_, hg⟩
       simp only [binOp, Op.shift, if_neg (hnn n), Sem.run_pure, htn]
     · cases h
   · split at h
     · cases h
     · rename_i hk
       obtain rfl := lB hk
       cases op <;> simp only [] at h <;> first
        | (injection h with h; subst h; exact ⟨_, by rw [ez]; exact .nu _ _, by simp [binOp, Op.intArith], hg⟩)
        | (injection h with h; subst h; refine ⟨_, .bo _, ?_, hg⟩; simp only [binOp, Op.intCmp, Ac, MB, bne, Sem.run_pure, ne_eq, not_true_eq_false, if_false, GT.gt, GE.ge]; done)
        | (injection h with h; subst h; refine ⟨_, .bo _, ?_, hg⟩; simp only [binOp, Op.intCmp, MA, Sem.run_pure, ne_eq, not_true_eq_false, if_false, GT.gt, GE.ge]; done)
        | (split at h
           · cases h
           · rename_i h0
             rw [eW] at h0
             have h0 : b ≠ 0 := by simpa using h0
             injection h with h; subst h
             first
              | exact ⟨_, by rw [ez]; exact .nu _ _, by simp [binOp, Op.intDiv, h0], hg⟩
              | exact ⟨_, .nu _ _, by simp [binOp, Op.intDiv, h0], hg⟩)
        | (cases h; done)
 · obtain ⟨a, rfl, rfl⟩ := cM hu
   obtain ⟨b, rfl, rfl⟩ := cM hv
   have hg : (eqGuard op t x y (.string a) (.string b)).run P w = .ok () w := by cases op <;> simp [eqGuard]
   cases op <;> simp only [] at h
   · split at h
     · rename_i hle
       have hle := Nat.le_of_ble_eq_true hle
       rw [dx, dx] at hle
       injection h with h; subst h
       rw [← Bh]
       refine ⟨_, vE ι _, ?_, hg⟩
       simp [binOp, Op.stringOp, IntKind.max, IntKind.signed, IntKind.bits]
       omega
     · cases h
   all_goals first
    | (injection h with h; subst h
       refine ⟨_, .bo _, ?_, hg⟩
       simp only [bs, jM, yA, binOp, Op.stringOp, ByteArray.toList_eq, Sem.run_pure, vR a.data.toList b.data.toList])
    | (cases h; done)
 · cases h
theorem GA {op : UnOp} {p r : CV} {u : Value} (h : dC op p = some r) (hu : VR ι p u) : ∃ c, VR ι r c ∧ (Op.unary op u).run P w = .ok c w := by
 unfold dC at h
 split at h
 · obtain rfl := bN hu
   cases op <;> simp at h
   subst h
   exact ⟨_, by rw [ez]; exact .nu _ _, by simp [Op.unary, Op.intArith]⟩
 · obtain rfl := dL hu
   cases op <;> simp at h
   subst h
   exact ⟨_, .bo _, by simp [Op.unary]⟩
 · cases h
theorem ao {t : TypeId} {d : TypeDesc} (h : P.underlying t = some d) (w : World) : (underlying t).run P w = .ok d w := by simp [underlying, program, Sem.run, h]
theorem ny {t : TypeId} {i : TypeInfo} (h : P.info? t = some i) (w : World) : (typeInfo t).run P w = .ok i w := by simp [typeInfo, program, Sem.run, h]
theorem bE {t : TypeId} {i : TypeInfo} (h : P.info? t = some i) (w : World) : (sizeOf t).run P w = .ok i.size w := by simp [sizeOf, ny h]
theorem gW {t : TypeId} {i : TypeInfo} {z : Value} (h : P.info? t = some i) (hz : i.zero = some z) (w : World) : (zeroValue t).run P w = .ok z w := by simp [zeroValue, ny h, hz]
theorem kG {t : TypeId} {d : TypeDesc} (h : P.underlying t = some d) (w : World) : (isAgg t).run P w = .ok (lY P t) w := by
 simp only [isAgg, Sem.run_bind, ao h, Result.andThen_ok, lY, h]
 cases d <;> rfl
theorem gm {t : TypeId} {k : IntKind} (h : ae P t = .int k) : P.underlying t = some (.int k) := by
 unfold ae at h
 cases hu : P.underlying t with
 | none => simp [hu] at h
 | some d =>
  cases d <;> simp only [hu] at h <;> (try (repeat' split at h)) <;> simp only [reduceCtorEq, cH.int.injEq] at h
  rw [h]
theorem eA {t : TypeId} (h : ae P t = .str) : P.underlying t = some .string := by
 unfold ae at h
 cases hu : P.underlying t with
 | none => simp [hu] at h
 | some d => cases d <;> simp only [hu] at h <;> (try (repeat' split at h)) <;> first | rfl | (simp only [reduceCtorEq] at h; done)
theorem pT {t : TypeId} (h : ae P t = .bool) : P.underlying t = some .bool := by
 unfold ae at h
 cases hu : P.underlying t with
 | none => simp [hu] at h
 | some d => cases d <;> simp only [hu] at h <;> (try (repeat' split at h)) <;> first | rfl | (simp only [reduceCtorEq] at h; done)
theorem jy {t : TypeId} {e : Nat} (h : ae P t = .ptr e) : P.underlying t = some (.pointer e) := by
 unfold ae at h
 cases hu : P.underlying t with
 | none => simp [hu] at h
 | some d =>
  cases d <;> simp only [hu] at h <;> (try (repeat' split at h)) <;> simp only [reduceCtorEq, cH.ptr.injEq] at h
  rw [h]
theorem mf {t : TypeId} (h : ae P t = .uptr) : P.underlying t = some .unsafePointer := by
 unfold ae at h
 cases hu : P.underlying t with
 | none => simp [hu] at h
 | some d => cases d <;> simp only [hu] at h <;> (try (repeat' split at h)) <;> first | rfl | (simp only [reduceCtorEq] at h; done)
theorem rV {t : TypeId} {k e : Nat} (h : ae P t = .map k e) : P.underlying t = some (.map k e) := by
 unfold ae at h
 cases hu : P.underlying t with
 | none => simp [hu] at h
 | some d =>
  cases d <;> simp only [hu] at h <;> (try (repeat' split at h)) <;> simp only [reduceCtorEq, cH.map.injEq] at h
  obtain ⟨rfl, rfl⟩ := h; rfl
theorem bQ {t : TypeId} {e esz bytes : Nat} {z : List CV} (h : ae P t = .slice e esz bytes z) : P.underlying t = some (.slice e) ∧ ∃ i zv d, P.info? e = some i ∧ i.size = esz ∧ i.bytes = bytes ∧ i.zero = some zv ∧ z = bM zv ∧ P.underlying e = some d := by
 unfold ae at h
 cases hu : P.underlying t with
 | none => simp [hu] at h
 | some d =>
  cases d <;> simp only [hu] at h <;> (try (repeat' split at h)) <;> simp only [reduceCtorEq, cH.slice.injEq] at h
  rename_i e' _ _ i d hi hd _ z' hz
  obtain ⟨rfl, h2, h3, h4⟩ := h
  exact ⟨rfl, i, z', d, hi, h2, h3, hz, h4.symm, hd⟩
theorem jz {t : TypeId} {n e esz : Nat} {g : Bool} {z : List CV} (h : ae P t = .arr n e esz g z) : P.underlying t = some (.array n e) ∧ (∃ i d, P.info? e = some i ∧ i.size = esz ∧ P.underlying e = some d) ∧ lY P e = g ∧ ∃ j zv, P.info? t = some j ∧ j.zero = some zv ∧ z = bM zv := by
 unfold ae at h
 cases hu : P.underlying t with
 | none => simp [hu] at h
 | some d =>
  cases d <;> simp only [hu] at h <;> (try (repeat' split at h)) <;> simp only [reduceCtorEq, cH.arr.injEq] at h
  rename_i n' e' _ _ _ i d j hi hd hj _ zv hz
  obtain ⟨rfl, rfl, h3, h4, h5⟩ := h
  exact ⟨rfl, ⟨i, d, hi, h3, hd⟩, h4, j, zv, hj, hz, h5.symm⟩
theorem nz {t : TypeId} {fs : List (Nat × Nat × Bool)} {z : List CV} (h : ae P t = .strct fs z) :
  ∃ fields i zv, P.underlying t = some (.struct fields) ∧ P.info? t = some i ∧ i.zero = some zv ∧ z = bM zv ∧ fs = fields.toList.map (fun f => (f.offset, P.cellsOf f.type, lY P f.type)) ∧
   ∀ f ∈ fields.toList, (P.info? f.type).isSome = true ∧ (P.underlying f.type).isSome = true ∧ P.cellsOf f.type ≠ 0 := by
 unfold ae at h
 cases hu : P.underlying t with
 | none => simp [hu] at h
 | some d =>
  cases d <;> simp only [hu] at h <;> (try (repeat' split at h)) <;> simp only [reduceCtorEq, cH.strct.injEq] at h
  rename_i fields _ i hi _ zv hz hall
  obtain ⟨h1, h2⟩ := h
  refine ⟨fields, i, zv, rfl, hi, hz, h2.symm, h1.symm, fun f hf => ?_⟩
  have := List.all_eq_true.1 hall f hf
  simp only [Bool.and_eq_true, bne_iff_ne] at this
  exact ⟨this.1.1, this.1.2, this.2⟩
theorem jN {t : TypeId} {n : Nat} {a : Bool} (h : ar P t = some (n, a)) : ∃ i d, P.info? t = some i ∧ i.size = n ∧ P.underlying t = some d ∧ lY P t = a := by
 unfold ar at h
 split at h
 · rename_i i d hi hu
   injection h with h
   injection h with h1 h2
   exact ⟨i, d, hi, h1, hu, h2⟩
 · cases h
theorem qx {t : TypeId} {z : CV} (h : dh P t = some z) : ∃ i zv, P.info? t = some i ∧ i.zero = some zv ∧ z = ofValue zv := by
 unfold dh at h
 split at h
 · rename_i i hi
   split at h
   · rename_i zv hz
     injection h with h
     exact ⟨i, zv, hi, hz, h.symm⟩
   · cases h
 · cases h
end
end Go.CP
