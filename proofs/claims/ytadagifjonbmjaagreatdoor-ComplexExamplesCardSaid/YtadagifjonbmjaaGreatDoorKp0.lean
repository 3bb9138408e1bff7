import Derived.Control
import Derived.Calls
import Derived.Wp
import Derived.Orders
import Derived.Scope
import Derived.Laws.MakeOwn
import Derived.Laws.Strings
import Derived.Laws.StructEq
import Derived.ChangeKeysEq
set_option linter.all false
namespace Go.CP
inductive CV where
 | undef
 | skp
 | bo (x : Bool)
 | nu (k : IntKind) (n : Int)
 | st (s : List Nat)
 | nilp
 | ptr (k o : Nat)
 | nils
 | sle
 | sl (k o n c : Nat)
 | agg (cs : List CV)
 | tup (cs : List CV)
 | fn (f : FuncId) (cs : List CV)
 | nilf
 | mp (k : Nat)
 | nilm
 | yl (k : Nat)
 deriving Inhabited
namespace CV
def cells : CV → List CV
 | .agg cs => cs
 | p => [p]
def one : CV → Bool
 | .undef | .skp | .agg _ | .tup _ => false
 | _ => true
def sol (p : CV) : Bool := p.cells.all one
def isAgg : CV → Bool
 | .agg _ => true
 | _ => false
end CV
inductive Ix where
 | e
 | l (p : Ix)
 | r (p : Ix)
 deriving DecidableEq
def zO : Nat → Nat → Ix
 | 0, _ => .e
 | f + 1, k => match Nat.beq k 0 with
  | true => .e
  | false => match Nat.beq (k % 2) 1 with
   | true => .l (zO f (k / 2))
   | false => .r (zO f (k / 2 - 1))
def ix (k : Nat) : Ix := zO (k + 1) k
inductive T (α : Type) where
 | lf
 | nd (v : Option α) (l r : T α)
def T.vl {α : Type} : T α → Option α
 | .lf => none
 | .nd v _ _ => v
def T.lt {α : Type} : T α → T α
 | .lf => .lf
 | .nd _ l _ => l
def T.rt {α : Type} : T α → T α
 | .lf => .lf
 | .nd _ _ r => r
def T.at {α : Type} : Ix → T α → Option α
 | .e, t => t.vl
 | .l p, t => T.at p t.lt
 | .r p, t => T.at p t.rt
def T.put {α : Type} (x : α) : Ix → T α → T α
 | .e, t => .nd (some x) t.lt t.rt
 | .l p, t => .nd t.vl (T.put x p t.lt) t.rt
 | .r p, t => .nd t.vl t.lt (T.put x p t.rt)
def T.get {α : Type} (t : T α) (k : Nat) : Option α := T.at (ix k) t
def T.set {α : Type} (t : T α) (k : Nat) (x : α) : T α := T.put x (ix k) t
structure Lp where
 st : LoopState
 pend : Option Code
 s : T CV
 f : Nat
 n : Nat
 ps : Array Tmp
 as : Code
 bd : Code
inductive HB where
 | cells (cs : List CV) (aO e : Nat)
 | ro (cs : List CV)
 | mp (es : List (CV × CV))
 | kp (cs ys : List CV) (aO : Nat)
 | fz (cs : List CV)
 | df
 | lp (r : Lp)
 | mi (es : List (CV × CV)) (bs : List Nat) (clock : Nat)
 | it (m since : Nat) (seen : List Nat) (c0 : Nat)
 | dead
structure Hp where
 n : Nat
 t : T HB
def Hp.get (h : Hp) (k : Nat) : HB := match h.t.get k with
 | some b => b
 | none => .dead
def Hp.push (h : Hp) (b : HB) : Hp := ⟨h.n + 1, h.t.set h.n b⟩
def Hp.set (h : Hp) (k : Nat) (b : HB) : Hp := ⟨h.n, h.t.set k b⟩
abbrev Fr := T CV
def Fr.at (s : Fr) (t : Nat) : CV := match s.get t with
 | some p => p
 | none => .undef
def Fr.putO (s : Fr) (d : Option Tmp) (p : CV) : Fr := match d with
 | some d => s.set d p
 | none => s
def eP : Value → CV
 | .bool b => .bo b
 | .int k n => .nu k n
 | .string s => .st (s.data.toList.map (·.toNat))
 | .pointer none => .nilp
 | .slice none 0 0 => .nils
 | .map none => .nilm
 | .nilFunc => .nilf
 | _ => .undef
def ofValue : Value → CV
 | .agg cs => .agg (cs.toList.map eP)
 | v => eP v
def ev (s : Fr) : Operand → CV
 | .tmp t => s.at t
 | .const v => ofValue v
 | .global _ => .undef
 | .func f => .fn f []
inductive cq where
 | int (k : IntKind)
 | bool
 | str
 | slice (e esz bytes : Nat) (zero : List CV)
 | strct (fs : List (Nat × Nat × Bool)) (zero : List CV)
 | arr (n e esz : Nat) (agg : Bool) (zero : List CV)
 | ptr (e : Nat)
 | map (key elem : Nat)
 | uptr
 | other
def lK (P : Program) (t : TypeId) : Bool := match P.underlying t with
 | some (.struct _) | some (.array _ _) => true
 | _ => false
def bR (v : Value) : List CV := v.cells.toList.map eP
def ae (P : Program) (t : TypeId) : cq := match P.underlying t with
 | some (.int k) => .int k
 | some .bool => .bool
 | some .string => .str
 | some (.slice e) => match P.info? e, P.underlying e with
  | some i, some _ => match i.zero with
   | some z => .slice e i.size i.bytes (bR z)
   | none => .other
  | _, _ => .other
 | some (.struct fs) => match P.info? t with
  | some i => match i.zero with
   | some z => if fs.toList.all (fun f => (P.info? f.type).isSome && (P.underlying f.type).isSome && P.cellsOf f.type != 0) then .strct (fs.toList.map fun f => (f.offset, P.cellsOf f.type, lK P f.type)) (bR z) else .other
   | none => .other
  | none => .other
 | some (.array n e) => match P.info? e, P.underlying e, P.info? t with
  | some i, some _, some j => match j.zero with
   | some z => .arr n e i.size (lK P e) (bR z)
   | none => .other
  | _, _, _ => .other
 | some (.pointer e) => .ptr e
 | some (.map k e) => .map k e
 | some .unsafePointer => .uptr
 | _ => .other
def au (P : Program) (t : TypeId) : Option (Nat × Bool) := match P.info? t, P.underlying t with
 | some i, some _ => some (i.size, lK P t)
 | _, _ => none
def cn (P : Program) (t : TypeId) : Option CV := match P.info? t with
 | some i => match i.zero with
  | some z => some (ofValue z)
  | none => none
 | none => none
def cr : Int → Int → Bool
 | .ofNat a, .ofNat b => Nat.ble a b
 | .ofNat _, .negSucc _ => false
 | .negSucc _, .ofNat _ => true
 | .negSucc a, .negSucc b => Nat.ble b a
def eu : Int → Int → Bool
 | .ofNat a, .ofNat b => Nat.beq a b
 | .negSucc a, .negSucc b => Nat.beq a b
 | _, _ => false
def mP : IntKind → IntKind → Bool
 | .i8, .i8 | .i16, .i16 | .i32, .i32 | .i64, .i64 | .u8, .u8 | .u16, .u16 | .u32, .u32 | .u64, .u64 => true
 | _, _ => false
def oa (k : IntKind) (n : Int) : Int := match n with
 | .ofNat a => match k with
  | .i64 => bif Nat.blt a 9223372036854775808 then n else k.wrap n
  | .u64 => bif Nat.blt a 18446744073709551616 then n else k.wrap n
  | .u32 => bif Nat.blt a 4294967296 then n else k.wrap n
  | .u8 => bif Nat.blt a 256 then n else k.wrap n
  | _ => k.wrap n
 | .negSucc a => match k with
  | .i64 => bif Nat.blt a 9223372036854775808 then n else k.wrap n
  | _ => k.wrap n
def fK (k : IntKind) (n : Int) : CV := .nu k (oa k n)
def zP : List Nat → List Nat → Bool
 | [], [] => false
 | [], _ :: _ => true
 | _ :: _, [] => false
 | a :: x, b :: y => bif Nat.blt a b then true else bif Nat.beq a b then zP x y else false
def ga : List Nat → List Nat → Bool
 | [], [] => true
 | a :: x, b :: y => match Nat.beq a b with
  | true => ga x y
  | false => false
 | _, _ => false
def qQ (op : BinOp) : CV → CV → Option CV
 | .nu k x, .nu k' y => match op with
  | .shl => match y with
   | .ofNat a => some (fK k (x * 2 ^ (min a k.bits)))
   | _ => none
  | .shr => match y with
   | .ofNat a => some (.nu k (x.fdiv (2 ^ (min a k.bits))))
   | _ => none
  | _ => match mP k k' with
   | false => none
   | true => match op with
    | .add => some (fK k (x + y))
    | .sub => some (fK k (x - y))
    | .mul => some (fK k (x * y))
    | .quo => match eu y 0 with
     | true => none
     | false => some (fK k (x.tdiv y))
    | .rem => match eu y 0 with
     | true => none
     | false => some (.nu k (x.tmod y))
    | .eql => some (.bo (eu x y))
    | .neq => some (.bo (!(eu x y)))
    | .lss => some (.bo (!(cr y x)))
    | .leq => some (.bo (cr x y))
    | .gtr => some (.bo (!(cr x y)))
    | .geq => some (.bo (cr y x))
    | _ => none
 | .st x, .st y => match op with
  | .add => match Nat.ble (x.length + y.length) 9223372036854775807 with
   | true => some (.st (x ++ y))
   | false => none
  | .eql => some (.bo (ga x y))
  | .neq => some (.bo (!(ga x y)))
  | .lss => some (.bo (zP x y))
  | .gtr => some (.bo (zP y x))
  | _ => none
 | _, _ => none
def iX : CV → CV → Option Bool
 | .nu k x, .nu k' y => match mP k k' with
  | true => some (eu x y)
  | false => none
 | .st x, .st y => some (ga x y)
 | .bo x, .bo y => some (x == y)
 | _, _ => none
def cB : List CV → List CV → Option Bool
 | [], [] => some true
 | a :: x, b :: y => match iX a b with
  | some true => cB x y
  | some false => some false
  | none => none
 | _, _ => none
def cL : cq → Bool
 | .int _ | .str | .bool => true
 | _ => false
def fi (P : Program) (t : TypeId) (p : CV) : Bool := match ae P t with
 | .int _ => match p with
  | .nu _ _ => true
  | _ => false
 | .str => match p with
  | .st _ => true
  | _ => false
 | .bool => match p with
  | .bo _ => true
  | _ => false
 | _ => false
def kP (P : Program) : List Field → List CV → List CV → Option Bool
 | [], _, _ => some true
 | f :: l, xs, ys => match f.name == "_" with
  | true => none
  | false => match xs[f.offset]?, ys[f.offset]? with
   | some a, some b => match fi P f.type a with
    | true => match iX a b with
     | some true => kP P l xs ys
     | some false => some false
     | none => none
    | false => none
   | _, _ => none
def IC (P : Program) (t : TypeId) (xs ys : List CV) : Option TypeDesc → Option Bool
 | some (.struct fs) => match P.stoodInHeld t with
  | true => none
  | false => match fs.toList.all (fun f => cL (ae P f.type)) with
   | true => kP P fs.toList xs ys
   | false => none
 | _ => none
def ID (sz : Option (Nat × Bool)) : CV → CV → Option Bool
 | .nilp, .nilp => some true
 | .nilp, .ptr _ _ => some false
 | .ptr _ _, .nilp => some false
 | .ptr k o, .ptr k' o' => match sz with
  | some (n, _) => match !(Nat.beq n 0) && Nat.beq k k' with
   | true => some (Nat.beq o o')
   | false => none
  | none => none
 | _, _ => none
def sT (P : Program) (t : TypeId) (p q : CV) : Option Bool := match ae P t with
 | .bool => match p, q with
  | .bo x, .bo y => some (x == y)
  | _, _ => none
 | .slice _ _ _ _ => match p, q with
  | .nils, .nils => some true
  | .nils, .sl _ _ _ _ => some false
  | .nils, .sle => some false
  | .sl _ _ _ _, .nils => some false
  | .sle, .nils => some false
  | _, _ => none
 | .arr n e esz _ _ => match p, q with
  | .agg xs, .agg ys => match cL (ae P e) && xs.all (fi P e) && Nat.beq esz 1 && Nat.beq xs.length n && Nat.beq ys.length n with
   | true => cB xs ys
   | false => none
  | _, _ => none
 | .strct _ _ => match p, q with
  | .agg xs, .agg ys => IC P t xs ys (P.underlying t)
  | _, _ => none
 | .ptr el => ID (au P el) p q
 | _ => none
def ac (P : Program) (op : BinOp) (t : TypeId) (p q : CV) : Option CV := match qQ op p q with
 | some v => some v
 | none => match op with
  | .eql => match sT P t p q with
   | some b => some (.bo b)
   | none => none
  | .neq => match sT P t p q with
   | some b => some (.bo (!b))
   | none => none
  | _ => none
def ec (op : UnOp) : CV → Option CV
 | .nu k n => match op with
  | .neg => some (fK k (0 - n))
  | _ => none
 | .bo b => match op with
  | .not => some (.bo (!b))
  | _ => none
 | _ => none
def setAt {α : Type} : List α → Nat → List α → List α
 | cs, _, [] => cs
 | [], _, _ => []
 | c :: cs, 0, x :: xs => x :: setAt cs 0 xs
 | c :: cs, o + 1, xs => c :: setAt cs o xs
def sub (cs : List CV) (o n : Nat) : List CV := (cs.drop o).take n
def dG (z : List CV) : Nat → List CV
 | 0 => []
 | n + 1 => z ++ dG z n
def od (fs : List (Nat × Nat × Bool)) : List CV → List (Nat × CV) → Option (List CV)
 | cs, [] => some cs
 | cs, (i, p) :: rest => match fs[i]? with
  | none => none
  | some (off, size, _) => match Nat.beq p.cells.length size && Nat.ble (off + size) cs.length with
   | true => od fs (setAt cs off p.cells) rest
   | false => none
def kh (esz : Nat) : List CV → List (Nat × CV) → Option (List CV)
 | cs, [] => some cs
 | cs, (i, p) :: rest => match Nat.beq p.cells.length esz && Nat.ble (i * esz + esz) cs.length with
  | true => kh esz (setAt cs (i * esz) p.cells) rest
  | false => none
def val (cs : List CV) (o n : Nat) (agg : Bool) : Option CV := match Nat.ble (o + n) cs.length with
 | false => none
 | true => match agg with
  | true => some (.agg (sub cs o n))
  | false => match Nat.beq n 1 with
   | true => cs[o]?
   | false => none
def dH : CV → CV → Option Bool
 | .agg xs, .agg ys => cB xs ys
 | x, y => iX x y
def bY (key : CV) : List (CV × CV) → Option (Option CV)
 | [] => some none
 | (k, v) :: es => match dH key k with
  | some true => some (some v)
  | some false => bY key es
  | none => none
def gc (key v : CV) : List (CV × CV) → Option (List (CV × CV))
 | [] => some [(key, v)]
 | (k, u) :: es => match dH key k with
  | some true => some ((k, v) :: es)
  | some false => match gc key v es with
   | some es' => some ((k, u) :: es')
   | none => none
  | none => none
def gd (P : Program) : List Field → Nat → List CV → Bool
 | [], _, [] => true
 | f :: fs, j, c :: cs => Nat.beq f.offset j && !(f.name == "_") && cL (ae P f.type) && fi P f.type c && gd P fs (j + 1) cs
 | _, _, _ => false
def CX (P : Program) (t : TypeId) (cs : List CV) : Option TypeDesc → Bool
 | some (.struct fs) => !(P.stoodInHeld t) && gd P fs.toList 0 cs
 | _ => false
def kj (P : Program) (t : TypeId) (p : CV) : Bool := match ae P t with
 | .int _ => match p with
  | .nu _ _ => true
  | _ => false
 | .str => match p with
  | .st _ => true
  | _ => false
 | .arr n e esz _ _ => match p, ae P e with
  | .agg cs, .int k => Nat.beq esz 1 && Nat.beq cs.length n && cs.all fun c => match c with
   | .nu k' _ => mP k k'
   | _ => false
  | _, _ => false
 | .strct _ _ => match p with
  | .agg cs => CX P t cs (P.underlying t)
  | _ => false
 | _ => false
def bk (o n : Nat) : HB → Option (List CV)
 | .cells cs _ _ => match Nat.ble (o + n) cs.length with
  | true => some (sub cs o n)
  | false => none
 | .ro cs => match Nat.ble (o + n) cs.length with
  | true => some (sub cs o n)
  | false => none
 | .kp cs _ _ => match Nat.ble (o + n) cs.length with
  | true => some (sub cs o n)
  | false => none
 | .fz cs => match Nat.ble (o + n) cs.length with
  | true => some (sub cs o n)
  | false => none
 | _ => none
def cellsOf (h : Hp) (esz : Nat) : CV → Option (List CV)
 | .nils => some []
 | .sle => some []
 | .sl k o n _ => match Nat.beq n 0 with
  | true => some []
  | false => bk o (n * esz) (h.get k)
 | _ => none
def fL (e : Operand → CV) (x : Option Operand) (d : Nat) : Option Nat := match x with
 | none => some d
 | some x => match e x with
  | .nu _ (.ofNat n) => some n
  | _ => none
abbrev uJ := (Nat → CV) × HB
def dM (t : Nat) : Option CV → Option uJ
 | some z => some (fun k => .ptr k 0, .cells z.cells 0 t)
 | none => none
def cK (t : Nat) (x : CV) : Option (Nat × Bool) → Option uJ
 | some (n, a) => match x.sol && Nat.beq x.cells.length n with
  | true => some (fun k => .ptr k 0, .cells x.cells 0 t)
  | false => none
 | none => none
def aC (len : Nat) (parts : List (Nat × CV)) : cq → Option uJ
 | .slice el esz _ z => match Nat.beq z.length esz && Nat.ble (len * esz) 16777216 && parts.all (fun p => p.2.sol) with
  | true => match kh esz (dG z len) parts with
   | some cs => some (fun k => .sl k 0 len len, .cells cs 0 el)
   | none => none
  | false => none
 | _ => none
def pT (l c : CV) : cq → Option uJ
 | .slice el esz bytes z => match l with
  | .nu _ (.ofNat l) => match c with
   | .nu _ (.ofNat c) => match Nat.beq z.length esz && Nat.ble l c && Nat.ble (c * bytes) 140737488355328 && Nat.ble c 9223372036854775807 with
    | true => some (fun k => .sl k 0 l c, .cells (dG z c) 0 el)
    | false => none
   | _ => none
  | _ => none
 | _ => none
def cZ (P : Program) (x : CV) : cq → cq → Option uJ
 | .str, .slice el _ _ _ => match x with
  | .st s => match ae P el with
   | .int .u8 => some (fun k => .sl k 0 s.length s.length, .ro (s.map fun c => .nu .u8 (.ofNat c)))
   | _ => none
  | _ => none
 | _, _ => none
def bA (P : Program) (o : Oper) (e : Operand → CV) : Option uJ := match o.op with
 | .alloc t => dM t (cn P t)
 | .box t x => cK t (e x) (au P t)
 | .buildSlice t len parts => aC len (parts.toList.map fun p => (p.1, e p.2)) (ae P t)
 | .makeSlice t l c => pT (e l) (e c) (ae P t)
 | .makeMap t none => some (fun k => .mp k, .mp [])
 | .convert src dst x => cZ P (e x) (ae P src) (ae P dst)
 | _ => none
def az (a b : CV) : CV → Option CV
 | .bo true => some a
 | .bo false => some b
 | _ => none
def lc (parts : List (Nat × CV)) (t : cq) : Option CV := match parts.all (fun p => p.2.sol) with
 | false => none
 | true => match t with
  | .strct fs z => match od fs z parts with
   | some cs => some (.agg cs)
   | none => none
  | .arr n _ esz _ z => match kh esz z parts with
   | some cs => some (.agg cs)
   | none => none
  | _ => none
def eZ (o n : Nat) (a : Bool) : HB → Option CV
 | .cells cs _ _ => val cs o n a
 | .ro cs => val cs o n a
 | .kp cs _ _ => val cs o n a
 | .fz cs => val cs o n a
 | _ => none
def ao (h : Hp) (x : CV) : Option (Nat × Bool) → Option CV
 | some (n, a) => match x with
  | .ptr k o => eZ o n a (h.get k)
  | _ => none
 | none => none
def CY : CV → Option CV
 | .ptr k o => some (.ptr k o)
 | .fn f cs => some (.fn f cs)
 | .yl k => some (.yl k)
 | _ => none
def dN (f : Nat) (x : CV) : cq → Option CV
 | .strct fs _ => match x with
  | .ptr k o => match fs[f]? with
   | some (off, _, _) => some (.ptr k (o + off))
   | none => none
  | _ => none
 | _ => none
def uK (f : Nat) (x : CV) : cq → Option CV
 | .strct fs _ => match x with
  | .agg cs => match fs[f]? with
   | some (off, size, a) => val cs off size a
   | none => none
  | _ => none
 | _ => none
def sU (k o n esz : Nat) : CV → Option CV
 | .nu _ (.ofNat i) => match Nat.blt i n with
  | true => some (.ptr k (o + i * esz))
  | false => none
 | _ => none
def ak (x i : CV) : cq → Option CV
 | .slice _ esz _ _ => match x with
  | .sl k o n _ => sU k o n esz i
  | _ => none
 | .arr n _ esz _ _ => match x with
  | .ptr k o => sU k o n esz i
  | _ => none
 | _ => none
def bD (x i : CV) : cq → Option CV
 | .str => match x with
  | .st s => match i with
   | .nu _ (.ofNat i) => match s[i]? with
    | some c => some (.nu .u8 (.ofNat c))
    | none => none
   | _ => none
  | _ => none
 | _ => none
def fX (cs : List CV) (aO o c : Nat) : Bool := Nat.beq aO 0 || !(Nat.beq (o + c * aO) cs.length)
def mQ (s : List Nat) : Option Nat → Option Nat → Option CV
 | some a, some b => match Nat.ble a b && Nat.ble b s.length with
  | true => some (.st ((s.drop a).take (b - a)))
  | false => none
 | _, _ => none
def gw (k o c : Nat) : HB → Option CV
 | .cells cs aO _ => match fX cs aO o c with
  | true => some (.sl k o 0 0)
  | false => some .sle
 | .ro _ => some .sle
 | _ => none
def qR (esz : Nat) : HB → Bool
 | .cells _ aO _ => Nat.beq aO 0 || Nat.beq aO esz
 | .ro _ => true
 | _ => false
def dA (h : Hp) (esz k o c : Nat) : Option Nat → Option Nat → Option CV
 | some a, some b => match Nat.ble a b && Nat.ble b c with
  | true => match Nat.blt a c with
   | true => match qR esz (h.get k) with
    | true => some (.sl k (o + a * esz) (b - a) (c - a))
    | false => none
   | false => gw k o c (h.get k)
  | false => none
 | _, _ => none
def kk : Option Nat → Option Nat → Option CV
 | some a, some b => match Nat.beq a 0 && Nat.beq b 0 with
  | true => some .nils
  | false => none
 | _, _ => none
def E8 : HB → Bool
 | .cells _ aO _ => Nat.beq aO 0
 | .ro _ => true
 | _ => false
def mR (h : Hp) (n esz k o : Nat) : Option Nat → Option Nat → Option CV
 | some a, some b => match Nat.ble a b && Nat.ble b n && E8 (h.get k) with
  | true => match Nat.blt a n with
   | true => some (.sl k (o + a * esz) (b - a) (n - a))
   | false => some (.sl k o 0 0)
  | false => none
 | _, _ => none
def iC (e : Operand → CV) (lo hi : Option Operand) (h : Hp) (x : CV) : cq → Option CV
 | .str => match x with
  | .st s => mQ s (fL e lo 0) (fL e hi s.length)
  | _ => none
 | .slice _ esz _ _ => match x with
  | .nils => kk (fL e lo 0) (fL e hi 0)
  | .sl k o n c => dA h esz k o c (fL e lo 0) (fL e hi n)
  | _ => none
 | .arr n _ esz _ _ => match x with
  | .ptr k o => mR h n esz k o (fL e lo 0) (fL e hi n)
  | _ => none
 | _ => none
def jr (e : Operand → CV) (lo hi : Option Operand) (mx : Operand) (x : CV) : cq → Option CV
 | .slice _ _ _ _ => match x with
  | .sl _ _ _ c => match hi with
   | some hh => match fL e lo 0 with
    | some a => match fL e (some hh) 0 with
     | some b => match fL e (some mx) 0 with
      | some m => match Nat.ble a b && Nat.ble b m && Nat.ble m c with
       | true => some .undef
       | false => none
      | none => none
     | none => none
    | none => none
   | none => none
  | _ => none
 | _ => none
def ar (i : Nat) : CV → Option CV
 | .tup vs => vs[i]?
 | _ => none
def uz : CV → Bool
 | .nu .u8 (.ofNat a) => Nat.blt a 256
 | _ => false
def gH : CV → Nat
 | .nu .u8 (.ofNat a) => a
 | _ => 0
def E9 (el : cq) (esz : Nat) : Option (List CV) → Option CV
 | some cs => match el with
  | .int .u8 => match cs.all uz && Nat.beq esz 1 with
   | true => some (.st (cs.map gH))
   | false => none
  | _ => none
 | none => none
def LV (o : Nat) : HB → Bool
 | .cells cs _ _ => Nat.blt o cs.length
 | _ => false
def yB (P : Program) (u o : Nat) : HB → Bool
 | .cells cs aO el => Nat.beq aO 0 && liesAt P P.depth el (cs.length / P.cellsOf el) o u 1
 | _ => false
def IE (P : Program) (h : Hp) (u : Nat) : CV → Option CV
 | .nilp => some .nilp
 | .ptr k o => match au P u with
  | some (n, _) => match !(Nat.beq n 0) && LV o (h.get k) with
   | true => some (.ptr k o)
   | false => none
  | none => none
 | _ => none
def zQ (P : Program) (h : Hp) (u : Nat) : CV → Option CV
 | .nilp => some .nilp
 | .ptr k o => match au P u with
  | some _ => match yB P u o (h.get k) with
   | true => some (.ptr k o)
   | false => none
  | none => none
 | _ => none
def dl (P : Program) (h : Hp) (x : CV) : cq → cq → Option CV
 | .int _, .int k => match x with
  | .nu _ n => some (fK k n)
  | _ => none
 | .str, .str => match x with
  | .st s => some (.st s)
  | _ => none
 | .slice el esz _ _, .str => E9 (ae P el) esz (cellsOf h esz x)
 | .ptr u, .uptr => IE P h u x
 | .uptr, .ptr u => zQ P h u x
 | _, _ => none
def IF (f : FuncId) (caps : List CV) : List Operand → Option CV
 | [] => some (.fn f caps)
 | _ => none
def xr (ok : Bool) (v : CV) (b : Bool) : CV := match ok with
 | true => .tup [v, .bo b]
 | false => v
def pU (ok : Bool) (z : CV) : Option (Option CV) → Option CV
 | some (some v) => some (xr ok v true)
 | some none => some (xr ok z false)
 | none => none
def pV (ok : Bool) (z key : CV) : HB → Option CV
 | .mp es => pU ok z (bY key es)
 | _ => none
def uA (h : Hp) (ok : Bool) (key x : CV) : Option CV → Option CV
 | some z => match x with
  | .nilm => some (xr ok z false)
  | .mp k => pV ok z key (h.get k)
  | _ => none
 | none => none
def ed (P : Program) (h : Hp) (ok : Bool) (key x : CV) : cq → Option CV
 | .map kt et => match kj P kt key with
  | true => uA h ok key x (cn P et)
  | false => none
 | _ => none
def yC : HB → Option CV
 | .mp es => some (.nu .i64 (.ofNat es.length))
 | _ => none
def aB (h : Hp) (x : CV) : cq → Option CV
 | .map _ _ => match x with
  | .nilm => some (.nu .i64 (.ofNat 0))
  | .mp k => yC (h.get k)
  | _ => none
 | .slice _ _ _ _ => match x with
  | .sl _ _ n _ => some (.nu .i64 (.ofNat n))
  | .nils => some (.nu .i64 (.ofNat 0))
  | .sle => some (.nu .i64 (.ofNat 0))
  | _ => none
 | .str => match x with
  | .st s => some (.nu .i64 (.ofNat s.length))
  | _ => none
 | _ => none
def uL : CV → CV → Option CV
 | .nu k a, .nu _ b => some (.nu k (match cr b a with
  | true => a
  | false => b))
 | _, _ => none
def uM : CV → CV → Option CV
 | .nu k a, .nu _ b => some (.nu k (match cr a b with
  | true => a
  | false => b))
 | _, _ => none
def oe (P : Program) (h : Hp) (e : Operand → CV) : List TypeId → List Operand → Option CV
 | [t], [x] => aB h (e x) (ae P t)
 | _, _ => none
def pW (e : Operand → CV) : List Operand → Option CV
 | [x, y] => uL (e x) (e y)
 | _ => none
def pX (e : Operand → CV) : List Operand → Option CV
 | [x, y] => uM (e x) (e y)
 | _ => none
def Fa : CV → Option CV
 | .nils => some .nilp
 | .sl k o _ c => match Nat.beq c 0 with
  | true => none
  | false => some (.ptr k o)
 | _ => none
def pY (e : Operand → CV) : List Operand → Option CV
 | [x] => Fa (e x)
 | _ => none
def po : cq → CV → Option CV
 | .slice _ _ _ _, .nils => some (.nu .i64 (.ofNat 0))
 | _, _ => none
def pZ (P : Program) (e : Operand → CV) : List TypeId → List Operand → Option CV
 | [t], [x] => po (ae P t) (e x)
 | _, _ => none
def eA (P : Program) (h : Hp) (c : Call) (e : Operand → CV) : Builtin → Option CV
 | .len => oe P h e c.argTypes.toList c.args.toList
 | .max => pW e c.args.toList
 | .min => pX e c.args.toList
 | .unsafeSliceData => pY e c.args.toList
 | .cap => pZ P e c.argTypes.toList c.args.toList
 | _ => none
def jb (P : Program) (h : Hp) (c : Call) (e : Operand → CV) : Callee → Option CV
 | .builtin b => eA P h c e b
 | _ => none
def qX (P : Program) (o : Oper) (e : Operand → CV) (h : Hp) : Option CV := match o.op with
 | .move x => some (e x)
 | .assign x => some (e x)
 | .pick c a b => az (e a) (e b) (e c)
 | .build t parts => lc (parts.toList.map fun p => (p.1, e p.2)) (ae P t)
 | .load t x => ao h (e x) (au P t)
 | .nilCheck x => CY (e x)
 | .binOp op t x y _ => ac P op t (e x) (e y)
 | .unOp op _ x => ec op (e x)
 | .fieldAddr t x f => dN f (e x) (ae P t)
 | .field t x f => uK f (e x) (ae P t)
 | .indexAddr t x i => ak (e x) (e i) (ae P t)
 | .index t x i => bD (e x) (e i) (ae P t)
 | .slice t x lo hi none => iC e lo hi h (e x) (ae P t)
 | .slice t x lo hi (some mx) => jr e lo hi mx (e x) (ae P t)
 | .extract x i => ar i (e x)
 | .convert src dst x => dl P h (e x) (ae P src) (ae P dst)
 | .makeFunc (.func f) first caps => IF f (caps.toList.map e) first.toList
 | .lookup t x i ok => ed P h ok (e i) (e x) (ae P t)
 | .call c => jb P h c e c.callee
 | _ => none
def db (h : Hp) (k o n : Nat) (x : CV) : HB → Option (CV × Hp)
 | .cells cs aO el => match x.sol && Nat.beq x.cells.length n && Nat.ble (o + n) cs.length with
  | true => some (.undef, h.set k (.cells (setAt cs o x.cells) aO el))
  | false => none
 | _ => none
def bt (h : Hp) (a x : CV) : Option (Nat × Bool) → Option (CV × Hp)
 | some (n, _) => match a with
  | .ptr k o => db h k o n x (h.get k)
  | _ => none
 | none => none
def uB (h : Hp) (k : Nat) : Option (List (CV × CV)) → Option (CV × Hp)
 | some es => some (.undef, h.set k (.mp es))
 | none => none
def uC (h : Hp) (k : Nat) (key x : CV) : HB → Option (CV × Hp)
 | .mp es => uB h k (gc key x es)
 | _ => none
def iQ (P : Program) (h : Hp) (m key x : CV) : cq → Option (CV × Hp)
 | .map kt _ => match kj P kt key with
  | true => match m with
   | .mp k => uC h k key x (h.get k)
   | _ => none
  | false => none
 | _ => none
def yD (h : Hp) (esz k o n c m : Nat) (ys : List CV) : HB → Option (CV × Hp)
 | .cells cs aO el => match Nat.ble (o + (n + m) * esz) cs.length with
  | true => some (.sl k o (n + m) c, h.set k (.cells (setAt cs (o + n * esz) ys) aO el))
  | false => none
 | _ => none
def jD (h : Hp) (el esz k o n c m : Nat) (ys : List CV) : HB → Option (CV × Hp)
 | .cells cs aO te => match Nat.ble (o + n * esz) cs.length with
  | true => match fX cs aO o c with
   | true => some (.sl h.n 0 (n + m) (n + m), h.push (.cells (sub cs o (n * esz) ++ ys) esz el))
   | false => match Nat.beq aO esz && Nat.beq n c && Nat.beq te el with
    | true => some (.sl h.n 0 (n + m) (n + m), (h.set k .dead).push (.cells (sub cs o (n * esz) ++ ys) esz el))
    | false => none
  | false => none
 | _ => none
def lenV : CV → Nat
 | .sl _ _ n _ => n
 | _ => 0
def eC (h : Hp) (el esz : Nat) (x : CV) (ys : List CV) (m : Nat) : Option (CV × Hp) := match x with
 | .nils => match Nat.beq m 0 with
  | true => some (.nils, h)
  | false => some (.sl h.n 0 m m, h.push (.cells ys esz el))
 | .sl k o n c => match Nat.beq m 0 with
  | true => match Nat.ble n c with
   | true => some (.sl k o n c, h)
   | false => none
  | false => match Nat.ble (n + m) c with
   | true => yD h esz k o n c m ys (h.get k)
   | false => jD h el esz k o n c m ys (h.get k)
 | _ => none
def gV (h : Hp) (el esz bytes : Nat) (z : List CV) (x : CV) (m : Nat) : Option (List CV) → Option (CV × Hp)
 | some ys => match ys.all CV.one && Nat.beq z.length esz && Nat.blt 0 esz && Nat.ble ((lenV x + m) * bytes) 70368744177664 && Nat.ble (lenV x + m) 4611686018427387904 with
  | true => eC h el esz x ys m
  | false => none
 | none => none
def yE : CV → Option (List CV)
 | .st s => some (s.map fun c => .nu .u8 (.ofNat c))
 | _ => none
def IG : CV → Nat
 | .st s => s.length
 | _ => 0
def CZ (h : Hp) (el esz bytes : Nat) (z : List CV) : CV → CV → Option (CV × Hp)
 | .nils, .nu .i64 (.ofNat m) => match Nat.beq z.length esz && Nat.blt 0 esz && Nat.blt 0 m && Nat.ble (m * bytes) 70368744177664 && Nat.ble m 4611686018427387904 with
  | true => some (.sl h.n 0 m m, h.push (.cells (dG z m) esz el))
  | false => none
 | _, _ => none
def be (h : Hp) (x y : CV) : cq → cq → Option (CV × Hp)
 | .slice el esz bytes z, .slice _ _ _ _ => gV h el esz bytes z x (lenV y) (cellsOf h esz y)
 | .slice el esz bytes z, .str => match Nat.beq esz 1 with
  | true => gV h el esz bytes z x (IG y) (yE y)
  | false => none
 | .slice el esz bytes z, .int .i64 => CZ h el esz bytes z x y
 | _, _ => none
def kl (P : Program) (e : Operand → CV) (h : Hp) : List TypeId → List Operand → Option (CV × Hp)
 | [t, t'], [x, y] => be h (e x) (e y) (ae P t) (ae P t')
 | _, _ => none
def pq : CV → Bool
 | .nu _ _ | .st _ | .bo _ => true
 | _ => false
def Fb (h : Hp) (esz k o n c m : Nat) (ys : List CV) : HB → Option (CV × Hp)
 | .cells cs aO _ => match Nat.beq (o + n * esz) cs.length && Nat.beq aO esz && Nat.beq n c && Nat.blt 0 n && Nat.blt 0 m && ys.all pq with
  | true => some (.sl h.n 0 (n + m) (n + m), (h.set k (.kp cs ys aO)).push (.ro (sub cs o (n * esz) ++ ys)))
  | false => none
 | .kp cs zs aO => match Nat.beq (o + n * esz) cs.length && Nat.beq aO esz && Nat.beq n c && Nat.blt 0 n && Nat.blt 0 m with
  | true => match cB ys zs with
   | some true => some (.sl h.n 0 (n + m) (n + m), h.push (.ro (sub cs o (n * esz) ++ ys)))
   | _ => none
  | false => none
 | _ => none
def Fc (h : Hp) (esz : Nat) (x : CV) (ys : List CV) (m : Nat) : Option (CV × Hp) := match x with
 | .sl k o n c => Fb h esz k o n c m ys (h.get k)
 | _ => none
def II (h : Hp) (x y : CV) : cq → cq → Option (CV × Hp)
 | .slice _ esz bytes z, .slice _ _ _ _ => match cellsOf h esz y with
  | some ys => match ys.all CV.one && Nat.beq z.length esz && Nat.blt 0 esz && Nat.ble ((lenV x + lenV y) * bytes) 70368744177664 && Nat.ble (lenV x + lenV y) 4611686018427387904 with
   | true => Fc h esz x ys (lenV y)
   | false => none
  | none => none
 | _, _ => none
def og (P : Program) (e : Operand → CV) (h : Hp) : List TypeId → List Operand → Option (CV × Hp)
 | [t, t'], [x, y] => II h (e x) (e y) (ae P t) (ae P t')
 | _, _ => none
class HK where
 keep : Oper → Bool
 dr : Nat → Nat
 mono : ∀ {a b : Nat}, a ≤ b → dr a ≤ dr b
class DR [HK] : Prop where
 d : ∀ n, HK.dr n = n
variable [HK]
def zR (P : Program) (h : Hp) (k o n pe : Nat) : HB → Option (CV × Hp)
 | .cells cs _ el => match Nat.beq el pe && Nat.beq (P.cellsOf pe) 1 && Nat.ble (o + n) cs.length && (sub cs o n).all uz && Nat.ble n 9223372036854775807 with
  | true => some (.st ((sub cs o n).map gH), h.set k (.fz cs))
  | false => none
 | _ => none
def Fe (P : Program) (h : Hp) (p n : CV) : cq → Option (CV × Hp)
 | .ptr pe => match n with
  | .nu .i64 (.ofNat n) => match p with
   | .nilp => match Nat.beq n 0 with
    | true => some (.st [], h)
    | false => none
   | .ptr k o => match Nat.beq n 0 with
    | true => some (.st [], h)
    | false => zR P h k o n pe (h.get k)
   | _ => none
  | _ => none
 | _ => none
def lg (P : Program) (e : Operand → CV) (h : Hp) : List TypeId → List Operand → Option (CV × Hp)
 | [t, _], [p, n] => Fe P h (e p) (e n) (ae P t)
 | _, _ => none
def Ff (h : Hp) (k o n esz : Nat) (z : List CV) : HB → Option (CV × Hp)
 | .cells cs aO el => match Nat.ble (o + n * esz) cs.length with
  | true => some (.tup [], h.set k (.cells (setAt cs o (dG z n)) aO el))
  | false => none
 | _ => none
def IJ (h : Hp) (x : CV) : cq → Option (CV × Hp)
 | .slice _ esz _ z => match x with
  | .nils => some (.tup [], h)
  | .sle => some (.tup [], h)
  | .sl k o n _ => match Nat.beq n 0 with
   | true => some (.tup [], h)
   | false => match Nat.beq z.length esz && z.all CV.one with
    | true => Ff h k o n esz z (h.get k)
    | false => none
  | _ => none
 | _ => none
def oh (P : Program) (e : Operand → CV) (h : Hp) : List TypeId → List Operand → Option (CV × Hp)
 | [t], [x] => IJ h (e x) (ae P t)
 | _, _ => none
def lL (P : Program) (o : Oper) (c : Call) (e : Operand → CV) (h : Hp) : Callee → Option (CV × Hp)
 | .builtin .append => match HK.keep o with
  | true => match og P e h c.argTypes.toList c.args.toList with
   | some r => some r
   | none => kl P e h c.argTypes.toList c.args.toList
  | false => kl P e h c.argTypes.toList c.args.toList
 | .builtin .unsafeString => lg P e h c.argTypes.toList c.args.toList
 | .builtin .clear => oh P e h c.argTypes.toList c.args.toList
 | _ => none
def wX (P : Program) (o : Oper) (e : Operand → CV) (h : Hp) : Option (CV × Hp) := match o.op with
 | .store t a x => bt h (e a) (e x) (au P t)
 | .mapUpdate t m key x => iQ P h (e m) (e key) (e x) (ae P t)
 | .call c => lL P o c e h c.callee
 | _ => none
def gS (P : Program) (o : Oper) (e : Operand → CV) (h : Hp) : Option (CV × Hp) := match qX P o e h with
 | some v => some (v, h)
 | none => match bA P o e with
  | some (f, b) => some (f h.n, h.push b)
  | none => wX P o e h
end Go.CP
namespace Go.CP
variable [HK]
inductive Tg where
 | fn (f : FuncId)
 | yl (k : Nat)
abbrev dE := Tg → List CV → Hp → Option (CV × Hp)
abbrev cM := FuncId → List CV → Option CV
def gy (P : Program) (prim : cM) (call : dE) (o : Oper) (e : Operand → CV) (h : Hp) : Option (CV × Hp) := match o.op with
 | .call c => match c.callee with
  | .value g => match e g with
   | .fn f caps => match prim f (c.args.toList.map e ++ caps) with
    | some v => some (v, h)
    | none => call (.fn f) (c.args.toList.map e ++ caps) h
   | .yl k => call (.yl k) (c.args.toList.map e) h
   | _ => none
  | _ => gS P o e h
 | _ => gS P o e h
def bN (ops : Array Oper) (o : Oper) (s : Fr) : Option Bool := match o.guard with
 | none => some true
 | some (j, want) => match ops[j]? with
  | none => none
  | some g => match g.dst with
   | none => none
   | some t => match s.at t with
    | .bo b => some (b == want)
    | .skp => some false
    | _ => none
def eD (P : Program) (prim : cM) (call : dE) (ops : Array Oper) : List Oper → Fr → Hp → Option (Fr × Hp)
 | [], s, h => some (s, h)
 | o :: l, s, h => match bN ops o s with
  | some true => match gy P prim call o (ev s) h with
   | some (v, h') => eD P prim call ops l (Fr.putO s o.dst v) h'
   | none => none
  | some false => eD P prim call ops l (Fr.putO s o.dst .skp) h
  | none => none
inductive Stp where
 | take (i : Nat)
 | only (i : Nat) (keep : List Nat)
abbrev Stp.t (i : Nat) : Stp := .take i
abbrev Stp.o (i : Nat) (l : List Nat) : Stp := .only i l
structure Pd where
 i : Nat
 o : Oper
 skip : Bool
 c : CV
 lay : Option (Nat × HB)
def gW (f : CV → CV → Bool) : List CV → List CV → Bool
 | [], [] => true
 | x :: xs, y :: ys => match f x y with
  | true => gW f xs ys
  | false => false
 | _, _ => false
def mS : Nat → CV → CV → Bool
 | 0, _, _ => false
 | d + 1, x, y => match x, y with
  | .undef, .undef => true
  | .skp, .skp => true
  | .bo a, .bo b => a == b
  | .nu k a, .nu k' b => mP k k' && eu a b
  | .st a, .st b => ga a b
  | .nilp, .nilp => true
  | .ptr k o, .ptr k' o' => Nat.beq k k' && Nat.beq o o'
  | .nils, .nils => true
  | .sle, .sle => true
  | .sl k o n c, .sl k' o' n' c' => Nat.beq k k' && Nat.beq o o' && Nat.beq n n' && Nat.beq c c'
  | .agg xs, .agg ys => gW (mS d) xs ys
  | .tup xs, .tup ys => gW (mS d) xs ys
  | .fn f xs, .fn g ys => Nat.beq f g && gW (mS d) xs ys
  | .nilf, .nilf => true
  | .mp k, .mp k' => Nat.beq k k'
  | .yl k, .yl k' => Nat.beq k k'
  | .nilm, .nilm => true
  | _, _ => false
def ceq : CV → CV → Bool := mS 10
def fj : HB → HB → Bool
 | .cells xs m e, .cells ys m' e' => Nat.beq m m' && Nat.beq e e' && gW ceq xs ys
 | .ro xs, .ro ys => gW ceq xs ys
 | .mp [], .mp [] => true
 | _, _ => false
def IK : cq → Bool
 | .map _ _ => true
 | _ => false
def bO (P : Program) (o : Oper) : Bool := match o.op with
 | .load _ _ | .lookup _ _ _ _ | .slice _ _ _ _ _ | .convert _ _ _ => true
 | .call c => match c.argTypes.toList with
  | [t] => IK (ae P t)
  | _ => false
 | _ => false
def bQ (P : Program) (s : Fr) (h : Hp) (p : Pd) : Bool := match p.skip with
 | true => true
 | false => match p.lay with
  | some (k, b) => fj (h.get k) b
  | none => match bO P p.o with
   | false => true
   | true => match qX P p.o (ev s) h with
    | some c => ceq c p.c
    | none => false
def co (P : Program) (prim : cM) (call : dE) (ops : Array Oper) : List Stp → List Pd → Fr → Hp → Option (Fr × Hp)
 | [], _, s, h => some (s, h)
 | .take i :: l, pd, s, h => match ops[i]? with
  | none => none
  | some o => match bN ops o s with
   | none => none
   | some false => co P prim call ops l (⟨i, o, true, .skp, none⟩ :: pd) (Fr.putO s o.dst .skp) h
   | some true => match bA P o (ev s) with
    | some (f, b) => match pd.all (bQ P s (h.push b)) with
     | true => co P prim call ops l (⟨i, o, false, f h.n, some (h.n, b)⟩ :: pd) (Fr.putO s o.dst (f h.n)) (h.push b)
     | false => none
    | none => match qX P o (ev s) h with
     | some c => co P prim call ops l (⟨i, o, false, c, none⟩ :: pd) (Fr.putO s o.dst c) h
     | none => none
 | .only i keep :: l, pd, s, h => match ops[i]? with
  | none => none
  | some o => match bN ops o s with
   | none => none
   | some false => co P prim call ops l (pd.filter fun p => keep.any (Nat.beq p.i)) (Fr.putO s o.dst .skp) h
   | some true => match gy P prim call o (ev s) h with
    | some (c, h') => match (pd.filter fun p => keep.any (Nat.beq p.i)).all (bQ P (Fr.putO s o.dst c) h') with
     | true => co P prim call ops l (pd.filter fun p => keep.any (Nat.beq p.i)) (Fr.putO s o.dst c) h'
     | false => none
    | none => none
def p0 (ops : Array Oper) (i : Nat) (listed : Array Bool) : Array Bool :=
 (List.range ops.size).foldl (fun R j => if j == i then R else match ops[j]? with
   | some o => if o.after.all (fun e => !Region.binds .any e || R.getD e.on false) then R.setIfInBounds j true else R
   | none => R) listed
def lh (ops : Array Oper) (i : Nat) (listed R : Array Bool) : Bool :=
 (List.range listed.size).all (fun j => !listed.getD j false || R.getD j false) && (List.range ops.size).all fun j => j == i || match ops[j]? with
   | some o => !(o.after.all fun e => !Region.binds .any e || R.getD e.on false) || R.getD j false
   | none => true
def mT (ops : Array Oper) (x y : Oper) : Bool := match x.dst with
 | some d => !(y.looksAt ops).contains d && !(y.dst == some d)
 | none => true
def mU (ops : Array Oper) (x : Oper) : Bool := match x.dst with
 | some d => !(x.looksAt ops).contains d
 | none => true
def fk (ops : Array Oper) : List Stp → List (Nat × Array Bool) → Array Bool → Bool
 | [], _, listed => (Region.ready .any ops listed).isEmpty
 | .take i :: l, pd, listed => (Region.ready .any ops listed).contains i && (match ops[i]? with
   | some o => mU ops o && lh ops i listed (p0 ops i listed) && pd.all (fun p => match ops[p.1]? with
    | some q => mT ops o q && (!p.2.getD i false || mT ops q o)
    | none => false)
   | none => false) && fk ops l ((i, p0 ops i listed) :: pd) (listed.setIfInBounds i true)
 | .only i keep :: l, pd, listed => Region.ready .any ops listed == [i] && (match ops[i]? with
   | some o => pd.all (fun p => match ops[p.1]? with
    | some q => if keep.any (Nat.beq p.1) then mT ops q o && mT ops o q else !p.2.getD i false
    | none => false)
   | none => false) && fk ops l (pd.filter fun p => keep.any (Nat.beq p.1)) (listed.setIfInBounds i true)
mutual
inductive DV where
 | c (v : CV)
 | sl (n : Nat) (l : DL)
 | p (l : DL)
 | agg (l : DL)
 | e
inductive DL where
 | nil
 | cons (d : DV) (l : DL)
end
def p1 : CV → Bool
 | .bo _ | .nu _ _ | .st _ | .nilp | .nils | .nilf | .nilm => true
 | _ => false
def eV (o : Nat) : HB → Option (List CV)
 | .cells cs _ _ => some (cs.drop o)
 | .ro cs => some (cs.drop o)
 | .kp cs _ _ => some (cs.drop o)
 | .fz cs => some (cs.drop o)
 | _ => none
mutual
def dm (h : Hp) : DV → CV → Bool
 | .c v, x => p1 v && ceq v x
 | .sl n l, x => match x with
  | .sl k o n' c => Nat.beq n n' && Nat.ble n c && match eV o (h.get k) with
   | some cs => mE h l cs
   | none => false
  | _ => false
 | .p l, x => match x with
  | .ptr k o => match eV o (h.get k) with
   | some cs => mE h l cs
   | none => false
  | _ => false
 | .agg l, x => match x with
  | .agg cs => jE h l cs
  | _ => false
 | .e, x => match x with
  | .sle => true
  | .sl _ _ n _ => Nat.beq n 0
  | _ => false
def mE (h : Hp) : DL → List CV → Bool
 | .nil, _ => true
 | .cons d l, x :: xs => dm h d x && mE h l xs
 | .cons _ _, [] => false
def jE (h : Hp) : DL → List CV → Bool
 | .nil, [] => true
 | .cons d l, x :: xs => dm h d x && jE h l xs
 | _, _ => false
end
mutual
def lay : DV → Hp → CV × Hp
 | .c v, h => (v, h)
 | .sl n l, h => match bm l h with
  | (vs, h') => (.sl h'.n 0 n n, h'.push (.ro vs))
 | .p l, h => match bm l h with
  | (vs, h') => (.ptr h'.n 0, h'.push (.ro vs))
 | .agg l, h => match bm l h with
  | (vs, h') => (.agg vs, h')
 | .e, h => (.sle, h)
def bm : DL → Hp → List CV × Hp
 | .nil, h => ([], h)
 | .cons d l, h => match lay d h with
  | (v, h1) => match bm l h1 with
   | (vs, h2) => (v :: vs, h2)
end
inductive RV where
 | one (d : DV)
 | tup (l : DL)
def kQ : RV → Hp → CV × Hp
 | .one d, h => lay d h
 | .tup l, h => match bm l h with
  | (vs, h') => (.tup vs, h')
def uD (o : Nat) : HB → Option (List CV)
 | .cells cs _ _ => some (cs.drop o)
 | _ => none
mutual
def dn (h : Hp) : DV → CV → Bool
 | .c v, x => p1 v && ceq v x
 | .sl n l, x => match x with
  | .sl k o n' c => Nat.beq n n' && Nat.ble n c && match uD o (h.get k) with
   | some cs => xt h l cs
   | none => false
  | _ => false
 | .p l, x => match x with
  | .ptr k o => match uD o (h.get k) with
   | some cs => xt h l cs
   | none => false
  | _ => false
 | .agg l, x => match x with
  | .agg cs => uN h l cs
  | _ => false
 | .e, x => match x with
  | .sle => true
  | .sl _ _ n _ => Nat.beq n 0
  | _ => false
def xt (h : Hp) : DL → List CV → Bool
 | .nil, _ => true
 | .cons d l, x :: xs => dn h d x && xt h l xs
 | .cons _ _, [] => false
def uN (h : Hp) : DL → List CV → Bool
 | .nil, [] => true
 | .cons d l, x :: xs => dn h d x && uN h l xs
 | _, _ => false
end
def IL (h : Hp) : RV → CV → Bool
 | .one d, x => dn h d x
 | .tup l, x => match x with
  | .tup cs => uN h l cs
  | _ => false
def ko (h : Hp) (args : List CV) : List (DL × RV) → Option (CV × Hp)
 | [] => none
 | (ds, r) :: l => match jE h ds args with
  | true => some (kQ r h)
  | false => ko h args l
structure fl where
 plan : FuncId → Nat → Option (List Stp)
 prim : cM
 memo : FuncId → List (DL × RV)
 spec : FuncId → List CV → Hp → Option (CV × Hp)
 fuel : Nat
def ai : Nat := 65535
def MA : CV → Nat
 | .yl k => k
 | _ => 0
def ce : CV → List Nat
 | .tup cs => cs.map MA
 | _ => []
def jt (k : Nat) : CV → CV
 | .tup cs => .tup (.yl k :: cs)
 | _ => .tup [.yl k]
def jF (ro : Option Nat) (f n : Nat) (ps : Array Tmp) (as bd : Code) (s : Fr) (h : Hp) : Option (Fr × Hp) := match ro with
 | none => some (T.set s ai (jt h.n (s.at ai)), (h.push .df).push (.lp ⟨.ready, none, s, f, n, ps, as, bd⟩))
 | some l => match h.get l with
  | .lp _ => some (s, h.push (.lp ⟨.ready, none, s, f, n, ps, as, bd⟩))
  | _ => none
def p2 : Option Code → Bool
 | none | some .ret | some (.exit _) | some (.goto _) => true
 | _ => false
def iD (l : Nat) (h : Hp) : Option (Option Code × Hp) := match h.get l with
 | .lp r => match r.st with
  | .busy => none
  | _ => match p2 r.pend with
   | true => some (r.pend, h.set l (.lp ⟨.exhausted, r.pend, r.s, r.f, r.n, r.ps, r.as, r.bd⟩))
   | false => none
 | _ => none
def uO (run : Code → Fr → Hp → Option (Exit × Fr × Hp)) (c : Code) : Nat → Code → Fr → Hp → Option (Exit × Fr × Hp)
 | 0, _, _, _ => none
 | j + 1, r, s, h => match run r s h with
  | some (.goto l, s', h') => match findLabel c l with
   | some rest => uO run c j rest s' h'
   | none => none
  | x => x
section
variable (P : Program) (prim : cM) (call : dE) (pl : Nat → Option (List Stp)) (f n : Nat) (ro : Option Nat)
def ba : Nat → Code → Fr → Hp → Option (Exit × Fr × Hp)
 | 0, _, _, _ => none
 | k + 1, c, s, h => match c with
  | .skip => some (.normal, s, h)
  | .label _ => some (.normal, s, h)
  | .exit id => some (.exit id, s, h)
  | .goto i => some (.goto i, s, h)
  | .ret => some (.ret, s, h)
  | .seq x y => match ba k x s h with
   | some (.normal, s', h') => ba k y s' h'
   | r => r
  | .cond c x y => match ev s c with
   | .bo true => ba k x s h
   | .bo false => ba k y s h
   | _ => none
  | .block id c => match ba k c s h with
   | some (.exit i, s', h') => match Nat.beq i id with
    | true => some (.normal, s', h')
    | false => some (.exit i, s', h')
   | r => r
  | .scope c => uO (ba k) c (k + 1) c s h
  | .loop c => match ba k c s h with
   | some (.normal, s', h') => ba k (.loop c) s' h'
   | r => r
  | .region id ops true => match pl id with
   | some p => match co P prim call ops p [] s h with
    | some (s', h') => some (.normal, s', h')
    | none => none
   | none => none
  | .region id ops false => match eD P prim call ops ops.toList s h with
   | some (s', h') => some (.normal, s', h')
   | none => none
  | .rangeFunc g ps as bd => match ev s g with
   | .fn f' caps => match jF ro f n ps as bd s h with
    | some (s', h') => match call (.fn f') (.yl (h'.n - 1) :: caps) h' with
     | some (_, h1) => match iD (h'.n - 1) h1 with
      | some (none, h2) => some (.normal, s', h2)
      | some (some c, h2) => ba k c s' h2
      | none => none
     | none => none
    | none => none
   | _ => none
  | _ => none
end
def gf (P : Program) (s : Fr) (h : Hp) : List ResultVar → Option (List CV)
 | [] => some []
 | .tmp t :: l => match gf P s h l with
  | some vs => some (s.at t :: vs)
  | none => none
 | .cell a t :: l => match s.at a, au P t with
  | .ptr k o, some (n, g) => match eZ o n g (h.get k), gf P s h l with
   | some v, some vs => some (v :: vs)
   | _, _ => none
  | _, _ => none
def ib : List CV → CV
 | [p] => p
 | ps => .tup ps
def entry : Nat → List CV → Fr
 | _, [] => .lf
 | i, p :: l => T.set (entry (i + 1) l) i p
def eE : List Nat → Hp → Option Hp
 | [], h => some h
 | k :: l, h => match h.get k with
  | .df => eE l (h.set k .dead)
  | _ => none
def yF (P : Program) (fn : Func) (h : Hp) : Option (Exit × Fr × Hp) → Option (CV × Hp)
 | some (e, s, h') => match e with
  | .normal | .ret => match Nat.ble h.n h'.n with
   | true => match eE (ce (s.at ai)) h' with
    | some h2 => match gf P s h2 fn.results.toList with
     | some vs => some (ib vs, h2)
     | none => none
    | none => none
   | false => none
  | _ => none
 | none => none
def ol (P : Program) (E : fl) (call : dE) (f : FuncId) (args : List CV) (h : Hp) : Option (CV × Hp) := match P.funcs[f]? with
  | none => none
  | some fn => match fn.body with
   | some c => match Nat.ble args.length fn.ntmps with
    | true => yF P fn h (ba P E.prim call (E.plan f) f fn.ntmps none E.fuel c (entry 0 args) h)
    | false => none
   | none => none
def iE : Fr → List Tmp → List CV → Option Fr
 | s, [], [] => some s
 | s, t :: ts, c :: cs => iE (T.set s t c) ts cs
 | _, _, _ => none
def iF (k : Nat) (h : Hp) : Option Hp := match h.get k with
 | .lp r => match r.st with
  | .ready => some (h.set k (.lp ⟨.busy, r.pend, r.s, r.f, r.n, r.ps, r.as, r.bd⟩))
  | _ => none
 | _ => none
def p3 : Exit → Option (Option Code)
 | .normal => some none
 | .ret => some (some .ret)
 | .exit id => some (some (.exit id))
 | .goto t => some (some (.goto t))
 | _ => none
def pu (k : Nat) (e : Exit) (h : Hp) : Option (CV × Hp) := match h.get k with
 | .lp r => match p3 e with
  | some none => some (.bo true, h.set k (.lp ⟨.ready, none, r.s, r.f, r.n, r.ps, r.as, r.bd⟩))
  | some (some c) => some (.bo false, h.set k (.lp ⟨.done, some c, r.s, r.f, r.n, r.ps, r.as, r.bd⟩))
  | none => none
 | _ => none
def p5 (P : Program) (E : fl) (call : dE) (k : Nat) (args : List CV) (h : Hp) : Option (CV × Hp) := match h.get k with
 | .lp r => match iE (T.set r.s ai .undef) r.ps.toList args with
  | some s0 => match ba P E.prim call (E.plan r.f) r.f r.n (some k) E.fuel r.as s0 h with
   | some (.normal, s1, h1) => match iF k h1 with
    | some h2 => match ba P E.prim call (E.plan r.f) r.f r.n (some k) E.fuel r.bd s1 h2 with
     | some (e, _, h3) => match Nat.ble h.n h3.n with
      | true => pu k e h3
      | false => none
     | none => none
    | none => none
   | _ => none
  | none => none
 | _ => none
def cz (P : Program) (E : fl) : Nat → dE
 | 0, _, _, _ => none
 | d + 1, .fn f, args, h => match ko h args (E.memo f) with
  | some r => some r
  | none => match E.spec f args h with
   | some r => some r
   | none => ol P E (cz P E d) f args h
 | d + 1, .yl k, args, h => p5 P E (cz P E d) k args h
def h0 : Hp := ⟨0, .lf⟩
def yG (P : Program) (E : fl) (d : Nat) (f : FuncId) (ds : DL) (rd : RV) : Bool := match bm ds h0 with
 | (args, h) => match ol P E (cz P E d) f args h with
  | some (r, h') => IL h' rd r
  | none => false
end Go.CP
namespace Go.CP
def Ix.num : Ix → Nat
 | .e => 0
 | .l p => 2 * p.num + 1
 | .r p => 2 * p.num + 2
theorem xu : ∀ (f k : Nat), k < f → (zO f k).num = k := by
 intro f
 induction f with
 | zero => intro k h; omega
 | succ f ih =>
  intro k h
  simp only [zO]
  cases h0 : Nat.beq k 0 with
  | true => simp only [Ix.num]; exact (Nat.eq_of_beq_eq_true h0).symm
  | false =>
   have hk : k ≠ 0 := Nat.ne_of_beq_eq_false h0
   cases h1 : Nat.beq (k % 2) 1 with
   | true =>
    have := Nat.eq_of_beq_eq_true h1
    simp only [Ix.num]; rw [ih _ (by omega)]; omega
   | false =>
    have := Nat.ne_of_beq_eq_false h1
    simp only [Ix.num]; rw [ih _ (by omega)]; omega
theorem IM {j k : Nat} (h : ix j = ix k) : j = k := by
 have h1 := xu (j + 1) j (by omega)
 have h2 := xu (k + 1) k (by omega)
 unfold ix at h
 rw [← h1, ← h2, h]
theorem C0 {α : Type} (x : α) : ∀ (p q : Ix) (t : T α), T.at p (T.put x q t) = if p = q then some x else T.at p t := by
 intro p
 induction p with
 | e => intro q t; cases q <;> cases t <;> simp [T.at, T.put, T.vl]
 | l p ih => intro q t; cases q <;> cases t <;> simp [T.at, T.put, T.lt, ih]
 | r p ih => intro q t; cases q <;> cases t <;> simp [T.at, T.put, T.rt, ih]
theorem T.get_set {α : Type} (t : T α) (k j : Nat) (x : α) : (t.set k x).get j = if j = k then some x else t.get j := by
 simp only [T.get, T.set, C0]
 by_cases h : j = k
 · subst h; simp
 · rw [if_neg h, if_neg fun e => h (IM e)]
theorem Hp.get_set (h : Hp) (k j : Nat) (b : HB) : (h.set k b).get j = if j = k then b else h.get j := by
 simp only [Hp.get, Hp.set, T.get_set]
 by_cases e : j = k
 · simp [e]
 · simp [e]
theorem ag (h : Hp) (j : Nat) (b : HB) : (h.push b).get j = if j = h.n then b else h.get j := by
 simp only [Hp.get, Hp.push, T.get_set]
 by_cases e : j = h.n
 · simp [e]
 · simp [e]
@[simp] theorem uP (h : Hp) (k : Nat) (b : HB) : (h.set k b).n = h.n := rfl
@[simp] theorem kq (h : Hp) (b : HB) : (h.push b).n = h.n + 1 := rfl
theorem aI (s : Fr) (k j : Nat) (p : CV) : Fr.at (T.set s k p) j = if j = k then p else Fr.at s j := by
 simp only [Fr.at, T.get_set]
 by_cases e : j = k
 · simp [e]
 · simp [e]
structure cE where
 b : Nat
 base : Nat
 mc : Nat
 esz : Nat
 size : Nat
 opn : Bool
abbrev Im := Nat → Option cE
inductive VR (ι : Im) : CV → Value → Prop where
 | undef (v) : VR ι .undef v
 | skp : VR ι .skp Go.undef
 | bo (x) : VR ι (.bo x) (.bool x)
 | nu (k n) : VR ι (.nu k n) (.int k n)
 | st {s : List Nat} {x : ByteArray} (h : x.data.toList.map (·.toNat) = s) : VR ι (.st s) (.string x)
 | nilp : VR ι .nilp (.pointer none)
 | ptr {k o : Nat} {i : cE} (h : ι k = some i) : VR ι (.ptr k o) (.pointer (some ⟨i.b, i.base + o, none⟩))
 | nils : VR ι .nils (.slice none 0 0)
 | sle (a c) : VR ι .sle (.slice (some a) 0 c)
 | sl {k o n c c' : Nat} {i : cE} (h : ι k = some i) (hc : (c = c' ∧ (i.esz ≠ 0 → c ≠ 0 → o + c * i.esz ≠ i.size)) ∨ (i.opn = true ∧ c ≤ c' ∧ (i.esz ≠ 0 → o + c * i.esz = i.size ∧ o + c' * i.esz = i.mc))) : VR ι (.sl k o n c) (.slice (some ⟨i.b, i.base + o, none⟩) n c')
 | agg {cs : List CV} {vs : Array Value} (hl : vs.size = cs.length) (h : ∀ j (hj : j < cs.length), VR ι cs[j] (vs.getD j Go.undef)) : VR ι (.agg cs) (.agg vs)
 | tup {cs : List CV} {vs : Array Value} (hl : vs.size = cs.length) (h : ∀ j (hj : j < cs.length), VR ι cs[j] (vs.getD j Go.undef)) : VR ι (.tup cs) (.tuple vs)
 | fn {f : FuncId} {cs : List CV} {vs : Array Value} (hl : vs.size = cs.length) (h : ∀ j (hj : j < cs.length), VR ι cs[j] (vs.getD j Go.undef)) : VR ι (.fn f cs) (.func (.func f) #[] vs)
 | nilf : VR ι .nilf .nilFunc
 | mp {k : Nat} {i : cE} (h : ι k = some i) : VR ι (.mp k) (.map (some i.b))
 | nilm : VR ι .nilm (.map none)
 | yl {k : Nat} {i : cE} (h : ι k = some i) : VR ι (.yl k) (.func (.yield i.b) #[] #[])
def Im.le (ι ι' : Im) : Prop := ∀ k i, ι k = some i → ι' k = some i
theorem Im.le_refl (ι : Im) : ι.le ι := fun _ _ h => h
theorem Im.le.trans {ι ι' ι'' : Im} (h : ι.le ι') (h' : ι'.le ι'') : ι.le ι'' := fun k i e => h' k i (h k i e)
theorem VR.mono {ι ι' : Im} (hle : ι.le ι') {p : CV} {v : Value} (h : VR ι p v) : VR ι' p v := by
 induction h with
 | undef v => exact .undef v
 | skp => exact .skp
 | bo x => exact .bo x
 | nu k n => exact .nu k n
 | st h => exact .st h
 | nilp => exact .nilp
 | ptr h => exact .ptr (hle _ _ h)
 | nils => exact .nils
 | sle a c => exact .sle a c
 | sl h hc => exact .sl (hle _ _ h) hc
 | agg hl _ ih => exact .agg hl ih
 | tup hl _ ih => exact .tup hl ih
 | fn hl _ ih => exact .fn hl ih
 | nilf => exact .nilf
 | mp h => exact .mp (hle _ _ h)
 | nilm => exact .nilm
 | yl h => exact .yl (hle _ _ h)
def VRL (ι : Im) (cs : List CV) (vs : List Value) : Prop := vs.length = cs.length ∧ ∀ j (hj : j < cs.length), VR ι cs[j] (vs.getD j Go.undef)
theorem VRL.nil (ι : Im) : VRL ι [] [] := ⟨rfl, fun j hj => absurd hj (Nat.not_lt_zero _)⟩
theorem VRL.cons {ι : Im} {c : CV} {cs : List CV} {v : Value} {vs : List Value} (h : VR ι c v) (hs : VRL ι cs vs) : VRL ι (c :: cs) (v :: vs) :=
 ⟨by simp [hs.1], fun j hj => by
   cases j with
   | zero => exact h
   | succ j => exact hs.2 j (by simpa using hj)⟩
theorem VRL.tail {ι : Im} {c : CV} {cs : List CV} {v : Value} {vs : List Value} (h : VRL ι (c :: cs) (v :: vs)) : VR ι c v ∧ VRL ι cs vs :=
 ⟨h.2 0 (by simp), by simpa using h.1, fun j hj => h.2 (j + 1) (by simpa using hj)⟩
theorem VRL.append {ι : Im} {cs ds : List CV} {vs us : List Value} (h : VRL ι cs vs) (h' : VRL ι ds us) : VRL ι (cs ++ ds) (vs ++ us) := by
 refine ⟨by simp [h.1, h'.1], fun j hj => ?_⟩
 by_cases hlt : j < cs.length
 · have := h.2 j hlt
   rw [List.getElem_append_left hlt, List.getD_eq_getElem?_getD, List.getElem?_append_left (by rw [h.1]; exact hlt), ← List.getD_eq_getElem?_getD]
   exact this
 · have hlt' : j - cs.length < ds.length := by simp at hj; omega
   have := h'.2 _ hlt'
   rw [List.getElem_append_right (by omega), List.getD_eq_getElem?_getD, List.getElem?_append_right (by rw [h.1]; omega), ← List.getD_eq_getElem?_getD, h.1]
   exact this
theorem VRL.mono {ι ι' : Im} (hle : ι.le ι') {cs : List CV} {vs : List Value} (h : VRL ι cs vs) : VRL ι' cs vs := ⟨h.1, fun j hj => (h.2 j hj).mono hle⟩
theorem VRL.get? {ι : Im} {cs : List CV} {vs : List Value} (h : VRL ι cs vs) {j : Nat} {c : CV} (hc : cs[j]? = some c) : ∃ v, vs[j]? = some v ∧ VR ι c v := by
 obtain ⟨hj, rfl⟩ := List.getElem?_eq_some_iff.1 hc
 have h1 := h.2 j hj
 have hj' : j < vs.length := by rw [h.1]; exact hj
 exact ⟨vs[j], List.getElem?_eq_getElem hj', by simpa [List.getD_eq_getElem?_getD, List.getElem?_eq_getElem hj'] using h1⟩
theorem VRL.drop {ι : Im} {cs : List CV} {vs : List Value} (h : VRL ι cs vs) (o : Nat) : VRL ι (cs.drop o) (vs.drop o) := by
 refine ⟨by simp [h.1], fun j hj => ?_⟩
 have hj' : o + j < cs.length := by simp at hj; omega
 have := h.2 _ hj'
 simpa [List.getD_eq_getElem?_getD, List.getElem_drop, List.getElem?_drop] using this
theorem VRL.take {ι : Im} {cs : List CV} {vs : List Value} (h : VRL ι cs vs) (n : Nat) : VRL ι (cs.take n) (vs.take n) := by
 refine ⟨by simp [h.1], fun j hj => ?_⟩
 have hj' : j < n ∧ j < cs.length := by simp at hj; omega
 have := h.2 _ hj'.2
 simpa [List.getD_eq_getElem?_getD, List.getElem_take, List.getElem?_take, hj'.1] using this
theorem VRL.sub {ι : Im} {cs : List CV} {vs : List Value} (h : VRL ι cs vs) (o n : Nat) : VRL ι (sub cs o n) ((vs.drop o).take n) := (h.drop o).take n
theorem ju {ι : Im} {cs : List CV} {vs : Array Value} (h : VRL ι cs vs.toList) : VR ι (.agg cs) (.agg vs) :=
 .agg (by simpa using h.1) fun j hj => by simpa [Array.getD_eq_getD_getElem?, List.getD_eq_getElem?_getD] using h.2 j hj
theorem ee {ι : Im} {cs : List CV} {vs : Array Value} (h : VRL ι cs vs.toList) : VR ι (.tup cs) (.tuple vs) :=
 .tup (by simpa using h.1) fun j hj => by simpa [Array.getD_eq_getD_getElem?, List.getD_eq_getElem?_getD] using h.2 j hj
theorem zS {ι : Im} {f : FuncId} {cs : List CV} {vs : Array Value} (h : VRL ι cs vs.toList) : VR ι (.fn f cs) (.func (.func f) #[] vs) :=
 .fn (by simpa using h.1) fun j hj => by simpa [Array.getD_eq_getD_getElem?, List.getD_eq_getElem?_getD] using h.2 j hj
theorem mV (vs : Array Value) (j : Nat) : vs.getD j Go.undef = vs.toList.getD j Go.undef := by simp [Array.getD_eq_getD_getElem?, List.getD_eq_getElem?_getD]
theorem dd {ι : Im} {cs : List CV} {v : Value} (h : VR ι (.agg cs) v) : ∃ vs, v = .agg vs ∧ VRL ι cs vs.toList := by
 cases h with
 | agg hl h => exact ⟨_, rfl, by simpa using hl, fun j hj => by rw [← mV]; exact h j hj⟩
theorem zT {ι : Im} {cs : List CV} {v : Value} (h : VR ι (.tup cs) v) : ∃ vs, v = .tuple vs ∧ VRL ι cs vs.toList := by
 cases h with
 | tup hl h => exact ⟨_, rfl, by simpa using hl, fun j hj => by rw [← mV]; exact h j hj⟩
theorem p6 {ι : Im} {f : FuncId} {cs : List CV} {v : Value} (h : VR ι (.fn f cs) v) : ∃ vs, v = .func (.func f) #[] vs ∧ VRL ι cs vs.toList := by
 cases h with
 | fn hl h => exact ⟨_, rfl, by simpa using hl, fun j hj => by rw [← mV]; exact h j hj⟩
theorem Fg {ι : Im} {k : Nat} {v : Value} (h : VR ι (.yl k) v) : ∃ i, ι k = some i ∧ v = .func (.yield i.b) #[] #[] := by cases h with | yl h => exact ⟨_, h, rfl⟩
theorem dF {ι : Im} {x : Bool} {v : Value} (h : VR ι (.bo x) v) : v = .bool x := by cases h; rfl
theorem bS {ι : Im} {k : IntKind} {n : Int} {v : Value} (h : VR ι (.nu k n) v) : v = .int k n := by cases h; rfl
theorem yH {ι : Im} {s : List Nat} {v : Value} (h : VR ι (.st s) v) : ∃ x : ByteArray, v = .string x ∧ x.data.toList.map (·.toNat) = s := by cases h with | st h => exact ⟨_, rfl, h⟩
theorem cN {ι : Im} {k o : Nat} {v : Value} (h : VR ι (.ptr k o) v) : ∃ i, ι k = some i ∧ v = .pointer (some ⟨i.b, i.base + o, none⟩) := by cases h with | ptr h => exact ⟨_, h, rfl⟩
theorem VR.one {ι : Im} {p : CV} {v : Value} (h : VR ι p v) (hp : p.one = true) : v.oneCell' = true ∧ v.cells = #[v] := by
 cases h <;> first | exact ⟨rfl, rfl⟩ | simp [CV.one] at hp
theorem yI {p : CV} (h : p.isAgg = false) : p.cells = [p] := by cases p <;> first | rfl | simp [CV.isAgg] at h
theorem VR.cells {ι : Im} {p : CV} {v : Value} (h : VR ι p v) (hp : p.sol = true) : VRL ι p.cells v.cells.toList ∧ (∀ u ∈ v.cells.toList, u.oneCell' = true) ∧ (p.isAgg = true → ∃ vs, v = .agg vs) ∧ (p.isAgg = false → v.cells = #[v]) := by
 by_cases ha : p.isAgg = true
 · cases p <;> simp [CV.isAgg] at ha
   rename_i cs
   obtain ⟨vs, rfl, hv⟩ := dd h
   refine ⟨hv, fun u hu => ?_, fun _ => ⟨_, rfl⟩, fun h => by simp [CV.isAgg] at h⟩
   obtain ⟨j, hj, rfl⟩ := List.getElem_of_mem hu
   have hj' : j < cs.length := by rw [← hv.1]; exact hj
   have h1 := hv.2 j hj'
   have h2 : cs[j].one = true := List.all_eq_true.1 hp _ (List.getElem_mem hj')
   have h3 := (h1.one h2).1
   have hj2 : j < vs.toList.length := hj
   rw [List.getD_eq_getElem?_getD, List.getElem?_eq_getElem hj2] at h3
   exact h3
 · have ha : p.isAgg = false := by simpa using ha
   have h1 := yI ha
   have h2 : p.one = true := List.all_eq_true.1 hp _ (by rw [h1]; simp)
   obtain ⟨h3, h4⟩ := h.one h2
   refine ⟨by rw [h1, h4]; exact VRL.cons h (VRL.nil ι), fun u hu => ?_, fun h => by rw [ha] at h; simp at h, fun _ => h4⟩
   rw [h4] at hu
   simp at hu; subst hu; exact h3
theorem qS (ι : Im) (v : Value) : VR ι (eP v) v := by
 unfold eP
 split <;> first
  | exact .bo _
  | exact .nu _ _
  | exact .st rfl
  | exact .nils
  | exact .nilp
  | exact .nilm
  | exact .nilf
  | exact .undef _
theorem ku (ι : Im) (vs : List Value) : VRL ι (vs.map eP) vs := by
 induction vs with
 | nil => exact VRL.nil ι
 | cons v vs ih => exact VRL.cons (qS ι v) ih
theorem pv (ι : Im) (v : Value) : VR ι (ofValue v) v := by
 by_cases h : ∃ cs, v = .agg cs
 · obtain ⟨cs, rfl⟩ := h
   exact ju (ku ι cs.toList)
 · have h1 : ofValue v = eP v := by cases v <;> first | rfl | exact absurd ⟨_, rfl⟩ h
   rw [h1]; exact qS ι v
theorem ud (v : Value) : (ofValue v).cells = bR v := by
 by_cases h : ∃ cs, v = .agg cs
 · obtain ⟨cs, rfl⟩ := h; rfl
 · have h1 : ofValue v = eP v := by cases v <;> first | rfl | exact absurd ⟨_, rfl⟩ h
   have h2 : (eP v).cells = [eP v] := by
    unfold eP; split <;> rfl
   have h3 : v.cells = #[v] := by cases v <;> first | rfl | exact absurd ⟨_, rfl⟩ h
   rw [h1, h2, bR, h3]; rfl
class LG where
 good : Nat → Nat → Array Tmp → Code → Code → Prop
variable [LG] [HK]
def Bn (ents : List MapEntry) (clock : Nat) : Prop := (ents.map (·.born)).Nodup ∧ ∀ x ∈ ents, x.born < clock
def HB.wr : HB → Bool
 | .cells _ _ _ | .mp _ | .df | .lp _ | .mi _ _ _ | .it _ _ _ _ => true
 | _ => false
def HB.live : HB → Bool
 | .dead => false
 | _ => true
def BR (ι : Im) (i : cE) (w : World) : HB → Prop
 | .cells cs aO el => ∃ arr e, w.heap[i.b]? = some (.cells arr e (0, 0)) ∧ i.base + i.mc ≤ arr.size ∧ cs.length ≤ i.mc ∧ i.size = cs.length ∧ i.opn = (!Nat.beq aO 0) ∧ i.esz = aO ∧ VRL ι cs ((arr.toList.drop i.base).take cs.length) ∧ e = el ∧ (aO = 0 → i.base = 0 ∧ arr.size = cs.length)
 | .ro cs => ∃ arr e fr, w.heap[i.b]? = some (.cells arr e fr) ∧ i.opn = true ∧ i.esz = 0 ∧ VRL ι cs ((arr.toList.drop i.base).take cs.length)
 | .mp es => ∃ ents clock, w.heap[i.b]? = some (.map ents clock) ∧ VRL ι (es.map (·.1)) (ents.toList.map (·.key)) ∧ VRL ι (es.map (·.2)) (ents.toList.map (·.val)) ∧ Bn ents.toList clock
 | .mi es bs clock => ∃ ents, w.heap[i.b]? = some (.map ents clock) ∧ VRL ι (es.map (·.1)) (ents.toList.map (·.key)) ∧ VRL ι (es.map (·.2)) (ents.toList.map (·.val)) ∧ Bn ents.toList clock ∧ ents.toList.map (·.born) = bs
 | .it m since seen c0 => ∃ im, ι m = some im ∧ w.heap[i.b]? = some (.mapIter (some im.b) since seen.toArray c0) ∧ i.base = 0
 | .kp cs ys aO => ∃ arr e, w.heap[i.b]? = some (.cells arr e (0, 0)) ∧ i.base + i.mc ≤ arr.size ∧ cs.length ≤ i.mc ∧ i.size = cs.length ∧ i.opn = true ∧ i.esz = aO ∧ VRL ι cs ((arr.toList.drop i.base).take cs.length) ∧ ys.all pq = true ∧ (cs.length + ys.length ≤ i.mc → VRL ι ys ((arr.toList.drop (i.base + cs.length)).take ys.length))
 | .fz cs => ∃ arr e fr, w.heap[i.b]? = some (.cells arr e fr) ∧ VRL ι cs ((arr.toList.drop i.base).take cs.length)
 | .df => w.heap[i.b]? = some (.deferred (some []))
 | .lp r => ∃ fn tmps d, w.heap[i.b]? = some (.loop { state := r.st, pending := r.pend, fn := fn, tmps := tmps, params := r.ps, assign := r.as, body := r.bd, defers := d }) ∧ tmps.size = r.n ∧ (∀ t, t < r.n → VR ι (Fr.at r.s t) (tmps.getD t Go.undef)) ∧ LG.good r.f r.n r.ps r.as r.bd
 | .dead => True
structure Sim (N0 : Nat) (ι : Im) (h : Hp) (w : World) : Prop where
 lt : ∀ k i, ι k = some i → k < h.n ∧ i.b < w.heap.size
 own : ∀ k i, ι k = some i → (h.get k).wr = true → N0 ≤ i.b
 fresh : ∀ k, h.n ≤ k → h.get k = .dead
 blk : ∀ k i, ι k = some i → BR ι i w (h.get k)
 inj : ∀ k k' i i', ι k = some i → ι k' = some i' → k ≠ k' → (h.get k).wr = true → (h.get k').live = true → i.b ≠ i'.b
theorem BR.mono {ι ι' : Im} (hle : ι.le ι') {i : cE} {w w' : World} (hw : w'.heap[i.b]? = w.heap[i.b]?) {b : HB} (h : BR ι i w b) : BR ι' i w' b := by
 cases b with
 | cells cs aO el => obtain ⟨arr, e, h1, h2, h3, h4, h5, h6, h7, h8⟩ := h; exact ⟨arr, e, hw.trans h1, h2, h3, h4, h5, h6, h7.mono hle, h8⟩
 | fz cs => obtain ⟨arr, e, fr, h1, h2⟩ := h; exact ⟨arr, e, fr, hw.trans h1, h2.mono hle⟩
 | ro cs => obtain ⟨arr, e, fr, h1, h2, h3, h4⟩ := h; exact ⟨arr, e, fr, hw.trans h1, h2, h3, h4.mono hle⟩
 | mp es => obtain ⟨en, c, h1, h2, h3, h4⟩ := h; exact ⟨en, c, hw.trans h1, h2.mono hle, h3.mono hle, h4⟩
 | mi es bs clock => obtain ⟨en, h1, h2, h3, h4, h5⟩ := h; exact ⟨en, hw.trans h1, h2.mono hle, h3.mono hle, h4, h5⟩
 | it m since seen c0 => obtain ⟨im, h1, h2, h3⟩ := h; exact ⟨im, hle _ _ h1, hw.trans h2, h3⟩
 | kp cs ys aO => obtain ⟨arr, e, h1, h2, h3, h4, h5, h6, h7, h8, h9⟩ := h; exact ⟨arr, e, hw.trans h1, h2, h3, h4, h5, h6, h7.mono hle, h8, fun hm => (h9 hm).mono hle⟩
 | df => exact hw.trans h
 | lp r => obtain ⟨fn, tmps, d, h1, h2, h3, h4⟩ := h; exact ⟨fn, tmps, d, hw.trans h1, h2, fun t ht => (h3 t ht).mono hle, h4⟩
 | dead => trivial
structure Ext (N0 : Nat) (w w' : World) : Prop where
 os : w'.os = w.os
 tape : w'.tape = w.tape
 output : w'.output = w.output
 size : w.heap.size ≤ w'.heap.size
 block : ∀ b, b < N0 → w'.heap[b]? = w.heap[b]?
 drew : HK.dr w.drawn ≤ HK.dr w'.drawn
theorem Ext.refl (N0 : Nat) (w : World) : Ext N0 w w := ⟨rfl, rfl, rfl, Nat.le_refl _, fun _ _ => rfl, Nat.le_refl _⟩
theorem Ext.trans {N0 : Nat} {w w' w'' : World} (h : Ext N0 w w') (h' : Ext N0 w' w'') : Ext N0 w w'' :=
 ⟨h'.os.trans h.os, h'.tape.trans h.tape, h'.output.trans h.output, Nat.le_trans h.size h'.size, fun b hb => (h'.block b hb).trans (h.block b hb), Nat.le_trans h.drew h'.drew⟩
theorem Sim.world {N0 : Nat} {ι : Im} {h : Hp} {w w' : World} (S : Sim N0 ι h w) (E : Ext w.heap.size w w') : Sim N0 ι h w' :=
 ⟨fun k i e => ⟨(S.lt k i e).1, Nat.lt_of_lt_of_le (S.lt k i e).2 E.size⟩, S.own, S.fresh, fun k i e => (S.blk k i e).mono (Im.le_refl ι) (E.block _ (S.lt k i e).2), S.inj⟩
theorem Sim.push {N0 : Nat} {ι : Im} {h : Hp} {w : World} (S : Sim N0 ι h w) (b : HB) : Sim N0 ι (h.push b) w := by
 have hg : ∀ k i, ι k = some i → (h.push b).get k = h.get k := fun k i e => by
  rw [ag, if_neg (Nat.ne_of_lt (S.lt k i e).1)]
 refine ⟨fun k i e => ⟨Nat.lt_succ_of_lt (S.lt k i e).1, (S.lt k i e).2⟩, fun k i e hw => S.own k i e (by rw [← hg k i e]; exact hw), fun k hk => ?_, fun k i e => by rw [hg k i e]; exact S.blk k i e, fun k k' i i' e e' hne h1 h2 => ?_⟩
 · have : h.n + 1 ≤ k := hk
   rw [ag, if_neg (by omega)]; exact S.fresh k (by omega)
 · rw [hg k i e] at h1; rw [hg k' i' e'] at h2
   exact S.inj k k' i i' e e' hne h1 h2
def Im.set (ι : Im) (k : Nat) (i : cE) : Im := fun j => if j = k then some i else ι j
theorem bE {ι : Im} {k : Nat} {i : cE} (h : ι k = none) : ι.le (ι.set k i) := fun j i' e => by
 unfold Im.set
 split
 · rename_i e'; subst e'; rw [h] at e; cases e
 · exact e
theorem Sim.laid {N0 : Nat} {ι : Im} {h : Hp} {w : World} (S : Sim N0 ι h w) (hN : N0 ≤ w.heap.size) {k : Nat} (hk : k < h.n) (hn : ι k = none) {w' : World} (hsz : w'.heap.size = w.heap.size + 1) (hold : ∀ b, b < w.heap.size → w'.heap[b]? = w.heap[b]?) {i : cE} (hib : i.b = w.heap.size) (hb : BR (ι.set k i) i w' (h.get k)) : Sim N0 (ι.set k i) h w' := by
 refine ⟨fun j i' e => ?_, fun j i' e hw => ?_, S.fresh, fun j i' e => ?_, fun j j' a a' e e' hne h1 h2 => ?_⟩
 · unfold Im.set at e; split at e
   · rename_i e'; subst e'; injection e with e; subst e; exact ⟨hk, by rw [hib, hsz]; omega⟩
   · have := S.lt j i' e; exact ⟨this.1, by rw [hsz]; omega⟩
 · unfold Im.set at e; split at e
   · injection e with e; subst e; rw [hib]; exact hN
   · exact S.own j i' e hw
 · unfold Im.set at e; split at e
   · rename_i e'; subst e'; injection e with e; subst e; exact hb
   · exact (S.blk j i' e).mono (bE hn) (hold _ (S.lt j i' e).2)
 · unfold Im.set at e e'
   split at e
   · injection e with e; subst e
     split at e'
     · rename_i e1 e2; subst e1; subst e2; exact absurd rfl hne
     · have := (S.lt j' a' e').2; rw [hib]; omega
   · split at e'
     · injection e' with e'; subst e'
       have := (S.lt j a e).2; rw [hib]; omega
     · exact S.inj j j' a a' e e' hne h1 h2
theorem Sim.put {N0 : Nat} {ι : Im} {h : Hp} {w w' : World} (S : Sim N0 ι h w) {k : Nat} {i : cE} (hi : ι k = some i) (hw : (h.get k).wr = true) {b : HB} (hs : w'.heap.size = w.heap.size) (hold : ∀ j, j ≠ i.b → w'.heap[j]? = w.heap[j]?) (hb : BR ι i w' b) : Sim N0 ι (h.set k b) w' := by
 refine ⟨fun j i' e => ⟨(S.lt j i' e).1, by rw [hs]; exact (S.lt j i' e).2⟩, fun j i' e hw' => ?_, fun j hj => ?_, fun j i' e => ?_, fun j j' a a' e e' hne h1 h2 => ?_⟩
 · rw [Hp.get_set] at hw'
   split at hw'
   · rename_i e1; subst e1; exact S.own j i' e hw
   · exact S.own j i' e hw'
 · rw [Hp.get_set, if_neg]
   · exact S.fresh j hj
   · have := (S.lt k i hi).1; have : h.n ≤ j := hj; omega
 · rw [Hp.get_set]
   split
   · rename_i e1; subst e1; rw [hi] at e; injection e with e; subst e; exact hb
   · rename_i hne
     by_cases hl : (h.get j).live = true
     · exact (S.blk j i' e).mono (Im.le_refl ι) (hold _ (fun e1 => S.inj k j i i' hi e (Ne.symm hne) hw hl e1.symm))
     · cases hd : h.get j with
       | dead => trivial
       | _ => rw [hd] at hl; simp [HB.live] at hl
 · rw [Hp.get_set] at h1 h2
   by_cases e1 : j = k
   · subst e1
     rw [if_neg (Ne.symm hne)] at h2
     exact S.inj j j' a a' e e' hne hw h2
   · rw [if_neg e1] at h1
     by_cases e2 : j' = k
     · subst e2
       have hl : (h.get j').live = true := by cases hd : h.get j' with
        | dead => rw [hd] at hw; simp [HB.wr] at hw
        | _ => rfl
       exact S.inj j j' a a' e e' hne h1 hl
     · rw [if_neg e2] at h2
       exact S.inj j j' a a' e e' hne h1 h2
theorem Sim.wrote {N0 : Nat} {ι : Im} {h : Hp} {w w' : World} (S : Sim N0 ι h w) {k : Nat} {i : cE} (hi : ι k = some i) (hw : (h.get k).wr = true) {b : HB} (hb1 : b.wr = true ∨ b = .dead) (hs : w'.heap.size = w.heap.size) (hold : ∀ j, j ≠ i.b → w'.heap[j]? = w.heap[j]?) (hb : BR ι i w' b) : Sim N0 ι (h.set k b) w' := S.put hi hw hs hold hb
end Go.CP
namespace Go.CP
variable [LG] [HK]
theorem cO {a b : Nat} (h : Nat.blt a b = true) : a < b := by simpa using h
theorem C1 {a b : Nat} (h : Nat.blt a b = false) : b ≤ a := by
 rcases Nat.lt_or_ge a b with h1 | h1
 · have : Nat.blt a b = true := by simpa using h1
   rw [this] at h; cases h
 · exact h1
theorem bv {a b : Nat} (h : Nat.ble a b = true) : a ≤ b := Nat.le_of_ble_eq_true h
theorem LZ {a b : Nat} (h : Nat.ble a b = false) : b < a := by
 rcases Nat.lt_or_ge b a with h1 | h1
 · exact h1
 · have : Nat.ble a b = true := Nat.ble_eq_true_of_le h1
   rw [this] at h; cases h
theorem aW {a b : Nat} (h : Nat.beq a b = true) : a = b := Nat.eq_of_beq_eq_true h
theorem jG {a b : Nat} (h : Nat.beq a b = false) : a ≠ b := Nat.ne_of_beq_eq_false h
theorem de (a b : Int) : cr a b = decide (a ≤ b) := by
 cases a <;> cases b <;> simp only [cr] <;> (rw [Bool.eq_iff_iff]; simp <;> omega)
theorem fQ (a b : Int) : eu a b = decide (a = b) := by
 cases a <;> cases b <;> simp only [eu] <;> (rw [Bool.eq_iff_iff]; simp <;> omega)
theorem yJ (a b : Int) : eu a b = (a == b) := fQ a b
theorem Lj (a b : Int) : cr a b = decide (a ≤ b) := de a b
theorem Lk (a b : Int) : (!(cr b a)) = decide (a < b) := by rw [de, Bool.eq_iff_iff]; simp
theorem li {k k' : IntKind} (h : mP k k' = true) : k = k' := by cases k <;> cases k' <;> simp [mP] at h <;> rfl
theorem uE {k : IntKind} {n : Int} (h0 : 0 ≤ n) (h1 : n < 2 ^ k.bits) (h2 : k.signed = true → n < 2 ^ (k.bits - 1)) : k.wrap n = n := by
 unfold IntKind.wrap
 have hm : n % (2 ^ k.bits : Int) = n := Int.emod_eq_of_lt h0 h1
 simp only [hm]
 rw [if_neg]
 simp only [Bool.and_eq_true, decide_eq_true_eq, not_and, Int.not_le, ge_iff_le]
 exact h2
theorem eQ (a : Nat) (h : a < 9223372036854775808) : IntKind.i64.wrap (.ofNat a) = .ofNat a :=
 uE (Int.natCast_nonneg a) (by show (a : Int) < 2 ^ 64; omega) fun _ => by show (a : Int) < 2 ^ 63; omega
theorem IN (a : Nat) (h : a < 18446744073709551616) : IntKind.u64.wrap (.ofNat a) = .ofNat a :=
 uE (Int.natCast_nonneg a) (by show (a : Int) < 2 ^ 64; omega) fun h => by cases h
theorem IP (a : Nat) (h : a < 4294967296) : IntKind.u32.wrap (.ofNat a) = .ofNat a :=
 uE (Int.natCast_nonneg a) (by show (a : Int) < 2 ^ 32; omega) fun h => by cases h
theorem Ll (a : Nat) (h : a < 256) : IntKind.u8.wrap (.ofNat a) = .ofNat a :=
 uE (Int.natCast_nonneg a) (by show (a : Int) < 2 ^ 8; omega) fun h => by cases h
theorem zU (a : Nat) (h : a < 9223372036854775808) : IntKind.i64.wrap (.negSucc a) = .negSucc a := by
 unfold IntKind.wrap
 have hm : Int.negSucc a % (2 ^ IntKind.i64.bits : Int) = 2 ^ 64 - 1 - (a : Int) := by
  show Int.negSucc a % (2 ^ 64 : Int) = _
  rw [Int.negSucc_eq]; omega
 simp only [hm]
 rw [if_pos]
 · show (2 ^ 64 - 1 - (a : Int) : Int) - 2 ^ 64 = _
   rw [Int.negSucc_eq]; omega
 · simp only [IntKind.signed, Bool.true_and, decide_eq_true_eq, ge_iff_le]
   show (2 ^ 63 : Int) ≤ 2 ^ 64 - 1 - (a : Int)
   omega
theorem mW {b : Bool} {x y : Int} (h : b = true → y = x) : (bif b then x else y) = y := by
 cases b with
 | true => exact (h rfl).symm
 | false => rfl
theorem C2 (k : IntKind) (n : Int) : oa k n = k.wrap n := by
 unfold oa
 cases n with
 | ofNat a =>
  cases k with
  | i64 => exact mW fun h => eQ a (cO h)
  | u64 => exact mW fun h => IN a (cO h)
  | u32 => exact mW fun h => IP a (cO h)
  | u8 => exact mW fun h => Ll a (cO h)
  | _ => rfl
 | negSucc a =>
  cases k with
  | i64 => exact mW fun h => zU a (cO h)
  | _ => rfl
theorem dO (k : IntKind) (n : Int) : fK k n = .nu k (k.wrap n) := by unfold fK; rw [C2]
def bs (x : ByteArray) : List Nat := x.data.toList.map (·.toNat)
theorem jH : ∀ (x y : List UInt8), ga (x.map (·.toNat)) (y.map (·.toNat)) = (x == y)
 | [], [] => rfl
 | [], _ :: _ => rfl
 | _ :: _, [] => rfl
 | a :: x, b :: y => by
  simp only [List.map_cons, ga]
  rw [jH x y]
  cases h : Nat.beq a.toNat b.toNat with
  | true => have := UInt8.toNat_inj.1 (Nat.eq_of_beq_eq_true h); subst this; simp
  | false =>
   have : a ≠ b := fun e => Nat.ne_of_beq_eq_false h (by rw [e])
   have h2 : (a == b) = false := by simpa using this
   rw [List.cons_beq_cons, h2]; rfl
theorem xv : ∀ (x y : List UInt8), zP (x.map (·.toNat)) (y.map (·.toNat)) = Op.bytesLess x y
 | [], [] => rfl
 | [], _ :: _ => rfl
 | _ :: _, [] => rfl
 | a :: x, b :: y => by
  simp only [List.map_cons, zP, Op.bytesLess]
  rw [xv x y]
  cases h : Nat.blt a.toNat b.toNat with
  | true => have h2 : a < b := UInt8.lt_iff_toNat_lt.2 (cO h); simp [h2]
  | false =>
   have h1 : ¬ a < b := fun e => by have := UInt8.lt_iff_toNat_lt.1 e; have := C1 h; omega
   cases h2 : Nat.beq a.toNat b.toNat with
   | true => have := UInt8.toNat_inj.1 (Nat.eq_of_beq_eq_true h2); subst this; simp
   | false =>
    have : a ≠ b := fun e => Nat.ne_of_beq_eq_false h2 (by rw [e])
    simp [h1, this]
theorem uQ : ∀ (x y : List UInt8), Op.bytesLess y x = !(Op.bytesLess x y || (x == y))
 | [], [] => rfl
 | [], _ :: _ => rfl
 | _ :: _, [] => rfl
 | a :: x, b :: y => by
  simp only [Op.bytesLess]
  rw [uQ x y]
  rcases Nat.lt_trichotomy a.toNat b.toNat with h | h | h
  · have h1 : a < b := UInt8.lt_iff_toNat_lt.2 h
    have h2 : ¬ b < a := fun e => by have := UInt8.lt_iff_toNat_lt.1 e; omega
    have h3 : ¬ b = a := fun e => by rw [e] at h; omega
    simp [h1, h2, h3]
  · have := UInt8.toNat_inj.1 h
    subst this
    have h2 : ¬ a < a := fun e => by have := UInt8.lt_iff_toNat_lt.1 e; omega
    simp [h2]
  · have h1 : b < a := UInt8.lt_iff_toNat_lt.2 h
    have h2 : ¬ a < b := fun e => by have := UInt8.lt_iff_toNat_lt.1 e; omega
    have h3 : ¬ a = b := fun e => by rw [e] at h; omega
    simp [h1, h2, h3]
theorem dx (x : ByteArray) : (bs x).length = x.size := by simp [bs]
theorem zV (x y : ByteArray) : bs (x ++ y) = bs x ++ bs y := by simp [bs]
theorem cG {ι : Im} {s : List Nat} {v : Value} (h : VR ι (.st s) v) : ∃ x : ByteArray, v = .string x ∧ s = bs x := by
 obtain ⟨x, h1, h2⟩ := yH h; exact ⟨x, h1, h2.symm⟩
theorem p7 (ι : Im) (x : ByteArray) : VR ι (.st (bs x)) (.string x) := .st rfl
section
variable {P : Program} {w : World} {ι : Im}
theorem C3 {op : BinOp} {t : TypeId} {x y : Operand} {p q r : CV} {u v : Value} (h : qQ op p q = some r) (hu : VR ι p u) (hv : VR ι q v) :
  ∃ c, VR ι r c ∧ (binOp op t u v).run P w = .ok c w ∧ (eqGuard op t x y u v).run P w = .ok () w := by
 unfold qQ at h
 split at h
 · obtain rfl := bS hu
   obtain rfl := bS hv
   rename_i k a k' b
   have hg : (eqGuard op t x y (.int k a) (.int k' b)).run P w = .ok () w := by cases op <;> simp [eqGuard]
   have hnn : ∀ n : Nat, ¬ (Int.ofNat n < 0) := fun n => Int.not_lt.2 (Int.natCast_nonneg n)
   have htn : ∀ n : Nat, (Int.ofNat n).toNat = n := fun n => rfl
   split at h
   · split at h
     · injection h with h; subst h
       rename_i n
       refine ⟨_, by rw [dO]; exact .nu _ _, ?_, hg⟩
       simp only [binOp, Op.shift, if_neg (hnn n), Sem.run_pure, htn]
     · cases h
   · split at h
     · injection h with h; subst h
       rename_i n
       refine ⟨_, .nu _ _, ?_, hg⟩
       simp only [binOp, Op.shift, if_neg (hnn n), Sem.run_pure, htn]
     · cases h
   · split at h
     · cases h
     · rename_i hk
       obtain rfl := li hk
       cases op <;> simp only [] at h <;> first
        | (injection h with h; subst h; exact ⟨_, by rw [dO]; exact .nu _ _, by simp [binOp, Op.intArith], hg⟩)
        | (injection h with h; subst h; refine ⟨_, .bo _, ?_, hg⟩; simp only [binOp, Op.intCmp, yJ, Lk, bne, Sem.run_pure, ne_eq, not_true_eq_false, if_false, GT.gt, GE.ge]; done)
        | (injection h with h; subst h; refine ⟨_, .bo _, ?_, hg⟩; simp only [binOp, Op.intCmp, Lj, Sem.run_pure, ne_eq, not_true_eq_false, if_false, GT.gt, GE.ge]; done)
        | (split at h
           · cases h
           · rename_i h0
             rw [fQ] at h0
             have h0 : b ≠ 0 := by simpa using h0
             injection h with h; subst h
             first
              | exact ⟨_, by rw [dO]; exact .nu _ _, by simp [binOp, Op.intDiv, h0], hg⟩
              | exact ⟨_, .nu _ _, by simp [binOp, Op.intDiv, h0], hg⟩)
        | (cases h; done)
 · obtain ⟨a, rfl, rfl⟩ := cG hu
   obtain ⟨b, rfl, rfl⟩ := cG hv
   have hg : (eqGuard op t x y (.string a) (.string b)).run P w = .ok () w := by cases op <;> simp [eqGuard]
   cases op <;> simp only [] at h
   · split at h
     · rename_i hle
       have hle := Nat.le_of_ble_eq_true hle
       rw [dx, dx] at hle
       injection h with h; subst h
       rw [← zV]
       refine ⟨_, p7 ι _, ?_, hg⟩
       simp [binOp, Op.stringOp, IntKind.max, IntKind.signed, IntKind.bits]
       omega
     · cases h
   all_goals first
    | (injection h with h; subst h
       refine ⟨_, .bo _, ?_, hg⟩
       simp only [bs, jH, xv, binOp, Op.stringOp, ByteArray.toList_eq, Sem.run_pure, uQ a.data.toList b.data.toList])
    | (cases h; done)
 · cases h
theorem FM {op : UnOp} {p r : CV} {u : Value} (h : ec op p = some r) (hu : VR ι p u) : ∃ c, VR ι r c ∧ (Op.unary op u).run P w = .ok c w := by
 unfold ec at h
 split at h
 · obtain rfl := bS hu
   cases op <;> simp at h
   subst h
   exact ⟨_, by rw [dO]; exact .nu _ _, by simp [Op.unary, Op.intArith]⟩
 · obtain rfl := dF hu
   cases op <;> simp at h
   subst h
   exact ⟨_, .bo _, by simp [Op.unary]⟩
 · cases h
theorem ap {t : TypeId} {d : TypeDesc} (h : P.underlying t = some d) (w : World) : (underlying t).run P w = .ok d w := by simp [underlying, program, Sem.run, h]
theorem mX {t : TypeId} {i : TypeInfo} (h : P.info? t = some i) (w : World) : (typeInfo t).run P w = .ok i w := by simp [typeInfo, program, Sem.run, h]
theorem bJ {t : TypeId} {i : TypeInfo} (h : P.info? t = some i) (w : World) : (sizeOf t).run P w = .ok i.size w := by simp [sizeOf, mX h]
theorem gX {t : TypeId} {i : TypeInfo} {z : Value} (h : P.info? t = some i) (hz : i.zero = some z) (w : World) : (zeroValue t).run P w = .ok z w := by simp [zeroValue, mX h, hz]
theorem kw {t : TypeId} {d : TypeDesc} (h : P.underlying t = some d) (w : World) : (isAgg t).run P w = .ok (lK P t) w := by
 simp only [isAgg, Sem.run_bind, ap h, Result.andThen_ok, lK, h]
 cases d <;> rfl
theorem gz {t : TypeId} {k : IntKind} (h : ae P t = .int k) : P.underlying t = some (.int k) := by
 unfold ae at h
 cases hu : P.underlying t with
 | none => simp [hu] at h
 | some d =>
  cases d <;> simp only [hu] at h <;> (try (repeat' split at h)) <;> simp only [reduceCtorEq, cq.int.injEq] at h
  rw [h]
theorem ef {t : TypeId} (h : ae P t = .str) : P.underlying t = some .string := by
 unfold ae at h
 cases hu : P.underlying t with
 | none => simp [hu] at h
 | some d => cases d <;> simp only [hu] at h <;> (try (repeat' split at h)) <;> first | rfl | (simp only [reduceCtorEq] at h; done)
theorem pw {t : TypeId} (h : ae P t = .bool) : P.underlying t = some .bool := by
 unfold ae at h
 cases hu : P.underlying t with
 | none => simp [hu] at h
 | some d => cases d <;> simp only [hu] at h <;> (try (repeat' split at h)) <;> first | rfl | (simp only [reduceCtorEq] at h; done)
theorem jv {t : TypeId} {e : Nat} (h : ae P t = .ptr e) : P.underlying t = some (.pointer e) := by
 unfold ae at h
 cases hu : P.underlying t with
 | none => simp [hu] at h
 | some d =>
  cases d <;> simp only [hu] at h <;> (try (repeat' split at h)) <;> simp only [reduceCtorEq, cq.ptr.injEq] at h
  rw [h]
theorem lM {t : TypeId} (h : ae P t = .uptr) : P.underlying t = some .unsafePointer := by
 unfold ae at h
 cases hu : P.underlying t with
 | none => simp [hu] at h
 | some d => cases d <;> simp only [hu] at h <;> (try (repeat' split at h)) <;> first | rfl | (simp only [reduceCtorEq] at h; done)
theorem qT {t : TypeId} {k e : Nat} (h : ae P t = .map k e) : P.underlying t = some (.map k e) := by
 unfold ae at h
 cases hu : P.underlying t with
 | none => simp [hu] at h
 | some d =>
  cases d <;> simp only [hu] at h <;> (try (repeat' split at h)) <;> simp only [reduceCtorEq, cq.map.injEq] at h
  obtain ⟨rfl, rfl⟩ := h; rfl
theorem bT {t : TypeId} {e esz bytes : Nat} {z : List CV} (h : ae P t = .slice e esz bytes z) : P.underlying t = some (.slice e) ∧ ∃ i zv d, P.info? e = some i ∧ i.size = esz ∧ i.bytes = bytes ∧ i.zero = some zv ∧ z = bR zv ∧ P.underlying e = some d := by
 unfold ae at h
 cases hu : P.underlying t with
 | none => simp [hu] at h
 | some d =>
  cases d <;> simp only [hu] at h <;> (try (repeat' split at h)) <;> simp only [reduceCtorEq, cq.slice.injEq] at h
  rename_i e' _ _ i d hi hd _ z' hz
  obtain ⟨rfl, h2, h3, h4⟩ := h
  exact ⟨rfl, i, z', d, hi, h2, h3, hz, h4.symm, hd⟩
theorem jw {t : TypeId} {n e esz : Nat} {g : Bool} {z : List CV} (h : ae P t = .arr n e esz g z) : P.underlying t = some (.array n e) ∧ (∃ i d, P.info? e = some i ∧ i.size = esz ∧ P.underlying e = some d) ∧ lK P e = g ∧ ∃ j zv, P.info? t = some j ∧ j.zero = some zv ∧ z = bR zv := by
 unfold ae at h
 cases hu : P.underlying t with
 | none => simp [hu] at h
 | some d =>
  cases d <;> simp only [hu] at h <;> (try (repeat' split at h)) <;> simp only [reduceCtorEq, cq.arr.injEq] at h
  rename_i n' e' _ _ _ i d j hi hd hj _ zv hz
  obtain ⟨rfl, rfl, h3, h4, h5⟩ := h
  exact ⟨rfl, ⟨i, d, hi, h3, hd⟩, h4, j, zv, hj, hz, h5.symm⟩
theorem mY {t : TypeId} {fs : List (Nat × Nat × Bool)} {z : List CV} (h : ae P t = .strct fs z) :
  ∃ fields i zv, P.underlying t = some (.struct fields) ∧ P.info? t = some i ∧ i.zero = some zv ∧ z = bR zv ∧ fs = fields.toList.map (fun f => (f.offset, P.cellsOf f.type, lK P f.type)) ∧
   ∀ f ∈ fields.toList, (P.info? f.type).isSome = true ∧ (P.underlying f.type).isSome = true ∧ P.cellsOf f.type ≠ 0 := by
 unfold ae at h
 cases hu : P.underlying t with
 | none => simp [hu] at h
 | some d =>
  cases d <;> simp only [hu] at h <;> (try (repeat' split at h)) <;> simp only [reduceCtorEq, cq.strct.injEq] at h
  rename_i fields _ i hi _ zv hz hall
  obtain ⟨h1, h2⟩ := h
  refine ⟨fields, i, zv, rfl, hi, hz, h2.symm, h1.symm, fun f hf => ?_⟩
  have := List.all_eq_true.1 hall f hf
  simp only [Bool.and_eq_true, bne_iff_ne] at this
  exact ⟨this.1.1, this.1.2, this.2⟩
theorem jI {t : TypeId} {n : Nat} {a : Bool} (h : au P t = some (n, a)) : ∃ i d, P.info? t = some i ∧ i.size = n ∧ P.underlying t = some d ∧ lK P t = a := by
 unfold au at h
 split at h
 · rename_i i d hi hu
   injection h with h
   injection h with h1 h2
   exact ⟨i, d, hi, h1, hu, h2⟩
 · cases h
theorem p8 {t : TypeId} {z : CV} (h : cn P t = some z) : ∃ i zv, P.info? t = some i ∧ i.zero = some zv ∧ z = ofValue zv := by
 unfold cn at h
 split at h
 · rename_i i hi
   split at h
   · rename_i zv hz
     injection h with h
     exact ⟨i, zv, hi, hz, h.symm⟩
   · cases h
 · cases h
end
end Go.CP
