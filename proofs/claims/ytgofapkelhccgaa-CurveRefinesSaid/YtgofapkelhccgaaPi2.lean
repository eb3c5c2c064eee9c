/- The executor: symbolic values, blocks, what one operation comes to. -/
import Derived.Test.YtgofapkelhccgaaPi1
set_option linter.unusedVariables false
set_option linter.unusedSimpArgs false
namespace Go.Pi
open Go.RowKit

inductive CV : Type where
  | val (v : Value)
  | c (s : Sh) (x : CellD s)
  | own (s : Nat)
  | pre (s : Nat) (n : Int)
  | ptr (s : Nat) (off : Nat)
  | rptr (s : Nat) (r : Shs) (i : Int) (off : Nat)
  | eptr (r : Shs) (xs : List (RowD r)) (i : Int) (off : Nat)
inductive EV : Type where
  | one (x : CV)
  | agg (l : List CV)
inductive TV : Type where
  | dead
  | e (x : EV)
  | tup (l : List EV)
inductive Blk : Type where
  | box (t : TypeId) (cells : List CV)
  | row (e : TypeId) (r : Shs) (xs : List (RowD r)) (fz : Bool)
  | arr (t : TypeId) (r : Shs) (n : Nat) (xs : List (RowD r))

def Blk.mut : Blk → Bool
  | .box _ _ => true
  | .row _ _ _ fz => !fz
  | .arr _ _ _ _ => true

def EV.cells : EV → List CV
  | .one x => [x]
  | .agg l => l

/-! pure words -/
def gd {α : Type} (d : α) (xs : List α) (i : Int) : α := xs.getD i.toNat d
def inb (i : Int) (n : Nat) : Bool := decide (0 ≤ i) && decide (i < (n : Int))
def bt (s : ByteArray) (i : Int) : Int := if h : i.toNat < s.size then ((s[i.toNat]'h).toNat : Int) else 0
def zbits (op : BinOp) (k : IntKind) (a b : Int) : Int :=
  let x := BitVec.ofInt k.bits a
  let y := BitVec.ofInt k.bits b
  k.wrap ((match op with | .and => x &&& y | .or => x ||| y | .xor => x ^^^ y | _ => x &&& ~~~y : BitVec k.bits).toNat : Int)
def zshl (k : IntKind) (a b : Int) : Int := k.wrap (a * 2 ^ min b.toNat k.bits)
def zshr (k : IntKind) (a b : Int) : Int := a.fdiv (2 ^ min b.toNat k.bits)
def strOf (xs : List Int) : ByteArray := xs.foldl (fun r n => r.push (UInt8.ofNat n.toNat)) ByteArray.empty
def strBytes (s : ByteArray) : List Int := s.data.toList.map fun b => (b.toNat : Int)
def eqI (x y : Int) : Bool := x == y
def eqB (x y : Bool) : Bool := x == y
def eqS (x y : ByteArray) : Bool := x.toList == y.toList
def eqA (x y : ByteArray) : Bool := x == y
def nonneg (x : Int) : Bool := decide (0 ≤ x)
def catOk (x y : ByteArray) : Bool := decide (x.size + y.size ≤ 9223372036854775807)
def catS (x y : ByteArray) : ByteArray := x ++ y
def notB (x : Bool) : Bool := !x
def andB (x y : Bool) : Bool := x && y
def negI (k : IntKind) (x : Int) : Int := k.wrap (0 - x)
def lk {α : Type} : List (Nat × α) → Nat → Option α
  | [], _ => none
  | (j, a) :: l, i => cond (Nat.beq j i) (some a) (lk l i)

/-! values -/
def ofCell : Value → CV
  | .int k n => .c (.int k) n
  | .bool b => .c .bool b
  | .string s => .c .str s
  | v => .val v
def ofVal (v : Value) : TV := if v.oneCell' = true then .e (.one (ofCell v)) else .dead
def opnd (g : Nat → TV) : Operand → TV
  | .tmp t => g t
  | .const v => ofVal v
  | .func f => .e (.one (.val (.func (.func f) #[] #[])))
  | .global _ => .dead

def unpackR : (r : Shs) → RowD r → List CV
  | .one s, x => [.c s x]
  | .cons s r, x => .c s x.1 :: unpackR r x.2

def castD (s s' : Sh) (x : CellD s) : Option (CellD s') := if h : s = s' then some (h ▸ x) else none
def castRows (r r' : Shs) (xs : List (RowD r)) : Option (List (RowD r')) := if h : r = r' then some (h ▸ xs) else none

/-- A cell as data of a shape. -/
def CV.toC (B : Nat → Option Blk) (s : Sh) : CV → Option (CellD s)
  | .c s' x => castD s' s x
  | .val (.slice none 0 0) => match s with
    | .sl _ => some []
    | _ => none
  | .own i => match B i with
    | some (.row _ r xs _) => castD (.sl r) s xs
    | _ => none
  | .pre i n => match B i with
    | some (.row _ r xs _) => castD (.sl r) s (xs.take n.toNat)
    | _ => none
  | _ => none

def packR (B : Nat → Option Blk) : (r : Shs) → List CV → Option (RowD r)
  | .one s, l => match l with
    | [] => none
    | v :: l => match l with
      | [] => v.toC B s
      | _ :: _ => none
  | .cons s r, l => match l with
    | [] => none
    | v :: l => match v.toC B s with
      | none => none
      | some x => match packR B r l with
        | none => none
        | some y => some (x, y)
theorem packR_one (B : Nat → Option Blk) (s : Sh) (l : List CV) : packR B (.one s) l = match l with
    | [] => none
    | v :: l => match l with
      | [] => v.toC B s
      | _ :: _ => none := rfl
theorem packR_cons (B : Nat → Option Blk) (s : Sh) (r : Shs) (l : List CV) : packR B (.cons s r) l = match l with
    | [] => none
    | v :: l => match v.toC B s with
      | none => none
      | some x => match packR B r l with
        | none => none
        | some y => some (x, y) := rfl

/-- The sites that a cell names. -/
def CV.sites : CV → List Nat
  | .own s | .pre s _ | .ptr s _ | .rptr s _ _ _ => [s]
  | _ => []
def EV.sites (x : EV) : List Nat := x.cells.flatMap CV.sites
def TV.sites : TV → List Nat
  | .dead => []
  | .e x => x.sites
  | .tup l => l.flatMap EV.sites

/-- The rows that a cell's slice leads to are written no more. -/
def frz (B : Nat → Option Blk) (ss : List Nat) : List (Nat × Option Blk) :=
  ss.filterMap fun s => match B s with
    | some (.row e r xs false) => some (s, some (.row e r xs true))
    | _ => none
/-- Sites of slices (not of pointers). -/
def CV.rowSites : CV → List Nat
  | .own s | .pre s _ => [s]
  | _ => []

/-! types -/
def isAggT (P : Program) (t : TypeId) : Bool := match P.underlying t with
  | some (.struct _) | some (.array _ _) => true
  | _ => false
def sizeT (P : Program) (t : TypeId) : Option Nat := (P.info? t).map (·.size)
def shOf (P : Program) : Nat → TypeId → Option Shs
  | 0, _ => none
  | n + 1, t => match P.underlying t with
    | some (.int k) => some (.one (.int k))
    | some .bool => some (.one .bool)
    | some .string => some (.one .str)
    | some (.slice e) => match shOf P n e with
      | some r => some (.one (.sl r))
      | none => none
    | some (.struct fs) => cat (fs.toList.map fun f => shOf P n f.type)
    | some (.array m e) => cat (List.replicate m (shOf P n e))
    | _ => none
where
  cat : List (Option Shs) → Option Shs
    | [] => none
    | [x] => x
    | x :: l => match x, cat l with
      | some a, some b => some (app a b)
      | _, _ => none
  app : Shs → Shs → Shs
    | .one s, b => .cons s b
    | .cons s a, b => .cons s (app a b)

/-- The cells of a type's zero value. -/
def zeroT (P : Program) (t : TypeId) : Option (List Value) := match P.info? t with
  | some i => i.zero.map (·.cells.toList)
  | none => none
/-- Is this list the cells of the row's zero. -/
def zeroIs : (r : Shs) → List Value → Bool
  | .one s, [v] => one s v
  | .cons s r, v :: l => one s v && zeroIs r l
  | _, _ => false
where
  one : Sh → Value → Bool
    | .int k, .int k' n => decide (k = k') && decide (n = 0)
    | .bool, .bool b => !b
    | .str, .string s => decide (s.data = #[])
    | .sl _, .slice none 0 0 => true
    | _, _ => false

structure Eff where
  v : TV
  w : List (Nat × Option Blk) := []

/-- A parameter: data (a struct's or array's value, or one cell); a row that the callee may write and hand back; a function. -/
inductive PK : Type where
  | data (agg : Bool) (r : Shs)
  | take (e : TypeId) (r : Shs)
  | fn (f : FuncId)
def PK.D : PK → Type
  | .data _ r => RowD r
  | .take _ r => List (RowD r)
  | .fn _ => Unit
/-- A result: its cells; is it a new row of the callee's own (and of which element type). -/
structure RK where
  agg : Bool := false
  row : Shs
  own : Option TypeId := none
def ArgsD : List PK → Type
  | [] => Unit
  | p :: l => p.D × ArgsD l
def ResD : List RK → Type
  | [] => Unit
  | [p] => RowD p.row
  | p :: q :: l => RowD p.row × ResD (q :: l)
/-- What is known of a function: its Lean function. -/
structure Ent where
  ps : List PK
  rs : List RK
  fn : Nat → ArgsD ps → Option (ResD rs)

inductive Prep : Type where
  | bad
  | eff (g : Bool) (e : Eff)
  | call (n : FuncId) (E : Ent) (x : ArgsD E.ps) (args : List TV) (w : List (Nat × Option Blk))

def phi (b : Bool) (x y : TV) : TV :=
  match x, y with
  | .e (.one (.c s u)), .e (.one (.c s' v)) => match castD s' s v with
    | some v' => .e (.one (.c s (cond b u v')))
    | none => cond b x y
  | _, _ => cond b x y

def int1 (k : IntKind) (n : Int) : TV := .e (.one (.c (.int k) n))
def bool1 (b : Bool) : TV := .e (.one (.c .bool b))
def str1 (s : ByteArray) : TV := .e (.one (.c .str s))

def eqCell : CV → CV → Option Bool
  | .c (.int k) x, .c (.int k') y => if k = k' then some (eqI x y) else none
  | .c .bool x, .c .bool y => some (eqB x y)
  | .c .str x, .c .str y => some (eqA x y)
  | _, _ => none
/-- A struct all of whose fields are one cell each: field by field. -/
def eqFields1 (P : Program) : List Field → List CV → List CV → Option Bool
  | [], _, _ => some true
  | f :: fs, xs, ys => if f.name = "_" then none else
    match P.underlying f.type, xs[f.offset]?, ys[f.offset]? with
    | some (.int k), some (.c (.int k1) x), some (.c (.int k2) y) => if k1 = k ∧ k2 = k then (eqFields1 P fs xs ys).map (andB (eqI x y)) else none
    | some .bool, some (.c .bool x), some (.c .bool y) => (eqFields1 P fs xs ys).map (andB (eqB x y))
    | some .string, some (.c .str x), some (.c .str y) => (eqFields1 P fs xs ys).map (andB (eqA x y))
    | _, _, _ => none

def cmpI (op : BinOp) (x y : Int) : Option Bool := match op with
  | .eql => some (x == y)
  | .neq => some (x != y)
  | .lss => some (decide (x < y))
  | .leq => some (decide (x ≤ y))
  | .gtr => some (decide (x > y))
  | .geq => some (decide (x ≥ y))
  | _ => none
def arI (op : BinOp) (k : IntKind) (x y : Int) : Option (Bool × Int) := match op with
  | .add => some (true, k.wrap (x + y))
  | .sub => some (true, k.wrap (x - y))
  | .mul => some (true, k.wrap (x * y))
  | .quo => some (!decide (y = 0), k.wrap (x.tdiv y))
  | .rem => some (!decide (y = 0), x.tmod y)
  | .and | .or | .xor | .andNot => some (true, zbits op k x y)
  | _ => none

def bin (P : Program) (op : BinOp) (t : TypeId) (x y : TV) : Option (Bool × TV) :=
  match x, y with
  | .e (.one (.c (.int k) a)), .e (.one (.c (.int k') b)) => match op with
    | .shl => some (nonneg b, int1 k (zshl k a b))
    | .shr => some (nonneg b, int1 k (zshr k a b))
    | _ => if k = k' then match cmpI op a b with
        | some r => some (true, bool1 r)
        | none => match arI op k a b with
          | some (g, r) => some (g, int1 k r)
          | none => none
      else none
  | .e (.one (.c .bool a)), .e (.one (.c .bool b)) => match P.underlying t, op with
    | some .bool, .eql => some (true, bool1 (eqB a b))
    | some .bool, .neq => some (true, bool1 (notB (eqB a b)))
    | _, _ => none
  | .e (.one (.c .str a)), .e (.one (.c .str b)) => match op with
    | .add => some (catOk a b, str1 (catS a b))
    | .eql => some (true, bool1 (eqS a b))
    | .neq => some (true, bool1 (notB (eqS a b)))
    | _ => none
  | .e (.agg l), .e (.agg m) => match P.underlying t with
    | some (.struct fs) => if P.stoodInHeld t || P.eqGuardType P.depth t then none else match eqFields1 P fs.toList l m, op with
      | some b, .eql => some (true, bool1 b)
      | some b, .neq => some (true, bool1 (notB b))
      | _, _ => none
    | _ => none
  | _, _ => none

def un (op : UnOp) (x : TV) : Option TV :=
  match op, x with
  | .neg, .e (.one (.c (.int k) a)) => some (int1 k (negI k a))
  | .xor, .e (.one (.c (.int k) a)) => some (int1 k (zbits .xor k (if k.signed then -1 else k.max) a))
  | .not, .e (.one (.c .bool b)) => some (bool1 (notB b))
  | _, _ => none

/-- A part of n cells at off, as a value of type t. -/
def partV (P : Program) (t : TypeId) (l : List CV) (off : Nat) : Option EV :=
  match sizeT P t, P.underlying t with
  | some n, some _ => if off + n ≤ l.length then
      (if isAggT P t then some (.agg ((l.drop off).take n)) else
        match l[off]? with
        | some v => if n = 1 then some (.one v) else none
        | none => none)
    else none
  | _, _ => none
def setCells (l : List CV) (off : Nat) (m : List CV) : List CV := l.take off ++ m ++ l.drop (off + m.length)

def rowOf (B : Nat → Option Blk) (s : Nat) : Option ((e : TypeId) × (r : Shs) × List (RowD r)) := match B s with
  | some (.row e r xs _) => some ⟨e, r, xs⟩
  | _ => none

def fieldOff (P : Program) (t : TypeId) (f : Nat) : Option (Nat × TypeId) := match P.underlying t with
  | some (.struct fs) => match fs[f]? with
    | some fd => match sizeT P fd.type with
      | some (n + 1) => some (fd.offset, fd.type)
      | _ => none
    | none => none
  | _ => none

/-- The cells of a struct's literal. -/
def fillV (place : Nat → Option (Nat × Nat)) (cells : List CV) : List (Nat × TV) → Option (List CV)
  | [] => some cells
  | (i, .e x) :: rest => match place i with
    | some (off, n) => if x.cells.length = n ∧ off + n ≤ cells.length then fillV place (setCells cells off x.cells) rest else none
    | none => none
  | _ => none

/-- The cells of the read data behind a pointer. -/
def cellsAt (B : Nat → Option Blk) : CV → Option (List CV × Nat)
  | .ptr s off => match B s with
    | some (.box _ cells) => some (cells, off)
    | _ => none
  | .rptr s r i off => match B s with
    | some (.row _ r' xs _) => match castRows r' r xs with
      | some xs' => some (unpackR r (gd r.dflt xs' i), off)
      | none => none
    | some (.arr _ r' _ xs) => match castRows r' r xs with
      | some xs' => some (unpackR r (gd r.dflt xs' i), off)
      | none => none
    | _ => none
  | .eptr r xs i off => some (unpackR r (gd r.dflt xs i), off)
  | _ => none

def storeV (P : Program) (B : Nat → Option Blk) (t : TypeId) (p : CV) (x : EV) : Option (List (Nat × Option Blk)) :=
  match sizeT P t with
  | none => none
  | some n => if x.cells.length = n then
    match p with
    | .ptr s off => match B s with
      | some (.box bt cells) => if off + n ≤ cells.length then some [(s, some (.box bt (setCells cells off x.cells)))] else none
      | _ => none
    | .rptr s r i off => match B s with
      | some (.row e r' xs false) => if s ∈ x.cells.flatMap CV.rowSites then none else match castRows r' r xs with
        | some xs' => if off + n ≤ r.size then match packR B r (setCells (unpackR r (gd r.dflt xs' i)) off x.cells) with
            | some y => some ((s, some (.row e r (xs'.set i.toNat y) false)) :: frz B ((x.cells.flatMap CV.rowSites).filter (· != s)))
            | none => none
          else none
        | none => none
      | some (.arr bt r' m xs) => match castRows r' r xs with
        | some xs' => if off + n ≤ r.size then match packR B r (setCells (unpackR r (gd r.dflt xs' i)) off x.cells) with
            | some y => some ((s, some (.arr bt r m (xs'.set i.toNat y))) :: frz B (x.cells.flatMap CV.rowSites))
            | none => none
          else none
        | none => none
      | _ => none
    | _ => none
  else none

end Go.Pi
