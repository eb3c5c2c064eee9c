/- The executor: one operation, a region, code. -/
import Derived.Test.YtgofapkelhccgaaPi2
set_option linter.unusedVariables false
set_option linter.unusedSimpArgs false
namespace Go.Pi
open Go.RowKit

def getI : TV → Option Int
  | .e (.one (.c (.int _) x)) => some x
  | _ => none
def getC : TV → Option CV
  | .e (.one x) => some x
  | _ => none
def getE : TV → Option EV
  | .e x => some x
  | _ => none
def addOff : CV → Nat → Option CV
  | .ptr s o, n => some (.ptr s (o + n))
  | .rptr s r i o, n => some (.rptr s r i (o + n))
  | .eptr r xs i o, n => some (.eptr r xs i (o + n))
  | _, _ => none
def CV.alive (B : Nat → Option Blk) : CV → Bool
  | .own s | .pre s _ | .ptr s _ | .rptr s _ _ _ => (B s).isSome
  | _ => true
def one (x : CV) : TV := .e (.one x)
def eff1 (v : TV) : Prep := .eff true { v := v }
def effG (g : Bool) (v : TV) : Prep := .eff g { v := v }

mutual
def Sh.hasSl : Sh → Bool
  | .sl _ => true
  | _ => false
def Shs.hasSl : Shs → Bool
  | .one s => s.hasSl
  | .cons s r => s.hasSl || r.hasSl
end
/-- Does a result lead to memory that may have been handed in. -/
def RK.leaks (p : RK) : Bool := match p.own, p.row with
  | some _, .one (.sl r) => r.hasSl
  | _, r => r.hasSl

/-! calls of functions -/
def funOf : TV → Option FuncId
  | .e (.one (.val (.func (.func f) a b))) => if a.size = 0 ∧ b.size = 0 then some f else none
  | _ => none
def pack1 (B : Nat → Option Blk) : (p : PK) → TV → Option p.D
  | .data true r, t => match t with
    | .e (.agg l) => packR B r l
    | _ => none
  | .data false r, t => match t with
    | .e (.one v) => packR B r [v]
    | _ => none
  | .take e r, t => match t with
    | .e (.one (.own s)) => match B s with
      | some (.row e' r' xs false) => if e = e' then castRows r' r xs else none
      | _ => none
    | _ => none
  | .fn f, t => match funOf t with
    | some f' => if f = f' then some () else none
    | none => none
def packA (B : Nat → Option Blk) : (ps : List PK) → List TV → Option (ArgsD ps)
  | [], as => match as with
    | [] => some ()
    | _ :: _ => none
  | p :: ps, as => match as with
    | [] => none
    | t :: as => match pack1 B p t with
      | none => none
      | some x => match packA B ps as with
        | none => none
        | some y => some (x, y)
/-- The sites that are handed over for good; those that are read. -/
def takenA : List PK → List TV → List Nat
  | .take _ _ :: ps, .e (.one (.own s)) :: as => s :: takenA ps as
  | _ :: ps, _ :: as => takenA ps as
  | _, _ => []
def lentA : List PK → List TV → List Nat
  | .data _ _ :: ps, .e x :: as => x.cells.flatMap CV.rowSites ++ lentA ps as
  | _ :: ps, _ :: as => lentA ps as
  | _, _ => []
def resV (base : Nat) : (rs : List RK) → ResD rs → List EV
  | [], _ => []
  | [p], x => [one1 p base x]
  | p :: q :: l, x => one1 p base x.1 :: resV (base + 1) (q :: l) x.2
where one1 (p : RK) (b : Nat) (x : RowD p.row) : EV := match p.own with
  | some _ => .one (.own b)
  | none => if p.agg then .agg (unpackR p.row x) else match p, x with
    | ⟨_, .one s, _⟩, x => .one (.c s x)
    | ⟨_, .cons _ _, _⟩, x => .agg (unpackR _ x)
def resW (base : Nat) : (rs : List RK) → ResD rs → List (Nat × Option Blk)
  | [], _ => []
  | [p], x => one1 p base x
  | p :: q :: l, x => one1 p base x.1 ++ resW (base + 1) (q :: l) x.2
where one1 (p : RK) (b : Nat) (x : RowD p.row) : List (Nat × Option Blk) := match p, x with
  | ⟨_, .one (.sl r), some e⟩, x => [(b, some (.row e r x false))]
  | _, _ => []
def tupV : List EV → TV
  | [x] => .e x
  | l => .tup l
def callEff (base : Nat) (E : Ent) (w : List (Nat × Option Blk)) (r : ResD E.rs) : Eff := { v := tupV (resV base E.rs r), w := resW base E.rs r ++ w }
def nodupN : List Nat → Bool
  | [] => true
  | x :: l => l.all (fun y => !Nat.beq x y) && nodupN l
def findE (B : Nat → Option Blk) (n : FuncId) (as : List TV) : List (Nat × Ent) → Prep
  | [] => .bad
  | (m, E) :: l => cond (Nat.beq m n) (match packA B E.ps as with
      | some x => let tk := takenA E.ps as
        cond (nodupN tk && ((tk.all fun s => (lentA E.ps as).all fun s' => !Nat.beq s s') && Nat.ble E.rs.length 8)) (
          .call n E x as (tk.map (fun s => (s, none)) ++ (if E.rs.any RK.leaks then frz B (lentA E.ps as) else []))) .bad
      | none => findE B n as l) (findE B n as l)

def fits (bytes n m : Nat) : Bool := decide ((n + m) * bytes ≤ 140737488355328)
def zmax (x y : Int) : Int := if y > x then y else x
def zmin (x y : Int) : Int := if y < x then y else x
def mxL : List Int → Option Int
  | [] => none
  | x :: l => some (l.foldl zmax x)
def mnL : List Int → Option Int
  | [] => none
  | x :: l => some (l.foldl zmin x)

/-- The bounds of a cut. -/
def cutG (lo hi : Option Int) (len : Nat) : Bool := match lo, hi with
  | none, none => true
  | none, some h => decide (0 ≤ h) && decide (h ≤ (len : Int))
  | some l, none => decide (0 ≤ l) && decide (l ≤ (len : Int))
  | some l, some h => decide (0 ≤ l) && (decide (l ≤ h) && decide (h ≤ (len : Int)))
def cutL {α : Type} (lo hi : Option Int) (xs : List α) : List α := match lo, hi with
  | none, none => xs
  | none, some h => xs.take h.toNat
  | some l, none => xs.drop l.toNat
  | some l, some h => (xs.take h.toNat).drop l.toNat
def cutS (lo hi : Option Int) (s : ByteArray) : ByteArray := s.extract ((lo.map Int.toNat).getD 0) ((hi.map Int.toNat).getD s.size)
/-- An operand that may be missing: none: it is there, and no whole number. -/
def optI (g : Nat → TV) : Option Operand → Option (Option Int)
  | none => some none
  | some x => match getI (opnd g x) with
    | some i => some (some i)
    | none => none

/-- The data of a slice's value. -/
def dataOf (B : Nat → Option Blk) : CV → Option ((r : Shs) × List (RowD r))
  | .c (.sl r) xs => some ⟨r, xs⟩
  | .own s => match B s with
    | some (.row _ r xs _) => some ⟨r, xs⟩
    | _ => none
  | .pre s n => match B s with
    | some (.row _ r xs _) => some ⟨r, xs.take n.toNat⟩
    | _ => none
  | _ => none
/-- What is appended to: the site (none: nil), the row. -/
def baseOfApp (B : Nat → Option Blk) : CV → Option (Nat × (r : Shs) × List (RowD r))
  | .own s => match B s with
    | some (.row _ r xs false) => some (s, ⟨r, xs⟩)
    | _ => none
  | .pre s n => match B s with
    | some (.row _ r xs false) => some (s, ⟨r, xs.take n.toNat⟩)
    | _ => none
  | _ => none
def elemT (P : Program) (t : TypeId) : Option TypeId := match P.underlying t with
  | some (.slice e) => some e
  | _ => none
def rowType (B : Nat → Option Blk) (s : Nat) : Option TypeId := match B s with
  | some (.row e _ _ _) => some e
  | _ => none

/-- Elements of a slice's literal. -/
def litRows (B : Nat → Option Blk) (r : Shs) (parts : List (Nat × TV)) : Nat → Nat → Option (List (RowD r))
  | _, 0 => some []
  | j, n + 1 =>
    let rest := litRows B r parts (j + 1) n
    match parts.find? (fun p => p.1 == j) with
    | none => rest.map (r.dflt :: ·)
    | some (_, .e x) => match packR B r x.cells, rest with
      | some y, some l => some (y :: l)
      | _, _ => none
    | some _ => none

/-- The sites that an element of a literal leads to. -/
def litS : TV → List Nat
  | .e x => x.cells.flatMap CV.rowSites
  | _ => []

/-- What an operation comes to. -/
def prep (P : Program) (T : List (Nat × Ent)) (g : Nat → TV) (B : Nat → Option Blk) (base : Nat) (o : Oper) : Prep :=
  match o.op with
  | .move x | .assign x => match opnd g x with
    | .dead => .bad
    | v => eff1 v
  | .pick c a b => match opnd g c with
    | .e (.one (.c .bool t)) => eff1 (phi t (opnd g a) (opnd g b))
    | _ => .bad
  | .extract t i => match opnd g t with
    | .tup l => match l[i]? with
      | some x => eff1 (.e x)
      | none => .bad
    | _ => .bad
  | .binOp op t x y _ => match bin P op t (opnd g x) (opnd g y) with
    | some (q, v) => effG q v
    | none => .bad
  | .unOp op _ x => match un op (opnd g x) with
    | some v => eff1 v
    | none => .bad
  | .convert src dst x => match P.underlying src, P.underlying dst, opnd g x with
    | some _, some (.int k), .e (.one (.c (.int _) n)) => eff1 (int1 k (k.wrap n))
    | some (.slice e), some .string, .e (.one v) => match P.underlying e, v.toC B (.sl (.one (.int .u8))) with
      | some (.int .u8), some xs => eff1 (str1 (strOf xs))
      | _, _ => .bad
    | _, _, _ => .bad
  | .alloc t => match zeroT P t, P.underlying t with
    | some z, some (.array n e) => match shOf P 20 e with
      | some r => if z.length = n * r.size ∧ zeroRows r n z then .eff true { v := one (.ptr base 0), w := [(base, some (.arr t r n (List.replicate n r.dflt)))] } else .bad
      | none => .bad
    | some z, some _ => if z.all (·.oneCell') then .eff true { v := one (.ptr base 0), w := [(base, some (.box t (z.map ofCell)))] } else .bad
    | _, _ => .bad
  | .box t x => match opnd g x with
    | .e v => .eff true { v := one (.ptr base 0), w := [(base, some (.box t v.cells))] }
    | _ => .bad
  | .load t p => match getC (opnd g p) with
    | some q => match cellsAt B q with
      | some (l, off) => match partV P t l off with
        | some v => eff1 (.e v)
        | none => .bad
      | none => .bad
    | none => .bad
  | .store t p x => match getC (opnd g p), getE (opnd g x) with
    | some q, some v => match storeV P B t q v with
      | some w => .eff true { v := .tup [], w := w }
      | none => .bad
    | _, _ => .bad
  | .fieldAddr t x f => match getC (opnd g x), fieldOff P t f with
    | some q, some (off, _) => match addOff q off with
      | some q' => if q.alive B then eff1 (one q') else .bad
      | none => .bad
    | _, _ => .bad
  | .field t x f => match opnd g x, fieldOff P t f with
    | .e (.agg l), some (off, ft) => match partV P ft l off with
      | some v => eff1 (.e v)
      | none => .bad
    | _, _ => .bad
  | .indexAddr t x i => match P.underlying t, getC (opnd g x), getI (opnd g i) with
    | some (.slice e), some (.c (.sl r) xs), some j => if sizeT P e = some r.size then effG (inb j (List.length xs)) (one (.eptr r xs j 0)) else .bad
    | some (.slice e), some (.own s), some j => match B s with
      | some (.row e' r xs _) => if sizeT P e = some r.size then effG (inb j xs.length) (one (.rptr s r j 0)) else .bad
      | _ => .bad
    | some (.slice e), some (.pre s n), some j => match B s with
      | some (.row e' r xs _) => if sizeT P e = some r.size then effG (inb j n.toNat) (one (.rptr s r j 0)) else .bad
      | _ => .bad
    | some (.array n e), some (.ptr s 0), some j => match B s with
      | some (.arr t' r m xs) => if sizeT P e = some r.size ∧ m = n then effG (inb j n) (one (.rptr s r j 0)) else .bad
      | some (.box _ _) => match sizeT P e with
        | some z => if inb j n = true then eff1 (one (.ptr s (j.toNat * z))) else .bad
        | none => .bad
      | _ => .bad
    | _, _, _ => .bad
  | .index t x i => match P.underlying t, opnd g x, getI (opnd g i) with
    | some .string, .e (.one (.c .str s)), some j => effG (inb j (ByteArray.size s)) (int1 .u8 (bt s j))
    | _, _, _ => .bad
  | .build t parts => match zeroT P t, P.underlying t with
    | some z, some (.struct fs) => match fillV (fun i => match fs[i]? with
          | some f => (sizeT P f.type).map fun n => (f.offset, n)
          | none => none) (z.map ofCell) (parts.toList.map fun p => (p.1, opnd g p.2)) with
      | some l => if fs.all (fun f => (P.info? f.type).isSome) && z.all (·.oneCell') then eff1 (.e (.agg l)) else .bad
      | none => .bad
    | _, _ => .bad
  | .buildSlice t n parts => match elemT P t with
    | some e => match shOf P 20 e, zeroT P e with
      | some r, some z => if sizeT P e = some r.size ∧ zeroIs r z = true ∧ n * r.size ≤ 16777216 ∧ (parts.toList.map (·.1)).Nodup ∧ (∀ p ∈ parts.toList, p.1 < n) then
          match litRows B r (parts.toList.map fun p => (p.1, opnd g p.2)) 0 n with
          | some xs => .eff true { v := one (.own base), w := (base, some (.row e r xs false)) :: frz B (parts.toList.flatMap fun p => litS (opnd g p.2)) }
          | none => .bad
        else .bad
      | _, _ => .bad
    | none => .bad
  | .makeSlice t l c => match elemT P t, getI (opnd g l), getI (opnd g c) with
    | some e, some n, some m => match shOf P 20 e, zeroT P e, P.info? e with
      | some r, some z, some i => if i.size = r.size ∧ zeroIs r z = true ∧ 0 < i.bytes then
          .eff (decide (0 ≤ n) && (decide (n ≤ m) && decide (m * i.bytes ≤ 140737488355328))) { v := one (.own base), w := [(base, some (.row e r (List.replicate n.toNat r.dflt) false))] }
        else .bad
      | _, _, _ => .bad
    | _, _, _ => .bad
  | .slice t x lo hi none => match P.underlying t, opnd g x, optI g lo, optI g hi with
    | some .string, .e (.one (.c .str s)), some l, some h => effG (cutG l h (ByteArray.size s)) (str1 (cutS l h s))
    | some (.slice e), .e (.one v), some l, some h => match v, l with
      | .own s, none => match B s with
        | some (.row e' r xs _) => match h with
          | some h => if (sizeT P e).isSome then effG (decide (0 ≤ h) && decide (h ≤ (xs.length : Int))) (one (.pre s h)) else .bad
          | none => .bad
        | _ => .bad
      | .pre s n, none => match h with
        | some h => if (sizeT P e).isSome && (B s).isSome then effG (decide (0 ≤ h) && decide (h ≤ n)) (one (.pre s h)) else .bad
        | none => .bad
      | v, l => match dataOf B v with
        | some ⟨r, xs⟩ => if sizeT P e = some r.size then .eff (cutG l h xs.length) { v := one (.c (.sl r) (cutL l h xs)), w := frz B (CV.rowSites v) } else .bad
        | none => .bad
    | some (.array n e), .e (.one (.ptr s 0)), some none, some none => match B s with
      | some (.arr _ r m xs) => if (sizeT P e).isSome ∧ m = n ∧ n ≤ 16777216 then .eff true { v := one (.c (.sl r) xs), w := (s, none) :: [] } else .bad
      | _ => .bad
    | _, _, _, _ => .bad
  | .call c => match c.callee with
    | .builtin .len => match c.args.toList.map (opnd g), c.argTypes.toList with
      | [.e (.one (.c .str s))], [t] => if (P.underlying t matches some .string) then eff1 (int1 .i64 (ByteArray.size s : Nat)) else .bad
      | [.e (.one v)], [t] => if (P.underlying t matches some (.slice _)) then match v with
          | .val (.slice none 0 0) => eff1 (int1 .i64 0)
          | .pre s n => if (B s).isSome then effG (decide (0 ≤ n)) (int1 .i64 n) else .bad
          | v => match dataOf B v with
            | some ⟨_, xs⟩ => eff1 (int1 .i64 (xs.length : Nat))
            | none => .bad
        else .bad
      | _, _ => .bad
    | .builtin .max => match c.args.toList.mapM (fun x => getI (opnd g x)), c.args.toList.head?.map (opnd g) with
      | some l, some (.e (.one (.c (.int k) _))) => match mxL l with
        | some m => eff1 (int1 k m)
        | none => .bad
      | _, _ => .bad
    | .builtin .min => match c.args.toList.mapM (fun x => getI (opnd g x)), c.args.toList.head?.map (opnd g) with
      | some l, some (.e (.one (.c (.int k) _))) => match mnL l with
        | some m => eff1 (int1 k m)
        | none => .bad
      | _, _ => .bad
    | .builtin .append => match c.args.toList.map (opnd g), c.argTypes.toList with
      | [.e (.one d), .e (.one v)], [t, u] => match elemT P t with
        | none => .bad
        | some e => match P.info? e with
          | none => .bad
          | some i => if t = u then match dataOf B v with
            | none => .bad
            | some ⟨r, ys⟩ => if i.size = r.size ∧ 0 < i.bytes ∧ i.zero.map (·.cells.size) = some i.size then
                match d with
                | .val (.slice none 0 0) => .eff (fits i.bytes 0 ys.length) { v := one (.own base), w := (base, some (.row e r ys false)) :: [] }
                | d => match baseOfApp B d with
                  | some (s, ⟨r', xs⟩) => match castRows r' r xs with
                    | some xs' => if rowType B s = some e ∧ s ∉ CV.rowSites v then
                        .eff (fits i.bytes xs'.length ys.length) { v := one (.own base), w := (s, none) :: (base, some (.row e r (xs' ++ ys) false)) :: [] }
                      else .bad
                    | none => .bad
                  | none => .bad
              else .bad
            else .bad
      | _, _ => .bad
    | .builtin .copy => match c.args.toList.map (opnd g), c.argTypes.toList with
      | [.e (.one (.own s)), .e (.one v)], [t, u] => match elemT P t, B s, dataOf B v with
        | some e, some (.row e' r xs false), some ⟨r', ys⟩ => match castRows r' r ys with
          | some ys' => if sizeT P e = some 1 ∧ r.size = 1 ∧ s ∉ CV.rowSites v ∧ r.hasSl = false then
              .eff true { v := int1 .i64 (min ys'.length xs.length : Nat), w := [(s, some (.row e' r (ys'.take xs.length ++ xs.drop ys'.length) false))] }
            else .bad
          | none => .bad
        | _, _, _ => .bad
      | _, _ => .bad
    | .value f => match funOf (opnd g f) with
      | some n => findE B n (c.args.toList.map (opnd g)) T
      | none => .bad
    | _ => .bad
  | _ => .bad
where
  zeroRows (r : Shs) : Nat → List Value → Bool
    | 0, z => z.isEmpty
    | n + 1, z => zeroIs r (z.take r.size) && zeroRows r n (z.drop r.size)

end Go.Pi
