/- The executor: regions, code, loops, functions. -/
import Derived.Test.YtgofapkelhccgaaPi23
set_option linter.unusedVariables false
set_option linter.unusedSimpArgs false
namespace Go.Pi
open Go.RowKit

structure St where
  g : List (Nat × TV)
  b : List (Nat × Option Blk)
  nx : Nat
def gOf (l : List (Nat × TV)) : Nat → TV := fun i => match lk l i with
  | some v => v
  | none => .dead
def bOf (l : List (Nat × Option Blk)) : Nat → Option Blk := fun i => match lk l i with
  | some v => v
  | none => none
def bindO {α β : Type} : Option α → (α → Option β) → Option β
  | none, _ => none
  | some x, f => f x

inductive Ex : Type where
  | norm
  | exit (id : Nat)
  | ret

/-- What one operation of a region did. -/
structure Log where
  dst : Option Nat
  v : TV
  w : List (Nat × Option Blk)
  rd : List Nat := []
/-- The sites that an operation's operands name. -/
def rdOf (g : Nat → TV) (o : Oper) : List Nat := o.op.operands.toList.flatMap fun x => (opnd g x).sites
def putG (g : List (Nat × TV)) (d : Option Nat) (v : TV) : List (Nat × TV) := match d with
  | some d => (d, v) :: g
  | none => g

section
variable {R : Type}

/-- One operation, its guard aside. -/
def op1 (P : Program) (T : List (Nat × Ent)) (N k base : Nat) (o : Oper) (g : List (Nat × TV)) (b : List (Nat × Option Blk)) (K : List (Nat × TV) → List (Nat × Option Blk) → Log → Option R) : Option R :=
  match o.dst with
  | some d => cond (Nat.blt d N) (go (some d)) none
  | none => go none
where go (d : Option Nat) : Option R := match prep P T (gOf g) (bOf b) base o with
  | .bad => none
  | .eff gd e => cond gd (K (putG g d e.v) (e.w ++ b) ⟨d, e.v, e.w, rdOf (gOf g) o⟩) none
  | .call _ E x _ wl => bindO (E.fn k x) fun r => K (putG g d (callEff base E wl r).v) ((callEff base E wl r).w ++ b) ⟨d, (callEff base E wl r).v, (callEff base E wl r).w, rdOf (gOf g) o⟩
/-- The slot that a guard looks at. -/
def guardT (ops : Array Oper) (j : Nat) : Option Nat := (ops[j]?).bind (·.dst)
def skip1 (N : Nat) (o : Oper) (g : List (Nat × TV)) (b : List (Nat × Option Blk)) (K : List (Nat × TV) → List (Nat × Option Blk) → Log → Option R) : Option R :=
  match o.dst with
  | some d => cond (Nat.blt d N) (K (putG g (some d) (.tup [])) b ⟨some d, .tup [], [], []⟩) none
  | none => K g b ⟨none, .tup [], [], []⟩
def opG (P : Program) (T : List (Nat × Ent)) (N k base : Nat) (ops : Array Oper) (o : Oper) (g : List (Nat × TV)) (b : List (Nat × Option Blk)) (K : List (Nat × TV) → List (Nat × Option Blk) → Log → Option R) : Option R :=
  match o.guard with
  | none => op1 P T N k base o g b K
  | some (j, want) => match guardT ops j with
    | none => none
    | some t => match gOf g t with
      | .e (.one (.c .bool x)) => match want with
        | true => cond x (op1 P T N k base o ((t, bool1 true) :: g) b K) (skip1 N o ((t, bool1 false) :: g) b K)
        | false => cond x (skip1 N o ((t, bool1 true) :: g) b K) (op1 P T N k base o ((t, bool1 false) :: g) b K)
      | .tup [] => skip1 N o g b K
      | _ => none
def opsK (P : Program) (T : List (Nat × Ent)) (N k : Nat) (ops : Array Oper) : List Oper → Nat → List (Nat × TV) → List (Nat × Option Blk) → List Log → (List (Nat × TV) → List (Nat × Option Blk) → List Log → Option R) → Option R
  | [], _, g, b, lg, K => K g b lg
  | o :: l, base, g, b, lg, K => opG P T N k base ops o g b fun g' b' lo => opsK P T N k ops l (base + 8) g' b' (lo :: lg) K
end

/-! drawn regions: what is not bound by the order stands apart -/
def pureOp (o : Oper) : Bool := match o.op with
  | .move _ | .assign _ | .pick _ _ _ | .extract _ _ | .binOp _ _ _ _ _ | .unOp _ _ _ | .field _ _ _ | .index _ _ _ | .build _ _ => true
  | _ => false
def maskOf (M : List Nat) (o : Oper) : Nat := o.after.toList.foldr (fun e s => if Region.binds .any e then s ||| (2 ^ e.on ||| (M.getD e.on 0)) else s) 0
def masks : List Oper → List Nat → List Nat
  | [], M => M
  | o :: l, M => masks l (M ++ [maskOf M o])
/-- Looked at by an operation: operands, the guard's slot. -/
def looks (ops : Array Oper) (o : Oper) : List Nat := (o.op.operands.toList.filterMap fun | .tmp t => some t | _ => none) ++
  (match o.guard with
   | some (j, _) => (guardT ops j).toList
   | none => [])
def keysW (w : List (Nat × Option Blk)) : List Nat := w.map (·.1)
def disj (l m : List Nat) : Bool := l.all fun x => m.all fun y => !Nat.beq x y
def apart1 (ops : Array Oper) (o o' : Oper) (lg lg' : Log) : Bool :=
  (match lg.dst with
   | some d => !(looks ops o').contains d && lg'.dst != some d
   | none => true) &&
  (match lg'.dst with
   | some d => !(looks ops o).contains d
   | none => true) && (disj (keysW lg.w) lg'.rd || pureOp o') && (disj (keysW lg'.w) lg.rd || pureOp o) && disj (keysW lg.w) (keysW lg'.w)
/-- All pairs. l: (operation, its log, its mask), in text order, with their places. -/
def apartAll (ops : Array Oper) : List (Nat × Oper × Log × Nat) → Bool
  | [] => true
  | (i, o, lg, _) :: l => l.all (fun q => Nat.testBit q.2.2.2 i || apart1 ops o q.2.1 lg q.2.2.1) && apartAll ops l
def numbered {α : Type} : Nat → List α → List (Nat × α)
  | _, [] => []
  | n, x :: l => (n, x) :: numbered (n + 1) l
def zip3 : List Oper → List Log → List Nat → List (Oper × Log × Nat)
  | o :: l, x :: m, n :: r => (o, x, n) :: zip3 l m r
  | _, _, _ => []
def drawOk (ops : Array Oper) (lg : List Log) : Bool :=
  let M := masks ops.toList []
  (numbered 0 ops.toList).all (fun q => M.getD q.1 0 == maskOf M q.2 && q.2.after.toList.all fun e => !Region.binds .any e || Nat.blt e.on q.1) &&
    apartAll ops (numbered 0 (zip3 ops.toList lg M))

/-! loops: what a state holds, its data aside -/
inductive CK : Type where
  | val (v : Value)
  | c (s : Sh)
  | own (s : Nat)
  | pre (s : Nat)
  | ptr (s off : Nat)
  | rptr (s : Nat) (r : Shs) (off : Nat)
  | eptr (r : Shs) (off : Nat)
def CK.D : CK → Type
  | .val _ | .own _ | .ptr _ _ => Unit
  | .c s => CellD s
  | .pre _ | .rptr _ _ _ => Int
  | .eptr r _ => List (RowD r) × Int
def CsD : List CK → Type
  | [] => Unit
  | k :: l => k.D × CsD l
inductive EK : Type where
  | one (c : CK)
  | agg (l : List CK)
def EK.D : EK → Type
  | .one c => c.D
  | .agg l => CsD l
inductive BK : Type where
  | box (t : TypeId) (l : List CK)
  | row (e : TypeId) (r : Shs) (fz : Bool)
  | arr (t : TypeId) (r : Shs) (n : Nat)
def BK.D : BK → Type
  | .box _ l => CsD l
  | .row _ r _ => List (RowD r)
  | .arr _ r _ => List (RowD r)
structure Sk where
  nx : Nat
  ts : List (Nat × EK)
  bs : List (Nat × BK)
def TsD : List (Nat × EK) → Type
  | [] => Unit
  | (_, k) :: l => k.D × TsD l
def BsD : List (Nat × BK) → Type
  | [] => Unit
  | (_, k) :: l => k.D × BsD l
abbrev Sk.D (sk : Sk) : Type := TsD sk.ts × BsD sk.bs

def CK.mk : (k : CK) → k.D → CV
  | .val v, _ => .val v
  | .c s, x => .c s x
  | .own s, _ => .own s
  | .pre s, n => .pre s n
  | .ptr s off, _ => .ptr s off
  | .rptr s r off, i => .rptr s r i off
  | .eptr r off, x => .eptr r x.1 x.2 off
def csMk : (l : List CK) → CsD l → List CV
  | [], _ => []
  | k :: l, x => k.mk x.1 :: csMk l x.2
def EK.mk : (k : EK) → k.D → EV
  | .one c, x => .one (c.mk x)
  | .agg l, x => .agg (csMk l x)
def BK.mk : (k : BK) → k.D → Blk
  | .box t l, x => .box t (csMk l x)
  | .row e r fz, x => .row e r x fz
  | .arr t r n, x => .arr t r n x
def tsMk : (l : List (Nat × EK)) → TsD l → List (Nat × TV)
  | [], _ => []
  | (t, k) :: l, x => (t, .e (k.mk x.1)) :: tsMk l x.2
def bsMk : (l : List (Nat × BK)) → BsD l → List (Nat × Option Blk)
  | [], _ => []
  | (s, k) :: l, x => (s, some (k.mk x.1)) :: bsMk l x.2
def Sk.mk' (sk : Sk) (x : sk.D) : St := ⟨tsMk sk.ts x.1, bsMk sk.bs x.2, sk.nx⟩

def sameV : Value → Value → Bool
  | .slice none 0 0, .slice none 0 0 => true
  | .func (.func f) a b, .func (.func f') a' b' => Nat.beq f f' && (a.size == 0 && (b.size == 0 && (a'.size == 0 && b'.size == 0)))
  | _, _ => false

/-- Which of the state's sites stands for which of the skeleton's. -/
def pairC : CK → CV → List (Nat × Nat)
  | .own s, .own s' | .pre s, .pre s' _ | .ptr s _, .ptr s' _ | .rptr s _ _, .rptr s' _ _ _ => [(s, s')]
  | _, _ => []
def pairCs : List CK → List CV → List (Nat × Nat)
  | k :: l, v :: m => pairC k v ++ pairCs l m
  | _, _ => []
def pairE : EK → TV → List (Nat × Nat)
  | .one k, .e (.one v) => pairC k v
  | .agg l, .e (.agg m) => pairCs l m
  | _, _ => []
def pairTs (g : Nat → TV) : List (Nat × EK) → List (Nat × Nat)
  | [] => []
  | (t, k) :: l => pairE k (g t) ++ pairTs g l
def rho (pr : List (Nat × Nat)) (i : Nat) : Nat := match lk pr i with
  | some s => s
  | none => i
def pairBs (b : Nat → Option Blk) : List (Nat × BK) → List (Nat × Nat) → List (Nat × Nat)
  | [], pr => pr
  | (s, k) :: l, pr => pairBs b l (match k, b (rho pr s) with
    | .box _ l, some (.box _ m) => pr ++ pairCs l m
    | _, _ => pr)

section
variable (ρ : Nat → Nat)
def takeC : (k : CK) → CV → Option k.D
  | .val v, .val v' => cond (sameV v v') (some ()) none
  | .c s, .c s' x => castD s' s x
  | .own s, .own s' => cond (Nat.beq (ρ s) s') (some ()) none
  | .pre s, .pre s' n => cond (Nat.beq (ρ s) s') (some n) none
  | .ptr s off, .ptr s' off' => cond (Nat.beq (ρ s) s' && Nat.beq off off') (some ()) none
  | .rptr s r off, .rptr s' r' i off' => cond (Nat.beq (ρ s) s' && (Nat.beq off off' && decide (r = r'))) (some i) none
  | .eptr r off, .eptr r' xs i off' => cond (Nat.beq off off') (match castRows r' r xs with | some ys => some (ys, i) | none => none) none
  | _, _ => none
def takeCs : (l : List CK) → List CV → Option (CsD l)
  | [], [] => some ()
  | k :: l, v :: m => match takeC ρ k v, takeCs l m with
    | some x, some y => some (x, y)
    | _, _ => none
  | _, _ => none
def takeE : (k : EK) → TV → Option k.D
  | .one k, .e (.one v) => takeC ρ k v
  | .agg l, .e (.agg m) => takeCs ρ l m
  | _, _ => none
def takeB : (k : BK) → Option Blk → Option k.D
  | .box t l, some (.box t' m) => cond (Nat.beq t t') (takeCs ρ l m) none
  | .row e r fz, some (.row e' r' xs fz') => cond (Nat.beq e e' && (fz == fz')) (castRows r' r xs) none
  | .arr t r n, some (.arr t' r' n' xs) => cond (Nat.beq t t' && Nat.beq n n') (castRows r' r xs) none
  | _, _ => none
def takeTs (g : Nat → TV) : (l : List (Nat × EK)) → Option (TsD l)
  | [] => some ()
  | (t, k) :: l => match takeE ρ k (g t), takeTs g l with
    | some x, some y => some (x, y)
    | _, _ => none
def takeBs (b : Nat → Option Blk) : (l : List (Nat × BK)) → Option (BsD l)
  | [] => some ()
  | (s, k) :: l => match takeB ρ k (b (ρ s)), takeBs b l with
    | some x, some y => some (x, y)
    | _, _ => none
end
def CK.lt (n : Nat) : CK → Bool
  | .own s | .pre s | .ptr s _ | .rptr s _ _ => Nat.blt s n
  | _ => true
def EK.lt (n : Nat) : EK → Bool
  | .one c => c.lt n
  | .agg l => l.all (CK.lt n)
def BK.lt (n : Nat) : BK → Bool
  | .box _ l => l.all (CK.lt n)
  | _ => true
def Sk.ok (sk : Sk) : Bool := sk.ts.all (fun p => p.2.lt sk.nx) && sk.bs.all fun p => Nat.blt p.1 sk.nx && p.2.lt sk.nx
/-- A slot that holds nil, or a beginning of a row, where the skeleton has a row of the call's own. -/
def own1 (bs : List (Nat × BK)) (S : St) (t : Nat) (k : EK) : St := match k with
  | .one (.own s) => match gOf S.g t with
    | .e (.one (.val (.slice none 0 0))) => match lk bs s with
      | some (.row e r false) => ⟨(t, .e (.one (.own S.nx))) :: S.g, (S.nx, some (.row e r [] false)) :: S.b, S.nx + 1⟩
      | _ => S
    | .e (.one (.pre s' n)) => match bOf S.b s' with
      | some (.row e r xs false) => ⟨(t, .e (.one (.own S.nx))) :: S.g, (S.nx, some (.row e r (xs.take n.toNat) false)) :: (s', none) :: S.b, S.nx + 1⟩
      | _ => S
    | _ => S
  | _ => S
/-- A cell that the skeleton has as data; the rows that it leads to are written no more. -/
def fitC (B : Nat → Option Blk) (k : CK) (v : CV) : CV := match k with
  | .c s => match v with
    | .c s' x => .c s' x
    | v => match v.toC B s with
      | some x => .c s x
      | none => v
  | _ => v
def fitN (k : CK) (v : CV) : List Nat := match k with
  | .c _ => CV.rowSites v
  | _ => []
def fitCs (B : Nat → Option Blk) : List CK → List CV → List CV
  | k :: l, v :: m => fitC B k v :: fitCs B l m
  | _, m => m
def fitNs : List CK → List CV → List Nat
  | k :: l, v :: m => fitN k v ++ fitNs l m
  | _, _ => []
def fitE (B : Nat → Option Blk) (k : EK) (x : TV) : TV := match k, x with
  | .one c, .e (.one v) => .e (.one (fitC B c v))
  | .agg l, .e (.agg m) => .e (.agg (fitCs B l m))
  | _, x => x
def fitEn (k : EK) (x : TV) : List Nat := match k, x with
  | .one c, .e (.one v) => fitN c v
  | .agg l, .e (.agg m) => fitNs l m
  | _, _ => []
def fitS (S : St) (t : Nat) (k : EK) : St := ⟨(t, fitE (bOf S.b) k (gOf S.g t)) :: S.g, frz (bOf S.b) (fitEn k (gOf S.g t)) ++ S.b, S.nx⟩
def fits1 (bs : List (Nat × BK)) : List (Nat × EK) → St → St
  | [], S => S
  | p :: l, S => fits1 bs l (fitS (own1 bs S p.1 p.2) p.1 p.2)
def fitB1 (ρ : Nat → Nat) (S : St) (p : Nat × BK) : St := match p.2 with
  | .box _ l => match bOf S.b (ρ p.1) with
    | some (.box t m) => ⟨S.g, (ρ p.1, some (.box t (fitCs (bOf S.b) l m))) :: (frz (bOf S.b) (fitNs l m) ++ S.b), S.nx⟩
    | _ => S
  | _ => S
def fitBs (ρ : Nat → Nat) : List (Nat × BK) → St → St
  | [], S => S
  | p :: l, S => fitBs ρ l (fitB1 ρ S p)
def Sk.take0 (sk : Sk) (S : St) : Option sk.D :=
  let ρ := rho (pairBs (bOf S.b) sk.bs (pairTs (gOf S.g) sk.ts))
  cond (sk.ok && nodupN (sk.bs.map fun p => ρ p.1)) (match takeTs ρ (gOf S.g) sk.ts, takeBs ρ (bOf S.b) sk.bs with
    | some x, some y => some (x, y)
    | _, _ => none) none

def Sk.fit (sk : Sk) (S : St) : St :=
  let S := fits1 sk.bs sk.ts S
  fitBs (rho (pairBs (bOf S.b) sk.bs (pairTs (gOf S.g) sk.ts))) sk.bs S
def Sk.take (sk : Sk) (S : St) : Option sk.D := sk.take0 (sk.fit S)

structure LoopE (R : Type) where
  sk : Sk
  fn : Nat → sk.D → Option R
def lid : Code → Nat
  | .region id _ _ => id + 1
  | .seq a b => let n := lid a; cond (Nat.beq n 0) (lid b) n
  | .cond _ a b => let n := lid a; cond (Nat.beq n 0) (lid b) n
  | .block _ c | .loop c | .scope c => lid c
  | _ => 0

section
variable {R : Type}
def loopGo (L : List (Nat × LoopE R)) (id k : Nat) (S : St) : Option R := match lk L id with
  | some le => bindO (le.sk.take S) (le.fn k)
  | none => none
def seqK (f : Nat → St → Option R) (K : Nat → Ex → St → Option R) (k : Nat) (e : Ex) (S : St) : Option R := match e with
  | .norm => f k S
  | .exit i => K k (.exit i) S
  | .ret => K k .ret S
def blockK (id : Nat) (K : Nat → Ex → St → Option R) (k : Nat) (e : Ex) (S : St) : Option R := match e with
  | .exit i => cond (Nat.beq i id) (K k .norm S) (K k (.exit i) S)
  | .norm => K k .norm S
  | .ret => K k .ret S
def exec (P : Program) (T : List (Nat × Ent)) (N : Nat) (L : List (Nat × LoopE R)) : Code → Nat → St → (Nat → Ex → St → Option R) → Option R
  | .skip, k, S, K => K k .norm S
  | .region _ ops draw, k, S, K => opsK P T N k ops ops.toList S.nx S.g S.b [] fun g b lg =>
      cond (!draw || drawOk ops lg.reverse) (K k .norm ⟨g, b, S.nx + 8 * ops.size⟩) none
  | .seq a b, k, S, K => exec P T N L a k S (seqK (fun k S => exec P T N L b k S K) K)
  | .cond c x y, k, S, K => match opnd (gOf S.g) c with
      | .e (.one (.c .bool t)) => cond t (exec P T N L x k S K) (exec P T N L y k S K)
      | _ => none
  | .block id c, k, S, K => exec P T N L c k S (blockK id K)
  | .scope c, k, S, K => exec P T N L c k S K
  | .loop c, k, S, _ => loopGo L (lid c) k S
  | .exit id, k, S, K => K k (.exit id) S
  | .ret, k, S, K => K k .ret S
  | _, _, _, _ => none
/-- What a loop's body goes on with. -/
def loopK (L : List (Nat × LoopE R)) (id : Nat) (K : Nat → Ex → St → Option R) (k : Nat) (e : Ex) (S : St) : Option R := match e with
  | .norm => loopGo L id k S
  | .exit i => K k (.exit i) S
  | .ret => K k .ret S
/-- What is asked of the loops' functions. -/
def obl (P : Program) (T : List (Nat × Ent)) (N : Nat) (L : List (Nat × LoopE R)) : Code → (Nat → Ex → St → Option R) → Prop
  | .seq a b, K => obl P T N L a (seqK (fun k S => exec P T N L b k S K) K) ∧ obl P T N L b K
  | .cond _ x y, K => obl P T N L x K ∧ obl P T N L y K
  | .block id c, K => obl P T N L c (blockK id K)
  | .scope c, K => obl P T N L c K
  | .loop c, K => (∀ le, lk L (lid c) = some le → (∀ d, le.fn 0 d = none) ∧ ∀ k d, le.fn (k + 1) d = exec P T N L c k (le.sk.mk' d) (loopK L (lid c) K)) ∧ obl P T N L c (loopK L (lid c) K)
  | _, _ => True

/-! results -/
def resE (P : Program) (S : St) : ResultVar → Option EV
  | .tmp t => getE (gOf S.g t)
  | .cell q t => match getC (gOf S.g q) with
    | some p => match cellsAt (bOf S.b) p with
      | some (l, off) => partV P t l off
      | none => none
    | none => none
def resD1 (B : Nat → Option Blk) : (p : RK) → EV → Option (RowD p.row)
  | ⟨_, .one (.sl r), some e⟩, x => match x with
    | .one (.own s) => match B s with
      | some (.row e' r' xs false) => cond (Nat.beq e e') (castRows r' r xs) none
      | _ => none
    | .one (.pre s n) => match B s with
      | some (.row e' r' xs false) => cond (Nat.beq e e') (castRows r' r (xs.take n.toNat)) none
      | _ => none
    | .one (.val (.slice none 0 0)) => some ([] : List (RowD r))
    | _ => none
  | ⟨_, _, some _⟩, _ => none
  | ⟨agg, r, none⟩, x => match x with
    | .agg l => cond (RK.isAgg ⟨agg, r, none⟩) (packR B r l) none
    | .one v => cond (RK.isAgg ⟨agg, r, none⟩) none (packR B r [v])
def ownS : RK → EV → List Nat
  | ⟨_, _, some _⟩, .one (.own s) => [s]
  | ⟨_, _, some _⟩, .one (.pre s _) => [s]
  | _, _ => []
def datS : RK → EV → List Nat
  | ⟨_, _, none⟩, x => x.cells.flatMap CV.rowSites
  | _, _ => []
def resDs (B : Nat → Option Blk) : (rs : List RK) → List EV → Option (ResD rs)
  | [], [] => some ()
  | [p], [x] => resD1 B p x
  | p :: q :: l, x :: m => match resD1 B p x, resDs B (q :: l) m with
    | some y, some z => some (y, z)
    | _, _ => none
  | _, _ => none
def zipW {α : Type} (f : RK → EV → List α) : List RK → List EV → List α
  | p :: l, x :: m => f p x ++ zipW f l m
  | _, _ => []
def resEs (P : Program) (S : St) : List ResultVar → Option (List EV)
  | [] => some []
  | r :: l => match resE P S r, resEs P S l with
    | some x, some y => some (x :: y)
    | _, _ => none
def retK (P : Program) (rvs : List ResultVar) (rs : List RK) (_ : Nat) (e : Ex) (S : St) : Option (ResD rs) := match e with
  | .exit _ => none
  | _ => match resEs P S rvs with
    | some xs => cond (nodupN (zipW ownS rs xs) && (zipW ownS rs xs).all fun s => (zipW datS rs xs).all fun s' => !Nat.beq s s') (resDs (bOf S.b) rs xs) none
    | none => none

/-! where a function begins -/
def initG (t : Nat) : (ps : List PK) → ArgsD ps → List (Nat × TV)
  | [], _ => []
  | p :: ps, x => (t, g1 t p x.1) :: initG (t + 1) ps x.2
where g1 (t : Nat) : (p : PK) → p.D → TV
  | .data true r, x => .e (.agg (unpackR r x))
  | .data false (.one s), x => .e (.one (.c s x))
  | .data false (.cons _ _), _ => .dead
  | .take _ _, _ => .e (.one (.own t))
  | .fn f, _ => .e (.one (.val (.func (.func f) #[] #[])))
def initB (t : Nat) : (ps : List PK) → ArgsD ps → List (Nat × Option Blk)
  | [], _ => []
  | p :: ps, x => b1 t p x.1 ++ initB (t + 1) ps x.2
where b1 (t : Nat) : (p : PK) → p.D → List (Nat × Option Blk)
  | .take e r, x => [(t, some (.row e r x false))]
  | _, _ => []
def init (ps : List PK) (x : ArgsD ps) : St := ⟨initG 0 ps x, initB 0 ps x, ps.length⟩
end
end Go.Pi
