/- Merged from small texts. -/
import Derived.Below
import Derived.Laws.AppendOwn
import Derived.Laws.BitsLemmas
import Derived.Laws.BytesString
import Derived.Laws.StructEq
import Derived.WalkKit
/- The executor's data: shapes of cells, typed data, and what it means that memory holds them. -/
set_option linter.unusedVariables false
set_option linter.unusedSimpArgs false
namespace Go.Pi
open Go.RowKit

mutual
inductive Sh : Type where
  | int (k : IntKind)
  | bool
  | str
  | sl (r : Shs)
inductive Shs : Type where
  | one (s : Sh)
  | cons (s : Sh) (r : Shs)
end

mutual
def CellD : Sh → Type
  | .int _ => Int
  | .bool => Bool
  | .str => ByteArray
  | .sl r => List (RowD r)
def RowD : Shs → Type
  | .one s => CellD s
  | .cons s r => CellD s × RowD r
end

def Shs.size : Shs → Nat
  | .one _ => 1
  | .cons _ r => r.size + 1

mutual
def Sh.dec : (a b : Sh) → Decidable (a = b)
  | .int k, .int k' => if h : k = k' then .isTrue (by rw [h]) else .isFalse (by intro e; injection e with e; exact h e)
  | .bool, .bool => .isTrue rfl
  | .str, .str => .isTrue rfl
  | .sl r, .sl r' => match Shs.dec r r' with
    | .isTrue h => .isTrue (by rw [h])
    | .isFalse h => .isFalse (by intro e; injection e with e; exact h e)
  | .int _, .bool | .int _, .str | .int _, .sl _ | .bool, .int _ | .bool, .str | .bool, .sl _
  | .str, .int _ | .str, .bool | .str, .sl _ | .sl _, .int _ | .sl _, .bool | .sl _, .str => .isFalse (by intro e; cases e)
def Shs.dec : (a b : Shs) → Decidable (a = b)
  | .one s, .one s' => match Sh.dec s s' with
    | .isTrue h => .isTrue (by rw [h])
    | .isFalse h => .isFalse (by intro e; injection e with e; exact h e)
  | .cons s r, .cons s' r' => match Sh.dec s s', Shs.dec r r' with
    | .isTrue h, .isTrue h' => .isTrue (by rw [h, h'])
    | .isFalse h, _ => .isFalse (by intro e; injection e with e1 e2; exact h e1)
    | _, .isFalse h => .isFalse (by intro e; injection e with e1 e2; exact h e2)
  | .one _, .cons _ _ | .cons _ _, .one _ => .isFalse (by intro e; cases e)
end
instance : DecidableEq Sh := Sh.dec
instance : DecidableEq Shs := Shs.dec

mutual
def Sh.dflt : (s : Sh) → CellD s
  | .int _ => (0 : Int)
  | .bool => false
  | .str => (ByteArray.empty : ByteArray)
  | .sl _ => ([] : List _)
def Shs.dflt : (r : Shs) → RowD r
  | .one s => s.dflt
  | .cons s r => (s.dflt, r.dflt)
end

def All2 {α β : Type} (R : α → β → Prop) : List α → List β → Prop
  | [], [] => True
  | a :: l, b :: m => R a b ∧ All2 R l m
  | _, _ => False

section
variable {α β : Type} {R R' : α → β → Prop}
theorem All2.len : ∀ {l : List α} {m : List β}, All2 R l m → l.length = m.length
  | [], [], _ => rfl
  | _ :: _, _ :: _, h => by simp [All2.len h.2]
  | [], _ :: _, h => h.elim
  | _ :: _, [], h => h.elim
theorem All2.imp (f : ∀ a b, R a b → R' a b) : ∀ {l : List α} {m : List β}, All2 R l m → All2 R' l m
  | [], [], _ => trivial
  | _ :: _, _ :: _, h => ⟨f _ _ h.1, All2.imp f h.2⟩
  | [], _ :: _, h => h.elim
  | _ :: _, [], h => h.elim
theorem All2.impMem : ∀ {l : List α} {m : List β}, (∀ a b, a ∈ l → R a b → R' a b) → All2 R l m → All2 R' l m
  | [], [], _, _ => trivial
  | _ :: _, _ :: _, f, h => ⟨f _ _ (by simp) h.1, All2.impMem (fun a b ha => f a b (by simp [ha])) h.2⟩
  | [], _ :: _, _, h => h.elim
  | _ :: _, [], _, h => h.elim
theorem All2.get : ∀ {l : List α} {m : List β}, All2 R l m → ∀ (j : Nat) a, l[j]? = some a → ∃ b, m[j]? = some b ∧ R a b
  | [], [], _, j, a, h => by simp at h
  | x :: l, y :: m, h, 0, a, e => by simp at e; subst e; exact ⟨y, rfl, h.1⟩
  | x :: l, y :: m, h, j + 1, a, e => by
    simp at e
    obtain ⟨b, hb, hr⟩ := All2.get h.2 j a e
    exact ⟨b, by simpa using hb, hr⟩
  | [], _ :: _, h, _, _, _ => h.elim
  | _ :: _, [], h, _, _, _ => h.elim
theorem All2.append : ∀ {l : List α} {m : List β} {l' m'}, All2 R l m → All2 R l' m' → All2 R (l ++ l') (m ++ m')
  | [], [], _, _, _, h => h
  | _ :: _, _ :: _, _, _, h, h' => ⟨h.1, All2.append h.2 h'⟩
  | [], _ :: _, _, _, h, _ => h.elim
  | _ :: _, [], _, _, h, _ => h.elim
theorem All2.take : ∀ {l : List α} {m : List β} (n : Nat), All2 R l m → All2 R (l.take n) (m.take n)
  | [], [], n, _ => by simp [All2]
  | _ :: _, _ :: _, 0, _ => by simp [All2]
  | _ :: _, _ :: _, n + 1, h => ⟨h.1, All2.take n h.2⟩
  | [], _ :: _, _, h => h.elim
  | _ :: _, [], _, h => h.elim
theorem All2.drop : ∀ {l : List α} {m : List β} (n : Nat), All2 R l m → All2 R (l.drop n) (m.drop n)
  | [], [], n, _ => by simp [All2]
  | _ :: _, _ :: _, 0, h => h
  | _ :: _, _ :: _, n + 1, h => by simpa using All2.drop n h.2
  | [], _ :: _, _, h => h.elim
  | _ :: _, [], _, h => h.elim
theorem All2.set : ∀ {l : List α} {m : List β} (n : Nat) {a b}, All2 R l m → R a b → All2 R (l.set n a) (m.set n b)
  | [], [], n, _, _, _, _ => by simp [All2]
  | _ :: _, _ :: _, 0, _, _, h, hr => ⟨hr, h.2⟩
  | _ :: _, _ :: _, n + 1, _, _, h, hr => ⟨h.1, All2.set n h.2 hr⟩
  | [], _ :: _, _, _, _, h, _ => h.elim
  | _ :: _, [], _, _, _, h, _ => h.elim
theorem All2.replicate (n : Nat) {a b} (h : R a b) : All2 R (List.replicate n a) (List.replicate n b) := by
  induction n with
  | zero => simp [All2]
  | succ n ih => simp only [List.replicate_succ]; exact ⟨h, ih⟩
end

mutual
def RepC (w : World) (ok : Nat → Prop) : (s : Sh) → CellD s → Value → Prop
  | .int k, x, v => v = .int k x
  | .bool, x, v => v = .bool x
  | .str, x, v => v = .string x
  | .sl r, xs, v => ∃ (A : Option Addr) (c : Nat) (css : List (List Value)), v = .slice A (List.length xs) c ∧ List.length xs ≤ c ∧ c ≤ maxLen ∧
      All2 (fun x cs => RepR w ok r x cs) xs css ∧
      (0 < List.length xs → ∃ ad, A = some ad ∧ ok ad.block ∧ ad.spot = none ∧ ∀ j u, css.flatten[j]? = some u → w.cell? (ad.add j) = some u)
def RepR (w : World) (ok : Nat → Prop) : (r : Shs) → RowD r → List Value → Prop
  | .one s, x, cs => ∃ v, cs = [v] ∧ RepC w ok s x v
  | .cons s r, x, cs => ∃ v vs, cs = v :: vs ∧ RepC w ok s x.1 v ∧ RepR w ok r x.2 vs
end

mutual
theorem RepC.move {w w1 : World} {ok ok1 : Nat → Prop} (hm : ∀ g, ok g → w1.heap[g]? = w.heap[g]?) (ho : ∀ g, ok g → ok1 g) :
    ∀ (s : Sh) (x : CellD s) (v : Value), RepC w ok s x v → RepC w1 ok1 s x v
  | .int _, _, _, h => by simpa only [RepC] using h
  | .bool, _, _, h => by simpa only [RepC] using h
  | .str, _, _, h => by simpa only [RepC] using h
  | .sl r, xs, v, h => by
    simp only [RepC] at h ⊢
    obtain ⟨A, c, css, h1, h2, h3, h4, h5⟩ := h
    refine ⟨A, c, css, h1, h2, h3, h4.imp (fun x cs hx => RepR.move hm ho r x cs hx), fun hp => ?_⟩
    obtain ⟨ad, e, hk, hs, hc⟩ := h5 hp
    refine ⟨ad, e, ho _ hk, hs, fun j u hj => ?_⟩
    have hb : (ad.add j).block = ad.block := by unfold Addr.add; split <;> rfl
    rw [World.cell?_of_block (w := w) (by rw [hb]; exact hm _ hk)]
    exact hc j u hj
theorem RepR.move {w w1 : World} {ok ok1 : Nat → Prop} (hm : ∀ g, ok g → w1.heap[g]? = w.heap[g]?) (ho : ∀ g, ok g → ok1 g) :
    ∀ (r : Shs) (x : RowD r) (cs : List Value), RepR w ok r x cs → RepR w1 ok1 r x cs
  | .one s, x, cs, h => by
    simp only [RepR] at h ⊢
    obtain ⟨v, e, hv⟩ := h
    exact ⟨v, e, RepC.move hm ho s x v hv⟩
  | .cons s r, x, cs, h => by
    simp only [RepR] at h ⊢
    obtain ⟨v, vs, e, hv, hr⟩ := h
    exact ⟨v, vs, e, RepC.move hm ho s x.1 v hv, RepR.move hm ho r x.2 vs hr⟩
end

theorem RepC.one {w : World} {ok : Nat → Prop} : ∀ {s : Sh} {x : CellD s} {v : Value}, RepC w ok s x v → v.oneCell' = true
  | .int _, _, _, h => by simp only [RepC] at h; subst h; rfl
  | .bool, _, _, h => by simp only [RepC] at h; subst h; rfl
  | .str, _, _, h => by simp only [RepC] at h; subst h; rfl
  | .sl r, xs, v, h => by simp only [RepC] at h; obtain ⟨A, c, css, rfl, _⟩ := h; rfl

theorem RepR.len {w : World} {ok : Nat → Prop} : ∀ {r : Shs} {x : RowD r} {cs : List Value}, RepR w ok r x cs → cs.length = r.size
  | .one s, x, cs, h => by simp only [RepR] at h; obtain ⟨v, rfl, _⟩ := h; rfl
  | .cons s r, x, cs, h => by
    simp only [RepR] at h
    obtain ⟨v, vs, rfl, _, hr⟩ := h
    simp [Shs.size, RepR.len hr]

theorem RepR.ones {w : World} {ok : Nat → Prop} : ∀ {r : Shs} {x : RowD r} {cs : List Value}, RepR w ok r x cs → ∀ u ∈ cs, u.oneCell' = true
  | .one s, x, cs, h => by simp only [RepR] at h; obtain ⟨v, rfl, hv⟩ := h; simpa using hv.one
  | .cons s r, x, cs, h => by
    simp only [RepR] at h
    obtain ⟨v, vs, rfl, hv, hr⟩ := h
    intro u hu
    rcases List.mem_cons.1 hu with rfl | hu
    · exact hv.one
    · exact RepR.ones hr u hu

theorem Shs.size_pos : ∀ r : Shs, 0 < r.size
  | .one _ => Nat.one_pos
  | .cons _ r => Nat.succ_pos _

theorem flat_len {w : World} {ok : Nat → Prop} {r : Shs} : ∀ {xs : List (RowD r)} {css : List (List Value)}, All2 (fun x cs => RepR w ok r x cs) xs css → css.flatten.length = xs.length * r.size
  | [], [], _ => by simp
  | x :: xs, c :: css, h => by
    simp only [List.flatten_cons, List.length_append, List.length_cons, flat_len h.2, RepR.len h.1, Nat.add_mul]
    omega
  | [], _ :: _, h => h.elim
  | _ :: _, [], h => h.elim

theorem flat_ones {w : World} {ok : Nat → Prop} {r : Shs} {xs : List (RowD r)} {css : List (List Value)} (h : All2 (fun x cs => RepR w ok r x cs) xs css) : ∀ u ∈ css.flatten, u.oneCell' = true := by
  induction xs generalizing css with
  | nil => cases css with
    | nil => intro u hu; simp at hu
    | cons _ _ => exact h.elim
  | cons x xs ih => cases css with
    | nil => exact h.elim
    | cons c css =>
      intro u hu
      rw [List.flatten_cons, List.mem_append] at hu
      rcases hu with hu | hu
      · exact RepR.ones h.1 u hu
      · exact ih h.2 u hu

/-- Element j's cells. -/
theorem flat_at {w : World} {ok : Nat → Prop} {r : Shs} : ∀ {xs : List (RowD r)} {css : List (List Value)}, All2 (fun x cs => RepR w ok r x cs) xs css → ∀ (j : Nat) x, xs[j]? = some x →
    ∃ cs, css[j]? = some cs ∧ RepR w ok r x cs ∧ ∀ i u, cs[i]? = some u → css.flatten[j * r.size + i]? = some u
  | [], [], _, j, x, e => by simp at e
  | y :: xs, c :: css, h, 0, x, e => by
    simp at e; subst e
    refine ⟨c, rfl, h.1, fun i u hu => ?_⟩
    rw [List.flatten_cons, Nat.zero_mul, Nat.zero_add, List.getElem?_append_left (List.getElem?_eq_some_iff.1 hu).1]
    exact hu
  | y :: xs, c :: css, h, j + 1, x, e => by
    simp at e
    obtain ⟨cs, h1, h2, h3⟩ := flat_at h.2 j x e
    refine ⟨cs, by simpa using h1, h2, fun i u hu => ?_⟩
    have := RepR.len h.1
    rw [List.flatten_cons, List.getElem?_append_right (by rw [this, Nat.add_mul]; omega), this, show (j + 1) * r.size + i - r.size = j * r.size + i by rw [Nat.add_mul]; omega]
    exact h3 i u hu
  | [], _ :: _, h, _, _, _ => h.elim
  | _ :: _, [], h, _, _, _ => h.elim

end Go.Pi

/- The executor: symbolic values, blocks, what one operation comes to. -/
set_option linter.unusedVariables false
set_option linter.unusedSimpArgs false
namespace Go.Pi
open Go.RowKit

/-- What a function value has captured: a variable of the call's own, a value, a variable that is read alone. -/
inductive Cap : Type where
  | ptr (s off : Nat)
  | dat (s : Sh) (x : CellD s)
  | ref (r : Shs) (x : RowD r)
inductive CV : Type where
  | val (v : Value)
  | c (s : Sh) (x : CellD s)
  | own (s : Nat)
  | pre (s : Nat) (n : Int)
  | ptr (s : Nat) (off : Nat)
  | rptr (s : Nat) (r : Shs) (i : Int) (off : Nat)
  | eptr (r : Shs) (xs : List (RowD r)) (i : Int) (off : Nat)
  | suf (s : Nat) (lo : Int)
  | clo (f : FuncId) (caps : List Cap)
inductive EV : Type where
  | one (x : CV)
  | agg (l : List CV)
inductive TV : Type where
  | dead
  | e (x : EV)
  | tup (l : List EV)
inductive Blk : Type where
  | box (t : TypeId) (cells : List CV)
  | row (e : TypeId) (r : Shs) (xs : List (RowD r)) (fz : Bool)
  | arr (t : TypeId) (r : Shs) (n : Nat) (xs : List (RowD r))

def Blk.mut : Blk → Bool
  | .box _ _ => true
  | .row _ _ _ fz => !fz
  | .arr _ _ _ _ => true

def EV.cells : EV → List CV
  | .one x => [x]
  | .agg l => l

/-! pure words -/
def gd {α : Type} (d : α) (xs : List α) (i : Int) : α := xs.getD i.toNat d
def inb (i : Int) (n : Nat) : Bool := decide (0 ≤ i) && decide (i < (n : Int))
def bt (s : ByteArray) (i : Int) : Int := if h : i.toNat < s.size then ((s[i.toNat]'h).toNat : Int) else 0
def zbits (op : BinOp) (k : IntKind) (a b : Int) : Int :=
  let x := BitVec.ofInt k.bits a
  let y := BitVec.ofInt k.bits b
  k.wrap ((match op with | .and => x &&& y | .or => x ||| y | .xor => x ^^^ y | _ => x &&& ~~~y : BitVec k.bits).toNat : Int)
def zshl (k : IntKind) (a b : Int) : Int := k.wrap (a * 2 ^ min b.toNat k.bits)
def zshr (k : IntKind) (a b : Int) : Int := a.fdiv (2 ^ min b.toNat k.bits)
def strOf (xs : List Int) : ByteArray := xs.foldl (fun r n => r.push (UInt8.ofNat n.toNat)) ByteArray.empty
def strBytes (s : ByteArray) : List Int := s.data.toList.map fun b => (b.toNat : Int)
def eqI (x y : Int) : Bool := x == y
def eqB (x y : Bool) : Bool := x == y
def eqS (x y : ByteArray) : Bool := x.toList == y.toList
def eqA (x y : ByteArray) : Bool := x == y
def nonneg (x : Int) : Bool := decide (0 ≤ x)
def catOk (x y : ByteArray) : Bool := decide (x.size + y.size ≤ 9223372036854775807)
def catS (x y : ByteArray) : ByteArray := x ++ y
def notB (x : Bool) : Bool := !x
def andB (x y : Bool) : Bool := x && y
def negI (k : IntKind) (x : Int) : Int := k.wrap (0 - x)
def lk {α : Type} : List (Nat × α) → Nat → Option α
  | [], _ => none
  | (j, a) :: l, i => cond (Nat.beq j i) (some a) (lk l i)

/-! values -/
def ofCell : Value → CV
  | .int k n => .c (.int k) n
  | .bool b => .c .bool b
  | .string s => .c .str s
  | v => .val v
def ofVal (v : Value) : TV := if v.oneCell' = true then .e (.one (ofCell v)) else .dead
def opnd (g : Nat → TV) : Operand → TV
  | .tmp t => g t
  | .const v => ofVal v
  | .func f => .e (.one (.val (.func (.func f) #[] #[])))
  | .global _ => .dead

def unpackR : (r : Shs) → RowD r → List CV
  | .one s, x => [.c s x]
  | .cons s r, x => .c s x.1 :: unpackR r x.2

def castD (s s' : Sh) (x : CellD s) : Option (CellD s') := if h : s = s' then some (h ▸ x) else none
def castRows (r r' : Shs) (xs : List (RowD r)) : Option (List (RowD r')) := if h : r = r' then some (h ▸ xs) else none

/-- A cell as data of a shape. -/
def CV.toC (B : Nat → Option Blk) (s : Sh) : CV → Option (CellD s)
  | .c s' x => castD s' s x
  | .val (.slice none 0 0) => match s with
    | .sl _ => some []
    | _ => none
  | .own i => match B i with
    | some (.row _ r xs _) => castD (.sl r) s xs
    | _ => none
  | .pre i n => match B i with
    | some (.row _ r xs _) => castD (.sl r) s (xs.take n.toNat)
    | _ => none
  | .suf i n => match B i with
    | some (.row _ r xs _) => castD (.sl r) s (xs.drop n.toNat)
    | _ => none
  | _ => none

def packR (B : Nat → Option Blk) : (r : Shs) → List CV → Option (RowD r)
  | .one s, l => match l with
    | [] => none
    | v :: l => match l with
      | [] => v.toC B s
      | _ :: _ => none
  | .cons s r, l => match l with
    | [] => none
    | v :: l => match v.toC B s with
      | none => none
      | some x => match packR B r l with
        | none => none
        | some y => some (x, y)
theorem packR_one (B : Nat → Option Blk) (s : Sh) (l : List CV) : packR B (.one s) l = match l with
    | [] => none
    | v :: l => match l with
      | [] => v.toC B s
      | _ :: _ => none := rfl
theorem packR_cons (B : Nat → Option Blk) (s : Sh) (r : Shs) (l : List CV) : packR B (.cons s r) l = match l with
    | [] => none
    | v :: l => match v.toC B s with
      | none => none
      | some x => match packR B r l with
        | none => none
        | some y => some (x, y) := rfl

/-- The sites that a cell names. -/
def Cap.sites : Cap → List Nat
  | .ptr s _ => [s]
  | _ => []
def CV.sites : CV → List Nat
  | .own s | .pre s _ | .ptr s _ | .rptr s _ _ _ | .suf s _ => [s]
  | .clo _ caps => caps.flatMap Cap.sites
  | _ => []
def EV.sites (x : EV) : List Nat := x.cells.flatMap CV.sites
def TV.sites : TV → List Nat
  | .dead => []
  | .e x => x.sites
  | .tup l => l.flatMap EV.sites

/-- The rows that a cell's slice leads to are written no more. -/
def frz (B : Nat → Option Blk) (ss : List Nat) : List (Nat × Option Blk) :=
  ss.filterMap fun s => match B s with
    | some (.row e r xs false) => some (s, some (.row e r xs true))
    | _ => none
/-- Sites of slices (not of pointers). -/
def CV.rowSites : CV → List Nat
  | .own s | .pre s _ | .suf s _ => [s]
  | _ => []

/-! types -/
def isAggT (P : Program) (t : TypeId) : Bool := match P.underlying t with
  | some (.struct _) | some (.array _ _) => true
  | _ => false
def sizeT (P : Program) (t : TypeId) : Option Nat := (P.info? t).map (·.size)
def shOf (P : Program) : Nat → TypeId → Option Shs
  | 0, _ => none
  | n + 1, t => match P.underlying t with
    | some (.int k) => some (.one (.int k))
    | some .bool => some (.one .bool)
    | some .string => some (.one .str)
    | some (.slice e) => match shOf P n e with
      | some r => some (.one (.sl r))
      | none => none
    | some (.struct fs) => cat (fs.toList.map fun f => shOf P n f.type)
    | some (.array m e) => cat (List.replicate m (shOf P n e))
    | _ => none
where
  cat : List (Option Shs) → Option Shs
    | [] => none
    | [x] => x
    | x :: l => match x, cat l with
      | some a, some b => some (app a b)
      | _, _ => none
  app : Shs → Shs → Shs
    | .one s, b => .cons s b
    | .cons s a, b => .cons s (app a b)

/-- The cells of a type's zero value. -/
def zeroT (P : Program) (t : TypeId) : Option (List Value) := match P.info? t with
  | some i => i.zero.map (·.cells.toList)
  | none => none
/-- Is this list the cells of the row's zero. -/
def zeroIs : (r : Shs) → List Value → Bool
  | .one s, [v] => one s v
  | .cons s r, v :: l => one s v && zeroIs r l
  | _, _ => false
where
  one : Sh → Value → Bool
    | .int k, .int k' n => decide (k = k') && decide (n = 0)
    | .bool, .bool b => !b
    | .str, .string s => decide (s.data = #[])
    | .sl _, .slice none 0 0 => true
    | _, _ => false

structure Eff where
  v : TV
  w : List (Nat × Option Blk) := []

/-- A parameter: data (a struct's or array's value, or one cell); a row that the callee may write and hand back; a function. -/
inductive CapK : Type where
  | dat (s : Sh)
  | ref (r : Shs)
def CapK.D : CapK → Type
  | .dat s => CellD s
  | .ref r => RowD r
def CapsD : List CapK → Type
  | [] => Unit
  | k :: l => k.D × CapsD l
/-- clo: a function value with what it has captured; ref: a variable that is read; rev: a row, or its end, that is turned round in its place (no data). -/
inductive PK : Type where
  | data (agg : Bool) (r : Shs)
  | take (e : TypeId) (r : Shs)
  | fn (f : FuncId)
  | clo (f : FuncId) (ks : List CapK)
  | ref (r : Shs)
  | rev (e : TypeId) (r : Shs)
def PK.D : PK → Type
  | .data _ r => RowD r
  | .take _ r => List (RowD r)
  | .fn _ => Unit
  | .clo _ ks => CapsD ks
  | .ref r => RowD r
  | .rev _ _ => Unit
/-- A result: its cells; is it a new row of the callee's own (and of which element type). -/
structure RK where
  agg : Bool := false
  row : Shs
  own : Option TypeId := none
def ArgsD : List PK → Type
  | [] => Unit
  | p :: l => p.D × ArgsD l
def ResD : List RK → Type
  | [] => Unit
  | [p] => RowD p.row
  | p :: q :: l => RowD p.row × ResD (q :: l)
/-- What is known of a function: its Lean function. -/
structure Ent where
  ps : List PK
  rs : List RK
  fn : Nat → ArgsD ps → Option (ResD rs)

inductive Prep : Type where
  | bad
  | eff (g : Bool) (e : Eff)
  | call (n : FuncId) (E : Ent) (x : ArgsD E.ps) (args : List TV) (w : List (Nat × Option Blk))

def phi (b : Bool) (x y : TV) : TV :=
  match x, y with
  | .e (.one (.c s u)), .e (.one (.c s' v)) => match castD s' s v with
    | some v' => .e (.one (.c s (cond b u v')))
    | none => cond b x y
  | _, _ => cond b x y

def int1 (k : IntKind) (n : Int) : TV := .e (.one (.c (.int k) n))
def bool1 (b : Bool) : TV := .e (.one (.c .bool b))
def str1 (s : ByteArray) : TV := .e (.one (.c .str s))

def eqCell : CV → CV → Option Bool
  | .c (.int k) x, .c (.int k') y => if k = k' then some (eqI x y) else none
  | .c .bool x, .c .bool y => some (eqB x y)
  | .c .str x, .c .str y => some (eqA x y)
  | _, _ => none
/-- A struct all of whose fields are one cell each: field by field. -/
def eqFields1 (P : Program) : List Field → List CV → List CV → Option Bool
  | [], _, _ => some true
  | f :: fs, xs, ys => if f.name = "_" then none else
    match P.underlying f.type, xs[f.offset]?, ys[f.offset]? with
    | some (.int k), some (.c (.int k1) x), some (.c (.int k2) y) => if k1 = k ∧ k2 = k then (eqFields1 P fs xs ys).map (andB (eqI x y)) else none
    | some .bool, some (.c .bool x), some (.c .bool y) => (eqFields1 P fs xs ys).map (andB (eqB x y))
    | some .string, some (.c .str x), some (.c .str y) => (eqFields1 P fs xs ys).map (andB (eqA x y))
    | _, _, _ => none

def cmpI (op : BinOp) (x y : Int) : Option Bool := match op with
  | .eql => some (x == y)
  | .neq => some (x != y)
  | .lss => some (decide (x < y))
  | .leq => some (decide (x ≤ y))
  | .gtr => some (decide (x > y))
  | .geq => some (decide (x ≥ y))
  | _ => none
def arI (op : BinOp) (k : IntKind) (x y : Int) : Option (Bool × Int) := match op with
  | .add => some (true, k.wrap (x + y))
  | .sub => some (true, k.wrap (x - y))
  | .mul => some (true, k.wrap (x * y))
  | .quo => some (!decide (y = 0), k.wrap (x.tdiv y))
  | .rem => some (!decide (y = 0), x.tmod y)
  | .and | .or | .xor | .andNot => some (true, zbits op k x y)
  | _ => none

def bin (P : Program) (op : BinOp) (t : TypeId) (x y : TV) : Option (Bool × TV) :=
  match x, y with
  | .e (.one (.c (.int k) a)), .e (.one (.c (.int k') b)) => match op with
    | .shl => some (nonneg b, int1 k (zshl k a b))
    | .shr => some (nonneg b, int1 k (zshr k a b))
    | _ => if k = k' then match cmpI op a b with
        | some r => some (true, bool1 r)
        | none => match arI op k a b with
          | some (g, r) => some (g, int1 k r)
          | none => none
      else none
  | .e (.one (.c .bool a)), .e (.one (.c .bool b)) => match P.underlying t, op with
    | some .bool, .eql => some (true, bool1 (eqB a b))
    | some .bool, .neq => some (true, bool1 (notB (eqB a b)))
    | _, _ => none
  | .e (.one (.c .str a)), .e (.one (.c .str b)) => match op with
    | .add => some (catOk a b, str1 (catS a b))
    | .eql => some (true, bool1 (eqS a b))
    | .neq => some (true, bool1 (notB (eqS a b)))
    | _ => none
  | .e (.agg l), .e (.agg m) => match P.underlying t with
    | some (.struct fs) => if P.stoodInHeld t || P.eqGuardType P.depth t then none else match eqFields1 P fs.toList l m, op with
      | some b, .eql => some (true, bool1 b)
      | some b, .neq => some (true, bool1 (notB b))
      | _, _ => none
    | _ => none
  | _, _ => none

def un (op : UnOp) (x : TV) : Option TV :=
  match op, x with
  | .neg, .e (.one (.c (.int k) a)) => some (int1 k (negI k a))
  | .xor, .e (.one (.c (.int k) a)) => some (int1 k (zbits .xor k (if k.signed then -1 else k.max) a))
  | .not, .e (.one (.c .bool b)) => some (bool1 (notB b))
  | _, _ => none

/-- A part of n cells at off, as a value of type t. -/
def partV (P : Program) (t : TypeId) (l : List CV) (off : Nat) : Option EV :=
  match sizeT P t, P.underlying t with
  | some n, some _ => if off + n ≤ l.length then
      (if isAggT P t then some (.agg ((l.drop off).take n)) else
        match l[off]? with
        | some v => if n = 1 then some (.one v) else none
        | none => none)
    else none
  | _, _ => none
def setCells (l : List CV) (off : Nat) (m : List CV) : List CV := l.take off ++ m ++ l.drop (off + m.length)

def rowOf (B : Nat → Option Blk) (s : Nat) : Option ((e : TypeId) × (r : Shs) × List (RowD r)) := match B s with
  | some (.row e r xs _) => some ⟨e, r, xs⟩
  | _ => none

def fieldOff (P : Program) (t : TypeId) (f : Nat) : Option (Nat × TypeId) := match P.underlying t with
  | some (.struct fs) => match fs[f]? with
    | some fd => match sizeT P fd.type with
      | some (n + 1) => some (fd.offset, fd.type)
      | _ => none
    | none => none
  | _ => none

/-- The cells of a struct's literal. -/
def fillV (place : Nat → Option (Nat × Nat)) (cells : List CV) : List (Nat × TV) → Option (List CV)
  | [] => some cells
  | (i, .e x) :: rest => match place i with
    | some (off, n) => if x.cells.length = n ∧ off + n ≤ cells.length then fillV place (setCells cells off x.cells) rest else none
    | none => none
  | _ => none

/-- The cells of the read data behind a pointer. -/
def cellsAt (B : Nat → Option Blk) : CV → Option (List CV × Nat)
  | .ptr s off => match B s with
    | some (.box _ cells) => some (cells, off)
    | _ => none
  | .rptr s r i off => match B s with
    | some (.row _ r' xs _) => match castRows r' r xs with
      | some xs' => some (unpackR r (gd r.dflt xs' i), off)
      | none => none
    | some (.arr _ r' _ xs) => match castRows r' r xs with
      | some xs' => some (unpackR r (gd r.dflt xs' i), off)
      | none => none
    | _ => none
  | .eptr r xs i off => some (unpackR r (gd r.dflt xs i), off)
  | _ => none

def storeV (P : Program) (B : Nat → Option Blk) (t : TypeId) (p : CV) (x : EV) : Option (List (Nat × Option Blk)) :=
  match sizeT P t with
  | none => none
  | some n => if x.cells.length = n then
    match p with
    | .ptr s off => match B s with
      | some (.box bt cells) => if off + n ≤ cells.length then some [(s, some (.box bt (setCells cells off x.cells)))] else none
      | _ => none
    | .rptr s r i off => match B s with
      | some (.row e r' xs false) => if s ∈ x.cells.flatMap CV.rowSites then none else match castRows r' r xs with
        | some xs' => if off + n ≤ r.size then match packR B r (setCells (unpackR r (gd r.dflt xs' i)) off x.cells) with
            | some y => some ((s, some (.row e r (xs'.set i.toNat y) false)) :: frz B ((x.cells.flatMap CV.rowSites).filter (· != s)))
            | none => none
          else none
        | none => none
      | some (.arr bt r' m xs) => match castRows r' r xs with
        | some xs' => if off + n ≤ r.size then match packR B r (setCells (unpackR r (gd r.dflt xs' i)) off x.cells) with
            | some y => some ((s, some (.arr bt r m (xs'.set i.toNat y))) :: frz B (x.cells.flatMap CV.rowSites))
            | none => none
          else none
        | none => none
      | _ => none
    | _ => none
  else none

end Go.Pi

/- The executor: one operation, a region, code. -/
set_option linter.unusedVariables false
set_option linter.unusedSimpArgs false
namespace Go.Pi
open Go.RowKit

def getI : TV → Option Int
  | .e (.one (.c (.int _) x)) => some x
  | _ => none
def getC : TV → Option CV
  | .e (.one x) => some x
  | _ => none
def getE : TV → Option EV
  | .e x => some x
  | _ => none
def addOff : CV → Nat → Option CV
  | .ptr s o, n => some (.ptr s (o + n))
  | .rptr s r i o, n => some (.rptr s r i (o + n))
  | .eptr r xs i o, n => some (.eptr r xs i (o + n))
  | _, _ => none
def CV.alive (B : Nat → Option Blk) : CV → Bool
  | .own s | .pre s _ | .ptr s _ | .rptr s _ _ _ | .suf s _ => (B s).isSome
  | _ => true
def one (x : CV) : TV := .e (.one x)
def eff1 (v : TV) : Prep := .eff true { v := v }
def effG (g : Bool) (v : TV) : Prep := .eff g { v := v }

mutual
def Sh.hasSl : Sh → Bool
  | .sl _ => true
  | _ => false
def Shs.hasSl : Shs → Bool
  | .one s => s.hasSl
  | .cons s r => s.hasSl || r.hasSl
end
/-- Does a result lead to memory that may have been handed in. -/
def RK.leaks (p : RK) : Bool := match p.own, p.row with
  | some _, .one (.sl r) => r.hasSl
  | _, r => r.hasSl

/-! calls of functions -/
def funOf : TV → Option FuncId
  | .e (.one (.val (.func (.func f) a b))) => if a.size = 0 ∧ b.size = 0 then some f else none
  | _ => none
/-- The function value and what it has captured. -/
def cloOf : TV → Option (FuncId × List Cap)
  | .e (.one (.clo f caps)) => some (f, caps)
  | _ => none
/-- A captured thing, as an argument. -/
def Cap.tv : Cap → TV
  | .ptr s off => .e (.one (.ptr s off))
  | .dat s x => .e (.one (.c s x))
  | .ref r x => .e (.one (.eptr r [x] 0 0))
def plainC : CV → Bool
  | .c _ _ => true
  | _ => false
/-- The data of a variable of the call's own. -/
def boxD (B : Nat → Option Blk) (s : Nat) (r : Shs) : Option (RowD r) := match B s with
  | some (.box _ cells) => cond (cells.all plainC) (packR (fun _ => none) r cells) none
  | _ => none
def packCap (B : Nat → Option Blk) : (k : CapK) → Cap → Option k.D
  | .dat s, c => match c with
    | .dat s' x => castD s' s x
    | _ => none
  | .ref r, c => match c with
    | .ref r' x => match castRows r' r [x] with
      | some ys => some (gd r.dflt ys 0)
      | none => none
    | .ptr s 0 => boxD B s r
    | _ => none
def packCaps (B : Nat → Option Blk) : (ks : List CapK) → List Cap → Option (CapsD ks)
  | [], l => match l with
    | [] => some ()
    | _ :: _ => none
  | k :: ks, l => match l with
    | [] => none
    | c :: l => match packCap B k c with
      | none => none
      | some x => match packCaps B ks l with
        | none => none
        | some y => some (x, y)
def pack1 (B : Nat → Option Blk) : (p : PK) → TV → Option p.D
  | .data true r, t => match t with
    | .e (.agg l) => packR B r l
    | _ => none
  | .data false r, t => match t with
    | .e (.one v) => packR B r [v]
    | _ => none
  | .take e r, t => match t with
    | .e (.one (.own s)) => match B s with
      | some (.row e' r' xs false) => if e = e' then castRows r' r xs else none
      | _ => none
    | _ => none
  | .fn f, t => match funOf t with
    | some f' => if f = f' then some () else none
    | none => none
  | .clo f ks, t => match cloOf t with
    | some q => cond (Nat.beq f q.1) (packCaps B ks q.2) none
    | none => none
  | .ref r, t => match t with
    | .e (.one (.ptr s 0)) => boxD B s r
    | .e (.one (.eptr r' xs i 0)) => match castRows r' r xs with
      | some ys => some (gd r.dflt ys i)
      | none => none
    | _ => none
  | .rev _ _, _ => none
def packA (B : Nat → Option Blk) : (ps : List PK) → List TV → Option (ArgsD ps)
  | [], as => match as with
    | [] => some ()
    | _ :: _ => none
  | p :: ps, as => match as with
    | [] => none
    | t :: as => match pack1 B p t with
      | none => none
      | some x => match packA B ps as with
        | none => none
        | some y => some (x, y)
/-- The sites that are handed over for good; those that are read. -/
def takenA : List PK → List TV → List Nat
  | .take _ _ :: ps, .e (.one (.own s)) :: as => s :: takenA ps as
  | _ :: ps, _ :: as => takenA ps as
  | _, _ => []
def lentA : List PK → List TV → List Nat
  | .data _ _ :: ps, .e x :: as => x.cells.flatMap CV.rowSites ++ lentA ps as
  | _ :: ps, _ :: as => lentA ps as
  | _, _ => []
/-- The variables of the call's own that are lent. -/
def Cap.boxes : Cap → List Nat
  | .ptr s _ => [s]
  | _ => []
def box1 : PK → TV → List Nat
  | .ref _, .e (.one (.ptr s _)) => [s]
  | .clo _ _, .e (.one (.clo _ caps)) => caps.flatMap Cap.boxes
  | _, _ => []
def boxA : List PK → List TV → List Nat
  | p :: ps, t :: as => box1 p t ++ boxA ps as
  | _, _ => []
def resV (base : Nat) : (rs : List RK) → ResD rs → List EV
  | [], _ => []
  | [p], x => [one1 p base x]
  | p :: q :: l, x => one1 p base x.1 :: resV (base + 1) (q :: l) x.2
where one1 (p : RK) (b : Nat) (x : RowD p.row) : EV := match p.own with
  | some _ => .one (.own b)
  | none => if p.agg then .agg (unpackR p.row x) else match p, x with
    | ⟨_, .one s, _⟩, x => .one (.c s x)
    | ⟨_, .cons _ _, _⟩, x => .agg (unpackR _ x)
def resW (base : Nat) : (rs : List RK) → ResD rs → List (Nat × Option Blk)
  | [], _ => []
  | [p], x => one1 p base x
  | p :: q :: l, x => one1 p base x.1 ++ resW (base + 1) (q :: l) x.2
where one1 (p : RK) (b : Nat) (x : RowD p.row) : List (Nat × Option Blk) := match p, x with
  | ⟨_, .one (.sl r), some e⟩, x => [(b, some (.row e r x false))]
  | _, _ => []
def tupV : List EV → TV
  | [x] => .e x
  | l => .tup l
def callEff (base : Nat) (E : Ent) (w : List (Nat × Option Blk)) (r : ResD E.rs) : Eff := { v := tupV (resV base E.rs r), w := resW base E.rs r ++ w }
def nodupN : List Nat → Bool
  | [] => true
  | x :: l => l.all (fun y => !Nat.beq x y) && nodupN l
def findE (B : Nat → Option Blk) (n : FuncId) (as : List TV) : List (Nat × Ent) → Prep
  | [] => .bad
  | (m, E) :: l => cond (Nat.beq m n) (match packA B E.ps as with
      | some x => let tk := takenA E.ps as
        cond (nodupN tk && ((tk.all fun s => (lentA E.ps as).all fun s' => !Nat.beq s s') && (Nat.ble E.rs.length 8 && (!(E.rs.any RK.leaks) || (boxA E.ps as).isEmpty)))) (
          .call n E x as (tk.map (fun s => (s, none)) ++ (if E.rs.any RK.leaks then frz B (lentA E.ps as) else []))) .bad
      | none => findE B n as l) (findE B n as l)

def fits (bytes n m : Nat) : Bool := decide ((n + m) * bytes ≤ 140737488355328)
def zmax (x y : Int) : Int := if y > x then y else x
def zmin (x y : Int) : Int := if y < x then y else x
def mxL : List Int → Option Int
  | [] => none
  | x :: l => some (l.foldl zmax x)
def mnL : List Int → Option Int
  | [] => none
  | x :: l => some (l.foldl zmin x)

/-- The bounds of a cut. -/
def cutG (lo hi : Option Int) (len : Nat) : Bool := match lo, hi with
  | none, none => true
  | none, some h => decide (0 ≤ h) && decide (h ≤ (len : Int))
  | some l, none => decide (0 ≤ l) && decide (l ≤ (len : Int))
  | some l, some h => decide (0 ≤ l) && (decide (l ≤ h) && decide (h ≤ (len : Int)))
def cutL {α : Type} (lo hi : Option Int) (xs : List α) : List α := match lo, hi with
  | none, none => xs
  | none, some h => xs.take h.toNat
  | some l, none => xs.drop l.toNat
  | some l, some h => (xs.take h.toNat).drop l.toNat
def cutS (lo hi : Option Int) (s : ByteArray) : ByteArray := s.extract ((lo.map Int.toNat).getD 0) ((hi.map Int.toNat).getD s.size)
/-- An operand that may be missing: none: it is there, and no whole number. -/
def optI (g : Nat → TV) : Option Operand → Option (Option Int)
  | none => some none
  | some x => match getI (opnd g x) with
    | some i => some (some i)
    | none => none

/-- The data of a slice's value. -/
def dataOf (B : Nat → Option Blk) : CV → Option ((r : Shs) × List (RowD r))
  | .c (.sl r) xs => some ⟨r, xs⟩
  | .own s => match B s with
    | some (.row _ r xs _) => some ⟨r, xs⟩
    | _ => none
  | .pre s n => match B s with
    | some (.row _ r xs _) => some ⟨r, xs.take n.toNat⟩
    | _ => none
  | .suf s n => match B s with
    | some (.row _ r xs _) => some ⟨r, xs.drop n.toNat⟩
    | _ => none
  | _ => none
/-- A row of the call's own that may be written, from a place on. -/
def sufOf (B : Nat → Option Blk) : CV → Option (Nat × TypeId × Int × (r : Shs) × List (RowD r))
  | .own s => match B s with
    | some (.row e r xs false) => some (s, e, 0, ⟨r, xs⟩)
    | _ => none
  | .suf s n => match B s with
    | some (.row e r xs false) => some (s, e, n, ⟨r, xs⟩)
    | _ => none
  | _ => none
/-- Is the function one that turns rows round. -/
def isRev (n : FuncId) (e : TypeId) (r : Shs) : List (Nat × Ent) → Bool
  | [] => false
  | (m, E) :: l => (Nat.beq m n && (match E.ps with
      | [.rev e' r'] => Nat.beq e e' && decide (r = r')
      | _ => false)) || isRev n e r l
/-- What is appended to: the site (none: nil), the row. -/
def baseOfApp (B : Nat → Option Blk) : CV → Option (Nat × (r : Shs) × List (RowD r))
  | .own s => match B s with
    | some (.row _ r xs false) => some (s, ⟨r, xs⟩)
    | _ => none
  | .pre s n => match B s with
    | some (.row _ r xs false) => some (s, ⟨r, xs.take n.toNat⟩)
    | _ => none
  | _ => none
def elemT (P : Program) (t : TypeId) : Option TypeId := match P.underlying t with
  | some (.slice e) => some e
  | _ => none
def rowType (B : Nat → Option Blk) (s : Nat) : Option TypeId := match B s with
  | some (.row e _ _ _) => some e
  | _ => none

/-- Elements of a slice's literal. -/
def litRows (B : Nat → Option Blk) (r : Shs) (parts : List (Nat × TV)) : Nat → Nat → Option (List (RowD r))
  | _, 0 => some []
  | j, n + 1 =>
    let rest := litRows B r parts (j + 1) n
    match parts.find? (fun p => p.1 == j) with
    | none => rest.map (r.dflt :: ·)
    | some (_, .e x) => match packR B r x.cells, rest with
      | some y, some l => some (y :: l)
      | _, _ => none
    | some _ => none

/-- What a function value captures. -/
def capOf : TV → Option Cap
  | .e (.one (.ptr s off)) => some (.ptr s off)
  | .e (.one (.c s x)) => some (.dat s x)
  | _ => none
def capsOf : List TV → Option (List Cap)
  | [] => some []
  | t :: l => match capOf t with
    | none => none
    | some c => match capsOf l with
      | none => none
      | some cs => some (c :: cs)
/-- The sites that an element of a literal leads to. -/
def litS : TV → List Nat
  | .e x => x.cells.flatMap CV.rowSites
  | _ => []

/-- What an operation comes to. -/
def prep (P : Program) (T : List (Nat × Ent)) (g : Nat → TV) (B : Nat → Option Blk) (base : Nat) (o : Oper) : Prep :=
  match o.op with
  | .move x | .assign x => match opnd g x with
    | .dead => .bad
    | v => eff1 v
  | .pick c a b => match opnd g c with
    | .e (.one (.c .bool t)) => eff1 (phi t (opnd g a) (opnd g b))
    | _ => .bad
  | .extract t i => match opnd g t with
    | .tup l => match l[i]? with
      | some x => eff1 (.e x)
      | none => .bad
    | _ => .bad
  | .binOp op t x y _ => match bin P op t (opnd g x) (opnd g y) with
    | some (q, v) => effG q v
    | none => .bad
  | .unOp op _ x => match un op (opnd g x) with
    | some v => eff1 v
    | none => .bad
  | .convert src dst x => match P.underlying src, P.underlying dst, opnd g x with
    | some _, some (.int k), .e (.one (.c (.int _) n)) => eff1 (int1 k (k.wrap n))
    | some (.slice e), some .string, .e (.one v) => match P.underlying e, v.toC B (.sl (.one (.int .u8))) with
      | some (.int .u8), some xs => eff1 (str1 (strOf xs))
      | _, _ => .bad
    | _, _, _ => .bad
  | .alloc t => match zeroT P t, P.underlying t with
    | some z, some (.array n e) => match shOf P 20 e with
      | some r => if z.length = n * r.size ∧ zeroRows r n z then .eff true { v := one (.ptr base 0), w := [(base, some (.arr t r n (List.replicate n r.dflt)))] } else .bad
      | none => .bad
    | some z, some _ => if z.all (·.oneCell') then .eff true { v := one (.ptr base 0), w := [(base, some (.box t (z.map ofCell)))] } else .bad
    | _, _ => .bad
  | .box t x => match opnd g x with
    | .e v => .eff true { v := one (.ptr base 0), w := [(base, some (.box t v.cells))] }
    | _ => .bad
  | .load t p => match getC (opnd g p) with
    | some q => match cellsAt B q with
      | some (l, off) => match partV P t l off with
        | some v => eff1 (.e v)
        | none => .bad
      | none => .bad
    | none => .bad
  | .store t p x => match getC (opnd g p), getE (opnd g x) with
    | some q, some v => match storeV P B t q v with
      | some w => .eff true { v := .tup [], w := w }
      | none => .bad
    | _, _ => .bad
  | .fieldAddr t x f => match getC (opnd g x), fieldOff P t f with
    | some q, some (off, _) => match addOff q off with
      | some q' => if q.alive B then eff1 (one q') else .bad
      | none => .bad
    | _, _ => .bad
  | .field t x f => match opnd g x, fieldOff P t f with
    | .e (.agg l), some (off, ft) => match partV P ft l off with
      | some v => eff1 (.e v)
      | none => .bad
    | _, _ => .bad
  | .indexAddr t x i => match P.underlying t, getC (opnd g x), getI (opnd g i) with
    | some (.slice e), some (.c (.sl r) xs), some j => if sizeT P e = some r.size then effG (inb j (List.length xs)) (one (.eptr r xs j 0)) else .bad
    | some (.slice e), some (.own s), some j => match B s with
      | some (.row e' r xs _) => if sizeT P e = some r.size then effG (inb j xs.length) (one (.rptr s r j 0)) else .bad
      | _ => .bad
    | some (.slice e), some (.pre s n), some j => match B s with
      | some (.row e' r xs _) => if sizeT P e = some r.size then effG (inb j n.toNat) (one (.rptr s r j 0)) else .bad
      | _ => .bad
    | some (.slice e), some (.suf s n), some j => match B s with
      | some (.row e' r xs _) => if sizeT P e = some r.size then effG (inb j (xs.length - n.toNat)) (one (.rptr s r (n + j) 0)) else .bad
      | _ => .bad
    | some (.array n e), some (.ptr s 0), some j => match B s with
      | some (.arr t' r m xs) => if sizeT P e = some r.size ∧ m = n then effG (inb j n) (one (.rptr s r j 0)) else .bad
      | some (.box _ _) => match sizeT P e with
        | some z => if inb j n = true then eff1 (one (.ptr s (j.toNat * z))) else .bad
        | none => .bad
      | _ => .bad
    | _, _, _ => .bad
  | .index t x i => match P.underlying t, opnd g x, getI (opnd g i) with
    | some .string, .e (.one (.c .str s)), some j => effG (inb j (ByteArray.size s)) (int1 .u8 (bt s j))
    | _, _, _ => .bad
  | .build t parts => match zeroT P t, P.underlying t with
    | some z, some (.struct fs) => match fillV (fun i => match fs[i]? with
          | some f => (sizeT P f.type).map fun n => (f.offset, n)
          | none => none) (z.map ofCell) (parts.toList.map fun p => (p.1, opnd g p.2)) with
      | some l => if fs.all (fun f => (P.info? f.type).isSome) && z.all (·.oneCell') then eff1 (.e (.agg l)) else .bad
      | none => .bad
    | _, _ => .bad
  | .buildSlice t n parts => match elemT P t with
    | some e => match shOf P 20 e, zeroT P e with
      | some r, some z => if sizeT P e = some r.size ∧ zeroIs r z = true ∧ n * r.size ≤ 16777216 ∧ (parts.toList.map (·.1)).Nodup ∧ (∀ p ∈ parts.toList, p.1 < n) then
          match litRows B r (parts.toList.map fun p => (p.1, opnd g p.2)) 0 n with
          | some xs => .eff true { v := one (.own base), w := (base, some (.row e r xs false)) :: frz B (parts.toList.flatMap fun p => litS (opnd g p.2)) }
          | none => .bad
        else .bad
      | _, _ => .bad
    | none => .bad
  | .makeSlice t l c => match elemT P t, getI (opnd g l), getI (opnd g c) with
    | some e, some n, some m => match shOf P 20 e, zeroT P e, P.info? e with
      | some r, some z, some i => if i.size = r.size ∧ zeroIs r z = true ∧ 0 < i.bytes then
          .eff (decide (0 ≤ n) && (decide (n ≤ m) && decide (m * i.bytes ≤ 140737488355328))) { v := one (.own base), w := [(base, some (.row e r (List.replicate n.toNat r.dflt) false))] }
        else .bad
      | _, _, _ => .bad
    | _, _, _ => .bad
  | .slice t x lo hi none => match P.underlying t, opnd g x, optI g lo, optI g hi with
    | some .string, .e (.one (.c .str s)), some l, some h => effG (cutG l h (ByteArray.size s)) (str1 (cutS l h s))
    | some (.slice e), .e (.one v), some l, some h => match v, l with
      | .own s, none => match B s with
        | some (.row e' r xs _) => match h with
          | some h => if (sizeT P e).isSome then effG (decide (0 ≤ h) && decide (h ≤ (xs.length : Int))) (one (.pre s h)) else .bad
          | none => .bad
        | _ => .bad
      | .own s, some l => match B s with
        | some (.row e' r xs _) => match h with
          | none => if (sizeT P e) = some r.size then effG (decide (0 ≤ l) && decide (l ≤ (xs.length : Int))) (one (.suf s l)) else .bad
          | some h => if (sizeT P e) = some r.size then .eff (cutG (some l) (some h) xs.length) { v := one (.c (.sl r) (cutL (some l) (some h) xs)), w := frz B [s] } else .bad
        | _ => .bad
      | .pre s n, none => match h with
        | some h => if (sizeT P e).isSome && (B s).isSome then effG (decide (0 ≤ h) && decide (h ≤ n)) (one (.pre s h)) else .bad
        | none => .bad
      | v, l => match dataOf B v with
        | some ⟨r, xs⟩ => if sizeT P e = some r.size then .eff (cutG l h xs.length) { v := one (.c (.sl r) (cutL l h xs)), w := frz B (CV.rowSites v) } else .bad
        | none => .bad
    | some (.array n e), .e (.one (.ptr s 0)), some none, some none => match B s with
      | some (.arr _ r m xs) => if (sizeT P e).isSome ∧ m = n ∧ n ≤ 16777216 then .eff true { v := one (.c (.sl r) xs), w := (s, none) :: [] } else .bad
      | _ => .bad
    | _, _, _, _ => .bad
  | .call c => match c.callee with
    | .builtin .len => match c.args.toList.map (opnd g), c.argTypes.toList with
      | [.e (.one (.c .str s))], [t] => if (P.underlying t matches some .string) then eff1 (int1 .i64 (ByteArray.size s : Nat)) else .bad
      | [.e (.one v)], [t] => if (P.underlying t matches some (.slice _)) then match v with
          | .val (.slice none 0 0) => eff1 (int1 .i64 0)
          | .pre s n => if (B s).isSome then effG (decide (0 ≤ n)) (int1 .i64 n) else .bad
          | v => match dataOf B v with
            | some ⟨_, xs⟩ => eff1 (int1 .i64 (xs.length : Nat))
            | none => .bad
        else .bad
      | _, _ => .bad
    | .builtin .max => match c.args.toList.mapM (fun x => getI (opnd g x)), c.args.toList.head?.map (opnd g) with
      | some l, some (.e (.one (.c (.int k) _))) => match mxL l with
        | some m => eff1 (int1 k m)
        | none => .bad
      | _, _ => .bad
    | .builtin .min => match c.args.toList.mapM (fun x => getI (opnd g x)), c.args.toList.head?.map (opnd g) with
      | some l, some (.e (.one (.c (.int k) _))) => match mnL l with
        | some m => eff1 (int1 k m)
        | none => .bad
      | _, _ => .bad
    | .builtin .append => match c.args.toList.map (opnd g), c.argTypes.toList with
      | [.e (.one d), .e (.one v)], [t, u] => match elemT P t with
        | none => .bad
        | some e => match P.info? e with
          | none => .bad
          | some i => if t = u then match dataOf B v with
            | none => .bad
            | some ⟨r, ys⟩ => if i.size = r.size ∧ 0 < i.bytes ∧ i.zero.map (·.cells.size) = some i.size then
                match d with
                | .val (.slice none 0 0) => .eff (fits i.bytes 0 ys.length) { v := one (.own base), w := (base, some (.row e r ys false)) :: [] }
                | d => match baseOfApp B d with
                  | some (s, ⟨r', xs⟩) => match castRows r' r xs with
                    | some xs' => if rowType B s = some e ∧ s ∉ CV.rowSites v then
                        .eff (fits i.bytes xs'.length ys.length) { v := one (.own base), w := (s, none) :: (base, some (.row e r (xs' ++ ys) false)) :: [] }
                      else .bad
                    | none => .bad
                  | none => .bad
              else .bad
            else .bad
      | _, _ => .bad
    | .builtin .copy => match c.args.toList.map (opnd g), c.argTypes.toList with
      | [.e (.one (.own s)), .e (.one v)], [t, u] => match elemT P t, B s, dataOf B v with
        | some e, some (.row e' r xs false), some ⟨r', ys⟩ => match castRows r' r ys with
          | some ys' => if sizeT P e = some 1 ∧ r.size = 1 ∧ s ∉ CV.rowSites v ∧ r.hasSl = false then
              .eff true { v := int1 .i64 (min ys'.length xs.length : Nat), w := [(s, some (.row e' r (ys'.take xs.length ++ xs.drop ys'.length) false))] }
            else .bad
          | none => .bad
        | _, _, _ => .bad
      | _, _ => .bad
    | .builtin .clear => match c.args.toList.map (opnd g), c.argTypes.toList with
      | [.e (.one v)], [t] => match elemT P t with
        | some e => match sufOf B v, zeroT P e with
          | some (s, e', lo, ⟨r, xs⟩), some z => if sizeT P e = some r.size ∧ zeroIs r z = true ∧ e = e' then
              .eff true { v := .tup [], w := [(s, some (.row e' r (xs.take lo.toNat ++ List.replicate (xs.length - lo.toNat) r.dflt) false))] }
            else .bad
          | _, _ => .bad
        | none => .bad
      | _, _ => .bad
    | .value f => match cloOf (opnd g f) with
      | some q => findE B q.1 (c.args.toList.map (opnd g) ++ q.2.map Cap.tv) T
      | none => match funOf (opnd g f) with
        | some n => match c.args.toList.map (opnd g) with
          | [.e (.one v)] => match sufOf B v with
            | some (s, e, lo, ⟨r, xs⟩) => cond (isRev n e r T)
                (.eff true { v := .tup [], w := [(s, some (.row e r (xs.take lo.toNat ++ (xs.drop lo.toNat).reverse) false))] })
                (findE B n [.e (.one v)] T)
            | none => findE B n [.e (.one v)] T
          | as => findE B n as T
        | none => .bad
    | _ => .bad
  | .makeFunc (.func f) first captured => if first.size = 0 then match capsOf (captured.toList.map (opnd g)) with
      | some caps => eff1 (one (.clo f caps))
      | none => .bad
    else .bad
  | _ => .bad
where
  zeroRows (r : Shs) : Nat → List Value → Bool
    | 0, z => z.isEmpty
    | n + 1, z => zeroIs r (z.take r.size) && zeroRows r n (z.drop r.size)

end Go.Pi

/- What it means that a machine's state is as the executor's state says. -/
set_option linter.unusedVariables false
set_option linter.unusedSimpArgs false
namespace Go.Pi
open Go.RowKit

def Blk.elems : Blk → Option (Shs × Nat)
  | .box _ _ => none
  | .row _ r xs _ => some (r, xs.length)
  | .arr _ r _ xs => some (r, xs.length)
def Blk.isRow : Blk → Bool
  | .row _ _ _ _ => true
  | _ => false
def Blk.cells : Blk → List CV
  | .box _ l => l
  | _ => []
def ownB : Value → Option Nat
  | .slice (some a) _ _ => some a.block
  | .pointer (some a) => some a.block
  | _ => none
def baseG : Value → Option Nat
  | .slice (some ⟨g, 0, none⟩) _ _ => some g
  | .pointer (some ⟨g, 0, none⟩) => some g
  | _ => none
theorem ownB_baseG {v : Value} {g : Nat} (h : baseG v = some g) : ownB v = some g := by
  unfold baseG at h
  split at h
  · simpa [ownB] using h
  · simpa [ownB] using h
  · cases h

/-- A pointer to a variable that is read. -/
def RefP (w : World) (ok : Nat → Prop) (r : Shs) (x : RowD r) (v : Value) : Prop :=
  ∃ (ad : Addr) (cs : List Value), v = .pointer (some ad) ∧ ad.spot = none ∧ ok ad.block ∧ RepR w ok r x cs ∧ ∀ j u, cs[j]? = some u → w.cell? (ad.add j) = some u
theorem RefP.move {w w1 : World} {ok ok1 : Nat → Prop} (hm : ∀ g, ok g → w1.heap[g]? = w.heap[g]?) (ho : ∀ g, ok g → ok1 g) {r : Shs} {x : RowD r} {v : Value} (h : RefP w ok r x v) : RefP w1 ok1 r x v := by
  obtain ⟨ad, cs, h1, h2, h3, h4, h5⟩ := h
  refine ⟨ad, cs, h1, h2, ho _ h3, RepR.move hm ho r x cs h4, fun j u hj => ?_⟩
  have hb : (ad.add j).block = ad.block := by unfold Addr.add; split <;> rfl
  rw [World.cell?_of_block (w := w) (by rw [hb]; exact hm _ h3)]
  exact h5 j u hj
section
variable (w : World) (ok : Nat → Prop) (ν : Nat → Value) (B : Nat → Option Blk)
def RepCap : Cap → Value → Prop
  | .ptr s off, v => v.oneCell' = true ∧ ∀ b, B s = some b → b.isRow = false ∧ ∃ g, ν s = .pointer (some ⟨g, 0, none⟩) ∧ v = .pointer (some ⟨g, off, none⟩)
  | .dat s x, v => RepC w ok s x v
  | .ref r x, v => RefP w ok r x v
def RepCV : CV → Value → Prop
  | .val u, v => v = u ∧ u.oneCell' = true
  | .c s x, v => RepC w ok s x v
  | .own s, v => v.oneCell' = true ∧ ∀ b, B s = some b → b.isRow = true ∧ v = ν s
  | .pre s n, v => v.oneCell' = true ∧ ∀ b, B s = some b → b.isRow = true ∧ ∃ r m A c, b.elems = some (r, m) ∧ 0 ≤ n ∧ n ≤ (m : Int) ∧ ν s = .slice A m c ∧ v = .slice A n.toNat c
  | .ptr s off, v => v.oneCell' = true ∧ ∀ b, B s = some b → b.isRow = false ∧ ∃ g, ν s = .pointer (some ⟨g, 0, none⟩) ∧ v = .pointer (some ⟨g, off, none⟩)
  | .rptr s r i off, v => v.oneCell' = true ∧ ∀ b, B s = some b → ∃ g r' m, baseG (ν s) = some g ∧ b.elems = some (r', m) ∧ 0 ≤ i ∧ i < (m : Int) ∧ v = .pointer (some ⟨g, i.toNat * r.size + off, none⟩)
  | .eptr r xs i off, v => ∃ (ad : Addr) (css : List (List Value)), v = .pointer (some ⟨ad.block, ad.off + (i.toNat * r.size + off), none⟩) ∧ ad.spot = none ∧ ok ad.block ∧
      All2 (fun x cs => RepR w ok r x cs) xs css ∧ (∀ j u, css.flatten[j]? = some u → w.cell? (ad.add j) = some u) ∧ 0 ≤ i ∧ i < (xs.length : Int)
  | .suf s n, v => v.oneCell' = true ∧ ∀ b, B s = some b → b.isRow = true ∧ ∃ r m A c, b.elems = some (r, m) ∧ 0 ≤ n ∧ n ≤ (m : Int) ∧ ν s = .slice A m c ∧
      v = .slice (if c = n.toNat then A else A.map (·.add (n.toNat * Shs.size r))) (m - n.toNat) (c - n.toNat)
  | .clo f caps, v => ∃ us : List Value, v = .func (.func f) #[] us.toArray ∧ All2 (RepCap w ok ν B) caps us
def RepEV : EV → Value → Prop
  | .one x, v => RepCV w ok ν B x v
  | .agg l, v => ∃ vs : List Value, v = .agg vs.toArray ∧ All2 (RepCV w ok ν B) l vs
def RepTV : TV → Value → Prop
  | .dead, _ => True
  | .e x, v => RepEV w ok ν B x v
  | .tup l, v => ∃ vs : List Value, v = .tuple vs.toArray ∧ All2 (RepEV w ok ν B) l vs
end

/-- A block of one of the call's sites. Fresh: which block numbers are the call's own. -/
def RepB (w : World) (ok : Nat → Prop) (fresh : Nat → Prop) (ν : Nat → Value) (B : Nat → Option Blk) (s : Nat) : Blk → Prop
  | .box t cells => ∃ g vs, ν s = .pointer (some ⟨g, 0, none⟩) ∧ fresh g ∧ w.heap[g]? = some (.cells vs.toArray t (0, 0)) ∧ All2 (RepCV w ok ν B) cells vs
  | .row e r xs _ => ∃ css, All2 (fun x cs => RepR w ok r x cs) xs css ∧ w.ownsRow 0 e r.size (ν s) xs.length css.flatten ∧ ∀ g, ownB (ν s) = some g → fresh g
  | .arr t r n xs => ∃ g css, ν s = .pointer (some ⟨g, 0, none⟩) ∧ fresh g ∧ xs.length = n ∧ All2 (fun x cs => RepR w ok r x cs) xs css ∧ w.heap[g]? = some (.cells css.flatten.toArray t (0, 0))

/-- The streams, and all blocks that were there but for those handed over, are as they were. -/
structure Kept (W0 : World) (Gv : Nat → Prop) (w : World) : Prop where
  os : w.os = W0.os
  tape : w.tape = W0.tape
  output : w.output = W0.output
  size : W0.heap.size ≤ w.heap.size
  block : ∀ k, k < W0.heap.size → ¬ Gv k → w.heap[k]? = W0.heap[k]?

def freshS (W0 : World) (Gv : Nat → Prop) (g : Nat) : Prop := W0.heap.size ≤ g ∨ Gv g
def okS (W0 : World) (A Gv : Nat → Prop) (ν : Nat → Value) (B : Nat → Option Blk) (w : World) (g : Nat) : Prop :=
  A g ∨ (freshS W0 Gv g ∧ g < w.heap.size ∧ ∀ s b, B s = some b → b.mut = true → ownB (ν s) ≠ some g)

structure Sim (W0 : World) (A Gv : Nat → Prop) (N : Nat) (U : Nat → Prop) (g : Nat → TV) (B : Nat → Option Blk) (ν : Nat → Value) (a : Act) (w : World) : Prop where
  old : ∀ x, A x → x < W0.heap.size ∧ ¬ Gv x
  kept : Kept W0 Gv w
  defs : a.defers = []
  size : a.tmps.size = N
  tm : ∀ i, RepTV w (okS W0 A Gv ν B w) ν B (g i) (a.tmps.getD i undef)
  us : ∀ i s, s ∈ (g i).sites → U s
  ub : ∀ s b, B s = some b → U s ∧ ∀ x ∈ b.cells, ∀ s' ∈ x.sites, U s'
  bl : ∀ s b, B s = some b → RepB w (okS W0 A Gv ν B w) (freshS W0 Gv) ν B s b
  inj : ∀ s s' b b' x, B s = some b → B s' = some b' → ownB (ν s) = some x → ownB (ν s') = some x → s = s'

/-- The same kind of block, as long. -/
def Blk.alike (b b' : Blk) : Prop := b'.isRow = b.isRow ∧ b'.elems = b.elems

section evolve
variable {w w1 : World} {ok ok1 : Nat → Prop} {ν ν1 : Nat → Value} {B B1 : Nat → Option Blk}

/-- What a cell names goes on, or is gone. -/
def GoesOn (ν ν1 : Nat → Value) (B B1 : Nat → Option Blk) (s : Nat) : Prop :=
  B1 s = none ∨ ∃ b b1, B s = some b ∧ B1 s = some b1 ∧ b.alike b1 ∧ ν1 s = ν s

theorem RepCV.one {x : CV} {v : Value} (h : RepCV w ok ν B x v) : v.oneCell' = true := by
  cases x <;> simp only [RepCV] at h
  case val u => rw [h.1]; exact h.2
  case c s x => exact RepC.one h
  case eptr r xs i off => obtain ⟨ad, css, rfl, _⟩ := h; rfl
  case clo f caps => obtain ⟨us, rfl, _⟩ := h; rfl
  all_goals exact h.1

theorem RepCV.evolve (hm : ∀ x, ok x → w1.heap[x]? = w.heap[x]?) (ho : ∀ x, ok x → ok1 x) {x : CV} {v : Value} (hs : ∀ s ∈ x.sites, GoesOn ν ν1 B B1 s)
    (h : RepCV w ok ν B x v) : RepCV w1 ok1 ν1 B1 x v := by
  have key : ∀ s, s ∈ x.sites → ∀ b1, B1 s = some b1 → ∃ b, B s = some b ∧ b.alike b1 ∧ ν1 s = ν s := by
    intro s hx b1 hb
    rcases hs s hx with hn | ⟨b, b1', h1, h2, h3, h4⟩
    · rw [hn] at hb; cases hb
    · rw [hb] at h2
      cases h2
      exact ⟨b, h1, h3, h4⟩
  cases x <;> simp only [RepCV] at h ⊢
  case val => exact h
  case c s x => exact RepC.move hm ho s x v h
  case own s =>
    refine ⟨h.1, fun b1 hb => ?_⟩
    obtain ⟨b, h1, h2, h3⟩ := key s (by simp [CV.sites]) b1 hb
    rw [h3, h2.1]
    exact h.2 b h1
  case pre s n =>
    refine ⟨h.1, fun b1 hb => ?_⟩
    obtain ⟨b, h1, h2, h3⟩ := key s (by simp [CV.sites]) b1 hb
    rw [h3, h2.1, h2.2]
    exact h.2 b h1
  case ptr s off =>
    refine ⟨h.1, fun b1 hb => ?_⟩
    obtain ⟨b, h1, h2, h3⟩ := key s (by simp [CV.sites]) b1 hb
    rw [h3, h2.1]
    exact h.2 b h1
  case rptr s r i off =>
    refine ⟨h.1, fun b1 hb => ?_⟩
    obtain ⟨b, h1, h2, h3⟩ := key s (by simp [CV.sites]) b1 hb
    rw [h3, h2.2]
    exact h.2 b h1
  case eptr r xs i off =>
    obtain ⟨ad, css, h1, h2, h3, h4, h5, h6⟩ := h
    refine ⟨ad, css, h1, h2, ho _ h3, h4.imp (fun x cs hx => RepR.move hm ho r x cs hx), fun j u hj => ?_, h6⟩
    have hb : (ad.add j).block = ad.block := by unfold Addr.add; split <;> rfl
    rw [World.cell?_of_block (w := w) (by rw [hb]; exact hm _ h3)]
    exact h5 j u hj
  case suf s n =>
    refine ⟨h.1, fun b1 hb => ?_⟩
    obtain ⟨b, h1, h2, h3⟩ := key s (by simp [CV.sites]) b1 hb
    rw [h3, h2.1, h2.2]
    exact h.2 b h1
  case clo f caps =>
    obtain ⟨us, h1, h2⟩ := h
    refine ⟨us, h1, h2.impMem fun c u hc hu => ?_⟩
    cases c with
    | ptr s off =>
      refine ⟨hu.1, fun b1 hb => ?_⟩
      obtain ⟨b, k1, k2, k3⟩ := key s (List.mem_flatMap.2 ⟨_, hc, by simp [Cap.sites]⟩) b1 hb
      rw [k3, k2.1]
      exact hu.2 b k1
    | dat s x => exact RepC.move hm ho s x u hu
    | ref r x => exact RefP.move hm ho hu

theorem RepEV.evolve (hm : ∀ x, ok x → w1.heap[x]? = w.heap[x]?) (ho : ∀ x, ok x → ok1 x) {x : EV} {v : Value} (hs : ∀ s ∈ x.sites, GoesOn ν ν1 B B1 s)
    (h : RepEV w ok ν B x v) : RepEV w1 ok1 ν1 B1 x v := by
  cases x with
  | one x => exact RepCV.evolve hm ho (fun s hx => hs s (by simpa [EV.sites, EV.cells] using hx)) h
  | agg l =>
    obtain ⟨vs, e, h⟩ := h
    refine ⟨vs, e, h.impMem fun x v hx hr => RepCV.evolve hm ho (fun s hsx => hs s ?_) hr⟩
    simp only [EV.sites, EV.cells, List.mem_flatMap]
    exact ⟨x, hx, hsx⟩

theorem RepTV.evolve (hm : ∀ x, ok x → w1.heap[x]? = w.heap[x]?) (ho : ∀ x, ok x → ok1 x) {x : TV} {v : Value} (hs : ∀ s ∈ x.sites, GoesOn ν ν1 B B1 s)
    (h : RepTV w ok ν B x v) : RepTV w1 ok1 ν1 B1 x v := by
  cases x with
  | dead => trivial
  | e x => exact RepEV.evolve hm ho hs h
  | tup l =>
    obtain ⟨vs, e, h⟩ := h
    refine ⟨vs, e, h.impMem fun x v hx hr => RepEV.evolve hm ho (fun s hsx => hs s ?_) hr⟩
    simp only [TV.sites, List.mem_flatMap]
    exact ⟨x, hx, hsx⟩

theorem RepB.evolve (hm : ∀ x, ok x → w1.heap[x]? = w.heap[x]?) (ho : ∀ x, ok x → ok1 x) {fresh : Nat → Prop} {s : Nat} {b : Blk} (hν : ν1 s = ν s)
    (hs : ∀ x ∈ b.cells, ∀ s' ∈ x.sites, GoesOn ν ν1 B B1 s') (hg : ∀ x, ownB (ν s) = some x → w1.heap[x]? = w.heap[x]?)
    (h : RepB w ok fresh ν B s b) : RepB w1 ok1 fresh ν1 B1 s b := by
  cases b with
  | box t cells =>
    obtain ⟨g, vs, h1, h2, h3, h4⟩ := h
    refine ⟨g, vs, by rw [hν, h1], h2, by rw [hg g (by rw [h1]; rfl)]; exact h3, ?_⟩
    exact h4.impMem fun x v hx hr => RepCV.evolve hm ho (hs x hx) hr
  | row e r xs fz =>
    obtain ⟨css, h1, h2, h3⟩ := h
    refine ⟨css, h1.imp (fun x cs hx => RepR.move hm ho r x cs hx), ?_, by rw [hν]; exact h3⟩
    rw [hν]
    refine ⟨h2.1, h2.2.imp id ?_⟩
    rintro ⟨g, cap, cur, hv, hb, hh, hrest⟩
    exact ⟨g, cap, cur, hv, hb, by rw [hg g (by rw [hv]; rfl)]; exact hh, hrest⟩
  | arr t r n xs =>
    obtain ⟨g, css, h1, h2, h3, h4, h5⟩ := h
    exact ⟨g, css, by rw [hν, h1], h2, h3, h4.imp (fun x cs hx => RepR.move hm ho r x cs hx), by rw [hg g (by rw [h1]; rfl)]; exact h5⟩
end evolve

section
variable {W0 : World} {A Gv : Nat → Prop} {N : Nat} {U : Nat → Prop} {g : Nat → TV} {B : Nat → Option Blk} {ν : Nat → Value} {a : Act} {w : World}

theorem RepB.own {ok fresh : Nat → Prop} {s : Nat} {b : Blk} (h : RepB w ok fresh ν B s b) {x : Nat} (hx : ownB (ν s) = some x) : fresh x ∧ x < w.heap.size := by
  cases b with
  | box t cells =>
    obtain ⟨g, vs, h1, h2, h3, h4⟩ := h
    rw [h1] at hx
    simp only [ownB, Option.some.injEq] at hx
    subst hx
    exact ⟨h2, (Array.getElem?_eq_some_iff.1 h3).1⟩
  | row e r xs fz =>
    obtain ⟨css, h1, h2, h3⟩ := h
    refine ⟨h3 x hx, ?_⟩
    rcases h2.2 with ⟨hv, _⟩ | ⟨g, cap, cur, hv, hb, hh, _⟩
    · rw [hv] at hx; cases hx
    · rw [hv] at hx
      simp only [ownB, Option.some.injEq] at hx
      subst hx
      exact (Array.getElem?_eq_some_iff.1 hh).1
  | arr t r n xs =>
    obtain ⟨g, css, h1, h2, h3, h4, h5⟩ := h
    rw [h1] at hx
    simp only [ownB, Option.some.injEq] at hx
    subst hx
    exact ⟨h2, (Array.getElem?_eq_some_iff.1 h5).1⟩

/-- From state to state; Tc: the sites that are touched; U1: the names in use then. -/
theorem Sim.step (h : Sim W0 A Gv N U g B ν a w) {w1 : World} {B1 : Nat → Option Blk} {ν1 : Nat → Value} {U1 : Nat → Prop} (Tc : Nat → Prop)
    (hU : ∀ s, U s → U1 s)
    (hos : w1.os = w.os) (htape : w1.tape = w.tape) (hout : w1.output = w.output) (hsz : w.heap.size ≤ w1.heap.size)
    (hheap : ∀ x, x < w.heap.size → (∀ s b, Tc s → B s = some b → b.mut = true → ownB (ν s) ≠ some x) → w1.heap[x]? = w.heap[x]?)
    (hB : ∀ s, ¬ Tc s → B1 s = B s ∧ (U s → ν1 s = ν s))
    (hT : ∀ s, Tc s → U s → GoesOn ν ν1 B B1 s)
    (hmut : ∀ s b1 x, Tc s → B1 s = some b1 → b1.mut = true → ownB (ν1 s) = some x → x < w.heap.size → ∃ s' b', Tc s' ∧ B s' = some b' ∧ b'.mut = true ∧ ownB (ν s') = some x)
    (hnu : ∀ s b1, Tc s → B1 s = some b1 → U1 s ∧ ∀ x ∈ b1.cells, ∀ s' ∈ x.sites, U1 s')
    (hnew : (∀ x, okS W0 A Gv ν B w x → okS W0 A Gv ν1 B1 w1 x ∧ w1.heap[x]? = w.heap[x]?) → (∀ s, U s → GoesOn ν ν1 B B1 s) → ∀ s b1, Tc s → B1 s = some b1 → RepB w1 (okS W0 A Gv ν1 B1 w1) (freshS W0 Gv) ν1 B1 s b1)
    (hinj : ∀ s s' b b' x, Tc s → B1 s = some b → B1 s' = some b' → ownB (ν1 s) = some x → ownB (ν1 s') = some x → s = s')
    (hmutold : ∀ s b b1, ¬ Tc s → B s = some b → B1 s = some b1 → b1 = b) :
    Sim W0 A Gv N U1 g B1 ν1 a w1 := by
  have hkeep : ∀ x, x < w.heap.size → okS W0 A Gv ν B w x → w1.heap[x]? = w.heap[x]? := by
    intro x hx hok
    refine hheap x hx fun s b _ hb hm hx' => ?_
    rcases hok with ha | ⟨_, _, hne⟩
    · have := (h.bl s b hb).own hx'
      have ho := h.old x ha
      rcases this.1 with h1 | h1
      · omega
      · exact ho.2 h1
    · exact hne s b hb hm hx'
  have hoklt : ∀ x, okS W0 A Gv ν B w x → x < w.heap.size := by
    intro x hok
    rcases hok with ha | ⟨_, h1, _⟩
    · have := h.old x ha; have := h.kept.size; omega
    · exact h1
  have hgo : ∀ s, U s → GoesOn ν ν1 B B1 s := by
    intro s hu
    by_cases ht : Tc s
    · exact hT s ht hu
    · obtain ⟨h1, h2⟩ := hB s ht
      cases hb : B s with
      | none => exact .inl (by rw [h1, hb])
      | some b => exact .inr ⟨b, b, hb, by rw [h1, hb], ⟨rfl, rfl⟩, h2 hu⟩
  have hokmono : ∀ x, okS W0 A Gv ν B w x → okS W0 A Gv ν1 B1 w1 x := by
    intro x hok
    have hlt := hoklt x hok
    rcases hok with ha | ⟨hf, h1, hne⟩
    · exact .inl ha
    · refine .inr ⟨hf, by omega, fun s b hb hm hx => ?_⟩
      by_cases ht : Tc s
      · obtain ⟨s', b', _, hb', hm', hx'⟩ := hmut s b x ht hb hm hx hlt
        exact hne s' b' hb' hm' hx'
      · obtain ⟨e1, e2⟩ := hB s ht
        rw [e1] at hb
        rw [e2 (h.ub s b hb).1] at hx
        exact hne s b hb hm hx
  have hboth : ∀ x, okS W0 A Gv ν B w x → okS W0 A Gv ν1 B1 w1 x ∧ w1.heap[x]? = w.heap[x]? := fun x hok => ⟨hokmono x hok, hkeep x (hoklt x hok) hok⟩
  refine ⟨h.old, ⟨hos.trans h.kept.os, htape.trans h.kept.tape, hout.trans h.kept.output, Nat.le_trans h.kept.size hsz, fun k hk hg => ?_⟩, h.defs, h.size, fun i => ?_, fun i s hs => hU s (h.us i s hs), fun s b hb => ?_, fun s b hb => ?_, ?_⟩
  · rw [hheap k (Nat.lt_of_lt_of_le hk h.kept.size) fun s b _ hb hm hx => ?_]
    · exact h.kept.block k hk hg
    · rcases ((h.bl s b hb).own hx).1 with h1 | h1
      · omega
      · exact hg h1
  · exact (h.tm i).evolve (fun x hok => (hboth x hok).2) hokmono fun s hs => hgo s (h.us i s hs)
  · by_cases ht : Tc s
    · exact hnu s b ht hb
    · rw [(hB s ht).1] at hb
      have := h.ub s b hb
      exact ⟨hU _ this.1, fun x hx s' hs => hU _ (this.2 x hx s' hs)⟩
  · by_cases ht : Tc s
    · exact hnew hboth hgo s b ht hb
    · obtain ⟨e1, e2⟩ := hB s ht
      rw [e1] at hb
      have hu := h.ub s b hb
      refine (h.bl s b hb).evolve (fun x hok => (hboth x hok).2) hokmono (e2 hu.1) (fun x hx s' hs => hgo s' (hu.2 x hx s' hs)) fun x hx => ?_
      refine hheap x ((h.bl s b hb).own hx).2 fun s' b' ht' hb' hm hx' => ?_
      exact ht (h.inj s' s b' b x hb' hb hx' hx ▸ ht')
  · intro s s' b b' x hb hb' hx hx'
    by_cases ht : Tc s
    · exact hinj s s' b b' x ht hb hb' hx hx'
    · by_cases ht' : Tc s'
      · exact (hinj s' s b' b x ht' hb' hb hx' hx).symm
      · obtain ⟨e1, e2⟩ := hB s ht
        obtain ⟨e1', e2'⟩ := hB s' ht'
        rw [e1] at hb
        rw [e1'] at hb'
        rw [e2 (h.ub s b hb).1] at hx
        rw [e2' (h.ub s' b' hb').1] at hx'
        exact h.inj s s' b b' x hb hb' hx hx'

theorem beq_ne {d i : Nat} (h : ¬ d = i) : Nat.beq d i = false := by
  cases hb : Nat.beq d i with
  | false => rfl
  | true => exact absurd (Nat.eq_of_beq_eq_true hb) h

/-- A slot is written. -/
theorem Sim.put (h : Sim W0 A Gv N U g B ν a w) (d : Nat) (hd : d < N) (tv : TV) (v : Value) (hv : RepTV w (okS W0 A Gv ν B w) ν B tv v) (hs : ∀ s ∈ tv.sites, U s) :
    Sim W0 A Gv N U (fun i => cond (Nat.beq d i) tv (g i)) B ν (a.put (some d) v) w := by
  refine ⟨h.old, h.kept, h.defs, by simp [Act.put, h.size], fun i => ?_, fun i s hsi => ?_, h.ub, h.bl, h.inj⟩
  · by_cases hi : d = i
    · subst hi
      have : ((a.put (some d) v).tmps.getD d undef) = v := by simp [Act.put, h.size, hd]
      rw [this, Nat.beq_refl]
      exact hv
    · have : ((a.put (some d) v).tmps.getD i undef) = a.tmps.getD i undef := by simp [Act.put, Array.getElem?_setIfInBounds_ne hi]
      rw [this, beq_ne hi]
      exact h.tm i
  · by_cases hi : d = i
    · subst hi
      rw [Nat.beq_refl] at hsi
      exact hs s hsi
    · rw [beq_ne hi] at hsi
      exact h.us i s hsi

/-- A draw. -/
theorem Sim.drew (h : Sim W0 A Gv N U g B ν a w) (n : Nat) : Sim W0 A Gv N U g B ν a { w with drawn := n } := by
  refine h.step (w1 := { w with drawn := n }) (B1 := B) (ν1 := ν) (fun _ => False) (fun _ h => h) rfl rfl rfl (Nat.le_refl _) (fun _ _ _ => rfl) (fun s _ => ⟨rfl, fun _ => rfl⟩) (fun s h => h.elim) (fun s b1 x h => h.elim) (fun s b1 h => h.elim) (fun _ _ s b1 h => h.elim) (fun s s' b b' x h => h.elim) (fun s b b1 _ h1 h2 => by rw [h1] at h2; exact (Option.some.inj h2).symm)
end

end Go.Pi

/- Each operation does what the executor says. First part: what computes and reads. -/
set_option linter.unusedVariables false
set_option linter.unusedSimpArgs false
namespace Go.Pi
open Go.RowKit

def updB (w : List (Nat × Option Blk)) (B : Nat → Option Blk) : Nat → Option Blk := fun s => match lk w s with
  | some b => b
  | none => B s
theorem updB_nil (B : Nat → Option Blk) : updB [] B = B := rfl

section
variable (P : Program) (W0 : World) (A Gv : Nat → Prop) (N : Nat) (U : Nat → Prop) (g : Nat → TV) (B : Nat → Option Blk) (tv : TV) (o : Oper) (a : Act) (w : World)
/-- The operation runs, and what the executor says of it holds. -/
def Res : Prop := ∃ nx v w1 ν1, (execOp a.eval o).run P w = .ok nx w1 ∧ (nx = .value v ∨ nx = .skip ∧ v = undef) ∧ Sim W0 A Gv N U g B ν1 a w1 ∧
  RepTV w1 (okS W0 A Gv ν1 B w1) ν1 B tv v ∧ ∀ s ∈ tv.sites, U s
end

section
variable {P : Program} {W0 : World} {A Gv : Nat → Prop} {N : Nat} {U : Nat → Prop} {g : Nat → TV} {B : Nat → Option Blk} {ν : Nat → Value} {a : Act} {w : World} {o : Oper}

theorem Sim.mono (h : Sim W0 A Gv N U g B ν a w) {U1 : Nat → Prop} (hU : ∀ s, U s → U1 s) : Sim W0 A Gv N U1 g B ν a w :=
  ⟨h.old, h.kept, h.defs, h.size, h.tm, fun i s hs => hU s (h.us i s hs), fun s b hb => ⟨hU _ (h.ub s b hb).1, fun x hx s' hs => hU _ ((h.ub s b hb).2 x hx s' hs)⟩, h.bl, h.inj⟩

theorem ofCell_rep {ok : Nat → Prop} {v : Value} (hv : v.oneCell' = true) : RepCV w ok ν B (ofCell v) v := by
  cases v <;> simp [ofCell, RepCV, RepC, hv]
theorem ofCell_sites (v : Value) : (ofCell v).sites = [] := by cases v <;> rfl

theorem Sim.opnd (h : Sim W0 A Gv N U g B ν a w) (x : Operand) : RepTV w (okS W0 A Gv ν B w) ν B (opnd g x) (a.eval x) := by
  cases x with
  | tmp t => exact h.tm t
  | const v =>
    simp only [Pi.opnd, ofVal, Act.eval]
    split
    · exact ofCell_rep (by assumption)
    · trivial
  | func f => simp [Pi.opnd, Act.eval, RepTV, RepEV, RepCV, Value.oneCell']
  | global i => trivial

theorem Sim.opnd_sites (h : Sim W0 A Gv N U g B ν a w) (x : Operand) : ∀ s ∈ (Pi.opnd g x).sites, U s := by
  cases x with
  | tmp t => exact h.us t
  | const v =>
    simp only [Pi.opnd, ofVal]
    split
    · intro s hs; simp [TV.sites, EV.sites, EV.cells, ofCell_sites] at hs
    · intro s hs; simp [TV.sites] at hs
  | func f => intro s hs; simp [Pi.opnd, TV.sites, EV.sites, EV.cells, CV.sites] at hs
  | global i => intro s hs; simp [Pi.opnd, TV.sites] at hs

/-- An operation that only computes or reads. -/
theorem Res.same (h : Sim W0 A Gv N U g B ν a w) {tv : TV} (v : Value) (hr : (execOp a.eval o).run P w = .ok (.value v) w)
    (hv : RepTV w (okS W0 A Gv ν B w) ν B tv v) (hs : ∀ s ∈ tv.sites, U s) : Res P W0 A Gv N U g B tv o a w :=
  ⟨_, v, w, ν, hr, .inl rfl, h, hv, hs⟩

theorem rep_int {ok : Nat → Prop} {k : IntKind} {x : CellD (.int k)} {v : Value} (h : RepTV w ok ν B (.e (.one (.c (.int k) x))) v) : v = .int k x := by
  simpa only [RepTV, RepEV, RepCV, RepC] using h
theorem rep_bool {ok : Nat → Prop} {x : CellD .bool} {v : Value} (h : RepTV w ok ν B (.e (.one (.c .bool x))) v) : v = .bool x := by
  simpa only [RepTV, RepEV, RepCV, RepC] using h
theorem rep_str {ok : Nat → Prop} {x : CellD .str} {v : Value} (h : RepTV w ok ν B (.e (.one (.c .str x))) v) : v = .string x := by
  simpa only [RepTV, RepEV, RepCV, RepC] using h
theorem int1_rep {ok : Nat → Prop} (k : IntKind) (x : Int) : RepTV w ok ν B (int1 k x) (.int k x) := by simp [int1, RepTV, RepEV, RepCV, RepC]
theorem bool1_rep {ok : Nat → Prop} (x : Bool) : RepTV w ok ν B (bool1 x) (.bool x) := by simp [bool1, RepTV, RepEV, RepCV, RepC]
theorem str1_rep {ok : Nat → Prop} (x : ByteArray) : RepTV w ok ν B (str1 x) (.string x) := by simp [str1, RepTV, RepEV, RepCV, RepC]
theorem int1_sites (k : IntKind) (x : Int) : ∀ s ∈ (int1 k x).sites, U s := by intro s hs; simp [int1, TV.sites, EV.sites, EV.cells, CV.sites] at hs
theorem bool1_sites (x : Bool) : ∀ s ∈ (bool1 x).sites, U s := by intro s hs; simp [bool1, TV.sites, EV.sites, EV.cells, CV.sites] at hs
theorem str1_sites (x : ByteArray) : ∀ s ∈ (str1 x).sites, U s := by intro s hs; simp [str1, TV.sites, EV.sites, EV.cells, CV.sites] at hs

theorem op_move (h : Sim W0 A Gv N U g B ν a w) (x : Operand) (ho : o.op = .move x ∨ o.op = .assign x) : Res P W0 A Gv N U g B (opnd g x) o a w := by
  refine Res.same h (a.eval x) ?_ (h.opnd x) (h.opnd_sites x)
  rcases ho with ho | ho <;> simp [execOp, ho]

theorem phi_rep {ok : Nat → Prop} {b : Bool} {x y : TV} {vx vy : Value} (hx : RepTV w ok ν B x vx) (hy : RepTV w ok ν B y vy) : RepTV w ok ν B (phi b x y) (cond b vx vy) := by
  unfold phi
  split
  · rename_i s u s' v
    split
    · rename_i v' hc
      unfold castD at hc
      split at hc
      · rename_i e
        subst e
        cases hc
        cases b
        · exact hy
        · exact hx
      · cases hc
    · cases b
      · exact hy
      · exact hx
  · cases b
    · exact hy
    · exact hx

theorem phi_sites {b : Bool} {x y : TV} (hx : ∀ s ∈ x.sites, U s) (hy : ∀ s ∈ y.sites, U s) : ∀ s ∈ (phi b x y).sites, U s := by
  unfold phi
  split
  · split
    · intro s hs; simp [TV.sites, EV.sites, EV.cells, CV.sites] at hs
    · cases b
      · exact hy
      · exact hx
  · cases b
    · exact hy
    · exact hx

theorem op_pick (h : Sim W0 A Gv N U g B ν a w) (c x y : Operand) (ho : o.op = .pick c x y) {t : CellD .bool} (hc : opnd g c = .e (.one (.c .bool t))) :
    Res P W0 A Gv N U g B (phi t (opnd g x) (opnd g y)) o a w := by
  have hb := rep_bool (hc ▸ h.opnd c)
  refine Res.same h (cond t (a.eval x) (a.eval y)) ?_ (phi_rep (h.opnd x) (h.opnd y)) (phi_sites (h.opnd_sites x) (h.opnd_sites y))
  simp only [execOp, ho, hb, asBool, Sem.run_bind, Sem.run_pure, Result.andThen_ok]
  cases (show Bool from t) <;> rfl

theorem op_extract (h : Sim W0 A Gv N U g B ν a w) (t : Operand) (i : Nat) (ho : o.op = .extract t i) {l : List EV} (ht : opnd g t = .tup l) {x : EV} (hx : l[i]? = some x) :
    Res P W0 A Gv N U g B (.e x) o a w := by
  obtain ⟨vs, hv, hr⟩ := (ht ▸ h.opnd t : RepTV w (okS W0 A Gv ν B w) ν B (.tup l) (a.eval t))
  obtain ⟨u, hu, hru⟩ := hr.get i x hx
  refine Res.same h u ?_ hru fun s hs => h.opnd_sites t s ?_
  · simp [execOp, ho, hv, Instr.extract, hu]
  · rw [ht]
    simp only [TV.sites, List.mem_flatMap]
    exact ⟨x, List.mem_of_getElem? hx, hs⟩

theorem zbits_run (op : BinOp) (k : IntKind) (x y : Int) (hop : op = .and ∨ op = .or ∨ op = .xor ∨ op = .andNot) : (Op.intBits op k x y).run P w = .ok (.int k (zbits op k x y)) w := by
  rcases hop with rfl | rfl | rfl | rfl <;> simp [Op.intBits, zbits]

theorem eqFields1_run : ∀ (fs : List Field) (d : Nat) (xs ys : List CV) (vs us : List Value) {ok : Nat → Prop} {b : Bool}, All2 (RepCV w ok ν B) xs vs → All2 (RepCV w ok ν B) ys us →
    eqFields1 P fs xs ys = some b → (Op.eqFields (d + 1) vs.toArray us.toArray fs).run P w = .ok b w
  | [], d, xs, ys, vs, us, ok, b, _, _, h => by
    simp only [eqFields1, Option.some.injEq] at h
    subst h
    simp [Op.eqFields]
  | f :: fs, d, xs, ys, vs, us, ok, b, hx, hy, h => by
    unfold eqFields1 at h
    split at h
    · cases h
    · rename_i hn
      have part1 : ∀ (dsc : TypeDesc), P.underlying f.type = some dsc → (match dsc with | .struct _ | .array _ _ => false | _ => true) = true → ∀ (zs : List Value) u, zs[f.offset]? = some u → (part f.type zs.toArray f.offset).run P w = .ok u w := by
        intro dsc hd hna zs u hu
        unfold part isAgg
        cases dsc <;> simp_all [run_underlying hd]
      split at h
      · rename_i k k1 x k2 y hu hxs hys
        split at h
        · rename_i hk
          obtain ⟨rfl, rfl⟩ := hk
          cases hrest : eqFields1 P fs xs ys with
          | none => simp [hrest] at h
          | some b' =>
            simp only [hrest, Option.map_some, Option.some.injEq] at h
            subst h
            obtain ⟨u1, h1, r1⟩ := hx.get _ _ hxs
            obtain ⟨u2, h2, r2⟩ := hy.get _ _ hys
            simp only [RepCV, RepC] at r1 r2
            subst r1; subst r2
            have ih := eqFields1_run fs d xs ys vs us hx hy hrest
            cases hq : eqI x y <;> (unfold eqI at hq; simp [Op.eqFields, hn, Sem.run_bind, part1 _ hu rfl _ _ h1, part1 _ hu rfl _ _ h2, Op.equalIn, run_underlying hu, andB, eqI, hq, ih])
        · cases h
      · rename_i x y hu hxs hys
        cases hrest : eqFields1 P fs xs ys with
        | none => simp [hrest] at h
        | some b' =>
          simp only [hrest, Option.map_some, Option.some.injEq] at h
          subst h
          obtain ⟨u1, h1, r1⟩ := hx.get _ _ hxs
          obtain ⟨u2, h2, r2⟩ := hy.get _ _ hys
          simp only [RepCV, RepC] at r1 r2
          subst r1; subst r2
          have ih := eqFields1_run fs d xs ys vs us hx hy hrest
          cases hq : eqB x y <;> (unfold eqB at hq; simp [Op.eqFields, hn, Sem.run_bind, part1 _ hu rfl _ _ h1, part1 _ hu rfl _ _ h2, Op.equalIn, run_underlying hu, andB, eqB, hq, ih])
      · rename_i x y hu hxs hys
        cases hrest : eqFields1 P fs xs ys with
        | none => simp [hrest] at h
        | some b' =>
          simp only [hrest, Option.map_some, Option.some.injEq] at h
          subst h
          obtain ⟨u1, h1, r1⟩ := hx.get _ _ hxs
          obtain ⟨u2, h2, r2⟩ := hy.get _ _ hys
          simp only [RepCV, RepC] at r1 r2
          subst r1; subst r2
          have ih := eqFields1_run fs d xs ys vs us hx hy hrest
          cases hq : eqA x y <;> (unfold eqA at hq; simp [Op.eqFields, hn, Sem.run_bind, part1 _ hu rfl _ _ h1, part1 _ hu rfl _ _ h2, Op.equalIn, run_underlying hu, andB, eqA, hq, ih])
      · cases h

end
end Go.Pi

/- Each operation does what the executor says: numbers, comparisons. -/
set_option linter.unusedVariables false
set_option linter.unusedSimpArgs false
namespace Go.Pi
open Go.RowKit

section
variable {P : Program} {W0 : World} {A Gv : Nat → Prop} {N : Nat} {U : Nat → Prop} {g : Nat → TV} {B : Nat → Option Blk} {ν : Nat → Value} {a : Act} {w : World} {o : Oper}

theorem run_bin_int (op : BinOp) (t : TypeId) (x y : Operand) (k : IntKind) (m n : Int) (h : op ≠ .shl) (h' : op ≠ .shr) {r : Value}
    (hr : (match op with
      | .add | .sub | .mul => Op.intArith op k m n
      | .quo | .rem => Op.intDiv op k m n
      | .and | .or | .xor | .andNot => Op.intBits op k m n
      | _ => Op.intCmp op m n : Sem Value).run P w = .ok r w) :
    ((do eqGuard op t x y (.int k m) (.int k n); binOp op t (.int k m) (.int k n) : Sem Value).run P w) = .ok r w := by
  have he : (eqGuard op t x y (.int k m) (.int k n)).run P w = .ok () w := by
    unfold eqGuard
    cases op <;> simp
  rw [Sem.run_bind, he, Result.andThen_ok]
  cases op <;> first | (exact absurd rfl h; done) | (exact absurd rfl h'; done) | (simp_all [binOp]; done)

theorem cmpI_run {op : BinOp} {k : IntKind} {x y : Int} {r : Bool} (h : cmpI op x y = some r) (t : TypeId) (ox oy : Operand) :
    ((do eqGuard op t ox oy (.int k x) (.int k y); binOp op t (.int k x) (.int k y) : Sem Value).run P w) = .ok (.bool r) w := by
  unfold cmpI at h
  refine run_bin_int op t ox oy k x y (by rintro rfl; simp at h) (by rintro rfl; simp at h) ?_
  split at h <;> first | (cases h; done) | (cases h; simp [Op.intCmp])

theorem arI_run {op : BinOp} {k : IntKind} {x y : Int} {r : Int} (h : arI op k x y = some (true, r)) (t : TypeId) (ox oy : Operand) :
    ((do eqGuard op t ox oy (.int k x) (.int k y); binOp op t (.int k x) (.int k y) : Sem Value).run P w) = .ok (.int k r) w := by
  unfold arI at h
  refine run_bin_int op t ox oy k x y (by rintro rfl; simp at h) (by rintro rfl; simp at h) ?_
  split at h
  · simp only [Option.some.injEq, Prod.mk.injEq, true_and] at h; subst h; simp [Op.intArith]
  · simp only [Option.some.injEq, Prod.mk.injEq, true_and] at h; subst h; simp [Op.intArith]
  · simp only [Option.some.injEq, Prod.mk.injEq, true_and] at h; subst h; simp [Op.intArith]
  · simp only [Option.some.injEq, Prod.mk.injEq, Bool.not_eq_true', decide_eq_false_iff_not] at h; obtain ⟨h1, rfl⟩ := h; simp [Op.intDiv, h1]
  · simp only [Option.some.injEq, Prod.mk.injEq, Bool.not_eq_true', decide_eq_false_iff_not] at h; obtain ⟨h1, rfl⟩ := h; simp [Op.intDiv, h1]
  · simp only [Option.some.injEq, Prod.mk.injEq, true_and] at h; subst h; exact zbits_run _ _ _ _ (.inl rfl)
  · simp only [Option.some.injEq, Prod.mk.injEq, true_and] at h; subst h; exact zbits_run _ _ _ _ (.inr (.inl rfl))
  · simp only [Option.some.injEq, Prod.mk.injEq, true_and] at h; subst h; exact zbits_run _ _ _ _ (.inr (.inr (.inl rfl)))
  · simp only [Option.some.injEq, Prod.mk.injEq, true_and] at h; subst h; exact zbits_run _ _ _ _ (.inr (.inr (.inr rfl)))
  · cases h

theorem shl_run (t : TypeId) (ox oy : Operand) (k k' : IntKind) (m n : Int) (h : nonneg n = true) :
    ((do eqGuard .shl t ox oy (.int k m) (.int k' n); binOp .shl t (.int k m) (.int k' n) : Sem Value).run P w) = .ok (.int k (zshl k m n)) w := by
  unfold nonneg at h
  have h1 : (0 : Int) ≤ n := of_decide_eq_true h
  have : ¬ (n < 0) := by omega
  simp [eqGuard, binOp, Op.shift, this, zshl]
theorem shr_run (t : TypeId) (ox oy : Operand) (k k' : IntKind) (m n : Int) (h : nonneg n = true) :
    ((do eqGuard .shr t ox oy (.int k m) (.int k' n); binOp .shr t (.int k m) (.int k' n) : Sem Value).run P w) = .ok (.int k (zshr k m n)) w := by
  unfold nonneg at h
  have h1 : (0 : Int) ≤ n := of_decide_eq_true h
  have : ¬ (n < 0) := by omega
  simp [eqGuard, binOp, Op.shift, this, zshr]
theorem cat_run (t : TypeId) (ox oy : Operand) (m n : ByteArray) (h : catOk m n = true) :
    ((do eqGuard .add t ox oy (.string m) (.string n); binOp .add t (.string m) (.string n) : Sem Value).run P w) = .ok (.string (catS m n)) w := by
  unfold catOk at h
  have h1' : m.size + n.size ≤ 9223372036854775807 := of_decide_eq_true h
  have : ¬ (((m.size + n.size : Nat) : Int) > IntKind.i64.max) := by simp [IntKind.max, IntKind.bits, IntKind.signed]; omega
  simp only [eqGuard, binOp, Op.stringOp, if_neg this, catS]
  simp

theorem boolEq_run (t : TypeId) (ht : P.underlying t = some .bool) (ox oy : Operand) (m n : Bool) :
    ((do eqGuard .eql t ox oy (.bool m) (.bool n); binOp .eql t (.bool m) (.bool n) : Sem Value).run P w) = .ok (.bool (eqB m n)) w := by
  have he : (Op.equalIn 10000 t (.bool m) (.bool n)).run P w = .ok (eqB m n) w := by
    rw [show (10000 : Nat) = 9999 + 1 from rfl]
    generalize 9999 = d
    simp only [Op.equalIn, Sem.run_bind, run_underlying ht, Result.andThen_ok, Sem.run_pure, eqB]
  have hg : (eqGuard .eql t ox oy (.bool m) (.bool n)).run P w = .ok () w := rfl
  rw [Sem.run_bind, hg, Result.andThen_ok]
  simp only [binOp, Op.equal, Op.maxDepth, Sem.run_bind, he, Result.andThen_ok, Sem.run_pure]
theorem boolNe_run (t : TypeId) (ht : P.underlying t = some .bool) (ox oy : Operand) (m n : Bool) :
    ((do eqGuard .neq t ox oy (.bool m) (.bool n); binOp .neq t (.bool m) (.bool n) : Sem Value).run P w) = .ok (.bool (notB (eqB m n))) w := by
  have he : (Op.equalIn 10000 t (.bool m) (.bool n)).run P w = .ok (eqB m n) w := by
    rw [show (10000 : Nat) = 9999 + 1 from rfl]
    generalize 9999 = d
    simp only [Op.equalIn, Sem.run_bind, run_underlying ht, Result.andThen_ok, Sem.run_pure, eqB]
  have hg : (eqGuard .neq t ox oy (.bool m) (.bool n)).run P w = .ok () w := rfl
  rw [Sem.run_bind, hg, Result.andThen_ok]
  simp only [binOp, Op.equal, Op.maxDepth, Sem.run_bind, he, Result.andThen_ok, Sem.run_pure, notB]
theorem unXor_run (k : IntKind) (m : Int) : (Op.unary .xor (.int k m)).run P w = .ok (.int k (zbits .xor k (if k.signed then -1 else k.max) m)) w := by
  simp only [Op.unary]
  exact zbits_run .xor k _ _ (.inr (.inr (.inl rfl)))
theorem structEq_run (t : TypeId) (ox oy : Operand) (vs us : Array Value) (b : Bool) (hs2 : P.eqGuardType P.depth t = false) (h : (Op.equal t (.agg vs) (.agg us)).run P w = .ok b w) :
    ((do eqGuard .eql t ox oy (.agg vs) (.agg us); binOp .eql t (.agg vs) (.agg us) : Sem Value).run P w) = .ok (.bool b) w ∧
    ((do eqGuard .neq t ox oy (.agg vs) (.agg us); binOp .neq t (.agg vs) (.agg us) : Sem Value).run P w) = .ok (.bool (notB b)) w := by
  constructor
  · have hg : (eqGuard .eql t ox oy (.agg vs) (.agg us)).run P w = .ok () w := by simp [eqGuard, hs2]
    rw [Sem.run_bind, hg, Result.andThen_ok]
    simp only [binOp, Sem.run_bind, h, Result.andThen_ok, Sem.run_pure]
  · have hg : (eqGuard .neq t ox oy (.agg vs) (.agg us)).run P w = .ok () w := by simp [eqGuard, hs2]
    rw [Sem.run_bind, hg, Result.andThen_ok]
    simp only [binOp, Sem.run_bind, h, Result.andThen_ok, Sem.run_pure, notB]

theorem bin_run {op : BinOp} {t : TypeId} {x y : TV} {tv : TV} {vx vy : Value} {ok : Nat → Prop} (hx : RepTV w ok ν B x vx) (hy : RepTV w ok ν B y vy) (ox oy : Operand)
    (h : bin P op t x y = some (true, tv)) :
    ∃ v, ((do eqGuard op t ox oy vx vy; binOp op t vx vy : Sem Value).run P w) = .ok v w ∧ RepTV w ok ν B tv v ∧ ∀ s, s ∉ tv.sites := by
  unfold bin at h
  split at h
  · rename_i k m k' n
    have ex := rep_int hx
    have ey := rep_int hy
    subst ex; subst ey
    split at h
    · simp only [Option.some.injEq, Prod.mk.injEq] at h
      obtain ⟨h1, rfl⟩ := h
      exact ⟨_, shl_run t ox oy k k' m n h1, int1_rep k _, int1_sites (U := fun _ => False) k _⟩
    · simp only [Option.some.injEq, Prod.mk.injEq] at h
      obtain ⟨h1, rfl⟩ := h
      exact ⟨_, shr_run t ox oy k k' m n h1, int1_rep k _, int1_sites (U := fun _ => False) k _⟩
    · split at h
      · rename_i hk
        subst hk
        split at h
        · rename_i r hr
          simp only [Option.some.injEq, Prod.mk.injEq, true_and] at h
          subst h
          exact ⟨_, cmpI_run hr t ox oy, bool1_rep r, bool1_sites (U := fun _ => False) r⟩
        · split at h
          · rename_i q r hr
            simp only [Option.some.injEq, Prod.mk.injEq] at h
            obtain ⟨rfl, rfl⟩ := h
            exact ⟨_, arI_run hr t ox oy, int1_rep k r, int1_sites (U := fun _ => False) k r⟩
          · cases h
      · cases h
  · rename_i m n
    have ex := rep_bool hx
    have ey := rep_bool hy
    subst ex; subst ey
    split at h
    · rename_i ht
      simp only [Option.some.injEq, Prod.mk.injEq, true_and] at h
      subst h
      exact ⟨_, boolEq_run t ht ox oy m n, bool1_rep _, bool1_sites (U := fun _ => False) _⟩
    · rename_i ht
      simp only [Option.some.injEq, Prod.mk.injEq, true_and] at h
      subst h
      exact ⟨_, boolNe_run t ht ox oy m n, bool1_rep _, bool1_sites (U := fun _ => False) _⟩
    · cases h
  · rename_i m n
    have ex := rep_str hx
    have ey := rep_str hy
    subst ex; subst ey
    split at h
    · simp only [Option.some.injEq, Prod.mk.injEq] at h
      obtain ⟨h1, rfl⟩ := h
      exact ⟨_, cat_run t ox oy m n h1, str1_rep _, str1_sites (U := fun _ => False) _⟩
    · simp only [Option.some.injEq, Prod.mk.injEq, true_and] at h
      subst h
      exact ⟨_, by simp [eqGuard, binOp, Op.stringOp, eqS], bool1_rep _, bool1_sites (U := fun _ => False) _⟩
    · simp only [Option.some.injEq, Prod.mk.injEq, true_and] at h
      subst h
      exact ⟨_, by simp [eqGuard, binOp, Op.stringOp, eqS, notB], bool1_rep _, bool1_sites (U := fun _ => False) _⟩
    · cases h
  · rename_i l m
    obtain ⟨vs, rfl, hl⟩ := hx
    obtain ⟨us, rfl, hm⟩ := hy
    split at h
    · rename_i fs ht
      split at h
      · cases h
      · rename_i hst
        have hs1 : P.stoodInHeld t = false := by cases hq : P.stoodInHeld t <;> simp_all
        have hs2 : P.eqGuardType P.depth t = false := by cases hq : P.eqGuardType P.depth t <;> simp_all
        have hf : P.underlying t = some (.struct (P.fieldsOf t)) := by simp [Program.fieldsOf, ht]
        have hfe : P.fieldsOf t = fs := by simp [Program.fieldsOf, ht]
        have run : ∀ b, eqFields1 P fs.toList l m = some b → (Op.equal t (.agg vs.toArray) (.agg us.toArray)).run P w = .ok b w := by
          intro b hb
          unfold Op.equal
          rw [show Op.maxDepth = 9999 + 1 from rfl, run_equalIn_struct (w := w) 9999 t _ _ hf hs1, hfe]
          exact eqFields1_run fs.toList 9998 l m vs us hl hm hb
        split at h
        · rename_i b hb
          simp only [Option.some.injEq, Prod.mk.injEq, true_and] at h
          subst h
          exact ⟨_, (structEq_run t ox oy _ _ b hs2 (run b hb)).1, bool1_rep _, bool1_sites (U := fun _ => False) _⟩
        · rename_i b hb
          simp only [Option.some.injEq, Prod.mk.injEq, true_and] at h
          subst h
          exact ⟨_, (structEq_run t ox oy _ _ b hs2 (run b hb)).2, bool1_rep _, bool1_sites (U := fun _ => False) _⟩
        · cases h
    · cases h
  · cases h

theorem op_bin (h : Sim W0 A Gv N U g B ν a w) (op : BinOp) (t : TypeId) (x y : Operand) (t' : TypeId) (ho : o.op = .binOp op t x y t') {tv : TV}
    (hb : bin P op t (opnd g x) (opnd g y) = some (true, tv)) : Res P W0 A Gv N U g B tv o a w := by
  obtain ⟨v, hr, hv, hs⟩ := bin_run (h.opnd x) (h.opnd y) x y hb
  refine Res.same h v ?_ hv fun s hx => absurd hx (hs s)
  simp only [execOp, ho]
  simp only [Sem.run_bind] at hr ⊢
  rw [hr]
  rfl

theorem op_un (h : Sim W0 A Gv N U g B ν a w) (op : UnOp) (t : TypeId) (x : Operand) (ho : o.op = .unOp op t x) {tv : TV} (hu : un op (opnd g x) = some tv) : Res P W0 A Gv N U g B tv o a w := by
  have hx := h.opnd x
  unfold un at hu
  split at hu
  · rename_i k m hq
    rw [hq] at hx
    have ex := rep_int hx
    cases hu
    refine Res.same h _ ?_ (int1_rep k _) (int1_sites k _)
    simp [execOp, ho, ex, Op.unary, Op.intArith, negI]
  · rename_i k m hq
    rw [hq] at hx
    have ex := rep_int hx
    cases hu
    refine Res.same h _ ?_ (int1_rep k _) (int1_sites k _)
    have hx := unXor_run (P := P) (w := w) k m
    simp only [execOp, ho, ex, Sem.run_bind] at hx ⊢
    exact (congrArg (fun r => Result.andThen r _) hx).trans rfl
  · rename_i b hq
    rw [hq] at hx
    have ex := rep_bool hx
    cases hu
    refine Res.same h _ ?_ (bool1_rep _) (bool1_sites _)
    simp [execOp, ho, ex, Op.unary, notB]
  · cases hu

theorem op_conv_int (h : Sim W0 A Gv N U g B ν a w) (src dst : TypeId) (x : Operand) (ho : o.op = .convert src dst x) {d : TypeDesc} {k k' : IntKind} {n : CellD (.int k')}
    (hs : P.underlying src = some d) (hd : P.underlying dst = some (.int k)) (hx : opnd g x = .e (.one (.c (.int k') n))) : Res P W0 A Gv N U g B (int1 k (k.wrap n)) o a w := by
  have ex := rep_int (hx ▸ h.opnd x)
  refine Res.same h _ ?_ (int1_rep k _) (int1_sites k _)
  have hq := run_convert_int (P := P) w src dst k n
  simp only [execOp, ho, ex, convert, Sem.run_bind, run_underlying hs, run_underlying hd, Result.andThen_ok]
  cases d <;> simp [Conv.intToInt]

end
end Go.Pi

/- Each operation does what the executor says: what reads memory. -/
set_option linter.unusedVariables false
set_option linter.unusedSimpArgs false
namespace Go.Pi
open Go.RowKit

theorem add_eq {a : Addr} (h : a.spot = none) (n : Nat) : a.add n = ⟨a.block, a.off + n, none⟩ := by
  obtain ⟨b, o, s⟩ := a
  simp only at h
  subst h
  unfold Addr.add
  split <;> simp_all

section
variable {P : Program} {W0 : World} {A Gv : Nat → Prop} {N : Nat} {U : Nat → Prop} {g : Nat → TV} {B : Nat → Option Blk} {ν : Nat → Value} {a : Act} {w : World} {o : Oper}

theorem unpack_rep {ok : Nat → Prop} : ∀ {r : Shs} {x : RowD r} {cs : List Value}, RepR w ok r x cs → All2 (RepCV w ok ν B) (unpackR r x) cs
  | .one s, x, cs, h => by
    simp only [RepR] at h
    obtain ⟨v, rfl, hv⟩ := h
    exact ⟨hv, trivial⟩
  | .cons s r, x, cs, h => by
    simp only [RepR] at h
    obtain ⟨v, vs, rfl, hv, hr⟩ := h
    exact ⟨hv, unpack_rep hr⟩
theorem unpack_sites : ∀ {r : Shs} {x : RowD r} {c : CV}, c ∈ unpackR r x → c.sites = []
  | .one s, x, c, h => by
    simp only [unpackR, List.mem_singleton] at h
    subst h
    rfl
  | .cons s r, x, c, h => by
    simp only [unpackR, List.mem_cons] at h
    rcases h with rfl | h
    · rfl
    · exact unpack_sites h
theorem unpack_len : ∀ {r : Shs} {x : RowD r}, (unpackR r x).length = r.size
  | .one s, x => rfl
  | .cons s r, x => by simp [unpackR, Shs.size, unpack_len]

theorem gd_get {α : Type} {d : α} {xs : List α} {i : Int} (h0 : 0 ≤ i) (h1 : i < (xs.length : Int)) : xs[i.toNat]? = some (gd d xs i) := by
  have hl : i.toNat < xs.length := by omega
  simp [gd, List.getElem?_eq_getElem hl]

theorem castRows_eq {r r' : Shs} {xs : List (RowD r)} {ys : List (RowD r')} (h : castRows r r' xs = some ys) : ∃ e : r = r', ys = e ▸ xs := by
  unfold castRows at h
  split at h
  · rename_i e
    exact ⟨e, (Option.some.inj h).symm⟩
  · cases h
theorem castD_eq {s s' : Sh} {x : CellD s} {y : CellD s'} (h : castD s s' x = some y) : ∃ e : s = s', y = e ▸ x := by
  unfold castD at h
  split at h
  · rename_i e
    exact ⟨e, (Option.some.inj h).symm⟩
  · cases h

theorem own_cells {base n size : Nat} {e : TypeId} {v : Value} {xs : List Value} (h : w.ownsRow base e size v n xs) {q : Nat} (hq : baseG v = some q) :
    ∀ j u, xs[j]? = some u → w.cell? ⟨q, j, none⟩ = some u := by
  intro j u hj
  have := h.cells (g := q) (by
    unfold baseG at hq
    split at hq
    · simpa [Value.ownBlock] using hq
    · rcases h.2 with ⟨hv, _⟩ | ⟨_, _, _, hv, _⟩ <;> cases hv
    · cases hq) j u hj
  rwa [add_eq rfl, Nat.zero_add] at this

/-- The cells behind a pointer, in memory. -/
theorem cellsAt_rep (h : Sim W0 A Gv N U g B ν a w) {p : CV} {v : Value} (hp : RepCV w (okS W0 A Gv ν B w) ν B p v) {l : List CV} {off : Nat} (hc : cellsAt B p = some (l, off)) :
    ∃ b q vs, v = .pointer (some ⟨b, q + off, none⟩) ∧ All2 (RepCV w (okS W0 A Gv ν B w) ν B) l vs ∧ (∀ j u, vs[j]? = some u → w.cell? ⟨b, q + j, none⟩ = some u) ∧
      ∀ c ∈ l, ∀ s ∈ c.sites, U s := by
  unfold cellsAt at hc
  split at hc
  · rename_i s off'
    split at hc
    · rename_i t cells hb
      simp only [Option.some.injEq, Prod.mk.injEq] at hc
      obtain ⟨rfl, rfl⟩ := hc
      obtain ⟨_, hp⟩ := hp
      obtain ⟨_, x, h1, h2⟩ := hp _ hb
      obtain ⟨x', vs, h3, h4, h5, h6⟩ := h.bl _ _ hb
      rw [h1] at h3
      simp only [Value.pointer.injEq, Option.some.injEq, Addr.mk.injEq, and_true] at h3
      subst h3
      refine ⟨x, 0, vs, by rw [h2, Nat.zero_add], h6, fun j u hj => ?_, (h.ub s _ hb).2⟩
      rw [Nat.zero_add, cell_of_row w x j _ t (0, 0) h5]
      simpa using hj
    · cases hc
  · rename_i s r i off'
    obtain ⟨_, hp⟩ := hp
    split at hc
    · rename_i e r' xs fz hb
      split at hc
      · rename_i xs' hx
        obtain ⟨rfl, rfl⟩ := castRows_eq hx
        simp only [Option.some.injEq, Prod.mk.injEq] at hc
        obtain ⟨rfl, rfl⟩ := hc
        obtain ⟨x, r1, m, h1, h2, h3, h4, h5⟩ := hp _ hb
        simp only [Blk.elems, Option.some.injEq, Prod.mk.injEq] at h2
        obtain ⟨rfl, rfl⟩ := h2
        obtain ⟨css, h6, h7, h8⟩ := h.bl _ _ hb
        obtain ⟨cs, h9, h10, h11⟩ := flat_at h6 i.toNat _ (gd_get (d := Shs.dflt _) h3 h4)
        refine ⟨x, i.toNat * Shs.size _, cs, h5, unpack_rep h10, fun j u hj => ?_, fun c hc s hs => by rw [unpack_sites hc] at hs; cases hs⟩
        exact own_cells h7 h1 _ _ (h11 j u hj)
      · cases hc
    · rename_i t r' n xs hb
      split at hc
      · rename_i xs' hx
        obtain ⟨rfl, rfl⟩ := castRows_eq hx
        simp only [Option.some.injEq, Prod.mk.injEq] at hc
        obtain ⟨rfl, rfl⟩ := hc
        obtain ⟨x, r1, m, h1, h2, h3, h4, h5⟩ := hp _ hb
        simp only [Blk.elems, Option.some.injEq, Prod.mk.injEq] at h2
        obtain ⟨rfl, rfl⟩ := h2
        obtain ⟨x', css, h6, h7, h7', h8, h8'⟩ := h.bl _ _ hb
        rw [h6] at h1
        simp only [baseG, Option.some.injEq] at h1
        subst h1
        obtain ⟨cs, h9, h10, h11⟩ := flat_at h8 i.toNat _ (gd_get (d := Shs.dflt _) h3 h4)
        refine ⟨x', i.toNat * Shs.size _, cs, h5, unpack_rep h10, fun j u hj => ?_, fun c hc s hs => by rw [unpack_sites hc] at hs; cases hs⟩
        rw [cell_of_row w x' _ _ t (0, 0) h8']
        simpa using h11 j u hj
      · cases hc
    · cases hc
  · rename_i r xs i off'
    simp only [Option.some.injEq, Prod.mk.injEq] at hc
    obtain ⟨rfl, rfl⟩ := hc
    obtain ⟨ad, css, h1, h2, h3, h4, h5, h6, h7⟩ := hp
    obtain ⟨cs, h9, h10, h11⟩ := flat_at h4 i.toNat _ (gd_get (d := Shs.dflt _) h6 h7)
    refine ⟨ad.block, ad.off + i.toNat * r.size, cs, by rw [h1, Nat.add_assoc], unpack_rep h10, fun j u hj => ?_, fun c hc s hs => by rw [unpack_sites hc] at hs; cases hs⟩
    have := h5 _ _ (h11 j u hj)
    rwa [add_eq h2, ← Nat.add_assoc] at this
  · cases hc

theorem run_isAgg {t : TypeId} {d : TypeDesc} (h : P.underlying t = some d) : (isAgg t).run P w = .ok (isAggT P t) w := by
  unfold isAgg isAggT
  simp only [Sem.run_bind, run_underlying h, Result.andThen_ok, h]
  cases d <;> simp
theorem run_size {t : TypeId} {n : Nat} (h : sizeT P t = some n) : (sizeOf t).run P w = .ok n w := by
  unfold sizeT at h
  cases hi : P.info? t with
  | none => simp [hi] at h
  | some i => simp [hi] at h; simp [sizeOf, typeInfo, hi, h]

/-- A part of some cells, as a value. -/
theorem partV_rep {ok : Nat → Prop} {t : TypeId} {l : List CV} {off : Nat} {x : EV} (hp : partV P t l off = some x) {vs : List Value} (hl : All2 (RepCV w ok ν B) l vs) :
    ∃ v n d, sizeT P t = some n ∧ P.underlying t = some d ∧ off + n ≤ vs.length ∧ RepEV w ok ν B x v ∧ ((isAggT P t = true ∧ v = .agg ((vs.drop off).take n).toArray) ∨ (isAggT P t = false ∧ n = 1 ∧ vs[off]? = some v)) ∧
      ∀ c ∈ x.cells, c ∈ l := by
  unfold partV at hp
  split at hp
  · rename_i n d hn hd
    split at hp
    · rename_i hlen
      split at hp
      · rename_i hagg
        cases hp
        exact ⟨_, n, d, hn, hd, by rw [← hl.len]; exact hlen, ⟨_, rfl, (hl.drop off).take n⟩, .inl ⟨hagg, rfl⟩, fun c hc => List.mem_of_mem_drop (List.mem_of_mem_take hc)⟩
      · rename_i hagg
        split at hp
        · rename_i v hv
          split at hp
          · rename_i hn1
            cases hp
            obtain ⟨u, hu, hr⟩ := hl.get _ _ hv
            refine ⟨u, n, d, hn, hd, by rw [← hl.len]; exact hlen, hr, .inr ⟨by simpa using hagg, hn1, hu⟩, fun c hc => ?_⟩
            simp only [EV.cells, List.mem_singleton] at hc
            subst hc
            exact List.mem_of_getElem? hv
          · cases hp
        · cases hp
    · cases hp
  · cases hp

theorem op_load (h : Sim W0 A Gv N U g B ν a w) (t : TypeId) (p : Operand) (ho : o.op = .load t p) {q : CV} (hq : getC (opnd g p) = some q) {l : List CV} {off : Nat} (hc : cellsAt B q = some (l, off))
    {x : EV} (hx : partV P t l off = some x) : Res P W0 A Gv N U g B (.e x) o a w := by
  have hp := h.opnd p
  have hq' : opnd g p = .e (.one q) := by
    unfold getC at hq
    split at hq
    · rename_i e; rw [e]; cases hq; rfl
    · cases hq
  rw [hq'] at hp
  obtain ⟨b, z, vs, h1, h2, h3, h4⟩ := cellsAt_rep h hp hc
  obtain ⟨v, n, d, h5, h6, h7, h8, h9, h10⟩ := partV_rep hx h2
  refine Res.same h v ?_ h8 fun s hs => ?_
  · have key : (loadVar t ⟨b, z + off, none⟩).run P w = .ok v w := by
      unfold loadVar
      rw [Sem.run_bind, run_isAgg h6, Result.andThen_ok]
      rcases h9 with ⟨ha, rfl⟩ | ⟨ha, rfl, hv⟩
      · rw [if_pos ha, Sem.run_bind, run_size h5]
        simp only [Result.andThen_ok]
        have hlen : ((vs.drop off).take n).length = n := by simp; omega
        have := run_loadCells_list (P := P) w ⟨b, z + off, none⟩ ((vs.drop off).take n) (fun j u hj => by
          rw [add_eq rfl]
          rw [List.getElem?_take] at hj
          split at hj
          · rw [List.getElem?_drop] at hj
            have := h3 _ _ hj
            rwa [← Nat.add_assoc] at this
          · cases hj)
        rw [hlen] at this
        simp [this]
      · rw [ha]
        simp only [Bool.false_eq_true, if_false]
        have := h3 _ _ hv
        simp only [load, Sem.run, this]
    simp only [execOp, ho, h1, Instr.loadAt, Instr.sureAddr, Sem.run_bind, Sem.run_pure, Result.andThen_ok, key]
  · simp only [TV.sites, EV.sites, List.mem_flatMap] at hs
    obtain ⟨c, hc, hs⟩ := hs
    exact h4 c (h10 c hc) s hs

theorem addOff_rep {ok : Nat → Prop} {q q' : CV} {v : Value} (hq : RepCV w ok ν B q v) (hal : q.alive B = true) {n : Nat} (ha : addOff q n = some q') :
    ∃ b z, v = .pointer (some ⟨b, z, none⟩) ∧ RepCV w ok ν B q' (.pointer (some ⟨b, z + n, none⟩)) ∧ q'.sites = q.sites := by
  unfold addOff at ha
  split at ha
  · rename_i s off
    cases ha
    obtain ⟨h1, h2⟩ := hq
    simp only [CV.alive, Option.isSome_iff_exists] at hal
    obtain ⟨bk, hb⟩ := hal
    obtain ⟨h3, x, h4, rfl⟩ := h2 bk hb
    refine ⟨x, off, rfl, ⟨rfl, fun b' hb' => ?_⟩, rfl⟩
    obtain ⟨h5, y, h6, h7⟩ := h2 b' hb'
    refine ⟨h5, y, h6, ?_⟩
    simp only [Value.pointer.injEq, Option.some.injEq, Addr.mk.injEq, and_true, true_and] at h7
    rw [h7]
  · rename_i s r i off
    cases ha
    obtain ⟨h1, h2⟩ := hq
    simp only [CV.alive, Option.isSome_iff_exists] at hal
    obtain ⟨bk, hb⟩ := hal
    obtain ⟨x, r', m, h3, h4, h5, h6, rfl⟩ := h2 bk hb
    refine ⟨x, _, rfl, ⟨rfl, fun b' hb' => ?_⟩, rfl⟩
    obtain ⟨y, r1, m1, h7, h8, h9, h10, h11⟩ := h2 b' hb'
    refine ⟨y, r1, m1, h7, h8, h9, h10, ?_⟩
    simp only [Value.pointer.injEq, Option.some.injEq, Addr.mk.injEq, and_true, true_and] at h11 ⊢
    exact ⟨h11, by omega⟩
  · rename_i r xs i off
    cases ha
    obtain ⟨ad, css, rfl, h2, h3⟩ := hq
    exact ⟨ad.block, _, rfl, ⟨ad, css, by simp only [Value.pointer.injEq, Option.some.injEq, Addr.mk.injEq, and_true, true_and]; omega, h2, h3⟩, rfl⟩
  · cases ha

theorem one_sites (q : CV) : (one q).sites = q.sites := by simp [one, TV.sites, EV.sites, EV.cells]

theorem fieldOff_eq {t : TypeId} {f off : Nat} {ft : TypeId} (hf : fieldOff P t f = some (off, ft)) : ∃ fs fd n, P.underlying t = some (.struct fs) ∧ fs[f]? = some fd ∧ sizeT P ft = some (n + 1) ∧ fd.offset = off ∧ fd.type = ft := by
  unfold fieldOff at hf
  split at hf
  · rename_i fs hfs
    split at hf
    · rename_i fd hfd
      split at hf
      · rename_i n hn
        simp only [Option.some.injEq, Prod.mk.injEq] at hf
        obtain ⟨rfl, rfl⟩ := hf
        exact ⟨fs, fd, n, hfs, hfd, hn, rfl, rfl⟩
      · cases hf
    · cases hf
  · cases hf

theorem op_fieldAddr (h : Sim W0 A Gv N U g B ν a w) (t : TypeId) (x : Operand) (f : Nat) (ho : o.op = .fieldAddr t x f) {q q' : CV} (hq : opnd g x = .e (.one q)) {off : Nat} {ft : TypeId}
    (hf : fieldOff P t f = some (off, ft)) (ha : addOff q off = some q') (hal : q.alive B = true) : Res P W0 A Gv N U g B (one q') o a w := by
  have hp := hq ▸ h.opnd x
  have hu := h.opnd_sites x
  rw [hq] at hu
  obtain ⟨fs, fd, n, hfs, hfd, hn, rfl, rfl⟩ := fieldOff_eq hf
  obtain ⟨b, z, hv, hr, hs⟩ := addOff_rep hp hal ha
  refine Res.same h _ ?_ hr fun s hs' => hu s ?_
  · have hsz := run_size (P := P) (w := w) hn
    simp [execOp, ho, hv, Instr.fieldAt, run_underlying hfs, hfd, Instr.sureAddr, fieldPlace, hsz, add_eq]
  · rw [one_sites, hs] at hs'
    simpa [TV.sites, EV.sites, EV.cells] using hs'

theorem run_part {t : TypeId} {n : Nat} {d : TypeDesc} (hn : sizeT P t = some n) (hd : P.underlying t = some d) {vs : List Value} {off : Nat} {v : Value} (hl : off + n ≤ vs.length)
    (hv : (isAggT P t = true ∧ v = .agg ((vs.drop off).take n).toArray) ∨ (isAggT P t = false ∧ n = 1 ∧ vs[off]? = some v)) : (part t vs.toArray off).run P w = .ok v w := by
  unfold part
  rw [Sem.run_bind, run_isAgg hd, Result.andThen_ok]
  rcases hv with ⟨ha, rfl⟩ | ⟨ha, rfl, hv⟩
  · rw [if_pos ha, Sem.run_bind, run_size hn]
    simp
  · rw [ha]
    simp [hv]

theorem op_field (h : Sim W0 A Gv N U g B ν a w) (t : TypeId) (x : Operand) (f : Nat) (ho : o.op = .field t x f) {l : List CV} (hx : opnd g x = .e (.agg l)) {off : Nat} {ft : TypeId}
    (hf : fieldOff P t f = some (off, ft)) {y : EV} (hy : partV P ft l off = some y) : Res P W0 A Gv N U g B (.e y) o a w := by
  obtain ⟨vs, hv, hl⟩ := (hx ▸ h.opnd x : RepTV w (okS W0 A Gv ν B w) ν B (.e (.agg l)) (a.eval x))
  have hu := h.opnd_sites x
  rw [hx] at hu
  obtain ⟨fs, fd, n, hfs, hfd, hn, rfl, rfl⟩ := fieldOff_eq hf
  obtain ⟨v, n', d, h5, h6, h7, h8, h9, h10⟩ := partV_rep hy hl
  refine Res.same h v ?_ h8 fun s hs => hu s ?_
  · simp only [execOp, ho, hv, Instr.field, Sem.run_bind, run_underlying hfs, Result.andThen_ok, hfd, asAgg, Sem.run_pure, run_part h5 h6 h7 h9]
  · simp only [TV.sites, EV.sites, List.mem_flatMap] at hs ⊢
    obtain ⟨c, hc, hs⟩ := hs
    exact ⟨c, h10 c hc, hs⟩

end
end Go.Pi

/- Each operation does what the executor says: indexes, cuts, lengths, struct literals. -/
set_option linter.unusedVariables false
set_option linter.unusedSimpArgs false
namespace Go.Pi
open Go.RowKit

section
variable {P : Program} {W0 : World} {A Gv : Nat → Prop} {N : Nat} {U : Nat → Prop} {g : Nat → TV} {B : Nat → Option Blk} {ν : Nat → Value} {a : Act} {w : World} {o : Oper}

theorem inb_spec {i : Int} {n : Nat} (h : inb i n = true) : 0 ≤ i ∧ i < (n : Int) := by
  simp only [inb, Bool.and_eq_true, decide_eq_true_eq] at h
  exact h

theorem getI_rep {ok : Nat → Prop} {tv : TV} {j : Int} (hj : getI tv = some j) {v : Value} (hv : RepTV w ok ν B tv v) : ∃ k, v = .int k j := by
  unfold getI at hj
  split at hj
  · cases hj
    exact ⟨_, rep_int hv⟩
  · cases hj
theorem getC_eq {tv : TV} {q : CV} (h : getC tv = some q) : tv = .e (.one q) := by
  unfold getC at h
  split at h
  · cases h; rfl
  · cases h
theorem getE_eq {tv : TV} {q : EV} (h : getE tv = some q) : tv = .e q := by
  unfold getE at h
  split at h
  · cases h; rfl
  · cases h

/-- The address of an element of a slice. -/
theorem run_indexAt_sl {t e : TypeId} (ht : P.underlying t = some (.slice e)) {n : Nat} (hn : sizeT P e = some n) (ad : Addr) (len c : Nat) (k : IntKind) (i : Int) (h0 : 0 ≤ i) (h1 : i < (len : Int)) :
    (Instr.indexAt t (.slice (some ad) len c) (.int k i)).run P w = .ok (.pointer (some (ad.add (i.toNat * n)))) w := by
  have hs := run_size (P := P) (w := w) hn
  simp [Instr.indexAt, asIntOf, run_underlying ht, h0, h1, hs]

theorem run_indexAt_ar {t e : TypeId} {m : Nat} (ht : P.underlying t = some (.array m e)) {n : Nat} (hn : sizeT P e = some n) (ad : Addr) (k : IntKind) (i : Int) (h0 : 0 ≤ i) (h1 : i < (m : Int)) :
    (Instr.indexAt t (.pointer (some ad)) (.int k i)).run P w = .ok (.pointer (some (ad.add (i.toNat * n)))) w := by
  have hs := run_size (P := P) (w := w) hn
  simp [Instr.indexAt, asIntOf, run_underlying ht, h0, h1, hs, Instr.sureAddr]

theorem op_indexAddr_c (h : Sim W0 A Gv N U g B ν a w) (t : TypeId) (x i : Operand) (ho : o.op = .indexAddr t x i) {e : TypeId} (ht : P.underlying t = some (.slice e)) {r : Shs} {xs : CellD (.sl r)}
    (hx : opnd g x = .e (.one (.c (.sl r) xs))) {j : Int} (hj : getI (opnd g i) = some j) (hn : sizeT P e = some r.size) (hb : inb j (List.length xs) = true) :
    Res P W0 A Gv N U g B (one (.eptr r xs j 0)) o a w := by
  obtain ⟨h0, h1⟩ := inb_spec hb
  obtain ⟨k, hi⟩ := getI_rep hj (h.opnd i)
  obtain ⟨Ad, c, css, hv, h2, h3, h4, h5⟩ := (hx ▸ h.opnd x : RepTV w (okS W0 A Gv ν B w) ν B (.e (.one (.c (.sl r) xs))) (a.eval x))
  obtain ⟨ad, rfl, h6, h7, h8⟩ := h5 (by omega)
  refine Res.same h _ ?_ (⟨ad, css, rfl, h7, h6, h4, h8, h0, h1⟩ : RepCV w (okS W0 A Gv ν B w) ν B (.eptr r xs j 0) _) fun s hs => ?_
  · simp only [execOp, ho, hi, hv, Sem.run_bind, run_indexAt_sl ht hn ad _ c k j h0 h1, Result.andThen_ok, Sem.run_pure, add_eq h7, Nat.add_zero]
  · rw [one_sites] at hs; cases hs

theorem own_some {base n size : Nat} {e : TypeId} {v : Value} {xs : List Value} (h : w.ownsRow base e size v n xs) (hn : 0 < n) : ∃ q c, v = .slice (some ⟨q, 0, none⟩) n c ∧ baseG v = some q ∧ n ≤ c := by
  rcases h.2 with ⟨_, h0⟩ | ⟨q, cap, cur, rfl, _, _, h1, _⟩
  · omega
  · exact ⟨q, cap, rfl, rfl, h1⟩

theorem op_indexAddr_own (h : Sim W0 A Gv N U g B ν a w) (t : TypeId) (x i : Operand) (ho : o.op = .indexAddr t x i) {e : TypeId} (ht : P.underlying t = some (.slice e)) {s : Nat} {e' : TypeId} {r : Shs} {xs : List (RowD r)} {fz : Bool}
    (hx : opnd g x = .e (.one (.own s))) (hB : B s = some (.row e' r xs fz)) {j : Int} (hj : getI (opnd g i) = some j) (hn : sizeT P e = some r.size) (hb : inb j xs.length = true) :
    Res P W0 A Gv N U g B (one (.rptr s r j 0)) o a w := by
  obtain ⟨h0, h1⟩ := inb_spec hb
  obtain ⟨k, hi⟩ := getI_rep hj (h.opnd i)
  obtain ⟨_, hv⟩ := (hx ▸ h.opnd x : RepTV w (okS W0 A Gv ν B w) ν B (.e (.one (.own s))) (a.eval x))
  obtain ⟨_, hv⟩ := hv _ hB
  obtain ⟨css, h2, h3, h4⟩ := h.bl _ _ hB
  obtain ⟨q, c, h5, h6, h7⟩ := own_some h3 (by omega)
  refine Res.same h (.pointer (some ⟨q, j.toNat * r.size + 0, none⟩)) ?_ (⟨rfl, fun b hb' => ?_⟩ : RepCV w (okS W0 A Gv ν B w) ν B (.rptr s r j 0) _) fun s' hs => ?_
  · simp only [execOp, ho, hi, hv, h5, Sem.run_bind, run_indexAt_sl ht hn _ _ c k j h0 h1, Result.andThen_ok, Sem.run_pure, add_eq (a := ⟨q, 0, none⟩) rfl, Nat.add_zero, Nat.zero_add]
  · rw [hB] at hb'
    cases hb'
    exact ⟨q, r, xs.length, h6, rfl, h0, h1, rfl⟩
  · have hu := h.opnd_sites x
    rw [hx] at hu
    rw [one_sites] at hs
    exact hu s' (by simpa [TV.sites, EV.sites, EV.cells, CV.sites] using hs)

theorem op_indexAddr_pre (h : Sim W0 A Gv N U g B ν a w) (t : TypeId) (x i : Operand) (ho : o.op = .indexAddr t x i) {e : TypeId} (ht : P.underlying t = some (.slice e)) {s : Nat} {n : Int} {e' : TypeId} {r : Shs} {xs : List (RowD r)} {fz : Bool}
    (hx : opnd g x = .e (.one (.pre s n))) (hB : B s = some (.row e' r xs fz)) {j : Int} (hj : getI (opnd g i) = some j) (hn : sizeT P e = some r.size) (hb : inb j n.toNat = true) :
    Res P W0 A Gv N U g B (one (.rptr s r j 0)) o a w := by
  obtain ⟨h0, h1⟩ := inb_spec hb
  obtain ⟨k, hi⟩ := getI_rep hj (h.opnd i)
  obtain ⟨_, hv⟩ := (hx ▸ h.opnd x : RepTV w (okS W0 A Gv ν B w) ν B (.e (.one (.pre s n))) (a.eval x))
  obtain ⟨_, r1, m, Ad, c', he, hn0, hnm, hν, hv⟩ := hv _ hB
  simp only [Blk.elems, Option.some.injEq, Prod.mk.injEq] at he
  obtain ⟨rfl, rfl⟩ := he
  obtain ⟨css, h2, h3, h4⟩ := h.bl _ _ hB
  obtain ⟨q, c, h5, h6, h7⟩ := own_some h3 (by omega)
  rw [h5] at hν
  simp only [Value.slice.injEq, true_and] at hν
  obtain ⟨rfl, rfl⟩ := hν
  refine Res.same h (.pointer (some ⟨q, j.toNat * r.size + 0, none⟩)) ?_ (⟨rfl, fun b hb' => ?_⟩ : RepCV w (okS W0 A Gv ν B w) ν B (.rptr s r j 0) _) fun s' hs => ?_
  · simp only [execOp, ho, hi, hv, Sem.run_bind, run_indexAt_sl ht hn _ _ c k j h0 h1, Result.andThen_ok, Sem.run_pure, add_eq (a := ⟨q, 0, none⟩) rfl, Nat.add_zero, Nat.zero_add]
  · rw [hB] at hb'
    cases hb'
    exact ⟨q, r, xs.length, h6, rfl, h0, by omega, rfl⟩
  · have hu := h.opnd_sites x
    rw [hx] at hu
    rw [one_sites] at hs
    exact hu s' (by simpa [TV.sites, EV.sites, EV.cells, CV.sites] using hs)

theorem op_indexAddr_suf (h : Sim W0 A Gv N U g B ν a w) (t : TypeId) (x i : Operand) (ho : o.op = .indexAddr t x i) {e : TypeId} (ht : P.underlying t = some (.slice e)) {s : Nat} {n : Int} {e' : TypeId} {r : Shs} {xs : List (RowD r)} {fz : Bool}
    (hx : opnd g x = .e (.one (.suf s n))) (hB : B s = some (.row e' r xs fz)) {j : Int} (hj : getI (opnd g i) = some j) (hn : sizeT P e = some r.size) (hb : inb j (xs.length - n.toNat) = true) :
    Res P W0 A Gv N U g B (one (.rptr s r (n + j) 0)) o a w := by
  obtain ⟨h0, h1⟩ := inb_spec hb
  obtain ⟨k, hi⟩ := getI_rep hj (h.opnd i)
  obtain ⟨_, hv⟩ := (hx ▸ h.opnd x : RepTV w (okS W0 A Gv ν B w) ν B (.e (.one (.suf s n))) (a.eval x))
  obtain ⟨_, r1, m, Ad, c', he, hn0, hnm, hν, hv⟩ := hv _ hB
  simp only [Blk.elems, Option.some.injEq, Prod.mk.injEq] at he
  obtain ⟨rfl, rfl⟩ := he
  obtain ⟨css, h2, h3, h4⟩ := h.bl _ _ hB
  obtain ⟨q, c, h5, h6, h7⟩ := own_some h3 (by omega)
  rw [h5] at hν
  simp only [Value.slice.injEq, true_and] at hν
  obtain ⟨rfl, rfl⟩ := hν
  have hne : ¬ c = n.toNat := by omega
  rw [if_neg hne, Option.map_some, add_eq rfl, Nat.zero_add] at hv
  have e3 : n.toNat * r.size + j.toNat * r.size = (n + j).toNat * r.size := by
    rw [← Nat.add_mul]; congr 1; omega
  refine Res.same h (.pointer (some ⟨q, (n + j).toNat * r.size + 0, none⟩)) ?_ (⟨rfl, fun b hb' => ?_⟩ : RepCV w (okS W0 A Gv ν B w) ν B (.rptr s r (n + j) 0) _) fun s' hs => ?_
  · simp only [execOp, ho, hi, hv, Sem.run_bind, run_indexAt_sl ht hn _ _ _ k j h0 (by omega : j < ((xs.length - n.toNat : Nat) : Int)), Result.andThen_ok, Sem.run_pure, add_eq (a := ⟨q, n.toNat * r.size, none⟩) rfl, Nat.add_zero, e3]
  · rw [hB] at hb'
    cases hb'
    exact ⟨q, r, xs.length, h6, rfl, by omega, by omega, rfl⟩
  · have hu := h.opnd_sites x
    rw [hx] at hu
    rw [one_sites] at hs
    exact hu s' (by simpa [TV.sites, EV.sites, EV.cells, CV.sites] using hs)

theorem op_indexAddr_arr (h : Sim W0 A Gv N U g B ν a w) (t : TypeId) (x i : Operand) (ho : o.op = .indexAddr t x i) {e : TypeId} {n : Nat} (ht : P.underlying t = some (.array n e)) {s : Nat} {e' : TypeId} {r : Shs} {m : Nat} {xs : List (RowD r)}
    (hx : opnd g x = .e (.one (.ptr s 0))) (hB : B s = some (.arr e' r m xs)) {j : Int} (hj : getI (opnd g i) = some j) (hn : sizeT P e = some r.size) (hm : m = n) (hb : inb j n = true) :
    Res P W0 A Gv N U g B (one (.rptr s r j 0)) o a w := by
  obtain ⟨h0, h1⟩ := inb_spec hb
  obtain ⟨k, hi⟩ := getI_rep hj (h.opnd i)
  obtain ⟨_, hv⟩ := (hx ▸ h.opnd x : RepTV w (okS W0 A Gv ν B w) ν B (.e (.one (.ptr s 0))) (a.eval x))
  obtain ⟨_, q, hq, hv⟩ := hv _ hB
  obtain ⟨q', css, h2, h3, h4, h5, h6⟩ := h.bl _ _ hB
  rw [hq] at h2
  simp only [Value.pointer.injEq, Option.some.injEq, Addr.mk.injEq, and_true] at h2
  subst h2
  refine Res.same h (.pointer (some ⟨q, j.toNat * r.size + 0, none⟩)) ?_ (⟨rfl, fun b hb' => ?_⟩ : RepCV w (okS W0 A Gv ν B w) ν B (.rptr s r j 0) _) fun s' hs => ?_
  · simp only [execOp, ho, hi, hv, Sem.run_bind, run_indexAt_ar ht hn _ k j h0 h1, Result.andThen_ok, Sem.run_pure, add_eq (a := ⟨q, 0, none⟩) rfl, Nat.add_zero, Nat.zero_add]
  · rw [hB] at hb'
    cases hb'
    exact ⟨q, r, xs.length, by rw [hq]; rfl, rfl, h0, by omega, rfl⟩
  · have hu := h.opnd_sites x
    rw [hx] at hu
    rw [one_sites] at hs
    exact hu s' (by simpa [TV.sites, EV.sites, EV.cells, CV.sites] using hs)

theorem op_indexAddr_box (h : Sim W0 A Gv N U g B ν a w) (t : TypeId) (x i : Operand) (ho : o.op = .indexAddr t x i) {e : TypeId} {n : Nat} (ht : P.underlying t = some (.array n e)) {s : Nat} {bk : Blk}
    (hx : opnd g x = .e (.one (.ptr s 0))) (hB : B s = some bk) {j : Int} (hj : getI (opnd g i) = some j) {z : Nat} (hn : sizeT P e = some z) (hb : inb j n = true) :
    Res P W0 A Gv N U g B (one (.ptr s (j.toNat * z))) o a w := by
  obtain ⟨h0, h1⟩ := inb_spec hb
  obtain ⟨k, hi⟩ := getI_rep hj (h.opnd i)
  have hp : RepCV w (okS W0 A Gv ν B w) ν B (.ptr s 0) (a.eval x) := (hx ▸ h.opnd x : RepTV w (okS W0 A Gv ν B w) ν B (.e (.one (.ptr s 0))) (a.eval x))
  have hu := h.opnd_sites x
  rw [hx] at hu
  have hal : CV.alive B (.ptr s 0) = true := by simp [CV.alive, hB]
  have ha : addOff (.ptr s 0) (j.toNat * z) = some (.ptr s (j.toNat * z)) := by simp [addOff]
  obtain ⟨b, y, hv, hr, hs⟩ := addOff_rep hp hal ha
  refine Res.same h _ ?_ hr fun s' hs' => hu s' ?_
  · simp only [execOp, ho, hi, hv, Sem.run_bind, run_indexAt_ar ht hn _ k j h0 h1, Result.andThen_ok, Sem.run_pure, add_eq (a := ⟨b, y, none⟩) rfl]
  · rw [one_sites, hs] at hs'
    simpa [TV.sites, EV.sites, EV.cells] using hs'

theorem run_index_str {t : TypeId} (ht : P.underlying t = some .string) (s : ByteArray) (k : IntKind) (j : Int) (hb : inb j s.size = true) : (Instr.index t (.string s) (.int k j)).run P w = .ok (.int .u8 (bt s j)) w := by
  obtain ⟨h0, h1⟩ := inb_spec hb
  have hl : j.toNat < s.size := by omega
  simp [Instr.index, asIntOf, run_underlying ht, h0, bt, hl]
theorem op_index_str (h : Sim W0 A Gv N U g B ν a w) (t : TypeId) (x i : Operand) (ho : o.op = .index t x i) (ht : P.underlying t = some .string) {s : CellD .str}
    (hx : opnd g x = .e (.one (.c .str s))) {j : Int} (hj : getI (opnd g i) = some j) (hb : inb j (ByteArray.size s) = true) : Res P W0 A Gv N U g B (int1 .u8 (bt s j)) o a w := by
  obtain ⟨k, hi⟩ := getI_rep hj (h.opnd i)
  have hv := rep_str (hx ▸ h.opnd x)
  refine Res.same h _ ?_ (int1_rep _ _) (int1_sites _ _)
  have := run_index_str (P := P) (w := w) ht s k j hb
  simp only [execOp, ho, hi, hv, Sem.run_bind]
  exact (congrArg (fun r => Result.andThen r _) this).trans rfl

/-- The value of a slice, whatever its kind: its address, its length, its cells. -/
theorem dataOf_rep (h : Sim W0 A Gv N U g B ν a w) {v : CV} {u : Value} (hv : RepCV w (okS W0 A Gv ν B w) ν B v u) {r : Shs} {xs : List (RowD r)} (hd : dataOf B v = some ⟨r, xs⟩) :
    ∃ Ad c css, u = .slice Ad xs.length c ∧ xs.length ≤ c ∧ c ≤ maxLen ∧ All2 (fun x cs => RepR w (okS W0 A Gv ν B w) r x cs) xs css ∧
      (0 < xs.length → ∃ ad, Ad = some ad ∧ ad.spot = none ∧ (okS W0 A Gv ν B w ad.block ∨ ∃ s, s ∈ v.rowSites ∧ True ∧ ownB (ν s) = some ad.block) ∧ ∀ j u, css.flatten[j]? = some u → w.cell? (ad.add j) = some u) := by
  unfold dataOf at hd
  split at hd
  · rename_i r' xs'
    cases hd
    obtain ⟨Ad, c, css, h1, h2, h3, h4, h5⟩ := hv
    refine ⟨Ad, c, css, h1, h2, h3, h4, fun hp => ?_⟩
    obtain ⟨ad, e, h6, h7, h8⟩ := h5 hp
    exact ⟨ad, e, h7, .inl h6, h8⟩
  · rename_i s
    split at hd
    · rename_i e r' xs' fz hB
      cases hd
      obtain ⟨_, hv⟩ := hv
      obtain ⟨_, rfl⟩ := hv _ hB
      obtain ⟨css, h2, h3, h4⟩ := h.bl _ _ hB
      rcases h3.2 with ⟨h5, h6⟩ | ⟨q, cap, cur, h5, _, _, h6, h7, _⟩
      · exact ⟨none, 0, css, by rw [h5, h6], by omega, Nat.zero_le _, h2, fun hp => by omega⟩
      · refine ⟨_, cap, css, h5, h6, h7, h2, fun hp => ⟨_, rfl, rfl, .inr ⟨s, by simp [CV.rowSites], trivial, by rw [h5]; rfl⟩, fun j u hj => ?_⟩⟩
        rw [add_eq rfl, Nat.zero_add]
        exact own_cells h3 (by rw [h5]; rfl) j u hj
    · cases hd
  · rename_i s n
    split at hd
    · rename_i e r' xs' fz hB
      cases hd
      obtain ⟨_, hv⟩ := hv
      obtain ⟨_, r1, m, Ad, c', he, hn0, hnm, hν, rfl⟩ := hv _ hB
      simp only [Blk.elems, Option.some.injEq, Prod.mk.injEq] at he
      obtain ⟨rfl, rfl⟩ := he
      have hlen : (xs'.take n.toNat).length = n.toNat := by rw [List.length_take]; omega
      obtain ⟨css, h2, h3, h4⟩ := h.bl _ _ hB
      have hc : xs'.length ≤ c' ∧ c' ≤ maxLen := by
        rcases h3.2 with ⟨h5, h6⟩ | ⟨q, cap, cur, h5, _, _, h6, h7, _⟩
        · rw [h5] at hν
          simp only [Value.slice.injEq] at hν
          omega
        · rw [h5] at hν
          simp only [Value.slice.injEq] at hν
          omega
      refine ⟨Ad, c', css.take n.toNat, by rw [hlen], by omega, hc.2, h2.take _, fun hp => ?_⟩
      obtain ⟨q, c, h5, h6, h7⟩ := own_some h3 (by omega)
      rw [h5] at hν
      simp only [Value.slice.injEq] at hν
      refine ⟨⟨q, 0, none⟩, hν.1.symm, rfl, .inr ⟨s, by simp [CV.rowSites], trivial, by rw [h5]; rfl⟩, fun j u hj => ?_⟩
      rw [add_eq rfl, Nat.zero_add]
      refine own_cells h3 h6 j u ?_
      have e1 : css.flatten = (css.take n.toNat).flatten ++ (css.drop n.toNat).flatten := by rw [← List.flatten_append, List.take_append_drop]
      rw [e1, List.getElem?_append_left (List.getElem?_eq_some_iff.1 hj).1]
      exact hj
    · cases hd
  · rename_i s n
    split at hd
    · rename_i e r' xs' fz hB
      cases hd
      obtain ⟨_, hv⟩ := hv
      obtain ⟨_, r1, m, Ad, c', he, hn0, hnm, hν, rfl⟩ := hv _ hB
      simp only [Blk.elems, Option.some.injEq, Prod.mk.injEq] at he
      obtain ⟨rfl, rfl⟩ := he
      have hlen : (xs'.drop n.toNat).length = xs'.length - n.toNat := List.length_drop
      obtain ⟨css, h2, h3, h4⟩ := h.bl _ _ hB
      have hc : xs'.length ≤ c' ∧ c' ≤ maxLen := by
        rcases h3.2 with ⟨h5, h6⟩ | ⟨q, cap, cur, h5, _, _, h6, h7, _⟩
        · rw [h5] at hν
          simp only [Value.slice.injEq] at hν
          omega
        · rw [h5] at hν
          simp only [Value.slice.injEq] at hν
          omega
      refine ⟨_, c' - n.toNat, css.drop n.toNat, by rw [hlen], by omega, by omega, h2.drop _, fun hp => ?_⟩
      rw [hlen] at hp
      obtain ⟨q, c, h5, h6, h7⟩ := own_some h3 (by omega)
      rw [h5] at hν
      simp only [Value.slice.injEq] at hν
      have hne : ¬ c' = n.toNat := by omega
      have e0 : (⟨q, 0, none⟩ : Addr).add (n.toNat * Shs.size r) = ⟨q, n.toNat * Shs.size r, none⟩ := by rw [add_eq rfl, Nat.zero_add]
      rw [if_neg hne, ← hν.1, Option.map_some, e0]
      refine ⟨⟨q, n.toNat * Shs.size r, none⟩, rfl, rfl, .inr ⟨s, by simp [CV.rowSites], trivial, by rw [h5]; rfl⟩, fun j u hj => ?_⟩
      rw [add_eq rfl]
      show w.cell? ⟨q, n.toNat * Shs.size r + j, none⟩ = some u
      refine own_cells h3 h6 _ u ?_
      have e1 : css.flatten = (css.take n.toNat).flatten ++ (css.drop n.toNat).flatten := by rw [← List.flatten_append, List.take_append_drop]
      have e2 : (css.take n.toNat).flatten.length = n.toNat * r.size := by
        rw [flat_len (h2.take n.toNat), List.length_take]
        congr 1
        omega
      rw [e1, List.getElem?_append_right (by omega), e2, Nat.add_sub_cancel_left]
      exact hj
    · cases hd
  · cases hd

theorem op_len_str (h : Sim W0 A Gv N U g B ν a w) (x : Operand) (t : TypeId) (ho : o.op = .call { callee := .builtin .len, args := #[x], argTypes := #[t] }) (ht : P.underlying t = some .string) {s : CellD .str}
    (hx : opnd g x = .e (.one (.c .str s))) : Res P W0 A Gv N U g B (int1 .i64 (ByteArray.size s : Nat)) o a w := by
  have hv := rep_str (hx ▸ h.opnd x)
  refine Res.same h _ ?_ (int1_rep _ _) (int1_sites _ _)
  simp [execOp, ho, resolve, invoke, builtin, Builtin.len_, hv, run_underlying ht, goInt]
theorem run_len_sl {t e : TypeId} (ht : P.underlying t = some (.slice e)) (Ad : Option Addr) (n c : Nat) : (Builtin.len_ #[t] o.type #[.slice Ad n c]).run P w = .ok (.int .i64 n) w := by
  simp [Builtin.len_, run_underlying ht, goInt]
theorem op_len_sl (h : Sim W0 A Gv N U g B ν a w) (x : Operand) (t : TypeId) (ho : o.op = .call { callee := .builtin .len, args := #[x], argTypes := #[t] }) {e : TypeId} (ht : P.underlying t = some (.slice e)) {Ad : Option Addr} {n c : Nat}
    (hx : a.eval x = .slice Ad n c) : Res P W0 A Gv N U g B (int1 .i64 (n : Nat)) o a w := by
  refine Res.same h _ ?_ (int1_rep _ _) (int1_sites _ _)
  have := run_len_sl (P := P) (w := w) (o := o) ht Ad n c
  simp [execOp, ho, resolve, invoke, builtin, hx, this]

end
end Go.Pi

/- Each operation does what the executor says: greatest, least, cuts, text, struct literals. -/
set_option linter.unusedVariables false
set_option linter.unusedSimpArgs false
namespace Go.Pi
open Go.RowKit

section
variable {P : Program} {W0 : World} {A Gv : Nat → Prop} {N : Nat} {U : Nat → Prop} {g : Nat → TV} {B : Nat → Option Blk} {ν : Nat → Value} {a : Act} {w : World} {o : Oper}

theorem mapM_ints (h : Sim W0 A Gv N U g B ν a w) : ∀ {l : List Operand} {is : List Int}, l.mapM (fun x => getI (opnd g x)) = some is → ∃ ks : List IntKind, l.map a.eval = List.zipWith Value.int ks is ∧ ks.length = is.length
  | [], is, e => by
    simp at e
    subst e
    exact ⟨[], rfl, rfl⟩
  | x :: l, is, e => by
    simp only [List.mapM_cons, bind, Option.bind_eq_some_iff] at e
    obtain ⟨i, hi, is', his, e⟩ := e
    cases e
    obtain ⟨ks, hk, hl⟩ := mapM_ints h his
    obtain ⟨k, hv⟩ := getI_rep hi (h.opnd x)
    exact ⟨k :: ks, by simp [hv, hk], by simp [hl]⟩

theorem foldlM_max (k : IntKind) : ∀ (ks : List IntKind) (is : List Int) (m : Int), ks.length = is.length → ((List.zipWith Value.int ks is).foldlM Builtin.max2 (.int k m) : Sem Value).run P w = .ok (.int k (is.foldl zmax m)) w
  | [], [], m, _ => by simp
  | k' :: ks, i :: is, m, h => by
    simp only [List.zipWith_cons_cons, List.foldlM_cons, Sem.run_bind, Builtin.max2, Sem.run_pure, Result.andThen_ok, List.foldl_cons]
    exact foldlM_max k ks is (zmax m i) (by simpa using h)
  | [], _ :: _, _, h => by simp at h
  | _ :: _, [], _, h => by simp at h
theorem foldlM_min (k : IntKind) : ∀ (ks : List IntKind) (is : List Int) (m : Int), ks.length = is.length → ((List.zipWith Value.int ks is).foldlM Builtin.min2 (.int k m) : Sem Value).run P w = .ok (.int k (is.foldl zmin m)) w
  | [], [], m, _ => by simp
  | k' :: ks, i :: is, m, h => by
    simp only [List.zipWith_cons_cons, List.foldlM_cons, Sem.run_bind, Builtin.min2, Sem.run_pure, Result.andThen_ok, List.foldl_cons]
    exact foldlM_min k ks is (zmin m i) (by simpa using h)
  | [], _ :: _, _, h => by simp at h
  | _ :: _, [], _, h => by simp at h

theorem op_max (h : Sim W0 A Gv N U g B ν a w) (args : Array Operand) (ts : Array TypeId) (ho : o.op = .call { callee := .builtin .max, args := args, argTypes := ts }) {is : List Int} {k : IntKind} {x : CellD (.int k)} {m : Int}
    (hi : args.toList.mapM (fun x => getI (opnd g x)) = some is) (hk : args.toList.head?.map (opnd g) = some (.e (.one (.c (.int k) x)))) (hm : mxL is = some m) : Res P W0 A Gv N U g B (int1 k m) o a w := by
  obtain ⟨ks, h1, h2⟩ := mapM_ints h hi
  cases hl : args.toList with
  | nil => rw [hl] at hk; cases hk
  | cons y l =>
    rw [hl] at hi hk h1
    simp only [List.head?_cons, Option.map_some, Option.some.injEq] at hk
    have hy := rep_int (hk ▸ h.opnd y)
    cases is with
    | nil => cases hm
    | cons i is =>
      cases ks with
      | nil => simp at h2
      | cons k' ks =>
        simp only [List.map_cons, List.zipWith_cons_cons, List.cons.injEq] at h1
        obtain ⟨e1, e2⟩ := h1
        rw [hy] at e1
        injection e1 with e3 e4
        subst e3
        subst e4
        simp only [mxL, Option.some.injEq] at hm
        subst hm
        refine Res.same h _ ?_ (int1_rep _ _) (int1_sites _ _)
        have hr := foldlM_max (P := P) (w := w) k ks is x (Nat.succ.inj h2)
        have ha : (args.map a.eval).toList = .int k x :: List.zipWith Value.int ks is := by rw [Array.toList_map, hl, List.map_cons, e2, hy]
        simp only [execOp, ho, resolve, invoke, builtin, Sem.run_bind, Sem.run_pure, Result.andThen_ok, Builtin.max_, ha]
        exact (congrArg (fun r => Result.andThen r _) hr).trans rfl

theorem op_min (h : Sim W0 A Gv N U g B ν a w) (args : Array Operand) (ts : Array TypeId) (ho : o.op = .call { callee := .builtin .min, args := args, argTypes := ts }) {is : List Int} {k : IntKind} {x : CellD (.int k)} {m : Int}
    (hi : args.toList.mapM (fun x => getI (opnd g x)) = some is) (hk : args.toList.head?.map (opnd g) = some (.e (.one (.c (.int k) x)))) (hm : mnL is = some m) : Res P W0 A Gv N U g B (int1 k m) o a w := by
  obtain ⟨ks, h1, h2⟩ := mapM_ints h hi
  cases hl : args.toList with
  | nil => rw [hl] at hk; cases hk
  | cons y l =>
    rw [hl] at hi hk h1
    simp only [List.head?_cons, Option.map_some, Option.some.injEq] at hk
    have hy := rep_int (hk ▸ h.opnd y)
    cases is with
    | nil => cases hm
    | cons i is =>
      cases ks with
      | nil => simp at h2
      | cons k' ks =>
        simp only [List.map_cons, List.zipWith_cons_cons, List.cons.injEq] at h1
        obtain ⟨e1, e2⟩ := h1
        rw [hy] at e1
        injection e1 with e3 e4
        subst e3
        subst e4
        simp only [mnL, Option.some.injEq] at hm
        subst hm
        refine Res.same h _ ?_ (int1_rep _ _) (int1_sites _ _)
        have hr := foldlM_min (P := P) (w := w) k ks is x (Nat.succ.inj h2)
        have ha : (args.map a.eval).toList = .int k x :: List.zipWith Value.int ks is := by rw [Array.toList_map, hl, List.map_cons, e2, hy]
        simp only [execOp, ho, resolve, invoke, builtin, Sem.run_bind, Sem.run_pure, Result.andThen_ok, Builtin.min_, ha]
        exact (congrArg (fun r => Result.andThen r _) hr).trans rfl

/-! cuts -/
theorem optI_rep (h : Sim W0 A Gv N U g B ν a w) {x : Option Operand} {i : Option Int} (hi : optI g x = some i) : (x = none ∧ i = none) ∨ ∃ k j, i = some j ∧ x.map a.eval = some (.int k j) := by
  unfold optI at hi
  split at hi
  · cases hi; exact .inl ⟨rfl, rfl⟩
  · rename_i y
    split at hi
    · rename_i j hj
      cases hi
      obtain ⟨k, hv⟩ := getI_rep hj (h.opnd y)
      exact .inr ⟨k, j, rfl, by simp [hv]⟩
    · cases hi

/-- The bounds of a cut, as Go has them: within the length. -/
theorem run_bounds (isSlice : Bool) (len cap : Nat) (hlc : len ≤ cap) {lo hi : Option Int} (hg : cutG lo hi len = true) (vl vh : Option Value)
    (hl : (vl = none ∧ lo = none) ∨ ∃ k j, lo = some j ∧ vl = some (.int k j)) (hh : (vh = none ∧ hi = none) ∨ ∃ k j, hi = some j ∧ vh = some (.int k j)) :
    (Instr.sliceBounds isSlice len cap vl vh none).run P w = .ok ((lo.map Int.toNat).getD 0, (hi.map Int.toNat).getD len, cap) w := by
  have sb : ∀ (k : IntKind) (i : Int) (y : Nat) code, 0 ≤ i → i ≤ (y : Int) → (Instr.sliceBound (.int k i) y code).run P w = .ok i.toNat w := by
    intro k i y code h0 h1
    simp [Instr.sliceBound, asIntOf, h0, h1]
  unfold cutG at hg
  rcases hl with ⟨rfl, rfl⟩ | ⟨k, j, rfl, rfl⟩ <;> rcases hh with ⟨rfl, rfl⟩ | ⟨k', j', rfl, rfl⟩
  · simp [Instr.sliceBounds]
  · simp only [Bool.and_eq_true, decide_eq_true_eq] at hg
    simp [Instr.sliceBounds, sb k' j' cap _ hg.1 (by omega)]
  · simp only [Bool.and_eq_true, decide_eq_true_eq] at hg
    simp [Instr.sliceBounds, sb k j len _ hg.1 hg.2]
  · simp only [Bool.and_eq_true, decide_eq_true_eq] at hg
    obtain ⟨h1, h2, h3⟩ := hg
    have e : ((j'.toNat : Nat) : Int) = j' := by omega
    simp [Instr.sliceBounds, sb k' j' cap _ (by omega) (by omega), sb k j j'.toNat _ h1 (by omega)]

theorem op_slice_str (h : Sim W0 A Gv N U g B ν a w) (t : TypeId) (x : Operand) (lo hi : Option Operand) (ho : o.op = .slice t x lo hi none) (ht : P.underlying t = some .string) {s : CellD .str} (hx : opnd g x = .e (.one (.c .str s)))
    {l r : Option Int} (hl : optI g lo = some l) (hr : optI g hi = some r) (hg : cutG l r (ByteArray.size s) = true) : Res P W0 A Gv N U g B (str1 (cutS l r s)) o a w := by
  have hv := rep_str (hx ▸ h.opnd x)
  refine Res.same h _ ?_ (str1_rep _) (str1_sites _)
  have hb := run_bounds (P := P) (w := w) false (ByteArray.size s) (ByteArray.size s) (Nat.le_refl _) hg (lo.map a.eval) (hi.map a.eval)
    (by rcases optI_rep h hl with ⟨rfl, rfl⟩ | h1; exact .inl ⟨rfl, rfl⟩; exact .inr h1) (by rcases optI_rep h hr with ⟨rfl, rfl⟩ | h1; exact .inl ⟨rfl, rfl⟩; exact .inr h1)
  simp [execOp, ho, hv, Instr.sliceAt, Instr.slice, run_underlying ht, hb, cutS]

theorem run_sliceAt_sl {t e : TypeId} (ht : P.underlying t = some (.slice e)) {n : Nat} (hn : sizeT P e = some n) (Ad : Option Addr) (len cap : Nat) {vl vh : Option Value} {l r m : Nat}
    (hb : (Instr.sliceBounds true len cap vl vh none).run P w = .ok (l, r, m) w) :
    (Instr.sliceAt t (.slice Ad len cap) vl vh none).run P w = .ok (.slice (if m = l then Ad else Ad.map (·.add (l * n))) (r - l) (m - l)) w := by
  have hs := run_size (P := P) (w := w) hn
  simp [Instr.sliceAt, Instr.slice, run_underlying ht, hb, hs]

theorem cutL_len {α : Type} {lo hi : Option Int} {xs : List α} (hg : cutG lo hi xs.length = true) : (cutL lo hi xs).length = (hi.map Int.toNat).getD xs.length - (lo.map Int.toNat).getD 0 := by
  unfold cutG at hg
  unfold cutL
  cases lo <;> cases hi <;> simp only [Bool.and_eq_true, decide_eq_true_eq] at hg <;> simp <;> omega
theorem cutL_bd {lo hi : Option Int} {n : Nat} (hg : cutG lo hi n = true) : (lo.map Int.toNat).getD 0 ≤ (hi.map Int.toNat).getD n ∧ (hi.map Int.toNat).getD n ≤ n := by
  unfold cutG at hg
  cases lo <;> cases hi <;> simp only [Bool.and_eq_true, decide_eq_true_eq] at hg <;> simp <;> omega
theorem cutL_eq {α : Type} {lo hi : Option Int} {xs : List α} (hg : cutG lo hi xs.length = true) : cutL lo hi xs = (xs.take ((hi.map Int.toNat).getD xs.length)).drop ((lo.map Int.toNat).getD 0) := by
  unfold cutL
  cases lo <;> cases hi <;> simp

/-- A cut of what is read. ok1: also what the row's own block is, if it is one. -/
theorem cut_rep {ok : Nat → Prop} {r : Shs} {xs : List (RowD r)} {Ad : Option Addr} {c : Nat} {css : List (List Value)} {lo hi : Option Int} (hg : cutG lo hi xs.length = true) (h1 : xs.length ≤ c) (h2 : c ≤ maxLen)
    (h3 : All2 (fun x cs => RepR w ok r x cs) xs css) (h4 : 0 < xs.length → ∃ ad, Ad = some ad ∧ ok ad.block ∧ ad.spot = none ∧ ∀ j u, css.flatten[j]? = some u → w.cell? (ad.add j) = some u) :
    RepC w ok (.sl r) (cutL lo hi xs) (.slice (if c = (lo.map Int.toNat).getD 0 then Ad else Ad.map (·.add ((lo.map Int.toNat).getD 0 * r.size))) ((hi.map Int.toNat).getD xs.length - (lo.map Int.toNat).getD 0) (c - (lo.map Int.toNat).getD 0)) := by
  have hlen := cutL_len hg
  have hbd := cutL_bd hg
  have heq := cutL_eq hg
  generalize (lo.map Int.toNat).getD 0 = l at *
  generalize (hi.map Int.toNat).getD xs.length = q at *
  refine ⟨_, _, (css.take q).drop l, by rw [hlen], by rw [hlen]; omega, by omega, ?_, fun hp => ?_⟩
  · rw [heq]; exact (h3.take q).drop l
  · have hp' : 0 < (cutL lo hi xs).length := hp
    rw [hlen] at hp'
    obtain ⟨ad, rfl, h5, h6, h7⟩ := h4 (by omega)
    have hne : ¬ c = l := by omega
    rw [if_neg hne]
    refine ⟨ad.add (l * r.size), rfl, by rw [add_eq h6]; exact h5, by rw [add_eq h6], fun j u hj => ?_⟩
    have e1 : css.flatten = ((css.take q).take l).flatten ++ (((css.take q).drop l).flatten ++ (css.drop q).flatten) := by
      rw [← List.append_assoc, ← List.flatten_append, List.take_append_drop, ← List.flatten_append, List.take_append_drop]
    have e2 : ((css.take q).take l).flatten.length = l * r.size := by
      rw [flat_len ((h3.take q).take l), List.length_take, List.length_take]
      congr 1
      omega
    have := h7 (l * r.size + j) u (by
      rw [e1, List.getElem?_append_right (by omega), e2, Nat.add_sub_cancel_left, List.getElem?_append_left (List.getElem?_eq_some_iff.1 hj).1]
      exact hj)
    rw [add_eq h6] at this
    rw [add_eq h6, add_eq rfl]
    simpa [Nat.add_assoc] using this

end
end Go.Pi
