/- The executor's data: shapes of cells, typed data, and what it means that memory holds them. -/
import Derived.WalkKit
import Derived.Below
import Derived.Laws.AppendOwn
set_option linter.unusedVariables false
set_option linter.unusedSimpArgs false
namespace Go.Pi
open Go.RowKit

mutual
inductive Sh : Type where
  | int (k : IntKind)
  | bool
  | str
  | sl (r : Shs)
inductive Shs : Type where
  | one (s : Sh)
  | cons (s : Sh) (r : Shs)
end

mutual
def CellD : Sh → Type
  | .int _ => Int
  | .bool => Bool
  | .str => ByteArray
  | .sl r => List (RowD r)
def RowD : Shs → Type
  | .one s => CellD s
  | .cons s r => CellD s × RowD r
end

def Shs.size : Shs → Nat
  | .one _ => 1
  | .cons _ r => r.size + 1

mutual
def Sh.dec : (a b : Sh) → Decidable (a = b)
  | .int k, .int k' => if h : k = k' then .isTrue (by rw [h]) else .isFalse (by intro e; injection e with e; exact h e)
  | .bool, .bool => .isTrue rfl
  | .str, .str => .isTrue rfl
  | .sl r, .sl r' => match Shs.dec r r' with
    | .isTrue h => .isTrue (by rw [h])
    | .isFalse h => .isFalse (by intro e; injection e with e; exact h e)
  | .int _, .bool | .int _, .str | .int _, .sl _ | .bool, .int _ | .bool, .str | .bool, .sl _
  | .str, .int _ | .str, .bool | .str, .sl _ | .sl _, .int _ | .sl _, .bool | .sl _, .str => .isFalse (by intro e; cases e)
def Shs.dec : (a b : Shs) → Decidable (a = b)
  | .one s, .one s' => match Sh.dec s s' with
    | .isTrue h => .isTrue (by rw [h])
    | .isFalse h => .isFalse (by intro e; injection e with e; exact h e)
  | .cons s r, .cons s' r' => match Sh.dec s s', Shs.dec r r' with
    | .isTrue h, .isTrue h' => .isTrue (by rw [h, h'])
    | .isFalse h, _ => .isFalse (by intro e; injection e with e1 e2; exact h e1)
    | _, .isFalse h => .isFalse (by intro e; injection e with e1 e2; exact h e2)
  | .one _, .cons _ _ | .cons _ _, .one _ => .isFalse (by intro e; cases e)
end
instance : DecidableEq Sh := Sh.dec
instance : DecidableEq Shs := Shs.dec

mutual
def Sh.dflt : (s : Sh) → CellD s
  | .int _ => (0 : Int)
  | .bool => false
  | .str => (ByteArray.empty : ByteArray)
  | .sl _ => ([] : List _)
def Shs.dflt : (r : Shs) → RowD r
  | .one s => s.dflt
  | .cons s r => (s.dflt, r.dflt)
end

def All2 {α β : Type} (R : α → β → Prop) : List α → List β → Prop
  | [], [] => True
  | a :: l, b :: m => R a b ∧ All2 R l m
  | _, _ => False

section
variable {α β : Type} {R R' : α → β → Prop}
theorem All2.len : ∀ {l : List α} {m : List β}, All2 R l m → l.length = m.length
  | [], [], _ => rfl
  | _ :: _, _ :: _, h => by simp [All2.len h.2]
  | [], _ :: _, h => h.elim
  | _ :: _, [], h => h.elim
theorem All2.imp (f : ∀ a b, R a b → R' a b) : ∀ {l : List α} {m : List β}, All2 R l m → All2 R' l m
  | [], [], _ => trivial
  | _ :: _, _ :: _, h => ⟨f _ _ h.1, All2.imp f h.2⟩
  | [], _ :: _, h => h.elim
  | _ :: _, [], h => h.elim
theorem All2.impMem : ∀ {l : List α} {m : List β}, (∀ a b, a ∈ l → R a b → R' a b) → All2 R l m → All2 R' l m
  | [], [], _, _ => trivial
  | _ :: _, _ :: _, f, h => ⟨f _ _ (by simp) h.1, All2.impMem (fun a b ha => f a b (by simp [ha])) h.2⟩
  | [], _ :: _, _, h => h.elim
  | _ :: _, [], _, h => h.elim
theorem All2.get : ∀ {l : List α} {m : List β}, All2 R l m → ∀ (j : Nat) a, l[j]? = some a → ∃ b, m[j]? = some b ∧ R a b
  | [], [], _, j, a, h => by simp at h
  | x :: l, y :: m, h, 0, a, e => by simp at e; subst e; exact ⟨y, rfl, h.1⟩
  | x :: l, y :: m, h, j + 1, a, e => by
    simp at e
    obtain ⟨b, hb, hr⟩ := All2.get h.2 j a e
    exact ⟨b, by simpa using hb, hr⟩
  | [], _ :: _, h, _, _, _ => h.elim
  | _ :: _, [], h, _, _, _ => h.elim
theorem All2.append : ∀ {l : List α} {m : List β} {l' m'}, All2 R l m → All2 R l' m' → All2 R (l ++ l') (m ++ m')
  | [], [], _, _, _, h => h
  | _ :: _, _ :: _, _, _, h, h' => ⟨h.1, All2.append h.2 h'⟩
  | [], _ :: _, _, _, h, _ => h.elim
  | _ :: _, [], _, _, h, _ => h.elim
theorem All2.take : ∀ {l : List α} {m : List β} (n : Nat), All2 R l m → All2 R (l.take n) (m.take n)
  | [], [], n, _ => by simp [All2]
  | _ :: _, _ :: _, 0, _ => by simp [All2]
  | _ :: _, _ :: _, n + 1, h => ⟨h.1, All2.take n h.2⟩
  | [], _ :: _, _, h => h.elim
  | _ :: _, [], _, h => h.elim
theorem All2.drop : ∀ {l : List α} {m : List β} (n : Nat), All2 R l m → All2 R (l.drop n) (m.drop n)
  | [], [], n, _ => by simp [All2]
  | _ :: _, _ :: _, 0, h => h
  | _ :: _, _ :: _, n + 1, h => by simpa using All2.drop n h.2
  | [], _ :: _, _, h => h.elim
  | _ :: _, [], _, h => h.elim
theorem All2.set : ∀ {l : List α} {m : List β} (n : Nat) {a b}, All2 R l m → R a b → All2 R (l.set n a) (m.set n b)
  | [], [], n, _, _, _, _ => by simp [All2]
  | _ :: _, _ :: _, 0, _, _, h, hr => ⟨hr, h.2⟩
  | _ :: _, _ :: _, n + 1, _, _, h, hr => ⟨h.1, All2.set n h.2 hr⟩
  | [], _ :: _, _, _, _, h, _ => h.elim
  | _ :: _, [], _, _, _, h, _ => h.elim
theorem All2.replicate (n : Nat) {a b} (h : R a b) : All2 R (List.replicate n a) (List.replicate n b) := by
  induction n with
  | zero => simp [All2]
  | succ n ih => simp only [List.replicate_succ]; exact ⟨h, ih⟩
end

mutual
def RepC (w : World) (ok : Nat → Prop) : (s : Sh) → CellD s → Value → Prop
  | .int k, x, v => v = .int k x
  | .bool, x, v => v = .bool x
  | .str, x, v => v = .string x
  | .sl r, xs, v => ∃ (A : Option Addr) (c : Nat) (css : List (List Value)), v = .slice A (List.length xs) c ∧ List.length xs ≤ c ∧ c ≤ maxLen ∧
      All2 (fun x cs => RepR w ok r x cs) xs css ∧
      (0 < List.length xs → ∃ ad, A = some ad ∧ ok ad.block ∧ ad.spot = none ∧ ∀ j u, css.flatten[j]? = some u → w.cell? (ad.add j) = some u)
def RepR (w : World) (ok : Nat → Prop) : (r : Shs) → RowD r → List Value → Prop
  | .one s, x, cs => ∃ v, cs = [v] ∧ RepC w ok s x v
  | .cons s r, x, cs => ∃ v vs, cs = v :: vs ∧ RepC w ok s x.1 v ∧ RepR w ok r x.2 vs
end

mutual
theorem RepC.move {w w1 : World} {ok ok1 : Nat → Prop} (hm : ∀ g, ok g → w1.heap[g]? = w.heap[g]?) (ho : ∀ g, ok g → ok1 g) :
    ∀ (s : Sh) (x : CellD s) (v : Value), RepC w ok s x v → RepC w1 ok1 s x v
  | .int _, _, _, h => by simpa only [RepC] using h
  | .bool, _, _, h => by simpa only [RepC] using h
  | .str, _, _, h => by simpa only [RepC] using h
  | .sl r, xs, v, h => by
    simp only [RepC] at h ⊢
    obtain ⟨A, c, css, h1, h2, h3, h4, h5⟩ := h
    refine ⟨A, c, css, h1, h2, h3, h4.imp (fun x cs hx => RepR.move hm ho r x cs hx), fun hp => ?_⟩
    obtain ⟨ad, e, hk, hs, hc⟩ := h5 hp
    refine ⟨ad, e, ho _ hk, hs, fun j u hj => ?_⟩
    have hb : (ad.add j).block = ad.block := by unfold Addr.add; split <;> rfl
    rw [World.cell?_of_block (w := w) (by rw [hb]; exact hm _ hk)]
    exact hc j u hj
theorem RepR.move {w w1 : World} {ok ok1 : Nat → Prop} (hm : ∀ g, ok g → w1.heap[g]? = w.heap[g]?) (ho : ∀ g, ok g → ok1 g) :
    ∀ (r : Shs) (x : RowD r) (cs : List Value), RepR w ok r x cs → RepR w1 ok1 r x cs
  | .one s, x, cs, h => by
    simp only [RepR] at h ⊢
    obtain ⟨v, e, hv⟩ := h
    exact ⟨v, e, RepC.move hm ho s x v hv⟩
  | .cons s r, x, cs, h => by
    simp only [RepR] at h ⊢
    obtain ⟨v, vs, e, hv, hr⟩ := h
    exact ⟨v, vs, e, RepC.move hm ho s x.1 v hv, RepR.move hm ho r x.2 vs hr⟩
end

theorem RepC.one {w : World} {ok : Nat → Prop} : ∀ {s : Sh} {x : CellD s} {v : Value}, RepC w ok s x v → v.oneCell' = true
  | .int _, _, _, h => by simp only [RepC] at h; subst h; rfl
  | .bool, _, _, h => by simp only [RepC] at h; subst h; rfl
  | .str, _, _, h => by simp only [RepC] at h; subst h; rfl
  | .sl r, xs, v, h => by simp only [RepC] at h; obtain ⟨A, c, css, rfl, _⟩ := h; rfl

theorem RepR.len {w : World} {ok : Nat → Prop} : ∀ {r : Shs} {x : RowD r} {cs : List Value}, RepR w ok r x cs → cs.length = r.size
  | .one s, x, cs, h => by simp only [RepR] at h; obtain ⟨v, rfl, _⟩ := h; rfl
  | .cons s r, x, cs, h => by
    simp only [RepR] at h
    obtain ⟨v, vs, rfl, _, hr⟩ := h
    simp [Shs.size, RepR.len hr]

theorem RepR.ones {w : World} {ok : Nat → Prop} : ∀ {r : Shs} {x : RowD r} {cs : List Value}, RepR w ok r x cs → ∀ u ∈ cs, u.oneCell' = true
  | .one s, x, cs, h => by simp only [RepR] at h; obtain ⟨v, rfl, hv⟩ := h; simpa using hv.one
  | .cons s r, x, cs, h => by
    simp only [RepR] at h
    obtain ⟨v, vs, rfl, hv, hr⟩ := h
    intro u hu
    rcases List.mem_cons.1 hu with rfl | hu
    · exact hv.one
    · exact RepR.ones hr u hu

theorem Shs.size_pos : ∀ r : Shs, 0 < r.size
  | .one _ => Nat.one_pos
  | .cons _ r => Nat.succ_pos _

theorem flat_len {w : World} {ok : Nat → Prop} {r : Shs} : ∀ {xs : List (RowD r)} {css : List (List Value)}, All2 (fun x cs => RepR w ok r x cs) xs css → css.flatten.length = xs.length * r.size
  | [], [], _ => by simp
  | x :: xs, c :: css, h => by
    simp only [List.flatten_cons, List.length_append, List.length_cons, flat_len h.2, RepR.len h.1, Nat.add_mul]
    omega
  | [], _ :: _, h => h.elim
  | _ :: _, [], h => h.elim

theorem flat_ones {w : World} {ok : Nat → Prop} {r : Shs} {xs : List (RowD r)} {css : List (List Value)} (h : All2 (fun x cs => RepR w ok r x cs) xs css) : ∀ u ∈ css.flatten, u.oneCell' = true := by
  induction xs generalizing css with
  | nil => cases css with
    | nil => intro u hu; simp at hu
    | cons _ _ => exact h.elim
  | cons x xs ih => cases css with
    | nil => exact h.elim
    | cons c css =>
      intro u hu
      rw [List.flatten_cons, List.mem_append] at hu
      rcases hu with hu | hu
      · exact RepR.ones h.1 u hu
      · exact ih h.2 u hu

/-- Element j's cells. -/
theorem flat_at {w : World} {ok : Nat → Prop} {r : Shs} : ∀ {xs : List (RowD r)} {css : List (List Value)}, All2 (fun x cs => RepR w ok r x cs) xs css → ∀ (j : Nat) x, xs[j]? = some x →
    ∃ cs, css[j]? = some cs ∧ RepR w ok r x cs ∧ ∀ i u, cs[i]? = some u → css.flatten[j * r.size + i]? = some u
  | [], [], _, j, x, e => by simp at e
  | y :: xs, c :: css, h, 0, x, e => by
    simp at e; subst e
    refine ⟨c, rfl, h.1, fun i u hu => ?_⟩
    rw [List.flatten_cons, Nat.zero_mul, Nat.zero_add, List.getElem?_append_left (List.getElem?_eq_some_iff.1 hu).1]
    exact hu
  | y :: xs, c :: css, h, j + 1, x, e => by
    simp at e
    obtain ⟨cs, h1, h2, h3⟩ := flat_at h.2 j x e
    refine ⟨cs, by simpa using h1, h2, fun i u hu => ?_⟩
    have := RepR.len h.1
    rw [List.flatten_cons, List.getElem?_append_right (by rw [this, Nat.add_mul]; omega), this, show (j + 1) * r.size + i - r.size = j * r.size + i by rw [Nat.add_mul]; omega]
    exact h3 i u hu
  | [], _ :: _, h, _, _, _ => h.elim
  | _ :: _, [], h, _, _, _ => h.elim

end Go.Pi
