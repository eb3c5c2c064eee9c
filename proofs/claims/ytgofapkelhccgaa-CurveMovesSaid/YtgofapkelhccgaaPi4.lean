/- What it means that a machine's state is as the executor's state says. -/
import Derived.Test.YtgofapkelhccgaaPi3
set_option linter.unusedVariables false
set_option linter.unusedSimpArgs false
namespace Go.Pi
open Go.RowKit

def Blk.elems : Blk → Option (Shs × Nat)
  | .box _ _ => none
  | .row _ r xs _ => some (r, xs.length)
  | .arr _ r _ xs => some (r, xs.length)
def Blk.isRow : Blk → Bool
  | .row _ _ _ _ => true
  | _ => false
def Blk.cells : Blk → List CV
  | .box _ l => l
  | _ => []
def ownB : Value → Option Nat
  | .slice (some a) _ _ => some a.block
  | .pointer (some a) => some a.block
  | _ => none
def baseG : Value → Option Nat
  | .slice (some ⟨g, 0, none⟩) _ _ => some g
  | .pointer (some ⟨g, 0, none⟩) => some g
  | _ => none
theorem ownB_baseG {v : Value} {g : Nat} (h : baseG v = some g) : ownB v = some g := by
  unfold baseG at h
  split at h
  · simpa [ownB] using h
  · simpa [ownB] using h
  · cases h

section
variable (w : World) (ok : Nat → Prop) (ν : Nat → Value) (B : Nat → Option Blk)
def RepCV : CV → Value → Prop
  | .val u, v => v = u ∧ u.oneCell' = true
  | .c s x, v => RepC w ok s x v
  | .own s, v => v.oneCell' = true ∧ ∀ b, B s = some b → b.isRow = true ∧ v = ν s
  | .pre s n, v => v.oneCell' = true ∧ ∀ b, B s = some b → b.isRow = true ∧ ∃ r m A c, b.elems = some (r, m) ∧ 0 ≤ n ∧ n ≤ (m : Int) ∧ ν s = .slice A m c ∧ v = .slice A n.toNat c
  | .ptr s off, v => v.oneCell' = true ∧ ∀ b, B s = some b → b.isRow = false ∧ ∃ g, ν s = .pointer (some ⟨g, 0, none⟩) ∧ v = .pointer (some ⟨g, off, none⟩)
  | .rptr s r i off, v => v.oneCell' = true ∧ ∀ b, B s = some b → ∃ g r' m, baseG (ν s) = some g ∧ b.elems = some (r', m) ∧ 0 ≤ i ∧ i < (m : Int) ∧ v = .pointer (some ⟨g, i.toNat * r.size + off, none⟩)
  | .eptr r xs i off, v => ∃ (ad : Addr) (css : List (List Value)), v = .pointer (some ⟨ad.block, ad.off + (i.toNat * r.size + off), none⟩) ∧ ad.spot = none ∧ ok ad.block ∧
      All2 (fun x cs => RepR w ok r x cs) xs css ∧ (∀ j u, css.flatten[j]? = some u → w.cell? (ad.add j) = some u) ∧ 0 ≤ i ∧ i < (xs.length : Int)
def RepEV : EV → Value → Prop
  | .one x, v => RepCV w ok ν B x v
  | .agg l, v => ∃ vs : List Value, v = .agg vs.toArray ∧ All2 (RepCV w ok ν B) l vs
def RepTV : TV → Value → Prop
  | .dead, _ => True
  | .e x, v => RepEV w ok ν B x v
  | .tup l, v => ∃ vs : List Value, v = .tuple vs.toArray ∧ All2 (RepEV w ok ν B) l vs
end

/-- A block of one of the call's sites. Fresh: which block numbers are the call's own. -/
def RepB (w : World) (ok : Nat → Prop) (fresh : Nat → Prop) (ν : Nat → Value) (B : Nat → Option Blk) (s : Nat) : Blk → Prop
  | .box t cells => ∃ g vs, ν s = .pointer (some ⟨g, 0, none⟩) ∧ fresh g ∧ w.heap[g]? = some (.cells vs.toArray t (0, 0)) ∧ All2 (RepCV w ok ν B) cells vs
  | .row e r xs _ => ∃ css, All2 (fun x cs => RepR w ok r x cs) xs css ∧ w.ownsRow 0 e r.size (ν s) xs.length css.flatten ∧ ∀ g, ownB (ν s) = some g → fresh g
  | .arr t r n xs => ∃ g css, ν s = .pointer (some ⟨g, 0, none⟩) ∧ fresh g ∧ xs.length = n ∧ All2 (fun x cs => RepR w ok r x cs) xs css ∧ w.heap[g]? = some (.cells css.flatten.toArray t (0, 0))

/-- The streams, and all blocks that were there but for those handed over, are as they were. -/
structure Kept (W0 : World) (Gv : Nat → Prop) (w : World) : Prop where
  os : w.os = W0.os
  tape : w.tape = W0.tape
  output : w.output = W0.output
  size : W0.heap.size ≤ w.heap.size
  block : ∀ k, k < W0.heap.size → ¬ Gv k → w.heap[k]? = W0.heap[k]?

def freshS (W0 : World) (Gv : Nat → Prop) (g : Nat) : Prop := W0.heap.size ≤ g ∨ Gv g
def okS (W0 : World) (A Gv : Nat → Prop) (ν : Nat → Value) (B : Nat → Option Blk) (w : World) (g : Nat) : Prop :=
  A g ∨ (freshS W0 Gv g ∧ g < w.heap.size ∧ ∀ s b, B s = some b → b.mut = true → ownB (ν s) ≠ some g)

structure Sim (W0 : World) (A Gv : Nat → Prop) (N : Nat) (U : Nat → Prop) (g : Nat → TV) (B : Nat → Option Blk) (ν : Nat → Value) (a : Act) (w : World) : Prop where
  old : ∀ x, A x → x < W0.heap.size ∧ ¬ Gv x
  kept : Kept W0 Gv w
  defs : a.defers = []
  size : a.tmps.size = N
  tm : ∀ i, RepTV w (okS W0 A Gv ν B w) ν B (g i) (a.tmps.getD i undef)
  us : ∀ i s, s ∈ (g i).sites → U s
  ub : ∀ s b, B s = some b → U s ∧ ∀ x ∈ b.cells, ∀ s' ∈ x.sites, U s'
  bl : ∀ s b, B s = some b → RepB w (okS W0 A Gv ν B w) (freshS W0 Gv) ν B s b
  inj : ∀ s s' b b' x, B s = some b → B s' = some b' → ownB (ν s) = some x → ownB (ν s') = some x → s = s'

/-- The same kind of block, as long. -/
def Blk.alike (b b' : Blk) : Prop := b'.isRow = b.isRow ∧ b'.elems = b.elems

section evolve
variable {w w1 : World} {ok ok1 : Nat → Prop} {ν ν1 : Nat → Value} {B B1 : Nat → Option Blk}

/-- What a cell names goes on, or is gone. -/
def GoesOn (ν ν1 : Nat → Value) (B B1 : Nat → Option Blk) (s : Nat) : Prop :=
  B1 s = none ∨ ∃ b b1, B s = some b ∧ B1 s = some b1 ∧ b.alike b1 ∧ ν1 s = ν s

theorem RepCV.one {x : CV} {v : Value} (h : RepCV w ok ν B x v) : v.oneCell' = true := by
  cases x <;> simp only [RepCV] at h
  case val u => rw [h.1]; exact h.2
  case c s x => exact RepC.one h
  case eptr r xs i off => obtain ⟨ad, css, rfl, _⟩ := h; rfl
  all_goals exact h.1

theorem RepCV.evolve (hm : ∀ x, ok x → w1.heap[x]? = w.heap[x]?) (ho : ∀ x, ok x → ok1 x) {x : CV} {v : Value} (hs : ∀ s ∈ x.sites, GoesOn ν ν1 B B1 s)
    (h : RepCV w ok ν B x v) : RepCV w1 ok1 ν1 B1 x v := by
  have key : ∀ s, s ∈ x.sites → ∀ b1, B1 s = some b1 → ∃ b, B s = some b ∧ b.alike b1 ∧ ν1 s = ν s := by
    intro s hx b1 hb
    rcases hs s hx with hn | ⟨b, b1', h1, h2, h3, h4⟩
    · rw [hn] at hb; cases hb
    · rw [hb] at h2
      cases h2
      exact ⟨b, h1, h3, h4⟩
  cases x <;> simp only [RepCV] at h ⊢
  case val => exact h
  case c s x => exact RepC.move hm ho s x v h
  case own s =>
    refine ⟨h.1, fun b1 hb => ?_⟩
    obtain ⟨b, h1, h2, h3⟩ := key s (by simp [CV.sites]) b1 hb
    rw [h3, h2.1]
    exact h.2 b h1
  case pre s n =>
    refine ⟨h.1, fun b1 hb => ?_⟩
    obtain ⟨b, h1, h2, h3⟩ := key s (by simp [CV.sites]) b1 hb
    rw [h3, h2.1, h2.2]
    exact h.2 b h1
  case ptr s off =>
    refine ⟨h.1, fun b1 hb => ?_⟩
    obtain ⟨b, h1, h2, h3⟩ := key s (by simp [CV.sites]) b1 hb
    rw [h3, h2.1]
    exact h.2 b h1
  case rptr s r i off =>
    refine ⟨h.1, fun b1 hb => ?_⟩
    obtain ⟨b, h1, h2, h3⟩ := key s (by simp [CV.sites]) b1 hb
    rw [h3, h2.2]
    exact h.2 b h1
  case eptr r xs i off =>
    obtain ⟨ad, css, h1, h2, h3, h4, h5, h6⟩ := h
    refine ⟨ad, css, h1, h2, ho _ h3, h4.imp (fun x cs hx => RepR.move hm ho r x cs hx), fun j u hj => ?_, h6⟩
    have hb : (ad.add j).block = ad.block := by unfold Addr.add; split <;> rfl
    rw [World.cell?_of_block (w := w) (by rw [hb]; exact hm _ h3)]
    exact h5 j u hj

theorem RepEV.evolve (hm : ∀ x, ok x → w1.heap[x]? = w.heap[x]?) (ho : ∀ x, ok x → ok1 x) {x : EV} {v : Value} (hs : ∀ s ∈ x.sites, GoesOn ν ν1 B B1 s)
    (h : RepEV w ok ν B x v) : RepEV w1 ok1 ν1 B1 x v := by
  cases x with
  | one x => exact RepCV.evolve hm ho (fun s hx => hs s (by simpa [EV.sites, EV.cells] using hx)) h
  | agg l =>
    obtain ⟨vs, e, h⟩ := h
    refine ⟨vs, e, h.impMem fun x v hx hr => RepCV.evolve hm ho (fun s hsx => hs s ?_) hr⟩
    simp only [EV.sites, EV.cells, List.mem_flatMap]
    exact ⟨x, hx, hsx⟩

theorem RepTV.evolve (hm : ∀ x, ok x → w1.heap[x]? = w.heap[x]?) (ho : ∀ x, ok x → ok1 x) {x : TV} {v : Value} (hs : ∀ s ∈ x.sites, GoesOn ν ν1 B B1 s)
    (h : RepTV w ok ν B x v) : RepTV w1 ok1 ν1 B1 x v := by
  cases x with
  | dead => trivial
  | e x => exact RepEV.evolve hm ho hs h
  | tup l =>
    obtain ⟨vs, e, h⟩ := h
    refine ⟨vs, e, h.impMem fun x v hx hr => RepEV.evolve hm ho (fun s hsx => hs s ?_) hr⟩
    simp only [TV.sites, List.mem_flatMap]
    exact ⟨x, hx, hsx⟩

theorem RepB.evolve (hm : ∀ x, ok x → w1.heap[x]? = w.heap[x]?) (ho : ∀ x, ok x → ok1 x) {fresh : Nat → Prop} {s : Nat} {b : Blk} (hν : ν1 s = ν s)
    (hs : ∀ x ∈ b.cells, ∀ s' ∈ x.sites, GoesOn ν ν1 B B1 s') (hg : ∀ x, ownB (ν s) = some x → w1.heap[x]? = w.heap[x]?)
    (h : RepB w ok fresh ν B s b) : RepB w1 ok1 fresh ν1 B1 s b := by
  cases b with
  | box t cells =>
    obtain ⟨g, vs, h1, h2, h3, h4⟩ := h
    refine ⟨g, vs, by rw [hν, h1], h2, by rw [hg g (by rw [h1]; rfl)]; exact h3, ?_⟩
    exact h4.impMem fun x v hx hr => RepCV.evolve hm ho (hs x hx) hr
  | row e r xs fz =>
    obtain ⟨css, h1, h2, h3⟩ := h
    refine ⟨css, h1.imp (fun x cs hx => RepR.move hm ho r x cs hx), ?_, by rw [hν]; exact h3⟩
    rw [hν]
    refine ⟨h2.1, h2.2.imp id ?_⟩
    rintro ⟨g, cap, cur, hv, hb, hh, hrest⟩
    exact ⟨g, cap, cur, hv, hb, by rw [hg g (by rw [hv]; rfl)]; exact hh, hrest⟩
  | arr t r n xs =>
    obtain ⟨g, css, h1, h2, h3, h4, h5⟩ := h
    exact ⟨g, css, by rw [hν, h1], h2, h3, h4.imp (fun x cs hx => RepR.move hm ho r x cs hx), by rw [hg g (by rw [h1]; rfl)]; exact h5⟩
end evolve

section
variable {W0 : World} {A Gv : Nat → Prop} {N : Nat} {U : Nat → Prop} {g : Nat → TV} {B : Nat → Option Blk} {ν : Nat → Value} {a : Act} {w : World}

theorem RepB.own {ok fresh : Nat → Prop} {s : Nat} {b : Blk} (h : RepB w ok fresh ν B s b) {x : Nat} (hx : ownB (ν s) = some x) : fresh x ∧ x < w.heap.size := by
  cases b with
  | box t cells =>
    obtain ⟨g, vs, h1, h2, h3, h4⟩ := h
    rw [h1] at hx
    simp only [ownB, Option.some.injEq] at hx
    subst hx
    exact ⟨h2, (Array.getElem?_eq_some_iff.1 h3).1⟩
  | row e r xs fz =>
    obtain ⟨css, h1, h2, h3⟩ := h
    refine ⟨h3 x hx, ?_⟩
    rcases h2.2 with ⟨hv, _⟩ | ⟨g, cap, cur, hv, hb, hh, _⟩
    · rw [hv] at hx; cases hx
    · rw [hv] at hx
      simp only [ownB, Option.some.injEq] at hx
      subst hx
      exact (Array.getElem?_eq_some_iff.1 hh).1
  | arr t r n xs =>
    obtain ⟨g, css, h1, h2, h3, h4, h5⟩ := h
    rw [h1] at hx
    simp only [ownB, Option.some.injEq] at hx
    subst hx
    exact ⟨h2, (Array.getElem?_eq_some_iff.1 h5).1⟩

/-- From state to state; Tc: the sites that are touched; U1: the names in use then. -/
theorem Sim.step (h : Sim W0 A Gv N U g B ν a w) {w1 : World} {B1 : Nat → Option Blk} {ν1 : Nat → Value} {U1 : Nat → Prop} (Tc : Nat → Prop)
    (hU : ∀ s, U s → U1 s)
    (hos : w1.os = w.os) (htape : w1.tape = w.tape) (hout : w1.output = w.output) (hsz : w.heap.size ≤ w1.heap.size)
    (hheap : ∀ x, x < w.heap.size → (∀ s b, Tc s → B s = some b → b.mut = true → ownB (ν s) ≠ some x) → w1.heap[x]? = w.heap[x]?)
    (hB : ∀ s, ¬ Tc s → B1 s = B s ∧ (U s → ν1 s = ν s))
    (hT : ∀ s, Tc s → U s → GoesOn ν ν1 B B1 s)
    (hmut : ∀ s b1 x, Tc s → B1 s = some b1 → b1.mut = true → ownB (ν1 s) = some x → x < w.heap.size → ∃ s' b', Tc s' ∧ B s' = some b' ∧ b'.mut = true ∧ ownB (ν s') = some x)
    (hnu : ∀ s b1, Tc s → B1 s = some b1 → U1 s ∧ ∀ x ∈ b1.cells, ∀ s' ∈ x.sites, U1 s')
    (hnew : (∀ x, okS W0 A Gv ν B w x → okS W0 A Gv ν1 B1 w1 x ∧ w1.heap[x]? = w.heap[x]?) → (∀ s, U s → GoesOn ν ν1 B B1 s) → ∀ s b1, Tc s → B1 s = some b1 → RepB w1 (okS W0 A Gv ν1 B1 w1) (freshS W0 Gv) ν1 B1 s b1)
    (hinj : ∀ s s' b b' x, Tc s → B1 s = some b → B1 s' = some b' → ownB (ν1 s) = some x → ownB (ν1 s') = some x → s = s')
    (hmutold : ∀ s b b1, ¬ Tc s → B s = some b → B1 s = some b1 → b1 = b) :
    Sim W0 A Gv N U1 g B1 ν1 a w1 := by
  have hkeep : ∀ x, x < w.heap.size → okS W0 A Gv ν B w x → w1.heap[x]? = w.heap[x]? := by
    intro x hx hok
    refine hheap x hx fun s b _ hb hm hx' => ?_
    rcases hok with ha | ⟨_, _, hne⟩
    · have := (h.bl s b hb).own hx'
      have ho := h.old x ha
      rcases this.1 with h1 | h1
      · omega
      · exact ho.2 h1
    · exact hne s b hb hm hx'
  have hoklt : ∀ x, okS W0 A Gv ν B w x → x < w.heap.size := by
    intro x hok
    rcases hok with ha | ⟨_, h1, _⟩
    · have := h.old x ha; have := h.kept.size; omega
    · exact h1
  have hgo : ∀ s, U s → GoesOn ν ν1 B B1 s := by
    intro s hu
    by_cases ht : Tc s
    · exact hT s ht hu
    · obtain ⟨h1, h2⟩ := hB s ht
      cases hb : B s with
      | none => exact .inl (by rw [h1, hb])
      | some b => exact .inr ⟨b, b, hb, by rw [h1, hb], ⟨rfl, rfl⟩, h2 hu⟩
  have hokmono : ∀ x, okS W0 A Gv ν B w x → okS W0 A Gv ν1 B1 w1 x := by
    intro x hok
    have hlt := hoklt x hok
    rcases hok with ha | ⟨hf, h1, hne⟩
    · exact .inl ha
    · refine .inr ⟨hf, by omega, fun s b hb hm hx => ?_⟩
      by_cases ht : Tc s
      · obtain ⟨s', b', _, hb', hm', hx'⟩ := hmut s b x ht hb hm hx hlt
        exact hne s' b' hb' hm' hx'
      · obtain ⟨e1, e2⟩ := hB s ht
        rw [e1] at hb
        rw [e2 (h.ub s b hb).1] at hx
        exact hne s b hb hm hx
  have hboth : ∀ x, okS W0 A Gv ν B w x → okS W0 A Gv ν1 B1 w1 x ∧ w1.heap[x]? = w.heap[x]? := fun x hok => ⟨hokmono x hok, hkeep x (hoklt x hok) hok⟩
  refine ⟨h.old, ⟨hos.trans h.kept.os, htape.trans h.kept.tape, hout.trans h.kept.output, Nat.le_trans h.kept.size hsz, fun k hk hg => ?_⟩, h.defs, h.size, fun i => ?_, fun i s hs => hU s (h.us i s hs), fun s b hb => ?_, fun s b hb => ?_, ?_⟩
  · rw [hheap k (Nat.lt_of_lt_of_le hk h.kept.size) fun s b _ hb hm hx => ?_]
    · exact h.kept.block k hk hg
    · rcases ((h.bl s b hb).own hx).1 with h1 | h1
      · omega
      · exact hg h1
  · exact (h.tm i).evolve (fun x hok => (hboth x hok).2) hokmono fun s hs => hgo s (h.us i s hs)
  · by_cases ht : Tc s
    · exact hnu s b ht hb
    · rw [(hB s ht).1] at hb
      have := h.ub s b hb
      exact ⟨hU _ this.1, fun x hx s' hs => hU _ (this.2 x hx s' hs)⟩
  · by_cases ht : Tc s
    · exact hnew hboth hgo s b ht hb
    · obtain ⟨e1, e2⟩ := hB s ht
      rw [e1] at hb
      have hu := h.ub s b hb
      refine (h.bl s b hb).evolve (fun x hok => (hboth x hok).2) hokmono (e2 hu.1) (fun x hx s' hs => hgo s' (hu.2 x hx s' hs)) fun x hx => ?_
      refine hheap x ((h.bl s b hb).own hx).2 fun s' b' ht' hb' hm hx' => ?_
      exact ht (h.inj s' s b' b x hb' hb hx' hx ▸ ht')
  · intro s s' b b' x hb hb' hx hx'
    by_cases ht : Tc s
    · exact hinj s s' b b' x ht hb hb' hx hx'
    · by_cases ht' : Tc s'
      · exact (hinj s' s b' b x ht' hb' hb hx' hx).symm
      · obtain ⟨e1, e2⟩ := hB s ht
        obtain ⟨e1', e2'⟩ := hB s' ht'
        rw [e1] at hb
        rw [e1'] at hb'
        rw [e2 (h.ub s b hb).1] at hx
        rw [e2' (h.ub s' b' hb').1] at hx'
        exact h.inj s s' b b' x hb hb' hx hx'

theorem beq_ne {d i : Nat} (h : ¬ d = i) : Nat.beq d i = false := by
  cases hb : Nat.beq d i with
  | false => rfl
  | true => exact absurd (Nat.eq_of_beq_eq_true hb) h

/-- A slot is written. -/
theorem Sim.put (h : Sim W0 A Gv N U g B ν a w) (d : Nat) (hd : d < N) (tv : TV) (v : Value) (hv : RepTV w (okS W0 A Gv ν B w) ν B tv v) (hs : ∀ s ∈ tv.sites, U s) :
    Sim W0 A Gv N U (fun i => cond (Nat.beq d i) tv (g i)) B ν (a.put (some d) v) w := by
  refine ⟨h.old, h.kept, h.defs, by simp [Act.put, h.size], fun i => ?_, fun i s hsi => ?_, h.ub, h.bl, h.inj⟩
  · by_cases hi : d = i
    · subst hi
      have : ((a.put (some d) v).tmps.getD d undef) = v := by simp [Act.put, h.size, hd]
      rw [this, Nat.beq_refl]
      exact hv
    · have : ((a.put (some d) v).tmps.getD i undef) = a.tmps.getD i undef := by simp [Act.put, Array.getElem?_setIfInBounds_ne hi]
      rw [this, beq_ne hi]
      exact h.tm i
  · by_cases hi : d = i
    · subst hi
      rw [Nat.beq_refl] at hsi
      exact hs s hsi
    · rw [beq_ne hi] at hsi
      exact h.us i s hsi

/-- A draw. -/
theorem Sim.drew (h : Sim W0 A Gv N U g B ν a w) (n : Nat) : Sim W0 A Gv N U g B ν a { w with drawn := n } := by
  refine h.step (w1 := { w with drawn := n }) (B1 := B) (ν1 := ν) (fun _ => False) (fun _ h => h) rfl rfl rfl (Nat.le_refl _) (fun _ _ _ => rfl) (fun s _ => ⟨rfl, fun _ => rfl⟩) (fun s h => h.elim) (fun s b1 x h => h.elim) (fun s b1 h => h.elim) (fun _ _ s b1 h => h.elim) (fun s s' b b' x h => h.elim) (fun s b b1 _ h1 h2 => by rw [h1] at h2; exact (Option.some.inj h2).symm)
end

end Go.Pi
