/- New blocks. -/
import Derived.Test.YtgofapkelhccgaaPi11
import Derived.Laws.MakeOwn
import Derived.Laws.NewBlocks
set_option linter.unusedVariables false
set_option linter.unusedSimpArgs false
namespace Go.Pi
open Go.RowKit

def setB (B : Nat → Option Blk) (s : Nat) (b : Option Blk) : Nat → Option Blk := fun i => cond (Nat.beq s i) b (B i)
def setν (ν : Nat → Value) (s : Nat) (u : Value) : Nat → Value := fun i => cond (Nat.beq s i) u (ν i)
theorem updB_cons (s : Nat) (b : Option Blk) (l : List (Nat × Option Blk)) (B : Nat → Option Blk) : updB ((s, b) :: l) B = setB (updB l B) s b := by
  funext i
  by_cases h : s = i
  · subst h; simp [updB, lk, setB]
  · simp only [updB, lk, setB, beq_ne h, cond]
theorem setB_eq (B : Nat → Option Blk) (s : Nat) (b : Option Blk) : setB B s b s = b := by simp [setB]
theorem setB_ne (B : Nat → Option Blk) {s i : Nat} (b : Option Blk) (h : s ≠ i) : setB B s b i = B i := by simp only [setB, beq_ne h, cond]
theorem setν_eq (ν : Nat → Value) (s : Nat) (u : Value) : setν ν s u s = u := by simp [setν]
theorem setν_ne (ν : Nat → Value) {s i : Nat} (u : Value) (h : s ≠ i) : setν ν s u i = ν i := by simp only [setν, beq_ne h, cond]

section
variable {P : Program} {W0 : World} {A Gv : Nat → Prop} {N : Nat} {U : Nat → Prop} {g : Nat → TV} {B : Nat → Option Blk} {ν : Nat → Value} {a : Act} {w : World} {o : Oper}

theorem Sim.new (h : Sim W0 A Gv N U g B ν a w) {s : Nat} (hs : ¬ U s) {w1 : World} (hg : w.grownBy w1 none) (b : Blk) (u : Value) (hb : ∀ x ∈ b.cells, ∀ s' ∈ x.sites, U s') (hown : ∀ x, ownB u = some x → w.heap.size ≤ x)
    (hrep : ∀ (ok1 : Nat → Prop) (ν1 : Nat → Value) (B1 : Nat → Option Blk), (∀ x, okS W0 A Gv ν B w x → ok1 x) → (∀ x, okS W0 A Gv ν B w x → w1.heap[x]? = w.heap[x]?) → (∀ s', U s' → GoesOn ν ν1 B B1 s') → ν1 s = u → RepB w1 ok1 (freshS W0 Gv) ν1 B1 s b) :
    Sim W0 A Gv N (fun i => U i ∨ i = s) g (setB B s (some b)) (setν ν s u) a w1 ∧ (∀ x, okS W0 A Gv ν B w x → okS W0 A Gv (setν ν s u) (setB B s (some b)) w1 x) ∧ (∀ x, okS W0 A Gv ν B w x → w1.heap[x]? = w.heap[x]?) ∧
      (∀ s', U s' → GoesOn ν (setν ν s u) B (setB B s (some b)) s') := by
  have hne : ∀ i, U i → s ≠ i := fun i hi e => hs (e ▸ hi)
  have hBs : B s = none := by
    cases hb' : B s with
    | none => rfl
    | some b' => exact absurd (h.ub s b' hb').1 hs
  have hgo : ∀ s', U s' → GoesOn ν (setν ν s u) B (setB B s (some b)) s' := by
    intro s' hs'
    have hn := hne s' hs'
    cases hb' : B s' with
    | none => exact .inl (by rw [setB_ne _ _ hn, hb'])
    | some b' => exact .inr ⟨b', b', hb', by rw [setB_ne _ _ hn, hb'], ⟨rfl, rfl⟩, setν_ne _ _ hn⟩
  have hlt : ∀ x, okS W0 A Gv ν B w x → x < w.heap.size := by
    intro x hx
    rcases hx with ha | ⟨_, h1, _⟩
    · have := h.old x ha; have := h.kept.size; omega
    · exact h1
  have hheap : ∀ x, x < w.heap.size → w1.heap[x]? = w.heap[x]? := fun x hx => hg.block x hx (by simp)
  have hok : ∀ x, okS W0 A Gv ν B w x → okS W0 A Gv (setν ν s u) (setB B s (some b)) w1 x := by
    intro x hx
    have hl := hlt x hx
    rcases hx with ha | ⟨h1, h2, h3⟩
    · exact .inl ha
    · refine .inr ⟨h1, Nat.lt_of_lt_of_le h2 hg.size, fun s' b' hb' hm hx' => ?_⟩
      by_cases hn : s = s'
      · subst hn
        rw [setν_eq] at hx'
        have := hown x hx'
        omega
      · rw [setB_ne _ _ hn] at hb'
        rw [setν_ne _ _ hn] at hx'
        exact h3 s' b' hb' hm hx'
  refine ⟨?_, hok, fun x hx => hheap x (hlt x hx), hgo⟩
  refine h.step (Tc := fun i => i = s) (fun i hi => .inl hi) hg.os hg.tape hg.output hg.size (fun x hx _ => hheap x hx) (fun i hi => ⟨setB_ne _ _ (Ne.symm hi), fun _ => setν_ne _ _ (Ne.symm hi)⟩) ?_ ?_ ?_ ?_ ?_ ?_
  · rintro i rfl hi
    exact absurd hi hs
  · rintro i b1 x rfl hb1 hm hx hl
    rw [setν_eq] at hx
    have := hown x hx
    omega
  · rintro i b1 rfl hb1
    rw [setB_eq] at hb1
    cases hb1
    exact ⟨.inr rfl, fun x hx s' hs' => .inl (hb x hx s' hs')⟩
  · rintro hboth hgo' i b1 rfl hb1
    rw [setB_eq] at hb1
    cases hb1
    exact hrep _ _ _ (fun x hx => (hboth x hx).1) (fun x hx => (hboth x hx).2) hgo' (setν_eq _ _ _)
  · rintro i i' b1 b2 x rfl hb1 hb2 hx hx'
    by_cases hn : i = i'
    · exact hn
    · exfalso
      rw [setν_eq] at hx
      rw [setB_ne _ _ hn] at hb2
      rw [setν_ne _ _ hn] at hx'
      have h1 := hown x hx
      have h2 := ((h.bl i' b2 hb2).own hx').2
      omega
  · intro i b1 b2 hi h1 h2
    rw [setB_ne _ _ (Ne.symm hi), h1] at h2
    exact (Option.some.inj h2).symm

/-- A new variable. -/
theorem new_box (h : Sim W0 A Gv N U g B ν a w) {s : Nat} (hs : ¬ U s) (t : TypeId) {cells : List CV} {vs : List Value} (hc : All2 (RepCV w (okS W0 A Gv ν B w) ν B) cells vs) (hu : ∀ x ∈ cells, ∀ s' ∈ x.sites, U s') :
    ∃ ν1, Sim W0 A Gv N (fun i => U i ∨ i = s) g (setB B s (some (.box t cells))) ν1 a (w.alloc (.cells vs.toArray t)) ∧
      RepTV (w.alloc (.cells vs.toArray t)) (okS W0 A Gv ν1 (setB B s (some (.box t cells))) (w.alloc (.cells vs.toArray t))) ν1 (setB B s (some (.box t cells))) (one (.ptr s 0)) (.pointer (some ⟨w.heap.size, 0, none⟩)) := by
  have hn := h.new hs (World.grownBy_alloc w (.cells vs.toArray t) none) (.box t cells) (.pointer (some ⟨w.heap.size, 0, none⟩)) hu (fun x hx => by simp [ownB] at hx; omega) (fun ok1 ν1 B1 h1 h2 h3 h4 => by
    refine ⟨w.heap.size, vs, h4, .inl h.kept.size, heap_alloc_new w _, hc.impMem fun x v hx hr => ?_⟩
    exact hr.evolve h2 h1 (fun s' hs' => h3 s' (hu x hx s' hs')))
  refine ⟨_, hn.1, ⟨rfl, fun b hb => ?_⟩⟩
  rw [setB_eq] at hb
  cases hb
  exact ⟨rfl, w.heap.size, setν_eq _ _ _, rfl⟩

theorem op_box (h : Sim W0 A Gv N U g B ν a w) (t : TypeId) (x : Operand) (ho : o.op = .box t x) {v : EV} (hx : opnd g x = .e v) {s : Nat} (hs : ¬ U s) :
    Res P W0 A Gv N (fun i => U i ∨ i = s) g (setB B s (some (.box t v.cells))) (one (.ptr s 0)) o a w := by
  have hv := (hx ▸ h.opnd x : RepTV w (okS W0 A Gv ν B w) ν B (.e v) (a.eval x))
  have hu := h.opnd_sites x
  rw [hx] at hu
  obtain ⟨ν1, h1, h2⟩ := new_box h hs t (EV_cells hv) (fun c hc s' hs' => hu s' (by simp only [TV.sites, EV.sites, List.mem_flatMap]; exact ⟨c, hc, hs'⟩))
  refine ⟨_, _, _, ν1, ?_, .inl rfl, h1, h2, fun s' hs' => ?_⟩
  · simp [execOp, ho, Instr.box, newVar, newRow, newObj]
    rfl
  · rw [one_sites] at hs'
    simp only [CV.sites, List.mem_singleton] at hs'
    exact .inr hs'

theorem op_alloc_box (h : Sim W0 A Gv N U g B ν a w) (t : TypeId) (ho : o.op = .alloc t) {z : List Value} (hz : zeroT P t = some z) (h1 : z.all (·.oneCell') = true) {s : Nat} (hs : ¬ U s) :
    Res P W0 A Gv N (fun i => U i ∨ i = s) g (setB B s (some (.box t (z.map ofCell)))) (one (.ptr s 0)) o a w := by
  obtain ⟨i, v, hi, hv, hvc, hrun⟩ := zero_eq (w := w) hz
  obtain ⟨ν1, h2, h3⟩ := new_box h hs t (ofCells_rep (w := w) h1) (fun c hc s' hs' => by
    simp only [List.mem_map] at hc
    obtain ⟨u, _, rfl⟩ := hc
    rw [ofCell_sites] at hs'
    cases hs')
  refine ⟨_, _, _, ν1, ?_, .inl rfl, h2, h3, fun s' hs' => ?_⟩
  · have e : v.cells = z.toArray := by rw [← hvc]
    simp [execOp, ho, Instr.alloc, hrun, newVar, newRow, newObj, e]
    rfl
  · rw [one_sites] at hs'
    simp only [CV.sites, List.mem_singleton] at hs'
    exact .inr hs'

/-! rows -/
theorem zeroOne_rep {ok : Nat → Prop} {s : Sh} {v : Value} (h : zeroIs.one s v = true) : RepC w ok s s.dflt v := by
  cases s <;> cases v <;> simp [zeroIs.one] at h
  · obtain ⟨rfl, rfl⟩ := h; simp [RepC, Sh.dflt]
  · subst h; simp [RepC, Sh.dflt]
  · rename_i s
    have : s = ByteArray.empty := by
      obtain ⟨d⟩ := s
      simp only at h
      subst h
      rfl
    subst this
    simp [RepC, Sh.dflt]
  · rename_i r ad len cap
    cases ad with
    | some _ => simp [zeroIs.one] at h
    | none =>
      cases len with
      | succ _ => simp [zeroIs.one] at h
      | zero =>
        cases cap with
        | succ _ => simp [zeroIs.one] at h
        | zero => exact ⟨none, 0, [], rfl, Nat.le_refl _, Nat.zero_le _, trivial, fun hp => by simp [Sh.dflt] at hp⟩

theorem zeroIs_rep {ok : Nat → Prop} : ∀ {r : Shs} {z : List Value}, zeroIs r z = true → RepR w ok r r.dflt z
  | .one s, [v], h => by
    simp only [zeroIs] at h
    refine ⟨v, rfl, ?_⟩
    exact zeroOne_rep h
  | .cons s r, v :: l, h => by
    simp only [zeroIs, Bool.and_eq_true] at h
    exact ⟨v, l, rfl, zeroOne_rep h.1, zeroIs_rep h.2⟩
  | .one s, [], h => by simp [zeroIs] at h
  | .one s, _ :: _ :: _, h => by simp [zeroIs] at h
  | .cons s r, [], h => by simp [zeroIs] at h
/-- A new row. -/
theorem new_row (h : Sim W0 A Gv N U g B ν a w) {s : Nat} (hs : ¬ U s) (e : TypeId) {r : Shs} {xs : List (RowD r)} {css : List (List Value)} {w1 : World} {u : Value} (hg : w.grownBy w1 none)
    (hc : All2 (fun x cs => RepR w (okS W0 A Gv ν B w) r x cs) xs css) (hown : w1.ownsRow 0 e r.size u xs.length css.flatten) (hfresh : ∀ x, ownB u = some x → w.heap.size ≤ x) :
    ∃ ν1, Sim W0 A Gv N (fun i => U i ∨ i = s) g (setB B s (some (.row e r xs false))) ν1 a w1 ∧
      RepTV w1 (okS W0 A Gv ν1 (setB B s (some (.row e r xs false))) w1) ν1 (setB B s (some (.row e r xs false))) (one (.own s)) u := by
  have hn := h.new hs hg (.row e r xs false) u (fun x hx => by cases hx) hfresh (fun ok1 ν1 B1 h1 h2 h3 h4 => by
    refine ⟨css, hc.imp fun x cs hx => RepR.move h2 h1 r x cs hx, by rw [h4]; exact hown, fun x hx => ?_⟩
    rw [h4] at hx
    exact .inl (Nat.le_trans h.kept.size (hfresh x hx)))
  refine ⟨_, hn.1, ⟨?_, fun b hb => ?_⟩⟩
  · rcases hown.2 with ⟨rfl, _⟩ | ⟨q, cap, cur, rfl, _⟩ <;> rfl
  · rw [setB_eq] at hb
    cases hb
    exact ⟨rfl, (setν_eq _ _ _).symm⟩

end
end Go.Pi
