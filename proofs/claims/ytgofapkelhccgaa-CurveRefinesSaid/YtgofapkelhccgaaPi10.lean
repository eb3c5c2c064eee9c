/- Rows that are written no more; cuts of the call's own rows. -/
import Derived.Test.YtgofapkelhccgaaPi9
set_option linter.unusedVariables false
set_option linter.unusedSimpArgs false
namespace Go.Pi
open Go.RowKit

theorem lk_none {α : Type} {l : List (Nat × α)} {s : Nat} (h : ∀ p ∈ l, p.1 ≠ s) : lk l s = none := by
  induction l with
  | nil => rfl
  | cons p l ih =>
    obtain ⟨j, x⟩ := p
    have hj : j ≠ s := h (j, x) (by simp)
    simp only [lk, beq_ne hj, cond]
    exact ih fun q hq => h q (by simp [hq])
theorem lk_cons_eq {α : Type} {l : List (Nat × α)} {s : Nat} {x : α} : lk ((s, x) :: l) s = some x := by simp [lk]
theorem lk_cons_ne {α : Type} {l : List (Nat × α)} {s j : Nat} {x : α} (h : j ≠ s) : lk ((j, x) :: l) s = lk l s := by simp only [lk, beq_ne h, cond]
theorem lk_mem {α : Type} {l : List (Nat × α)} {s : Nat} {x : α} (h : lk l s = some x) : (s, x) ∈ l := by
  induction l with
  | nil => cases h
  | cons p l ih =>
    obtain ⟨j, y⟩ := p
    by_cases hj : j = s
    · subst hj
      rw [lk_cons_eq] at h
      cases h
      simp
    · rw [lk_cons_ne hj] at h
      exact List.mem_cons_of_mem _ (ih h)

/-- What freezing turns. -/
theorem frz_lk (B : Nat → Option Blk) (ss : List Nat) (s : Nat) : updB (frz B ss) B s =
    match B s with
    | some (.row e r xs false) => if s ∈ ss then some (.row e r xs true) else some (.row e r xs false)
    | b => b := by
  unfold updB
  cases hl : lk (frz B ss) s with
  | some b =>
    have := lk_mem hl
    simp only [frz, List.mem_filterMap] at this
    obtain ⟨s', hs', h⟩ := this
    split at h
    · rename_i e r xs hb
      simp only [Option.some.injEq, Prod.mk.injEq] at h
      obtain ⟨rfl, rfl⟩ := h
      simp [hb, hs']
    · cases h
  | none =>
    simp only []
    split
    · rename_i e r xs hb
      split
      · rename_i hs
        exfalso
        have : (s, (some (Blk.row e r xs true))) ∈ frz B ss := by
          simp only [frz, List.mem_filterMap]
          exact ⟨s, hs, by simp [hb]⟩
        clear hb
        generalize frz B ss = l at *
        induction l with
        | nil => cases this
        | cons p l ih =>
          obtain ⟨j, y⟩ := p
          by_cases hj : j = s
          · subst hj
            rw [lk_cons_eq] at hl
            cases hl
          · rw [lk_cons_ne hj] at hl
            rcases List.mem_cons.1 this with h | h
            · simp only [Prod.mk.injEq] at h
              exact hj h.1.symm
            · exact ih hl h
      · rw [hb]
    · rfl

section
variable {P : Program} {W0 : World} {A Gv : Nat → Prop} {N : Nat} {U : Nat → Prop} {g : Nat → TV} {B : Nat → Option Blk} {ν : Nat → Value} {a : Act} {w : World} {o : Oper}

theorem RepB.fz {ok fresh : Nat → Prop} {s : Nat} {e : TypeId} {r : Shs} {xs : List (RowD r)} {fz fz' : Bool} (h : RepB w ok fresh ν B s (.row e r xs fz)) : RepB w ok fresh ν B s (.row e r xs fz') := h

theorem Sim.freeze (h : Sim W0 A Gv N U g B ν a w) (ss : List Nat) : Sim W0 A Gv N U g (updB (frz B ss) B) ν a w ∧
    (∀ x, okS W0 A Gv ν B w x → okS W0 A Gv ν (updB (frz B ss) B) w x) ∧
    (∀ s ∈ ss, ∀ e r xs fz x, B s = some (.row e r xs fz) → ownB (ν s) = some x → okS W0 A Gv ν (updB (frz B ss) B) w x) ∧
    (∀ s, GoesOn ν ν B (updB (frz B ss) B) s) := by
  have hB : ∀ s, updB (frz B ss) B s = B s ∨ ∃ e r xs, B s = some (.row e r xs false) ∧ updB (frz B ss) B s = some (.row e r xs true) := by
    intro s
    rw [frz_lk]
    cases hb : B s with
    | none => exact .inl rfl
    | some b =>
      cases b with
      | box t c => exact .inl rfl
      | arr t r n xs => exact .inl rfl
      | row e r xs fz =>
        cases fz with
        | true => exact .inl rfl
        | false =>
          by_cases hs : s ∈ ss
          · exact .inr ⟨e, r, xs, rfl, by simp [hs]⟩
          · exact .inl (by simp [hs])
  have hgo : ∀ s, GoesOn ν ν B (updB (frz B ss) B) s := by
    intro s
    rcases hB s with h1 | ⟨e, r, xs, h1, h2⟩
    · cases hb : B s with
      | none => exact .inl (h1.trans hb)
      | some b => exact .inr ⟨b, b, hb, h1.trans hb, ⟨rfl, rfl⟩, rfl⟩
    · exact .inr ⟨_, _, h1, h2, ⟨rfl, rfl⟩, rfl⟩
  have hok : ∀ x, okS W0 A Gv ν B w x → okS W0 A Gv ν (updB (frz B ss) B) w x := by
    intro x hx
    rcases hx with hx | ⟨h1, h2, h3⟩
    · exact .inl hx
    · refine .inr ⟨h1, h2, fun s b hb hm => ?_⟩
      rcases hB s with h4 | ⟨e, r, xs, h4, h5⟩
      · exact h3 s b (h4 ▸ hb) hm
      · rw [h5] at hb
        cases hb
        cases hm
  refine ⟨h.step (Tc := fun s => updB (frz B ss) B s ≠ B s) (fun _ h => h) rfl rfl rfl (Nat.le_refl _) (fun _ _ _ => rfl) (fun s hs => ⟨Classical.not_not.1 hs, fun _ => rfl⟩) (fun s _ _ => hgo s) ?_ ?_ ?_ ?_ ?_, hok, ?_, hgo⟩
  · intro s b1 x hs hb1 hm _ _
    rcases hB s with h4 | ⟨e, r, xs, h4, h5⟩
    · exact absurd h4 hs
    · rw [h5] at hb1
      cases hb1
      cases hm
  · intro s b1 hs hb1
    rcases hB s with h4 | ⟨e, r, xs, h4, h5⟩
    · exact absurd h4 hs
    · rw [h5] at hb1
      cases hb1
      exact ⟨(h.ub s _ h4).1, fun x hx => by cases hx⟩
  · intro hboth _ s b1 hs hb1
    rcases hB s with h4 | ⟨e, r, xs, h4, h5⟩
    · exact absurd h4 hs
    · rw [h5] at hb1
      cases hb1
      refine RepB.fz (fz := false) ((h.bl s _ h4).evolve (fun _ _ => rfl) hok rfl (fun x hx => by cases hx) fun _ _ => rfl)
  · intro s s' b b' x hs hb hb' hx hx'
    have g1 : ∃ c, B s = some c := by
      rcases hB s with h4 | ⟨e, r, xs, h4, h5⟩
      · exact absurd h4 hs
      · exact ⟨_, h4⟩
    have g2 : ∃ c, B s' = some c := by
      rcases hB s' with h4 | ⟨e, r, xs, h4, h5⟩
      · exact ⟨b', h4 ▸ hb'⟩
      · exact ⟨_, h4⟩
    obtain ⟨c, hc⟩ := g1
    obtain ⟨c', hc'⟩ := g2
    exact h.inj s s' c c' x hc hc' hx hx'
  · intro s b b1 hs hb hb1
    rw [Classical.not_not.1 hs, hb] at hb1
    exact (Option.some.inj hb1).symm
  · intro s hs e r xs fz x hb hx
    have := (h.bl s _ hb).own hx
    refine .inr ⟨this.1, this.2, fun s' b' hb' hm' hx' => ?_⟩
    have g2 : ∃ c, B s' = some c := by
      rcases hB s' with h4 | ⟨e, r, xs, h4, h5⟩
      · exact ⟨b', h4 ▸ hb'⟩
      · exact ⟨_, h4⟩
    obtain ⟨c', hc'⟩ := g2
    have e1 := h.inj s' s c' _ x hc' hb hx' hx
    subst e1
    rw [frz_lk, hb] at hb'
    cases fz with
    | true => simp only [Option.some.injEq] at hb'; subst hb'; cases hm'
    | false => simp only [hs, if_true, Option.some.injEq] at hb'; subst hb'; cases hm'

theorem op_slice_own (h : Sim W0 A Gv N U g B ν a w) (t : TypeId) (x : Operand) (hi : Option Operand) (ho : o.op = .slice t x none hi none) {e : TypeId} (ht : P.underlying t = some (.slice e)) {n : Nat} (hn : sizeT P e = some n)
    {s : Nat} (hx : opnd g x = .e (.one (.own s))) {e' : TypeId} {r : Shs} {xs : List (RowD r)} {fz : Bool} (hB : B s = some (.row e' r xs fz)) {j : Int} (hj : optI g hi = some (some j)) (h0 : 0 ≤ j) (h1 : j ≤ (xs.length : Int)) :
    Res P W0 A Gv N U g B (one (.pre s j)) o a w := by
  obtain ⟨_, hv⟩ := (hx ▸ h.opnd x : RepTV w (okS W0 A Gv ν B w) ν B (.e (.one (.own s))) (a.eval x))
  obtain ⟨_, hv⟩ := hv _ hB
  obtain ⟨css, h2, h3, h4⟩ := h.bl _ _ hB
  have hval : ∃ Ad c, ν s = .slice Ad xs.length c ∧ xs.length ≤ c := by
    rcases h3.2 with ⟨h5, h6⟩ | ⟨q, cap, cur, h5, _, _, h6, _⟩
    · exact ⟨none, 0, by rw [h5, h6], by omega⟩
    · exact ⟨_, cap, h5, h6⟩
  obtain ⟨Ad, c, hs, hc⟩ := hval
  have hb := run_bounds (P := P) (w := w) true xs.length c hc (lo := none) (hi := some j) (by simp [cutG, h0, h1]) none (hi.map a.eval) (.inl ⟨rfl, rfl⟩) (by
    rcases optI_rep h hj with ⟨_, h5⟩ | h5
    · cases h5
    · exact .inr h5)
  refine Res.same h (.slice Ad j.toNat c) ?_ (⟨rfl, fun b hb' => ?_⟩ : RepCV w (okS W0 A Gv ν B w) ν B (.pre s j) _) fun s' hs' => ?_
  · have := run_sliceAt_sl (P := P) (w := w) ht hn Ad xs.length c hb
    simp only [execOp, ho, hv, hs, Option.map_none, Sem.run_bind, this, Result.andThen_ok, Sem.run_pure, Option.map_some, Option.getD_some, Option.getD_none, Nat.zero_mul, Nat.sub_zero]
    congr 3
    split
    · rfl
    · cases Ad with
      | none => rfl
      | some ad => simp [Addr.add]
  · rw [hB] at hb'
    cases hb'
    exact ⟨rfl, r, xs.length, Ad, c, rfl, h0, h1, hs, rfl⟩
  · have hu := h.opnd_sites x
    rw [hx] at hu
    rw [one_sites] at hs'
    exact hu s' (by simpa [TV.sites, EV.sites, EV.cells, CV.sites] using hs')

theorem op_slice_pre (h : Sim W0 A Gv N U g B ν a w) (t : TypeId) (x : Operand) (hi : Option Operand) (ho : o.op = .slice t x none hi none) {e : TypeId} (ht : P.underlying t = some (.slice e)) {n : Nat} (hn : sizeT P e = some n)
    {s : Nat} {m : Int} (hx : opnd g x = .e (.one (.pre s m))) (hB : (B s).isSome = true) {j : Int} (hj : optI g hi = some (some j)) (h0 : 0 ≤ j) (h1 : j ≤ m) :
    Res P W0 A Gv N U g B (one (.pre s j)) o a w := by
  obtain ⟨_, hv⟩ := (hx ▸ h.opnd x : RepTV w (okS W0 A Gv ν B w) ν B (.e (.one (.pre s m))) (a.eval x))
  simp only [Option.isSome_iff_exists] at hB
  obtain ⟨bk, hB⟩ := hB
  obtain ⟨hrow, r, q, Ad, c, he, hm0, hmq, hs, hv⟩ := hv _ hB
  have hc : q ≤ c := by
    cases bk with
    | box t c => cases hrow
    | arr t r n xs => cases hrow
    | row e' r' xs fz =>
      simp only [Blk.elems, Option.some.injEq, Prod.mk.injEq] at he
      obtain ⟨rfl, rfl⟩ := he
      obtain ⟨css, h2, h3, h4⟩ := h.bl _ _ hB
      rcases h3.2 with ⟨h5, h6⟩ | ⟨q, cap, cur, h5, _, _, h6, _⟩
      · rw [hs] at h5
        simp only [Value.slice.injEq] at h5
        omega
      · rw [hs] at h5
        simp only [Value.slice.injEq] at h5
        omega
  have hb := run_bounds (P := P) (w := w) true m.toNat c (by omega) (lo := none) (hi := some j) (by simp [cutG, h0]; omega) none (hi.map a.eval) (.inl ⟨rfl, rfl⟩) (by
    rcases optI_rep h hj with ⟨_, h5⟩ | h5
    · cases h5
    · exact .inr h5)
  refine Res.same h (.slice Ad j.toNat c) ?_ (⟨rfl, fun b hb' => ?_⟩ : RepCV w (okS W0 A Gv ν B w) ν B (.pre s j) _) fun s' hs' => ?_
  · have := run_sliceAt_sl (P := P) (w := w) ht hn Ad m.toNat c hb
    simp only [execOp, ho, hv, Option.map_none, Sem.run_bind, this, Result.andThen_ok, Sem.run_pure, Option.map_some, Option.getD_some, Option.getD_none, Nat.zero_mul, Nat.sub_zero]
    congr 3
    split
    · rfl
    · cases Ad with
      | none => rfl
      | some ad => simp [Addr.add]
  · rw [hB] at hb'
    cases hb'
    exact ⟨hrow, r, q, Ad, c, he, h0, by omega, hs, rfl⟩
  · have hu := h.opnd_sites x
    rw [hx] at hu
    rw [one_sites] at hs'
    exact hu s' (by simpa [TV.sites, EV.sites, EV.cells, CV.sites] using hs')

theorem op_slice_data (h : Sim W0 A Gv N U g B ν a w) (t : TypeId) (x : Operand) (lo hi : Option Operand) (ho : o.op = .slice t x lo hi none) {e : TypeId} (ht : P.underlying t = some (.slice e)) {r : Shs} (hn : sizeT P e = some r.size)
    {v : CV} (hx : opnd g x = .e (.one v)) {xs : List (RowD r)} (hd : dataOf B v = some ⟨r, xs⟩) {l q : Option Int} (hl : optI g lo = some l) (hq : optI g hi = some q) (hg : cutG l q xs.length = true) :
    Res P W0 A Gv N U g (updB (frz B (CV.rowSites v)) B) (one (.c (.sl r) (cutL l q xs))) o a w := by
  have hv : RepCV w (okS W0 A Gv ν B w) ν B v (a.eval x) := (hx ▸ h.opnd x : RepTV w (okS W0 A Gv ν B w) ν B (.e (.one v)) (a.eval x))
  obtain ⟨Ad, c, css, h1, h2, h3, h4, h5⟩ := dataOf_rep h hv hd
  obtain ⟨hf1, hf2, hf3, hf4⟩ := h.freeze (CV.rowSites v)
  have hb := run_bounds (P := P) (w := w) true xs.length c h2 hg (lo.map a.eval) (hi.map a.eval)
    (by rcases optI_rep h hl with ⟨rfl, rfl⟩ | h1; exact .inl ⟨rfl, rfl⟩; exact .inr h1) (by rcases optI_rep h hq with ⟨rfl, rfl⟩ | h1; exact .inl ⟨rfl, rfl⟩; exact .inr h1)
  have hrep := cut_rep (w := w) (ok := okS W0 A Gv ν (updB (frz B (CV.rowSites v)) B) w) hg h2 h3 (h4.imp fun x cs hx => RepR.move (fun _ _ => rfl) hf2 r x cs hx) (Ad := Ad) (fun hp => by
    obtain ⟨ad, rfl, h6, h7, h8⟩ := h5 hp
    refine ⟨ad, rfl, ?_, h6, h8⟩
    rcases h7 with h7 | ⟨s, hs, _, hs'⟩
    · exact hf2 _ h7
    · have : ∃ e' fz, B s = some (.row e' r xs fz) ∨ ∃ ys, B s = some (.row e' r ys fz) := by
        unfold dataOf at hd
        split at hd
        · cases hs
        · split at hd
          · rename_i e' r' xs' fz hB
            simp only [CV.rowSites, List.mem_singleton] at hs
            subst hs
            cases hd
            exact ⟨e', fz, .inl hB⟩
          · cases hd
        · split at hd
          · rename_i e' r' xs' fz hB
            simp only [CV.rowSites, List.mem_singleton] at hs
            subst hs
            cases hd
            exact ⟨e', fz, .inr ⟨_, hB⟩⟩
          · cases hd
        · cases hd
      obtain ⟨e', fz, hB | ⟨ys, hB⟩⟩ := this
      · exact hf3 s hs _ _ _ _ _ hB hs'
      · exact hf3 s hs _ _ _ _ _ hB hs')
  refine ⟨_, _, w, ν, ?_, .inl rfl, hf1, hrep, fun s hs => by rw [one_sites] at hs; cases hs⟩
  have := run_sliceAt_sl (P := P) (w := w) ht hn Ad xs.length c hb
  simp only [execOp, ho, h1, Option.map_none, Sem.run_bind, this, Result.andThen_ok, Sem.run_pure]

end
end Go.Pi
