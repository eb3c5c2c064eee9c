/- Merged from small texts. -/
import Derived.Laws.MakeOwn
import Derived.Laws.NewBlocks
import Derived.Laws.Tables
import Derived.Maps.AppendAt
import Derived.Test.YtbaceloeihkmkaaGreatDoorQQ1
/- Rows that are written no more; cuts of the call's own rows. -/
set_option linter.unusedVariables false
set_option linter.unusedSimpArgs false
namespace Go.Pi
open Go.RowKit

theorem lk_none {α : Type} {l : List (Nat × α)} {s : Nat} (h : ∀ p ∈ l, p.1 ≠ s) : lk l s = none := by
  induction l with
  | nil => rfl
  | cons p l ih =>
    obtain ⟨j, x⟩ := p
    have hj : j ≠ s := h (j, x) (by simp)
    simp only [lk, beq_ne hj, cond]
    exact ih fun q hq => h q (by simp [hq])
theorem lk_cons_eq {α : Type} {l : List (Nat × α)} {s : Nat} {x : α} : lk ((s, x) :: l) s = some x := by simp [lk]
theorem lk_cons_ne {α : Type} {l : List (Nat × α)} {s j : Nat} {x : α} (h : j ≠ s) : lk ((j, x) :: l) s = lk l s := by simp only [lk, beq_ne h, cond]
theorem lk_mem {α : Type} {l : List (Nat × α)} {s : Nat} {x : α} (h : lk l s = some x) : (s, x) ∈ l := by
  induction l with
  | nil => cases h
  | cons p l ih =>
    obtain ⟨j, y⟩ := p
    by_cases hj : j = s
    · subst hj
      rw [lk_cons_eq] at h
      cases h
      simp
    · rw [lk_cons_ne hj] at h
      exact List.mem_cons_of_mem _ (ih h)

/-- What freezing turns. -/
theorem frz_lk (B : Nat → Option Blk) (ss : List Nat) (s : Nat) : updB (frz B ss) B s =
    match B s with
    | some (.row e r xs false) => if s ∈ ss then some (.row e r xs true) else some (.row e r xs false)
    | b => b := by
  unfold updB
  cases hl : lk (frz B ss) s with
  | some b =>
    have := lk_mem hl
    simp only [frz, List.mem_filterMap] at this
    obtain ⟨s', hs', h⟩ := this
    split at h
    · rename_i e r xs hb
      simp only [Option.some.injEq, Prod.mk.injEq] at h
      obtain ⟨rfl, rfl⟩ := h
      simp [hb, hs']
    · cases h
  | none =>
    simp only []
    split
    · rename_i e r xs hb
      split
      · rename_i hs
        exfalso
        have : (s, (some (Blk.row e r xs true))) ∈ frz B ss := by
          simp only [frz, List.mem_filterMap]
          exact ⟨s, hs, by simp [hb]⟩
        clear hb
        generalize frz B ss = l at *
        induction l with
        | nil => cases this
        | cons p l ih =>
          obtain ⟨j, y⟩ := p
          by_cases hj : j = s
          · subst hj
            rw [lk_cons_eq] at hl
            cases hl
          · rw [lk_cons_ne hj] at hl
            rcases List.mem_cons.1 this with h | h
            · simp only [Prod.mk.injEq] at h
              exact hj h.1.symm
            · exact ih hl h
      · rw [hb]
    · rfl

section
variable {P : Program} {W0 : World} {A Gv : Nat → Prop} {N : Nat} {U : Nat → Prop} {g : Nat → TV} {B : Nat → Option Blk} {ν : Nat → Value} {a : Act} {w : World} {o : Oper}

theorem RepB.fz {ok fresh : Nat → Prop} {s : Nat} {e : TypeId} {r : Shs} {xs : List (RowD r)} {fz fz' : Bool} (h : RepB w ok fresh ν B s (.row e r xs fz)) : RepB w ok fresh ν B s (.row e r xs fz') := h

theorem Sim.freeze (h : Sim W0 A Gv N U g B ν a w) (ss : List Nat) : Sim W0 A Gv N U g (updB (frz B ss) B) ν a w ∧
    (∀ x, okS W0 A Gv ν B w x → okS W0 A Gv ν (updB (frz B ss) B) w x) ∧
    (∀ s ∈ ss, ∀ e r xs fz x, B s = some (.row e r xs fz) → ownB (ν s) = some x → okS W0 A Gv ν (updB (frz B ss) B) w x) ∧
    (∀ s, GoesOn ν ν B (updB (frz B ss) B) s) := by
  have hB : ∀ s, updB (frz B ss) B s = B s ∨ ∃ e r xs, B s = some (.row e r xs false) ∧ updB (frz B ss) B s = some (.row e r xs true) := by
    intro s
    rw [frz_lk]
    cases hb : B s with
    | none => exact .inl rfl
    | some b =>
      cases b with
      | box t c => exact .inl rfl
      | arr t r n xs => exact .inl rfl
      | row e r xs fz =>
        cases fz with
        | true => exact .inl rfl
        | false =>
          by_cases hs : s ∈ ss
          · exact .inr ⟨e, r, xs, rfl, by simp [hs]⟩
          · exact .inl (by simp [hs])
  have hgo : ∀ s, GoesOn ν ν B (updB (frz B ss) B) s := by
    intro s
    rcases hB s with h1 | ⟨e, r, xs, h1, h2⟩
    · cases hb : B s with
      | none => exact .inl (h1.trans hb)
      | some b => exact .inr ⟨b, b, hb, h1.trans hb, ⟨rfl, rfl⟩, rfl⟩
    · exact .inr ⟨_, _, h1, h2, ⟨rfl, rfl⟩, rfl⟩
  have hok : ∀ x, okS W0 A Gv ν B w x → okS W0 A Gv ν (updB (frz B ss) B) w x := by
    intro x hx
    rcases hx with hx | ⟨h1, h2, h3⟩
    · exact .inl hx
    · refine .inr ⟨h1, h2, fun s b hb hm => ?_⟩
      rcases hB s with h4 | ⟨e, r, xs, h4, h5⟩
      · exact h3 s b (h4 ▸ hb) hm
      · rw [h5] at hb
        cases hb
        cases hm
  refine ⟨h.step (Tc := fun s => updB (frz B ss) B s ≠ B s) (fun _ h => h) rfl rfl rfl (Nat.le_refl _) (fun _ _ _ => rfl) (fun s hs => ⟨Classical.not_not.1 hs, fun _ => rfl⟩) (fun s _ _ => hgo s) ?_ ?_ ?_ ?_ ?_, hok, ?_, hgo⟩
  · intro s b1 x hs hb1 hm _ _
    rcases hB s with h4 | ⟨e, r, xs, h4, h5⟩
    · exact absurd h4 hs
    · rw [h5] at hb1
      cases hb1
      cases hm
  · intro s b1 hs hb1
    rcases hB s with h4 | ⟨e, r, xs, h4, h5⟩
    · exact absurd h4 hs
    · rw [h5] at hb1
      cases hb1
      exact ⟨(h.ub s _ h4).1, fun x hx => by cases hx⟩
  · intro hboth _ s b1 hs hb1
    rcases hB s with h4 | ⟨e, r, xs, h4, h5⟩
    · exact absurd h4 hs
    · rw [h5] at hb1
      cases hb1
      refine RepB.fz (fz := false) ((h.bl s _ h4).evolve (fun _ _ => rfl) hok rfl (fun x hx => by cases hx) fun _ _ => rfl)
  · intro s s' b b' x hs hb hb' hx hx'
    have g1 : ∃ c, B s = some c := by
      rcases hB s with h4 | ⟨e, r, xs, h4, h5⟩
      · exact absurd h4 hs
      · exact ⟨_, h4⟩
    have g2 : ∃ c, B s' = some c := by
      rcases hB s' with h4 | ⟨e, r, xs, h4, h5⟩
      · exact ⟨b', h4 ▸ hb'⟩
      · exact ⟨_, h4⟩
    obtain ⟨c, hc⟩ := g1
    obtain ⟨c', hc'⟩ := g2
    exact h.inj s s' c c' x hc hc' hx hx'
  · intro s b b1 hs hb hb1
    rw [Classical.not_not.1 hs, hb] at hb1
    exact (Option.some.inj hb1).symm
  · intro s hs e r xs fz x hb hx
    have := (h.bl s _ hb).own hx
    refine .inr ⟨this.1, this.2, fun s' b' hb' hm' hx' => ?_⟩
    have g2 : ∃ c, B s' = some c := by
      rcases hB s' with h4 | ⟨e, r, xs, h4, h5⟩
      · exact ⟨b', h4 ▸ hb'⟩
      · exact ⟨_, h4⟩
    obtain ⟨c', hc'⟩ := g2
    have e1 := h.inj s' s c' _ x hc' hb hx' hx
    subst e1
    rw [frz_lk, hb] at hb'
    cases fz with
    | true => simp only [Option.some.injEq] at hb'; subst hb'; cases hm'
    | false => simp only [hs, if_true, Option.some.injEq] at hb'; subst hb'; cases hm'

theorem op_slice_own (h : Sim W0 A Gv N U g B ν a w) (t : TypeId) (x : Operand) (hi : Option Operand) (ho : o.op = .slice t x none hi none) {e : TypeId} (ht : P.underlying t = some (.slice e)) {n : Nat} (hn : sizeT P e = some n)
    {s : Nat} (hx : opnd g x = .e (.one (.own s))) {e' : TypeId} {r : Shs} {xs : List (RowD r)} {fz : Bool} (hB : B s = some (.row e' r xs fz)) {j : Int} (hj : optI g hi = some (some j)) (h0 : 0 ≤ j) (h1 : j ≤ (xs.length : Int)) :
    Res P W0 A Gv N U g B (one (.pre s j)) o a w := by
  obtain ⟨_, hv⟩ := (hx ▸ h.opnd x : RepTV w (okS W0 A Gv ν B w) ν B (.e (.one (.own s))) (a.eval x))
  obtain ⟨_, hv⟩ := hv _ hB
  obtain ⟨css, h2, h3, h4⟩ := h.bl _ _ hB
  have hval : ∃ Ad c, ν s = .slice Ad xs.length c ∧ xs.length ≤ c := by
    rcases h3.2 with ⟨h5, h6⟩ | ⟨q, cap, cur, h5, _, _, h6, _⟩
    · exact ⟨none, 0, by rw [h5, h6], by omega⟩
    · exact ⟨_, cap, h5, h6⟩
  obtain ⟨Ad, c, hs, hc⟩ := hval
  have hb := run_bounds (P := P) (w := w) true xs.length c hc (lo := none) (hi := some j) (by simp [cutG, h0, h1]) none (hi.map a.eval) (.inl ⟨rfl, rfl⟩) (by
    rcases optI_rep h hj with ⟨_, h5⟩ | h5
    · cases h5
    · exact .inr h5)
  refine Res.same h (.slice Ad j.toNat c) ?_ (⟨rfl, fun b hb' => ?_⟩ : RepCV w (okS W0 A Gv ν B w) ν B (.pre s j) _) fun s' hs' => ?_
  · have := run_sliceAt_sl (P := P) (w := w) ht hn Ad xs.length c hb
    simp only [execOp, ho, hv, hs, Option.map_none, Sem.run_bind, this, Result.andThen_ok, Sem.run_pure, Option.map_some, Option.getD_some, Option.getD_none, Nat.zero_mul, Nat.sub_zero]
    congr 3
    split
    · rfl
    · cases Ad with
      | none => rfl
      | some ad => simp [Addr.add]
  · rw [hB] at hb'
    cases hb'
    exact ⟨rfl, r, xs.length, Ad, c, rfl, h0, h1, hs, rfl⟩
  · have hu := h.opnd_sites x
    rw [hx] at hu
    rw [one_sites] at hs'
    exact hu s' (by simpa [TV.sites, EV.sites, EV.cells, CV.sites] using hs')

theorem op_slice_pre (h : Sim W0 A Gv N U g B ν a w) (t : TypeId) (x : Operand) (hi : Option Operand) (ho : o.op = .slice t x none hi none) {e : TypeId} (ht : P.underlying t = some (.slice e)) {n : Nat} (hn : sizeT P e = some n)
    {s : Nat} {m : Int} (hx : opnd g x = .e (.one (.pre s m))) (hB : (B s).isSome = true) {j : Int} (hj : optI g hi = some (some j)) (h0 : 0 ≤ j) (h1 : j ≤ m) :
    Res P W0 A Gv N U g B (one (.pre s j)) o a w := by
  obtain ⟨_, hv⟩ := (hx ▸ h.opnd x : RepTV w (okS W0 A Gv ν B w) ν B (.e (.one (.pre s m))) (a.eval x))
  simp only [Option.isSome_iff_exists] at hB
  obtain ⟨bk, hB⟩ := hB
  obtain ⟨hrow, r, q, Ad, c, he, hm0, hmq, hs, hv⟩ := hv _ hB
  have hc : q ≤ c := by
    cases bk with
    | box t c => cases hrow
    | arr t r n xs => cases hrow
    | row e' r' xs fz =>
      simp only [Blk.elems, Option.some.injEq, Prod.mk.injEq] at he
      obtain ⟨rfl, rfl⟩ := he
      obtain ⟨css, h2, h3, h4⟩ := h.bl _ _ hB
      rcases h3.2 with ⟨h5, h6⟩ | ⟨q, cap, cur, h5, _, _, h6, _⟩
      · rw [hs] at h5
        simp only [Value.slice.injEq] at h5
        omega
      · rw [hs] at h5
        simp only [Value.slice.injEq] at h5
        omega
  have hb := run_bounds (P := P) (w := w) true m.toNat c (by omega) (lo := none) (hi := some j) (by simp [cutG, h0]; omega) none (hi.map a.eval) (.inl ⟨rfl, rfl⟩) (by
    rcases optI_rep h hj with ⟨_, h5⟩ | h5
    · cases h5
    · exact .inr h5)
  refine Res.same h (.slice Ad j.toNat c) ?_ (⟨rfl, fun b hb' => ?_⟩ : RepCV w (okS W0 A Gv ν B w) ν B (.pre s j) _) fun s' hs' => ?_
  · have := run_sliceAt_sl (P := P) (w := w) ht hn Ad m.toNat c hb
    simp only [execOp, ho, hv, Option.map_none, Sem.run_bind, this, Result.andThen_ok, Sem.run_pure, Option.map_some, Option.getD_some, Option.getD_none, Nat.zero_mul, Nat.sub_zero]
    congr 3
    split
    · rfl
    · cases Ad with
      | none => rfl
      | some ad => simp [Addr.add]
  · rw [hB] at hb'
    cases hb'
    exact ⟨hrow, r, q, Ad, c, he, h0, by omega, hs, rfl⟩
  · have hu := h.opnd_sites x
    rw [hx] at hu
    rw [one_sites] at hs'
    exact hu s' (by simpa [TV.sites, EV.sites, EV.cells, CV.sites] using hs')

theorem op_slice_suf (h : Sim W0 A Gv N U g B ν a w) (t : TypeId) (x : Operand) (lo : Option Operand) (ho : o.op = .slice t x lo none none) {e : TypeId} (ht : P.underlying t = some (.slice e)) {s : Nat} (hx : opnd g x = .e (.one (.own s)))
    {e' : TypeId} {r : Shs} {xs : List (RowD r)} {fz : Bool} (hB : B s = some (.row e' r xs fz)) (hn : sizeT P e = some r.size) {j : Int} (hj : optI g lo = some (some j)) (h0 : 0 ≤ j) (h1 : j ≤ (xs.length : Int)) :
    Res P W0 A Gv N U g B (one (.suf s j)) o a w := by
  obtain ⟨_, hv⟩ := (hx ▸ h.opnd x : RepTV w (okS W0 A Gv ν B w) ν B (.e (.one (.own s))) (a.eval x))
  obtain ⟨_, hv⟩ := hv _ hB
  obtain ⟨css, h2, h3, h4⟩ := h.bl _ _ hB
  have hval : ∃ Ad c, ν s = .slice Ad xs.length c ∧ xs.length ≤ c := by
    rcases h3.2 with ⟨h5, h6⟩ | ⟨q, cap, cur, h5, _, _, h6, _⟩
    · exact ⟨none, 0, by rw [h5, h6], by omega⟩
    · exact ⟨_, cap, h5, h6⟩
  obtain ⟨Ad, c, hs, hc⟩ := hval
  have hb := run_bounds (P := P) (w := w) true xs.length c hc (lo := some j) (hi := none) (by simp [cutG, h0, h1]) (lo.map a.eval) none (by
    rcases optI_rep h hj with ⟨_, h5⟩ | h5
    · cases h5
    · exact .inr h5) (.inl ⟨rfl, rfl⟩)
  have := run_sliceAt_sl (P := P) (w := w) ht hn Ad xs.length c hb
  simp only [Option.map_some, Option.getD_some, Option.map_none, Option.getD_none] at this
  refine Res.same h (.slice (if c = j.toNat then Ad else Ad.map (·.add (j.toNat * r.size))) (xs.length - j.toNat) (c - j.toNat)) ?_ (⟨rfl, fun b hb' => ?_⟩ : RepCV w (okS W0 A Gv ν B w) ν B (.suf s j) _) fun s' hs' => ?_
  · simp only [execOp, ho, hv, hs, Option.map_none, Sem.run_bind, this, Result.andThen_ok, Sem.run_pure]
  · rw [hB] at hb'
    cases hb'
    exact ⟨rfl, r, xs.length, Ad, c, rfl, h0, h1, hs, rfl⟩
  · have hu := h.opnd_sites x
    rw [hx] at hu
    rw [one_sites] at hs'
    exact hu s' (by simpa [TV.sites, EV.sites, EV.cells, CV.sites] using hs')

theorem op_slice_data (h : Sim W0 A Gv N U g B ν a w) (t : TypeId) (x : Operand) (lo hi : Option Operand) (ho : o.op = .slice t x lo hi none) {e : TypeId} (ht : P.underlying t = some (.slice e)) {r : Shs} (hn : sizeT P e = some r.size)
    {v : CV} (hx : opnd g x = .e (.one v)) {xs : List (RowD r)} (hd : dataOf B v = some ⟨r, xs⟩) {l q : Option Int} (hl : optI g lo = some l) (hq : optI g hi = some q) (hg : cutG l q xs.length = true) :
    Res P W0 A Gv N U g (updB (frz B (CV.rowSites v)) B) (one (.c (.sl r) (cutL l q xs))) o a w := by
  have hv : RepCV w (okS W0 A Gv ν B w) ν B v (a.eval x) := (hx ▸ h.opnd x : RepTV w (okS W0 A Gv ν B w) ν B (.e (.one v)) (a.eval x))
  obtain ⟨Ad, c, css, h1, h2, h3, h4, h5⟩ := dataOf_rep h hv hd
  obtain ⟨hf1, hf2, hf3, hf4⟩ := h.freeze (CV.rowSites v)
  have hb := run_bounds (P := P) (w := w) true xs.length c h2 hg (lo.map a.eval) (hi.map a.eval)
    (by rcases optI_rep h hl with ⟨rfl, rfl⟩ | h1; exact .inl ⟨rfl, rfl⟩; exact .inr h1) (by rcases optI_rep h hq with ⟨rfl, rfl⟩ | h1; exact .inl ⟨rfl, rfl⟩; exact .inr h1)
  have hrep := cut_rep (w := w) (ok := okS W0 A Gv ν (updB (frz B (CV.rowSites v)) B) w) hg h2 h3 (h4.imp fun x cs hx => RepR.move (fun _ _ => rfl) hf2 r x cs hx) (Ad := Ad) (fun hp => by
    obtain ⟨ad, rfl, h6, h7, h8⟩ := h5 hp
    refine ⟨ad, rfl, ?_, h6, h8⟩
    rcases h7 with h7 | ⟨s, hs, _, hs'⟩
    · exact hf2 _ h7
    · have : ∃ e' fz, B s = some (.row e' r xs fz) ∨ ∃ ys, B s = some (.row e' r ys fz) := by
        unfold dataOf at hd
        split at hd
        · cases hs
        · split at hd
          · rename_i e' r' xs' fz hB
            simp only [CV.rowSites, List.mem_singleton] at hs
            subst hs
            cases hd
            exact ⟨e', fz, .inl hB⟩
          · cases hd
        · split at hd
          · rename_i e' r' xs' fz hB
            simp only [CV.rowSites, List.mem_singleton] at hs
            subst hs
            cases hd
            exact ⟨e', fz, .inr ⟨_, hB⟩⟩
          · cases hd
        · split at hd
          · rename_i e' r' xs' fz hB
            simp only [CV.rowSites, List.mem_singleton] at hs
            subst hs
            cases hd
            exact ⟨e', fz, .inr ⟨_, hB⟩⟩
          · cases hd
        · cases hd
      obtain ⟨e', fz, hB | ⟨ys, hB⟩⟩ := this
      · exact hf3 s hs _ _ _ _ _ hB hs'
      · exact hf3 s hs _ _ _ _ _ hB hs')
  refine ⟨_, _, w, ν, ?_, .inl rfl, hf1, hrep, fun s hs => by rw [one_sites] at hs; cases hs⟩
  have := run_sliceAt_sl (P := P) (w := w) ht hn Ad xs.length c hb
  simp only [execOp, ho, h1, Option.map_none, Sem.run_bind, this, Result.andThen_ok, Sem.run_pure]

end
end Go.Pi

/- Each operation does what the executor says: text out of bytes, struct literals. -/
set_option linter.unusedVariables false
set_option linter.unusedSimpArgs false
namespace Go.Pi
open Go.RowKit

section
variable {P : Program} {W0 : World} {A Gv : Nat → Prop} {N : Nat} {U : Nat → Prop} {g : Nat → TV} {B : Nat → Option Blk} {ν : Nat → Value} {a : Act} {w : World} {o : Oper}

theorem toC_sl {r : Shs} {v : CV} {xs : CellD (.sl r)} (h : v.toC B (.sl r) = some xs) : (v = .val (.slice none 0 0) ∧ xs = ([] : List (RowD r))) ∨ dataOf B v = some ⟨r, xs⟩ := by
  unfold CV.toC at h
  split at h
  · rename_i s' x
    obtain ⟨e, rfl⟩ := castD_eq h
    cases e
    exact .inr rfl
  · cases h
    exact .inl ⟨rfl, rfl⟩
  · rename_i i
    split at h
    · rename_i e r' xs' fz hB
      obtain ⟨e, rfl⟩ := castD_eq h
      cases e
      exact .inr (by simp [dataOf, hB])
    · cases h
  · rename_i i n
    split at h
    · rename_i e r' xs' fz hB
      obtain ⟨e, rfl⟩ := castD_eq h
      cases e
      exact .inr (by simp [dataOf, hB])
    · cases h
  · rename_i i n
    split at h
    · rename_i e r' xs' fz hB
      obtain ⟨e, rfl⟩ := castD_eq h
      cases e
      exact .inr (by simp [dataOf, hB])
    · cases h
  · cases h

theorem ints_flat {ok : Nat → Prop} {k : IntKind} : ∀ {xs : List (RowD (.one (.int k)))} {css : List (List Value)}, All2 (fun x cs => RepR w ok (.one (.int k)) x cs) xs css → css.flatten = List.map (Value.int k) xs
  | [], [], _ => rfl
  | x :: xs, c :: css, h => by
    obtain ⟨h1, h2⟩ := h
    simp only [RepR] at h1
    obtain ⟨v, rfl, hv⟩ := h1
    simp only [RepC] at hv
    subst hv
    rw [List.flatten_cons, ints_flat h2]
    rfl
  | [], _ :: _, h => h.elim
  | _ :: _, [], h => h.elim

theorem op_conv_str (h : Sim W0 A Gv N U g B ν a w) (src dst : TypeId) (x : Operand) (ho : o.op = .convert src dst x) {e : TypeId} (hs : P.underlying src = some (.slice e)) (hd : P.underlying dst = some .string) (he : P.underlying e = some (.int .u8))
    {v : CV} (hx : opnd g x = .e (.one v)) {xs : List Int} (hxs : v.toC B (.sl (.one (.int .u8))) = some xs) : Res P W0 A Gv N U g B (str1 (strOf xs)) o a w := by
  have hv : RepCV w (okS W0 A Gv ν B w) ν B v (a.eval x) := (hx ▸ h.opnd x : RepTV w (okS W0 A Gv ν B w) ν B (.e (.one v)) (a.eval x))
  have key : ∀ Ad l c, a.eval x = .slice Ad l c → (Conv.bytesToString (.slice Ad l c)).run P w = .ok (.string (strOf xs)) w → Res P W0 A Gv N U g B (str1 (strOf xs)) o a w := by
    intro Ad l c h1 h2
    refine Res.same h _ ?_ (str1_rep _) (str1_sites _)
    simp only [execOp, ho, h1, Sem.run_bind, run_convert_bytes_string w src dst e Ad l c hs he hd, h2, Result.andThen_ok, Sem.run_pure]
  rcases toC_sl hxs with ⟨rfl, rfl⟩ | hdat
  · exact key none 0 0 hv.1 (by simp [Conv.bytesToString, strOf]; rfl)
  · obtain ⟨Ad, c, css, h1, h2, h3, h4, h5⟩ := dataOf_rep h hv hdat
    refine key _ _ _ h1 ?_
    have hf := ints_flat h4
    have hload : ∀ ad, (∀ j u, css.flatten[j]? = some u → w.cell? (Addr.add ad j) = some u) → (loadCells ad (List.length xs)).run P w = .ok (xs.map (Value.int .u8)).toArray w := by
      intro ad hc
      have := run_loadCells_list (P := P) w ad css.flatten hc
      rw [hf] at this
      simpa using this
    cases Ad with
    | none =>
      have : List.length xs = 0 := by
        rcases Nat.eq_zero_or_pos (List.length xs) with h0 | h0
        · exact h0
        · obtain ⟨ad, e, _⟩ := h5 h0
          cases e
      have e0 : xs = [] := List.eq_nil_of_length_eq_zero this
      subst e0
      simp [Conv.bytesToString, strOf]
    | some ad =>
      refine run_bytesToString w ad _ c xs (hload ad fun j u hj => ?_)
      have : 0 < List.length xs := by
        rw [hf] at hj
        have := (List.getElem?_eq_some_iff.1 hj).1
        simp at this
        omega
      obtain ⟨ad', e, _, _, hc⟩ := h5 this
      cases e
      exact hc j u hj

theorem zip_set : ∀ (vs : List Value) (off k : Nat) (cs : List Value), off + k + vs.length ≤ cs.length →
    (vs.zipIdx k).foldl (fun (cs : Array Value) (p : Value × Nat) => cs.setIfInBounds (off + p.2) p.1) cs.toArray = (cs.take (off + k) ++ vs ++ cs.drop (off + k + vs.length)).toArray
  | [], off, k, cs, h => by simp
  | v :: vs, off, k, cs, h => by
    simp only [List.length_cons] at h
    simp only [List.zipIdx_cons, List.foldl_cons]
    have e1 : cs.toArray.setIfInBounds (off + k) v = (cs.set (off + k) v).toArray := by simp
    rw [e1, zip_set vs off (k + 1) (cs.set (off + k) v) (by simp; omega)]
    congr 1
    have hk : off + k < cs.length := by omega
    rw [List.drop_set_of_lt (by omega)]
    have e2 : (cs.set (off + k) v).take (off + (k + 1)) = cs.take (off + k) ++ [v] := by
      rw [← Nat.add_assoc, List.take_add_one, List.take_set_of_le (by omega)]
      simp [hk]
    rw [e2]
    simp only [List.append_assoc, List.cons_append, List.nil_append, List.length_cons]
    congr 3
    congr 1
    omega

theorem setCells_rep {ok : Nat → Prop} {l m : List CV} {vs us : List Value} (h1 : All2 (RepCV w ok ν B) l vs) (h2 : All2 (RepCV w ok ν B) m us) (off : Nat) :
    All2 (RepCV w ok ν B) (setCells l off m) (vs.take off ++ us ++ vs.drop (off + us.length)) := by
  unfold setCells
  rw [← h2.len]
  exact ((h1.take off).append h2).append (h1.drop _)

theorem EV_cells {ok : Nat → Prop} {x : EV} {v : Value} (h : RepEV w ok ν B x v) : All2 (RepCV w ok ν B) x.cells v.cells.toList := by
  cases x with
  | one x =>
    have := RepCV.one h
    have e : v.cells = #[v] := by cases v <;> first | rfl | cases this
    rw [e]
    exact ⟨h, trivial⟩
  | agg l =>
    obtain ⟨vs, rfl, h⟩ := h
    exact h

theorem fill_rep {ok : Nat → Prop} {place : Nat → Option (Nat × Nat)} : ∀ {parts : List (Nat × TV)} {vals : List (Nat × Value)} {cells l : List CV} {zs : List Value},
    All2 (fun (p : Nat × TV) (q : Nat × Value) => p.1 = q.1 ∧ RepTV w ok ν B p.2 q.2) parts vals → All2 (RepCV w ok ν B) cells zs → fillV place cells parts = some l →
    ∃ us : List Value, Instr.fill place zs.toArray vals = some us.toArray ∧ All2 (RepCV w ok ν B) l us
  | [], [], cells, l, zs, _, hz, h => by
    simp only [fillV, Option.some.injEq] at h
    subst h
    exact ⟨zs, rfl, hz⟩
  | (i, tv) :: parts, (i', v) :: vals, cells, l, zs, hp, hz, h => by
    obtain ⟨⟨e, hv⟩, hp⟩ := hp
    simp only at e
    subst e
    cases tv with
    | dead => simp [fillV] at h
    | tup _ => simp [fillV] at h
    | e x =>
      simp only [fillV] at h
      split at h
      · rename_i off n hpl
        split at h
        · rename_i hcond
          obtain ⟨h1, h2⟩ := hcond
          have hc := EV_cells (hv : RepEV w ok ν B x v)
          have hlen := hc.len
          have hs := setCells_rep hz hc off
          have hzl := hz.len
          have := fill_rep hp hs h
          obtain ⟨us, hu, hr⟩ := this
          refine ⟨us, ?_, hr⟩
          have hsz : v.cells.size = n := by rw [← Array.length_toList, ← hlen, h1]
          simp only [Instr.fill, hpl]
          rw [if_neg (by simp [hsz, ← hzl, h2])]
          have hz2 := zip_set v.cells.toList off 0 zs (by simp [hsz, ← hzl, h2])
          rw [Nat.add_zero] at hz2
          rw [← hu]
          congr 1
          rw [← hz2]
          show Array.foldl _ _ _ 0 v.cells.zipIdx.size = _
          rw [← Array.foldl_toList, Array.toList_zipIdx]
        · cases h
      · cases h
  | [], _ :: _, _, _, _, h, _, _ => h.elim
  | _ :: _, [], _, _, _, h, _, _ => h.elim

theorem zero_eq {t : TypeId} {z : List Value} (h : zeroT P t = some z) : ∃ i v, P.info? t = some i ∧ i.zero = some v ∧ v.cells.toList = z ∧ (zeroValue t).run P w = .ok v w := by
  unfold zeroT at h
  cases hi : P.info? t with
  | none => simp [hi] at h
  | some i =>
    simp only [hi] at h
    cases hz : i.zero with
    | none => simp [hz] at h
    | some v =>
      simp [hz] at h
      exact ⟨i, v, rfl, hz, h, by simp [zeroValue, typeInfo, hi, hz]⟩

theorem ofCells_rep {ok : Nat → Prop} : ∀ {z : List Value}, z.all (·.oneCell') = true → All2 (RepCV w ok ν B) (z.map ofCell) z
  | [], _ => trivial
  | v :: z, h => by
    simp only [List.all_cons, Bool.and_eq_true] at h
    exact ⟨ofCell_rep h.1, ofCells_rep h.2⟩

theorem opnds_rep (h : Sim W0 A Gv N U g B ν a w) : ∀ (l : List (Nat × Operand)), All2 (fun (p : Nat × TV) (q : Nat × Value) => p.1 = q.1 ∧ RepTV w (okS W0 A Gv ν B w) ν B p.2 q.2) (l.map fun p => (p.1, Pi.opnd g p.2)) (l.map fun p => (p.1, a.eval p.2))
  | [] => trivial
  | p :: l => ⟨⟨rfl, h.opnd p.2⟩, opnds_rep h l⟩

theorem fill_sites {place : Nat → Option (Nat × Nat)} : ∀ {parts : List (Nat × TV)} {cells l : List CV}, (∀ p ∈ parts, ∀ s ∈ p.2.sites, U s) → (∀ c ∈ cells, ∀ s ∈ c.sites, U s) → fillV place cells parts = some l → ∀ c ∈ l, ∀ s ∈ c.sites, U s
  | [], cells, l, _, hc, h => by
    simp only [fillV, Option.some.injEq] at h
    subst h
    exact hc
  | (i, tv) :: parts, cells, l, hp, hc, h => by
    cases tv with
    | dead => simp [fillV] at h
    | tup _ => simp [fillV] at h
    | e x =>
      simp only [fillV] at h
      split at h
      · split at h
        · refine fill_sites (fun p hp' => hp p (by simp [hp'])) (fun c hcm s hs => ?_) h
          unfold setCells at hcm
          simp only [List.mem_append] at hcm
          rcases hcm with (hcm | hcm) | hcm
          · exact hc c (List.mem_of_mem_take hcm) s hs
          · refine hp (i, .e x) (by simp) s ?_
            simp only [TV.sites, EV.sites, List.mem_flatMap]
            exact ⟨c, hcm, hs⟩
          · exact hc c (List.mem_of_mem_drop hcm) s hs
        · cases h
      · cases h

theorem op_build (h : Sim W0 A Gv N U g B ν a w) (t : TypeId) (parts : Array (Nat × Operand)) (ho : o.op = .build t parts) {z : List Value} (hz : zeroT P t = some z) (hz1 : z.all (·.oneCell') = true) {fs : Array Field} (ht : P.underlying t = some (.struct fs))
    (hfs : fs.all (fun f => (P.info? f.type).isSome) = true) {l : List CV}
    (hl : fillV (fun i => match fs[i]? with
      | some f => (sizeT P f.type).map fun n => (f.offset, n)
      | none => none) (z.map ofCell) (parts.toList.map fun p => (p.1, opnd g p.2)) = some l) : Res P W0 A Gv N U g B (.e (.agg l)) o a w := by
  obtain ⟨i, v, hi, hv, hvc, _⟩ := zero_eq (w := w) hz
  obtain ⟨us, hu, hr⟩ := fill_rep (opnds_rep h parts.toList) (ofCells_rep (w := w) (ok := okS W0 A Gv ν B w) (ν := ν) (B := B) hz1) hl
  refine Res.same h (.agg us.toArray) ?_ ⟨us, rfl, hr⟩ fun s hs => ?_
  · obtain ⟨places, hpl⟩ : ∃ places, fs.toList.mapM (fun (f : Field) => (P.info? f.type).map fun i => (f.offset, i.size)) = some places := by
      have hall : ∀ f ∈ fs.toList, (P.info? f.type).isSome = true := by
        intro f hf
        exact Array.all_eq_true_iff_forall_mem.1 hfs f (Array.mem_toList_iff.1 hf)
      clear hl hfs ht hu
      generalize fs.toList = L at hall ⊢
      induction L with
      | nil => exact ⟨[], rfl⟩
      | cons f l ih =>
        obtain ⟨pl, hpl⟩ := ih fun f' hf' => hall f' (by simp [hf'])
        obtain ⟨j, hj⟩ := Option.isSome_iff_exists.1 (hall f (by simp))
        exact ⟨(f.offset, j.size) :: pl, by simp [List.mapM_cons, hj, hpl]⟩
    have hget : ∀ k : Nat, places.toArray[k]? = (match (fs[k]? : Option Field) with
        | some f => (sizeT P f.type).map fun n => (f.offset, n)
        | none => none) := by
      intro k
      have e1 : fs[k]? = fs.toList[k]? := by simp
      rw [e1]
      simp only [List.getElem?_toArray]
      clear hl hfs ht hu e1
      generalize fs.toList = L at hpl
      induction L generalizing places k with
      | nil => simp at hpl; subst hpl; simp
      | cons f l ih =>
        simp only [List.mapM_cons, Option.bind_eq_bind, Option.pure_def] at hpl
        cases hj : P.info? f.type with
        | none => simp [hj] at hpl
        | some j =>
          cases hrest : l.mapM (fun (f : Field) => (P.info? f.type).map fun i => (f.offset, i.size)) with
          | none => simp [hj, hrest] at hpl
          | some pl =>
            simp [hj, hrest] at hpl
            subst hpl
            cases k with
            | zero => simp [sizeT, hj]
            | succ k => simpa using ih pl k hrest
    have hb : P.built t (parts.toList.map fun p => (p.1, a.eval p.2)) = some us.toArray := by
      unfold Program.built
      simp only [hi, ht, hv, hpl]
      have hz' : v.cells = z.toArray := by rw [← hvc]
      rw [hz', ← hu]
      congr 1
      funext k
      exact hget k
    have := run_build (P := P) w t (parts.map fun (i, x) => (i, a.eval x)) us.toArray (by simpa using hb)
    simp only [execOp, ho, Sem.run_bind, this, Result.andThen_ok, Sem.run_pure]
  · simp only [TV.sites, EV.sites, EV.cells, List.mem_flatMap] at hs
    obtain ⟨c, hc, hs⟩ := hs
    refine fill_sites (U := U) (fun p hp s' hs' => ?_) (fun c' hc' s' hs' => ?_) hl c hc s hs
    · simp only [List.mem_map] at hp
      obtain ⟨q, _, rfl⟩ := hp
      exact h.opnd_sites q.2 s' hs'
    · simp only [List.mem_map] at hc'
      obtain ⟨q, _, rfl⟩ := hc'
      rw [ofCell_sites] at hs'
      cases hs'

end
end Go.Pi

/- New blocks. -/
set_option linter.unusedVariables false
set_option linter.unusedSimpArgs false
namespace Go.Pi
open Go.RowKit

def setB (B : Nat → Option Blk) (s : Nat) (b : Option Blk) : Nat → Option Blk := fun i => cond (Nat.beq s i) b (B i)
def setν (ν : Nat → Value) (s : Nat) (u : Value) : Nat → Value := fun i => cond (Nat.beq s i) u (ν i)
theorem updB_cons (s : Nat) (b : Option Blk) (l : List (Nat × Option Blk)) (B : Nat → Option Blk) : updB ((s, b) :: l) B = setB (updB l B) s b := by
  funext i
  by_cases h : s = i
  · subst h; simp [updB, lk, setB]
  · simp only [updB, lk, setB, beq_ne h, cond]
theorem setB_eq (B : Nat → Option Blk) (s : Nat) (b : Option Blk) : setB B s b s = b := by simp [setB]
theorem setB_ne (B : Nat → Option Blk) {s i : Nat} (b : Option Blk) (h : s ≠ i) : setB B s b i = B i := by simp only [setB, beq_ne h, cond]
theorem setν_eq (ν : Nat → Value) (s : Nat) (u : Value) : setν ν s u s = u := by simp [setν]
theorem setν_ne (ν : Nat → Value) {s i : Nat} (u : Value) (h : s ≠ i) : setν ν s u i = ν i := by simp only [setν, beq_ne h, cond]

section
variable {P : Program} {W0 : World} {A Gv : Nat → Prop} {N : Nat} {U : Nat → Prop} {g : Nat → TV} {B : Nat → Option Blk} {ν : Nat → Value} {a : Act} {w : World} {o : Oper}

theorem Sim.new (h : Sim W0 A Gv N U g B ν a w) {s : Nat} (hs : ¬ U s) {w1 : World} (hg : w.grownBy w1 none) (b : Blk) (u : Value) (hb : ∀ x ∈ b.cells, ∀ s' ∈ x.sites, U s') (hown : ∀ x, ownB u = some x → w.heap.size ≤ x)
    (hrep : ∀ (ok1 : Nat → Prop) (ν1 : Nat → Value) (B1 : Nat → Option Blk), (∀ x, okS W0 A Gv ν B w x → ok1 x) → (∀ x, okS W0 A Gv ν B w x → w1.heap[x]? = w.heap[x]?) → (∀ s', U s' → GoesOn ν ν1 B B1 s') → ν1 s = u → RepB w1 ok1 (freshS W0 Gv) ν1 B1 s b) :
    Sim W0 A Gv N (fun i => U i ∨ i = s) g (setB B s (some b)) (setν ν s u) a w1 ∧ (∀ x, okS W0 A Gv ν B w x → okS W0 A Gv (setν ν s u) (setB B s (some b)) w1 x) ∧ (∀ x, okS W0 A Gv ν B w x → w1.heap[x]? = w.heap[x]?) ∧
      (∀ s', U s' → GoesOn ν (setν ν s u) B (setB B s (some b)) s') := by
  have hne : ∀ i, U i → s ≠ i := fun i hi e => hs (e ▸ hi)
  have hBs : B s = none := by
    cases hb' : B s with
    | none => rfl
    | some b' => exact absurd (h.ub s b' hb').1 hs
  have hgo : ∀ s', U s' → GoesOn ν (setν ν s u) B (setB B s (some b)) s' := by
    intro s' hs'
    have hn := hne s' hs'
    cases hb' : B s' with
    | none => exact .inl (by rw [setB_ne _ _ hn, hb'])
    | some b' => exact .inr ⟨b', b', hb', by rw [setB_ne _ _ hn, hb'], ⟨rfl, rfl⟩, setν_ne _ _ hn⟩
  have hlt : ∀ x, okS W0 A Gv ν B w x → x < w.heap.size := by
    intro x hx
    rcases hx with ha | ⟨_, h1, _⟩
    · have := h.old x ha; have := h.kept.size; omega
    · exact h1
  have hheap : ∀ x, x < w.heap.size → w1.heap[x]? = w.heap[x]? := fun x hx => hg.block x hx (by simp)
  have hok : ∀ x, okS W0 A Gv ν B w x → okS W0 A Gv (setν ν s u) (setB B s (some b)) w1 x := by
    intro x hx
    have hl := hlt x hx
    rcases hx with ha | ⟨h1, h2, h3⟩
    · exact .inl ha
    · refine .inr ⟨h1, Nat.lt_of_lt_of_le h2 hg.size, fun s' b' hb' hm hx' => ?_⟩
      by_cases hn : s = s'
      · subst hn
        rw [setν_eq] at hx'
        have := hown x hx'
        omega
      · rw [setB_ne _ _ hn] at hb'
        rw [setν_ne _ _ hn] at hx'
        exact h3 s' b' hb' hm hx'
  refine ⟨?_, hok, fun x hx => hheap x (hlt x hx), hgo⟩
  refine h.step (Tc := fun i => i = s) (fun i hi => .inl hi) hg.os hg.tape hg.output hg.size (fun x hx _ => hheap x hx) (fun i hi => ⟨setB_ne _ _ (Ne.symm hi), fun _ => setν_ne _ _ (Ne.symm hi)⟩) ?_ ?_ ?_ ?_ ?_ ?_
  · rintro i rfl hi
    exact absurd hi hs
  · rintro i b1 x rfl hb1 hm hx hl
    rw [setν_eq] at hx
    have := hown x hx
    omega
  · rintro i b1 rfl hb1
    rw [setB_eq] at hb1
    cases hb1
    exact ⟨.inr rfl, fun x hx s' hs' => .inl (hb x hx s' hs')⟩
  · rintro hboth hgo' i b1 rfl hb1
    rw [setB_eq] at hb1
    cases hb1
    exact hrep _ _ _ (fun x hx => (hboth x hx).1) (fun x hx => (hboth x hx).2) hgo' (setν_eq _ _ _)
  · rintro i i' b1 b2 x rfl hb1 hb2 hx hx'
    by_cases hn : i = i'
    · exact hn
    · exfalso
      rw [setν_eq] at hx
      rw [setB_ne _ _ hn] at hb2
      rw [setν_ne _ _ hn] at hx'
      have h1 := hown x hx
      have h2 := ((h.bl i' b2 hb2).own hx').2
      omega
  · intro i b1 b2 hi h1 h2
    rw [setB_ne _ _ (Ne.symm hi), h1] at h2
    exact (Option.some.inj h2).symm

/-- A new variable. -/
theorem new_box (h : Sim W0 A Gv N U g B ν a w) {s : Nat} (hs : ¬ U s) (t : TypeId) {cells : List CV} {vs : List Value} (hc : All2 (RepCV w (okS W0 A Gv ν B w) ν B) cells vs) (hu : ∀ x ∈ cells, ∀ s' ∈ x.sites, U s') :
    ∃ ν1, Sim W0 A Gv N (fun i => U i ∨ i = s) g (setB B s (some (.box t cells))) ν1 a (w.alloc (.cells vs.toArray t)) ∧
      RepTV (w.alloc (.cells vs.toArray t)) (okS W0 A Gv ν1 (setB B s (some (.box t cells))) (w.alloc (.cells vs.toArray t))) ν1 (setB B s (some (.box t cells))) (one (.ptr s 0)) (.pointer (some ⟨w.heap.size, 0, none⟩)) := by
  have hn := h.new hs (World.grownBy_alloc w (.cells vs.toArray t) none) (.box t cells) (.pointer (some ⟨w.heap.size, 0, none⟩)) hu (fun x hx => by simp [ownB] at hx; omega) (fun ok1 ν1 B1 h1 h2 h3 h4 => by
    refine ⟨w.heap.size, vs, h4, .inl h.kept.size, heap_alloc_new w _, hc.impMem fun x v hx hr => ?_⟩
    exact hr.evolve h2 h1 (fun s' hs' => h3 s' (hu x hx s' hs')))
  refine ⟨_, hn.1, ⟨rfl, fun b hb => ?_⟩⟩
  rw [setB_eq] at hb
  cases hb
  exact ⟨rfl, w.heap.size, setν_eq _ _ _, rfl⟩

theorem op_box (h : Sim W0 A Gv N U g B ν a w) (t : TypeId) (x : Operand) (ho : o.op = .box t x) {v : EV} (hx : opnd g x = .e v) {s : Nat} (hs : ¬ U s) :
    Res P W0 A Gv N (fun i => U i ∨ i = s) g (setB B s (some (.box t v.cells))) (one (.ptr s 0)) o a w := by
  have hv := (hx ▸ h.opnd x : RepTV w (okS W0 A Gv ν B w) ν B (.e v) (a.eval x))
  have hu := h.opnd_sites x
  rw [hx] at hu
  obtain ⟨ν1, h1, h2⟩ := new_box h hs t (EV_cells hv) (fun c hc s' hs' => hu s' (by simp only [TV.sites, EV.sites, List.mem_flatMap]; exact ⟨c, hc, hs'⟩))
  refine ⟨_, _, _, ν1, ?_, .inl rfl, h1, h2, fun s' hs' => ?_⟩
  · simp [execOp, ho, Instr.box, newVar, newRow, newObj]
    rfl
  · rw [one_sites] at hs'
    simp only [CV.sites, List.mem_singleton] at hs'
    exact .inr hs'

theorem op_alloc_box (h : Sim W0 A Gv N U g B ν a w) (t : TypeId) (ho : o.op = .alloc t) {z : List Value} (hz : zeroT P t = some z) (h1 : z.all (·.oneCell') = true) {s : Nat} (hs : ¬ U s) :
    Res P W0 A Gv N (fun i => U i ∨ i = s) g (setB B s (some (.box t (z.map ofCell)))) (one (.ptr s 0)) o a w := by
  obtain ⟨i, v, hi, hv, hvc, hrun⟩ := zero_eq (w := w) hz
  obtain ⟨ν1, h2, h3⟩ := new_box h hs t (ofCells_rep (w := w) h1) (fun c hc s' hs' => by
    simp only [List.mem_map] at hc
    obtain ⟨u, _, rfl⟩ := hc
    rw [ofCell_sites] at hs'
    cases hs')
  refine ⟨_, _, _, ν1, ?_, .inl rfl, h2, h3, fun s' hs' => ?_⟩
  · have e : v.cells = z.toArray := by rw [← hvc]
    simp [execOp, ho, Instr.alloc, hrun, newVar, newRow, newObj, e]
    rfl
  · rw [one_sites] at hs'
    simp only [CV.sites, List.mem_singleton] at hs'
    exact .inr hs'

/-! rows -/
theorem zeroOne_rep {ok : Nat → Prop} {s : Sh} {v : Value} (h : zeroIs.one s v = true) : RepC w ok s s.dflt v := by
  cases s <;> cases v <;> simp [zeroIs.one] at h
  · obtain ⟨rfl, rfl⟩ := h; simp [RepC, Sh.dflt]
  · subst h; simp [RepC, Sh.dflt]
  · rename_i s
    have : s = ByteArray.empty := by
      obtain ⟨d⟩ := s
      simp only at h
      subst h
      rfl
    subst this
    simp [RepC, Sh.dflt]
  · rename_i r ad len cap
    cases ad with
    | some _ => simp [zeroIs.one] at h
    | none =>
      cases len with
      | succ _ => simp [zeroIs.one] at h
      | zero =>
        cases cap with
        | succ _ => simp [zeroIs.one] at h
        | zero => exact ⟨none, 0, [], rfl, Nat.le_refl _, Nat.zero_le _, trivial, fun hp => by simp [Sh.dflt] at hp⟩

theorem zeroIs_rep {ok : Nat → Prop} : ∀ {r : Shs} {z : List Value}, zeroIs r z = true → RepR w ok r r.dflt z
  | .one s, [v], h => by
    simp only [zeroIs] at h
    refine ⟨v, rfl, ?_⟩
    exact zeroOne_rep h
  | .cons s r, v :: l, h => by
    simp only [zeroIs, Bool.and_eq_true] at h
    exact ⟨v, l, rfl, zeroOne_rep h.1, zeroIs_rep h.2⟩
  | .one s, [], h => by simp [zeroIs] at h
  | .one s, _ :: _ :: _, h => by simp [zeroIs] at h
  | .cons s r, [], h => by simp [zeroIs] at h
/-- A new row. -/
theorem new_row (h : Sim W0 A Gv N U g B ν a w) {s : Nat} (hs : ¬ U s) (e : TypeId) {r : Shs} {xs : List (RowD r)} {css : List (List Value)} {w1 : World} {u : Value} (hg : w.grownBy w1 none)
    (hc : All2 (fun x cs => RepR w (okS W0 A Gv ν B w) r x cs) xs css) (hown : w1.ownsRow 0 e r.size u xs.length css.flatten) (hfresh : ∀ x, ownB u = some x → w.heap.size ≤ x) :
    ∃ ν1, Sim W0 A Gv N (fun i => U i ∨ i = s) g (setB B s (some (.row e r xs false))) ν1 a w1 ∧
      RepTV w1 (okS W0 A Gv ν1 (setB B s (some (.row e r xs false))) w1) ν1 (setB B s (some (.row e r xs false))) (one (.own s)) u := by
  have hn := h.new hs hg (.row e r xs false) u (fun x hx => by cases hx) hfresh (fun ok1 ν1 B1 h1 h2 h3 h4 => by
    refine ⟨css, hc.imp fun x cs hx => RepR.move h2 h1 r x cs hx, by rw [h4]; exact hown, fun x hx => ?_⟩
    rw [h4] at hx
    exact .inl (Nat.le_trans h.kept.size (hfresh x hx)))
  refine ⟨_, hn.1, ⟨?_, fun b hb => ?_⟩⟩
  · rcases hown.2 with ⟨rfl, _⟩ | ⟨q, cap, cur, rfl, _⟩ <;> rfl
  · rw [setB_eq] at hb
    cases hb
    exact ⟨rfl, (setν_eq _ _ _).symm⟩

end
end Go.Pi

/- New rows: literals, make. -/
set_option linter.unusedVariables false
set_option linter.unusedSimpArgs false
namespace Go.Pi
open Go.RowKit

theorem All2.ofGet {α β : Type} {R : α → β → Prop} : ∀ {l : List α} {m : List β}, l.length = m.length → (∀ (j : Nat) a b, l[j]? = some a → m[j]? = some b → R a b) → All2 R l m
  | [], [], _, _ => trivial
  | a :: l, b :: m, h, f => ⟨f 0 a b rfl rfl, All2.ofGet (by simpa using h) fun j x y hx hy => f (j + 1) x y (by simpa using hx) (by simpa using hy)⟩
  | [], _ :: _, h, _ => by simp at h
  | _ :: _, [], h, _ => by simp at h

section
variable {P : Program} {W0 : World} {A Gv : Nat → Prop} {N : Nat} {U : Nat → Prop} {g : Nat → TV} {B : Nat → Option Blk} {ν : Nat → Value} {a : Act} {w : World} {o : Oper}

theorem toC_rep (h : Sim W0 A Gv N U g B ν a w) {ok1 : Nat → Prop} (hok : ∀ x, okS W0 A Gv ν B w x → ok1 x) {s : Sh} {v : CV} {u : Value}
    (hs : ∀ s ∈ v.rowSites, ∀ e r xs fz x, B s = some (.row e r xs fz) → ownB (ν s) = some x → ok1 x) {x : CellD s} (hx : v.toC B s = some x) (hv : RepCV w (okS W0 A Gv ν B w) ν B v u) : RepC w ok1 s x u := by
  have sl : ∀ {r : Shs} {xs : CellD (.sl r)}, v.toC B (.sl r) = some xs → RepC w ok1 (.sl r) xs u := by
    intro r xs hxs
    rcases toC_sl hxs with ⟨rfl, rfl⟩ | hd
    · obtain ⟨rfl, _⟩ := hv
      exact ⟨none, 0, [], rfl, Nat.le_refl _, Nat.zero_le _, trivial, fun hp => by simp at hp⟩
    · obtain ⟨Ad, c, css, h1, h2, h3, h4, h5⟩ := dataOf_rep h hv hd
      refine ⟨Ad, c, css, h1, h2, h3, h4.imp fun x cs hx => RepR.move (fun _ _ => rfl) hok r x cs hx, fun hp => ?_⟩
      obtain ⟨ad, rfl, h6, h7, h8⟩ := h5 hp
      refine ⟨ad, rfl, ?_, h6, h8⟩
      rcases h7 with h7 | ⟨s', hs', _, ho⟩
      · exact hok _ h7
      · unfold dataOf at hd
        split at hd
        · cases hs'
        · split at hd
          · rename_i e' r' xs' fz hB
            simp only [CV.rowSites, List.mem_singleton] at hs'
            subst hs'
            exact hs _ (by simp [CV.rowSites]) _ _ _ _ _ hB ho
          · cases hd
        · split at hd
          · rename_i e' r' xs' fz hB
            simp only [CV.rowSites, List.mem_singleton] at hs'
            subst hs'
            exact hs _ (by simp [CV.rowSites]) _ _ _ _ _ hB ho
          · cases hd
        · split at hd
          · rename_i e' r' xs' fz hB
            simp only [CV.rowSites, List.mem_singleton] at hs'
            subst hs'
            exact hs _ (by simp [CV.rowSites]) _ _ _ _ _ hB ho
          · cases hd
        · cases hd
  cases s with
  | sl r => exact sl hx
  | int k =>
    unfold CV.toC at hx
    split at hx
    · obtain ⟨e, rfl⟩ := castD_eq hx
      subst e
      exact hv
    · simp at hx
    · split at hx
      · obtain ⟨e, _⟩ := castD_eq hx; cases e
      · cases hx
    · split at hx
      · obtain ⟨e, _⟩ := castD_eq hx; cases e
      · cases hx
    · split at hx
      · obtain ⟨e, _⟩ := castD_eq hx; cases e
      · cases hx
    · cases hx
  | bool =>
    unfold CV.toC at hx
    split at hx
    · obtain ⟨e, rfl⟩ := castD_eq hx
      subst e
      exact hv
    · simp at hx
    · split at hx
      · obtain ⟨e, _⟩ := castD_eq hx; cases e
      · cases hx
    · split at hx
      · obtain ⟨e, _⟩ := castD_eq hx; cases e
      · cases hx
    · split at hx
      · obtain ⟨e, _⟩ := castD_eq hx; cases e
      · cases hx
    · cases hx
  | str =>
    unfold CV.toC at hx
    split at hx
    · obtain ⟨e, rfl⟩ := castD_eq hx
      subst e
      exact hv
    · simp at hx
    · split at hx
      · obtain ⟨e, _⟩ := castD_eq hx; cases e
      · cases hx
    · split at hx
      · obtain ⟨e, _⟩ := castD_eq hx; cases e
      · cases hx
    · split at hx
      · obtain ⟨e, _⟩ := castD_eq hx; cases e
      · cases hx
    · cases hx

theorem packR_rep (h : Sim W0 A Gv N U g B ν a w) {ok1 : Nat → Prop} (hok : ∀ x, okS W0 A Gv ν B w x → ok1 x) (r : Shs) : ∀ (l : List CV) (vs : List Value)
    (_ : ∀ s ∈ l.flatMap CV.rowSites, ∀ e r xs fz x, B s = some (.row e r xs fz) → ownB (ν s) = some x → ok1 x) (y : RowD r) (_ : packR B r l = some y) (_ : All2 (RepCV w (okS W0 A Gv ν B w) ν B) l vs), RepR w ok1 r y vs := by
  refine Shs.rec (motive_1 := fun _ => True) (motive_2 := fun r => ∀ (l : List CV) (vs : List Value)
    (_ : ∀ s ∈ l.flatMap CV.rowSites, ∀ e r xs fz x, B s = some (.row e r xs fz) → ownB (ν s) = some x → ok1 x) (y : RowD r) (_ : packR B r l = some y) (_ : All2 (RepCV w (okS W0 A Gv ν B w) ν B) l vs), RepR w ok1 r y vs)
    (fun _ => trivial) trivial trivial (fun _ _ => trivial) ?_ ?_ r
  · intro s _ l vs hs y hy hl
    rw [packR_one] at hy
    rcases l with _ | ⟨v, _ | ⟨v', l⟩⟩
    · cases hy
    · rcases vs with _ | ⟨u, _ | ⟨u', vs⟩⟩
      · exact False.elim hl
      · exact ⟨u, rfl, toC_rep h hok (fun s' hs' => hs s' (by simpa using hs')) hy hl.1⟩
      · exact False.elim hl.2
    · cases hy
  · intro s r _ ih l vs hs y hy hl
    rw [packR_cons] at hy
    rcases l with _ | ⟨v, l⟩
    · cases hy
    · rcases vs with _ | ⟨u, vs⟩
      · exact False.elim hl
      · simp only [] at hy
        cases hx : v.toC B s with
        | none => rw [hx] at hy; cases hy
        | some x =>
          cases hz : packR B r l with
          | none => rw [hx, hz] at hy; cases hy
          | some z =>
            rw [hx, hz] at hy
            cases hy
            exact ⟨u, vs, rfl, toC_rep h hok (fun s' hs' => hs s' (by rw [List.flatMap_cons, List.mem_append]; exact .inl hs')) hx hl.1, ih l vs (fun s' hs' => hs s' (by rw [List.flatMap_cons, List.mem_append]; exact .inr hs')) z hz hl.2⟩

theorem flat_size {n : Nat} : ∀ {cs : List (List Value)}, (∀ c ∈ cs, c.length = n) → cs.flatten.length = cs.length * n
  | [], _ => by simp
  | c :: cs, h => by
    rw [List.flatten_cons, List.length_append, h c (by simp), flat_size fun c' hc' => h c' (by simp [hc']), List.length_cons, Nat.add_mul]
    omega
theorem flat_set {n : Nat} : ∀ {cs : List (List Value)} (i : Nat) (v : List Value), (∀ c ∈ cs, c.length = n) → v.length = n → i < cs.length → cs.flatten.take (i * n) ++ v ++ cs.flatten.drop (i * n + n) = (cs.set i v).flatten
  | [], i, v, _, _, hi => by simp at hi
  | c :: cs, 0, v, h, hv, _ => by
    have := h c (by simp)
    simp [← this]
  | c :: cs, i + 1, v, h, hv, hi => by
    have hc := h c (by simp)
    have ih := flat_set (cs := cs) i v (fun c' hc' => h c' (by simp [hc'])) hv (by simpa using hi)
    rw [List.flatten_cons, List.set_cons_succ, List.flatten_cons, ← ih]
    have e1 : (i + 1) * n = c.length + i * n := by rw [hc, Nat.add_mul]; omega
    rw [e1, List.take_length_add_append, Nat.add_assoc, List.drop_length_add_append]
    simp

theorem fill_rows {n : Nat} : ∀ (parts : List (Nat × Value)) (cs : List (List Value)), (∀ c ∈ cs, c.length = n) → (∀ p ∈ parts, p.2.cells.size = n ∧ p.1 < cs.length) →
    Instr.fill (fun i => some (i * n, n)) cs.flatten.toArray parts = some (parts.foldl (fun cs p => cs.set p.1 p.2.cells.toList) cs).flatten.toArray
  | [], cs, _, _ => rfl
  | (i, v) :: parts, cs, h, hp => by
    have hpi := hp (i, v) (by simp)
    simp only at hpi
    have hb : i * n + n ≤ cs.flatten.length := by
      rw [flat_size h, show i * n + n = (i + 1) * n by rw [Nat.add_mul]; omega]
      exact Nat.mul_le_mul_right _ hpi.2
    simp only [Instr.fill]
    rw [if_neg (by simp only [List.size_toArray, hpi.1, ne_eq, not_true_eq_false, decide_false, Bool.false_or, decide_eq_true_eq]; omega)]
    have hz := zip_set v.cells.toList (i * n) 0 cs.flatten (by simp only [Array.length_toList, hpi.1]; omega)
    rw [Nat.add_zero] at hz
    have e1 : v.cells.zipIdx.foldl (fun cs (x : Value × Nat) => cs.setIfInBounds (i * n + x.2) x.1) cs.flatten.toArray = (cs.set i v.cells.toList).flatten.toArray := by
      have : v.cells.zipIdx.foldl (fun cs (x : Value × Nat) => cs.setIfInBounds (i * n + x.2) x.1) cs.flatten.toArray = (cs.flatten.take (i * n) ++ v.cells.toList ++ cs.flatten.drop (i * n + v.cells.toList.length)).toArray := by
        show Array.foldl _ _ _ 0 v.cells.zipIdx.size = _
        rw [← Array.foldl_toList, Array.toList_zipIdx]
        exact hz
      rw [this]
      congr 1
      have hv : v.cells.toList.length = n := by simpa using hpi.1
      rw [hv]
      exact flat_set i _ h hv hpi.2
    have e2 := fill_rows parts (cs.set i v.cells.toList) (fun c hc => by
      rcases List.mem_or_eq_of_mem_set hc with h1 | h1
      · exact h c h1
      · rw [h1]; simpa using hpi.1) (fun p hpm => by
        have := hp p (by simp [hpm])
        simpa using this)
    rw [List.foldl_cons, ← e2, ← e1]

theorem set_fold_get (j : Nat) : ∀ (parts : List (Nat × Value)) (cs : List (List Value)), (parts.map (·.1)).Nodup → (∀ p ∈ parts, p.1 < cs.length) → j < cs.length →
    (parts.foldl (fun cs p => cs.set p.1 p.2.cells.toList) cs)[j]? = match parts.find? (fun p => p.1 == j) with
      | some p => some p.2.cells.toList
      | none => cs[j]?
  | [], cs, _, _, _ => rfl
  | (i, v) :: parts, cs, hn, hp, hj => by
    simp only [List.map_cons, List.nodup_cons] at hn
    have ih := set_fold_get j parts (cs.set i v.cells.toList) hn.2 (fun p hpm => by simpa using hp p (by simp [hpm])) (by simpa using hj)
    rw [List.foldl_cons, ih]
    by_cases hij : i = j
    · subst hij
      have : parts.find? (fun p => p.1 == i) = none := by
        rw [List.find?_eq_none]
        intro p hpm
        simp only [beq_iff_eq]
        rintro rfl
        exact hn.1 (List.mem_map_of_mem hpm)
      rw [this]
      simp [List.find?_cons, hj]
    · have : ((i, v) :: parts).find? (fun p => p.1 == j) = parts.find? (fun p => p.1 == j) := by simp [List.find?_cons, hij]
      rw [this, List.getElem?_set_ne hij]

theorem litRows_get {r : Shs} {parts : List (Nat × TV)} : ∀ (n j : Nat) {xs : List (RowD r)}, litRows B r parts j n = some xs → xs.length = n ∧ ∀ i, i < n → ∃ y, xs[i]? = some y ∧
    match parts.find? (fun p => p.1 == j + i) with
    | none => y = r.dflt
    | some (_, .e x) => packR B r x.cells = some y
    | some _ => False
  | 0, j, xs, h => by
    simp only [litRows, Option.some.injEq] at h
    subst h
    exact ⟨rfl, fun i hi => by omega⟩
  | n + 1, j, xs, h => by
    simp only [litRows] at h
    have rest : ∀ ys, litRows B r parts (j + 1) n = some ys → ∀ y, xs = y :: ys → (match parts.find? (fun p => p.1 == j) with
        | none => y = r.dflt
        | some (_, .e x) => packR B r x.cells = some y
        | some _ => False) → xs.length = n + 1 ∧ ∀ i, i < n + 1 → ∃ y, xs[i]? = some y ∧
      match parts.find? (fun p => p.1 == j + i) with
      | none => y = r.dflt
      | some (_, .e x) => packR B r x.cells = some y
      | some _ => False := by
      rintro ys hys y rfl hy
      obtain ⟨h1, h2⟩ := litRows_get n (j + 1) hys
      refine ⟨by simp [h1], fun i hi => ?_⟩
      cases i with
      | zero => exact ⟨y, rfl, hy⟩
      | succ i =>
        obtain ⟨z, hz, hz'⟩ := h2 i (by omega)
        refine ⟨z, by simpa using hz, ?_⟩
        rw [show j + (i + 1) = j + 1 + i by omega]
        exact hz'
    split at h
    · rename_i hf
      cases hr : litRows B r parts (j + 1) n with
      | none => simp [hr] at h
      | some ys =>
        simp [hr] at h
        exact rest ys hr _ h.symm (by rw [hf])
    · rename_i q x hf
      split at h
      · rename_i y l hy hr
        cases h
        exact rest l hr y rfl (by rw [hf]; exact hy)
      · cases h
    · cases h

end
end Go.Pi

/- New rows: the operations. -/
set_option linter.unusedVariables false
set_option linter.unusedSimpArgs false
namespace Go.Pi
open Go.RowKit

section
variable {P : Program} {W0 : World} {A Gv : Nat → Prop} {N : Nat} {U : Nat → Prop} {g : Nat → TV} {B : Nat → Option Blk} {ν : Nat → Value} {a : Act} {w : World} {o : Oper}

theorem find_map {α β : Type} (f : α → β) (j : Nat) : ∀ (l : List (Nat × α)), (l.map fun p => (p.1, f p.2)).find? (fun p => p.1 == j) = (l.find? (fun p => p.1 == j)).map fun p => (p.1, f p.2)
  | [] => rfl
  | p :: l => by
    simp only [List.map_cons, List.find?_cons]
    cases p.1 == j
    · exact find_map f j l
    · rfl

theorem elemT_eq {t e : TypeId} (h : elemT P t = some e) : P.underlying t = some (.slice e) := by
  unfold elemT at h
  split at h
  · cases h; assumption
  · cases h

theorem zeros_flat (z : List Value) (n : Nat) (hz : 0 < z.length) : (Array.range (n * z.length)).map (fun i => z.toArray[i % z.toArray.size]!) = (List.replicate n z).flatten.toArray := by
  apply Array.ext'
  simp only [Array.toList_map, Array.toList_range, List.size_toArray]
  induction n with
  | zero => simp
  | succ n ih =>
    rw [List.replicate_succ', List.flatten_append, ← ih, Nat.add_mul, Nat.one_mul, List.range_add, List.map_append]
    congr 1
    simp only [List.map_map, List.flatten_cons, List.flatten_nil, List.append_nil]
    apply List.ext_getElem
    · simp
    · intro i h1 h2
      simp only [List.length_map, List.length_range] at h1
      simp [Nat.mul_add_mod', Nat.mod_eq_of_lt h1, h1]

theorem op_buildSlice (h : Sim W0 A Gv N U g B ν a w) (t : TypeId) (n : Nat) (parts : Array (Nat × Operand)) (ho : o.op = .buildSlice t n parts) {e : TypeId} (ht : elemT P t = some e) {r : Shs} {z : List Value} (hz : zeroT P e = some z)
    (hn : sizeT P e = some r.size) (hzr : zeroIs r z = true) (hlim : n * r.size ≤ 16777216) (hnd : (parts.toList.map (·.1)).Nodup) (hlt : ∀ p ∈ parts.toList, p.1 < n) {xs : List (RowD r)}
    (hx : litRows B r (parts.toList.map fun p => (p.1, opnd g p.2)) 0 n = some xs) {ss : List Nat} (hss : ss = parts.toList.flatMap fun p => match opnd g p.2 with | .e x => x.cells.flatMap CV.rowSites | _ => [])
    (hU : ∀ s, U s → U s) {s : Nat} (hs : ¬ U s) :
    Res P W0 A Gv N (fun i => U i ∨ i = s) g (setB (updB (frz B ss) B) s (some (.row e r xs false))) (one (.own s)) o a w := by
  have ht' := elemT_eq ht
  obtain ⟨i, v, hi, hv, hvc, hrun⟩ := zero_eq (w := w) hz
  obtain ⟨hf1, hf2, hf3, hf4⟩ := h.freeze ss
  obtain ⟨hxl, hxg⟩ := litRows_get n 0 hx
  have hzlen : z.length = r.size := RepR.len (zeroIs_rep (w := w) (ok := fun _ => True) hzr)
  -- every part's value
  have hpart : ∀ p ∈ parts.toList, ∃ x, opnd g p.2 = .e x ∧ (a.eval p.2).cells.size = r.size ∧ All2 (RepCV w (okS W0 A Gv ν B w) ν B) x.cells (a.eval p.2).cells.toList := by
    intro p hp
    obtain ⟨y, hy, hf⟩ := hxg p.1 (hlt p hp)
    have hfind : parts.toList.find? (fun q => q.1 == p.1) = some p := by
      have hpp : parts.toList.find? (fun q => q.1 == p.1) ≠ none := by
        rw [ne_eq, List.find?_eq_none]
        intro hq
        exact hq p hp (by simp)
      obtain ⟨q, hq⟩ := Option.ne_none_iff_exists'.1 hpp
      have hq1 : q.1 = p.1 := by simpa using List.find?_some hq
      have hq2 := List.mem_of_find?_eq_some hq
      rw [hq]
      congr 1
      clear hx hss hxg hf hpp hq
      generalize parts.toList = L at *
      induction L with
      | nil => cases hp
      | cons c L ih =>
        simp only [List.map_cons, List.nodup_cons] at hnd
        rcases List.mem_cons.1 hp with rfl | hp' <;> rcases List.mem_cons.1 hq2 with rfl | hq'
        · rfl
        · exact absurd (hq1 ▸ List.mem_map_of_mem hq') hnd.1
        · exact absurd (hq1 ▸ List.mem_map_of_mem hp') hnd.1
        · exact ih hnd.2 (fun q hq => hlt q (by simp [hq])) hp' hq'
    rw [Nat.zero_add, find_map, hfind] at hf
    simp only [Option.map_some] at hf
    split at hf
    · rename_i e1; cases e1
    · rename_i e1
      rename_i k x
      simp only [Option.some.injEq, Prod.mk.injEq] at e1
      have hr := (e1.2 ▸ h.opnd p.2 : RepTV w (okS W0 A Gv ν B w) ν B (.e x) (a.eval p.2))
      have hc := EV_cells hr
      have hrep := packR_rep h (ok1 := fun _ => True) (fun _ _ => trivial) r x.cells _ (fun _ _ _ _ _ _ _ _ _ => trivial) y hf hc
      exact ⟨x, e1.2, by rw [← Array.length_toList]; exact hrep.len, hc⟩
    · exact hf.elim
  let vals : List (Nat × Value) := parts.toList.map fun p => (p.1, a.eval p.2)
  let css : List (List Value) := vals.foldl (fun cs p => cs.set p.1 p.2.cells.toList) (List.replicate n z)
  have hvals : ∀ p ∈ vals, p.2.cells.size = r.size ∧ p.1 < (List.replicate n z).length := by
    intro p hp
    obtain ⟨q, hq, rfl⟩ := List.mem_map.1 hp
    obtain ⟨x, _, h2, _⟩ := hpart q hq
    exact ⟨h2, by simpa using hlt q hq⟩
  have hfill := fill_rows (n := r.size) vals (List.replicate n z) (fun c hc => by rw [(List.mem_replicate.1 hc).2]; exact hzlen) hvals
  have hlenf : ∀ (l : List (Nat × Value)) (cs : List (List Value)), (l.foldl (fun cs p => cs.set p.1 p.2.cells.toList) cs).length = cs.length := by
    intro l
    induction l with
    | nil => intro cs; rfl
    | cons p l ih => intro cs; rw [List.foldl_cons, ih, List.length_set]
  have hcl : css.length = n := by rw [hlenf]; simp
  have hnd' : (vals.map (·.1)).Nodup := by simpa [vals, List.map_map, Function.comp_def] using hnd
  have hcss : All2 (fun x cs => RepR w (okS W0 A Gv ν (updB (frz B ss) B) w) r x cs) xs css := by
    refine All2.ofGet (by rw [hxl, hcl]) fun j y c hy hc => ?_
    have hj : j < n := by rw [← hxl]; exact (List.getElem?_eq_some_iff.1 hy).1
    obtain ⟨y', hy', hf⟩ := hxg j hj
    rw [hy] at hy'
    cases hy'
    have hc' := set_fold_get j vals (List.replicate n z) hnd' (fun p hp => (hvals p hp).2) (by simpa using hj)
    rw [show (vals.foldl (fun cs p => cs.set p.1 p.2.cells.toList) (List.replicate n z))[j]? = some c from hc, find_map] at hc'
    rw [Nat.zero_add, find_map] at hf
    cases hfd : parts.toList.find? (fun p => p.1 == j) with
    | none =>
      rw [hfd] at hf hc'
      simp only [Option.map_none] at hf hc'
      subst hf
      have : c = z := by
        have h1 : (List.replicate n z)[j]? = some z := by simp [hj]
        rw [h1] at hc'
        exact Option.some.inj hc'
      subst this
      exact zeroIs_rep hzr
    | some p =>
      rw [hfd] at hf hc'
      simp only [Option.map_some] at hf hc'
      cases hc'
      have hpm := List.mem_of_find?_eq_some hfd
      obtain ⟨x, hx1, _, hx3⟩ := hpart p hpm
      split at hf
      · rename_i e1; cases e1
      · rename_i e1
        rename_i k x'
        simp only [Option.some.injEq, Prod.mk.injEq] at e1
        rw [hx1] at e1
        obtain ⟨_, e2⟩ := e1
        cases e2
        exact packR_rep h hf2 r x.cells _ (fun s' hs' e' r' xs' fz x' hB hx' => hf3 s' (by
          rw [hss, List.mem_flatMap]
          exact ⟨p, hpm, by rw [hx1]; exact hs'⟩) e' r' xs' fz x' hB hx') y hf hx3
      · exact hf.elim
  have hsz : css.flatten.length = n * r.size := by rw [flat_len hcss, hxl]
  obtain ⟨ν1, h1, h2⟩ := new_row hf1 hs e (w1 := w.alloc (.cells css.flatten.toArray e)) (u := .slice (some ⟨w.heap.size, 0, none⟩) n n) (World.grownBy_alloc w _ none) hcss
    ⟨by rw [hsz, hxl], .inr ⟨w.heap.size, n, css.flatten.toArray, by rw [hxl], Nat.zero_le _, heap_alloc_new w _, by rw [hxl]; exact Nat.le_refl _, by
      have := r.size_pos
      have : n ≤ n * r.size := Nat.le_mul_of_pos_right _ this
      simp only [maxLen]; omega, by simp only [List.size_toArray]; exact hsz, by rw [hxl]; simp only []; rw [← hsz]; exact List.take_length⟩⟩ (fun x hx => by simp [ownB] at hx; omega)
  refine ⟨_, _, _, ν1, ?_, .inl rfl, h1, h2, fun s' hs' => ?_⟩
  · have hsz' := run_size (P := P) (w := w) hn
    have hnl : ¬ (n * r.size > 2 ^ 24) := by omega
    have hvz : v.cells = z.toArray := by rw [← hvc]
    have hfill' : Instr.fill (fun i => some (i * r.size, r.size)) (List.replicate n z).flatten.toArray (parts.toList.map fun p => (p.1, a.eval p.2)) = some css.flatten.toArray := hfill
    have key : (Instr.buildSlice t n (parts.map fun (i, x) => (i, a.eval x))).run P w = .ok (.slice (some ⟨w.heap.size, 0, none⟩) n n) (w.alloc (.cells css.flatten.toArray e)) := by
      unfold Instr.buildSlice
      simp only [Sem.run_bind, run_underlying ht', Result.andThen_ok, hsz', if_neg hnl, Sem.run_pure, Array.toList_map]
      by_cases h0 : n * r.size = 0
      · have hn0 : n = 0 := by
          rcases Nat.mul_eq_zero.1 h0 with h3 | h3
          · exact h3
          · have := r.size_pos; omega
        subst hn0
        have hp0 : parts.toList = [] := by
          cases hl : parts.toList with
          | nil => rfl
          | cons p l => have := hlt p (by rw [hl]; simp); omega
        have hc0 : css.flatten = [] := List.eq_nil_of_length_eq_zero (by rw [hsz, Nat.zero_mul])
        simp [h0, hp0, hc0, Instr.fill, newRow, newObj, Array.range_zero']
        rfl
      · have hz0 : 0 < z.length := by rw [hzlen]; exact r.size_pos
        have hzf := zeros_flat z n hz0
        rw [hzlen] at hzf
        simp only [if_neg h0, Sem.run_bind, hrun, Result.andThen_ok, Sem.run_pure, hvz, hzf, hfill', newRow, newObj]
        rfl
    simp only [execOp, ho, Sem.run_bind, key, Result.andThen_ok, Sem.run_pure]
  · rw [one_sites] at hs'
    simp only [CV.sites, List.mem_singleton] at hs'
    exact .inr hs'

theorem op_makeSlice (h : Sim W0 A Gv N U g B ν a w) (t : TypeId) (l c : Operand) (ho : o.op = .makeSlice t l c) {e : TypeId} (ht : elemT P t = some e) {n m : Int} (hn : getI (opnd g l) = some n) (hm : getI (opnd g c) = some m) {r : Shs} {z : List Value}
    (hz : zeroT P e = some z) {i : TypeInfo} (hi : P.info? e = some i) (hsz : i.size = r.size) (hzr : zeroIs r z = true) (hby : 0 < i.bytes) (hg : (decide (0 ≤ n) && (decide (n ≤ m) && decide (m * i.bytes ≤ 140737488355328))) = true) {s : Nat} (hs : ¬ U s) :
    Res P W0 A Gv N (fun i => U i ∨ i = s) g (setB B s (some (.row e r (List.replicate n.toNat r.dflt) false))) (one (.own s)) o a w := by
  simp only [Bool.and_eq_true, decide_eq_true_eq] at hg
  obtain ⟨h0, h1, h2⟩ := hg
  have ht' := elemT_eq ht
  obtain ⟨i', v, hi', hv, hvc, hrun⟩ := zero_eq (w := w) hz
  rw [hi] at hi'
  cases hi'
  obtain ⟨kl, hl⟩ := getI_rep hn (h.opnd l)
  obtain ⟨kc, hc⟩ := getI_rep hm (h.opnd c)
  have hzlen : z.length = r.size := RepR.len (zeroIs_rep (w := w) (ok := fun _ => True) hzr)
  have hmb : m ≤ m * (i.bytes : Int) := by
    have : (1 : Int) ≤ i.bytes := by omega
    have := Int.mul_le_mul_of_nonneg_left this (show (0 : Int) ≤ m by omega)
    omega
  have hr := run_make (P := P) w t e i v ht' hi hv kl kc n m h0 h1 (by rw [Int.mul_comm]; omega) (by omega)
  have hvz : v.cells = z.toArray := by rw [← hvc]
  have hmade : madeCells v.cells (m.toNat * i.size) = (List.replicate m.toNat z).flatten.toArray := by
    have := zeros_flat z m.toNat (by rw [hzlen]; exact r.size_pos)
    rw [hzlen] at this
    rw [hvz, hsz]
    exact this
  rw [hmade] at hr
  have hall : All2 (fun x cs => RepR w (okS W0 A Gv ν B w) r x cs) (List.replicate n.toNat r.dflt) (List.replicate n.toNat z) := All2.replicate _ (zeroIs_rep hzr)
  have hfl := flat_len hall
  have hfm : (List.replicate m.toNat z).flatten.length = m.toNat * r.size := by
    rw [flat_size (n := r.size) (fun c hc => by rw [(List.mem_replicate.1 hc).2]; exact hzlen), List.length_replicate]
  obtain ⟨ν1, h3, h4⟩ := new_row h hs e (World.grownBy_alloc w (.cells (List.replicate m.toNat z).flatten.toArray e) none) hall (u := .slice (some ⟨w.heap.size, 0, none⟩) n.toNat m.toNat)
    ⟨hfl, .inr ⟨w.heap.size, m.toNat, (List.replicate m.toNat z).flatten.toArray, by simp, Nat.zero_le _, heap_alloc_new w _, by simp; omega, by simp only [maxLen]; omega, by simp only [List.size_toArray]; exact hfm, by
      simp only [List.length_replicate] at hfl ⊢
      have e1 : m.toNat = n.toNat + (m.toNat - n.toNat) := by omega
      rw [e1, ← List.replicate_append_replicate, List.flatten_append, ← hfl]
      exact List.take_left⟩⟩ (fun x hx => by simp [ownB] at hx; omega)
  refine ⟨_, _, _, ν1, ?_, .inl rfl, h3, h4, fun s' hs' => ?_⟩
  · simp only [execOp, ho, hl, hc, Sem.run_bind, hr, Result.andThen_ok, Sem.run_pure]
  · rw [one_sites] at hs'
    simp only [CV.sites, List.mem_singleton] at hs'
    exact .inr hs'

theorem zeroRows_rep {ok : Nat → Prop} {r : Shs} : ∀ (n : Nat) (z : List Value), prep.zeroRows r n z = true → ∃ css, z = css.flatten ∧ All2 (fun x cs => RepR w ok r x cs) (List.replicate n r.dflt) css
  | 0, z, h => by
    simp only [prep.zeroRows, List.isEmpty_iff] at h
    exact ⟨[], by simp [h], trivial⟩
  | n + 1, z, h => by
    simp only [prep.zeroRows, Bool.and_eq_true] at h
    obtain ⟨css, h1, h2⟩ := zeroRows_rep n _ h.2
    exact ⟨z.take r.size :: css, by rw [List.flatten_cons, ← h1, List.take_append_drop], ⟨zeroIs_rep h.1, h2⟩⟩

theorem op_alloc_arr (h : Sim W0 A Gv N U g B ν a w) (t : TypeId) (ho : o.op = .alloc t) {z : List Value} (hz : zeroT P t = some z) {r : Shs} {n : Nat} (hzr : prep.zeroRows r n z = true) {s : Nat} (hs : ¬ U s) :
    Res P W0 A Gv N (fun i => U i ∨ i = s) g (setB B s (some (.arr t r n (List.replicate n r.dflt)))) (one (.ptr s 0)) o a w := by
  obtain ⟨i, v, hi, hv, hvc, hrun⟩ := zero_eq (w := w) hz
  obtain ⟨css, hcz, hall⟩ := zeroRows_rep (w := w) (ok := okS W0 A Gv ν B w) n z hzr
  have hn := h.new hs (World.grownBy_alloc w (.cells z.toArray t) none) (.arr t r n (List.replicate n r.dflt)) (.pointer (some ⟨w.heap.size, 0, none⟩)) (fun x hx => by cases hx) (fun x hx => by simp [ownB] at hx; omega) (fun ok1 ν1 B1 h1 h2 h3 h4 => by
    refine ⟨w.heap.size, css, h4, .inl h.kept.size, by simp, hall.imp fun x cs hx => RepR.move h2 h1 r x cs hx, ?_⟩
    rw [← hcz]
    exact heap_alloc_new w _)
  refine ⟨_, _, _, _, ?_, .inl rfl, hn.1, (⟨rfl, fun b hb => ?_⟩ : RepCV _ _ _ _ (.ptr s 0) (.pointer (some ⟨w.heap.size, 0, none⟩))), fun s' hs' => ?_⟩
  · have e : v.cells = z.toArray := by rw [← hvc]
    simp [execOp, ho, Instr.alloc, hrun, newVar, newRow, newObj, e]
    rfl
  · rw [setB_eq] at hb
    cases hb
    exact ⟨rfl, w.heap.size, setν_eq _ _ _, rfl⟩
  · rw [one_sites] at hs'
    simp only [CV.sites, List.mem_singleton] at hs'
    exact .inr hs'

end
end Go.Pi

/- Stores, appends, copies. -/
set_option linter.unusedVariables false
set_option linter.unusedSimpArgs false
namespace Go.Pi
open Go.RowKit

section
variable {P : Program} {W0 : World} {A Gv : Nat → Prop} {N : Nat} {U : Nat → Prop} {g : Nat → TV} {B : Nat → Option Blk} {ν : Nat → Value} {a : Act} {w : World} {o : Oper}

/-- A block of the call's own is written. -/
theorem Sim.write (h : Sim W0 A Gv N U g B ν a w) {s : Nat} {b b1 : Blk} (hb : B s = some b) (hm : b.mut = true) (hm1 : b1.mut = true) (hal : b.alike b1) {q : Nat} (hq : ownB (ν s) = some q) {w1 : World} (hg : w.grownBy w1 (some q)) (hsz : w1.heap.size = w.heap.size)
    (hb1 : ∀ x ∈ b1.cells, ∀ s' ∈ x.sites, U s')
    (hrep : ∀ (ok1 : Nat → Prop) (B1 : Nat → Option Blk), (∀ x, okS W0 A Gv ν B w x → ok1 x) → (∀ x, okS W0 A Gv ν B w x → w1.heap[x]? = w.heap[x]?) → (∀ s', U s' → GoesOn ν ν B B1 s') → RepB w1 ok1 (freshS W0 Gv) ν B1 s b1) :
    Sim W0 A Gv N U g (setB B s (some b1)) ν a w1 := by
  have hU := (h.ub s b hb).1
  refine h.step (Tc := fun i => i = s) (fun i hi => hi) hg.os hg.tape hg.output hg.size (fun x hx hne => hg.block x hx fun e => ?_) (fun i hi => ⟨setB_ne _ _ (Ne.symm hi), fun _ => rfl⟩) ?_ ?_ ?_ ?_ ?_ ?_
  · cases e
    exact hne s b rfl hb hm hq
  · rintro i rfl _
    exact .inr ⟨b, b1, hb, setB_eq _ _ _, hal, rfl⟩
  · rintro i b2 x rfl hb2 hm2 hx _
    exact ⟨i, b, rfl, hb, hm, hx⟩
  · rintro i b2 rfl hb2
    rw [setB_eq] at hb2
    cases hb2
    exact ⟨hU, hb1⟩
  · rintro hboth hgo i b2 rfl hb2
    rw [setB_eq] at hb2
    cases hb2
    exact hrep _ _ (fun x hx => (hboth x hx).1) (fun x hx => (hboth x hx).2) hgo
  · rintro i i' b2 b3 x rfl hb2 hb3 hx hx'
    by_cases hn : i = i'
    · exact hn
    · rw [setB_ne _ _ hn] at hb3
      exact h.inj i i' b b3 x hb hb3 hx hx'
  · intro i b2 b3 hi h1 h2
    rw [setB_ne _ _ (Ne.symm hi), h1] at h2
    exact (Option.some.inj h2).symm

theorem grown_setRow (w : World) (q : Nat) (cs : Array Value) : w.grownBy (w.setRow q cs) (some q) :=
  ⟨rfl, rfl, rfl, by simp [World.setRow], fun k _ hk => setRow_other w q k cs (fun e => hk (by rw [e]))⟩
theorem size_setRow (w : World) (q : Nat) (cs : Array Value) : (w.setRow q cs).heap.size = w.heap.size := by simp [World.setRow]

theorem run_storeVar {t : TypeId} {n : Nat} (hn : sizeT P t = some n) {q off : Nat} {bt : TypeId} {cur : List Value} (hq : w.heap[q]? = some (.cells cur.toArray bt (0, 0))) {v : Value} (hv : v.cells.size = n) (hfit : off + n ≤ cur.length)
    (h1 : ∀ u ∈ v.cells.toList, u.oneCell' = true) :
    (storeVar t ⟨q, off, none⟩ v).run P w = .ok () (w.setRow q (cur.take off ++ v.cells.toList ++ cur.drop (off + v.cells.toList.length)).toArray) := by
  have hs := run_size (P := P) (w := w) hn
  have hst := run_storeCells_at P q off bt v.cells.toList 0 cur.toArray w hq (by simp only [List.size_toArray, Array.length_toList, hv]; omega) h1
  simp only [Nat.add_zero] at hst
  unfold storeVar
  simp only [Sem.run_bind, hs, Result.andThen_ok]
  rw [if_neg (by simp [hv])]
  exact hst

theorem All2.ones {ok : Nat → Prop} : ∀ {l : List CV} {vs : List Value}, All2 (RepCV w ok ν B) l vs → ∀ u ∈ vs, u.oneCell' = true
  | [], [], _, u, hu => by cases hu
  | x :: l, v :: vs, h, u, hu => by
    rcases List.mem_cons.1 hu with rfl | hu
    · exact RepCV.one h.1
    · exact All2.ones h.2 u hu
  | [], _ :: _, h, _, _ => False.elim h
  | _ :: _, [], h, _, _ => False.elim h

theorem op_store_box (h : Sim W0 A Gv N U g B ν a w) (t : TypeId) (p x : Operand) (ho : o.op = .store t p x) {s off : Nat} (hp : opnd g p = .e (.one (.ptr s off))) {v : EV} (hx : opnd g x = .e v) {n : Nat} (hn : sizeT P t = some n) (hl : v.cells.length = n)
    {bt : TypeId} {cells : List CV} (hB : B s = some (.box bt cells)) (hfit : off + n ≤ cells.length) :
    Res P W0 A Gv N U g (setB B s (some (.box bt (setCells cells off v.cells)))) (.tup []) o a w := by
  obtain ⟨_, hpv⟩ := (hp ▸ h.opnd p : RepTV w (okS W0 A Gv ν B w) ν B (.e (.one (.ptr s off))) (a.eval p))
  obtain ⟨_, q, hν, hpv⟩ := hpv _ hB
  obtain ⟨q', vs, h1, h2, h3, h4⟩ := h.bl _ _ hB
  rw [hν] at h1
  simp only [Value.pointer.injEq, Option.some.injEq, Addr.mk.injEq, and_true] at h1
  subst h1
  have hv := (hx ▸ h.opnd x : RepTV w (okS W0 A Gv ν B w) ν B (.e v) (a.eval x))
  have hux := h.opnd_sites x
  rw [hx] at hux
  have hc := EV_cells hv
  have hcl : (a.eval x).cells.size = n := by rw [← Array.length_toList, ← hc.len, hl]
  have hrun := run_storeVar (P := P) hn h3 hcl (by rw [← h4.len]; exact hfit) (All2.ones hc)
  have hnew := setCells_rep h4 hc off
  have hsites : ∀ c ∈ setCells cells off v.cells, ∀ s' ∈ c.sites, U s' := by
    intro c hcm s' hs'
    unfold setCells at hcm
    simp only [List.mem_append] at hcm
    rcases hcm with (hcm | hcm) | hcm
    · exact (h.ub s _ hB).2 c (List.mem_of_mem_take hcm) s' hs'
    · exact hux s' (by simp only [TV.sites, EV.sites, List.mem_flatMap]; exact ⟨c, hcm, hs'⟩)
    · exact (h.ub s _ hB).2 c (List.mem_of_mem_drop hcm) s' hs'
  have hsim := h.write (b1 := .box bt (setCells cells off v.cells)) hB rfl rfl ⟨rfl, rfl⟩ (q := q) (by rw [hν]; rfl) (grown_setRow w q _) (size_setRow w q _) hsites (fun ok1 B1 hk1 hk2 hk3 => by
    refine ⟨q, _, hν, h2, setRow_heap w q _ _ bt (0, 0) h3, hnew.impMem fun y u hy hr => ?_⟩
    exact hr.evolve hk2 hk1 fun s' hs' => hk3 s' (hsites y hy s' hs'))
  refine ⟨_, undef, _, ν, ?_, .inr ⟨rfl, rfl⟩, hsim, ⟨[], rfl, trivial⟩, fun s' hs' => by simp [TV.sites] at hs'⟩
  simp only [execOp, ho, hpv, Instr.storeAt, Instr.sureAddr, Sem.run_bind, Sem.run_pure, Result.andThen_ok, hrun]

theorem op_store_row (h : Sim W0 A Gv N U g B ν a w) (t : TypeId) (p x : Operand) (ho : o.op = .store t p x) {s : Nat} {r : Shs} {i : Int} {off : Nat} (hp : opnd g p = .e (.one (.rptr s r i off))) {v : EV} (hx : opnd g x = .e v) {n : Nat} (hn : sizeT P t = some n) (hl : v.cells.length = n)
    {e : TypeId} {xs : List (RowD r)} (hB : B s = some (.row e r xs false)) (hfit : off + n ≤ r.size) {y : RowD r} (hy : packR B r (setCells (unpackR r (gd r.dflt xs i)) off v.cells) = some y)
    {ss : List Nat} (hss : ss = (v.cells.flatMap CV.rowSites).filter (· != s)) (hns : s ∉ v.cells.flatMap CV.rowSites) :
    Res P W0 A Gv N U g (setB (updB (frz B ss) B) s (some (.row e r (xs.set i.toNat y) false))) (.tup []) o a w := by
  obtain ⟨_, hpv⟩ := (hp ▸ h.opnd p : RepTV w (okS W0 A Gv ν B w) ν B (.e (.one (.rptr s r i off))) (a.eval p))
  obtain ⟨q, r', m, hν, he, hi0, him, hpv⟩ := hpv _ hB
  simp only [Blk.elems, Option.some.injEq, Prod.mk.injEq] at he
  obtain ⟨rfl, rfl⟩ := he
  have hv := (hx ▸ h.opnd x : RepTV w (okS W0 A Gv ν B w) ν B (.e v) (a.eval x))
  have hc := EV_cells hv
  obtain ⟨hf1, hf2, hf3, hf4⟩ := h.freeze ss
  have hB' : updB (frz B ss) B s = some (.row e r xs false) := by
    rw [frz_lk, hB]
    have : s ∉ ss := by rw [hss]; simp
    simp [this]
  obtain ⟨css, h1, h2, h3⟩ := h.bl _ _ hB
  obtain ⟨cs, h4, h5, h6⟩ := flat_at h1 i.toNat _ (gd_get (d := r.dflt) hi0 him)
  have hcl : (a.eval x).cells.size = n := by rw [← Array.length_toList, ← hc.len, hl]
  have hcs : cs.length = r.size := h5.len
  obtain ⟨hlen, hown⟩ := h2
  rcases hown with ⟨_, h0⟩ | ⟨q', cap, cur, h7, _, h8, h9, h10, h11, h12⟩
  · omega
  rw [h7] at hν
  simp only [baseG, Option.some.injEq] at hν
  subst hν
  have hit : i.toNat < xs.length := by omega
  have hrow : i.toNat * r.size + r.size ≤ xs.length * r.size := by
    rw [show i.toNat * r.size + r.size = (i.toNat + 1) * r.size by rw [Nat.add_mul]; omega]
    exact Nat.mul_le_mul_right _ hit
  have hcap : xs.length * r.size ≤ cap * r.size := Nat.mul_le_mul_right _ h9
  have hcurl : cur.toList.length = cap * r.size := by simpa using h11
  have hrun := run_storeVar (P := P) (w := w) (cur := cur.toList) (off := i.toNat * r.size + off) hn h8 hcl (by rw [hcurl]; omega) (All2.ones hc)
  -- the new row
  have hnewc : All2 (RepCV w (okS W0 A Gv ν B w) ν B) (setCells (unpackR r (gd r.dflt xs i)) off v.cells) (cs.take off ++ (a.eval x).cells.toList ++ cs.drop (off + (a.eval x).cells.toList.length)) := setCells_rep (unpack_rep h5) hc off
  have hrs : ∀ s' ∈ (setCells (unpackR r (gd r.dflt xs i)) off v.cells).flatMap CV.rowSites, s' ∈ ss := by
    intro s' hs'
    rw [List.mem_flatMap] at hs'
    obtain ⟨c, hcm, hs'⟩ := hs'
    unfold setCells at hcm
    simp only [List.mem_append] at hcm
    have hno : ∀ c, c ∈ unpackR r (gd r.dflt xs i) → c.rowSites = [] := by
      intro c hcm'
      have := unpack_sites hcm'
      cases c <;> simp_all [CV.sites, CV.rowSites]
    rcases hcm with (hcm | hcm) | hcm
    · rw [hno c (List.mem_of_mem_take hcm)] at hs'; cases hs'
    · rw [hss, List.mem_filter]
      have hm : s' ∈ v.cells.flatMap CV.rowSites := List.mem_flatMap.2 ⟨c, hcm, hs'⟩
      refine ⟨hm, ?_⟩
      simp only [bne_iff_ne, ne_eq]
      rintro rfl
      exact hns hm
    · rw [hno c (List.mem_of_mem_drop hcm)] at hs'; cases hs'
  have hrep := packR_rep h hf2 r _ _ (fun s' hs' => hf3 s' (hrs s' hs')) y hy hnewc
  have hvl : (a.eval x).cells.toList.length = n := by simpa using hcl
  have hnew : (cs.take off ++ (a.eval x).cells.toList ++ cs.drop (off + (a.eval x).cells.toList.length)).length = r.size := hrep.len
  generalize hnc : cs.take off ++ (a.eval x).cells.toList ++ cs.drop (off + (a.eval x).cells.toList.length) = nc at *
  -- in memory
  have hcss : css[i.toNat]? = some cs := h4
  have hpre : cur.toList = css.flatten ++ cur.toList.drop (xs.length * r.size) := by
    conv => lhs; rw [← List.take_append_drop (xs.length * r.size) cur.toList]
    rw [h12]
  have hmem : (cur.toList.take (i.toNat * r.size + off) ++ (a.eval x).cells.toList ++ cur.toList.drop (i.toNat * r.size + off + (a.eval x).cells.toList.length)) = (css.set i.toNat nc).flatten ++ cur.toList.drop (xs.length * r.size) := by
    have hlens : ∀ c ∈ css, c.length = r.size := by
      intro c hcm
      obtain ⟨j, hj⟩ := List.getElem?_of_mem hcm
      have hjl : j < xs.length := by rw [h1.len]; exact (List.getElem?_eq_some_iff.1 hj).1
      obtain ⟨c', hc', hr'⟩ := h1.get j _ (List.getElem?_eq_getElem hjl)
      rw [hj] at hc'
      cases hc'
      exact hr'.len
    rw [← flat_set i.toNat nc hlens hnew (by rw [← h1.len]; exact hit)]
    have hflen : css.flatten.length = xs.length * r.size := hlen
    rw [hpre]
    have e0 : i.toNat * r.size + off ≤ css.flatten.length := by omega
    have e1 : i.toNat * r.size + off + n ≤ css.flatten.length := by omega
    rw [hvl, List.take_append_of_le_length e0, List.drop_append_of_le_length e1]
    have e2 : css.flatten = css.flatten.take (i.toNat * r.size) ++ (cs ++ css.flatten.drop (i.toNat * r.size + r.size)) := by
      have e3 : (css.flatten.drop (i.toNat * r.size)).take r.size = cs := by
        apply List.ext_getElem?
        intro k
        rw [List.getElem?_take]
        split
        · rename_i hk
          rw [List.getElem?_drop]
          cases hck : cs[k]? with
          | none => rw [List.getElem?_eq_none_iff] at hck; omega
          | some u => exact h6 k u hck
        · rename_i hk
          rw [List.getElem?_eq_none_iff.2 (by omega)]
      conv => lhs; rw [← List.take_append_drop (i.toNat * r.size) css.flatten, ← List.take_append_drop r.size (css.flatten.drop (i.toNat * r.size)), e3, List.drop_drop]
    have hT : (css.flatten.take (i.toNat * r.size)).length = i.toNat * r.size := by rw [List.length_take]; omega
    have e4 : css.flatten.take (i.toNat * r.size + off) = css.flatten.take (i.toNat * r.size) ++ cs.take off := by
      conv => lhs; rw [e2]
      rw [List.take_append, hT, Nat.add_sub_cancel_left, List.take_of_length_le (by omega), List.take_append_of_le_length (by omega)]
    have e5 : css.flatten.drop (i.toNat * r.size + off + n) = cs.drop (off + n) ++ css.flatten.drop (i.toNat * r.size + r.size) := by
      conv => lhs; rw [e2]
      rw [List.drop_append, hT, List.drop_of_length_le (by omega), List.nil_append, show i.toNat * r.size + off + n - i.toNat * r.size = off + n by omega, List.drop_append_of_le_length (by omega)]
    have e6 : ∀ Z : List Value, List.drop (xs.length * r.size) (css.flatten ++ Z) = Z := fun Z => by rw [← hflen]; exact List.drop_left
    rw [e4, e5, ← hnc, hvl]
    simp only [List.append_assoc, e6]
  rw [hmem] at hrun
  have hsim := hf1.write (b1 := .row e r (xs.set i.toNat y) false) hB' rfl rfl ⟨rfl, by simp [Blk.elems]⟩ (q := q') (by rw [h7]; rfl) (grown_setRow w q' ((css.set i.toNat nc).flatten ++ cur.toList.drop (xs.length * r.size)).toArray) (size_setRow w q' _) (fun c hc => by cases hc) (fun ok1 B1 hk1 hk2 hk3 => by
    have hA : All2 (fun x cs => RepR (w.setRow q' ((css.set i.toNat nc).flatten ++ cur.toList.drop (xs.length * r.size)).toArray) ok1 r x cs) (xs.set i.toNat y) (css.set i.toNat nc) := by
      refine All2.set _ (h1.imp fun x cs hx => ?_) ?_
      · exact RepR.move hk2 hk1 r x cs (RepR.move (fun _ _ => rfl) hf2 r x cs hx)
      · exact RepR.move hk2 hk1 r y nc hrep
    refine ⟨css.set i.toNat nc, hA, ⟨by rw [flat_len hA, List.length_set], .inr ⟨q', cap, _, by rw [h7, List.length_set], Nat.zero_le _, setRow_heap w q' _ _ e (0, 0) h8, by rw [List.length_set]; exact h9, h10, ?_, ?_⟩⟩, h3⟩
    · simp only [List.size_toArray, List.length_append, List.length_drop, flat_len hA, List.length_set, hcurl]
      omega
    · simp only [List.length_set]
      rw [← show (css.set i.toNat nc).flatten.length = xs.length * r.size by rw [flat_len hA, List.length_set]]
      exact List.take_left)
  refine ⟨_, undef, _, ν, ?_, .inr ⟨rfl, rfl⟩, hsim, ⟨[], rfl, trivial⟩, fun s' hs' => by simp [TV.sites] at hs'⟩
  simp only [execOp, ho, hpv, Instr.storeAt, Instr.sureAddr, Sem.run_bind, Sem.run_pure, Result.andThen_ok, hrun]

end
end Go.Pi

/- Appends, copies. -/
set_option linter.unusedVariables false
set_option linter.unusedSimpArgs false
namespace Go.Pi
open Go.RowKit

section
variable {P : Program} {W0 : World} {A Gv : Nat → Prop} {N : Nat} {U : Nat → Prop} {g : Nat → TV} {B : Nat → Option Blk} {ν : Nat → Value} {a : Act} {w : World} {o : Oper}

theorem append_none (t ty e : TypeId) (i : TypeInfo) (ht : P.underlying t = some (.slice e)) (hi : P.info? e = some i)
    (v : Value) (n size : Nat) (xs : List Value) (hown : w.ownsRow 0 e size v n xs) (c : Nat) : (Builtin.append_ #[t, t] ty #[v, .slice none 0 c]).run P w = .ok v w := by
  rcases hown.2 with ⟨rfl, rfl⟩ | ⟨g, cap, cur, rfl, _, _, hnc, _⟩
  · simp [Builtin.append_, run_underlying ht, sizeOf, typeInfo, hi, Builtin.lenOf, Builtin.firstCells]
  · simp [Builtin.append_, run_underlying ht, sizeOf, typeInfo, hi, Builtin.lenOf, Builtin.firstCells, hnc, storeCells]

/-- Whatever is appended. -/
theorem run_append (t ty e : TypeId) (i : TypeInfo) (z : Value) (size : Nat) (ht : P.underlying t = some (.slice e)) (hi : P.info? e = some i) (hz : i.zero = some z) (hsize : i.size = size) (hzs : z.cells.size = size) (hsz : 0 < size) (hby : 0 < i.bytes)
    (v : Value) (n : Nat) (xs : List Value) (hown : w.ownsRow 0 e size v n xs) (Ad : Option Addr) (m c : Nat) (news : List Value) (hl : news.length = m * size)
    (hc : 0 < m → ∃ ad, Ad = some ad ∧ ∀ j u, news[j]? = some u → w.cell? (ad.add j) = some u) (h1 : ∀ u ∈ news, u.oneCell' = true) (hf : fits i.bytes n m = true) :
    ∃ v' w', (Builtin.append_ #[t, t] ty #[v, .slice Ad m c]).run P w = .ok v' w' ∧ w'.ownsRow 0 e size v' (n + m) (xs ++ news) ∧ w.grownBy w' v.ownBlock ∧ (v'.ownBlock = v.ownBlock ∨ v'.ownBlock = some w.heap.size) := by
  have hb : (n + m) * i.bytes ≤ 140737488355328 := of_decide_eq_true hf
  have h63 : n + m ≤ maxLen := by
    have := Nat.le_mul_of_pos_right (n + m) hby
    simp only [maxLen]
    omega
  cases Ad with
  | none =>
    have hm : m = 0 := by
      rcases Nat.eq_zero_or_pos m with h0 | h0
      · exact h0
      · obtain ⟨ad, h, _⟩ := hc h0
        cases h
    subst hm
    have hn : news = [] := List.eq_nil_of_length_eq_zero (by simpa using hl)
    subst hn
    exact ⟨v, w, append_none t ty e i ht hi v n size xs hown c, by simpa using hown, ⟨rfl, rfl, rfl, Nat.le_refl _, fun _ _ _ => rfl⟩, .inl rfl⟩
  | some ad =>
    have hcells : ∀ j u, news[j]? = some u → w.cell? (ad.add j) = some u := by
      intro j u hu
      rcases Nat.eq_zero_or_pos m with h0 | h0
      · subst h0
        have hn : news = [] := List.eq_nil_of_length_eq_zero (by simpa using hl)
        subst hn
        simp at hu
      · obtain ⟨ad', h, hc'⟩ := hc h0
        cases h
        exact hc' j u hu
    obtain ⟨v', w', hrun, h2, h3, _, h5⟩ := run_append_own_at (P := P) w 0 t ty e i z size i.bytes ht hi hz hsize rfl hzs hsz v n xs hown ad m c news hl hcells h1 h63 hb (Nat.zero_le _)
    exact ⟨v', w', hrun, h2, h3, h5⟩

theorem ownB_slice {Ad : Option Addr} {n c : Nat} : ownB (.slice Ad n c) = (Value.slice Ad n c).ownBlock := by cases Ad <;> rfl
theorem own_isSlice {base n size : Nat} {e : TypeId} {v : Value} {xs : List Value} (h : w.ownsRow base e size v n xs) : ∃ Ad c, v = .slice Ad n c ∧ n ≤ c ∧ c ≤ maxLen := by
  rcases h.2 with ⟨rfl, rfl⟩ | ⟨q, cap, cur, rfl, _, _, h1, h2, _⟩
  · exact ⟨none, 0, rfl, Nat.le_refl _, Nat.zero_le _⟩
  · exact ⟨_, cap, rfl, h1, h2⟩
theorem ownB_own {base n size : Nat} {e : TypeId} {v : Value} {xs : List Value} (h : w.ownsRow base e size v n xs) : ownB v = v.ownBlock := by
  obtain ⟨Ad, c, rfl, _⟩ := own_isSlice h
  exact ownB_slice

theorem op_append_nil (h : Sim W0 A Gv N U g B ν a w) (d x : Operand) (t : TypeId) (ho : o.op = .call { callee := .builtin .append, args := #[d, x], argTypes := #[t, t] }) {e : TypeId} (ht : elemT P t = some e) {i : TypeInfo} (hi : P.info? e = some i)
    (hd : opnd g d = .e (.one (.val (.slice none 0 0)))) {v : CV} (hx : opnd g x = .e (.one v)) {r : Shs} {ys : List (RowD r)} (hdat : dataOf B v = some ⟨r, ys⟩) (hsz : i.size = r.size) (hby : 0 < i.bytes) (hz : i.zero.map (·.cells.size) = some i.size)
    (hf : fits i.bytes 0 ys.length = true) {s : Nat} (hs : ¬ U s) :
    Res P W0 A Gv N (fun i => U i ∨ i = s) g (setB B s (some (.row e r ys false))) (one (.own s)) o a w := by
  have hdv := (hd ▸ h.opnd d : RepTV w (okS W0 A Gv ν B w) ν B (.e (.one (.val (.slice none 0 0)))) (a.eval d))
  have hdv : a.eval d = .slice none 0 0 := hdv.1
  have hv : RepCV w (okS W0 A Gv ν B w) ν B v (a.eval x) := (hx ▸ h.opnd x : RepTV w (okS W0 A Gv ν B w) ν B (.e (.one v)) (a.eval x))
  obtain ⟨Ad, c, css, h1, h2, h3, h4, h5⟩ := dataOf_rep h hv hdat
  obtain ⟨z, hz1, hz2⟩ := Option.map_eq_some_iff.1 hz
  obtain ⟨v', w', hrun, h6, h7, h8⟩ := run_append (P := P) (w := w) t o.type e i z r.size (elemT_eq ht) hi hz1 hsz (by rw [hz2, hsz]) r.size_pos hby (.slice none 0 0) 0 [] (World.ownsRow_nil w 0 e r.size) Ad ys.length c css.flatten (flat_len h4)
    (fun hp => by obtain ⟨ad, e1, _, _, hc⟩ := h5 hp; exact ⟨ad, e1, hc⟩) (flat_ones h4) hf
  simp only [Nat.zero_add, List.nil_append] at h6
  have hfr : ∀ y, ownB v' = some y → w.heap.size ≤ y := by
    intro y hy
    rw [ownB_own h6] at hy
    rcases h8 with h8 | h8
    · rw [h8] at hy; cases hy
    · rw [h8] at hy; cases hy; exact Nat.le_refl _
  obtain ⟨ν1, h9, h10⟩ := new_row h hs e h7 h4 h6 hfr
  refine ⟨_, _, _, ν1, ?_, .inl rfl, h9, h10, fun s' hs' => ?_⟩
  · simp [execOp, ho, resolve, invoke, builtin, hdv, h1, hrun]
  · rw [one_sites] at hs'
    simp only [CV.sites, List.mem_singleton] at hs'
    exact .inr hs'

/-- What is appended to, in memory. -/
theorem baseOf_rep (h : Sim W0 A Gv N U g B ν a w) {d : CV} {u : Value} (hd : RepCV w (okS W0 A Gv ν B w) ν B d u) {s : Nat} {r : Shs} {xs : List (RowD r)} (hb : baseOfApp B d = some (s, ⟨r, xs⟩)) :
    ∃ e ys css, B s = some (.row e r ys false) ∧ All2 (fun x cs => RepR w (okS W0 A Gv ν B w) r x cs) xs css ∧ w.ownsRow 0 e r.size u xs.length css.flatten ∧ (ownB u = none ∨ ownB u = ownB (ν s)) := by
  unfold baseOfApp at hb
  split at hb
  · rename_i s'
    split at hb
    · rename_i e r' ys hB
      simp only [Option.some.injEq, Prod.mk.injEq] at hb
      obtain ⟨rfl, hb⟩ := hb
      cases hb
      obtain ⟨_, hd⟩ := hd
      obtain ⟨_, rfl⟩ := hd _ hB
      obtain ⟨css, h2, h3, h4⟩ := h.bl _ _ hB
      exact ⟨e, _, css, hB, h2, h3, .inr rfl⟩
    · cases hb
  · rename_i s' n
    split at hb
    · rename_i e r' ys hB
      simp only [Option.some.injEq, Prod.mk.injEq] at hb
      obtain ⟨rfl, hb⟩ := hb
      cases hb
      obtain ⟨_, hd⟩ := hd
      obtain ⟨_, r1, m, Ad, c', he, hn0, hnm, hν, rfl⟩ := hd _ hB
      simp only [Blk.elems, Option.some.injEq, Prod.mk.injEq] at he
      obtain ⟨rfl, rfl⟩ := he
      obtain ⟨css, h2, h3, h4⟩ := h.bl _ _ hB
      have hlen : (ys.take n.toNat).length = n.toNat := by rw [List.length_take]; omega
      have htk := h2.take n.toNat
      refine ⟨e, _, css.take n.toNat, hB, htk, ?_, ?_⟩
      · refine ⟨flat_len htk, ?_⟩
        rw [hlen]
        rcases h3.2 with ⟨h5, h6⟩ | ⟨q, cap, cur, h5, h6, h7, h8, h9, h10, h11⟩
        · rw [h5] at hν
          simp only [Value.slice.injEq] at hν
          obtain ⟨rfl, _, rfl⟩ := hν
          have : n.toNat = 0 := by omega
          exact .inl ⟨by rw [this], this⟩
        · rw [h5] at hν
          simp only [Value.slice.injEq, true_and] at hν
          obtain ⟨rfl, rfl⟩ := hν
          refine .inr ⟨q, cap, cur, rfl, h6, h7, by omega, h9, h10, ?_⟩
          have e1 : css.flatten = (css.take n.toNat).flatten ++ (css.drop n.toNat).flatten := by rw [← List.flatten_append, List.take_append_drop]
          have e2 := flat_len htk
          rw [hlen] at e2
          have e3 : cur.toList.take (n.toNat * r.size) = (cur.toList.take (ys.length * r.size)).take (n.toNat * r.size) := by
            rw [List.take_take, Nat.min_eq_left (Nat.mul_le_mul_right _ (by omega))]
          rw [e3, h11, e1, ← e2]
          exact List.take_left
      · rw [hν]
        cases Ad with
        | none => exact .inl rfl
        | some ad => exact .inr rfl
    · cases hb
  · cases hb

theorem op_append_own (h : Sim W0 A Gv N U g B ν a w) (d x : Operand) (t : TypeId) (ho : o.op = .call { callee := .builtin .append, args := #[d, x], argTypes := #[t, t] }) {e : TypeId} (ht : elemT P t = some e) {i : TypeInfo} (hi : P.info? e = some i)
    {dv : CV} (hd : opnd g d = .e (.one dv)) {s0 : Nat} {r : Shs} {xs : List (RowD r)} (hb : baseOfApp B dv = some (s0, ⟨r, xs⟩)) (hrt : rowType B s0 = some e)
    {v : CV} (hx : opnd g x = .e (.one v)) {ys : List (RowD r)} (hdat : dataOf B v = some ⟨r, ys⟩) (hsz : i.size = r.size) (hby : 0 < i.bytes) (hz : i.zero.map (·.cells.size) = some i.size)
    (hf : fits i.bytes xs.length ys.length = true) {s : Nat} (hs : ¬ U s) :
    Res P W0 A Gv N (fun i => U i ∨ i = s) g (setB (setB B s (some (.row e r (xs ++ ys) false))) s0 none) (one (.own s)) o a w := by
  have hdv : RepCV w (okS W0 A Gv ν B w) ν B dv (a.eval d) := (hd ▸ h.opnd d : RepTV w (okS W0 A Gv ν B w) ν B (.e (.one dv)) (a.eval d))
  have hv : RepCV w (okS W0 A Gv ν B w) ν B v (a.eval x) := (hx ▸ h.opnd x : RepTV w (okS W0 A Gv ν B w) ν B (.e (.one v)) (a.eval x))
  obtain ⟨e', zs, css0, hB, hx0, hown0, hblk⟩ := baseOf_rep h hdv hb
  have he : e' = e := by
    unfold rowType at hrt
    rw [hB] at hrt
    exact Option.some.inj hrt
  subst he
  obtain ⟨Ad, c, css, h1, h2, h3, h4, h5⟩ := dataOf_rep h hv hdat
  obtain ⟨z, hz1, hz2⟩ := Option.map_eq_some_iff.1 hz
  obtain ⟨v', w', hrun, h6, h7, h8⟩ := run_append (P := P) (w := w) t o.type e' i z r.size (elemT_eq ht) hi hz1 hsz (by rw [hz2, hsz]) r.size_pos hby (a.eval d) xs.length css0.flatten hown0 Ad ys.length c css.flatten (flat_len h4)
    (fun hp => by obtain ⟨ad, e1, _, _, hc⟩ := h5 hp; exact ⟨ad, e1, hc⟩) (flat_ones h4) hf
  have hU0 : U s0 := (h.ub s0 _ hB).1
  have hne0 : s ≠ s0 := fun e1 => hs (e1 ▸ hU0)
  have hneU : ∀ i, U i → s ≠ i := fun i hi e1 => hs (e1 ▸ hi)
  have hBs : B s = none := by
    cases hb' : B s with
    | none => rfl
    | some b' => exact absurd (h.ub s b' hb').1 hs
  have hd1 : ownB (a.eval d) = (a.eval d).ownBlock := ownB_own hown0
  -- where the new row lies
  have hwhere : ∀ y, ownB v' = some y → y = w.heap.size ∨ ownB (ν s0) = some y := by
    intro y hy
    rw [ownB_own h6] at hy
    rcases h8 with h8 | h8
    · rw [h8, ← hd1] at hy
      rcases hblk with h9 | h9
      · rw [h9] at hy; cases hy
      · exact .inr (by rw [← h9]; exact hy)
    · rw [h8] at hy; cases hy; exact .inl rfl
  have hB1s : setB (setB B s (some (.row e' r (xs ++ ys) false))) s0 none s = some (.row e' r (xs ++ ys) false) := by rw [setB_ne _ _ (Ne.symm hne0), setB_eq]
  have hB10 : setB (setB B s (some (.row e' r (xs ++ ys) false))) s0 none s0 = none := setB_eq _ _ _
  have hB1o : ∀ j, j ≠ s → j ≠ s0 → setB (setB B s (some (.row e' r (xs ++ ys) false))) s0 none j = B j := fun j hj hj0 => by rw [setB_ne _ _ (Ne.symm hj0), setB_ne _ _ (Ne.symm hj)]
  have hsim : Sim W0 A Gv N (fun i => U i ∨ i = s) g (setB (setB B s (some (.row e' r (xs ++ ys) false))) s0 none) (setν ν s v') a w' := by
    refine h.step (Tc := fun i => i = s ∨ i = s0) (fun i hi => .inl hi) h7.os h7.tape h7.output h7.size (fun y hy hne => h7.block y hy fun e1 => ?_) (fun j hj => ⟨hB1o j (fun e1 => hj (.inl e1)) (fun e1 => hj (.inr e1)), fun hu => setν_ne _ _ (hneU j hu)⟩) ?_ ?_ ?_ ?_ ?_ ?_
    · rw [← hd1] at e1
      rcases hblk with h9 | h9
      · rw [h9] at e1; cases e1
      · rw [h9] at e1
        exact hne s0 _ (.inr rfl) hB rfl e1.symm
    · rintro j (rfl | rfl) hu
      · exact absurd hu hs
      · exact .inl hB10
    · rintro j b1 y (rfl | rfl) hb1 hm hy hl
      · rw [setν_eq] at hy
        rcases hwhere y hy with h9 | h9
        · omega
        · exact ⟨s0, _, .inr rfl, hB, rfl, h9⟩
      · rw [hB10] at hb1; cases hb1
    · rintro j b1 (rfl | rfl) hb1
      · rw [hB1s] at hb1
        cases hb1
        exact ⟨.inr rfl, fun y hy => by cases hy⟩
      · rw [hB10] at hb1; cases hb1
    · rintro hboth _ j b1 (rfl | rfl) hb1
      · rw [hB1s] at hb1
        cases hb1
        have hA := (hx0.append h4).imp fun x cs hx => RepR.move (fun y hy => (hboth y hy).2) (fun y hy => (hboth y hy).1) r x cs hx
        refine ⟨css0 ++ css, hA, ?_, fun y hy => ?_⟩
        · rw [setν_eq, List.length_append, List.flatten_append]
          exact h6
        · rw [setν_eq] at hy
          rcases hwhere y hy with h9 | h9
          · subst h9; exact .inl h.kept.size
          · exact ((h.bl s0 _ hB).own h9).1
      · rw [hB10] at hb1; cases hb1
    · rintro j j' b b' y (rfl | rfl) hb1 hb2 hy hy'
      · by_cases hj : j = j'
        · exact hj
        · exfalso
          have hj0 : j' ≠ s0 := by rintro rfl; rw [hB10] at hb2; cases hb2
          rw [hB1o j' (Ne.symm hj) hj0] at hb2
          rw [setν_eq] at hy
          rw [setν_ne _ _ hj] at hy'
          rcases hwhere y hy with h9 | h9
          · have := ((h.bl j' _ hb2).own hy').2; omega
          · exact hj0 (h.inj j' s0 _ _ y hb2 hB hy' h9)
      · rw [hB10] at hb1; cases hb1
    · intro j b b1 hj hb1 hb2
      rw [hB1o j (fun e1 => hj (.inl e1)) (fun e1 => hj (.inr e1)), hb1] at hb2
      exact (Option.some.inj hb2).symm
  refine ⟨_, _, _, _, ?_, .inl rfl, hsim, (⟨?_, fun b hb' => ?_⟩ : RepCV _ _ _ _ (.own s) v'), fun s' hs' => ?_⟩
  · simp [execOp, ho, resolve, invoke, builtin, h1, hrun]
  · obtain ⟨Ad', c', rfl, _⟩ := own_isSlice h6
    rfl
  · rw [hB1s] at hb'
    cases hb'
    exact ⟨rfl, (setν_eq _ _ _).symm⟩
  · rw [one_sites] at hs'
    simp only [CV.sites, List.mem_singleton] at hs'
    exact .inr hs'

end
end Go.Pi

/- Calls. -/
set_option linter.unusedVariables false
set_option linter.unusedSimpArgs false
namespace Go.Pi
open Go.RowKit

def RepP (w : World) (ok : Nat → Prop) (agg : Bool) (r : Shs) (x : RowD r) (v : Value) : Prop :=
  if agg = true then ∃ cs : List Value, v = .agg cs.toArray ∧ RepR w ok r x cs else RepR w ok r x [v]
def RepCaps (w : World) (ok : Nat → Prop) : (ks : List CapK) → CapsD ks → List Value → Prop
  | [], _, us => us = []
  | .dat s :: ks, x, us => ∃ u rest, us = u :: rest ∧ RepC w ok s x.1 u ∧ RepCaps w ok ks x.2 rest
  | .ref r :: ks, x, us => ∃ u rest, us = u :: rest ∧ RefP w ok r x.1 u ∧ RepCaps w ok ks x.2 rest
def RepA (w : World) (ok : Nat → Prop) : (ps : List PK) → ArgsD ps → List Value → Prop
  | [], _, vs => vs = []
  | .data agg r :: ps, x, vs => ∃ v rest, vs = v :: rest ∧ RepP w ok agg r x.1 v ∧ RepA w ok ps x.2 rest
  | .take e r :: ps, x, vs => ∃ v rest css, vs = v :: rest ∧ All2 (fun x cs => RepR w ok r x cs) x.1 css ∧ w.ownsRow 0 e r.size v (List.length x.1) css.flatten ∧ RepA w ok ps x.2 rest
  | .fn f :: ps, x, vs => ∃ rest, vs = .func (.func f) #[] #[] :: rest ∧ RepA w ok ps x.2 rest
  | .clo f ks :: ps, x, vs => ∃ us rest, vs = .func (.func f) #[] (List.toArray us) :: rest ∧ RepCaps w ok ks x.1 us ∧ RepA w ok ps x.2 rest
  | .ref r :: ps, x, vs => ∃ v rest, vs = v :: rest ∧ RefP w ok r x.1 v ∧ RepA w ok ps x.2 rest
  | .rev _ _ :: _, _, _ => False
/-- The values that are handed over for good. -/
def tkV : List PK → List Value → List Value
  | .take _ _ :: ps, v :: vs => v :: tkV ps vs
  | _ :: ps, _ :: vs => tkV ps vs
  | _, _ => []
def Apart (u v : Value) : Prop := ∀ x, ownB u = some x → ownB v ≠ some x
def GvOf (l : List Value) (x : Nat) : Prop := ∃ v ∈ l, ownB v = some x
def RK.isAgg (p : RK) : Bool := match p.row with
  | .one _ => p.agg
  | .cons _ _ => true
def RepO (w : World) (ok new : Nat → Prop) : (p : RK) → RowD p.row → Value → Prop
  | ⟨agg, r, none⟩, x, v => RepP w ok (RK.isAgg ⟨agg, r, none⟩) r x v
  | ⟨_, .one (.sl r), some e⟩, x, v => ∃ css, All2 (fun x cs => RepR w ok r x cs) x css ∧ w.ownsRow 0 e r.size v (List.length x) css.flatten ∧ ∀ y, ownB v = some y → new y
  | ⟨_, _, some _⟩, _, _ => False
def RepRs (w : World) (ok new : Nat → Prop) : (rs : List RK) → ResD rs → List Value → Prop
  | [], _, vs => vs = []
  | [p], x, vs => ∃ v, vs = [v] ∧ RepO w ok new p x v
  | p :: q :: l, x, vs => ∃ v rest, vs = v :: rest ∧ RepO w ok new p x.1 v ∧ RepRs w ok new (q :: l) x.2 rest
def owV : List RK → List Value → List Value
  | p :: rs, v :: vs => if p.own.isSome then v :: owV rs vs else owV rs vs
  | _, _ => []
def tupVal : List Value → Value
  | [v] => v
  | l => .tuple l.toArray
def okR (A Gv : Nat → Prop) (w w' : World) (ow : List Value) (x : Nat) : Prop := (A x ∨ Gv x ∨ w.heap.size ≤ x) ∧ x < w'.heap.size ∧ ¬ GvOf ow x

/-- A function that turns a slice's elements round in their place. -/
def Turns (P : Program) (n : FuncId) (e : TypeId) (r : Shs) : Prop :=
  (∀ (w : World) (g off m c : Nat) (t : TypeId) (cs0 cs1 : List Value) (css : List (List Value)), w.heap[g]? = some (.cells (cs0 ++ css.flatten ++ cs1).toArray t (0, 0)) → css.length = m → (∀ l ∈ css, l.length = r.size) → (∀ u ∈ css.flatten, u.oneCell' = true) →
    off = cs0.length → m ≤ maxLen → m ≤ c → 0 < m →
    Calls P n #[.slice (some ⟨g, off, none⟩) m c] w fun q w' => q = .returned (tupVal []) ∧ ∃ d, w' = { w.setRow g (cs0 ++ css.reverse.flatten ++ cs1).toArray with drawn := d }) ∧
  (∀ (w : World) (c : Nat) (A : Option Addr), Calls P n #[.slice A 0 c] w fun q w' => q = .returned (tupVal []) ∧ ∃ d, w' = { w with drawn := d })
/-- The function does what its Lean function says. -/
structure Holds (P : Program) (n : FuncId) (E : Ent) : Prop where
  turn : ∀ e r, E.ps = [.rev e r] → Turns P n e r
  there : ∃ fn, P.funcs[n]? = some fn ∧ fn.body.isNone = false ∧ (fn.name == "runtime.NumGoroutine") = false
  calls : ∀ (k : Nat) (x : ArgsD E.ps) (r : ResD E.rs) (vs : List Value) (w : World) (A : Nat → Prop), E.fn k x = some r →
    (∀ b, A b → b < w.heap.size ∧ ¬ GvOf (tkV E.ps vs) b) → (tkV E.ps vs).Pairwise Apart → RepA w A E.ps x vs →
    Calls P n vs.toArray w fun e w' => ∃ us, e = .returned (tupVal us) ∧ Kept w (GvOf (tkV E.ps vs)) w' ∧ (owV E.rs us).Pairwise Apart ∧
      RepRs w' (okR A (GvOf (tkV E.ps vs)) w w' (owV E.rs us)) (fun x => w.heap.size ≤ x ∨ GvOf (tkV E.ps vs) x) E.rs r us

mutual
theorem RepC.flat {w w1 : World} {ok ok1 : Nat → Prop} : ∀ (s : Sh) (x : CellD s) (v : Value), s.hasSl = false → RepC w ok s x v → RepC w1 ok1 s x v
  | .int _, _, _, _, h => by simpa only [RepC] using h
  | .bool, _, _, _, h => by simpa only [RepC] using h
  | .str, _, _, _, h => by simpa only [RepC] using h
  | .sl r, _, _, hs, _ => by simp [Sh.hasSl] at hs
theorem RepR.flat {w w1 : World} {ok ok1 : Nat → Prop} : ∀ (r : Shs) (x : RowD r) (cs : List Value), r.hasSl = false → RepR w ok r x cs → RepR w1 ok1 r x cs
  | .one s, x, cs, hs, h => by
    simp only [RepR, Shs.hasSl] at h hs ⊢
    obtain ⟨v, e, hv⟩ := h
    exact ⟨v, e, RepC.flat s x v hs hv⟩
  | .cons s r, x, cs, hs, h => by
    simp only [RepR, Shs.hasSl, Bool.or_eq_false_iff] at h hs ⊢
    obtain ⟨v, vs, e, hv, hr⟩ := h
    exact ⟨v, vs, e, RepC.flat s x.1 v hs.1 hv, RepR.flat r x.2 vs hs.2 hr⟩
end

section
variable {P : Program} {W0 : World} {A Gv : Nat → Prop} {N : Nat} {U : Nat → Prop} {g : Nat → TV} {B : Nat → Option Blk} {ν : Nat → Value} {a : Act} {w : World} {o : Oper}

theorem funOf_rep {ok : Nat → Prop} {t : TV} {f : FuncId} (hf : funOf t = some f) {v : Value} (hv : RepTV w ok ν B t v) : v = .func (.func f) #[] #[] := by
  unfold funOf at hf
  split at hf
  · rename_i f' a b
    split at hf
    · rename_i hab
      cases hf
      have e1 : a = #[] := Array.eq_empty_of_size_eq_zero hab.1
      have e2 : b = #[] := Array.eq_empty_of_size_eq_zero hab.2
      subst e1; subst e2
      exact hv.1
    · cases hf
  · cases hf

def lent1 : PK → TV → List Nat
  | .data _ _, .e x => x.cells.flatMap CV.rowSites
  | _, _ => []
theorem lentA_cons (p : PK) (ps : List PK) (t : TV) (ts : List TV) : lentA (p :: ps) (t :: ts) = lent1 p t ++ lentA ps ts := by
  cases p <;> cases t <;> rfl
def taken1 : PK → TV → List Nat
  | .take _ _, .e (.one (.own s)) => [s]
  | _, _ => []
theorem takenA_cons (p : PK) (ps : List PK) (t : TV) (ts : List TV) : takenA (p :: ps) (t :: ts) = taken1 p t ++ takenA ps ts := by
  cases p with
  | take e r =>
    cases t with
    | e x =>
      cases x with
      | one v => cases v <;> rfl
      | agg l => rfl
    | _ => rfl
  | _ => rfl

theorem pack1_true (B : Nat → Option Blk) (r : Shs) (t : TV) : (pack1 B (.data true r) t : Option (RowD r)) = match t with
    | .e (.agg l) => packR B r l
    | _ => none := rfl
theorem pack1_false (B : Nat → Option Blk) (r : Shs) (t : TV) : (pack1 B (.data false r) t : Option (RowD r)) = match t with
    | .e (.one v) => packR B r [v]
    | _ => none := rfl
theorem pack1_take (B : Nat → Option Blk) (e : TypeId) (r : Shs) (t : TV) : (pack1 B (.take e r) t : Option (List (RowD r))) = match t with
    | .e (.one (.own s)) => match B s with
      | some (.row e' r' xs false) => if e = e' then castRows r' r xs else none
      | _ => none
    | _ => none := rfl
theorem pack1_fn (B : Nat → Option Blk) (f : FuncId) (t : TV) : (pack1 B (.fn f) t : Option Unit) = match funOf t with
    | some f' => if f = f' then some () else none
    | none => none := rfl
def Rep1 (w : World) (ok : Nat → Prop) : (p : PK) → p.D → Value → Prop
  | .data agg r, x, v => RepP w ok agg r x v
  | .take e r, x, v => ∃ css, All2 (fun x cs => RepR w ok r x cs) x css ∧ w.ownsRow 0 e r.size v (List.length x) css.flatten
  | .fn f, _, v => v = .func (.func f) #[] #[]
  | .clo f ks, x, v => ∃ us : List Value, v = .func (.func f) #[] us.toArray ∧ RepCaps w ok ks x us
  | .ref r, x, v => RefP w ok r x v
  | .rev _ _, _, _ => False
theorem RepA.cons {w : World} {ok : Nat → Prop} {p : PK} {ps : List PK} {x : p.D} {y : ArgsD ps} {v : Value} {rest : List Value} (h1 : Rep1 w ok p x v) (h2 : RepA w ok ps y rest) :
    RepA w ok (p :: ps) (x, y) (v :: rest) := by
  cases p with
  | data agg r => exact ⟨v, rest, rfl, h1, h2⟩
  | take e r => obtain ⟨css, h3, h4⟩ := h1; exact ⟨v, rest, css, rfl, h3, h4, h2⟩
  | fn f => exact ⟨rest, by rw [show v = _ from h1], h2⟩
  | clo f ks => obtain ⟨us, h3, h4⟩ := h1; exact ⟨us, rest, by rw [h3], h4, h2⟩
  | ref r => exact ⟨v, rest, rfl, h1, h2⟩
  | rev e r => exact h1.elim

theorem pack_data (h : Sim W0 A Gv N U g B ν a w) {ok1 : Nat → Prop} (hok : ∀ x, okS W0 A Gv ν B w x → ok1 x) (agg : Bool) (r : Shs) {t : TV} {v : Value} (hv : RepTV w (okS W0 A Gv ν B w) ν B t v) (x : RowD r)
    (hl : ∀ s ∈ lent1 (.data agg r) t, ∀ e r xs fz y, B s = some (.row e r xs fz) → ownB (ν s) = some y → ok1 y) (hx : (pack1 B (.data agg r) t : Option (RowD r)) = some x) : RepP w ok1 agg r x v := by
  cases agg with
  | true =>
    cases t with
    | e y =>
      cases y with
      | agg l =>
        obtain ⟨vs, e, hl'⟩ := hv
        unfold RepP
        rw [if_pos rfl]
        exact ⟨vs, e, packR_rep h hok r l vs (fun s hs => hl s hs) x hx hl'⟩
      | one _ => exact nomatch hx
    | dead => exact nomatch hx
    | tup _ => exact nomatch hx
  | false =>
    cases t with
    | e y =>
      cases y with
      | one u =>
        unfold RepP
        rw [if_neg (by decide)]
        exact packR_rep h hok r [u] [v] (fun s hs => hl s hs) x hx ⟨hv, trivial⟩
      | agg _ => exact nomatch hx
    | dead => exact nomatch hx
    | tup _ => exact nomatch hx
theorem pack_take (h : Sim W0 A Gv N U g B ν a w) {ok1 : Nat → Prop} (hok : ∀ x, okS W0 A Gv ν B w x → ok1 x) (e : TypeId) (r : Shs) {t : TV} {v : Value} (hv : RepTV w (okS W0 A Gv ν B w) ν B t v) (x : List (RowD r))
    (hx : (pack1 B (.take e r) t : Option (List (RowD r))) = some x) : ∃ s, t = .e (.one (.own s)) ∧ v = ν s ∧ B s = some (.row e r x false) ∧ ∃ css, All2 (fun x cs => RepR w ok1 r x cs) x css ∧ w.ownsRow 0 e r.size v (List.length x) css.flatten := by
  have key : ∀ s, t = .e (.one (.own s)) → B s = some (.row e r x false) → ∃ s, t = .e (.one (.own s)) ∧ v = ν s ∧ B s = some (.row e r x false) ∧ ∃ css, All2 (fun x cs => RepR w ok1 r x cs) x css ∧ w.ownsRow 0 e r.size v (List.length x) css.flatten := by
    intro s ht hB
    subst ht
    obtain ⟨_, hv⟩ := hv
    obtain ⟨_, rfl⟩ := hv _ hB
    obtain ⟨css, h3, h4, h5⟩ := h.bl _ _ hB
    exact ⟨s, rfl, rfl, hB, css, h3.imp fun x cs hx => RepR.move (fun _ _ => rfl) hok _ x cs hx, h4⟩
  cases t with
  | dead => exact nomatch hx
  | tup _ => exact nomatch hx
  | e y =>
    cases y with
    | agg _ => exact nomatch hx
    | one c =>
      cases c with
      | own s =>
        refine key s rfl ?_
        cases hB : B s with
        | none => rw [pack1_take] at hx; simp only [hB] at hx; exact nomatch hx
        | some b =>
          rw [pack1_take] at hx
          simp only [hB] at hx
          cases b with
          | box _ _ => exact nomatch hx
          | arr _ _ _ _ => exact nomatch hx
          | row e' r' xs fz =>
            cases fz with
            | true => exact nomatch hx
            | false =>
              by_cases he : e = e'
              · subst he
                have hx' : castRows r' r xs = some x := by simp only [if_pos] at hx; exact hx
                obtain ⟨rfl, rfl⟩ := castRows_eq hx'
                rfl
              · simp [he] at hx
      | _ => exact nomatch hx

theorem plain_rows (c : CV) (h : plainC c = true) : c.rowSites = [] := by
  cases c with
  | c _ _ => rfl
  | _ => simp [plainC] at h
theorem toC_plain {B' : Nat → Option Blk} (s : Sh) (v : CV) (hv : plainC v = true) : v.toC B' s = v.toC B s := by
  cases v with
  | c _ _ => rfl
  | _ => simp [plainC] at hv
theorem packR_plain {B' : Nat → Option Blk} : ∀ (r : Shs) (l : List CV), l.all plainC = true → packR B' r l = packR B r l
  | .one s, [], _ => rfl
  | .one s, v :: l, hl => by
    simp only [List.all_cons, Bool.and_eq_true] at hl
    rw [packR_one, packR_one]
    simp only [toC_plain (B := B) (B' := B') s v hl.1]
  | .cons s r, [], _ => rfl
  | .cons s r, v :: l, hl => by
    simp only [List.all_cons, Bool.and_eq_true] at hl
    rw [packR_cons, packR_cons]
    simp only [toC_plain (B := B) (B' := B') s v hl.1, packR_plain r l hl.2]
/-- A variable of the call's own, read by another. -/
theorem boxD_rep (h : Sim W0 A Gv N U g B ν a w) {ok1 : Nat → Prop} (hok : ∀ x, okS W0 A Gv ν B w x → ok1 x) {s : Nat} {r : Shs} {x : RowD r} (hx : boxD B s r = some x) {v : Value} (hv : RepCap w (okS W0 A Gv ν B w) ν B (.ptr s 0) v)
    (hb : ∀ ty cells y, B s = some (.box ty cells) → ownB (ν s) = some y → ok1 y) : RefP w ok1 r x v := by
  unfold boxD at hx
  split at hx
  · rename_i ty cells hB
    cases hp : cells.all plainC with
    | false => rw [hp] at hx; cases hx
    | true =>
      rw [hp] at hx
      have hx' : packR B r cells = some x := by rw [← packR_plain r cells hp]; exact hx
      obtain ⟨q, vs, h1, h2, h3, h4⟩ := h.bl _ _ hB
      obtain ⟨_, hv⟩ := hv
      obtain ⟨_, q', h5, rfl⟩ := hv _ hB
      rw [h1] at h5
      simp only [Value.pointer.injEq, Option.some.injEq, Addr.mk.injEq, and_true] at h5
      subst h5
      refine ⟨⟨q, 0, none⟩, vs, rfl, rfl, hb _ _ _ hB (by rw [h1]; rfl), packR_rep h hok r cells vs (fun s' hs' => ?_) x hx' h4, fun j u hj => ?_⟩
      · exfalso
        obtain ⟨c, hc, hs'⟩ := List.mem_flatMap.1 hs'
        have := List.all_eq_true.1 hp c hc
        rw [plain_rows c this] at hs'
        cases hs'
      · rw [add_eq rfl, Nat.zero_add, cell_of_row w q j _ ty (0, 0) h3]
        simpa using hj
  · cases hx
theorem eptr_ref {ok : Nat → Prop} {r : Shs} {xs : List (RowD r)} {i : Int} {v : Value} (hv : RepCV w ok ν B (.eptr r xs i 0) v) : RefP w ok r (gd r.dflt xs i) v := by
  obtain ⟨ad, css, h1, h2, h3, h4, h5, h6, h7⟩ := hv
  obtain ⟨cs, h9, h10, h11⟩ := flat_at h4 i.toNat _ (gd_get (d := r.dflt) h6 h7)
  refine ⟨⟨ad.block, ad.off + i.toNat * r.size, none⟩, cs, by rw [h1, Nat.add_zero], rfl, h3, h10, fun j u hj => ?_⟩
  have := h5 _ _ (h11 j u hj)
  rw [add_eq h2, ← Nat.add_assoc] at this
  rw [add_eq rfl]
  exact this
theorem packCaps_rep (h : Sim W0 A Gv N U g B ν a w) {ok1 : Nat → Prop} (hok : ∀ x, okS W0 A Gv ν B w x → ok1 x) : ∀ (ks : List CapK) (caps : List Cap) (us : List Value) (x : CapsD ks), packCaps B ks caps = some x →
    All2 (RepCap w (okS W0 A Gv ν B w) ν B) caps us → (∀ s ∈ caps.flatMap Cap.boxes, ∀ ty cells y, B s = some (.box ty cells) → ownB (ν s) = some y → ok1 y) → RepCaps w ok1 ks x us
  | [], [], [], _, _, _, _ => rfl
  | [], [], _ :: _, _, _, h, _ => h.elim
  | [], _ :: _, _, _, hx, _, _ => by cases hx
  | _ :: _, [], _, _, hx, _, _ => by cases hx
  | _ :: _, _ :: _, [], _, _, h, _ => h.elim
  | k :: ks, c :: caps, u :: us, x, hx, hr, hb => by
    simp only [packCaps] at hx
    cases h1 : packCap B k c with
    | none => rw [h1] at hx; cases hx
    | some y =>
      cases h2 : packCaps B ks caps with
      | none => rw [h1, h2] at hx; cases hx
      | some z =>
        rw [h1, h2] at hx
        cases hx
        have ih := packCaps_rep h hok ks caps us z h2 hr.2 fun s hs => hb s (by rw [List.flatMap_cons]; exact List.mem_append.2 (.inr hs))
        cases k with
        | dat s =>
          cases c with
          | dat s' y' =>
            obtain ⟨e, rfl⟩ := castD_eq (show castD s' s y' = some y from h1)
            subst e
            exact ⟨u, us, rfl, RepC.move (fun _ _ => rfl) hok _ _ u hr.1, ih⟩
          | ptr _ _ => cases h1
          | ref _ _ => cases h1
        | ref r =>
          cases c with
          | dat _ _ => cases h1
          | ptr s off =>
            cases off with
            | zero => exact ⟨u, us, rfl, boxD_rep h hok (show boxD B s r = some y from h1) hr.1 (hb s (by rw [List.flatMap_cons]; exact List.mem_append.2 (.inl (by simp [Cap.boxes])))), ih⟩
            | succ _ => cases h1
          | ref r' y' =>
            have h1' : (match castRows r' r [y'] with | some ys => some (gd r.dflt ys 0) | none => none) = some y := h1
            split at h1'
            · rename_i ys hc
              obtain ⟨e, rfl⟩ := castRows_eq hc
              subst e
              cases h1'
              exact ⟨u, us, rfl, RefP.move (fun _ _ => rfl) hok hr.1, ih⟩
            · cases h1'
theorem pack_ref (h : Sim W0 A Gv N U g B ν a w) {ok1 : Nat → Prop} (hok : ∀ x, okS W0 A Gv ν B w x → ok1 x) (r : Shs) {t : TV} {v : Value} (hv : RepTV w (okS W0 A Gv ν B w) ν B t v) (x : RowD r)
    (hb : ∀ s ∈ box1 (.ref r) t, ∀ ty cells y, B s = some (.box ty cells) → ownB (ν s) = some y → ok1 y) (hx : (pack1 B (.ref r) t : Option (RowD r)) = some x) : RefP w ok1 r x v := by
  cases t with
  | dead => exact nomatch hx
  | tup _ => exact nomatch hx
  | e y =>
    cases y with
    | agg _ => exact nomatch hx
    | one c =>
      cases c with
      | ptr s off =>
        cases off with
        | zero => exact boxD_rep h hok (show boxD B s r = some x from hx) hv (hb s (by simp [box1]))
        | succ _ => exact nomatch hx
      | eptr r' xs i off =>
        cases off with
        | zero =>
          have hx' : (match castRows r' r xs with | some ys => some (gd r.dflt ys i) | none => none) = some x := hx
          split at hx'
          · rename_i ys hc
            obtain ⟨e, rfl⟩ := castRows_eq hc
            subst e
            cases hx'
            exact RefP.move (fun _ _ => rfl) hok (eptr_ref (ν := ν) (B := B) hv)
          · cases hx'
        | succ _ => exact nomatch hx
      | _ => exact nomatch hx

theorem pack1_rep (h : Sim W0 A Gv N U g B ν a w) {ok1 : Nat → Prop} (hok : ∀ x, okS W0 A Gv ν B w x → ok1 x) (p : PK) {t : TV} {v : Value} (hv : RepTV w (okS W0 A Gv ν B w) ν B t v) (x : p.D)
    (hl : ∀ s ∈ lent1 p t, ∀ e r xs fz y, B s = some (.row e r xs fz) → ownB (ν s) = some y → ok1 y) (hbx : ∀ s ∈ box1 p t, ∀ ty cells y, B s = some (.box ty cells) → ownB (ν s) = some y → ok1 y) (hx : pack1 B p t = some x) :
    Rep1 w ok1 p x v ∧ (∀ ps rest, tkV (p :: ps) (v :: rest) = (taken1 p t).map ν ++ tkV ps rest) ∧ ∀ s ∈ taken1 p t, ∃ e r xs, B s = some (.row e r xs false) := by
  cases p with
  | data agg r => exact ⟨pack_data h hok agg r hv x hl hx, fun _ _ => rfl, fun s hs => by simp [taken1] at hs⟩
  | take e r =>
    obtain ⟨s, rfl, rfl, hB, hr⟩ := pack_take h hok e r hv x hx
    refine ⟨hr, fun _ _ => rfl, fun s' hs' => ?_⟩
    simp only [taken1, List.mem_singleton] at hs'
    subst hs'
    exact ⟨_, _, _, hB⟩
  | fn f =>
    have hx' := hx
    rw [show pack1 B (.fn f) t = (pack1 B (.fn f) t : Option Unit) from rfl, pack1_fn] at hx'
    split at hx'
    · rename_i f' hf
      split at hx'
      · rename_i hff
        subst hff
        exact ⟨funOf_rep hf hv, fun _ _ => rfl, fun s hs => by simp [taken1] at hs⟩
      · cases hx'
    · cases hx'
  | ref r => exact ⟨pack_ref h hok r hv x hbx hx, fun _ _ => rfl, fun s hs => by simp [taken1] at hs⟩
  | rev e r => exact nomatch hx
  | clo f ks =>
    have hx' : (match cloOf t with | some q => cond (Nat.beq f q.1) (packCaps B ks q.2) none | none => none) = some x := hx
    split at hx'
    · rename_i q hq
      cases hf : Nat.beq f q.1 with
      | false => rw [hf] at hx'; cases hx'
      | true =>
        rw [hf] at hx'
        have hf := Nat.eq_of_beq_eq_true hf
        have ht : t = .e (.one (.clo q.1 q.2)) := by
          unfold cloOf at hq
          split at hq
          · cases hq; rfl
          · cases hq
        subst ht
        obtain ⟨us, h1, h2⟩ := hv
        exact ⟨⟨us, by rw [h1, hf], packCaps_rep h hok ks q.2 us x hx' h2 hbx⟩, fun _ _ => rfl, fun s hs => by simp [taken1] at hs⟩
    · cases hx'

/-- Arguments, in memory. ok1: what is read, and the call's own rows and variables that are lent. -/
theorem packA_rep (h : Sim W0 A Gv N U g B ν a w) {ok1 : Nat → Prop} (hok : ∀ x, okS W0 A Gv ν B w x → ok1 x) : ∀ (ps : List PK) (ts : List TV) (vs : List Value) (x : ArgsD ps), All2 (RepTV w (okS W0 A Gv ν B w) ν B) ts vs →
    (∀ s ∈ lentA ps ts, ∀ e r xs fz y, B s = some (.row e r xs fz) → ownB (ν s) = some y → ok1 y) → (∀ s ∈ boxA ps ts, ∀ ty cells y, B s = some (.box ty cells) → ownB (ν s) = some y → ok1 y) → packA B ps ts = some x →
    RepA w ok1 ps x vs ∧ (tkV ps vs) = (takenA ps ts).map ν ∧ ∀ s ∈ takenA ps ts, ∃ e r xs, B s = some (.row e r xs false)
  | [], [], [], x, _, _, _, hx => ⟨rfl, rfl, fun s hs => by cases hs⟩
  | [], [], _ :: _, x, hr, _, _, hx => hr.elim
  | [], _ :: _, _, x, _, _, _, hx => by simp [packA] at hx
  | p :: ps, [], _, x, _, _, _, hx => by simp [packA] at hx
  | p :: ps, _ :: _, [], x, hr, _, _, hx => hr.elim
  | p :: ps, y :: as, v :: vs, x, hr, hl, hb, hx => by
    simp only [packA] at hx
    rw [lentA_cons] at hl
    have hb' : ∀ s ∈ box1 p y ++ boxA ps as, ∀ ty cells y, B s = some (.box ty cells) → ownB (ν s) = some y → ok1 y := hb
    cases h1 : pack1 B p y with
    | none => rw [h1] at hx; cases hx
    | some u =>
      cases h2 : packA B ps as with
      | none => rw [h1, h2] at hx; cases hx
      | some z =>
        rw [h1, h2] at hx
        cases hx
        have ih := packA_rep h hok ps as vs z hr.2 (fun s hs => hl s (List.mem_append.2 (.inr hs))) (fun s hs => hb' s (List.mem_append.2 (.inr hs))) h2
        obtain ⟨h3, h4, h5⟩ := pack1_rep h hok p hr.1 u (fun s hs => hl s (List.mem_append.2 (.inl hs))) (fun s hs => hb' s (List.mem_append.2 (.inl hs))) h1
        refine ⟨RepA.cons h3 ih.1, by rw [h4, ih.2.1, takenA_cons, List.map_append], fun s hs => ?_⟩
        rw [takenA_cons, List.mem_append] at hs
        rcases hs with hs | hs
        · exact h5 s hs
        · exact ih.2.2 s hs

end
end Go.Pi

/- Calls: results. -/
set_option linter.unusedVariables false
set_option linter.unusedSimpArgs false
namespace Go.Pi
open Go.RowKit

abbrev RQ := (p : RK) × RowD p.row
def resL : (rs : List RK) → ResD rs → List RQ
  | [], _ => []
  | [p], x => [⟨p, x⟩]
  | p :: q :: l, x => ⟨p, x.1⟩ :: resL (q :: l) x.2
def goV : Nat → List RQ → List EV
  | _, [] => []
  | b, q :: l => resV.one1 q.1 b q.2 :: goV (b + 1) l
def goW : Nat → List RQ → List (Nat × Option Blk)
  | _, [] => []
  | b, q :: l => resW.one1 q.1 b q.2 ++ goW (b + 1) l
def goO : List RQ → List Value → List Value
  | q :: l, v :: vs => if q.1.own.isSome then v :: goO l vs else goO l vs
  | _, _ => []

theorem resV_go : ∀ (rs : List RK) (b : Nat) (x : ResD rs), resV b rs x = goV b (resL rs x)
  | [], _, _ => rfl
  | [_], _, _ => rfl
  | p :: q :: l, b, x => by
    show _ :: resV (b + 1) (q :: l) x.2 = _ :: goV (b + 1) (resL (q :: l) x.2)
    rw [resV_go (q :: l)]
theorem resW_go : ∀ (rs : List RK) (b : Nat) (x : ResD rs), resW b rs x = goW b (resL rs x)
  | [], _, _ => rfl
  | [p], b, x => (List.append_nil _).symm
  | p :: q :: l, b, x => by
    show _ ++ resW (b + 1) (q :: l) x.2 = _ ++ goW (b + 1) (resL (q :: l) x.2)
    rw [resW_go (q :: l)]
theorem RepRs_go {w : World} {ok new : Nat → Prop} : ∀ (rs : List RK) (x : ResD rs) (vs : List Value), RepRs w ok new rs x vs ↔ All2 (fun (q : RQ) v => RepO w ok new q.1 q.2 v) (resL rs x) vs
  | [], _, vs => by
    cases vs with
    | nil => exact ⟨fun _ => trivial, fun _ => rfl⟩
    | cons v vs => exact ⟨fun h => (nomatch (show (v :: vs) = [] from h)), fun h => h.elim⟩
  | [p], x, vs => by
    cases vs with
    | nil => exact ⟨fun ⟨_, h, _⟩ => (nomatch h), fun h => h.elim⟩
    | cons v vs =>
      constructor
      · rintro ⟨u, e, h⟩
        cases e
        exact ⟨h, trivial⟩
      · rintro ⟨h, h2⟩
        cases vs with
        | nil => exact ⟨v, rfl, h⟩
        | cons _ _ => exact h2.elim
  | p :: q :: l, x, vs => by
    cases vs with
    | nil => exact ⟨fun ⟨_, _, h, _⟩ => (nomatch h), fun h => h.elim⟩
    | cons v vs =>
      constructor
      · rintro ⟨u, rest, e, h, h2⟩
        cases e
        exact ⟨h, (RepRs_go (q :: l) x.2 vs).1 h2⟩
      · rintro ⟨h, h2⟩
        exact ⟨v, vs, rfl, h, (RepRs_go (q :: l) x.2 vs).2 h2⟩
theorem owV_go : ∀ (rs : List RK) (x : ResD rs) (vs : List Value), owV rs vs = goO (resL rs x) vs
  | [], _, _ => rfl
  | [p], x, vs => by
    cases vs with
    | nil => rfl
    | cons v vs => cases vs <;> rfl
  | p :: q :: l, x, vs => by
    cases vs with
    | nil => rfl
    | cons v vs =>
      show (if p.own.isSome then v :: owV (q :: l) vs else owV (q :: l) vs) = (if p.own.isSome then v :: goO (resL (q :: l) x.2) vs else goO (resL (q :: l) x.2) vs)
      rw [owV_go (q :: l) x.2]
theorem resL_len : ∀ (rs : List RK) (x : ResD rs), (resL rs x).length = rs.length
  | [], _ => rfl
  | [_], _ => rfl
  | p :: q :: l, x => by
    show (resL (q :: l) x.2).length + 1 = _
    rw [resL_len (q :: l)]
    rfl
theorem resL_mem : ∀ (rs : List RK) (x : ResD rs) (q : RQ), q ∈ resL rs x → q.1 ∈ rs
  | [], _, _, h => nomatch h
  | [p], x, q, h => by
    rw [List.mem_singleton.1 h]
    simp
  | p :: q' :: l, x, q, h => by
    rcases List.mem_cons.1 h with rfl | h
    · simp
    · exact List.mem_cons_of_mem _ (resL_mem (q' :: l) x.2 q h)

/-- A new row among the results. -/
theorem one1_row {p : RK} {b : Nat} {x : RowD p.row} {s : Nat} {bl : Option Blk} (h : (s, bl) ∈ resW.one1 p b x) :
    s = b ∧ p.own.isSome = true ∧ ∃ e r xs, bl = some (.row e r xs false) ∧ p.leaks = r.hasSl ∧ ∀ (w : World) (ok new : Nat → Prop) v, RepO w ok new p x v →
      ∃ css, All2 (fun x cs => RepR w ok r x cs) xs css ∧ w.ownsRow 0 e r.size v xs.length css.flatten ∧ ∀ y, ownB v = some y → new y := by
  unfold resW.one1 at h
  split at h
  · rename_i agg r e x
    simp only [List.mem_singleton, Prod.mk.injEq] at h
    obtain ⟨rfl, rfl⟩ := h
    exact ⟨rfl, rfl, e, r, x, rfl, rfl, fun w ok new v hr => hr⟩
  · cases h

theorem goW_lk : ∀ (l : List RQ) (b s : Nat) (bl : Option Blk), lk (goW b l) s = some bl → ∃ j q, l[j]? = some q ∧ s = b + j ∧ (s, bl) ∈ resW.one1 q.1 s q.2
  | [], _, _, _, h => nomatch h
  | q :: l, b, s, bl, h => by
    have hm := lk_mem h
    by_cases hin : (s, bl) ∈ resW.one1 q.1 b q.2
    · have := (one1_row hin).1
      subst this
      exact ⟨0, q, rfl, rfl, hin⟩
    · have : lk (goW (b + 1) l) s = some bl := by
        cases ho : resW.one1 q.1 b q.2 with
        | nil => simpa [goW, ho] using h
        | cons p t =>
          have ht : t = [] := by
            unfold resW.one1 at ho
            split at ho
            · cases ho; rfl
            · cases ho
          subst ht
          obtain ⟨j, y⟩ := p
          rw [goW, ho] at h
          simp only [List.singleton_append] at h
          by_cases hj : j = s
          · subst hj
            rw [lk_cons_eq] at h
            cases h
            exact absurd (by rw [ho]; simp) hin
          · rwa [lk_cons_ne hj] at h
      obtain ⟨j, q', h1, h2, h3⟩ := goW_lk l (b + 1) s bl this
      exact ⟨j + 1, q', by simpa using h1, by omega, h3⟩

theorem goO_mem : ∀ (l : List RQ) (vs : List Value) (j : Nat) (q : RQ) (v : Value), l[j]? = some q → vs[j]? = some v → q.1.own.isSome = true → v ∈ goO l vs
  | [], _, j, q, v, h, _, _ => by simp at h
  | _ :: _, [], j, q, v, _, h, _ => by simp at h
  | q0 :: l, v0 :: vs, 0, q, v, h1, h2, h3 => by
    simp at h1 h2
    subst h1; subst h2
    simp [goO, h3]
  | q0 :: l, v0 :: vs, j + 1, q, v, h1, h2, h3 => by
    simp at h1 h2
    have := goO_mem l vs j q v h1 h2 h3
    unfold goO
    split
    · exact List.mem_cons_of_mem _ this
    · exact this
theorem goO_apart : ∀ (l : List RQ) (vs : List Value) (i j : Nat) (q q' : RQ) (v v' : Value), (goO l vs).Pairwise Apart → i < j → l[i]? = some q → l[j]? = some q' → vs[i]? = some v → vs[j]? = some v' →
    q.1.own.isSome = true → q'.1.own.isSome = true → Apart v v'
  | [], _, i, j, _, _, _, _, _, _, h, _, _, _, _, _ => by simp at h
  | _ :: _, [], i, j, _, _, _, _, _, _, _, _, h, _, _, _ => by simp at h
  | q0 :: l, v0 :: vs, 0, 0, _, _, _, _, _, hl, _, _, _, _, _, _ => by omega
  | q0 :: l, v0 :: vs, 0, j + 1, q, q', v, v', hp, hl, h1, h2, h3, h4, h5, h6 => by
    simp at h1 h2 h3 h4
    subst h1; subst h3
    have := goO_mem l vs j q' v' h2 h4 h6
    unfold goO at hp
    rw [if_pos h5] at hp
    exact (List.pairwise_cons.1 hp).1 _ this
  | q0 :: l, v0 :: vs, i + 1, 0, _, _, _, _, _, hl, _, _, _, _, _, _ => by omega
  | q0 :: l, v0 :: vs, i + 1, j + 1, q, q', v, v', hp, hl, h1, h2, h3, h4, h5, h6 => by
    simp at h1 h2 h3 h4
    refine goO_apart l vs i j q q' v v' ?_ (by omega) h1 h2 h3 h4 h5 h6
    unfold goO at hp
    split at hp
    · exact (List.pairwise_cons.1 hp).2
    · exact hp

theorem own_cell {w : World} {base : Nat} {e : TypeId} {size n : Nat} {v : Value} {xs : List Value} (h : w.ownsRow base e size v n xs) : v.oneCell' = true := by
  obtain ⟨Ad, c, rfl, _⟩ := own_isSlice h
  rfl

/-- A result, as the executor's value. -/
theorem one1_rep {w : World} {ok new : Nat → Prop} {ν : Nat → Value} {B : Nat → Option Blk} {p : RK} {b : Nat} {x : RowD p.row} {v : Value} (h : RepO w ok new p x v)
    (hB : p.own.isSome = true → ∀ bl, B b = some bl → bl.isRow = true ∧ v = ν b) : RepEV w ok ν B (resV.one1 p b x) v := by
  obtain ⟨agg, row, own⟩ := p
  cases own with
  | some e =>
    refine ⟨?_, hB rfl⟩
    cases row with
    | cons s r => exact h.elim
    | one s =>
      cases s with
      | sl r => obtain ⟨css, _, h2, _⟩ := h; exact own_cell h2
      | _ => exact h.elim
  | none =>
    cases row with
    | one s =>
      cases agg with
      | true =>
        have h' : RepP w ok true (.one s) x v := h
        unfold RepP at h'
        rw [if_pos rfl] at h'
        obtain ⟨cs, e, hr⟩ := h'
        exact ⟨cs, e, unpack_rep hr⟩
      | false =>
        have h' : RepP w ok false (.one s) x v := h
        unfold RepP at h'
        rw [if_neg (by decide)] at h'
        simp only [RepR] at h'
        obtain ⟨u, e, hr⟩ := h'
        cases e
        exact hr
    | cons s r =>
      have h' : RepP w ok true (.cons s r) x v := h
      unfold RepP at h'
      rw [if_pos rfl] at h'
      obtain ⟨cs, e, hr⟩ := h'
      cases agg <;> exact ⟨cs, e, unpack_rep hr⟩

theorem one1_sites {p : RK} {b : Nat} {x : RowD p.row} {s : Nat} (h : s ∈ (resV.one1 p b x).sites) : s = b ∧ p.own.isSome = true := by
  obtain ⟨agg, row, own⟩ := p
  cases own with
  | some e => exact ⟨by simpa [resV.one1, EV.sites, EV.cells, CV.sites] using h, rfl⟩
  | none =>
    exfalso
    cases row with
    | one s' =>
      cases agg with
      | true =>
        simp only [resV.one1, EV.sites, EV.cells, if_true, List.mem_flatMap] at h
        obtain ⟨c, hc, hs⟩ := h
        rw [unpack_sites hc] at hs
        cases hs
      | false => simp [resV.one1, EV.sites, EV.cells, CV.sites] at h
    | cons s' r =>
      cases agg <;>
      · simp only [resV.one1, EV.sites, EV.cells, List.mem_flatMap] at h
        obtain ⟨c, hc, hs⟩ := h
        rw [unpack_sites hc] at hs
        cases hs

theorem goV_rep {w : World} {ok new : Nat → Prop} {ν : Nat → Value} {B : Nat → Option Blk} : ∀ (l : List RQ) (b : Nat) (vs : List Value), All2 (fun (q : RQ) v => RepO w ok new q.1 q.2 v) l vs →
    (∀ j q v, l[j]? = some q → vs[j]? = some v → q.1.own.isSome = true → ∀ bl, B (b + j) = some bl → bl.isRow = true ∧ v = ν (b + j)) → All2 (RepEV w ok ν B) (goV b l) vs
  | [], _, [], _, _ => trivial
  | q :: l, b, v :: vs, h, hB => ⟨one1_rep h.1 (hB 0 q v rfl rfl), goV_rep l (b + 1) vs h.2 fun j q' v' h1 h2 h3 bl hb => by
      have := hB (j + 1) q' v' (by simpa using h1) (by simpa using h2) h3 bl (by rw [← hb]; congr 1; omega)
      rw [show b + 1 + j = b + (j + 1) by omega]
      exact this⟩
  | [], _, _ :: _, h, _ => h.elim
  | _ :: _, _, [], h, _ => h.elim
theorem goV_sites : ∀ (l : List RQ) (b s : Nat), s ∈ (goV b l).flatMap EV.sites → ∃ j, j < l.length ∧ s = b + j
  | [], _, _, h => nomatch h
  | q :: l, b, s, h => by
    simp only [goV, List.flatMap_cons, List.mem_append] at h
    rcases h with h | h
    · exact ⟨0, by simp, (one1_sites h).1⟩
    · obtain ⟨j, h1, h2⟩ := goV_sites l (b + 1) s h
      exact ⟨j + 1, by simp; omega, by omega⟩
theorem tupV_rep {w : World} {ok : Nat → Prop} {ν : Nat → Value} {B : Nat → Option Blk} {l : List EV} {vs : List Value} (h : All2 (RepEV w ok ν B) l vs) : RepTV w ok ν B (tupV l) (tupVal vs) := by
  cases l with
  | nil =>
    cases vs with
    | nil => exact ⟨[], rfl, trivial⟩
    | cons _ _ => exact h.elim
  | cons x l =>
    cases vs with
    | nil => exact h.elim
    | cons v vs =>
      cases l with
      | nil =>
        cases vs with
        | nil => exact h.1
        | cons _ _ => exact h.2.elim
      | cons y l =>
        cases vs with
        | nil => exact h.2.elim
        | cons u vs => exact ⟨v :: u :: vs, rfl, h⟩
theorem tupV_sites {l : List EV} {s : Nat} (h : s ∈ (tupV l).sites) : s ∈ l.flatMap EV.sites := by
  cases l with
  | nil => exact h
  | cons x l =>
    cases l with
    | nil => simpa [tupV, TV.sites] using h
    | cons y l => exact h

end Go.Pi

/- Calls: the state after a call. -/
set_option linter.unusedVariables false
set_option linter.unusedSimpArgs false
namespace Go.Pi
open Go.RowKit

theorem lk_append {α : Type} : ∀ (l m : List (Nat × α)) (s : Nat), lk (l ++ m) s = match lk l s with | some x => some x | none => lk m s
  | [], _, _ => rfl
  | (j, x) :: l, m, s => by
    by_cases hj : j = s
    · subst hj
      rw [List.cons_append, lk_cons_eq, lk_cons_eq]
    · rw [List.cons_append, lk_cons_ne hj, lk_cons_ne hj]
      exact lk_append l m s
theorem updB_append (l m : List (Nat × Option Blk)) (B : Nat → Option Blk) : updB (l ++ m) B = updB l (updB m B) := by
  funext s
  unfold updB
  rw [lk_append]
  cases lk l s <;> rfl
theorem lk_none_map (tk : List Nat) (s : Nat) : lk (tk.map fun s => (s, (none : Option Blk))) s = if s ∈ tk then some none else none := by
  induction tk with
  | nil => rfl
  | cons j l ih =>
    by_cases hj : j = s
    · subst hj
      simp [lk_cons_eq]
    · rw [List.map_cons, lk_cons_ne hj, ih]
      simp [Ne.symm hj]

theorem RepP.flat {w w1 : World} {ok ok1 : Nat → Prop} {agg : Bool} {r : Shs} {x : RowD r} {v : Value} (hs : r.hasSl = false) (h : RepP w ok agg r x v) : RepP w1 ok1 agg r x v := by
  unfold RepP at h ⊢
  split
  · rename_i e
    rw [if_pos e] at h
    obtain ⟨cs, e, h⟩ := h
    exact ⟨cs, e, RepR.flat r x cs hs h⟩
  · rename_i e
    rw [if_neg e] at h
    exact RepR.flat r x _ hs h
theorem RepP.move {w w1 : World} {ok ok1 : Nat → Prop} (hm : ∀ g, ok g → w1.heap[g]? = w.heap[g]?) (ho : ∀ g, ok g → ok1 g) {agg : Bool} {r : Shs} {x : RowD r} {v : Value} (h : RepP w ok agg r x v) : RepP w1 ok1 agg r x v := by
  unfold RepP at h ⊢
  split
  · rename_i e
    rw [if_pos e] at h
    obtain ⟨cs, e, h⟩ := h
    exact ⟨cs, e, RepR.move hm ho r x cs h⟩
  · rename_i e
    rw [if_neg e] at h
    exact RepR.move hm ho r x _ h
theorem RepO.flat {w : World} {ok ok1 new : Nat → Prop} {p : RK} {x : RowD p.row} {v : Value} (hs : p.leaks = false) (h : RepO w ok new p x v) : RepO w ok1 new p x v := by
  obtain ⟨agg, row, own⟩ := p
  cases own with
  | none => exact RepP.flat (w := w) (r := row) hs h
  | some e =>
    cases row with
    | cons s r => exact h.elim
    | one s =>
      cases s with
      | sl r =>
        obtain ⟨css, h1, h2⟩ := h
        exact ⟨css, h1.imp fun x cs hx => RepR.flat r x cs hs hx, h2⟩
      | _ => exact h.elim
theorem RepO.mono {w : World} {ok ok1 new new1 : Nat → Prop} (ho : ∀ g, ok g → ok1 g) (hn : ∀ g, new g → new1 g) {p : RK} {x : RowD p.row} {v : Value} (h : RepO w ok new p x v) : RepO w ok1 new1 p x v := by
  obtain ⟨agg, row, own⟩ := p
  cases own with
  | none => exact RepP.move (fun _ _ => rfl) ho h
  | some e =>
    cases row with
    | cons s r => exact h.elim
    | one s =>
      cases s with
      | sl r =>
        obtain ⟨css, h1, h2, h3⟩ := h
        exact ⟨css, h1.imp fun x cs hx => RepR.move (fun _ _ => rfl) ho r x cs hx, h2, fun y hy => hn y (h3 y hy)⟩
      | _ => exact h.elim

section
variable {P : Program} {W0 : World} {A Gv : Nat → Prop} {N : Nat} {U : Nat → Prop} {g : Nat → TV} {B : Nat → Option Blk} {ν : Nat → Value} {a : Act} {w : World} {o : Oper}

theorem Sim.okLt (h : Sim W0 A Gv N U g B ν a w) {x : Nat} (hx : okS W0 A Gv ν B w x) : x < w.heap.size := by
  rcases hx with ha | ⟨_, h1, _⟩
  · have := h.old x ha; have := h.kept.size; omega
  · exact h1

theorem Sim.called (h : Sim W0 A Gv N U g B ν a w) {rs : List RK} {r : ResD rs} {tk : List Nat} {us : List Value} {w' : World} {base : Nat} {A' : Nat → Prop}
    (htk : ∀ s ∈ tk, ∃ e r xs, B s = some (.row e r xs false)) (hbase : ∀ j, j < rs.length → ¬ U (base + j)) (hkept : Kept w (GvOf (tk.map ν)) w')
    (hap : (owV rs us).Pairwise Apart) (hA : rs.any RK.leaks = true → ∀ x, A' x → okS W0 A Gv ν B w x)
    (hres : RepRs w' (okR A' (GvOf (tk.map ν)) w w' (owV rs us)) (fun x => w.heap.size ≤ x ∨ GvOf (tk.map ν) x) rs r us) :
    ∃ ν1, Sim W0 A Gv N (fun i => U i ∨ ∃ j, j < rs.length ∧ i = base + j) g (updB (resW base rs r ++ tk.map fun s => (s, none)) B) ν1 a w' ∧
      RepTV w' (okS W0 A Gv ν1 (updB (resW base rs r ++ tk.map fun s => (s, none)) B) w') ν1 (updB (resW base rs r ++ tk.map fun s => (s, none)) B) (tupV (resV base rs r)) (tupVal us) ∧
      ∀ s ∈ (tupV (resV base rs r)).sites, U s ∨ ∃ j, j < rs.length ∧ s = base + j := by
  have hres2 := (RepRs_go rs r us).1 hres
  rw [owV_go rs r us] at hap hres2
  have hlen : us.length = rs.length := by rw [← hres2.len, resL_len]
  rw [resW_go, resV_go]
  have hleak : ∀ q : RQ, q ∈ resL rs r → rs.any RK.leaks = false → q.1.leaks = false := by
    intro q hq hn
    have := resL_mem rs r q hq
    cases hl : q.1.leaks with
    | false => rfl
    | true => exact absurd (List.any_eq_true.2 ⟨_, this, hl⟩) (by simp [hn])
  have hq' := resL_len rs r
  generalize resL rs r = l at *
  generalize hν1 : (fun s => if base ≤ s ∧ s < base + rs.length then us.getD (s - base) undef else ν s) = ν1
  generalize hB1 : updB (goW base l ++ tk.map fun s => (s, (none : Option Blk))) B = B1
  have hnew : ∀ j, j < rs.length → ν1 (base + j) = us.getD j undef := by
    intro j hj
    subst hν1
    simp [hj]
  have hold : ∀ s, U s → ν1 s = ν s := by
    intro s hs
    subst hν1
    simp only [ite_eq_right_iff]
    intro hh
    exact absurd hs (by have := hbase (s - base) (by omega); rwa [show base + (s - base) = s by omega] at this)
  have htkU : ∀ s ∈ tk, U s := by
    intro s hs
    obtain ⟨e, r, xs, hb⟩ := htk s hs
    exact (h.ub s _ hb).1
  -- what B1 holds
  have hB : ∀ s, (∃ j q bl, l[j]? = some q ∧ s = base + j ∧ j < rs.length ∧ (s, bl) ∈ resW.one1 q.1 s q.2 ∧ B1 s = bl) ∨ (s ∈ tk ∧ B1 s = none) ∨ (s ∉ tk ∧ B1 s = B s ∧ lk (goW base l) s = none) := by
    intro s
    subst hB1
    unfold updB
    rw [lk_append]
    cases hl : lk (goW base l) s with
    | some bl =>
      obtain ⟨j, q, h1, h2, h3⟩ := goW_lk l base s bl hl
      have : j < l.length := (List.getElem?_eq_some_iff.1 h1).1
      exact .inl ⟨j, q, bl, h1, h2, by omega, h3, rfl⟩
    | none =>
      rw [lk_none_map]
      by_cases hs : s ∈ tk
      · exact .inr (.inl ⟨hs, by simp [hs]⟩)
      · exact .inr (.inr ⟨hs, by simp [hs], rfl⟩)
  have hrow : ∀ j q bl s, l[j]? = some q → s = base + j → (s, bl) ∈ resW.one1 q.1 s q.2 → ∃ v, us[j]? = some v ∧ ν1 s = v ∧ q.1.own.isSome = true ∧ ∃ e r xs css, (bl = some (.row e r xs false) ∧ q.1.leaks = r.hasSl) ∧
      All2 (fun x cs => RepR w' (okR A' (GvOf (tk.map ν)) w w' (goO l us)) r x cs) xs css ∧ w'.ownsRow 0 e r.size v xs.length css.flatten ∧ ∀ y, ownB v = some y → w.heap.size ≤ y ∨ GvOf (tk.map ν) y := by
    intro j q bl s h1 h2 h3
    subst h2
    obtain ⟨v, hv, hr⟩ := hres2.get j q h1
    have hj : j < rs.length := by have := (List.getElem?_eq_some_iff.1 h1).1; omega
    obtain ⟨-, h4, e, r, xs, h5, h5', h6⟩ := one1_row h3
    obtain ⟨css, h7, h8, h9⟩ := h6 _ _ _ _ hr
    refine ⟨v, hv, by rw [hnew j hj]; simp [hv], h4, e, r, xs, css, ⟨h5, h5'⟩, h7, h8, h9⟩
  have hdisj : ∀ j, j < rs.length → base + j ∉ tk := fun j hj hs => hbase j hj (htkU _ hs)
  have hgv : ∀ x, GvOf (tk.map ν) x → ∃ s ∈ tk, ownB (ν s) = some x := by
    rintro x ⟨v, hv, hx⟩
    obtain ⟨s, hs, rfl⟩ := List.mem_map.1 hv
    exact ⟨s, hs, hx⟩
  -- an own row of an old site is none of the new ones
  have hsep : ∀ s b x, s ∉ tk → B s = some b → ownB (ν s) = some x → x < w.heap.size ∧ ¬ GvOf (tk.map ν) x := by
    intro s b x hs hb hx
    refine ⟨((h.bl s b hb).own hx).2, fun hg => ?_⟩
    obtain ⟨s', hs', hx'⟩ := hgv x hg
    obtain ⟨e, r, xs, hb'⟩ := htk s' hs'
    exact hs (h.inj s s' _ _ x hb hb' hx hx' ▸ hs')
  have hmain : Sim W0 A Gv N (fun i => U i ∨ ∃ j, j < rs.length ∧ i = base + j) g B1 ν1 a w' := by
    refine h.step (Tc := fun s => s ∈ tk ∨ ∃ j, j < rs.length ∧ s = base + j) (fun i hi => .inl hi) hkept.os hkept.tape hkept.output hkept.size ?_ ?_ ?_ ?_ ?_ ?_ ?_ ?_
    · intro x hx hno
      refine hkept.block x hx fun hg => ?_
      obtain ⟨s, hs, hx'⟩ := hgv x hg
      obtain ⟨e, r, xs, hb⟩ := htk s hs
      exact hno s _ (.inl hs) hb rfl hx'
    · intro s hs
      rcases hB s with ⟨j, q, bl, h1, h2, h3, h4, h5⟩ | ⟨h1, h2⟩ | ⟨h1, h2, h3⟩
      · exact absurd (.inr ⟨j, h3, h2⟩) hs
      · exact absurd (.inl h1) hs
      · exact ⟨h2, hold s⟩
    · rintro s (hs | ⟨j, hj, rfl⟩) hu
      · rcases hB s with ⟨j, q, bl, h1, h2, h3, h4, h5⟩ | ⟨h1, h2⟩ | ⟨h1, h2⟩
        · exact absurd (h2 ▸ hs) (hdisj j h3)
        · exact .inl h2
        · exact absurd hs h1
      · exact absurd hu (hbase j hj)
    · intro s b1 x hs hb1 hm hx hl
      rcases hB s with ⟨j, q, bl, h1, h2, h3, h4, h5⟩ | ⟨h1, h2⟩ | ⟨h1, h2, h3⟩
      · obtain ⟨v, hv, hν, ho, e, r, xs, css, ⟨hbl, hlr⟩, h6, h7, h8⟩ := hrow j q bl s h1 h2 h4
        rw [hν] at hx
        rcases h8 x hx with h9 | h9
        · omega
        · obtain ⟨s', hs', hx'⟩ := hgv x h9
          obtain ⟨e, r, xs, hb'⟩ := htk s' hs'
          exact ⟨s', _, .inl hs', hb', rfl, hx'⟩
      · rw [h2] at hb1; cases hb1
      · rcases hs with hs | ⟨j, hj, rfl⟩
        · exact absurd hs h1
        · rw [h2] at hb1
          exact absurd (h.ub _ _ hb1).1 (hbase j hj)
    · intro s b1 hs hb1
      rcases hB s with ⟨j, q, bl, h1, h2, h3, h4, h5⟩ | ⟨h1, h2⟩ | ⟨h1, h2, h3⟩
      · obtain ⟨v, hv, hν, ho, e, r, xs, css, ⟨hbl, hlr⟩, h6, h7, h8⟩ := hrow j q bl s h1 h2 h4
        rw [h5, hbl] at hb1
        cases hb1
        exact ⟨.inr ⟨j, h3, h2⟩, fun x hx => by cases hx⟩
      · rw [h2] at hb1; cases hb1
      · rcases hs with hs | ⟨j, hj, rfl⟩
        · exact absurd hs h1
        · rw [h2] at hb1
          exact absurd (h.ub _ _ hb1).1 (hbase j hj)
    · intro hboth _ s b1 hs hb1
      rcases hB s with ⟨j, q, bl, h1, h2, h3, h4, h5⟩ | ⟨h1, h2⟩ | ⟨h1, h2, h3⟩
      · obtain ⟨v, hv, hν, ho, e, r, xs, css, ⟨hbl, hlr⟩, h6, h7, h8⟩ := hrow j q bl s h1 h2 h4
        rw [h5, hbl] at hb1
        cases hb1
        refine ⟨css, ?_, by rw [hν]; exact h7, fun y hy => ?_⟩
        · cases hlk : rs.any RK.leaks with
          | false =>
            have := hleak q (List.mem_of_getElem? h1) hlk
            have hrsl : r.hasSl = false := hlr ▸ this
            exact h6.imp fun x cs hx => RepR.flat r x cs hrsl hx
          | true =>
            refine h6.imp fun x cs hx => RepR.move (fun _ _ => rfl) (fun y hy => ?_) r x cs hx
            obtain ⟨hy1, hy2, hy3⟩ := hy
            by_cases hAy : A' y
            · exact (hboth y (hA hlk y hAy)).1
            · have hfr : freshS W0 Gv y := by
                rcases hy1 with h9 | h9 | h9
                · exact absurd h9 hAy
                · obtain ⟨s', hs', hx'⟩ := hgv y h9
                  obtain ⟨e, r, xs, hb'⟩ := htk s' hs'
                  exact ((h.bl s' _ hb').own hx').1
                · exact .inl (Nat.le_trans h.kept.size h9)
              refine .inr ⟨hfr, hy2, fun s' b' hb' hm' hx' => ?_⟩
              rcases hB s' with ⟨j', q', bl', g1, g2, g3, g4, g5⟩ | ⟨g1, g2⟩ | ⟨g1, g2, g3⟩
              · obtain ⟨v', hv', hν', ho', _⟩ := hrow j' q' bl' s' g1 g2 g4
                rw [hν'] at hx'
                exact hy3 ⟨v', goO_mem l us j' q' v' g1 hv' ho', hx'⟩
              · rw [g2] at hb'; cases hb'
              · rw [g2] at hb'
                rw [hold s' (h.ub s' _ hb').1] at hx'
                have := hsep s' b' y g1 hb' hx'
                rcases hy1 with h9 | h9 | h9
                · exact hAy h9
                · exact this.2 h9
                · omega
        · rw [hν] at hy
          rcases h8 y hy with h9 | h9
          · exact .inl (Nat.le_trans h.kept.size h9)
          · obtain ⟨s', hs', hx'⟩ := hgv y h9
            obtain ⟨e, r, xs, hb'⟩ := htk s' hs'
            exact ((h.bl s' _ hb').own hx').1
      · rw [h2] at hb1; cases hb1
      · rcases hs with hs | ⟨j, hj, rfl⟩
        · exact absurd hs h1
        · rw [h2] at hb1
          exact absurd (h.ub _ _ hb1).1 (hbase j hj)
    · intro s s' b b' x hs hb hb' hx hx'
      rcases hB s with ⟨j, q, bl, h1, h2, h3, h4, h5⟩ | ⟨h1, h2⟩ | ⟨h1, h2, h3⟩
      · obtain ⟨v, hv, hν, ho, e, r, xs, css, ⟨hbl, hlr⟩, h6, h7, h8⟩ := hrow j q bl s h1 h2 h4
        rw [hν] at hx
        rcases hB s' with ⟨j', q', bl', g1, g2, g3, g4, g5⟩ | ⟨g1, g2⟩ | ⟨g1, g2, g3⟩
        · obtain ⟨v', hv', hν', ho', _⟩ := hrow j' q' bl' s' g1 g2 g4
          rw [hν'] at hx'
          rcases Nat.lt_trichotomy j j' with hl | hl | hl
          · exact absurd hx' (goO_apart l us j j' q q' v v' hap hl h1 g1 hv hv' ho ho' x hx)
          · rw [h2, g2, hl]
          · exact absurd hx (goO_apart l us j' j q' q v' v hap hl g1 h1 hv' hv ho' ho x hx')
        · rw [g2] at hb'; cases hb'
        · exfalso
          rw [g2] at hb'
          rw [hold s' (h.ub s' _ hb').1] at hx'
          have := hsep s' b' x g1 hb' hx'
          rcases h8 x hx with h9 | h9
          · omega
          · exact this.2 h9
      · rw [h2] at hb; cases hb
      · rcases hs with hs | ⟨j, hj, rfl⟩
        · exact absurd hs h1
        · rw [h2] at hb
          exact absurd (h.ub _ _ hb).1 (hbase j hj)
    · intro s b b1 hs hb hb1
      rcases hB s with ⟨j, q, bl, h1, h2, h3, h4, h5⟩ | ⟨h1, h2⟩ | ⟨h1, h2, h3⟩
      · exact absurd (.inr ⟨j, h3, h2⟩) hs
      · exact absurd (.inl h1) hs
      · rw [h2, hb] at hb1
        exact (Option.some.inj hb1).symm
  refine ⟨ν1, hmain, tupV_rep ?_, fun s hs => ?_⟩
  · -- the results
    have hgo : ∀ x, okS W0 A Gv ν B w x → okS W0 A Gv ν1 B1 w' x := by
      intro x hx
      have hlt := h.okLt hx
      rcases hx with ha | ⟨h1, h2, h3⟩
      · exact .inl ha
      · refine .inr ⟨h1, by have := hkept.size; omega, fun s b hb hm hxs => ?_⟩
        rcases hB s with ⟨j, q, bl, g1, g2, g3, g4, g5⟩ | ⟨g1, g2⟩ | ⟨g1, g2, g3⟩
        · obtain ⟨v, hv, hν, ho, e, r, xs, css, ⟨hbl, hlr⟩, h6, h7, h8⟩ := hrow j q bl s g1 g2 g4
          rw [hν] at hxs
          rcases h8 x hxs with h9 | h9
          · omega
          · obtain ⟨s', hs', hx'⟩ := hgv x h9
            obtain ⟨e, r, xs, hb'⟩ := htk s' hs'
            exact h3 s' _ hb' rfl hx'
        · rw [g2] at hb; cases hb
        · rw [g2] at hb
          rw [hold s (h.ub s _ hb).1] at hxs
          exact h3 s b hb hm hxs
    have hall : All2 (fun (q : RQ) v => RepO w' (okS W0 A Gv ν1 B1 w') (fun x => w.heap.size ≤ x ∨ GvOf (tk.map ν) x) q.1 q.2 v) l us := by
      refine hres2.impMem fun q v hq hr => ?_
      cases hlk : rs.any RK.leaks with
      | false => exact RepO.flat (hleak q hq hlk) hr
      | true =>
        refine RepO.mono (fun y hy => ?_) (fun _ h => h) hr
        obtain ⟨hy1, hy2, hy3⟩ := hy
        by_cases hAy : A' y
        · exact hgo y (hA hlk y hAy)
        · have hfr : freshS W0 Gv y := by
            rcases hy1 with h9 | h9 | h9
            · exact absurd h9 hAy
            · obtain ⟨s', hs', hx'⟩ := hgv y h9
              obtain ⟨e, r, xs, hb'⟩ := htk s' hs'
              exact ((h.bl s' _ hb').own hx').1
            · exact .inl (Nat.le_trans h.kept.size h9)
          refine .inr ⟨hfr, hy2, fun s' b' hb' hm' hx' => ?_⟩
          rcases hB s' with ⟨j', q', bl', g1, g2, g3, g4, g5⟩ | ⟨g1, g2⟩ | ⟨g1, g2, g3⟩
          · obtain ⟨v', hv', hν', ho', _⟩ := hrow j' q' bl' s' g1 g2 g4
            rw [hν'] at hx'
            exact hy3 ⟨v', goO_mem l us j' q' v' g1 hv' ho', hx'⟩
          · rw [g2] at hb'; cases hb'
          · rw [g2] at hb'
            rw [hold s' (h.ub s' _ hb').1] at hx'
            have := hsep s' b' y g1 hb' hx'
            rcases hy1 with h9 | h9 | h9
            · exact hAy h9
            · exact this.2 h9
            · omega
    refine goV_rep l base us hall fun j q v h1 h2 h3 bl hb => ?_
    have hj : j < rs.length := by have := (List.getElem?_eq_some_iff.1 h1).1; omega
    rcases hB (base + j) with ⟨j', q', bl', g1, g2, g3, g4, g5⟩ | ⟨g1, g2⟩ | ⟨g1, g2, g3⟩
    · have hjj : j' = j := by omega
      subst hjj
      obtain ⟨v', hv', hν', ho', e, r, xs, css, ⟨hbl, _⟩, _⟩ := hrow j' q' bl' (base + j') g1 rfl g4
      rw [h2] at hv'
      cases hv'
      rw [g5, hbl] at hb
      cases hb
      exact ⟨rfl, hν'.symm⟩
    · exact absurd g1 (hdisj j hj)
    · rw [g2] at hb
      exact absurd (h.ub _ _ hb).1 (hbase j hj)
  · obtain ⟨j, h1, h2⟩ := goV_sites l base s (tupV_sites hs)
    exact .inr ⟨j, by omega, h2⟩

end
end Go.Pi
