/- Calls: the state after a call. -/
import Derived.Test.YtgofapkelhccgaaPi18
set_option linter.unusedVariables false
set_option linter.unusedSimpArgs false
namespace Go.Pi
open Go.RowKit

theorem lk_append {α : Type} : ∀ (l m : List (Nat × α)) (s : Nat), lk (l ++ m) s = match lk l s with | some x => some x | none => lk m s
  | [], _, _ => rfl
  | (j, x) :: l, m, s => by
    by_cases hj : j = s
    · subst hj
      rw [List.cons_append, lk_cons_eq, lk_cons_eq]
    · rw [List.cons_append, lk_cons_ne hj, lk_cons_ne hj]
      exact lk_append l m s
theorem updB_append (l m : List (Nat × Option Blk)) (B : Nat → Option Blk) : updB (l ++ m) B = updB l (updB m B) := by
  funext s
  unfold updB
  rw [lk_append]
  cases lk l s <;> rfl
theorem lk_none_map (tk : List Nat) (s : Nat) : lk (tk.map fun s => (s, (none : Option Blk))) s = if s ∈ tk then some none else none := by
  induction tk with
  | nil => rfl
  | cons j l ih =>
    by_cases hj : j = s
    · subst hj
      simp [lk_cons_eq]
    · rw [List.map_cons, lk_cons_ne hj, ih]
      simp [Ne.symm hj]

theorem RepP.flat {w w1 : World} {ok ok1 : Nat → Prop} {agg : Bool} {r : Shs} {x : RowD r} {v : Value} (hs : r.hasSl = false) (h : RepP w ok agg r x v) : RepP w1 ok1 agg r x v := by
  unfold RepP at h ⊢
  split
  · rename_i e
    rw [if_pos e] at h
    obtain ⟨cs, e, h⟩ := h
    exact ⟨cs, e, RepR.flat r x cs hs h⟩
  · rename_i e
    rw [if_neg e] at h
    exact RepR.flat r x _ hs h
theorem RepP.move {w w1 : World} {ok ok1 : Nat → Prop} (hm : ∀ g, ok g → w1.heap[g]? = w.heap[g]?) (ho : ∀ g, ok g → ok1 g) {agg : Bool} {r : Shs} {x : RowD r} {v : Value} (h : RepP w ok agg r x v) : RepP w1 ok1 agg r x v := by
  unfold RepP at h ⊢
  split
  · rename_i e
    rw [if_pos e] at h
    obtain ⟨cs, e, h⟩ := h
    exact ⟨cs, e, RepR.move hm ho r x cs h⟩
  · rename_i e
    rw [if_neg e] at h
    exact RepR.move hm ho r x _ h
theorem RepO.flat {w : World} {ok ok1 new : Nat → Prop} {p : RK} {x : RowD p.row} {v : Value} (hs : p.leaks = false) (h : RepO w ok new p x v) : RepO w ok1 new p x v := by
  obtain ⟨agg, row, own⟩ := p
  cases own with
  | none => exact RepP.flat (w := w) (r := row) hs h
  | some e =>
    cases row with
    | cons s r => exact h.elim
    | one s =>
      cases s with
      | sl r =>
        obtain ⟨css, h1, h2⟩ := h
        exact ⟨css, h1.imp fun x cs hx => RepR.flat r x cs hs hx, h2⟩
      | _ => exact h.elim
theorem RepO.mono {w : World} {ok ok1 new new1 : Nat → Prop} (ho : ∀ g, ok g → ok1 g) (hn : ∀ g, new g → new1 g) {p : RK} {x : RowD p.row} {v : Value} (h : RepO w ok new p x v) : RepO w ok1 new1 p x v := by
  obtain ⟨agg, row, own⟩ := p
  cases own with
  | none => exact RepP.move (fun _ _ => rfl) ho h
  | some e =>
    cases row with
    | cons s r => exact h.elim
    | one s =>
      cases s with
      | sl r =>
        obtain ⟨css, h1, h2, h3⟩ := h
        exact ⟨css, h1.imp fun x cs hx => RepR.move (fun _ _ => rfl) ho r x cs hx, h2, fun y hy => hn y (h3 y hy)⟩
      | _ => exact h.elim

section
variable {P : Program} {W0 : World} {A Gv : Nat → Prop} {N : Nat} {U : Nat → Prop} {g : Nat → TV} {B : Nat → Option Blk} {ν : Nat → Value} {a : Act} {w : World} {o : Oper}

theorem Sim.okLt (h : Sim W0 A Gv N U g B ν a w) {x : Nat} (hx : okS W0 A Gv ν B w x) : x < w.heap.size := by
  rcases hx with ha | ⟨_, h1, _⟩
  · have := h.old x ha; have := h.kept.size; omega
  · exact h1

theorem Sim.called (h : Sim W0 A Gv N U g B ν a w) {rs : List RK} {r : ResD rs} {tk : List Nat} {us : List Value} {w' : World} {base : Nat} {A' : Nat → Prop}
    (htk : ∀ s ∈ tk, ∃ e r xs, B s = some (.row e r xs false)) (hbase : ∀ j, j < rs.length → ¬ U (base + j)) (hkept : Kept w (GvOf (tk.map ν)) w')
    (hap : (owV rs us).Pairwise Apart) (hA : rs.any RK.leaks = true → ∀ x, A' x → okS W0 A Gv ν B w x)
    (hres : RepRs w' (okR A' (GvOf (tk.map ν)) w w' (owV rs us)) (fun x => w.heap.size ≤ x ∨ GvOf (tk.map ν) x) rs r us) :
    ∃ ν1, Sim W0 A Gv N (fun i => U i ∨ ∃ j, j < rs.length ∧ i = base + j) g (updB (resW base rs r ++ tk.map fun s => (s, none)) B) ν1 a w' ∧
      RepTV w' (okS W0 A Gv ν1 (updB (resW base rs r ++ tk.map fun s => (s, none)) B) w') ν1 (updB (resW base rs r ++ tk.map fun s => (s, none)) B) (tupV (resV base rs r)) (tupVal us) ∧
      ∀ s ∈ (tupV (resV base rs r)).sites, U s ∨ ∃ j, j < rs.length ∧ s = base + j := by
  have hres2 := (RepRs_go rs r us).1 hres
  rw [owV_go rs r us] at hap hres2
  have hlen : us.length = rs.length := by rw [← hres2.len, resL_len]
  rw [resW_go, resV_go]
  have hleak : ∀ q : RQ, q ∈ resL rs r → rs.any RK.leaks = false → q.1.leaks = false := by
    intro q hq hn
    have := resL_mem rs r q hq
    cases hl : q.1.leaks with
    | false => rfl
    | true => exact absurd (List.any_eq_true.2 ⟨_, this, hl⟩) (by simp [hn])
  have hq' := resL_len rs r
  generalize resL rs r = l at *
  generalize hν1 : (fun s => if base ≤ s ∧ s < base + rs.length then us.getD (s - base) undef else ν s) = ν1
  generalize hB1 : updB (goW base l ++ tk.map fun s => (s, (none : Option Blk))) B = B1
  have hnew : ∀ j, j < rs.length → ν1 (base + j) = us.getD j undef := by
    intro j hj
    subst hν1
    simp [hj]
  have hold : ∀ s, U s → ν1 s = ν s := by
    intro s hs
    subst hν1
    simp only [ite_eq_right_iff]
    intro hh
    exact absurd hs (by have := hbase (s - base) (by omega); rwa [show base + (s - base) = s by omega] at this)
  have htkU : ∀ s ∈ tk, U s := by
    intro s hs
    obtain ⟨e, r, xs, hb⟩ := htk s hs
    exact (h.ub s _ hb).1
  -- what B1 holds
  have hB : ∀ s, (∃ j q bl, l[j]? = some q ∧ s = base + j ∧ j < rs.length ∧ (s, bl) ∈ resW.one1 q.1 s q.2 ∧ B1 s = bl) ∨ (s ∈ tk ∧ B1 s = none) ∨ (s ∉ tk ∧ B1 s = B s ∧ lk (goW base l) s = none) := by
    intro s
    subst hB1
    unfold updB
    rw [lk_append]
    cases hl : lk (goW base l) s with
    | some bl =>
      obtain ⟨j, q, h1, h2, h3⟩ := goW_lk l base s bl hl
      have : j < l.length := (List.getElem?_eq_some_iff.1 h1).1
      exact .inl ⟨j, q, bl, h1, h2, by omega, h3, rfl⟩
    | none =>
      rw [lk_none_map]
      by_cases hs : s ∈ tk
      · exact .inr (.inl ⟨hs, by simp [hs]⟩)
      · exact .inr (.inr ⟨hs, by simp [hs], rfl⟩)
  have hrow : ∀ j q bl s, l[j]? = some q → s = base + j → (s, bl) ∈ resW.one1 q.1 s q.2 → ∃ v, us[j]? = some v ∧ ν1 s = v ∧ q.1.own.isSome = true ∧ ∃ e r xs css, (bl = some (.row e r xs false) ∧ q.1.leaks = r.hasSl) ∧
      All2 (fun x cs => RepR w' (okR A' (GvOf (tk.map ν)) w w' (goO l us)) r x cs) xs css ∧ w'.ownsRow 0 e r.size v xs.length css.flatten ∧ ∀ y, ownB v = some y → w.heap.size ≤ y ∨ GvOf (tk.map ν) y := by
    intro j q bl s h1 h2 h3
    subst h2
    obtain ⟨v, hv, hr⟩ := hres2.get j q h1
    have hj : j < rs.length := by have := (List.getElem?_eq_some_iff.1 h1).1; omega
    obtain ⟨-, h4, e, r, xs, h5, h5', h6⟩ := one1_row h3
    obtain ⟨css, h7, h8, h9⟩ := h6 _ _ _ _ hr
    refine ⟨v, hv, by rw [hnew j hj]; simp [hv], h4, e, r, xs, css, ⟨h5, h5'⟩, h7, h8, h9⟩
  have hdisj : ∀ j, j < rs.length → base + j ∉ tk := fun j hj hs => hbase j hj (htkU _ hs)
  have hgv : ∀ x, GvOf (tk.map ν) x → ∃ s ∈ tk, ownB (ν s) = some x := by
    rintro x ⟨v, hv, hx⟩
    obtain ⟨s, hs, rfl⟩ := List.mem_map.1 hv
    exact ⟨s, hs, hx⟩
  -- an own row of an old site is none of the new ones
  have hsep : ∀ s b x, s ∉ tk → B s = some b → ownB (ν s) = some x → x < w.heap.size ∧ ¬ GvOf (tk.map ν) x := by
    intro s b x hs hb hx
    refine ⟨((h.bl s b hb).own hx).2, fun hg => ?_⟩
    obtain ⟨s', hs', hx'⟩ := hgv x hg
    obtain ⟨e, r, xs, hb'⟩ := htk s' hs'
    exact hs (h.inj s s' _ _ x hb hb' hx hx' ▸ hs')
  have hmain : Sim W0 A Gv N (fun i => U i ∨ ∃ j, j < rs.length ∧ i = base + j) g B1 ν1 a w' := by
    refine h.step (Tc := fun s => s ∈ tk ∨ ∃ j, j < rs.length ∧ s = base + j) (fun i hi => .inl hi) hkept.os hkept.tape hkept.output hkept.size ?_ ?_ ?_ ?_ ?_ ?_ ?_ ?_
    · intro x hx hno
      refine hkept.block x hx fun hg => ?_
      obtain ⟨s, hs, hx'⟩ := hgv x hg
      obtain ⟨e, r, xs, hb⟩ := htk s hs
      exact hno s _ (.inl hs) hb rfl hx'
    · intro s hs
      rcases hB s with ⟨j, q, bl, h1, h2, h3, h4, h5⟩ | ⟨h1, h2⟩ | ⟨h1, h2, h3⟩
      · exact absurd (.inr ⟨j, h3, h2⟩) hs
      · exact absurd (.inl h1) hs
      · exact ⟨h2, hold s⟩
    · rintro s (hs | ⟨j, hj, rfl⟩) hu
      · rcases hB s with ⟨j, q, bl, h1, h2, h3, h4, h5⟩ | ⟨h1, h2⟩ | ⟨h1, h2⟩
        · exact absurd (h2 ▸ hs) (hdisj j h3)
        · exact .inl h2
        · exact absurd hs h1
      · exact absurd hu (hbase j hj)
    · intro s b1 x hs hb1 hm hx hl
      rcases hB s with ⟨j, q, bl, h1, h2, h3, h4, h5⟩ | ⟨h1, h2⟩ | ⟨h1, h2, h3⟩
      · obtain ⟨v, hv, hν, ho, e, r, xs, css, ⟨hbl, hlr⟩, h6, h7, h8⟩ := hrow j q bl s h1 h2 h4
        rw [hν] at hx
        rcases h8 x hx with h9 | h9
        · omega
        · obtain ⟨s', hs', hx'⟩ := hgv x h9
          obtain ⟨e, r, xs, hb'⟩ := htk s' hs'
          exact ⟨s', _, .inl hs', hb', rfl, hx'⟩
      · rw [h2] at hb1; cases hb1
      · rcases hs with hs | ⟨j, hj, rfl⟩
        · exact absurd hs h1
        · rw [h2] at hb1
          exact absurd (h.ub _ _ hb1).1 (hbase j hj)
    · intro s b1 hs hb1
      rcases hB s with ⟨j, q, bl, h1, h2, h3, h4, h5⟩ | ⟨h1, h2⟩ | ⟨h1, h2, h3⟩
      · obtain ⟨v, hv, hν, ho, e, r, xs, css, ⟨hbl, hlr⟩, h6, h7, h8⟩ := hrow j q bl s h1 h2 h4
        rw [h5, hbl] at hb1
        cases hb1
        exact ⟨.inr ⟨j, h3, h2⟩, fun x hx => by cases hx⟩
      · rw [h2] at hb1; cases hb1
      · rcases hs with hs | ⟨j, hj, rfl⟩
        · exact absurd hs h1
        · rw [h2] at hb1
          exact absurd (h.ub _ _ hb1).1 (hbase j hj)
    · intro hboth _ s b1 hs hb1
      rcases hB s with ⟨j, q, bl, h1, h2, h3, h4, h5⟩ | ⟨h1, h2⟩ | ⟨h1, h2, h3⟩
      · obtain ⟨v, hv, hν, ho, e, r, xs, css, ⟨hbl, hlr⟩, h6, h7, h8⟩ := hrow j q bl s h1 h2 h4
        rw [h5, hbl] at hb1
        cases hb1
        refine ⟨css, ?_, by rw [hν]; exact h7, fun y hy => ?_⟩
        · cases hlk : rs.any RK.leaks with
          | false =>
            have := hleak q (List.mem_of_getElem? h1) hlk
            have hrsl : r.hasSl = false := hlr ▸ this
            exact h6.imp fun x cs hx => RepR.flat r x cs hrsl hx
          | true =>
            refine h6.imp fun x cs hx => RepR.move (fun _ _ => rfl) (fun y hy => ?_) r x cs hx
            obtain ⟨hy1, hy2, hy3⟩ := hy
            by_cases hAy : A' y
            · exact (hboth y (hA hlk y hAy)).1
            · have hfr : freshS W0 Gv y := by
                rcases hy1 with h9 | h9 | h9
                · exact absurd h9 hAy
                · obtain ⟨s', hs', hx'⟩ := hgv y h9
                  obtain ⟨e, r, xs, hb'⟩ := htk s' hs'
                  exact ((h.bl s' _ hb').own hx').1
                · exact .inl (Nat.le_trans h.kept.size h9)
              refine .inr ⟨hfr, hy2, fun s' b' hb' hm' hx' => ?_⟩
              rcases hB s' with ⟨j', q', bl', g1, g2, g3, g4, g5⟩ | ⟨g1, g2⟩ | ⟨g1, g2, g3⟩
              · obtain ⟨v', hv', hν', ho', _⟩ := hrow j' q' bl' s' g1 g2 g4
                rw [hν'] at hx'
                exact hy3 ⟨v', goO_mem l us j' q' v' g1 hv' ho', hx'⟩
              · rw [g2] at hb'; cases hb'
              · rw [g2] at hb'
                rw [hold s' (h.ub s' _ hb').1] at hx'
                have := hsep s' b' y g1 hb' hx'
                rcases hy1 with h9 | h9 | h9
                · exact hAy h9
                · exact this.2 h9
                · omega
        · rw [hν] at hy
          rcases h8 y hy with h9 | h9
          · exact .inl (Nat.le_trans h.kept.size h9)
          · obtain ⟨s', hs', hx'⟩ := hgv y h9
            obtain ⟨e, r, xs, hb'⟩ := htk s' hs'
            exact ((h.bl s' _ hb').own hx').1
      · rw [h2] at hb1; cases hb1
      · rcases hs with hs | ⟨j, hj, rfl⟩
        · exact absurd hs h1
        · rw [h2] at hb1
          exact absurd (h.ub _ _ hb1).1 (hbase j hj)
    · intro s s' b b' x hs hb hb' hx hx'
      rcases hB s with ⟨j, q, bl, h1, h2, h3, h4, h5⟩ | ⟨h1, h2⟩ | ⟨h1, h2, h3⟩
      · obtain ⟨v, hv, hν, ho, e, r, xs, css, ⟨hbl, hlr⟩, h6, h7, h8⟩ := hrow j q bl s h1 h2 h4
        rw [hν] at hx
        rcases hB s' with ⟨j', q', bl', g1, g2, g3, g4, g5⟩ | ⟨g1, g2⟩ | ⟨g1, g2, g3⟩
        · obtain ⟨v', hv', hν', ho', _⟩ := hrow j' q' bl' s' g1 g2 g4
          rw [hν'] at hx'
          rcases Nat.lt_trichotomy j j' with hl | hl | hl
          · exact absurd hx' (goO_apart l us j j' q q' v v' hap hl h1 g1 hv hv' ho ho' x hx)
          · rw [h2, g2, hl]
          · exact absurd hx (goO_apart l us j' j q' q v' v hap hl g1 h1 hv' hv ho' ho x hx')
        · rw [g2] at hb'; cases hb'
        · exfalso
          rw [g2] at hb'
          rw [hold s' (h.ub s' _ hb').1] at hx'
          have := hsep s' b' x g1 hb' hx'
          rcases h8 x hx with h9 | h9
          · omega
          · exact this.2 h9
      · rw [h2] at hb; cases hb
      · rcases hs with hs | ⟨j, hj, rfl⟩
        · exact absurd hs h1
        · rw [h2] at hb
          exact absurd (h.ub _ _ hb).1 (hbase j hj)
    · intro s b b1 hs hb hb1
      rcases hB s with ⟨j, q, bl, h1, h2, h3, h4, h5⟩ | ⟨h1, h2⟩ | ⟨h1, h2, h3⟩
      · exact absurd (.inr ⟨j, h3, h2⟩) hs
      · exact absurd (.inl h1) hs
      · rw [h2, hb] at hb1
        exact (Option.some.inj hb1).symm
  refine ⟨ν1, hmain, tupV_rep ?_, fun s hs => ?_⟩
  · -- the results
    have hgo : ∀ x, okS W0 A Gv ν B w x → okS W0 A Gv ν1 B1 w' x := by
      intro x hx
      have hlt := h.okLt hx
      rcases hx with ha | ⟨h1, h2, h3⟩
      · exact .inl ha
      · refine .inr ⟨h1, by have := hkept.size; omega, fun s b hb hm hxs => ?_⟩
        rcases hB s with ⟨j, q, bl, g1, g2, g3, g4, g5⟩ | ⟨g1, g2⟩ | ⟨g1, g2, g3⟩
        · obtain ⟨v, hv, hν, ho, e, r, xs, css, ⟨hbl, hlr⟩, h6, h7, h8⟩ := hrow j q bl s g1 g2 g4
          rw [hν] at hxs
          rcases h8 x hxs with h9 | h9
          · omega
          · obtain ⟨s', hs', hx'⟩ := hgv x h9
            obtain ⟨e, r, xs, hb'⟩ := htk s' hs'
            exact h3 s' _ hb' rfl hx'
        · rw [g2] at hb; cases hb
        · rw [g2] at hb
          rw [hold s (h.ub s _ hb).1] at hxs
          exact h3 s b hb hm hxs
    have hall : All2 (fun (q : RQ) v => RepO w' (okS W0 A Gv ν1 B1 w') (fun x => w.heap.size ≤ x ∨ GvOf (tk.map ν) x) q.1 q.2 v) l us := by
      refine hres2.impMem fun q v hq hr => ?_
      cases hlk : rs.any RK.leaks with
      | false => exact RepO.flat (hleak q hq hlk) hr
      | true =>
        refine RepO.mono (fun y hy => ?_) (fun _ h => h) hr
        obtain ⟨hy1, hy2, hy3⟩ := hy
        by_cases hAy : A' y
        · exact hgo y (hA hlk y hAy)
        · have hfr : freshS W0 Gv y := by
            rcases hy1 with h9 | h9 | h9
            · exact absurd h9 hAy
            · obtain ⟨s', hs', hx'⟩ := hgv y h9
              obtain ⟨e, r, xs, hb'⟩ := htk s' hs'
              exact ((h.bl s' _ hb').own hx').1
            · exact .inl (Nat.le_trans h.kept.size h9)
          refine .inr ⟨hfr, hy2, fun s' b' hb' hm' hx' => ?_⟩
          rcases hB s' with ⟨j', q', bl', g1, g2, g3, g4, g5⟩ | ⟨g1, g2⟩ | ⟨g1, g2, g3⟩
          · obtain ⟨v', hv', hν', ho', _⟩ := hrow j' q' bl' s' g1 g2 g4
            rw [hν'] at hx'
            exact hy3 ⟨v', goO_mem l us j' q' v' g1 hv' ho', hx'⟩
          · rw [g2] at hb'; cases hb'
          · rw [g2] at hb'
            rw [hold s' (h.ub s' _ hb').1] at hx'
            have := hsep s' b' y g1 hb' hx'
            rcases hy1 with h9 | h9 | h9
            · exact hAy h9
            · exact this.2 h9
            · omega
    refine goV_rep l base us hall fun j q v h1 h2 h3 bl hb => ?_
    have hj : j < rs.length := by have := (List.getElem?_eq_some_iff.1 h1).1; omega
    rcases hB (base + j) with ⟨j', q', bl', g1, g2, g3, g4, g5⟩ | ⟨g1, g2⟩ | ⟨g1, g2, g3⟩
    · have hjj : j' = j := by omega
      subst hjj
      obtain ⟨v', hv', hν', ho', e, r, xs, css, ⟨hbl, _⟩, _⟩ := hrow j' q' bl' (base + j') g1 rfl g4
      rw [h2] at hv'
      cases hv'
      rw [g5, hbl] at hb
      cases hb
      exact ⟨rfl, hν'.symm⟩
    · exact absurd g1 (hdisj j hj)
    · rw [g2] at hb
      exact absurd (h.ub _ _ hb).1 (hbase j hj)
  · obtain ⟨j, h1, h2⟩ := goV_sites l base s (tupV_sites hs)
    exact .inr ⟨j, by omega, h2⟩

end
end Go.Pi
