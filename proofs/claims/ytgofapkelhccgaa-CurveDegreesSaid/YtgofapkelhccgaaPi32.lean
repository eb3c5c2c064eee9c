/- Functions: results; a function's own law. -/
import Derived.Test.YtgofapkelhccgaaPi31
set_option linter.unusedVariables false
set_option linter.unusedSimpArgs false
namespace Go.Pi
open Go.RowKit

section
variable {P : Program} {W0 : World} {A Gv : Nat → Prop} {N : Nat} {U : Nat → Prop} {g : Nat → TV} {B : Nat → Option Blk} {ν : Nat → Value} {a : Act} {w : World}

theorem load_run (h : Sim W0 A Gv N U g B ν a w) {t : TypeId} {q : CV} {u : Value} (hp : RepCV w (okS W0 A Gv ν B w) ν B q u) {l : List CV} {off : Nat} (hc : cellsAt B q = some (l, off)) {x : EV} (hx : partV P t l off = some x) :
    ∃ ad v, u = .pointer (some ad) ∧ (loadVar t ad).run P w = .ok v w ∧ RepEV w (okS W0 A Gv ν B w) ν B x v := by
  obtain ⟨b, z, vs, h1, h2, h3, h4⟩ := cellsAt_rep h hp hc
  obtain ⟨v, n, d, h5, h6, h7, h8, h9, h10⟩ := partV_rep hx h2
  refine ⟨⟨b, z + off, none⟩, v, h1, ?_, h8⟩
  unfold loadVar
  rw [Sem.run_bind, run_isAgg h6, Result.andThen_ok]
  rcases h9 with ⟨ha, rfl⟩ | ⟨ha, rfl, hv⟩
  · rw [if_pos ha, Sem.run_bind, run_size h5]
    simp only [Result.andThen_ok]
    have hlen : ((vs.drop off).take n).length = n := by simp; omega
    have := run_loadCells_list (P := P) w ⟨b, z + off, none⟩ ((vs.drop off).take n) (fun j u hj => by
      rw [add_eq rfl]
      rw [List.getElem?_take] at hj
      split at hj
      · rw [List.getElem?_drop] at hj
        have := h3 _ _ hj
        rwa [← Nat.add_assoc] at this
      · cases hj)
    rw [hlen] at this
    simp [this]
  · rw [ha]
    simp only [Bool.false_eq_true, if_false]
    have := h3 _ _ hv
    simp only [load, Sem.run, this]

def resRun (tmps : Array Value) : ResultVar → Sem Value
  | .tmp t => pure (tmps.getD t undef)
  | .cell q t => do loadVar t (← asAddr (tmps.getD q undef))

theorem resE_run {S : St} {U : Nat → Prop} (h : Sim W0 A Gv N U (gOf S.g) (bOf S.b) ν a w) {rv : ResultVar} {x : EV} (hx : resE P S rv = some x) :
    ∃ v, (resRun a.tmps rv).run P w = .ok v w ∧ RepEV w (okS W0 A Gv ν (bOf S.b) w) ν (bOf S.b) x v := by
  cases rv with
  | tmp t =>
    have e := getE_eq (show getE (gOf S.g t) = some x from hx)
    have := h.tm t
    rw [e] at this
    exact ⟨_, rfl, this⟩
  | cell q t =>
    have hx : (match getC (gOf S.g q) with
      | some p => match cellsAt (bOf S.b) p with
        | some (l, off) => partV P t l off
        | none => none
      | none => none) = some x := hx
    split at hx
    · rename_i p hp
      have e := getC_eq hp
      have hr := h.tm q
      rw [e] at hr
      split at hx
      · rename_i l off hc
        obtain ⟨ad, v, h1, h2, h3⟩ := load_run h hr hc hx
        refine ⟨v, ?_, h3⟩
        simp only [resRun, h1, asAddr, Sem.run_bind, Sem.run_pure, Result.andThen_ok, h2]
      · cases hx
    · cases hx
theorem resEs_run {S : St} {U : Nat → Prop} (h : Sim W0 A Gv N U (gOf S.g) (bOf S.b) ν a w) : ∀ {rvs : List ResultVar} {xs : List EV}, resEs P S rvs = some xs →
    ∃ us, (rvs.mapM (resRun a.tmps)).run P w = .ok us w ∧ All2 (RepEV w (okS W0 A Gv ν (bOf S.b) w) ν (bOf S.b)) xs us
  | [], xs, hx => by
    cases hx
    exact ⟨[], rfl, trivial⟩
  | rv :: rvs, xs, hx => by
    unfold resEs at hx
    split at hx
    · rename_i x y h1 h2
      cases hx
      obtain ⟨v, h3, h4⟩ := resE_run h h1
      obtain ⟨us, h5, h6⟩ := resEs_run h h2
      exact ⟨v :: us, by simp only [List.mapM_cons, Sem.run_bind, Sem.run_pure, Result.andThen_ok, h3, h5], h4, h6⟩
    · cases hx

theorem resD1_own {e : TypeId} {agg : Bool} {r : Shs} {x : EV} {d : List (RowD r)} (h : (resD1 B ⟨agg, .one (.sl r), some e⟩ x : Option (List (RowD r))) = some d) :
    (∃ s, x = .one (.own s) ∧ B s = some (.row e r d false)) ∨ (x = .one (.val (.slice none 0 0)) ∧ d = []) ∨ ∃ s n ys, x = .one (.pre s n) ∧ B s = some (.row e r ys false) ∧ d = ys.take n.toNat := by
  cases x with
  | agg l => exact nomatch h
  | one c =>
    cases c
    case own s =>
      have h' : (match B s with
        | some (.row e' r' xs false) => cond (Nat.beq e e') (castRows r' r xs) none
        | _ => none : Option (List (RowD r))) = some d := h
      cases hB : B s with
      | none => simp only [hB] at h'; cases h'
      | some b =>
        simp only [hB] at h'
        cases b with
        | box _ _ => cases h'
        | arr _ _ _ _ => cases h'
        | row e' r' xs fz =>
          cases fz with
          | true => cases h'
          | false =>
            obtain ⟨h1, h2⟩ := cond_none h'
            have := Nat.eq_of_beq_eq_true h1
            subst this
            obtain ⟨rfl, rfl⟩ := castRows_eq h2
            exact .inl ⟨s, rfl, hB⟩
    case pre s n =>
      have h' : (match B s with
        | some (.row e' r' xs false) => cond (Nat.beq e e') (castRows r' r (xs.take n.toNat)) none
        | _ => none : Option (List (RowD r))) = some d := h
      cases hB : B s with
      | none => simp only [hB] at h'; cases h'
      | some b =>
        simp only [hB] at h'
        cases b with
        | box _ _ => cases h'
        | arr _ _ _ _ => cases h'
        | row e' r' xs fz =>
          cases fz with
          | true => cases h'
          | false =>
            obtain ⟨h1, h2⟩ := cond_none h'
            have := Nat.eq_of_beq_eq_true h1
            subst this
            obtain ⟨rfl, rfl⟩ := castRows_eq h2
            exact .inr (.inr ⟨s, n, xs, rfl, hB, rfl⟩)
    case val v =>
      have h' : (match v with
        | .slice none 0 0 => some ([] : List (RowD r))
        | _ => none : Option (List (RowD r))) = some d := by
        cases v with
        | slice A n c =>
          cases A with
          | none =>
            cases n with
            | zero => cases c <;> exact h
            | succ n => exact h
          | some A => exact h
        | _ => exact h
      split at h'
      · cases h'
        exact .inr (.inl ⟨rfl, rfl⟩)
      · cases h'
    all_goals exact nomatch h

theorem resD1_rep (h : Sim W0 A Gv N U g B ν a w) {ok1 : Nat → Prop} (hok : ∀ y, okS W0 A Gv ν B w y → ok1 y) {p : RK} {x : EV} {v : Value} (hx : RepEV w (okS W0 A Gv ν B w) ν B x v) {d : RowD p.row} (hd : resD1 B p x = some d)
    (hrow : ∀ s ∈ datS p x, ∀ e r xs fz y, B s = some (.row e r xs fz) → ownB (ν s) = some y → ok1 y) : RepO w ok1 (fun y => W0.heap.size ≤ y ∨ Gv y) p d v := by
  obtain ⟨agg, row, own⟩ := p
  cases own with
  | some e =>
    cases row with
    | cons s r => cases x <;> exact nomatch hd
    | one s =>
      cases s with
      | sl r =>
        rcases resD1_own hd with ⟨s, rfl, hB⟩ | ⟨rfl, rfl⟩ | ⟨s, n, ys, rfl, hB, rfl⟩
        · obtain ⟨_, hx⟩ := hx
          obtain ⟨_, rfl⟩ := hx _ hB
          obtain ⟨css, h1, h2, h3⟩ := h.bl _ _ hB
          exact ⟨css, h1.imp fun x cs hx => RepR.move (fun _ _ => rfl) hok r x cs hx, h2, fun y hy => h3 y hy⟩
        · have hv : v = .slice none 0 0 := hx.1
          subst hv
          exact ⟨[], trivial, World.ownsRow_nil w 0 e r.size, fun y hy => nomatch hy⟩
        · obtain ⟨_, hx⟩ := hx
          obtain ⟨_, r0, m, Ad, c, he, hn0, hnm, hνs, rfl⟩ := hx _ hB
          simp only [Blk.elems, Option.some.injEq, Prod.mk.injEq] at he
          obtain ⟨rfl, rfl⟩ := he
          obtain ⟨css, h1, h2, h3⟩ := h.bl _ _ hB
          rw [hνs] at h2
          have hlen : n.toNat ≤ ys.length := by omega
          refine ⟨css.take n.toNat, (h1.take _).imp fun x cs hx => RepR.move (fun _ _ => rfl) hok r x cs hx, ?_, fun y hy => h3 y ?_⟩
          · rw [flatR_take h1]
            have := ownsRow_take h2 hlen
            rw [show (List.take n.toNat ys).length = n.toNat by rw [List.length_take, Nat.min_eq_left hlen]]
            exact this
          · rw [hνs]
            cases Ad <;> exact hy
      | _ => cases x <;> exact nomatch hd
  | none =>
    have hrow' : ∀ s ∈ x.cells.flatMap CV.rowSites, ∀ e r xs fz y, B s = some (.row e r xs fz) → ownB (ν s) = some y → ok1 y := hrow
    show RepP w ok1 (RK.isAgg ⟨agg, row, none⟩) row d v
    cases x with
    | agg l =>
      have hd' : cond (RK.isAgg ⟨agg, row, none⟩) (packR B row l) none = some d := by
        cases row with
        | one s => cases s <;> exact hd
        | cons _ _ => exact hd
      obtain ⟨h1, h2⟩ := cond_none hd'
      rw [h1]
      unfold RepP
      rw [if_pos rfl]
      obtain ⟨vs, e, hl⟩ := hx
      exact ⟨vs, e, packR_rep h hok row l vs hrow' d h2 hl⟩
    | one u =>
      have hd' : cond (RK.isAgg ⟨agg, row, none⟩) none (packR B row [u]) = some d := by
        cases row with
        | one s => cases s <;> exact hd
        | cons _ _ => exact hd
      cases hq : RK.isAgg ⟨agg, row, none⟩ with
      | true => rw [hq] at hd'; cases hd'
      | false =>
        rw [hq] at hd'
        unfold RepP
        rw [if_neg (by decide)]
        exact packR_rep h hok row [u] [v] hrow' d hd' ⟨hx, trivial⟩

theorem resDs_go : ∀ (rs : List RK) (xs : List EV) (r : ResD rs), resDs B rs xs = some r → All2 (fun (q : RQ) x => resD1 B q.1 x = some q.2) (resL rs r) xs
  | [], [], _, _ => trivial
  | [], _ :: _, _, h => nomatch h
  | [p], [], _, h => nomatch h
  | [p], [x], r, h => ⟨h, trivial⟩
  | [p], _ :: _ :: _, _, h => nomatch h
  | p :: q :: l, [], _, h => nomatch h
  | p :: q :: l, x :: m, r, h => by
    have h' : (match resD1 B p x, resDs B (q :: l) m with
      | some y, some z => some (y, z)
      | _, _ => none : Option (RowD p.row × ResD (q :: l))) = some r := h
    split at h'
    · rename_i y z h1 h2
      cases h'
      exact ⟨h1, resDs_go (q :: l) m z h2⟩
    · cases h'
theorem resL_fst : ∀ (rs : List RK) (r : ResD rs), (resL rs r).map (·.1) = rs
  | [], _ => rfl
  | [_], _ => rfl
  | p :: q :: l, r => by
    show p :: (resL (q :: l) r.2).map (·.1) = _
    rw [resL_fst (q :: l)]

/-- What is handed back for good. -/
theorem goO_own (h : Sim W0 A Gv N U g B ν a w) : ∀ {l : List RQ} {xs : List EV} {us : List Value}, All2 (fun (q : RQ) x => resD1 B q.1 x = some q.2) l xs → All2 (RepEV w (okS W0 A Gv ν B w) ν B) xs us → ∀ v ∈ goO l us,
    ownB v = none ∨ ∃ s ∈ zipW ownS (l.map (·.1)) xs, ownB v = ownB (ν s) ∧ ∃ e r ys, B s = some (.row e r ys false)
  | [], [], [], _, _, v, hv => nomatch hv
  | q :: l, x :: xs, u :: us, hd, hx, v, hv => by
    have ih := goO_own h hd.2 hx.2
    unfold goO at hv
    have sub : ∀ s, s ∈ zipW ownS (l.map (·.1)) xs → s ∈ zipW ownS ((q :: l).map (·.1)) (x :: xs) := fun s hs => by
      simp only [List.map_cons, zipW]
      exact List.mem_append_right _ hs
    have lift : v ∈ goO l us → ownB v = none ∨ ∃ s ∈ zipW ownS ((q :: l).map (·.1)) (x :: xs), ownB v = ownB (ν s) ∧ ∃ e r ys, B s = some (.row e r ys false) := fun hv => by
      rcases ih v hv with h1 | ⟨s, h1, h2⟩
      · exact .inl h1
      · exact .inr ⟨s, sub s h1, h2⟩
    split at hv
    · rename_i hown
      rcases List.mem_cons.1 hv with rfl | hv
      · obtain ⟨⟨agg, row, own⟩, d⟩ := q
        cases own with
        | none => cases hown
        | some e =>
          cases row with
          | cons s r => cases x <;> exact nomatch hd.1
          | one s =>
            cases s with
            | sl r =>
              rcases resD1_own hd.1 with ⟨s, rfl, hB⟩ | ⟨rfl, rfl⟩ | ⟨s, n, ys, rfl, hB, rfl⟩
              · obtain ⟨_, hx1⟩ := hx.1
                obtain ⟨_, rfl⟩ := hx1 _ hB
                exact .inr ⟨s, by simp [zipW, ownS], rfl, e, r, d, hB⟩
              · have hv : v = .slice none 0 0 := hx.1.1
                subst hv
                exact .inl rfl
              · obtain ⟨_, hx1⟩ := hx.1
                obtain ⟨_, r0, m, Ad, c, he, hn0, hnm, hνs, rfl⟩ := hx1 _ hB
                exact .inr ⟨s, by simp [zipW, ownS], by rw [hνs]; cases Ad <;> rfl, e, r, ys, hB⟩
            | _ => cases x <;> exact nomatch hd.1
      · exact lift hv
    · exact lift hv
  | [], _ :: _, _, hd, _, _, _ => hd.elim
  | _ :: _, [], _, hd, _, _, _ => hd.elim
  | [], [], _ :: _, _, hx, _, _ => hx.elim
  | _ :: _, _ :: _, [], _, hx, _, _ => hx.elim

theorem nodupN_append : ∀ {l m : List Nat}, nodupN (l ++ m) = true → nodupN m = true ∧ ∀ x ∈ l, x ∉ m
  | [], _, h => ⟨h, fun _ hx => nomatch hx⟩
  | x :: l, m, h => by
    rw [List.cons_append, nodupN, Bool.and_eq_true, List.all_eq_true] at h
    obtain ⟨h1, h2⟩ := nodupN_append h.2
    refine ⟨h1, fun y hy hm => ?_⟩
    rcases List.mem_cons.1 hy with rfl | hy
    · have := h.1 y (List.mem_append_right _ hm)
      rw [Nat.beq_refl] at this
      cases this
    · exact h2 y hy hm

theorem goO_pw (h : Sim W0 A Gv N U g B ν a w) : ∀ {l : List RQ} {xs : List EV} {us : List Value}, All2 (fun (q : RQ) x => resD1 B q.1 x = some q.2) l xs → All2 (RepEV w (okS W0 A Gv ν B w) ν B) xs us →
    nodupN (zipW ownS (l.map (·.1)) xs) = true → (goO l us).Pairwise Apart
  | [], [], [], _, _, _ => List.Pairwise.nil
  | q :: l, x :: xs, u :: us, hd, hx, hn => by
    have hn' : nodupN (ownS q.1 x ++ zipW ownS (l.map (·.1)) xs) = true := hn
    obtain ⟨hn1, hn2⟩ := nodupN_append hn'
    have ih := goO_pw h hd.2 hx.2 hn1
    unfold goO
    split
    · rename_i hown
      refine List.pairwise_cons.2 ⟨fun v hv y hy hy' => ?_, ih⟩
      rcases goO_own h hd.2 hx.2 v hv with h1 | ⟨s, h1, hvs, e, r, ys, hB⟩
      · rw [h1] at hy'; cases hy'
      · have : u ∈ goO (q :: l) (u :: us) := by unfold goO; rw [if_pos hown]; simp
        obtain ⟨⟨agg, row, own⟩, d⟩ := q
        cases own with
        | none => cases hown
        | some e' =>
          cases row with
          | cons s r => cases x <;> exact nomatch hd.1
          | one s' =>
            cases s' with
            | sl r' =>
              rw [hvs] at hy'
              rcases resD1_own hd.1 with ⟨s', rfl, hB'⟩ | ⟨rfl, rfl⟩ | ⟨s', n, ys', rfl, hB', rfl⟩
              · obtain ⟨_, hx1⟩ := hx.1
                obtain ⟨_, rfl⟩ := hx1 _ hB'
                have := h.inj s' s _ _ y hB' hB hy hy'
                subst this
                exact hn2 s' (by simp [ownS]) h1
              · have hv : u = .slice none 0 0 := hx.1.1
                subst hv
                cases hy
              · obtain ⟨_, hx1⟩ := hx.1
                obtain ⟨_, r0, m, Ad, c, he, hn0, hnm, hνs, rfl⟩ := hx1 _ hB'
                have hy2 : ownB (ν s') = some y := by rw [hνs]; cases Ad <;> exact hy
                have := h.inj s' s _ _ y hB' hB hy2 hy'
                subst this
                exact hn2 s' (by simp [ownS]) h1
            | _ => cases x <;> exact nomatch hd.1
    · exact ih
  | [], _ :: _, _, hd, _, _ => hd.elim
  | _ :: _, [], _, hd, _, _ => hd.elim
  | [], [], _ :: _, _, hx, _ => hx.elim
  | _ :: _, _ :: _, [], _, hx, _ => hx.elim

theorem resAll (h : Sim W0 A Gv N U g B ν a w) {ok1 : Nat → Prop} (hok : ∀ y, okS W0 A Gv ν B w y → ok1 y) : ∀ {l : List RQ} {xs : List EV} {us : List Value}, All2 (fun (q : RQ) x => resD1 B q.1 x = some q.2) l xs → All2 (RepEV w (okS W0 A Gv ν B w) ν B) xs us →
    (∀ s ∈ zipW datS (l.map (·.1)) xs, ∀ e r xs fz y, B s = some (.row e r xs fz) → ownB (ν s) = some y → ok1 y) → All2 (fun (q : RQ) v => RepO w ok1 (fun y => W0.heap.size ≤ y ∨ Gv y) q.1 q.2 v) l us
  | [], [], [], _, _, _ => trivial
  | q :: l, x :: xs, u :: us, hd, hx, hrow => ⟨resD1_rep h hok hx.1 hd.1 fun s hs => hrow s (by simp only [List.map_cons, zipW]; exact List.mem_append_left _ hs),
      resAll h hok hd.2 hx.2 fun s hs => hrow s (by simp only [List.map_cons, zipW]; exact List.mem_append_right _ hs)⟩
  | [], _ :: _, _, hd, _, _ => hd.elim
  | _ :: _, [], _, hd, _, _ => hd.elim
  | [], [], _ :: _, _, hx, _ => hx.elim
  | _ :: _, _ :: _, [], _, hx, _ => hx.elim
end

theorem retK_sound {P : Program} {W0 : World} {A Gv : Nat → Prop} {N : Nat} {fn : Func} {rs : List RK} {k : Nat} {e : Ex} {S : St} {r : ResD rs} {ν : Nat → Value} {a : Act} {w : World} {R : Ending → World → Prop}
    (h : retK P fn.results.toList rs k e S = some r) (hs : SimS W0 A Gv N S ν a w)
    (hR : ∀ us, Kept W0 Gv w → (owV rs us).Pairwise Apart → RepRs w (okR A Gv W0 w (owV rs us)) (fun x => W0.heap.size ≤ x ∨ Gv x) rs r us → R (.returned (tupVal us)) w) : bodyPost P fn R (exOf e) a w := by
  have main : (match resEs P S fn.results.toList with
    | some xs => cond (nodupN (zipW ownS rs xs) && (zipW ownS rs xs).all fun s => (zipW datS rs xs).all fun s' => !Nat.beq s s') (resDs (bOf S.b) rs xs) none
    | none => none) = some r → a.defers = [] ∧ ∃ v, (results fn a.tmps).run P w = .ok v w ∧ R (.returned v) w := by
    intro h
    refine ⟨hs.defs, ?_⟩
    split at h
    · rename_i xs hxs
      obtain ⟨hc, hd⟩ := cond_none h
      rw [Bool.and_eq_true] at hc
      obtain ⟨hc1, hc2⟩ := hc
      rw [List.all_eq_true] at hc2
      obtain ⟨us, hrun, hus⟩ := resEs_run hs hxs
      have hgo := resDs_go rs xs r hd
      have hfst := resL_fst rs r
      rw [← hfst] at hc1 hc2
      have hpw := goO_pw hs hgo hus hc1
      have hown := goO_own hs hgo hus
      refine ⟨tupVal us, ?_, hR us hs.kept (by rw [owV_go rs r]; exact hpw) ?_⟩
      · show Sem.run P (do let vs ← fn.results.mapM (resRun a.tmps); pure (if h : vs.size = 1 then vs[0] else .tuple vs)) w = _
        rw [Array.mapM_eq_mapM_toList]
        simp only [map_eq_pure_bind, Sem.run_bind, hrun, Result.andThen_ok, Sem.run_pure]
        congr 1
        cases us with
        | nil => rfl
        | cons u us => cases us <;> simp [tupVal]
      · rw [RepRs_go, owV_go rs r]
        refine resAll hs (fun y hy => ?_) hgo hus fun s hsd e r' ys fz y hB hy => ?_
        · refine ⟨?_, hs.okLt hy, ?_⟩
          · rcases hy with hy | ⟨h1, _, _⟩
            · exact .inl hy
            · rcases h1 with h1 | h1
              · exact .inr (.inr h1)
              · exact .inr (.inl h1)
          · rintro ⟨v, hv, hvy⟩
            rcases hown v hv with h1 | ⟨s, h1, hvs, e, r', ys, hB⟩
            · rw [h1] at hvy; cases hvy
            rw [hvs] at hvy
            · rcases hy with hy | ⟨_, _, h3⟩
              · have h4 := hs.old y hy
                rcases ((hs.bl s _ hB).own hvy).1 with h5 | h5
                · omega
                · exact h4.2 h5
              · exact h3 s _ hB rfl hvy
        · have h1 := (hs.bl s _ hB).own hy
          refine ⟨?_, h1.2, ?_⟩
          · rcases h1.1 with h2 | h2
            · exact .inr (.inr h2)
            · exact .inr (.inl h2)
          · rintro ⟨v, hv, hvy⟩
            rcases hown v hv with h2 | ⟨s', h2, hvs, e', r2, ys', hB'⟩
            · rw [h2] at hvy; cases hvy
            rw [hvs] at hvy
            · have := hs.inj s' s _ _ y hB' hB hvy hy
              subst this
              have h3 := hc2 s' h2
              rw [List.all_eq_true] at h3
              have h4 := h3 s' hsd
              rw [Nat.beq_refl] at h4
              cases h4
    · cases h
  cases e with
  | exit i => cases h
  | norm => exact main h
  | ret => exact main h

/-- A function does what its Lean function says. -/
theorem holds_of {P : Program} {T : List (Nat × Ent)} (hm : P.follows .mixedOrders = true) (hT : ∀ p ∈ T, Holds P p.1 p.2) {n : FuncId} {fn : Func} {c : Code} (hf : P.funcs[n]? = some fn) (hb : fn.body = some c) (hname : (fn.name == "runtime.NumGoroutine") = false)
    (E : Ent) (L : List (Nat × LoopE (ResD E.rs))) (hps : E.ps.length ≤ fn.ntmps) (hobl : obl P T fn.ntmps L c (retK P fn.results.toList E.rs))
    (hfn : ∀ k x, E.fn k x = exec P T fn.ntmps L c k (init E.ps x) (retK P fn.results.toList E.rs)) : Holds P n E := by
  refine ⟨⟨fn, hf, by rw [hb]; rfl, hname⟩, fun k x r vs w A hr hA hp hrep => ?_⟩
  obtain ⟨ν, hs⟩ := init_sim hA hp hrep hps
  rw [hfn] at hr
  refine calls_of_wp hf hb (exec_sound hm hT c k _ _ ν _ w _ hobl hr hs fun k' e S' ν' a' w' _ h1 h2 => ?_)
  refine retK_sound h1 h2 fun us hk hpw hrs => ⟨us, rfl, hk, hpw, hrs⟩
end Go.Pi
