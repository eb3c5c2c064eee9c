/- Functions: where they begin. -/
import Derived.Test.YtgofapkelhccgaaPi30
set_option linter.unusedVariables false
set_option linter.unusedSimpArgs false
namespace Go.Pi
open Go.RowKit

theorem gOf_cons_eq {d : Nat} {v : TV} {g : List (Nat × TV)} : gOf ((d, v) :: g) d = v := by
  rw [gOf_cons]
  simp
theorem gOf_cons_ne {d i : Nat} {v : TV} {g : List (Nat × TV)} (h : ¬ d = i) : gOf ((d, v) :: g) i = gOf g i := by
  rw [gOf_cons]
  simp [beq_ne h]
theorem initG_get (t : Nat) : ∀ (ps : List PK) (x : ArgsD ps) (i : Nat), gOf (initG t ps x) i = .dead ∨ ∃ j p, i = t + j ∧ ps[j]? = some p
  | [], _, _ => .inl rfl
  | p :: ps, x, i => by
    by_cases hi : t = i
    · exact .inr ⟨0, p, by omega, rfl⟩
    · have e : gOf (initG t (p :: ps) x) i = gOf (initG (t + 1) ps x.2) i := gOf_cons_ne hi
      rw [e]
      rcases initG_get (t + 1) ps x.2 i with h | ⟨j, q, h1, h2⟩
      · exact .inl h
      · exact .inr ⟨j + 1, q, by omega, by simpa using h2⟩

theorem takes_own {w : World} {ok : Nat → Prop} : ∀ (ps : List PK) (x : ArgsD ps) (vs : List Value), RepA w ok ps x vs → vs.length = ps.length
  | [], _, vs, h => by rw [show vs = [] from h]; rfl
  | .data _ _ :: ps, x, vs, ⟨v, rest, e, _, h⟩ => by rw [e]; simp [takes_own ps x.2 rest h]
  | .take _ _ :: ps, x, vs, ⟨v, rest, css, e, _, _, h⟩ => by rw [e]; simp [takes_own ps x.2 rest h]
  | .fn _ :: ps, x, vs, ⟨rest, e, h⟩ => by rw [e]; simp [takes_own ps x.2 rest h]

/-- The slots, at the beginning. -/
theorem initG_rep {w : World} {A ok : Nat → Prop} (hA : ∀ y, A y → ok y) {ν : Nat → Value} {B : Nat → Option Blk} : ∀ (ps : List PK) (t : Nat) (x : ArgsD ps) (vs : List Value), RepA w A ps x vs →
    (∀ j v, vs[j]? = some v → ν (t + j) = v) → (∀ j b, B (t + j) = some b → b.isRow = true) → ∀ i, RepTV w ok ν B (gOf (initG t ps x) i) (if t ≤ i then vs.getD (i - t) undef else undef)
  | [], t, x, vs, h, hν, hB, i => trivial
  | p :: ps, t, x, vs, h, hν, hB, i => by
    have hrec : ∀ v rest, vs = v :: rest → RepA w A ps x.2 rest → Rep1 w ok p x.1 v → RepTV w ok ν B (gOf (initG t (p :: ps) x) i) (if t ≤ i then vs.getD (i - t) undef else undef) := by
      intro v rest e hr h1
      subst e
      by_cases hi : t = i
      · subst hi
        have e : gOf (initG t (p :: ps) x) t = initG.g1 t p x.1 := gOf_cons_eq
        rw [e, if_pos (Nat.le_refl _)]
        simp only [Nat.sub_self, List.getD_cons_zero]
        have hνt := hν 0 v rfl
        have hBt := hB 0
        rw [Nat.add_zero] at hνt hBt
        cases p with
        | data agg r =>
          have h1' : RepP w ok agg r x.1 v := h1
          unfold RepP at h1'
          cases agg with
          | true =>
            rw [if_pos rfl] at h1'
            obtain ⟨cs, e, hr⟩ := h1'
            exact ⟨cs, e, unpack_rep hr⟩
          | false =>
            rw [if_neg (by decide)] at h1'
            cases r with
            | one s =>
              simp only [RepR] at h1'
              obtain ⟨u, e, hr⟩ := h1'
              cases e
              exact hr
            | cons s r => trivial
        | take e r =>
          obtain ⟨css, h3, h4⟩ := h1
          exact ⟨own_cell h4, fun b hb => ⟨hBt b hb, hνt.symm⟩⟩
        | fn f =>
          rw [show v = _ from h1]
          exact ⟨rfl, rfl⟩
      · have e : gOf (initG t (p :: ps) x) i = gOf (initG (t + 1) ps x.2) i := gOf_cons_ne hi
        rw [e]
        have ih := initG_rep hA ps (t + 1) x.2 rest hr (fun j u hj => by rw [← hν (j + 1) u (by simpa using hj)]; congr 1; omega) (fun j b hb => hB (j + 1) b (by rw [← hb]; congr 1; omega)) i
        by_cases hle : t ≤ i
        · rw [if_pos (by omega)] at ih
          rw [if_pos hle, show i - t = (i - (t + 1)) + 1 by omega, List.getD_cons_succ]
          exact ih
        · rw [if_neg (by omega)] at ih
          rw [if_neg hle]
          exact ih
    cases p with
    | data agg r =>
      obtain ⟨v, rest, e, h1, h2⟩ := h
      exact hrec v rest e h2 (RepP.move (fun _ _ => rfl) hA h1)
    | take e r =>
      obtain ⟨v, rest, css, e, h1, h2, h3⟩ := h
      exact hrec v rest e h3 ⟨css, h1.imp fun x cs hx => RepR.move (fun _ _ => rfl) hA r x cs hx, h2⟩
    | fn f =>
      obtain ⟨rest, e, h1⟩ := h
      exact hrec _ rest e h1 rfl

/-- The rows that are handed over, at the beginning. -/
theorem initB_spec {w : World} {A : Nat → Prop} : ∀ (ps : List PK) (t : Nat) (x : ArgsD ps) (vs : List Value), RepA w A ps x vs → ∀ s ob, lk (initB t ps x) s = some ob →
    ∃ j e r y v css, s = t + j ∧ j < ps.length ∧ ob = some (.row e r y false) ∧ vs[j]? = some v ∧ v ∈ tkV ps vs ∧ All2 (fun x cs => RepR w A r x cs) y css ∧ w.ownsRow 0 e r.size v y.length css.flatten
  | [], t, x, vs, _, s, ob, h => nomatch h
  | p :: ps, t, x, vs, h, s, ob, hl => by
    have hrec : ∀ rest v, vs = v :: rest → RepA w A ps x.2 rest → (∀ u, u ∈ tkV ps rest → u ∈ tkV (p :: ps) vs) → lk (initB (t + 1) ps x.2) s = some ob →
        ∃ j e r y v css, s = t + j ∧ j < (p :: ps).length ∧ ob = some (.row e r y false) ∧ vs[j]? = some v ∧ v ∈ tkV (p :: ps) vs ∧ All2 (fun x cs => RepR w A r x cs) y css ∧ w.ownsRow 0 e r.size v y.length css.flatten := by
      intro rest v e hr htk hl
      obtain ⟨j, e', r, y, u, css, h1, h1', h2, h3, h4, h5⟩ := initB_spec ps (t + 1) x.2 rest hr s ob hl
      exact ⟨j + 1, e', r, y, u, css, by omega, by simp; omega, h2, by rw [e]; simpa using h3, htk u h4, h5⟩
    cases p with
    | data agg r =>
      obtain ⟨v, rest, e, h1, h2⟩ := h
      exact hrec rest v e h2 (fun u hu => by rw [e]; exact hu) hl
    | take e r =>
      obtain ⟨v, rest, css, e', h1, h2, h3⟩ := h
      have hl' : lk ((t, some (Blk.row e r x.1 false)) :: initB (t + 1) ps x.2) s = some ob := hl
      by_cases ht : t = s
      · subst ht
        rw [lk_cons_eq] at hl'
        cases hl'
        exact ⟨0, e, r, x.1, v, css, rfl, by simp, rfl, by rw [e']; rfl, by rw [e']; simp [tkV], h1, h2⟩
      · rw [lk_cons_ne ht] at hl'
        exact hrec rest v e' h3 (fun u hu => by rw [e']; simp [tkV, hu]) hl'
    | fn f =>
      obtain ⟨rest, e, h1⟩ := h
      exact hrec rest _ e h1 (fun u hu => by rw [e]; exact hu) hl

theorem initB_apart {w : World} {A : Nat → Prop} : ∀ (ps : List PK) (t : Nat) (x : ArgsD ps) (vs : List Value), RepA w A ps x vs → (tkV ps vs).Pairwise Apart → ∀ i j u v oi oj, lk (initB t ps x) (t + i) = some oi → lk (initB t ps x) (t + j) = some oj →
    vs[i]? = some u → vs[j]? = some v → i < j → Apart u v
  | [], t, x, vs, _, _, i, j, u, v, oi, oj, h, _, _, _, _ => nomatch h
  | p :: ps, t, x, vs, h, hp, i, j, u, v, oi, oj, hi, hj, hu, hv, hlt => by
    obtain ⟨j, rfl⟩ : ∃ j', j = j' + 1 := ⟨j - 1, by omega⟩
    have hrec : ∀ rest v0, vs = v0 :: rest → RepA w A ps x.2 rest → (tkV ps rest).Pairwise Apart → ∀ i, lk (initB (t + 1) ps x.2) (t + 1 + i) = some oi → rest[i]? = some u → i < j → lk (initB (t + 1) ps x.2) (t + 1 + j) = some oj → Apart u v := by
      intro rest v0 e hr hpw i h1 h2 h3 h4
      exact initB_apart ps (t + 1) x.2 rest hr hpw i j u v oi oj h1 h4 h2 (by rw [e] at hv; simpa using hv) h3
    cases p with
    | data agg r =>
      obtain ⟨v0, rest, e, h1, h2⟩ := h
      subst e
      cases i with
      | zero =>
        exfalso
        have hi' : lk (initB (t + 1) ps x.2) (t + 0) = some oi := hi
        obtain ⟨j', _, _, _, _, _, h3, _⟩ := initB_spec ps (t + 1) x.2 rest h2 _ _ hi'
        omega
      | succ i => exact hrec rest v0 rfl h2 hp i (by rw [show t + 1 + i = t + (i + 1) by omega]; exact hi) (by simpa using hu) (by omega) (by rw [show t + 1 + j = t + (j + 1) by omega]; exact hj)
    | fn f =>
      obtain ⟨rest, e, h2⟩ := h
      subst e
      cases i with
      | zero =>
        exfalso
        have hi' : lk (initB (t + 1) ps x.2) (t + 0) = some oi := hi
        obtain ⟨j', _, _, _, _, _, h3, _⟩ := initB_spec ps (t + 1) x.2 rest h2 _ _ hi'
        omega
      | succ i => exact hrec rest _ rfl h2 hp i (by rw [show t + 1 + i = t + (i + 1) by omega]; exact hi) (by simpa using hu) (by omega) (by rw [show t + 1 + j = t + (j + 1) by omega]; exact hj)
    | take e r =>
      obtain ⟨v0, rest, css, e', h1, h1', h2⟩ := h
      subst e'
      have hj' : lk (initB (t + 1) ps x.2) (t + 1 + j) = some oj := by
        have : lk ((t, some (Blk.row e r x.1 false)) :: initB (t + 1) ps x.2) (t + (j + 1)) = some oj := hj
        rw [lk_cons_ne (by omega)] at this
        rw [show t + 1 + j = t + (j + 1) by omega]
        exact this
      have hp' : (v0 :: tkV ps rest).Pairwise Apart := hp
      cases i with
      | zero =>
        simp at hu
        subst hu
        obtain ⟨j', e'', r', y, v', css', h3, _, _, h5, h6, _⟩ := initB_spec ps (t + 1) x.2 rest h2 _ _ hj'
        have : j' = j := by omega
        subst this
        simp at hv
        rw [h5] at hv
        cases hv
        exact (List.pairwise_cons.1 hp').1 _ h6
      | succ i =>
        refine hrec rest v0 rfl h2 (List.pairwise_cons.1 hp').2 i ?_ (by simpa using hu) (by omega) hj'
        have : lk ((t, some (Blk.row e r x.1 false)) :: initB (t + 1) ps x.2) (t + (i + 1)) = some oi := hi
        rw [lk_cons_ne (by omega)] at this
        rw [show t + 1 + i = t + (i + 1) by omega]
        exact this

theorem tkV_mem : ∀ (ps : List PK) (vs : List Value) (v : Value), v ∈ tkV ps vs → v ∈ vs
  | [], vs, v, h => by cases vs <;> exact nomatch h
  | .data _ _ :: ps, [], v, h => nomatch h
  | .take _ _ :: ps, [], v, h => nomatch h
  | .fn _ :: ps, [], v, h => nomatch h
  | .data _ _ :: ps, u :: vs, v, h => List.mem_cons_of_mem _ (tkV_mem ps vs v h)
  | .fn _ :: ps, u :: vs, v, h => List.mem_cons_of_mem _ (tkV_mem ps vs v h)
  | .take _ _ :: ps, u :: vs, v, h => by
    rcases List.mem_cons.1 (show v ∈ u :: tkV ps vs from h) with h | h
    · rw [h]; simp
    · exact List.mem_cons_of_mem _ (tkV_mem ps vs v h)

theorem init_sim {w : World} {A : Nat → Prop} {ps : List PK} {x : ArgsD ps} {vs : List Value} {N : Nat} (hA : ∀ b, A b → b < w.heap.size ∧ ¬ GvOf (tkV ps vs) b) (hp : (tkV ps vs).Pairwise Apart) (h : RepA w A ps x vs) (hN : ps.length ≤ N) :
    ∃ ν, SimS w A (GvOf (tkV ps vs)) N (init ps x) ν { tmps := vs.toArray ++ Array.replicate (N - vs.toArray.size) undef, defers := [] } w := by
  have hlen := takes_own ps x vs h
  have hB : ∀ s b, bOf (initB 0 ps x) s = some b → ∃ e r y v css, s < ps.length ∧ b = .row e r y false ∧ vs[s]? = some v ∧ v ∈ tkV ps vs ∧ All2 (fun x cs => RepR w A r x cs) y css ∧ w.ownsRow 0 e r.size v y.length css.flatten := by
    intro s b hb
    unfold bOf at hb
    split at hb
    · rename_i ob hl
      subst hb
      obtain ⟨j, e, r, y, v, css, h1, h1', h2, h3, h4, h5⟩ := initB_spec ps 0 x vs h s _ hl
      cases h2
      have : s = j := by omega
      subst this
      exact ⟨e, r, y, v, css, h1', rfl, h3, h4, h5⟩
    · cases hb
  have hlk : ∀ s b, bOf (initB 0 ps x) s = some b → lk (initB 0 ps x) s = some (some b) := by
    intro s b hb
    unfold bOf at hb
    split at hb
    · rename_i ob hl
      rw [hl, hb]
    · cases hb
  refine ⟨fun s => vs.getD s undef, hA, ⟨rfl, rfl, rfl, Nat.le_refl _, fun _ _ _ => rfl⟩, rfl, by simp; omega, fun i => ?_, fun i s hs => ?_, fun s b hb => ?_, fun s b hb => ?_, fun s s' b b' y hb hb' hy hy' => ?_⟩
  · have := initG_rep (w := w) (A := A) (ok := okS w A (GvOf (tkV ps vs)) (fun s => vs.getD s undef) (bOf (init ps x).b) w) (fun _ => .inl) (ν := fun s => vs.getD s undef) (B := bOf (init ps x).b) ps 0 x vs h (fun j v hj => by simp [hj]) (fun j b hb => by
      obtain ⟨e, r, y, v, css, _, rfl, _⟩ := hB _ b hb
      rfl) i
    simp only [Nat.zero_le, if_true, Nat.sub_zero] at this
    have e : (vs.toArray ++ Array.replicate (N - vs.toArray.size) undef).getD i undef = vs.getD i undef := by
      by_cases hi : i < vs.length
      · simp [Array.getElem?_append, hi]
      · simp only [Array.getD_eq_getD_getElem?, Array.getElem?_append, List.size_toArray, hi, if_false]
        simp only [Array.getElem?_replicate]
        rw [List.getD_eq_getElem?_getD, List.getElem?_eq_none (by omega)]
        split <;> rfl
    rw [e]
    exact this
  · have hs' : s ∈ (gOf (initG 0 ps x) i).sites := hs
    have key : ∀ (ps : List PK) (t : Nat) (x : ArgsD ps) i, ∀ s ∈ (gOf (initG t ps x) i).sites, s < t + ps.length := by
      intro ps
      induction ps with
      | nil => intro t x i s hs; exact nomatch hs
      | cons p ps ih =>
        intro t x i s hs
        by_cases hi : t = i
        · subst hi
          have e : gOf (initG t (p :: ps) x) t = initG.g1 t p x.1 := gOf_cons_eq
          rw [e] at hs
          have : s = t := by
            cases p with
            | data agg r =>
              cases agg with
              | true =>
                simp only [initG.g1, TV.sites, EV.sites, EV.cells, List.mem_flatMap] at hs
                obtain ⟨c, hc, hs⟩ := hs
                rw [unpack_sites hc] at hs
                cases hs
              | false => cases r <;> simp [initG.g1, TV.sites, EV.sites, EV.cells, CV.sites] at hs
            | take e r => simpa [initG.g1, TV.sites, EV.sites, EV.cells, CV.sites] using hs
            | fn f => simp [initG.g1, TV.sites, EV.sites, EV.cells, CV.sites] at hs
          simp only [List.length_cons]
          omega
        · have e : gOf (initG t (p :: ps) x) i = gOf (initG (t + 1) ps x.2) i := gOf_cons_ne hi
          rw [e] at hs
          have := ih (t + 1) x.2 i s hs
          simp only [List.length_cons]
          omega
    have := key ps 0 x i s hs'
    show s < ps.length
    omega
  · obtain ⟨e, r, y, v, css, h1, rfl, _⟩ := hB s b hb
    exact ⟨h1, fun c hc => by cases hc⟩
  · obtain ⟨e, r, y, v, css, h1, rfl, h2, h3, h4, h5⟩ := hB s b hb
    have e1 : vs.getD s undef = v := by simp [h2]
    refine ⟨css, h4.imp fun x cs hx => RepR.move (fun _ _ => rfl) (fun _ => .inl) r x cs hx, by show w.ownsRow 0 e r.size (vs.getD s undef) y.length css.flatten; rw [e1]; exact h5, fun q hq => .inr ⟨v, h3, by rw [← e1]; exact hq⟩⟩
  · obtain ⟨e, r, z, v, css, h1, _, h2, _⟩ := hB s b hb
    obtain ⟨e', r', z', v', css', h1', _, h2', _⟩ := hB s' b' hb'
    simp only [h2, h2', List.getD_eq_getElem?_getD, Option.getD_some] at hy hy'
    rcases Nat.lt_trichotomy s s' with hl | hl | hl
    · exact absurd hy' (initB_apart ps 0 x vs h hp s s' v v' _ _ (by rw [Nat.zero_add]; exact hlk s b hb) (by rw [Nat.zero_add]; exact hlk s' b' hb') h2 h2' hl y hy)
    · exact hl
    · exact absurd hy (initB_apart ps 0 x vs h hp s' s v' v _ _ (by rw [Nat.zero_add]; exact hlk s' b' hb') (by rw [Nat.zero_add]; exact hlk s b hb) h2' h2 hl y hy')
end Go.Pi
