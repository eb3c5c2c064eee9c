/- Calls: results. -/
import Derived.Test.YtgofapkelhccgaaPi17
set_option linter.unusedVariables false
set_option linter.unusedSimpArgs false
namespace Go.Pi
open Go.RowKit

abbrev RQ := (p : RK) × RowD p.row
def resL : (rs : List RK) → ResD rs → List RQ
  | [], _ => []
  | [p], x => [⟨p, x⟩]
  | p :: q :: l, x => ⟨p, x.1⟩ :: resL (q :: l) x.2
def goV : Nat → List RQ → List EV
  | _, [] => []
  | b, q :: l => resV.one1 q.1 b q.2 :: goV (b + 1) l
def goW : Nat → List RQ → List (Nat × Option Blk)
  | _, [] => []
  | b, q :: l => resW.one1 q.1 b q.2 ++ goW (b + 1) l
def goO : List RQ → List Value → List Value
  | q :: l, v :: vs => if q.1.own.isSome then v :: goO l vs else goO l vs
  | _, _ => []

theorem resV_go : ∀ (rs : List RK) (b : Nat) (x : ResD rs), resV b rs x = goV b (resL rs x)
  | [], _, _ => rfl
  | [_], _, _ => rfl
  | p :: q :: l, b, x => by
    show _ :: resV (b + 1) (q :: l) x.2 = _ :: goV (b + 1) (resL (q :: l) x.2)
    rw [resV_go (q :: l)]
theorem resW_go : ∀ (rs : List RK) (b : Nat) (x : ResD rs), resW b rs x = goW b (resL rs x)
  | [], _, _ => rfl
  | [p], b, x => (List.append_nil _).symm
  | p :: q :: l, b, x => by
    show _ ++ resW (b + 1) (q :: l) x.2 = _ ++ goW (b + 1) (resL (q :: l) x.2)
    rw [resW_go (q :: l)]
theorem RepRs_go {w : World} {ok new : Nat → Prop} : ∀ (rs : List RK) (x : ResD rs) (vs : List Value), RepRs w ok new rs x vs ↔ All2 (fun (q : RQ) v => RepO w ok new q.1 q.2 v) (resL rs x) vs
  | [], _, vs => by
    cases vs with
    | nil => exact ⟨fun _ => trivial, fun _ => rfl⟩
    | cons v vs => exact ⟨fun h => (nomatch (show (v :: vs) = [] from h)), fun h => h.elim⟩
  | [p], x, vs => by
    cases vs with
    | nil => exact ⟨fun ⟨_, h, _⟩ => (nomatch h), fun h => h.elim⟩
    | cons v vs =>
      constructor
      · rintro ⟨u, e, h⟩
        cases e
        exact ⟨h, trivial⟩
      · rintro ⟨h, h2⟩
        cases vs with
        | nil => exact ⟨v, rfl, h⟩
        | cons _ _ => exact h2.elim
  | p :: q :: l, x, vs => by
    cases vs with
    | nil => exact ⟨fun ⟨_, _, h, _⟩ => (nomatch h), fun h => h.elim⟩
    | cons v vs =>
      constructor
      · rintro ⟨u, rest, e, h, h2⟩
        cases e
        exact ⟨h, (RepRs_go (q :: l) x.2 vs).1 h2⟩
      · rintro ⟨h, h2⟩
        exact ⟨v, vs, rfl, h, (RepRs_go (q :: l) x.2 vs).2 h2⟩
theorem owV_go : ∀ (rs : List RK) (x : ResD rs) (vs : List Value), owV rs vs = goO (resL rs x) vs
  | [], _, _ => rfl
  | [p], x, vs => by
    cases vs with
    | nil => rfl
    | cons v vs => cases vs <;> rfl
  | p :: q :: l, x, vs => by
    cases vs with
    | nil => rfl
    | cons v vs =>
      show (if p.own.isSome then v :: owV (q :: l) vs else owV (q :: l) vs) = (if p.own.isSome then v :: goO (resL (q :: l) x.2) vs else goO (resL (q :: l) x.2) vs)
      rw [owV_go (q :: l) x.2]
theorem resL_len : ∀ (rs : List RK) (x : ResD rs), (resL rs x).length = rs.length
  | [], _ => rfl
  | [_], _ => rfl
  | p :: q :: l, x => by
    show (resL (q :: l) x.2).length + 1 = _
    rw [resL_len (q :: l)]
    rfl
theorem resL_mem : ∀ (rs : List RK) (x : ResD rs) (q : RQ), q ∈ resL rs x → q.1 ∈ rs
  | [], _, _, h => nomatch h
  | [p], x, q, h => by
    rw [List.mem_singleton.1 h]
    simp
  | p :: q' :: l, x, q, h => by
    rcases List.mem_cons.1 h with rfl | h
    · simp
    · exact List.mem_cons_of_mem _ (resL_mem (q' :: l) x.2 q h)

/-- A new row among the results. -/
theorem one1_row {p : RK} {b : Nat} {x : RowD p.row} {s : Nat} {bl : Option Blk} (h : (s, bl) ∈ resW.one1 p b x) :
    s = b ∧ p.own.isSome = true ∧ ∃ e r xs, bl = some (.row e r xs false) ∧ p.leaks = r.hasSl ∧ ∀ (w : World) (ok new : Nat → Prop) v, RepO w ok new p x v →
      ∃ css, All2 (fun x cs => RepR w ok r x cs) xs css ∧ w.ownsRow 0 e r.size v xs.length css.flatten ∧ ∀ y, ownB v = some y → new y := by
  unfold resW.one1 at h
  split at h
  · rename_i agg r e x
    simp only [List.mem_singleton, Prod.mk.injEq] at h
    obtain ⟨rfl, rfl⟩ := h
    exact ⟨rfl, rfl, e, r, x, rfl, rfl, fun w ok new v hr => hr⟩
  · cases h

theorem goW_lk : ∀ (l : List RQ) (b s : Nat) (bl : Option Blk), lk (goW b l) s = some bl → ∃ j q, l[j]? = some q ∧ s = b + j ∧ (s, bl) ∈ resW.one1 q.1 s q.2
  | [], _, _, _, h => nomatch h
  | q :: l, b, s, bl, h => by
    have hm := lk_mem h
    by_cases hin : (s, bl) ∈ resW.one1 q.1 b q.2
    · have := (one1_row hin).1
      subst this
      exact ⟨0, q, rfl, rfl, hin⟩
    · have : lk (goW (b + 1) l) s = some bl := by
        cases ho : resW.one1 q.1 b q.2 with
        | nil => simpa [goW, ho] using h
        | cons p t =>
          have ht : t = [] := by
            unfold resW.one1 at ho
            split at ho
            · cases ho; rfl
            · cases ho
          subst ht
          obtain ⟨j, y⟩ := p
          rw [goW, ho] at h
          simp only [List.singleton_append] at h
          by_cases hj : j = s
          · subst hj
            rw [lk_cons_eq] at h
            cases h
            exact absurd (by rw [ho]; simp) hin
          · rwa [lk_cons_ne hj] at h
      obtain ⟨j, q', h1, h2, h3⟩ := goW_lk l (b + 1) s bl this
      exact ⟨j + 1, q', by simpa using h1, by omega, h3⟩

theorem goO_mem : ∀ (l : List RQ) (vs : List Value) (j : Nat) (q : RQ) (v : Value), l[j]? = some q → vs[j]? = some v → q.1.own.isSome = true → v ∈ goO l vs
  | [], _, j, q, v, h, _, _ => by simp at h
  | _ :: _, [], j, q, v, _, h, _ => by simp at h
  | q0 :: l, v0 :: vs, 0, q, v, h1, h2, h3 => by
    simp at h1 h2
    subst h1; subst h2
    simp [goO, h3]
  | q0 :: l, v0 :: vs, j + 1, q, v, h1, h2, h3 => by
    simp at h1 h2
    have := goO_mem l vs j q v h1 h2 h3
    unfold goO
    split
    · exact List.mem_cons_of_mem _ this
    · exact this
theorem goO_apart : ∀ (l : List RQ) (vs : List Value) (i j : Nat) (q q' : RQ) (v v' : Value), (goO l vs).Pairwise Apart → i < j → l[i]? = some q → l[j]? = some q' → vs[i]? = some v → vs[j]? = some v' →
    q.1.own.isSome = true → q'.1.own.isSome = true → Apart v v'
  | [], _, i, j, _, _, _, _, _, _, h, _, _, _, _, _ => by simp at h
  | _ :: _, [], i, j, _, _, _, _, _, _, _, _, h, _, _, _ => by simp at h
  | q0 :: l, v0 :: vs, 0, 0, _, _, _, _, _, hl, _, _, _, _, _, _ => by omega
  | q0 :: l, v0 :: vs, 0, j + 1, q, q', v, v', hp, hl, h1, h2, h3, h4, h5, h6 => by
    simp at h1 h2 h3 h4
    subst h1; subst h3
    have := goO_mem l vs j q' v' h2 h4 h6
    unfold goO at hp
    rw [if_pos h5] at hp
    exact (List.pairwise_cons.1 hp).1 _ this
  | q0 :: l, v0 :: vs, i + 1, 0, _, _, _, _, _, hl, _, _, _, _, _, _ => by omega
  | q0 :: l, v0 :: vs, i + 1, j + 1, q, q', v, v', hp, hl, h1, h2, h3, h4, h5, h6 => by
    simp at h1 h2 h3 h4
    refine goO_apart l vs i j q q' v v' ?_ (by omega) h1 h2 h3 h4 h5 h6
    unfold goO at hp
    split at hp
    · exact (List.pairwise_cons.1 hp).2
    · exact hp

theorem own_cell {w : World} {base : Nat} {e : TypeId} {size n : Nat} {v : Value} {xs : List Value} (h : w.ownsRow base e size v n xs) : v.oneCell' = true := by
  obtain ⟨Ad, c, rfl, _⟩ := own_isSlice h
  rfl

/-- A result, as the executor's value. -/
theorem one1_rep {w : World} {ok new : Nat → Prop} {ν : Nat → Value} {B : Nat → Option Blk} {p : RK} {b : Nat} {x : RowD p.row} {v : Value} (h : RepO w ok new p x v)
    (hB : p.own.isSome = true → ∀ bl, B b = some bl → bl.isRow = true ∧ v = ν b) : RepEV w ok ν B (resV.one1 p b x) v := by
  obtain ⟨agg, row, own⟩ := p
  cases own with
  | some e =>
    refine ⟨?_, hB rfl⟩
    cases row with
    | cons s r => exact h.elim
    | one s =>
      cases s with
      | sl r => obtain ⟨css, _, h2, _⟩ := h; exact own_cell h2
      | _ => exact h.elim
  | none =>
    cases row with
    | one s =>
      cases agg with
      | true =>
        have h' : RepP w ok true (.one s) x v := h
        unfold RepP at h'
        rw [if_pos rfl] at h'
        obtain ⟨cs, e, hr⟩ := h'
        exact ⟨cs, e, unpack_rep hr⟩
      | false =>
        have h' : RepP w ok false (.one s) x v := h
        unfold RepP at h'
        rw [if_neg (by decide)] at h'
        simp only [RepR] at h'
        obtain ⟨u, e, hr⟩ := h'
        cases e
        exact hr
    | cons s r =>
      have h' : RepP w ok true (.cons s r) x v := h
      unfold RepP at h'
      rw [if_pos rfl] at h'
      obtain ⟨cs, e, hr⟩ := h'
      cases agg <;> exact ⟨cs, e, unpack_rep hr⟩

theorem one1_sites {p : RK} {b : Nat} {x : RowD p.row} {s : Nat} (h : s ∈ (resV.one1 p b x).sites) : s = b ∧ p.own.isSome = true := by
  obtain ⟨agg, row, own⟩ := p
  cases own with
  | some e => exact ⟨by simpa [resV.one1, EV.sites, EV.cells, CV.sites] using h, rfl⟩
  | none =>
    exfalso
    cases row with
    | one s' =>
      cases agg with
      | true =>
        simp only [resV.one1, EV.sites, EV.cells, if_true, List.mem_flatMap] at h
        obtain ⟨c, hc, hs⟩ := h
        rw [unpack_sites hc] at hs
        cases hs
      | false => simp [resV.one1, EV.sites, EV.cells, CV.sites] at h
    | cons s' r =>
      cases agg <;>
      · simp only [resV.one1, EV.sites, EV.cells, List.mem_flatMap] at h
        obtain ⟨c, hc, hs⟩ := h
        rw [unpack_sites hc] at hs
        cases hs

theorem goV_rep {w : World} {ok new : Nat → Prop} {ν : Nat → Value} {B : Nat → Option Blk} : ∀ (l : List RQ) (b : Nat) (vs : List Value), All2 (fun (q : RQ) v => RepO w ok new q.1 q.2 v) l vs →
    (∀ j q v, l[j]? = some q → vs[j]? = some v → q.1.own.isSome = true → ∀ bl, B (b + j) = some bl → bl.isRow = true ∧ v = ν (b + j)) → All2 (RepEV w ok ν B) (goV b l) vs
  | [], _, [], _, _ => trivial
  | q :: l, b, v :: vs, h, hB => ⟨one1_rep h.1 (hB 0 q v rfl rfl), goV_rep l (b + 1) vs h.2 fun j q' v' h1 h2 h3 bl hb => by
      have := hB (j + 1) q' v' (by simpa using h1) (by simpa using h2) h3 bl (by rw [← hb]; congr 1; omega)
      rw [show b + 1 + j = b + (j + 1) by omega]
      exact this⟩
  | [], _, _ :: _, h, _ => h.elim
  | _ :: _, _, [], h, _ => h.elim
theorem goV_sites : ∀ (l : List RQ) (b s : Nat), s ∈ (goV b l).flatMap EV.sites → ∃ j, j < l.length ∧ s = b + j
  | [], _, _, h => nomatch h
  | q :: l, b, s, h => by
    simp only [goV, List.flatMap_cons, List.mem_append] at h
    rcases h with h | h
    · exact ⟨0, by simp, (one1_sites h).1⟩
    · obtain ⟨j, h1, h2⟩ := goV_sites l (b + 1) s h
      exact ⟨j + 1, by simp; omega, by omega⟩
theorem tupV_rep {w : World} {ok : Nat → Prop} {ν : Nat → Value} {B : Nat → Option Blk} {l : List EV} {vs : List Value} (h : All2 (RepEV w ok ν B) l vs) : RepTV w ok ν B (tupV l) (tupVal vs) := by
  cases l with
  | nil =>
    cases vs with
    | nil => exact ⟨[], rfl, trivial⟩
    | cons _ _ => exact h.elim
  | cons x l =>
    cases vs with
    | nil => exact h.elim
    | cons v vs =>
      cases l with
      | nil =>
        cases vs with
        | nil => exact h.1
        | cons _ _ => exact h.2.elim
      | cons y l =>
        cases vs with
        | nil => exact h.2.elim
        | cons u vs => exact ⟨v :: u :: vs, rfl, h⟩
theorem tupV_sites {l : List EV} {s : Nat} (h : s ∈ (tupV l).sites) : s ∈ l.flatMap EV.sites := by
  cases l with
  | nil => exact h
  | cons x l =>
    cases l with
    | nil => simpa [tupV, TV.sites] using h
    | cons y l => exact h

end Go.Pi
