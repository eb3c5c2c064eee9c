/- Calls. -/
import Derived.Test.YtgofapkelhccgaaPi16
set_option linter.unusedVariables false
set_option linter.unusedSimpArgs false
namespace Go.Pi
open Go.RowKit

def RepP (w : World) (ok : Nat → Prop) (agg : Bool) (r : Shs) (x : RowD r) (v : Value) : Prop :=
  if agg = true then ∃ cs : List Value, v = .agg cs.toArray ∧ RepR w ok r x cs else RepR w ok r x [v]
def RepA (w : World) (ok : Nat → Prop) : (ps : List PK) → ArgsD ps → List Value → Prop
  | [], _, vs => vs = []
  | .data agg r :: ps, x, vs => ∃ v rest, vs = v :: rest ∧ RepP w ok agg r x.1 v ∧ RepA w ok ps x.2 rest
  | .take e r :: ps, x, vs => ∃ v rest css, vs = v :: rest ∧ All2 (fun x cs => RepR w ok r x cs) x.1 css ∧ w.ownsRow 0 e r.size v (List.length x.1) css.flatten ∧ RepA w ok ps x.2 rest
  | .fn f :: ps, x, vs => ∃ rest, vs = .func (.func f) #[] #[] :: rest ∧ RepA w ok ps x.2 rest
/-- The values that are handed over for good. -/
def tkV : List PK → List Value → List Value
  | .take _ _ :: ps, v :: vs => v :: tkV ps vs
  | _ :: ps, _ :: vs => tkV ps vs
  | _, _ => []
def Apart (u v : Value) : Prop := ∀ x, ownB u = some x → ownB v ≠ some x
def GvOf (l : List Value) (x : Nat) : Prop := ∃ v ∈ l, ownB v = some x
def RK.isAgg (p : RK) : Bool := match p.row with
  | .one _ => p.agg
  | .cons _ _ => true
def RepO (w : World) (ok new : Nat → Prop) : (p : RK) → RowD p.row → Value → Prop
  | ⟨agg, r, none⟩, x, v => RepP w ok (RK.isAgg ⟨agg, r, none⟩) r x v
  | ⟨_, .one (.sl r), some e⟩, x, v => ∃ css, All2 (fun x cs => RepR w ok r x cs) x css ∧ w.ownsRow 0 e r.size v (List.length x) css.flatten ∧ ∀ y, ownB v = some y → new y
  | ⟨_, _, some _⟩, _, _ => False
def RepRs (w : World) (ok new : Nat → Prop) : (rs : List RK) → ResD rs → List Value → Prop
  | [], _, vs => vs = []
  | [p], x, vs => ∃ v, vs = [v] ∧ RepO w ok new p x v
  | p :: q :: l, x, vs => ∃ v rest, vs = v :: rest ∧ RepO w ok new p x.1 v ∧ RepRs w ok new (q :: l) x.2 rest
def owV : List RK → List Value → List Value
  | p :: rs, v :: vs => if p.own.isSome then v :: owV rs vs else owV rs vs
  | _, _ => []
def tupVal : List Value → Value
  | [v] => v
  | l => .tuple l.toArray
def okR (A Gv : Nat → Prop) (w w' : World) (ow : List Value) (x : Nat) : Prop := (A x ∨ Gv x ∨ w.heap.size ≤ x) ∧ x < w'.heap.size ∧ ¬ GvOf ow x

/-- The function does what its Lean function says. -/
structure Holds (P : Program) (n : FuncId) (E : Ent) : Prop where
  there : ∃ fn, P.funcs[n]? = some fn ∧ fn.body.isNone = false ∧ (fn.name == "runtime.NumGoroutine") = false
  calls : ∀ (k : Nat) (x : ArgsD E.ps) (r : ResD E.rs) (vs : List Value) (w : World) (A : Nat → Prop), E.fn k x = some r →
    (∀ b, A b → b < w.heap.size ∧ ¬ GvOf (tkV E.ps vs) b) → (tkV E.ps vs).Pairwise Apart → RepA w A E.ps x vs →
    Calls P n vs.toArray w fun e w' => ∃ us, e = .returned (tupVal us) ∧ Kept w (GvOf (tkV E.ps vs)) w' ∧ (owV E.rs us).Pairwise Apart ∧
      RepRs w' (okR A (GvOf (tkV E.ps vs)) w w' (owV E.rs us)) (fun x => w.heap.size ≤ x ∨ GvOf (tkV E.ps vs) x) E.rs r us

mutual
theorem RepC.flat {w w1 : World} {ok ok1 : Nat → Prop} : ∀ (s : Sh) (x : CellD s) (v : Value), s.hasSl = false → RepC w ok s x v → RepC w1 ok1 s x v
  | .int _, _, _, _, h => by simpa only [RepC] using h
  | .bool, _, _, _, h => by simpa only [RepC] using h
  | .str, _, _, _, h => by simpa only [RepC] using h
  | .sl r, _, _, hs, _ => by simp [Sh.hasSl] at hs
theorem RepR.flat {w w1 : World} {ok ok1 : Nat → Prop} : ∀ (r : Shs) (x : RowD r) (cs : List Value), r.hasSl = false → RepR w ok r x cs → RepR w1 ok1 r x cs
  | .one s, x, cs, hs, h => by
    simp only [RepR, Shs.hasSl] at h hs ⊢
    obtain ⟨v, e, hv⟩ := h
    exact ⟨v, e, RepC.flat s x v hs hv⟩
  | .cons s r, x, cs, hs, h => by
    simp only [RepR, Shs.hasSl, Bool.or_eq_false_iff] at h hs ⊢
    obtain ⟨v, vs, e, hv, hr⟩ := h
    exact ⟨v, vs, e, RepC.flat s x.1 v hs.1 hv, RepR.flat r x.2 vs hs.2 hr⟩
end

section
variable {P : Program} {W0 : World} {A Gv : Nat → Prop} {N : Nat} {U : Nat → Prop} {g : Nat → TV} {B : Nat → Option Blk} {ν : Nat → Value} {a : Act} {w : World} {o : Oper}

theorem funOf_rep {ok : Nat → Prop} {t : TV} {f : FuncId} (hf : funOf t = some f) {v : Value} (hv : RepTV w ok ν B t v) : v = .func (.func f) #[] #[] := by
  unfold funOf at hf
  split at hf
  · rename_i f' a b
    split at hf
    · rename_i hab
      cases hf
      have e1 : a = #[] := Array.eq_empty_of_size_eq_zero hab.1
      have e2 : b = #[] := Array.eq_empty_of_size_eq_zero hab.2
      subst e1; subst e2
      exact hv.1
    · cases hf
  · cases hf

def lent1 : PK → TV → List Nat
  | .data _ _, .e x => x.cells.flatMap CV.rowSites
  | _, _ => []
theorem lentA_cons (p : PK) (ps : List PK) (t : TV) (ts : List TV) : lentA (p :: ps) (t :: ts) = lent1 p t ++ lentA ps ts := by
  cases p <;> cases t <;> rfl
def taken1 : PK → TV → List Nat
  | .take _ _, .e (.one (.own s)) => [s]
  | _, _ => []
theorem takenA_cons (p : PK) (ps : List PK) (t : TV) (ts : List TV) : takenA (p :: ps) (t :: ts) = taken1 p t ++ takenA ps ts := by
  cases p with
  | take e r =>
    cases t with
    | e x =>
      cases x with
      | one v => cases v <;> rfl
      | agg l => rfl
    | _ => rfl
  | _ => rfl

theorem pack1_true (B : Nat → Option Blk) (r : Shs) (t : TV) : (pack1 B (.data true r) t : Option (RowD r)) = match t with
    | .e (.agg l) => packR B r l
    | _ => none := rfl
theorem pack1_false (B : Nat → Option Blk) (r : Shs) (t : TV) : (pack1 B (.data false r) t : Option (RowD r)) = match t with
    | .e (.one v) => packR B r [v]
    | _ => none := rfl
theorem pack1_take (B : Nat → Option Blk) (e : TypeId) (r : Shs) (t : TV) : (pack1 B (.take e r) t : Option (List (RowD r))) = match t with
    | .e (.one (.own s)) => match B s with
      | some (.row e' r' xs false) => if e = e' then castRows r' r xs else none
      | _ => none
    | _ => none := rfl
theorem pack1_fn (B : Nat → Option Blk) (f : FuncId) (t : TV) : (pack1 B (.fn f) t : Option Unit) = match funOf t with
    | some f' => if f = f' then some () else none
    | none => none := rfl
def Rep1 (w : World) (ok : Nat → Prop) : (p : PK) → p.D → Value → Prop
  | .data agg r, x, v => RepP w ok agg r x v
  | .take e r, x, v => ∃ css, All2 (fun x cs => RepR w ok r x cs) x css ∧ w.ownsRow 0 e r.size v (List.length x) css.flatten
  | .fn f, _, v => v = .func (.func f) #[] #[]
theorem RepA.cons {w : World} {ok : Nat → Prop} {p : PK} {ps : List PK} {x : p.D} {y : ArgsD ps} {v : Value} {rest : List Value} (h1 : Rep1 w ok p x v) (h2 : RepA w ok ps y rest) :
    RepA w ok (p :: ps) (x, y) (v :: rest) := by
  cases p with
  | data agg r => exact ⟨v, rest, rfl, h1, h2⟩
  | take e r => obtain ⟨css, h3, h4⟩ := h1; exact ⟨v, rest, css, rfl, h3, h4, h2⟩
  | fn f => exact ⟨rest, by rw [show v = _ from h1], h2⟩

theorem pack_data (h : Sim W0 A Gv N U g B ν a w) {ok1 : Nat → Prop} (hok : ∀ x, okS W0 A Gv ν B w x → ok1 x) (agg : Bool) (r : Shs) {t : TV} {v : Value} (hv : RepTV w (okS W0 A Gv ν B w) ν B t v) (x : RowD r)
    (hl : ∀ s ∈ lent1 (.data agg r) t, ∀ e r xs fz y, B s = some (.row e r xs fz) → ownB (ν s) = some y → ok1 y) (hx : (pack1 B (.data agg r) t : Option (RowD r)) = some x) : RepP w ok1 agg r x v := by
  cases agg with
  | true =>
    cases t with
    | e y =>
      cases y with
      | agg l =>
        obtain ⟨vs, e, hl'⟩ := hv
        unfold RepP
        rw [if_pos rfl]
        exact ⟨vs, e, packR_rep h hok r l vs (fun s hs => hl s hs) x hx hl'⟩
      | one _ => exact nomatch hx
    | dead => exact nomatch hx
    | tup _ => exact nomatch hx
  | false =>
    cases t with
    | e y =>
      cases y with
      | one u =>
        unfold RepP
        rw [if_neg (by decide)]
        exact packR_rep h hok r [u] [v] (fun s hs => hl s hs) x hx ⟨hv, trivial⟩
      | agg _ => exact nomatch hx
    | dead => exact nomatch hx
    | tup _ => exact nomatch hx
theorem pack_take (h : Sim W0 A Gv N U g B ν a w) {ok1 : Nat → Prop} (hok : ∀ x, okS W0 A Gv ν B w x → ok1 x) (e : TypeId) (r : Shs) {t : TV} {v : Value} (hv : RepTV w (okS W0 A Gv ν B w) ν B t v) (x : List (RowD r))
    (hx : (pack1 B (.take e r) t : Option (List (RowD r))) = some x) : ∃ s, t = .e (.one (.own s)) ∧ v = ν s ∧ B s = some (.row e r x false) ∧ ∃ css, All2 (fun x cs => RepR w ok1 r x cs) x css ∧ w.ownsRow 0 e r.size v (List.length x) css.flatten := by
  have key : ∀ s, t = .e (.one (.own s)) → B s = some (.row e r x false) → ∃ s, t = .e (.one (.own s)) ∧ v = ν s ∧ B s = some (.row e r x false) ∧ ∃ css, All2 (fun x cs => RepR w ok1 r x cs) x css ∧ w.ownsRow 0 e r.size v (List.length x) css.flatten := by
    intro s ht hB
    subst ht
    obtain ⟨_, hv⟩ := hv
    obtain ⟨_, rfl⟩ := hv _ hB
    obtain ⟨css, h3, h4, h5⟩ := h.bl _ _ hB
    exact ⟨s, rfl, rfl, hB, css, h3.imp fun x cs hx => RepR.move (fun _ _ => rfl) hok _ x cs hx, h4⟩
  cases t with
  | dead => exact nomatch hx
  | tup _ => exact nomatch hx
  | e y =>
    cases y with
    | agg _ => exact nomatch hx
    | one c =>
      cases c with
      | own s =>
        refine key s rfl ?_
        cases hB : B s with
        | none => rw [pack1_take] at hx; simp only [hB] at hx; exact nomatch hx
        | some b =>
          rw [pack1_take] at hx
          simp only [hB] at hx
          cases b with
          | box _ _ => exact nomatch hx
          | arr _ _ _ _ => exact nomatch hx
          | row e' r' xs fz =>
            cases fz with
            | true => exact nomatch hx
            | false =>
              by_cases he : e = e'
              · subst he
                have hx' : castRows r' r xs = some x := by simp only [if_pos] at hx; exact hx
                obtain ⟨rfl, rfl⟩ := castRows_eq hx'
                rfl
              · simp [he] at hx
      | _ => exact nomatch hx

theorem pack1_rep (h : Sim W0 A Gv N U g B ν a w) {ok1 : Nat → Prop} (hok : ∀ x, okS W0 A Gv ν B w x → ok1 x) (p : PK) {t : TV} {v : Value} (hv : RepTV w (okS W0 A Gv ν B w) ν B t v) (x : p.D)
    (hl : ∀ s ∈ lent1 p t, ∀ e r xs fz y, B s = some (.row e r xs fz) → ownB (ν s) = some y → ok1 y) (hx : pack1 B p t = some x) :
    Rep1 w ok1 p x v ∧ (∀ ps rest, tkV (p :: ps) (v :: rest) = (taken1 p t).map ν ++ tkV ps rest) ∧ ∀ s ∈ taken1 p t, ∃ e r xs, B s = some (.row e r xs false) := by
  cases p with
  | data agg r => exact ⟨pack_data h hok agg r hv x hl hx, fun _ _ => rfl, fun s hs => by simp [taken1] at hs⟩
  | take e r =>
    obtain ⟨s, rfl, rfl, hB, hr⟩ := pack_take h hok e r hv x hx
    refine ⟨hr, fun _ _ => rfl, fun s' hs' => ?_⟩
    simp only [taken1, List.mem_singleton] at hs'
    subst hs'
    exact ⟨_, _, _, hB⟩
  | fn f =>
    have hx' := hx
    rw [show pack1 B (.fn f) t = (pack1 B (.fn f) t : Option Unit) from rfl, pack1_fn] at hx'
    split at hx'
    · rename_i f' hf
      split at hx'
      · rename_i hff
        subst hff
        exact ⟨funOf_rep hf hv, fun _ _ => rfl, fun s hs => by simp [taken1] at hs⟩
      · cases hx'
    · cases hx'

/-- Arguments, in memory. ok1: what is read, and the call's own rows that are lent. -/
theorem packA_rep (h : Sim W0 A Gv N U g B ν a w) {ok1 : Nat → Prop} (hok : ∀ x, okS W0 A Gv ν B w x → ok1 x) : ∀ (ps : List PK) (as : List Operand) (x : ArgsD ps),
    (∀ s ∈ lentA ps (as.map (opnd g)), ∀ e r xs fz y, B s = some (.row e r xs fz) → ownB (ν s) = some y → ok1 y) → packA B ps (as.map (opnd g)) = some x →
    RepA w ok1 ps x (as.map a.eval) ∧ (tkV ps (as.map a.eval)) = (takenA ps (as.map (opnd g))).map ν ∧ ∀ s ∈ takenA ps (as.map (opnd g)), ∃ e r xs, B s = some (.row e r xs false)
  | [], as, x, _, hx => by
    cases as with
    | nil => exact ⟨rfl, rfl, fun s hs => by cases hs⟩
    | cons _ _ => simp [packA] at hx
  | p :: ps, [], x, _, hx => by simp [packA] at hx
  | p :: ps, y :: as, x, hl, hx => by
    simp only [List.map_cons, packA] at hx hl ⊢
    rw [lentA_cons] at hl
    cases h1 : pack1 B p (opnd g y) with
    | none => rw [h1] at hx; cases hx
    | some u =>
      cases h2 : packA B ps (as.map (opnd g)) with
      | none => rw [h1, h2] at hx; cases hx
      | some z =>
        rw [h1, h2] at hx
        cases hx
        have ih := packA_rep h hok ps as z (fun s hs => hl s (List.mem_append.2 (.inr hs))) h2
        obtain ⟨h3, h4, h5⟩ := pack1_rep h hok p (h.opnd y) u (fun s hs => hl s (List.mem_append.2 (.inl hs))) h1
        refine ⟨RepA.cons h3 ih.1, by rw [h4, ih.2.1, takenA_cons, List.map_append], fun s hs => ?_⟩
        rw [takenA_cons, List.mem_append] at hs
        rcases hs with hs | hs
        · exact h5 s hs
        · exact ih.2.2 s hs

end
end Go.Pi
