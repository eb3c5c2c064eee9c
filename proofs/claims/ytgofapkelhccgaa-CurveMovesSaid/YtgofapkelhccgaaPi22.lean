/- One operation: what the executor says of it holds. -/
import Derived.Test.YtgofapkelhccgaaPi35
set_option linter.unusedVariables false
set_option linter.unusedSimpArgs false
namespace Go.Pi
open Go.RowKit

section
variable (P : Program) (W0 : World) (A Gv : Nat → Prop) (N : Nat) (U : Nat → Prop) (g : Nat → TV) (B : Nat → Option Blk) (base : Nat) (o : Oper) (a : Act) (w : World)
abbrev U8 (U : Nat → Prop) (base : Nat) : Nat → Prop := fun i => U i ∨ ∃ j, j < 8 ∧ i = base + j
def Fits : Prep → Prop
  | .bad => True
  | .eff gd e => gd = true → Did P W0 A Gv N (U8 U base) g (updB e.w B) e.v o a w
  | .call n E x as wl => Holds P n E ∧ ∀ k r, E.fn k x = some r → Did P W0 A Gv N (U8 U base) g (updB (callEff base E wl r).w B) (callEff base E wl r).v o a w
end

theorem map_one {α β : Type} {f : α → β} {l : Array α} {y : β} (h : l.toList.map f = [y]) : ∃ x, l = #[x] ∧ f x = y := by
  obtain ⟨l⟩ := l
  cases l with
  | nil => cases h
  | cons x l =>
    cases l with
    | nil => exact ⟨x, rfl, by simpa using h⟩
    | cons _ _ => simp at h
theorem map_two {α β : Type} {f : α → β} {l : Array α} {y z : β} (h : l.toList.map f = [y, z]) : ∃ x x', l = #[x, x'] ∧ f x = y ∧ f x' = z := by
  obtain ⟨l⟩ := l
  cases l with
  | nil => cases h
  | cons x l =>
    cases l with
    | nil => simp at h
    | cons x' l =>
      cases l with
      | nil => exact ⟨x, x', rfl, by simpa using h⟩
      | cons _ _ => simp at h
theorem toList_one {α : Type} {l : Array α} {y : α} (h : l.toList = [y]) : l = #[y] := by
  obtain ⟨l⟩ := l
  simp at h
  subst h
  rfl
theorem toList_two {α : Type} {l : Array α} {y z : α} (h : l.toList = [y, z]) : l = #[y, z] := by
  obtain ⟨l⟩ := l
  simp at h
  subst h
  rfl

section
variable {P : Program} {W0 : World} {A Gv : Nat → Prop} {N : Nat} {U : Nat → Prop} {g : Nat → TV} {B : Nat → Option Blk} {ν : Nat → Value} {a : Act} {w : World} {o : Oper} {base : Nat}

theorem fits_same {tv : TV} (h : Res P W0 A Gv N U g B tv o a w) : Fits P W0 A Gv N U g B base o a w (eff1 tv) :=
  fun _ => (h.mono fun _ => .inl).did
theorem fits_sameG {gd : Bool} {tv : TV} (h : gd = true → Res P W0 A Gv N U g B tv o a w) : Fits P W0 A Gv N U g B base o a w (effG gd tv) :=
  fun hg => ((h hg).mono fun _ => .inl).did
theorem fits_upd {gd : Bool} {tv : TV} {wl : List (Nat × Option Blk)} (h : gd = true → Res P W0 A Gv N U g (updB wl B) tv o a w) : Fits P W0 A Gv N U g B base o a w (.eff gd { v := tv, w := wl }) :=
  fun hg => ((h hg).mono fun _ => .inl).did
theorem fits_new {gd : Bool} {tv : TV} {wl : List (Nat × Option Blk)} (h : gd = true → Res P W0 A Gv N (fun i => U i ∨ i = base) g (updB wl B) tv o a w) : Fits P W0 A Gv N U g B base o a w (.eff gd { v := tv, w := wl }) :=
  fun hg => ((h hg).mono fun s hs => hs.imp id fun e => ⟨0, by omega, e⟩).did

theorem storeV_res (h : Sim W0 A Gv N U g B ν a w) (t : TypeId) (p x : Operand) (ho : o.op = .store t p x) {q : CV} {v : EV} (hp : getC (opnd g p) = some q) (hx : getE (opnd g x) = some v) {wl : List (Nat × Option Blk)}
    (hs : storeV P B t q v = some wl) : Res P W0 A Gv N U g (updB wl B) (.tup []) o a w := by
  have hp := getC_eq hp
  have hx := getE_eq hx
  unfold storeV at hs
  split at hs
  · cases hs
  · rename_i n hn
    split at hs
    · rename_i hl
      split at hs
      · rename_i s off
        split at hs
        · rename_i bt cells hB
          split at hs
          · rename_i hfit
            cases hs
            rw [updB_cons, updB_nil]
            exact op_store_box h t p x ho hp hx hn hl hB hfit
          · cases hs
        · cases hs
      · rename_i s r i off
        split at hs
        · rename_i e r' xs hB
          split at hs
          · cases hs
          · rename_i hns
            split at hs
            · rename_i xs' hxs
              obtain ⟨rfl, rfl⟩ := castRows_eq hxs
              split at hs
              · rename_i hfit
                split at hs
                · rename_i y hy
                  cases hs
                  rw [updB_cons]
                  exact op_store_row h t p x ho hp hx hn hl hB hfit hy rfl hns
                · cases hs
              · cases hs
            · cases hs
        · rename_i e r' m xs hB
          split at hs
          · rename_i xs' hxs
            obtain ⟨rfl, rfl⟩ := castRows_eq hxs
            split at hs
            · rename_i hfit
              split at hs
              · rename_i y hy
                cases hs
                rw [updB_cons]
                exact op_store_arr h t p x ho hp hx hn hl hB hfit hy rfl
              · cases hs
            · cases hs
          · cases hs
        · cases hs
      · cases hs
    · cases hs

theorem nodupN_nodup : ∀ {l : List Nat}, nodupN l = true → l.Nodup
  | [], _ => List.nodup_nil
  | x :: l, h => by
    rw [nodupN, Bool.and_eq_true, List.all_eq_true] at h
    refine List.nodup_cons.2 ⟨fun hx => ?_, nodupN_nodup h.2⟩
    have := h.1 x hx
    rw [Nat.beq_refl] at this
    cases this
theorem findE_fits (h : Sim W0 A Gv N U g B ν a w) (c : Call) (ho : o.op = .call c) {f : Operand} (hc : c.callee = .value f) {n : FuncId} (hf : funOf (opnd g f) = some n) (hfree : ∀ j, j < 8 → ¬ U (base + j)) :
    ∀ (T : List (Nat × Ent)), (∀ p ∈ T, Holds P p.1 p.2) → Fits P W0 A Gv N U g B base o a w (findE B n (c.args.toList.map (opnd g)) T)
  | [], _ => trivial
  | (m, E) :: T, hT => by
    unfold findE
    cases hm : Nat.beq m n with
    | false => exact findE_fits h c ho hc hf hfree T fun p hp => hT p (List.mem_cons_of_mem _ hp)
    | true =>
      have hmn := Nat.eq_of_beq_eq_true hm
      subst hmn
      simp only [cond]
      split
      · rename_i x hp
        cases hcnd : (nodupN (takenA E.ps (c.args.toList.map (opnd g))) && (((takenA E.ps (c.args.toList.map (opnd g))).all fun s => (lentA E.ps (c.args.toList.map (opnd g))).all fun s' => !Nat.beq s s') && Nat.ble E.rs.length 8)) with
        | true =>
          simp only [cond]
          have hE : Holds P m E := hT (m, E) (by simp)
          refine ⟨hE, fun k r hr => ?_⟩
          rw [Bool.and_eq_true, Bool.and_eq_true] at hcnd
          obtain ⟨hnd, hdis, h8⟩ := hcnd
          have hnd := nodupN_nodup hnd
          have h8 := Nat.le_of_ble_eq_true h8
          have hdis : ∀ s ∈ takenA E.ps (c.args.toList.map (opnd g)), s ∉ lentA E.ps (c.args.toList.map (opnd g)) := fun s hs hs' => by
            rw [List.all_eq_true] at hdis
            have h1 := hdis s hs
            rw [List.all_eq_true] at h1
            have h2 := h1 s hs'
            rw [Nat.beq_refl] at h2
            cases h2
          obtain ⟨d1, d2⟩ := op_call h c ho hc hf hE hp hnd hdis (base := base) (fun j hj => hfree j (by omega)) hr
          refine ⟨fun s hs => ?_, fun next Q hk => d2 next Q fun v w1 ν1 hs hr => hk v w1 ν1 (hs.mono fun i hi => ?_) hr⟩
          · rcases d1 s hs with h1 | ⟨j, h1, h2⟩
            · exact .inl h1
            · exact .inr ⟨j, by omega, h2⟩
          · rcases hi with h1 | ⟨j, h1, h2⟩
            · exact .inl h1
            · exact .inr ⟨j, by omega, h2⟩
        | false => trivial
      · exact findE_fits h c ho hc hf hfree T fun p hp => hT p (List.mem_cons_of_mem _ hp)

end
end Go.Pi
