/- A slot that holds nil, as a row of the call's own that is empty. -/
import Derived.Test.YtgofapkelhccgaaPi25
set_option linter.unusedVariables false
set_option linter.unusedSimpArgs false
namespace Go.Pi
open Go.RowKit

theorem Sim.nilOwn {W0 : World} {A Gv : Nat → Prop} {N : Nat} {U : Nat → Prop} {g : Nat → TV} {B : Nat → Option Blk} {ν : Nat → Value} {a : Act} {w : World} (h : Sim W0 A Gv N U g B ν a w) {t : Nat} (ht : g t = .e (.one (.val (.slice none 0 0))))
    {s : Nat} (hs : ¬ U s) (e : TypeId) (r : Shs) : ∃ ν', Sim W0 A Gv N (fun i => U i ∨ i = s) (fun i => cond (Nat.beq t i) (.e (.one (.own s))) (g i)) (setB B s (some (.row e r [] false))) ν' a w := by
  have hg : w.grownBy w none := ⟨rfl, rfl, rfl, Nat.le_refl _, fun _ _ _ => rfl⟩
  obtain ⟨h1, h2, h3, h4⟩ := h.new hs hg (.row e r [] false) (.slice none 0 0) (fun x hx => by cases hx) (fun x hx => by cases hx)
    (fun ok1 ν1 B1 _ _ _ hν => ⟨[], trivial, by rw [hν]; exact World.ownsRow_nil w 0 e r.size, fun y hy => by rw [hν] at hy; cases hy⟩)
  refine ⟨_, h1.old, h1.kept, h1.defs, h1.size, fun i => ?_, fun i s' hs' => ?_, h1.ub, h1.bl, h1.inj⟩
  · by_cases hi : t = i
    · subst hi
      simp only [Nat.beq_refl, cond]
      have hv := h.tm t
      rw [ht] at hv
      have hv : a.tmps.getD t undef = .slice none 0 0 := hv.1
      rw [hv]
      exact ⟨rfl, fun b hb => by rw [setB_eq] at hb; cases hb; exact ⟨rfl, (setν_eq _ _ _).symm⟩⟩
    · rw [beq_ne hi]
      exact h1.tm i
  · by_cases hi : t = i
    · subst hi
      simp only [Nat.beq_refl, cond, TV.sites, EV.sites, EV.cells, CV.sites, List.flatMap_cons, List.flatMap_nil, List.append_nil, List.mem_singleton] at hs'
      exact .inr hs'
    · rw [beq_ne hi] at hs'
      exact h1.us i s' hs'
end Go.Pi
