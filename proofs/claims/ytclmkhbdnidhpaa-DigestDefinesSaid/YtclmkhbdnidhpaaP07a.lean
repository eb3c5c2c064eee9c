/- The laws of chapter 7, as plain statements (1). -/
import Derived.Test.YtclmkhbdnidhpaaM07d
import Derived.Test.YtclmkhbdnidhpaaB07x0
import Derived.KernelRfl
set_option linter.unusedVariables false
set_option linter.unusedSimpArgs false
set_option maxRecDepth 100000
namespace Go.Gm
open Go.Pi

theorem alive07 : law07_alive.f 2000000 = some true := by kernel_rfl

theorem law_DigestDefines (a0 : ByteArray) (a1 : Int × Int × Int) (h1 : 0 ≤ a1.1) (h2 : a1.2.1 ≤ 9223372036854775807) (h3 : 0 ≤ a1.2.2) : law07_DigestDefines.f 2000000 a0 a1 = some true := by
  unfold law07_DigestDefines.f
  by_cases c : ((a0.size : Nat) : Int) > 2000
  · rw [decide_eq_true c, condT, alive07, bindO_s]
  · rw [decide_eq_false c, condF, Of_eq a0 (by omega) 2000000 (by omega), bindO_s, rOf_eq a0 (by omega) 2000000 (by omega), bindO_s, beq_self_eq_true, condT]
    rw [Join_eq _ (by omega) _ _ _ h1 h3 h2, bindO_s, rJoin_eq _ (by omega) _ _ _ h1 h3 h2, bindO_s, beq_self_eq_true, condT]
    rw [Chain_eq _ _ _ h1 (by omega) (by omega), bindO_s, rChain_eq _ _ _ h1 (by omega) (by omega), bindO_s, beq_self_eq_true, condT, alive07, bindO_s]

theorem lists_l0 (l : List Int) (hl : l.length ≤ 1000) : ∀ (n k i : Nat), n = l.length - i → i ≤ l.length → law07_alive.f k = some true → law07_DigestLists.l0 (k + n + 1) (i : Int) l l = some true := by
  intro n
  induction n with
  | zero =>
    intro k i hn hi ha
    have : ¬ ((i : Int) < (l.length : Int)) := by omega
    simp only [law07_DigestLists.l0, Nat.add_zero, decide_eq_false this, condF, ha, bindO_s]
  | succ n ih =>
    intro k i hn hi ha
    have hlt : i < l.length := by omega
    have c : (i : Int) < (l.length : Int) := by omega
    rw [show k + (n + 1) + 1 = (k + n + 1) + 1 by omega, law07_DigestLists.l0.eq_2]
    simp only [decide_eq_true c, condT, inb_t (Int.natCast_nonneg i) c, bne_self_eq_false, condF]
    rw [i64_in (by omega) (by omega), show ((i : Int) + 1) = ((i + 1 : Nat) : Int) by omega]
    exact ih k (i + 1) (by omega) (by omega) ha
theorem DigestDefines_plain : ∀ x : ArgsD law07_DigestDefines.E.ps, WFA law07_DigestDefines.E.ps x → ∃ k, law07_DigestDefines.E.fn k x = some true := by
  intro x h
  obtain ⟨a0, a1, u⟩ := x
  obtain ⟨_, h2, _⟩ := h
  simp only [WFr, WFc] at h2
  exact ⟨2000000, law_DigestDefines a0 a1 (wf_u64 h2.1).1 (wf_i64 h2.2.1).2 (wf_u64 h2.2.2).1⟩
end Go.Gm
