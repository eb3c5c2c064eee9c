/- Turns of spots. -/
import Derived.Test.YtpgnlkenclkgbaaMQ
import Derived.Test.YtpgnlkenclkgbaaDQ
import Derived.Test.YtpgnlkenclkgbaaDQ
set_option linter.unusedVariables false
set_option linter.unusedSimpArgs false
namespace Go.Gm
open Go.Pi

theorem zand3 (q : Int) : zbits .and .i64 q 3 = q % 4 := by
  have := zand_mask .i64 q 2 (by decide)
  rw [show (2 : Int) ^ 2 - 1 = 3 by decide, show (2 : Int) ^ 2 = 4 by decide] at this
  rw [this, i64_in (by omega) (by omega)]
abbrev ng (x : Int) : Int := negI .i64 x
def I64 (x : Int) : Prop := -9223372036854775808 ≤ x ∧ x ≤ 9223372036854775807
theorem ng_ng {x : Int} (h : I64 x) : negI .i64 (negI .i64 x) = x := by
  unfold I64 at h
  unfold negI
  simp only [wrap_i64]
  omega
theorem ng_in (x : Int) : I64 (negI .i64 x) := i64_bd _
theorem tmod4 (b : Bool) (x : Int) : (bif decide (Int.tmod x 4 < 0) then (some (b, IntKind.wrap .i64 (Int.tmod x 4 + 4)) : Option (Bool × Int)) else some (b, Int.tmod x 4)) = some (b, x % 4) := by
  have h := Int.tmod_eq_emod (a := x) (b := 4)
  have e4 : ((Int.natAbs 4 : Nat) : Int) = 4 := rfl
  by_cases c : Int.tmod x 4 < 0
  · rw [decide_eq_true c, condT]
    have : Int.tmod x 4 = x % 4 - 4 := by
      rw [h] at c ⊢
      split at c <;> split <;> first | omega | contradiction
    rw [this, i64_in (by omega) (by omega)]
    congr 2; omega
  · rw [decide_eq_false c, condF]
    have : Int.tmod x 4 = x % 4 := by
      rw [h] at c ⊢
      split at c <;> split <;> first | omega | contradiction
    rw [this]
theorem Norm_eq (t : Bool × Int) : turn_Norm.f t = some (t.1, t.2 % 4) := by unfold turn_Norm.f; rw [zand3]
theorem rNorm_eq (t : Bool × Int) : ref12_Norm.f t = some (t.1, t.2 % 4) := by unfold ref12_Norm.f; exact tmod4 t.1 t.2
/-- What a turn does with a spot; q: 0 to 3. -/
def rot (q : Int) (s : Int × Int) : Int × Int := if q = 1 then (negI .i64 s.2, s.1) else if q = 2 then (negI .i64 s.1, negI .i64 s.2) else if q = 3 then (s.2, negI .i64 s.1) else s
def flp (f : Bool) (s : Int × Int) : Int × Int := cond f (negI .i64 s.1, s.2) s
def act (t : Bool × Int) (s : Int × Int) : Int × Int := rot (t.2 % 4) (flp t.1 s)
theorem four (q : Int) : q % 4 = 0 ∨ q % 4 = 1 ∨ q % 4 = 2 ∨ q % 4 = 3 := by omega
theorem Apply_eq (t : Bool × Int) (s : Int × Int) : turn_Apply.f t s = some (act t s) := by
  unfold turn_Apply.f act rot flp
  rw [zand3]
  cases t.1 <;> rcases four t.2 with h | h | h | h <;> rw [h] <;> rfl
theorem rApply_l0 (x y : Int) (hx : I64 x) (hy : I64 y) (a b : Int) (f : Bool) (q : Int) (hq : q = 0 ∨ q = 1 ∨ q = 2 ∨ q = 3) (k : Nat) (hk : 5 ≤ k) : ref12_Apply.l0 k 0 a b x y f q = some (rot q (x, y)) := by
  obtain ⟨k, rfl⟩ : ∃ m, k = m + 5 := ⟨k - 5, by omega⟩
  have w0 : IntKind.i64.wrap (0 + 1) = 1 := rfl
  have w1 : IntKind.i64.wrap (1 + 1) = 2 := rfl
  have w2 : IntKind.i64.wrap (2 + 1) = 3 := rfl
  rcases hq with rfl | rfl | rfl | rfl
  · rfl
  · rw [ref12_Apply.l0, show decide ((0 : Int) < 1) = true from rfl, condT, w0, ref12_Apply.l0, show decide ((1 : Int) < 1) = false from rfl, condF]; rfl
  · rw [ref12_Apply.l0, show decide ((0 : Int) < 2) = true from rfl, condT, w0, ref12_Apply.l0, show decide ((1 : Int) < 2) = true from rfl, condT, w1, ref12_Apply.l0, show decide ((2 : Int) < 2) = false from rfl, condF]; rfl
  · rw [ref12_Apply.l0, show decide ((0 : Int) < 3) = true from rfl, condT, w0, ref12_Apply.l0, show decide ((1 : Int) < 3) = true from rfl, condT, w1, ref12_Apply.l0, show decide ((2 : Int) < 3) = true from rfl, condT, w2, ref12_Apply.l0, show decide ((3 : Int) < 3) = false from rfl, condF, ng_ng hy]; rfl
theorem rApply_eq (t : Bool × Int) (s : Int × Int) (h1 : I64 s.1) (h2 : I64 s.2) (k : Nat) (hk : 5 ≤ k) : ref12_Apply.f k t s = some (act t s) := by
  unfold ref12_Apply.f
  rw [rNorm_eq, bindO_s, bindO_s]
  unfold act flp
  cases t.1 with
  | true =>
    show ref12_Apply.l0 k 0 0 0 (negI .i64 s.1) s.2 true (t.2 % 4) = _
    rw [rApply_l0 _ _ (ng_in _) h2 _ _ _ _ (four _) k hk]; rfl
  | false =>
    show ref12_Apply.l0 k 0 0 0 s.1 s.2 false (t.2 % 4) = _
    rw [rApply_l0 _ _ h1 h2 _ _ _ _ (four _) k hk]; rfl
def comp (a b : Bool × Int) : Bool × Int := (a.1 != b.1, if b.1 then (b.2 - a.2) % 4 else (a.2 + b.2) % 4)
theorem negI_small (x : Int) (h0 : 0 ≤ x) (h1 : x < 1000) : negI .i64 x = -x := by unfold negI; rw [i64_in (by omega) (by omega)]; omega
theorem Compose_eq (a b : Bool × Int) : turn_Compose.f a b = some (comp a b) := by
  unfold turn_Compose.f comp
  rw [zand3, zand3, Norm_eq, Norm_eq, bindO_s, bindO_s, negI_small _ (by omega) (by omega), i64_in (by omega) (by omega), i64_in (by omega) (by omega)]
  have e1 : (-(a.2 % 4) + b.2 % 4) % 4 = (b.2 - a.2) % 4 := by omega
  have e2 : (a.2 % 4 + b.2 % 4) % 4 = (a.2 + b.2) % 4 := by omega
  rw [e1, e2]
  cases a.1 <;> cases b.1 <;> rfl
theorem rCompose_eq (a b : Bool × Int) : ref12_Compose.f a b = some (comp a b) := by
  unfold ref12_Compose.f comp
  rw [rNorm_eq, bindO_s, rNorm_eq, bindO_s, rNorm_eq, rNorm_eq, bindO_s, bindO_s, i64_in (by omega) (by omega), i64_in (by omega) (by omega)]
  have e1 : (b.2 % 4 - a.2 % 4) % 4 = (b.2 - a.2) % 4 := by omega
  have e2 : (b.2 % 4 + a.2 % 4) % 4 = (a.2 + b.2) % 4 := by omega
  rw [e1, e2]
  cases a.1 <;> cases b.1 <;> rfl
def inv (t : Bool × Int) : Bool × Int := (t.1, if t.1 then t.2 % 4 else (-t.2) % 4)
theorem Inverse_eq (t : Bool × Int) : turn_Inverse.f t = some (inv t) := by
  unfold turn_Inverse.f inv
  rw [zand3, Norm_eq, Norm_eq, bindO_s, bindO_s, negI_small _ (by omega) (by omega)]
  have e1 : (-(t.2 % 4)) % 4 = (-t.2) % 4 := by omega
  rw [e1]
  cases t.1 <;> rfl
theorem rInverse_eq (t : Bool × Int) : ref12_Inverse.f t = some (inv t) := by
  unfold ref12_Inverse.f inv
  rw [rNorm_eq, bindO_s, rNorm_eq, bindO_s, negI_small _ (by omega) (by omega)]
  have e1 : (-(t.2 % 4)) % 4 = (-t.2) % 4 := by omega
  rw [e1]
  cases t.1 <;> rfl
def allowB (g : Int) (m : Bool) (t : Bool × Int) : Bool := t.1 == m && (if g = 1 then t.2 % 4 == 0 else if g = 2 then t.2 % 2 == 0 else g == 4)
theorem Allowed_eq (g : Int) (m : Bool) (t : Bool × Int) : turn_Allowed.f g m t = some (allowB g m t) := by
  unfold turn_Allowed.f allowB notB eqB
  rw [zand3]
  by_cases h0 : t.1 = m
  · have e0 : (t.1 == m) = true := by simpa using h0
    rw [e0, Bool.not_true, condF, Bool.true_and]
    by_cases h1 : g = 1
    · rw [beq_iff_eq.2 h1, condT, if_pos h1]
    · rw [beq_eq_false_iff_ne.2 h1, condF, if_neg h1]
      by_cases h2 : g = 2
      · rw [beq_iff_eq.2 h2, condT, if_pos h2, tmod_nn (by omega)]
        have : t.2 % 4 % 2 = t.2 % 2 := by omega
        rw [this]
      · rw [beq_eq_false_iff_ne.2 h2, condF, if_neg h2]
  · have e0 : (t.1 == m) = false := by simpa using h0
    rw [e0, Bool.not_false, condT, Bool.false_and]
theorem rAllowed_eq (g : Int) (m : Bool) (t : Bool × Int) : ref12_Allowed.f g m t = some (allowB g m t) := by
  unfold ref12_Allowed.f allowB notB eqB
  rw [rNorm_eq, bindO_s]
  by_cases h0 : t.1 = m
  · have e0 : (t.1 == m) = true := by simpa using h0
    rw [e0, Bool.not_true, condF, Bool.true_and]
    by_cases h1 : g = 1
    · rw [beq_iff_eq.2 h1, condT, if_pos h1]
    · rw [beq_eq_false_iff_ne.2 h1, condF, if_neg h1]
      by_cases h2 : g = 2
      · rw [beq_iff_eq.2 h2, condT, if_pos h2, tmod_nn (by omega)]
        have : t.2 % 4 % 2 = t.2 % 2 := by omega
        rw [this]
      · rw [beq_eq_false_iff_ne.2 h2, condF, if_neg h2]
        by_cases h4 : g = 4
        · rw [beq_iff_eq.2 h4, condT]
        · rw [beq_eq_false_iff_ne.2 h4, condF]
  · have e0 : (t.1 == m) = false := by simpa using h0
    rw [e0, Bool.not_false, condT, Bool.false_and]
/-- Two turns, two spots, compared field by field. -/
theorem sameT (a b : Bool × Int) : andB (eqB a.1 b.1) (andB (eqI a.2 b.2) true) = decide (a = b) := by
  unfold andB eqB eqI
  rw [Bool.eq_iff_iff]
  simp [Prod.ext_iff]
theorem sameS (a b : Int × Int) : andB (eqI a.1 b.1) (andB (eqI a.2 b.2) true) = decide (a = b) := by
  unfold andB eqI
  rw [Bool.eq_iff_iff]
  simp [Prod.ext_iff]
theorem act_in (t : Bool × Int) (s : Int × Int) (h1 : I64 s.1) (h2 : I64 s.2) : I64 (act t s).1 ∧ I64 (act t s).2 := by
  unfold act rot flp
  rcases four t.2 with h | h | h | h <;> cases t.1 <;> rw [h] <;> exact ⟨by first | exact ng_in _ | exact h1 | exact h2, by first | exact ng_in _ | exact h1 | exact h2⟩
end Go.Gm
