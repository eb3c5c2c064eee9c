/- The laws of chapter 12, as plain statements (2). -/
import Derived.Test.YtpgnlkenclkgbaaP12a
set_option linter.unusedVariables false
set_option linter.unusedSimpArgs false
set_option maxRecDepth 100000
namespace Go.Gm
open Go.Pi

def nearB (s : Int × Int) : Bool := decide (-1048576 ≤ s.1 ∧ s.1 ≤ 1048576 ∧ -1048576 ≤ s.2 ∧ s.2 ≤ 1048576)
theorem near_eq (s : Int × Int) : law12_near.f s = some (nearB s) := by
  unfold law12_near.f nearB
  by_cases h1 : s.1 ≥ -1048576
  · by_cases h2 : s.1 ≤ 1048576
    · by_cases h3 : s.2 ≥ -1048576
      · rw [decide_eq_true h1, condT, decide_eq_true h2, condT, decide_eq_true h3, condT]
        congr 1
        rw [Bool.eq_iff_iff, decide_eq_true_iff, decide_eq_true_iff]
        omega
      · rw [decide_eq_true h1, condT, decide_eq_true h2, condT, decide_eq_false h3, condF, decide_eq_false (by omega)]
    · rw [decide_eq_true h1, condT, decide_eq_false h2, condF, decide_eq_false (by omega)]
  · rw [decide_eq_false h1, condF, decide_eq_false (by omega)]
theorem small_mul_bd {x y B : Int} (hx : -B ≤ x) (hx' : x ≤ B) (hy : -B ≤ y) (hy' : y ≤ B) : -(B * B) ≤ x * y ∧ x * y ≤ B * B := by
  have hB : 0 ≤ B := by omega
  have g : (B - x) * (B + y) ≥ 0 := Int.mul_nonneg (by omega) (by omega)
  have g2 : (B + x) * (B - y) ≥ 0 := Int.mul_nonneg (by omega) (by omega)
  have g3 : (B - x) * (B - y) ≥ 0 := Int.mul_nonneg (by omega) (by omega)
  have g4 : (B + x) * (B + y) ≥ 0 := Int.mul_nonneg (by omega) (by omega)
  constructor
  · have e : (B - x) * (B - y) + (B + x) * (B + y) = 2 * (B * B) + 2 * (x * y) := by grind
    omega
  · have e : (B - x) * (B + y) + (B + x) * (B - y) = 2 * (B * B) - 2 * (x * y) := by grind
    omega
/-- A turn of a spot that is near, without wraps. -/
def actZ (t : Bool × Int) (s : Int × Int) : Int × Int :=
  let u : Int × Int := if t.1 then (-s.1, s.2) else s
  if t.2 % 4 = 1 then (-u.2, u.1) else if t.2 % 4 = 2 then (-u.1, -u.2) else if t.2 % 4 = 3 then (u.2, -u.1) else u
theorem neg_near {x : Int} (h : -1048576 ≤ x) (h' : x ≤ 1048576) : negI .i64 x = -x := by unfold negI; rw [i64_in (by omega) (by omega)]; omega
theorem act_near (t : Bool × Int) (s : Int × Int) (h1 : -1048576 ≤ s.1) (h2 : s.1 ≤ 1048576) (h3 : -1048576 ≤ s.2) (h4 : s.2 ≤ 1048576) : act t s = actZ t s := by
  obtain ⟨x, y⟩ := s
  have n1 := neg_near (x := x) h1 h2
  have n2 := neg_near (x := y) h3 h4
  have n3 : negI .i64 (-x) = x := by rw [neg_near (by simp only at h1 h2; omega) (by simp only at h1 h2; omega)]; omega
  unfold act actZ rot flp
  rcases four t.2 with h | h | h | h <;> rw [h] <;> cases t.1 <;> simp [n1, n2, n3]
theorem actZ_bd (t : Bool × Int) (s : Int × Int) (h1 : -1048576 ≤ s.1) (h2 : s.1 ≤ 1048576) (h3 : -1048576 ≤ s.2) (h4 : s.2 ≤ 1048576) :
    -1048576 ≤ (actZ t s).1 ∧ (actZ t s).1 ≤ 1048576 ∧ -1048576 ≤ (actZ t s).2 ∧ (actZ t s).2 ≤ 1048576 := by
  obtain ⟨x, y⟩ := s
  simp only at h1 h2 h3 h4
  unfold actZ
  rcases four t.2 with h | h | h | h <;> rw [h] <;> cases t.1 <;> simp <;> omega
theorem dist_eq (a b : Int × Int) (h1 : -1048576 ≤ a.1) (h2 : a.1 ≤ 1048576) (h3 : -1048576 ≤ a.2) (h4 : a.2 ≤ 1048576) (k1 : -1048576 ≤ b.1) (k2 : b.1 ≤ 1048576) (k3 : -1048576 ≤ b.2) (k4 : b.2 ≤ 1048576) :
    IntKind.wrap .i64 ((IntKind.wrap .i64 ((IntKind.wrap .i64 (a.1 - b.1)) * (IntKind.wrap .i64 (a.1 - b.1)))) + (IntKind.wrap .i64 ((IntKind.wrap .i64 (a.2 - b.2)) * (IntKind.wrap .i64 (a.2 - b.2))))) = (a.1 - b.1) * (a.1 - b.1) + (a.2 - b.2) * (a.2 - b.2) ∧
    IntKind.wrap .i64 ((IntKind.wrap .i64 (a.1 * b.2)) - (IntKind.wrap .i64 (a.2 * b.1))) = a.1 * b.2 - a.2 * b.1 ∧
    negI .i64 (IntKind.wrap .i64 ((IntKind.wrap .i64 (a.1 * b.2)) - (IntKind.wrap .i64 (a.2 * b.1)))) = -(a.1 * b.2 - a.2 * b.1) := by
  have d1 := small_mul_bd (x := a.1 - b.1) (y := a.1 - b.1) (B := 2097152) (by omega) (by omega) (by omega) (by omega)
  have d2 := small_mul_bd (x := a.2 - b.2) (y := a.2 - b.2) (B := 2097152) (by omega) (by omega) (by omega) (by omega)
  have d3 := small_mul_bd (x := a.1) (y := b.2) (B := 1048576) (by omega) (by omega) (by omega) (by omega)
  have d4 := small_mul_bd (x := a.2) (y := b.1) (B := 1048576) (by omega) (by omega) (by omega) (by omega)
  have w1 : IntKind.i64.wrap (a.1 - b.1) = a.1 - b.1 := i64_in (by omega) (by omega)
  have w2 : IntKind.i64.wrap (a.2 - b.2) = a.2 - b.2 := i64_in (by omega) (by omega)
  rw [w1, w2]
  generalize (a.1 - b.1) * (a.1 - b.1) = u at *
  generalize (a.2 - b.2) * (a.2 - b.2) = v at *
  generalize a.1 * b.2 = m at *
  generalize a.2 * b.1 = n at *
  rw [i64_in (x := u) (by omega) (by omega), i64_in (x := v) (by omega) (by omega), i64_in (x := m) (by omega) (by omega), i64_in (x := n) (by omega) (by omega), i64_in (x := u + v) (by omega) (by omega), i64_in (x := m - n) (by omega) (by omega)]
  refine ⟨rfl, rfl, ?_⟩
  unfold negI
  rw [i64_in (by omega) (by omega)]
  omega
theorem actZ_keeps (t : Bool × Int) (a b : Int × Int) : ((actZ t a).1 - (actZ t b).1) * ((actZ t a).1 - (actZ t b).1) + ((actZ t a).2 - (actZ t b).2) * ((actZ t a).2 - (actZ t b).2) = (a.1 - b.1) * (a.1 - b.1) + (a.2 - b.2) * (a.2 - b.2) ∧
    (actZ t a).1 * (actZ t b).2 - (actZ t a).2 * (actZ t b).1 = if t.1 then -(a.1 * b.2 - a.2 * b.1) else a.1 * b.2 - a.2 * b.1 := by
  obtain ⟨x, y⟩ := a
  obtain ⟨u, v⟩ := b
  unfold actZ
  rcases four t.2 with h | h | h | h <;> rw [h] <;> cases t.1 <;> simp <;> grind
theorem law_TurnKeeps (t : Bool × Int) (a b : Int × Int) : law12_TurnKeeps.f 1000 t a b = some true := by
  unfold law12_TurnKeeps.f
  rw [near_eq, bindO_s]
  by_cases ha : -1048576 ≤ a.1 ∧ a.1 ≤ 1048576 ∧ -1048576 ≤ a.2 ∧ a.2 ≤ 1048576
  · have e1 : nearB a = true := decide_eq_true ha
    rw [e1]
    simp only [notB, Bool.not_true, condF]
    rw [near_eq, bindO_s]
    by_cases hb : -1048576 ≤ b.1 ∧ b.1 ≤ 1048576 ∧ -1048576 ≤ b.2 ∧ b.2 ≤ 1048576
    · have e2 : nearB b = true := decide_eq_true hb
      rw [e2]
      simp only [Bool.not_true, condF]
      obtain ⟨a1, a2, a3, a4⟩ := ha
      obtain ⟨b1, b2, b3, b4⟩ := hb
      obtain ⟨p1, p2, p3, p4⟩ := actZ_bd t a a1 a2 a3 a4
      obtain ⟨q1, q2, q3, q4⟩ := actZ_bd t b b1 b2 b3 b4
      obtain ⟨d1, d2, d3⟩ := dist_eq a b a1 a2 a3 a4 b1 b2 b3 b4
      obtain ⟨f1, f2, f3⟩ := dist_eq (actZ t a) (actZ t b) p1 p2 p3 p4 q1 q2 q3 q4
      obtain ⟨k1, k2⟩ := actZ_keeps t a b
      rw [Apply_eq, bindO_s, Apply_eq, bindO_s, act_near t a a1 a2 a3 a4, act_near t b b1 b2 b3 b4, d1, f1, k1, beq_self_eq_true, condT, condT, d3, d2, f2, k2]
      cases t.1 with
      | true => rw [condT, if_pos rfl, beq_self_eq_true, condT, ex12, bindO_s]
      | false => rw [condF, if_neg (by decide), beq_self_eq_true, condT, ex12, bindO_s]
    · have e2 : nearB b = false := decide_eq_false hb
      rw [e2]
      simp only [Bool.not_false, condT, ex12, bindO_s]
  · have e1 : nearB a = false := decide_eq_false ha
    rw [e1]
    simp only [notB, Bool.not_false, condT, ex12, bindO_s]
theorem TurnKeeps_plain : ∀ x : ArgsD law12_TurnKeeps.E.ps, WFA law12_TurnKeeps.E.ps x → ∃ k, law12_TurnKeeps.E.fn k x = some true := by
  intro x h
  obtain ⟨a0, a1, a2, u⟩ := x
  exact ⟨1000, law_TurnKeeps a0 a1 a2⟩

theorem allow_inv (g : Int) (a : Bool × Int) (h : allowB g false a = true) : allowB g false (inv a) = true := by
  obtain ⟨f, p⟩ := a
  unfold allowB at h ⊢
  unfold inv
  cases f with
  | true => simp at h
  | false =>
    simp only [beq_self_eq_true, Bool.true_and] at h ⊢
    split
    · rename_i hg
      rw [if_pos hg] at h
      simp at h ⊢
      omega
    · rename_i hg
      rw [if_neg hg] at h
      split
      · rename_i hg2
        rw [if_pos hg2] at h
        simp at h ⊢
        omega
      · rename_i hg2
        rw [if_neg hg2] at h
        exact h
theorem allow_comp (g : Int) (m : Bool) (a b : Bool × Int) (h : allowB g false a = true) (h2 : allowB g m b = true) : allowB g m (comp a b) = true ∧ allowB g m (comp b a) = true := by
  obtain ⟨f, p⟩ := a
  obtain ⟨f2, q⟩ := b
  unfold allowB at h h2 ⊢
  unfold comp
  cases f with
  | true => simp at h
  | false =>
    have hm : f2 = m := by
      rw [Bool.and_eq_true] at h2
      simpa using h2.1
    subst hm
    simp only [beq_self_eq_true, Bool.true_and] at h h2 ⊢
    by_cases g1 : g = 1
    · simp only [if_pos g1] at h h2 ⊢
      cases f2 <;> simp at h h2 ⊢ <;> omega
    · simp only [if_neg g1] at h h2 ⊢
      by_cases g2 : g = 2
      · simp only [if_pos g2] at h h2 ⊢
        cases f2 <;> simp at h h2 ⊢ <;> omega
      · simp only [if_neg g2] at h h2 ⊢
        cases f2 <;> simp at h h2 ⊢ <;> exact h
theorem law_TurnAllowed (g : Int) (m : Bool) (a b : Bool × Int) : law12_TurnAllowed.f 1000 g m a b = some true := by
  unfold law12_TurnAllowed.f
  rw [Allowed_eq, bindO_s]
  cases h : allowB g false a with
  | false => simp only [notB, Bool.not_false, condT, ex12, bindO_s]
  | true =>
    have h1 := allow_inv g a h
    simp only [notB, Bool.not_true, condF]
    rw [Inverse_eq, bindO_s, Allowed_eq, bindO_s, h1, Bool.not_true, condF, Allowed_eq, bindO_s]
    cases h2 : allowB g m b with
    | false => simp only [Bool.not_false, condT, ex12, bindO_s]
    | true =>
      obtain ⟨k1, k2⟩ := allow_comp g m a b h h2
      rw [Bool.not_true, condF, Compose_eq, bindO_s, Allowed_eq, bindO_s, k1, condT, Compose_eq, bindO_s, Allowed_eq, bindO_s, k2, condT, ex12, bindO_s]
theorem TurnAllowed_plain : ∀ x : ArgsD law12_TurnAllowed.E.ps, WFA law12_TurnAllowed.E.ps x → ∃ k, law12_TurnAllowed.E.fn k x = some true := by
  intro x h
  obtain ⟨a0, a1, a2, a3, u⟩ := x
  exact ⟨1000, law_TurnAllowed a0 a1 a2 a3⟩
end Go.Gm
