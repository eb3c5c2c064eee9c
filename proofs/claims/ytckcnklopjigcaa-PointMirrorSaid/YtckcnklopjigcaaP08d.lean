/- The laws of chapter 8, as plain statements (4): feet and mirror images. -/
import Derived.Test.YtckcnklopjigcaaP08c
set_option linter.unusedVariables false
set_option linter.unusedSimpArgs false
set_option maxRecDepth 100000
namespace Go.Gm
open Go.Pi

theorem sq_nn (x : Rat) : 0 ≤ x * x := by
  by_cases h : 0 ≤ x
  · exact Rat.mul_nonneg h h
  · have h2 : 0 ≤ -x := by grind
    have := Rat.mul_nonneg h2 h2
    grind
theorem sq_zero {x y : Rat} (h : x * x + y * y = 0) : x = 0 ∧ y = 0 := by
  have h1 := sq_nn x
  have h2 := sq_nn y
  have e1 : x * x = 0 := by grind
  have e2 : y * y = 0 := by grind
  have z : ∀ u : Rat, u * u = 0 → u = 0 := fun u hu => by
    have := Rat.mul_eq_zero.mp hu
    exact this.elim id id
  exact ⟨z x e1, z y e2⟩
theorem footD_zero {ax ay bx b_y : Rat} (h : footD ax ay bx b_y = 0) : ax = bx ∧ ay = b_y := by
  obtain ⟨h1, h2⟩ := sq_zero (x := bx - ax) (y := b_y - ay) h
  exact ⟨by grind, by grind⟩
theorem footD_nz {ax ay bx b_y : Rat} (h : footD ax ay bx b_y ≠ 0) : ¬ (ax = bx ∧ ay = b_y) := by
  intro e
  apply h
  rw [e.1, e.2]; unfold footD; grind
theorem cmpQ_le {p q : Rat} (h : p ≤ q) : cmpQ p q ≤ 0 := by
  unfold cmpQ
  by_cases h1 : p < q
  · rw [if_pos h1]; decide
  · have : p = q := by grind
    rw [if_neg h1, if_pos this]; decide
theorem near1 (x y ax ay bx b_y t : Rat) (h : t * footD ax ay bx b_y = footN x y ax ay bx b_y) :
    (x - (ax + (bx - ax) * t)) * (x - (ax + (bx - ax) * t)) + (y - (ay + (b_y - ay) * t)) * (y - (ay + (b_y - ay) * t)) = ((x - ax) * (x - ax) + (y - ay) * (y - ay)) - t * t * footD ax ay bx b_y := by
  unfold footD footN at *
  grind
theorem near2 (x y ax ay bx b_y t : Rat) (h : t * footD ax ay bx b_y = footN x y ax ay bx b_y) :
    (x - (ax + (bx - ax) * t)) * (x - (ax + (bx - ax) * t)) + (y - (ay + (b_y - ay) * t)) * (y - (ay + (b_y - ay) * t)) = ((x - bx) * (x - bx) + (y - b_y) * (y - b_y)) - (t - 1) * (t - 1) * footD ax ay bx b_y := by
  unfold footD footN at *
  grind
theorem le_of_sub {p q r : Rat} (h : p = q - r) (hr : 0 ≤ r) : p ≤ q := by grind
theorem law_PointNearest (p a b : PT) (hp : LimbsP p) (ha : LimbsP a) (hb : LimbsP b) : Ev (fun k => law08_PointNearest.f k p a b) true := by
  unfold law08_PointNearest.f
  refine grd8 (Short_eq p 3) fun s1 => grd8 (Short_eq a 3) fun s2 => grd8 (Short_eq b 3) fun s3 => ?_
  have wp := WP_short hp s1
  have wa := WP_short ha s2
  have wb := WP_short hb s3
  refine Ev.bind (PFoot1_ev (by decide) (by decide) p a b wp wa wb) ?_
  by_cases h0 : footD (px a) (py a) (px b) (py b) = 0
  · rw [if_pos h0]
    have t0 : ((10 : Int) != 0) = true := rfl
    simp only [t0, condT]
    refine chkP (Ev.eq (PSame1W_ev (by decide) (by decide) a b wa wb) (decide_eq_true (footD_zero h0))) end8
  · rw [if_neg h0]
    have t0 : ((0 : Int) != 0) = false := rfl
    simp only [t0, condF]
    have wf := WP_foot (by decide) wp wa wb
    have e1 := PSub1_ev (by decide) (by decide) p _ (wp.mono (by decide)) wf
    have e2 := PSub1_ev (by decide) (by decide) p a wp wa
    have e3 := PSub1_ev (by decide) (by decide) p b wp wb
    have w1 := WP_sub (by decide) (wp.mono (by decide)) wf
    have w2 := WP_sub (by decide) wp wa
    have w3 := WP_sub (by decide) wp wb
    have e4 := PDot1_ev (by decide) (by decide) _ _ w1 w1
    have r4 := RS_dot (by decide) w1 w1
    have e5 := PSub1_ev (by decide) (by decide) b a wb wa
    have w5 := WP_sub (by decide) wb wa
    have e6 := PDot1_ev (by decide) (by decide) _ _ w1 (w5.mono (by decide))
    have r6 := RS_dot (by decide) w1 (w5.mono (by decide))
    have e7 := PDot1_ev (by decide) (by decide) _ _ w2 w2
    have r7 := RS_dot (by decide) w2 w2
    have e8 := PDot1_ev (by decide) (by decide) _ _ w3 w3
    have r8 := RS_dot (by decide) w3 w3
    simp only [px_nf, py_nf] at e1 w1 e4 r4 e6 r6 e7 r7 e8 r8
    have z0 : RS 1 ((0 : Int) : Rat) := RS_int (by decide) (by decide)
    have c0 : ((0 : Int) : Rat) = 0 := rfl
    have c1 := Cmp1Q_ev (by decide) (by decide) (nfQ _) (nfQ _) (WQ_nf r4) (WQ_nf (r7.mono (by decide)))
    have c2 := Cmp1Q_ev (by decide) (by decide) (nfQ _) (nfQ _) (WQ_nf r4) (WQ_nf (r8.mono (by decide)))
    rw [qv_nfQ, qv_nfQ] at c1 c2
    refine Ev.bind e1 (Ev.bind e2 (Ev.bind e3 (Ev.bind e4 (Ev.bind e5 (Ev.bind e6 (Ev.bind (part_ev 0 (by decide) (by decide)) ?_))))))
    have hD : ∃ t, footN (px p) (py p) (px a) (py a) (px b) (py b) / footD (px a) (py a) (px b) (py b) = t ∧ t * footD (px a) (py a) (px b) (py b) = footN (px p) (py p) (px a) (py a) (px b) (py b) := ⟨_, rfl, by grind⟩
    obtain ⟨t, ht, htD⟩ := hD
    have f1 : (footP p a b).1 = px a + (px b - px a) * t := by unfold footP onQ; rw [ht]
    have f2 : (footP p a b).2 = py a + (py b - py a) * t := by unfold footP onQ; rw [ht]
    have hDn : 0 ≤ footD (px a) (py a) (px b) (py b) := by
      have := sq_nn (px b - px a)
      have := sq_nn (py b - py a)
      unfold footD; grind
    have g1 := Rat.mul_nonneg (sq_nn t) hDn
    have g2 := Rat.mul_nonneg (sq_nn (t - 1)) hDn
    refine chk0P (cmp_nf r6 z0 (by decide) (by decide) ?_) ?_
    · rw [f1, f2, c0]
      unfold footD footN at htD
      grind
    have l1 := cmpQ_le (le_of_sub (near1 (px p) (py p) (px a) (py a) (px b) (py b) t htD) g1)
    have l2 := cmpQ_le (le_of_sub (near2 (px p) (py p) (px a) (py a) (px b) (py b) t htD) g2)
    rw [← f1, ← f2] at l1 l2
    refine Ev.bind e7 (Ev.bind c1 ?_)
    simp only [decide_eq_true l1, condT]
    refine Ev.bind e8 (Ev.bind c2 ?_)
    simp only [decide_eq_true l2, condT]
    exact end8
theorem PointNearest_plain : ∀ x : ArgsD law08_PointNearest.E.ps, WFA law08_PointNearest.E.ps x → ∃ k, law08_PointNearest.E.fn k x = some true := by
  intro x h
  obtain ⟨a0, a1, a2, u⟩ := x
  obtain ⟨g0, g1, g2, _⟩ := h
  simp only [WFr, WFc] at g0 g1 g2
  exact (law_PointNearest a0 a1 a2 ⟨⟨limbs_of g0.2.1.2, limbs_of g0.2.2.1.2⟩, ⟨limbs_of g0.2.2.2.2.1.2, limbs_of g0.2.2.2.2.2.2⟩⟩ ⟨⟨limbs_of g1.2.1.2, limbs_of g1.2.2.1.2⟩, ⟨limbs_of g1.2.2.2.2.1.2, limbs_of g1.2.2.2.2.2.2⟩⟩ ⟨⟨limbs_of g2.2.1.2, limbs_of g2.2.2.1.2⟩, ⟨limbs_of g2.2.2.2.2.1.2, limbs_of g2.2.2.2.2.2.2⟩⟩).ex
end Go.Gm
