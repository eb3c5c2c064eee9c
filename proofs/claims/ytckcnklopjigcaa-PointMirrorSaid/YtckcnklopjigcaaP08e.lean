/- The laws of chapter 8, as plain statements (5): mirror images. -/
import Derived.Test.YtckcnklopjigcaaP08d
set_option linter.unusedVariables false
set_option linter.unusedSimpArgs false
set_option maxRecDepth 100000
namespace Go.Gm
open Go.Pi

theorem foot_on (p a b : PT) : ∃ t, footN (px p) (py p) (px a) (py a) (px b) (py b) / footD (px a) (py a) (px b) (py b) = t ∧ (footP p a b).1 = px a + (px b - px a) * t ∧ (footP p a b).2 = py a + (py b - py a) * t := ⟨_, rfl, rfl, rfl⟩
/-- Twice mirrored. -/
theorem mir_mir (x y ax ay bx b_y t : Rat) (h0 : footD ax ay bx b_y ≠ 0) (h : t * footD ax ay bx b_y = footN x y ax ay bx b_y) :
    footN (mirX x (ax + (bx - ax) * t)) (mirX y (ay + (b_y - ay) * t)) ax ay bx b_y / footD ax ay bx b_y = t := by
  have e : footN (mirX x (ax + (bx - ax) * t)) (mirX y (ay + (b_y - ay) * t)) ax ay bx b_y = t * footD ax ay bx b_y := by
    unfold footD footN mirX at *
    grind
  rw [e]; grind
theorem law_PointMirror (p a b : PT) (hp : LimbsP p) (ha : LimbsP a) (hb : LimbsP b) : Ev (fun k => law08_PointMirror.f k p a b) true := by
  unfold law08_PointMirror.f
  refine grd8 (Short_eq p 3) fun s1 => grd8 (Short_eq a 3) fun s2 => grd8 (Short_eq b 3) fun s3 => ?_
  have wp := WP_short hp s1
  have wa := WP_short ha s2
  have wb := WP_short hb s3
  refine Ev.bind (PMirror1_ev (by decide) (by decide) p a b wp wa wb) (Ev.bind (PFoot1_ev (by decide) (by decide) p a b wp wa wb) (Ev.bind (PSame1W_ev (by decide) (by decide) a b wa wb) ?_))
  by_cases h0 : footD (px a) (py a) (px b) (py b) = 0
  · rw [if_pos h0, if_pos h0, decide_eq_true (footD_zero h0)]
    have t0 : ((10 : Int) == 10) = true := rfl
    simp only [t0, condT]
    exact chkP Exact_zero (chkP Exact_zero end8)
  · rw [if_neg h0, if_neg h0, decide_eq_false (footD_nz h0)]
    simp only [condF]
    have wf := WP_foot (by decide) wp wa wb
    have rfx := wf.x (by decide)
    have rfy := wf.y (by decide)
    rw [px_nf] at rfx
    rw [py_nf] at rfy
    have wm : WP 143 (nfP (mirX (px p) (footP p a b).1) (mirX (py p) (footP p a b).2)) := WP_nf ((RS_mir (wp.x (by decide)) rfx).mono (by decide)) ((RS_mir (wp.y (by decide)) rfy).mono (by decide))
    have e1 := PMirror1_ev (n := 143) (by decide) (by decide) _ a b wm (wa.mono (by decide)) (wb.mono (by decide))
    have wf2 := WP_foot (n := 143) (by decide) wm (wa.mono (by decide)) (wb.mono (by decide))
    rw [if_neg h0] at e1
    simp only [px_nf, py_nf] at e1
    refine Ev.bind e1 ?_
    have t0 : ((0 : Int) != 0) = false := rfl
    simp only [t0, condF]
    obtain ⟨t, ht, f1, f2⟩ := foot_on p a b
    have htD : t * footD (px a) (py a) (px b) (py b) = footN (px p) (py p) (px a) (py a) (px b) (py b) := by rw [← ht]; grind
    have mm := mir_mir (px p) (py p) (px a) (py a) (px b) (py b) t h0 htD
    obtain ⟨t2, ht2, f3, f4⟩ := foot_on (nfP (mirX (px p) (footP p a b).1) (mirX (py p) (footP p a b).2)) a b
    rw [px_nf, py_nf, f1, f2, mm] at ht2
    subst ht2
    have rfx2 := wf2.x (by decide)
    have rfy2 := wf2.y (by decide)
    rw [px_nf] at rfx2
    rw [py_nf] at rfy2
    have rmx := wm.x (by decide)
    have rmy := wm.y (by decide)
    rw [px_nf] at rmx
    rw [py_nf] at rmy
    have wb2 := WP_nf (RS_mir rmx rfx2) (RS_mir rmy rfy2)
    have e2 := PSame1_ev (n := 2 * (19 * 143 + 12) + 143 + 2) (by decide) (by decide) _ p wb2.1 wb2.2 (wp.1.mono (by decide)) (wp.2.mono (by decide))
    refine chkN (Ev.eq e2 (decide_eq_true ⟨?_, ?_⟩)) ?_
    · rw [p1_nfP, qv_nfQ, f3, f1]; unfold mirX px; grind
    · rw [p2_nfP, qv_nfQ, f4, f2]; unfold mirX py; grind
    have e3 := PSide1_ev (by decide) (by decide) a b _ (wa.mono (by decide)) (wb.mono (by decide)) wf
    rw [px_nf, py_nf] at e3
    refine chk0 (Ev.eq e3 (cmpQ_eq (by rw [f1, f2]; unfold crossQ; grind))) ?_
    have e4 := PAdd1_ev (by decide) (by decide) _ _ wf wf
    have e5 := PAdd1_ev (by decide) (by decide) p _ (wp.mono (by decide)) wm
    have w4 := WP_add (by decide) wf wf
    have w5 := WP_add (by decide) (wp.mono (by decide)) wm
    simp only [px_nf, py_nf] at e4 e5 w4 w5
    refine Ev.bind e4 (Ev.bind e5 ?_)
    have e6 := PSame1_ev (n := 2 * 143 + 1) (by decide) (by decide) _ _ (w4.1.mono (by decide)) (w4.2.mono (by decide)) w5.1 w5.2
    refine chkN (Ev.eq e6 (decide_eq_true ⟨?_, ?_⟩)) ?_
    · rw [p1_nfP, p1_nfP, qv_nfQ, qv_nfQ]; unfold mirX; grind
    · rw [p2_nfP, p2_nfP, qv_nfQ, qv_nfQ]; unfold mirX; grind
    have e7 := PSub1_ev (by decide) (by decide) p a wp wa
    have e8 := PSub1_ev (n := 143) (by decide) (by decide) _ a wm (wa.mono (by decide))
    have w7 := WP_sub (by decide) wp wa
    have w8 := WP_sub (n := 143) (by decide) wm (wa.mono (by decide))
    have e9 := PDot1_ev (by decide) (by decide) _ _ w7 w7
    have e10 := PDot1_ev (by decide) (by decide) _ _ w8 w8
    have r9 := RS_dot (by decide) w7 w7
    have r10 := RS_dot (by decide) w8 w8
    simp only [px_nf, py_nf] at e8 e9 e10 r9 r10
    refine Ev.bind e7 (Ev.bind e8 (Ev.bind e9 (Ev.bind e10 (chk0P (cmp_nf r9 r10 (by decide) (by decide) ?_) ?_))))
    · rw [f1, f2]
      unfold footD footN at htD
      unfold mirX
      grind
    have e11 := PSide1_ev (by decide) (by decide) a b p wa wb wp
    have e12 := PSide1_ev (n := 143) (by decide) (by decide) a b _ (wa.mono (by decide)) (wb.mono (by decide)) wm
    rw [px_nf, py_nf, show crossQ (px a) (py a) (px b) (py b) (mirX (px p) (footP p a b).1) (mirX (py p) (footP p a b).2) = - crossQ (px a) (py a) (px b) (py b) (px p) (py p) by rw [f1, f2]; unfold crossQ mirX; grind, cmpQ_neg] at e12
    refine Ev.bind e11 (Ev.bind e12 ?_)
    have hb := cmpQ_bd (crossQ (px a) (py a) (px b) (py b) (px p) (py p)) 0
    generalize cmpQ (crossQ (px a) (py a) (px b) (py b) (px p) (py p)) 0 = s at *
    have hn : negI .i64 (-s) = s := by unfold negI; rw [i64_in (by omega) (by omega)]; omega
    rw [hn]
    simp only [beq_self_eq_true, condT]
    exact end8
theorem PointMirror_plain : ∀ x : ArgsD law08_PointMirror.E.ps, WFA law08_PointMirror.E.ps x → ∃ k, law08_PointMirror.E.fn k x = some true := by
  intro x h
  obtain ⟨a0, a1, a2, u⟩ := x
  obtain ⟨g0, g1, g2, _⟩ := h
  simp only [WFr, WFc] at g0 g1 g2
  exact (law_PointMirror a0 a1 a2 ⟨⟨limbs_of g0.2.1.2, limbs_of g0.2.2.1.2⟩, ⟨limbs_of g0.2.2.2.2.1.2, limbs_of g0.2.2.2.2.2.2⟩⟩ ⟨⟨limbs_of g1.2.1.2, limbs_of g1.2.2.1.2⟩, ⟨limbs_of g1.2.2.2.2.1.2, limbs_of g1.2.2.2.2.2.2⟩⟩ ⟨⟨limbs_of g2.2.1.2, limbs_of g2.2.2.1.2⟩, ⟨limbs_of g2.2.2.2.2.1.2, limbs_of g2.2.2.2.2.2.2⟩⟩).ex
end Go.Gm
