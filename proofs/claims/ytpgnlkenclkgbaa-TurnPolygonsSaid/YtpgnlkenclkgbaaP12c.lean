/- The laws of chapter 12, as plain statements (3): points. -/
import Derived.Test.YtpgnlkenclkgbaaM12b
import Derived.Test.YtpgnlkenclkgbaaM8a
import Derived.Test.YtpgnlkenclkgbaaP12a
set_option linter.unusedVariables false
set_option linter.unusedSimpArgs false
set_option maxRecDepth 100000
namespace Go.Gm
open Go.Pi

theorem ex12_ev : Ev (fun k => law12_exampleHolds.f k) true := Ev.of 1000 ex12_k
theorem law_TurnPoints (t : Bool × Int) (p : PT) (h1 : Limbs p.2.1) (h2 : Limbs p.2.2.1) (h3 : Limbs p.2.2.2.2.1) (h4 : Limbs p.2.2.2.2.2) : Ev (fun k => law12_TurnPoints.f k t p) true := by
  unfold law12_TurnPoints.f
  have e1 := Light_eq (p1 p) 10
  have e2 := Light_eq (p2 p) 10
  refine Ev.bind (Ev.const e1) ?_
  cases f1 : fewB 10 (p1 p)
  · simp only [notB_f, condT]; exact Ev.bind ex12_ev (Ev.pure _)
  simp only [notB_t, condF]
  refine Ev.bind (Ev.const e2) ?_
  cases f2 : fewB 10 (p2 p)
  · simp only [notB_f, condT]; exact Ev.bind ex12_ev (Ev.pure _)
  simp only [notB_t, condF]
  have wx : WQ 10 (p1 p) := WQ_few h1 h2 f1
  have wy : WQ 10 (p2 p) := WQ_few h3 h4 f2
  refine Ev.bind (Point1_ev (by decide) (by decide) t p wx wy) (Ev.bind (Point2_ev (by decide) (by decide) t p wx wy) ?_)
  obtain ⟨r1, r2⟩ := actQ_RS t _ _ (qv_RS (by decide) wx) (qv_RS (by decide) wy)
  refine Ev.bind (Same_refl (by decide) (nfQ _) (WQ_nf r1)) ?_
  simp only [condT]
  refine Ev.bind (Same_refl (by decide) (nfQ _) (WQ_nf r2)) ?_
  simp only [condT]
  exact Ev.bind ex12_ev (Ev.pure _)
theorem TurnPoints_plain : ∀ x : ArgsD law12_TurnPoints.E.ps, WFA law12_TurnPoints.E.ps x → ∃ k, law12_TurnPoints.E.fn k x = some true := by
  intro x h
  obtain ⟨a0, a1, u⟩ := x
  obtain ⟨_, h2, _⟩ := h
  simp only [WFr, WFc] at h2
  obtain ⟨_, g1, g2, _, g3, g4⟩ := h2
  exact (law_TurnPoints a0 a1 (limbs_of g1.2) (limbs_of g2.2) (limbs_of g3.2) (limbs_of g4.2)).ex
/-! turned spots as points -/
theorem neg_cast {x : Int} (h0 : -9223372036854775807 ≤ x) (h1 : x ≤ 9223372036854775807) : negI .i64 x = -x := by unfold negI; rw [i64_in (by omega) (by omega)]; omega
theorem rotQ_rot (q : Int) (hq : q = 0 ∨ q = 1 ∨ q = 2 ∨ q = 3) (x y : Int) (hx0 : -9223372036854775807 ≤ x) (hx1 : x ≤ 9223372036854775807) (hy0 : -9223372036854775807 ≤ y) (hy1 : y ≤ 9223372036854775807) :
    rotQ q.toNat (x : Rat) (y : Rat) = (((rot q (x, y)).1 : Rat), ((rot q (x, y)).2 : Rat)) := by
  have nx := neg_cast hx0 hx1
  have ny := neg_cast hy0 hy1
  obtain h | h | h | h := hq <;> subst h
  · rfl
  · simp [rotQ, rot, nx, ny, Rat.intCast_neg]
  · simp [rotQ, rot, nx, ny, Rat.intCast_neg]
  · simp [rotQ, rot, nx, ny, Rat.intCast_neg]
theorem actQ_act (t : Bool × Int) (s : Int × Int) (hx0 : -9223372036854775807 ≤ s.1) (hx1 : s.1 ≤ 9223372036854775807) (hy0 : -9223372036854775807 ≤ s.2) (hy1 : s.2 ≤ 9223372036854775807) :
    actQ t (s.1 : Rat) (s.2 : Rat) = (((act t s).1 : Rat), ((act t s).2 : Rat)) := by
  unfold actQ act flp
  cases t.1
  · simp only [condF]
    exact rotQ_rot (t.2 % 4) (four t.2) s.1 s.2 hx0 hx1 hy0 hy1
  · simp only [condT]
    rw [neg_cast hx0 hx1, ← Rat.intCast_neg]
    exact rotQ_rot (t.2 % 4) (four t.2) (-s.1) s.2 (by omega) (by omega) hy0 hy1
theorem law_TurnAgrees (t : Bool × Int) (s : Int × Int) (h1 : I64 s.1) (h2 : I64 s.2) : Ev (fun k => law12_TurnAgrees.f k t s) true := by
  unfold law12_TurnAgrees.f
  by_cases c1 : s.1 = -9223372036854775808
  · rw [show (s.1 == -9223372036854775808) = true by rw [beq_iff_eq]; exact c1]
    simp only [condT]; exact Ev.bind ex12_ev (Ev.pure _)
  rw [show (s.1 == -9223372036854775808) = false by rw [beq_eq_false_iff_ne]; exact c1]
  simp only [condF]
  by_cases c2 : s.2 = -9223372036854775808
  · rw [show (s.2 == -9223372036854775808) = true by rw [beq_iff_eq]; exact c2]
    simp only [condT]; exact Ev.bind ex12_ev (Ev.pure _)
  rw [show (s.2 == -9223372036854775808) = false by rw [beq_eq_false_iff_ne]; exact c2]
  simp only [condF, Apply_eq, bindO_s]
  unfold I64 at h1 h2
  obtain ⟨u1, u2⟩ := act_in t s h1 h2
  unfold I64 at u1 u2
  have rx := RS_i64 h1.1 h1.2
  have ry := RS_i64 h2.1 h2.2
  have ra := RS_i64 u1.1 u1.2
  have rb := RS_i64 u2.1 u2.2
  refine Ev.bind (POf1_ev s.1 s.2 h1.1 h1.2 h2.1 h2.2) ?_
  have P := Point1_ev (m := 2) (by decide) (by decide) t (nfP (s.1 : Rat) (s.2 : Rat)) (WQ_nf rx) (WQ_nf ry)
  rw [p1_nfP, p2_nfP, qv_nfQ, qv_nfQ, actQ_act t s (by omega) (by omega) (by omega) (by omega)] at P
  refine Ev.bind P (Ev.bind (POf1_ev (act t s).1 (act t s).2 u1.1 u1.2 u2.1 u2.2) ?_)
  refine Ev.bind (PSame1_ev (n := 2) (by decide) (by decide) (nfP _ _) (nfP _ _) (WQ_nf ra) (WQ_nf rb) (WQ_nf ra) (WQ_nf rb)) ?_
  simp only [decide_true, and_self, condT]
  refine Ev.bind (POf1_ev (act t s).1 0 u1.1 u1.2 (by decide) (by decide)) ?_
  refine Ev.bind (Cmp1Q_ev (n := 2) (by decide) (by decide) (nfQ _) (nfQ _) (WQ_nf ra) (WQ_nf ra)) ?_
  rw [cmpQ_zero]
  simp only [decide_true, condT]
  exact Ev.bind ex12_ev (Ev.pure _)
theorem TurnAgrees_plain : ∀ x : ArgsD law12_TurnAgrees.E.ps, WFA law12_TurnAgrees.E.ps x → ∃ k, law12_TurnAgrees.E.fn k x = some true := by
  intro x h
  obtain ⟨a0, a1, u⟩ := x
  obtain ⟨_, h2, _⟩ := h
  simp only [WFr, WFc] at h2
  exact (law_TurnAgrees a0 a1 (wf_i64 h2.1) (wf_i64 h2.2)).ex
end Go.Gm
