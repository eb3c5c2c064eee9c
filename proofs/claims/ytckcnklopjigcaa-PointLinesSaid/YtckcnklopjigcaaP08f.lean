/- The laws of chapter 8, as plain statements (6): the grid. -/
import Derived.Test.YtckcnklopjigcaaP08b
import Derived.Test.YtckcnklopjigcaaP08c
import Derived.Test.YtckcnklopjigcaaM8g
set_option linter.unusedVariables false
set_option linter.unusedSimpArgs false
set_option maxRecDepth 100000
namespace Go.Gm
open Go.Pi

theorem sameP (a b : Int) : andB (eqI a a) (andB (eqI b b) true) = true := by
  have h : ∀ x : Int, eqI x x = true := fun x => by unfold eqI; rw [beq_iff_eq]
  rw [h, h]; rfl
theorem law_PointGrids (a b : PT) (t : RT) (ha : LimbsP a) (hb : LimbsP b) (ht : Limbs t.2.1 ∧ Limbs t.2.2) : Ev (fun k => law08_PointGrids.f k a b t) true := by
  unfold law08_PointGrids.f
  refine grd8 (Short_eq a 4) fun s1 => grd8 (Short_eq b 4) fun s2 => grd8 (Few_eq t 4) fun s3 => ?_
  have wa := WP_short ha s1
  have wb := WP_short hb s2
  have wt := WQ_few ht.1 ht.2 s3
  have w5 := WP_on (by decide) wa wb (qv_RS (by decide) wt)
  refine Ev.bind (PGrid1_ev (by decide) (by decide) a wa) (Ev.bind (PGrid2_ev (by decide) (by decide) a wa) ?_)
  refine Ev.bind (POn1_ev (by decide) (by decide) a b t wa wb wt) (Ev.bind (POn2_ev (by decide) (by decide) a b t wa wb wt) ?_)
  refine chkP (Exact_nf w5 (by decide)) ?_
  rw [sameP]
  simp only [condT, beq_self_eq_true]
  exact end8
theorem PointGrids_plain : ∀ x : ArgsD law08_PointGrids.E.ps, WFA law08_PointGrids.E.ps x → ∃ k, law08_PointGrids.E.fn k x = some true := by
  intro x h
  obtain ⟨a0, a1, a2, u⟩ := x
  obtain ⟨g0, g1, g2, _⟩ := h
  simp only [WFr, WFc] at g0 g1 g2
  exact (law_PointGrids a0 a1 a2 ⟨⟨limbs_of g0.2.1.2, limbs_of g0.2.2.1.2⟩, ⟨limbs_of g0.2.2.2.2.1.2, limbs_of g0.2.2.2.2.2.2⟩⟩ ⟨⟨limbs_of g1.2.1.2, limbs_of g1.2.2.1.2⟩, ⟨limbs_of g1.2.2.2.2.1.2, limbs_of g1.2.2.2.2.2.2⟩⟩ ⟨limbs_of g2.2.1.2, limbs_of g2.2.2.2⟩).ex
theorem rnd_int (z : Int) : rnd (z : Rat) = z := by
  unfold rnd
  rw [Rat.num_intCast, Rat.den_intCast]
  have h := ab_nn z
  have e : (ab z * 2 + ((1 : Nat) : Int)) / (((1 : Nat) : Int) * 2) = ab z := by omega
  rw [e]
  have := zv_nfZ z
  unfold zv nfZ at this
  simp only [val_lm (ab_nn z)] at this
  exact this
theorem law_PointSpots (x y : Int) (hx0 : -9223372036854775808 ≤ x) (hx1 : x ≤ 9223372036854775807) (hy0 : -9223372036854775808 ≤ y) (hy1 : y ≤ 9223372036854775807) : Ev (fun k => law08_PointSpots.f k x y) true := by
  unfold law08_PointSpots.f
  have rx := RS_i64 hx0 hx1
  have ry := RS_i64 hy0 hy1
  have w : WP 2 (nfP (x : Rat) (y : Rat)) := WP_nf rx ry
  have g := PGrid1_ev (by decide) (by decide) _ w
  rw [px_nf, py_nf] at g
  refine Ev.bind (POf1_ev x y hx0 hx1 hy0 hy1) (Ev.bind g (Ev.bind (part_ev x hx0 hx1) (chk0 (cmp_nf rx rx (by decide) (by decide) rfl) (Ev.bind (part_ev y hy0 hy1) (chk0 (cmp_nf ry ry (by decide) (by decide) rfl) ?_)))))
  unfold gridD
  rw [rnd_int, rnd_int]
  unfold inG
  have b3 : ((3 : Int) == 3) = true := rfl
  have b0 : ((0 : Int) == 0) = true := rfl
  by_cases d1 : x < -1048576
  · rw [if_neg (by omega)]; simp only [decide_eq_true d1, condT, b3, sameP]; exact end8
  · by_cases d2 : x > 1048576
    · rw [if_neg (by omega)]; simp only [decide_eq_false d1, decide_eq_true d2, condT, condF, b3, sameP]; exact end8
    · by_cases d3 : y < -1048576
      · rw [if_neg (by omega)]; simp only [decide_eq_false d1, decide_eq_false d2, decide_eq_true d3, condT, condF, b3, sameP]; exact end8
      · by_cases d4 : y > 1048576
        · rw [if_neg (by omega)]; simp only [decide_eq_false d1, decide_eq_false d2, decide_eq_false d3, decide_eq_true d4, condT, condF, b3, sameP]; exact end8
        · rw [if_pos (by omega)]; simp only [decide_eq_false d1, decide_eq_false d2, decide_eq_false d3, decide_eq_false d4, condT, condF, b0, sameP]; exact end8
theorem PointSpots_plain : ∀ x : ArgsD law08_PointSpots.E.ps, WFA law08_PointSpots.E.ps x → ∃ k, law08_PointSpots.E.fn k x = some true := by
  intro x h
  obtain ⟨a0, a1, u⟩ := x
  obtain ⟨g0, g1, _⟩ := h
  simp only [WFr, WFc] at g0 g1
  have h0 := wf_i64 g0
  have h1 := wf_i64 g1
  exact (law_PointSpots a0 a1 h0.1 h0.2 h1.1 h1.2).ex
end Go.Gm
