/- The laws of chapter 8, as plain statements (3). -/
import Derived.Test.YtckcnklopjigcaaP08b
set_option linter.unusedVariables false
set_option linter.unusedSimpArgs false
set_option maxRecDepth 100000
namespace Go.Gm
open Go.Pi

theorem part_ev (a : Int) (h0 : -9223372036854775808 ≤ a) (h1 : a ≤ 9223372036854775807) : Ev (fun k => law08_part.f k a 1) (nfQ (a : Rat)) := by
  unfold law08_part.f
  have o := Of2Q_ev a 1 h0 h1 (by decide) (by decide) (by decide)
  rw [div_one] at o
  exact Ev.bind o (Ev.pure _)
theorem cmpQ_bd (p q : Rat) : -1 ≤ cmpQ p q ∧ cmpQ p q ≤ 1 := by
  unfold cmpQ; (repeat' split) <;> omega
theorem cmpQ_neg (c : Rat) : cmpQ (-c) 0 = - cmpQ c 0 := by
  unfold cmpQ
  by_cases h : c < 0
  · rw [if_pos h, if_neg (by grind), if_neg (by grind)]; rfl
  · rw [if_neg h]
    by_cases h2 : c = 0
    · subst h2; rw [if_neg (by grind), if_pos (by grind), if_pos rfl]; rfl
    · rw [if_neg h2, if_pos (by grind)]
theorem negI_cmp (p q : Rat) : negI .i64 (cmpQ p q) = - cmpQ p q := by
  have := cmpQ_bd p q
  unfold negI; rw [i64_in (by omega) (by omega)]; omega
theorem law_PointSides (a b p : PT) (t : RT) (ha : LimbsP a) (hb : LimbsP b) (hp : LimbsP p) (ht : Limbs t.2.1 ∧ Limbs t.2.2) : Ev (fun k => law08_PointSides.f k a b p t) true := by
  unfold law08_PointSides.f
  refine grd8 (Short_eq a 3) fun s1 => grd8 (Short_eq b 3) fun s2 => grd8 (Short_eq p 3) fun s3 => grd8 (Few_eq t 3) fun s4 => ?_
  have wa := WP_short ha s1
  have wb := WP_short hb s2
  have wp := WP_short hp s3
  have wt := WQ_few ht.1 ht.2 s4
  have e1 := PSide1_ev (by decide) (by decide) a b p wa wb wp
  have e2 := PSide1_ev (by decide) (by decide) b p a wb wp wa
  have e3 := PSide1_ev (by decide) (by decide) p a b wp wa wb
  have e4 := PSide1_ev (by decide) (by decide) b a p wb wa wp
  have e5 := POn1_ev (by decide) (by decide) a b t wa wb wt
  have w5 := WP_on (by decide) wa wb (qv_RS (by decide) wt)
  have e6 := PSide1_ev (by decide) (by decide) a b _ (wa.mono (by decide)) (wb.mono (by decide)) w5
  have z0 : RS 3 ((0 : Int) : Rat) := RS_int (by decide) (by decide)
  have z1 : RS 3 ((1 : Int) : Rat) := RS_int (by decide) (by decide)
  have e7 := POn1_ev (by decide) (by decide) a b (nfQ ((0 : Int) : Rat)) wa wb (WQ_nf z0)
  have e8 := POn1_ev (by decide) (by decide) a b (nfQ ((1 : Int) : Rat)) wa wb (WQ_nf z1)
  have w7 := WP_on (by decide) wa wb z0
  have w8 := WP_on (by decide) wa wb z1
  have e9 := PSame1W_ev (by decide) (by decide) _ a w7 (wa.mono (by decide))
  have e10 := PSame1W_ev (by decide) (by decide) _ b w8 (wb.mono (by decide))
  rw [qv_nfQ] at e7 e8
  rw [px_nf, py_nf] at e6 e9 e10
  have c0 : ((0 : Int) : Rat) = 0 := rfl
  have c1 : ((1 : Int) : Rat) = 1 := rfl
  generalize hx1 : px a = ax at *
  generalize hx2 : py a = ay at *
  generalize hx3 : px b = bx at *
  generalize hx4 : py b = b_y at *
  generalize hx5 : px p = x at *
  generalize hx6 : py p = y at *
  have q2 : crossQ bx b_y x y ax ay = crossQ ax ay bx b_y x y := by unfold crossQ; grind
  have q3 : crossQ x y ax ay bx b_y = crossQ ax ay bx b_y x y := by unfold crossQ; grind
  have q4 : crossQ bx b_y ax ay x y = - crossQ ax ay bx b_y x y := by unfold crossQ; grind
  rw [q2] at e2
  rw [q3] at e3
  rw [q4, cmpQ_neg] at e4
  have hbd := cmpQ_bd (crossQ ax ay bx b_y x y) 0
  have hng := negI_cmp (crossQ ax ay bx b_y x y) 0
  generalize cmpQ (crossQ ax ay bx b_y x y) 0 = s at *
  refine Ev.bind e1 ?_
  simp only [decide_eq_true (show s ≥ -1 from hbd.1), decide_eq_true hbd.2, condT]
  refine Ev.bind e2 ?_
  simp only [beq_self_eq_true, condT]
  refine Ev.bind e3 ?_
  simp only [beq_self_eq_true, condT]
  refine Ev.bind e4 ?_
  rw [hng]
  simp only [beq_self_eq_true, condT]
  refine Ev.bind e5 (chk0P (Ev.eq e6 (cmpQ_eq (by unfold crossQ onQ; grind))) ?_)
  refine Ev.bind (part_ev 0 (by decide) (by decide)) (Ev.bind e7 (chkP (Ev.eq e9 (decide_eq_true ⟨?_, ?_⟩)) ?_))
  · unfold onQ; rw [c0]; grind
  · unfold onQ; rw [c0]; grind
  refine Ev.bind (part_ev 1 (by decide) (by decide)) (Ev.bind e8 (chkP (Ev.eq e10 (decide_eq_true ⟨?_, ?_⟩)) end8))
  · unfold onQ; rw [c1]; grind
  · unfold onQ; rw [c1]; grind
theorem PointSides_plain : ∀ x : ArgsD law08_PointSides.E.ps, WFA law08_PointSides.E.ps x → ∃ k, law08_PointSides.E.fn k x = some true := by
  intro x h
  obtain ⟨a0, a1, a2, a3, u⟩ := x
  obtain ⟨g0, g1, g2, g3, _⟩ := h
  simp only [WFr, WFc] at g0 g1 g2 g3
  exact (law_PointSides a0 a1 a2 a3 ⟨⟨limbs_of g0.2.1.2, limbs_of g0.2.2.1.2⟩, ⟨limbs_of g0.2.2.2.2.1.2, limbs_of g0.2.2.2.2.2.2⟩⟩ ⟨⟨limbs_of g1.2.1.2, limbs_of g1.2.2.1.2⟩, ⟨limbs_of g1.2.2.2.2.1.2, limbs_of g1.2.2.2.2.2.2⟩⟩ ⟨⟨limbs_of g2.2.1.2, limbs_of g2.2.2.1.2⟩, ⟨limbs_of g2.2.2.2.2.1.2, limbs_of g2.2.2.2.2.2.2⟩⟩ ⟨limbs_of g3.2.1.2, limbs_of g3.2.2.2⟩).ex
end Go.Gm
