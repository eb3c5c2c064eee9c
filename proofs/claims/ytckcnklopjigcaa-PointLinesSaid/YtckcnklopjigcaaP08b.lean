/- The laws of chapter 8, as plain statements (2). -/
import Derived.Test.YtckcnklopjigcaaP08a
set_option linter.unusedVariables false
set_option linter.unusedSimpArgs false
set_option maxRecDepth 100000
namespace Go.Gm
open Go.Pi

/-- Comparison of two normal forms that are equal. -/
theorem cmp_nf {m n : Nat} {p q : Rat} (hp : RS m p) (hq : RS n q) (hm : m ≤ 10000000) (hn : n ≤ 10000000) (h : p = q) : Ev (fun k => ratio_Cmp.f k (nfQ p) (nfQ q)) 0 := by
  have h1 := hp.pos
  have c := Cmp1Q_ev (n := max m n) (by omega) (by omega) (nfQ p) (nfQ q) (WQ_nf (hp.mono (by omega))) (WQ_nf (hq.mono (by omega)))
  rw [qv_nfQ, qv_nfQ, cmpQ_eq h] at c
  exact c
theorem law_PointAlgebra (a b c : PT) (ha : LimbsP a) (hb : LimbsP b) (hc : LimbsP c) : Ev (fun k => law08_PointAlgebra.f k a b c) true := by
  unfold law08_PointAlgebra.f
  refine grd8 (Short_eq a 3) fun s1 => grd8 (Short_eq b 3) fun s2 => grd8 (Short_eq c 3) fun s3 => ?_
  have wa := WP_short ha s1
  have wb := WP_short hb s2
  have wc := WP_short hc s3
  have e1 := PCross1_ev (by decide) (by decide) a b wa wb
  have e2 := PDot1_ev (by decide) (by decide) a b wa wb
  have e3 := PCross1_ev (by decide) (by decide) b a wb wa
  have e5 := PDot1_ev (by decide) (by decide) b a wb wa
  have r1 := RS_cross (by decide) wa wb
  have r2 := RS_dot (by decide) wa wb
  have r3 := RS_cross (by decide) wb wa
  have r5 := RS_dot (by decide) wb wa
  have ws := WP_add (by decide) wa wc
  have e4 := Neg1Q_ev (by decide) (by decide) (nfQ _) (WQ_nf r3)
  have e6 := PAdd1_ev (by decide) (by decide) a c wa wc
  have e7 := PCross1_ev (by decide) (by decide) _ b ws (wb.mono (by decide))
  have e8 := PCross1_ev (by decide) (by decide) c b wc wb
  have r7 := RS_cross (by decide) ws (wb.mono (by decide))
  have r8 := RS_cross (by decide) wc wb
  have e9 := Add1Q_ev (by decide) (by decide) (nfQ _) (nfQ _) (WQ_nf r1) (WQ_nf r8)
  have e10 := PDot1_ev (by decide) (by decide) _ b ws (wb.mono (by decide))
  have e11 := PDot1_ev (by decide) (by decide) c b wc wb
  have r10 := RS_dot (by decide) ws (wb.mono (by decide))
  have r11 := RS_dot (by decide) wc wb
  have e12 := Add1Q_ev (by decide) (by decide) (nfQ _) (nfQ _) (WQ_nf r2) (WQ_nf r11)
  have e13 := Mul1Q_ev (by decide) (by decide) (nfQ _) (nfQ _) (WQ_nf r1) (WQ_nf r1)
  have e14 := Mul1Q_ev (by decide) (by decide) (nfQ _) (nfQ _) (WQ_nf r2) (WQ_nf r2)
  have e15 := Add1Q_ev (by decide) (by decide) (nfQ _) (nfQ _) (WQ_nf (r1.mul r1)) (WQ_nf (r2.mul r2))
  have e16 := PDot1_ev (by decide) (by decide) a a wa wa
  have e17 := PDot1_ev (by decide) (by decide) b b wb wb
  have r16 := RS_dot (by decide) wa wa
  have r17 := RS_dot (by decide) wb wb
  have e18 := Mul1Q_ev (by decide) (by decide) (nfQ _) (nfQ _) (WQ_nf r16) (WQ_nf r17)
  have e19 := PSub1_ev (by decide) (by decide) _ c ws (wc.mono (by decide))
  have w19 := WP_sub (by decide) ws (wc.mono (by decide))
  have e20 := PSame1W_ev (by decide) (by decide) _ a w19 (wa.mono (by decide))
  simp only [px_nf, py_nf, qv_nfQ] at e4 e7 r7 e9 e10 r10 e12 e13 e14 e15 e18 e19 w19 e20
  refine Ev.bind e1 (Ev.bind e2 (Ev.bind e3 (Ev.bind e4 ?_)))
  refine chk0 (cmp_nf r1 r3.neg (by decide) (by decide) (by grind)) ?_
  refine Ev.bind e5 (chk0 (cmp_nf r2 r5 (by decide) (by decide) (by grind)) ?_)
  refine Ev.bind e6 (Ev.bind e7 (Ev.bind e8 (Ev.bind e9 ?_)))
  refine chk0 (cmp_nf r7 (r1.add r8) (by decide) (by decide) (by grind)) ?_
  refine Ev.bind e10 (Ev.bind e11 (Ev.bind e12 ?_))
  refine chk0 (cmp_nf r10 (r2.add r11) (by decide) (by decide) (by grind)) ?_
  refine Ev.bind e13 (Ev.bind e14 (Ev.bind e15 (Ev.bind e16 (Ev.bind e17 (Ev.bind e18 ?_)))))
  refine chk0P (cmp_nf ((r1.mul r1).add (r2.mul r2)) (r16.mul r17) (by decide) (by decide) (by grind)) ?_
  refine Ev.bind e19 ?_
  refine chkP (Ev.eq e20 (decide_eq_true ⟨by grind, by grind⟩)) end8
theorem PointAlgebra_plain : ∀ x : ArgsD law08_PointAlgebra.E.ps, WFA law08_PointAlgebra.E.ps x → ∃ k, law08_PointAlgebra.E.fn k x = some true := by
  intro x h
  obtain ⟨a0, a1, a2, u⟩ := x
  obtain ⟨g0, g1, g2, _⟩ := h
  simp only [WFr, WFc] at g0 g1 g2
  exact (law_PointAlgebra a0 a1 a2 ⟨⟨limbs_of g0.2.1.2, limbs_of g0.2.2.1.2⟩, ⟨limbs_of g0.2.2.2.2.1.2, limbs_of g0.2.2.2.2.2.2⟩⟩ ⟨⟨limbs_of g1.2.1.2, limbs_of g1.2.2.1.2⟩, ⟨limbs_of g1.2.2.2.2.1.2, limbs_of g1.2.2.2.2.2.2⟩⟩ ⟨⟨limbs_of g2.2.1.2, limbs_of g2.2.2.1.2⟩, ⟨limbs_of g2.2.2.2.2.1.2, limbs_of g2.2.2.2.2.2.2⟩⟩).ex
end Go.Gm
