/- The laws of chapter 8, as plain statements (1). -/
import Derived.Test.YtckcnklopjigcaaM8e
import Derived.Test.YtckcnklopjigcaaB08x0
set_option linter.unusedVariables false
set_option linter.unusedSimpArgs false
set_option maxRecDepth 100000
namespace Go.Gm
open Go.Pi

theorem ex08_E : law08_awake.E.fn 1000 () = some true := by kernel_rfl
theorem ex08 : Ev (fun k => law08_awake.f k) true := Ev.of 1000 fun k hk => law08_awake.H.m 1000 k () _ hk ex08_E
theorem grd8 {x : Option Bool} {b : Bool} (e : x = some b) {g : Nat → Option Bool} (h : b = true → Ev g true) : Ev (fun k => bindO x fun r0 => bif notB r0 then (bindO (law08_awake.f k) fun r1 => some r1) else g k) true := by
  rw [e]
  cases b
  · simp only [bindO_s, notB_f, condT]; exact Ev.bind ex08 (Ev.pure _)
  · simp only [bindO_s, notB_t, condF]; exact h rfl
theorem chkN {f g : Nat → Option Bool} (h : Ev f true) (hg : Ev g true) : Ev (fun k => bindO (f k) fun r => bif notB r then some false else g k) true := Ev.bind h hg
theorem chkP {f g : Nat → Option Bool} (h : Ev f true) (hg : Ev g true) : Ev (fun k => bindO (f k) fun r => bif r then g k else some false) true := Ev.bind h hg
theorem chk0 {f : Nat → Option Int} {g : Nat → Option Bool} (h : Ev f 0) (hg : Ev g true) : Ev (fun k => bindO (f k) fun r => bif (r != 0) then some false else g k) true := Ev.bind h hg
theorem chk0P {f : Nat → Option Int} {g : Nat → Option Bool} (h : Ev f 0) (hg : Ev g true) : Ev (fun k => bindO (f k) fun r => bif (r == 0) then g k else some false) true := Ev.bind h hg
theorem end8 : Ev (fun k => bindO (law08_awake.f k) fun r => some r) true := Ev.bind ex08 (Ev.pure _)
theorem cmpQ_eq {p q : Rat} (h : p = q) : cmpQ p q = 0 := by
  unfold cmpQ; rw [h, if_neg Rat.lt_irrefl, if_pos rfl]

theorem law_PointVectors (a b : PT) (r : RT) (ha : LimbsP a) (hb : LimbsP b) (hr : Limbs r.2.1 ∧ Limbs r.2.2) : Ev (fun k => law08_PointVectors.f k a b r) true := by
  unfold law08_PointVectors.f
  refine grd8 (Short_eq a 6) fun s1 => grd8 (Short_eq b 6) fun s2 => grd8 (Few_eq r 6) fun s3 => ?_
  have wa := WP_short ha s1
  have wb := WP_short hb s2
  have wr := WQ_few hr.1 hr.2 s3
  have ra := wa.x (by decide)
  have rb := wb.x (by decide)
  have sa := wa.y (by decide)
  have sb := wb.y (by decide)
  have rr := qv_RS (by decide) wr
  refine Ev.bind (PAdd1_ev (by decide) (by decide) a b wa wb) (Ev.bind (PAdd2_ev (by decide) (by decide) a b wa wb) ?_)
  refine chkN (Exact_nf (WP_add (by decide) wa wb) (by decide)) ?_
  refine Ev.bind (PSub1_ev (by decide) (by decide) a b wa wb) (Ev.bind (PSub2_ev (by decide) (by decide) a b wa wb) ?_)
  refine chkN (Exact_nf (WP_sub (by decide) wa wb) (by decide)) ?_
  refine Ev.bind (PScale1_ev (by decide) (by decide) a r wa wr) (Ev.bind (PScale2_ev (by decide) (by decide) a r wa wr) ?_)
  refine chkN (Exact_nf (WP_nf (ra.mul rr) (sa.mul rr)) (by decide)) ?_
  refine Ev.bind (PSame1W_ev (by decide) (by decide) a b wa wb) (Ev.bind (PSame2W_ev (by decide) (by decide) a b wa wb) ?_)
  simp only [eqB_refl, condT]
  refine Ev.bind (PDot1_ev (by decide) (by decide) a b wa wb) (Ev.bind (PDot2_ev (by decide) (by decide) a b wa wb) ?_)
  refine chkP (SameQ_refl (RS_dot (by decide) wa wb) (by decide)) ?_
  refine Ev.bind (PCross1_ev (by decide) (by decide) a b wa wb) (Ev.bind (PCross2_ev (by decide) (by decide) a b wa wb) ?_)
  exact chkP (SameQ_refl (RS_cross (by decide) wa wb) (by decide)) end8
theorem limbsP_of {p : PT} (h : (Limbs p.2.1 ∧ Limbs p.2.2.1) ∧ (Limbs p.2.2.2.2.1 ∧ Limbs p.2.2.2.2.2)) : LimbsP p := h
theorem PointVectors_plain : ∀ x : ArgsD law08_PointVectors.E.ps, WFA law08_PointVectors.E.ps x → ∃ k, law08_PointVectors.E.fn k x = some true := by
  intro x h
  obtain ⟨a0, a1, a2, u⟩ := x
  obtain ⟨g0, g1, g2, _⟩ := h
  simp only [WFr, WFc] at g0 g1 g2
  exact (law_PointVectors a0 a1 a2 ⟨⟨limbs_of g0.2.1.2, limbs_of g0.2.2.1.2⟩, ⟨limbs_of g0.2.2.2.2.1.2, limbs_of g0.2.2.2.2.2.2⟩⟩ ⟨⟨limbs_of g1.2.1.2, limbs_of g1.2.2.1.2⟩, ⟨limbs_of g1.2.2.2.2.1.2, limbs_of g1.2.2.2.2.2.2⟩⟩ ⟨limbs_of g2.2.1.2, limbs_of g2.2.2.2⟩).ex
end Go.Gm
