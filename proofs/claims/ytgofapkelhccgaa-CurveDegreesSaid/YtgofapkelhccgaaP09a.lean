/- The laws of chapter 9, as plain statements (1). -/
import Derived.Test.YtgofapkelhccgaaM9c
import Derived.Test.YtgofapkelhccgaaB09x0
set_option linter.unusedVariables false
set_option linter.unusedSimpArgs false
set_option maxRecDepth 100000
namespace Go.Gm
open Go.Pi

theorem ex09_E : law09_exampleHolds.E.fn 1000 () = some true := by kernel_rfl
theorem ex09 : Ev (fun k => law09_exampleHolds.f k) true := Ev.of 1000 fun k hk => law09_exampleHolds.H.m 1000 k () _ hk ex09_E
theorem end9 : Ev (fun k => bindO (law09_exampleHolds.f k) fun r => some r) true := Ev.bind ex09 (Ev.pure _)
theorem grd9 {x : Option Bool} {b : Bool} (e : x = some b) {g : Nat → Option Bool} (h : b = true → Ev g true) : Ev (fun k => bindO x fun r0 => bif notB r0 then (bindO (law09_exampleHolds.f k) fun r1 => some r1) else g k) true := by
  subst e
  refine Ev.bs rfl ?_
  cases b
  · exact Ev.ct rfl end9
  · exact Ev.cf rfl (h rfl)
open Classical in
theorem grdL {c : List PT} {m n : Nat} (hm : m ≤ 1000) (hc : ∀ p ∈ c, LimbsP p) {g : Nat → Option Bool} (h : c.length ≤ m → WPL n c → Ev g true) : Ev (fun k => bindO (ref09_Light.f k c (m : Int) (n : Int)) fun r0 => bif notB r0 then (bindO (law09_exampleHolds.f k) fun r1 => some r1) else g k) true := by
  refine Ev.bind (LightL_ev c m n (.inr hm)) ?_
  by_cases hl : c.length ≤ m ∧ lightL n c
  · exact Ev.cf (by rw [decide_eq_true hl]; rfl) (h hl.1 (WPL_light hc hl.2))
  · exact Ev.ct (by rw [decide_eq_false hl]; rfl) end9
theorem okP {f g : Nat → Option Bool} (h : Ev f true) (hg : Ev g true) : Ev (fun k => bindO (f k) fun r => bif r then g k else some false) true := Ev.bind h (Ev.ct rfl hg)
theorem WPL_one {n : Nat} {p : PT} (h : WP n p) : WPL n [p] := fun q hq => by rw [List.mem_singleton] at hq; exact hq ▸ h
theorem Same_one {n : Nat} (hn : n ≤ 10000000) {p q : PT} (w : WP n p) (h : p = q) : Ev (fun k => ref09_Same.f k [p] [q]) true := by
  subst h; exact SameL_refl hn _ (WPL_one w) (by simp)
theorem zero_RS : RS 1 (0 : Rat) := by have := RS_int (n := 1) (z := 0) (by decide) (by decide); exact this
theorem one_RS : RS 1 (1 : Rat) := by have := RS_int (n := 1) (z := 1) (by decide) (by decide); exact this
theorem Of01 : Ev (fun k => ratio_Of.f k 0 1) (nfQ 0, true) := by
  have := Of1Q_ev 0 1 (by decide) (by decide) (by decide) (by decide) (by decide)
  rw [div_one] at this; exact this
theorem Of11 : Ev (fun k => ratio_Of.f k 1 1) (nfQ 1, true) := by
  have := Of1Q_ev 1 1 (by decide) (by decide) (by decide) (by decide) (by decide)
  rw [div_one] at this; exact this

theorem law_CurveFlattens (c : List PT) (m : Int) (hc : ∀ p ∈ c, LimbsP p) : Ev (fun k => law09_CurveFlattens.f k c m) true := by
  unfold law09_CurveFlattens.f
  refine grdL (m := 6) (n := 3) (by decide) hc fun hl w => ?_
  have w4 := w.mono (show 3 ≤ 4 by decide)
  refine Ev.bind (Flat1_ev (by decide) (by decide) c w4 m) (Ev.bind (Flat2_ev (by decide) (by decide) c w4 m) (Ev.ct (beq_self_eq_true _) (okP ?_ end9)))
  have : WPL 298 (flatD c m).1 := by
    unfold flatD
    split
    · split
      · exact fun p hp => nomatch hp
      · split
        · exact fun p hp => nomatch hp
        · intro p hp
          obtain ⟨i, hi, rfl⟩ := List.mem_map.1 hp
          have := List.mem_range.1 hi
          rename_i h _ _
          exact WP_at (n := 4) (by decide) h.1 h.2 w4 (RS_ratio (by omega) (by omega) (by omega) (by omega))
    · exact fun p hp => nomatch hp
  refine SameL_refl (by decide) _ this ?_
  unfold flatD
  split
  · split
    · simp
    · split
      · simp
      · simp; omega
  · simp
theorem law_CurveSplits (c : List PT) (t u : RT) (hc : ∀ p ∈ c, LimbsP p) (ht : Limbs t.2.1 ∧ Limbs t.2.2) (hu : Limbs u.2.1 ∧ Limbs u.2.2) : Ev (fun k => law09_CurveSplits.f k c t u) true := by
  unfold law09_CurveSplits.f
  refine grdL (m := 4) (n := 3) (by decide) hc fun hl w => grd9 (Light_eq t 2) fun st => grd9 (Light_eq u 2) fun su => Ev.cd (fun _ => end9) fun h2 => ?_
  have h2 : 2 ≤ c.length := by omega
  have wt := WQ_few ht.1 ht.2 st
  have wu := WQ_few hu.1 hu.2 su
  have rt := qv_RS (by decide) wt
  have ru := qv_RS (by decide) wu
  have sl := split_len c (qv t) h2 hl
  have sw := split_WP (n := 3) (by decide) h2 hl w (rt.mono (by decide))
  refine Ev.bind (Split1_ev (n := 3) (by decide) (by decide) c t h2 hl w (wt.mono (by decide))) (Ev.cf rfl (Ev.cf (by rw [sl.1]; simp) (Ev.cf (by rw [sl.2]; simp) ?_)))
  have a1 := At1_ev (n := 234) (by decide) (by decide) (splitP c (qv t)).1 u (by omega) (by omega) sw.1 (wu.mono (by decide))
  have a2 := At1_ev (n := 234) (by decide) (by decide) (splitP c (qv t)).2 u (by omega) (by omega) sw.2 (wu.mono (by decide))
  rw [at_left c _ _ h2 hl] at a1
  rw [at_right c _ _ h2 hl] at a2
  have m1 := Mul1Q_ev (n := 2) (by decide) (by decide) t u wt wu
  have a3 := At1_ev (n := 4) (by decide) (by decide) c (nfQ (qv t * qv u)) h2 hl (w.mono (by decide)) (WQ_nf (rt.mul ru))
  have s1 := Sub1Q_ev (n := 2) (by decide) (by decide) (nfQ 1) t ((WQ_nf one_RS).mono (by decide)) wt
  have m2 := Mul1Q_ev (n := 4) (by decide) (by decide) (nfQ (1 - qv t)) u ((WQ_nf (one_RS.sub rt)).mono (by decide)) (wu.mono (by decide))
  have r6 : RS 6 ((1 - qv t) * qv u) := ((one_RS.sub rt).mul ru).mono (by decide)
  have p1' := Add1Q_ev (n := 6) (by decide) (by decide) t (nfQ ((1 - qv t) * qv u)) (wt.mono (by decide)) (WQ_nf r6)
  have r9 : RS 9 (qv t + (1 - qv t) * qv u) := (rt.add r6).mono (by decide)
  have a4 := At1_ev (n := 9) (by decide) (by decide) c (nfQ (qv t + (1 - qv t) * qv u)) h2 hl (w.mono (by decide)) (WQ_nf r9)
  have a5 := At1_ev (n := 3) (by decide) (by decide) c t h2 hl w (wt.mono (by decide))
  simp only [qv_nfQ] at a3 s1 m2 p1' a4
  refine Ev.bind a1 (Ev.bind a2 (Ev.bind Of11 (Ev.bind m1 (Ev.bind a3 (Ev.bind s1 (Ev.bind m2 (Ev.bind p1' (Ev.bind a4 (Ev.bind a5 ?_)))))))))
  refine Ev.cf rfl (Ev.cf rfl (Ev.cf rfl (Ev.cf rfl (Ev.cf rfl ?_))))
  have w3 := WP_at (n := 4) (by decide) h2 hl (w.mono (by decide)) (rt.mul ru)
  have w4 := WP_at (n := 9) (by decide) h2 hl (w.mono (by decide)) r9
  have w5 := WP_at (n := 3) (by decide) h2 hl w (rt.mono (by decide))
  refine okP (SameL_refl (n := 1000) (by decide) _ (WPL_two.2 ⟨w3.mono (by decide), w4.mono (by decide)⟩) (by simp)) ?_
  have e := split_ends c (qv t) h2 hl
  rw [sl.1, show IntKind.i64.wrap ((c.length : Int) - 1) = ((c.length - 1 : Nat) : Int) from wsub (j := 1) (by omega) (by omega), gp_gd, show gd (false, [], [], false, [], []) (splitP c (qv t)).2 (0 : Int) = gp (splitP c (qv t)).2 0 from gp_gd _ 0, e.1, e.2]
  refine Ev.ct (inbN (by omega)) (Ev.ct (show inb (0 : Int) (splitP c (qv t)).2.length = true from inbN (i := 0) (by rw [sl.2]; omega)) (okP (SameL_refl (n := 1000) (by decide) _ (WPL_two.2 ⟨w5.mono (by decide), w5.mono (by decide)⟩) (by simp)) end9))
theorem law_CurveBoxed (c : List PT) (t : RT) (hc : ∀ p ∈ c, LimbsP p) (ht : Limbs t.2.1 ∧ Limbs t.2.2) : Ev (fun k => law09_CurveBoxed.f k c t) true := by
  unfold law09_CurveBoxed.f
  refine Ev.bind Of01 (Ev.bind Of11 (grdL (m := 4) (n := 4) (by decide) hc fun hl w => grd9 (Light_eq t 3) fun st => Ev.cd (fun _ => end9) fun h2 => ?_))
  have h2 : 2 ≤ c.length := by omega
  have wt := WQ_few ht.1 ht.2 st
  have rt := qv_RS (by decide) wt
  have c0 := Cmp2Q_ev (n := 3) (by decide) (by decide) t (nfQ 0) wt ((WQ_nf zero_RS).mono (by decide))
  have c1 := Cmp2Q_ev (n := 3) (by decide) (by decide) t (nfQ 1) wt ((WQ_nf one_RS).mono (by decide))
  rw [qv_nfQ] at c0 c1
  refine Ev.bind (Whole_ev 0 (by decide) (by decide)) (Ev.bind c0 (Ev.cd (fun _ => end9) fun g0 => Ev.bind (Whole_ev 1 (by decide) (by decide)) (Ev.bind c1 (Ev.cd (fun _ => end9) fun g1 => ?_))))
  have t0 : 0 ≤ qv t := by have := fun e => g0 (cmpQ_neg.2 e); grind
  have t1 : qv t ≤ 1 := by have := fun e => g1 (cmpQ_pos.2 e); grind
  obtain ⟨lo, hi, eb, w1, w2, b⟩ := Box1_ev (n := 4) (by decide) (by decide) c h2 hl w
  refine Ev.bind (At1_ev (n := 4) (by decide) (by decide) c t h2 hl w (wt.mono (by decide))) (Ev.bind eb (Ev.cf rfl (Ev.cf rfl ?_)))
  have cz := Cmp1Q_ev (n := 1) (by decide) (by decide) (nfQ 0) (nfQ 1) (WQ_nf zero_RS) (WQ_nf one_RS)
  rw [qv_nfQ, qv_nfQ, show cmpQ 0 1 = -1 by decide +kernel] at cz
  refine Ev.bind cz (Ev.cf rfl ?_)
  have wa := WP_at (n := 4) (by decide) h2 hl w (rt.mono (by decide))
  have bx := at_box c (qv t) h2 hl t0 t1 b
  have v1 := (WP_norm (by decide) w1).mono (show 4 ≤ 298 by decide)
  have v2 := (WP_norm (by decide) w2).mono (show 4 ≤ 298 by decide)
  have k1 := Cmp1Q_ev (n := 298) (by decide) (by decide) (p1 (normP lo)) (p1 (atP c (qv t))) v1.1 wa.1
  have k2 := Cmp1Q_ev (n := 298) (by decide) (by decide) (p1 (atP c (qv t))) (p1 (normP hi)) wa.1 v2.1
  have k3 := Cmp1Q_ev (n := 298) (by decide) (by decide) (p2 (normP lo)) (p2 (atP c (qv t))) v1.2 wa.2
  have k4 := Cmp1Q_ev (n := 298) (by decide) (by decide) (p2 (atP c (qv t))) (p2 (normP hi)) wa.2 v2.2
  refine Ev.bind k1 (Ev.ct (cmpQ_le2 ?_) (Ev.bind k2 (Ev.ct (cmpQ_le2 ?_) (Ev.bind k3 (Ev.ct (cmpQ_le2 ?_) (Ev.bind k4 (Ev.ct (cmpQ_le2 ?_) end9)))))))
  · show px (normP lo) ≤ px _; rw [px_norm]; exact bx.1.1
  · show px _ ≤ px (normP hi); rw [px_norm]; exact bx.1.2
  · show py (normP lo) ≤ py _; rw [py_norm]; exact bx.2.1
  · show py _ ≤ py (normP hi); rw [py_norm]; exact bx.2.2
theorem limbsP_wf {p : PT} (h : WFr (.cons .bool (.cons (.sl (.one (.int .u32))) (.cons (.sl (.one (.int .u32))) (.cons .bool (.cons (.sl (.one (.int .u32))) (.one (.sl (.one (.int .u32))))))))) p) : LimbsP p := by
  simp only [WFr, WFc] at h
  exact ⟨⟨limbs_of h.2.1.2, limbs_of h.2.2.1.2⟩, ⟨limbs_of h.2.2.2.2.1.2, limbs_of h.2.2.2.2.2.2⟩⟩
theorem limbsPL_wf {c : List PT} (h : WFr (.one (.sl (.cons .bool (.cons (.sl (.one (.int .u32))) (.cons (.sl (.one (.int .u32))) (.cons .bool (.cons (.sl (.one (.int .u32))) (.one (.sl (.one (.int .u32)))))))))))  c) : ∀ p ∈ c, LimbsP p := by
  intro p hp
  simp only [WFr, WFc] at h
  have h := h.2 p hp
  exact ⟨⟨limbs_of h.2.1.2, limbs_of h.2.2.1.2⟩, ⟨limbs_of h.2.2.2.2.1.2, limbs_of h.2.2.2.2.2.2⟩⟩
theorem limbsR_wf {t : RT} (h : WFr (.cons .bool (.cons (.sl (.one (.int .u32))) (.one (.sl (.one (.int .u32)))))) t) : Limbs t.2.1 ∧ Limbs t.2.2 := by
  simp only [WFr, WFc] at h
  exact ⟨limbs_of h.2.1.2, limbs_of h.2.2.2⟩
theorem CurveFlattens_plain : ∀ x : ArgsD law09_CurveFlattens.E.ps, WFA law09_CurveFlattens.E.ps x → ∃ k, law09_CurveFlattens.E.fn k x = some true := by
  intro x h
  obtain ⟨a0, a1, u⟩ := x
  obtain ⟨g0, g1, _⟩ := h
  exact (law_CurveFlattens a0 a1 (limbsPL_wf g0)).ex
theorem CurveSplits_plain : ∀ x : ArgsD law09_CurveSplits.E.ps, WFA law09_CurveSplits.E.ps x → ∃ k, law09_CurveSplits.E.fn k x = some true := by
  intro x h
  obtain ⟨a0, a1, a2, u⟩ := x
  obtain ⟨g0, g1, g2, _⟩ := h
  exact (law_CurveSplits a0 a1 a2 (limbsPL_wf g0) (limbsR_wf g1) (limbsR_wf g2)).ex
theorem CurveBoxed_plain : ∀ x : ArgsD law09_CurveBoxed.E.ps, WFA law09_CurveBoxed.E.ps x → ∃ k, law09_CurveBoxed.E.fn k x = some true := by
  intro x h
  obtain ⟨a0, a1, u⟩ := x
  obtain ⟨g0, g1, _⟩ := h
  exact (law_CurveBoxed a0 a1 (limbsPL_wf g0) (limbsR_wf g1)).ex
end Go.Gm
