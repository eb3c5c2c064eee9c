/- The laws of chapter 9, as plain statements (2). -/
import Derived.Test.YtgofapkelhccgaaP09a
set_option linter.unusedVariables false
set_option linter.unusedSimpArgs false
set_option maxRecDepth 100000
namespace Go.Gm
open Go.Pi

theorem gp_rev0 (c : List PT) (h : 0 < c.length) : gp (revP c) 0 = normP (gp c (c.length - 1)) := by
  have hr := revP_len c
  rw [gp_get _ (by omega), gp_get c (by omega)]
  unfold revP
  rw [List.getElem_reverse, List.getElem_map]
  congr 2
  simp
theorem law_CurveEnds (c : List PT) (t : RT) (hc : ∀ p ∈ c, LimbsP p) (ht : Limbs t.2.1 ∧ Limbs t.2.2) : Ev (fun k => law09_CurveEnds.f k c t) true := by
  unfold law09_CurveEnds.f
  refine grdL (m := 4) (n := 4) (by decide) hc fun hl w => grd9 (Light_eq t 3) fun st => Ev.cd (fun _ => end9) fun h2 => ?_
  have h2 : 2 ≤ c.length := by omega
  have wt := WQ_few ht.1 ht.2 st
  have rt := qv_RS (by decide) wt
  have hr := revP_len c
  have wr := revP_WP (by decide) w
  have a0 := At1_ev (n := 4) (by decide) (by decide) c (nfQ 0) h2 hl w ((WQ_nf zero_RS).mono (by decide))
  have a1 := At1_ev (n := 4) (by decide) (by decide) c (nfQ 1) h2 hl w ((WQ_nf one_RS).mono (by decide))
  have a2 := At1_ev (n := 4) (by decide) (by decide) (revP c) t (by omega) (by omega) wr (wt.mono (by decide))
  have s1 := Sub1Q_ev (n := 3) (by decide) (by decide) (nfQ 1) t ((WQ_nf one_RS).mono (by decide)) wt
  have r5 := one_RS.sub rt
  have a3 := At1_ev (n := 5) (by decide) (by decide) c (nfQ (1 - qv t)) h2 hl (w.mono (by decide)) (WQ_nf r5)
  rw [qv_nfQ] at a0 a1 s1 a3
  rw [at_zero c h2 hl] at a0
  rw [at_one c h2 hl] at a1
  rw [at_rev c _ h2 hl] at a2
  have w0 := WP_norm (by decide) (w.gp (i := 0) (by omega))
  have w1 := WP_norm (by decide) (w.gp (i := c.length - 1) (by omega))
  have w3 := WP_at (n := 5) (by decide) h2 hl (w.mono (by decide)) r5
  refine Ev.bind Of01 (Ev.bind Of11 (Ev.bind (Rev1_ev (n := 4) (by decide) c w (by omega)) (Ev.bind a0 (Ev.bind a1 (Ev.bind a2 (Ev.bind s1 (Ev.bind a3 ?_)))))))
  refine Ev.cf rfl (Ev.cf rfl (Ev.cf rfl (Ev.cf rfl (Ev.cf (by rw [hr]; simp) (Ev.ct (inbN (i := 0) (by omega)) ?_)))))
  rw [show IntKind.i64.wrap ((c.length : Int) - 1) = ((c.length - 1 : Nat) : Int) from wsub (j := 1) (by omega) (by omega), gp_gd, show gd (false, [], [], false, [], []) c (0 : Int) = gp c 0 from gp_gd _ 0, show gd (false, [], [], false, [], []) (revP c) (0 : Int) = gp (revP c) 0 from gp_gd _ 0, gp_rev0 c (by omega)]
  refine okP (Ev.eq (PSame1W_ev (n := 4) (by decide) (by decide) _ _ w0 (w.gp (by omega))) (decide_eq_true ⟨px_norm _, py_norm _⟩)) ?_
  refine Ev.ct (inbN (by omega)) (okP (Ev.eq (PSame1W_ev (n := 4) (by decide) (by decide) _ _ w1 (w.gp (by omega))) (decide_eq_true ⟨px_norm _, py_norm _⟩)) ?_)
  refine Ev.bs rfl (Ev.bs rfl (okP (Same_one (n := 1000) (by decide) (w3.mono (by decide)) rfl) ?_))
  have wr2 := revP_WP (by decide) wr
  have wr3 := revP_WP (by decide) wr2
  have hr2 := revP_len (revP c)
  have hr3 := revP_len (revP (revP c))
  have e4 := Rev1_ev (n := 4) (by decide) _ wr3 (by omega)
  rw [revP_three (revP c)] at e4
  refine Ev.bind (Rev1_ev (n := 4) (by decide) _ wr (by omega)) (Ev.bind (Rev1_ev (n := 4) (by decide) _ wr (by omega)) (Ev.bind (Rev1_ev (n := 4) (by decide) _ wr2 (by omega)) (Ev.bind e4 (okP (SameL_refl (n := 4) (by decide) _ wr2 (by omega)) ?_))))
  exact Ev.ct (inbN (i := 0) (by omega)) (Ev.ct (inbN (by omega)) (okP (Ev.eq (PSame1W_ev (n := 4) (by decide) (by decide) _ _ w1 (w.gp (by omega))) (decide_eq_true ⟨px_norm _, py_norm _⟩)) end9))
def addP (a d : PT) : PT := nfP (px a + px d) (py a + py d)
def sclP (a : PT) (q : Rat) : PT := nfP (px a * q) (py a * q)
theorem at_add (c : List PT) (d : PT) (q : Rat) (h2 : 2 ≤ c.length) (h4 : c.length ≤ 4) : atP (c.map fun a => addP a d) q = addP (atP c q) d := by
  rcases len234 h2 h4 with ⟨a, b, rfl⟩ | ⟨a, b, e, rfl⟩ | ⟨a, b, e, g, rfl⟩
  all_goals
    simp only [List.map_cons, List.map_nil, atP, addP]
    apply nfP_congr <;> simp only [onQ, px_on, py_on, px_nf, py_nf] <;> grind
theorem at_scl (c : List PT) (r : Rat) (q : Rat) (h2 : 2 ≤ c.length) (h4 : c.length ≤ 4) : atP (c.map fun a => sclP a r) q = sclP (atP c q) r := by
  rcases len234 h2 h4 with ⟨a, b, rfl⟩ | ⟨a, b, e, rfl⟩ | ⟨a, b, e, g, rfl⟩
  all_goals
    simp only [List.map_cons, List.map_nil, atP, sclP]
    apply nfP_congr <;> simp only [onQ, px_on, py_on, px_nf, py_nf] <;> grind
theorem law_CurveMoves (c : List PT) (d : PT) (t : RT) (hc : ∀ p ∈ c, LimbsP p) (hd : LimbsP d) (ht : Limbs t.2.1 ∧ Limbs t.2.2) : Ev (fun k => law09_CurveMoves.f k c d t) true := by
  unfold law09_CurveMoves.f
  refine grdL (m := 4) (n := 3) (by decide) hc fun hl w => Ev.bs rfl (grdL (m := 1) (n := 3) (by decide) (fun p hp => by rw [List.mem_singleton] at hp; exact hp ▸ hd) fun _ wd => grd9 (Light_eq t 2) fun st => Ev.cd (fun _ => end9) fun h2 => ?_)
  have h2 : 2 ≤ c.length := by omega
  have wd : WP 3 d := wd d (by simp)
  have wt := WQ_few ht.1 ht.2 st
  have rt := qv_RS (by decide) wt
  have e1 : (d.1, d.2.1, d.2.2.1, d.2.2.2.1, d.2.2.2.2.1, d.2.2.2.2.2) = d := rfl
  have e2 : (d.1, d.2.1, d.2.2.1) = p1 d := rfl
  have wm : WPL 7 (c.map fun a => addP a d) := fun p hp => by obtain ⟨a, ha, rfl⟩ := List.mem_map.1 hp; exact WP_add (by decide) (w a ha) wd
  have ws : WPL 7 (c.map fun a => sclP a (px d)) := fun p hp => by
    obtain ⟨a, ha, rfl⟩ := List.mem_map.1 hp
    exact (WP_nf (((w a ha).x (by decide)).mul (wd.x (by decide))) (((w a ha).y (by decide)).mul (wd.x (by decide)))).mono (by decide)
  refine down (Q := fun i => Ev (fun k => law09_CurveMoves.l0 k c c (c.length : Int) (i : Int) d.1 d.2.1 d.2.2.1 d.2.2.2.1 d.2.2.2.2.1 d.2.2.2.2.2 t.1 t.2.1 t.2.2 ((c.take i).map fun a => addP a d) ((c.take i).map fun a => sclP a (px d))) true) (n := c.length) ?_ ?_
  · refine Ev.step ?_
    simp only [law09_CurveMoves.l0]
    rw [List.take_length, e1, e2, t_eta]
    refine Ev.cf dge ?_
    have a0 := At1_ev (n := 3) (by decide) (by decide) c t h2 hl w (wt.mono (by decide))
    have a1 := At1_ev (n := 7) (by decide) (by decide) _ t (by simpa using h2) (by simpa using hl) wm (wt.mono (by decide))
    have a2 := At1_ev (n := 7) (by decide) (by decide) _ t (by simpa using h2) (by simpa using hl) ws (wt.mono (by decide))
    rw [at_add c d _ h2 hl] at a1
    rw [at_scl c _ _ h2 hl] at a2
    have wa := WP_at (n := 3) (by decide) h2 hl w (rt.mono (by decide))
    have b1 := PAdd1_ev (n := 234) (by decide) (by decide) (atP c (qv t)) d wa (wd.mono (by decide))
    have b2 := PScale1_ev (n := 234) (by decide) (by decide) (atP c (qv t)) (p1 d) wa (wd.1.mono (by decide))
    have wb1 : WP 1000 (addP (atP c (qv t)) d) := (WP_add (by decide) wa (wd.mono (by decide))).mono (by decide)
    have wb2 : WP 1000 (sclP (atP c (qv t)) (px d)) := (WP_nf ((wa.x (by decide)).mul (wd.x (by decide))) ((wa.y (by decide)).mul (wd.x (by decide)))).mono (by decide)
    refine Ev.bind a0 (Ev.bind a1 (Ev.bind a2 (Ev.ct rfl (Ev.ct rfl (Ev.ct rfl (Ev.bs rfl (Ev.bind b1 (Ev.bs rfl (okP (Same_one (by decide) wb1 rfl) (Ev.bs rfl (Ev.bind b2 (Ev.bs rfl (okP (Same_one (by decide) wb2 rfl) end9)))))))))))))
  · intro i hi q
    refine Ev.step ?_
    simp only [law09_CurveMoves.l0]
    rw [wadd1 (by omega), gp_gd, e1, e2]
    have wi := w.gp hi
    have b1 := PAdd1_ev (n := 3) (by decide) (by decide) (gp c i) d wi wd
    have b2 := PScale1_ev (n := 3) (by decide) (by decide) (gp c i) (p1 d) wi wd.1
    rw [take_succ' c i hi, List.map_append, List.map_append, ← gp_get c hi] at q
    refine Ev.ct (dlt hi) (Ev.ct (inbN hi) (Ev.bind b1 (Ev.ct (fits_ok ?_) (Ev.bind b2 (Ev.ct (fits_ok ?_) q)))))
    · simp; omega
    · simp; omega
theorem law_CurveDegrees (c : List PT) (t : RT) (hc : ∀ p ∈ c, LimbsP p) (ht : Limbs t.2.1 ∧ Limbs t.2.2) : Ev (fun k => law09_CurveDegrees.f k c t) true := by
  unfold law09_CurveDegrees.f
  refine grdL (m := 3) (n := 3) (by decide) hc fun hl w => grd9 (Light_eq t 2) fun st => Ev.cb (fun _ => end9) fun h3 => ?_
  have h3 : c.length = 3 := by
    have := (bne_eq_false_iff_eq).1 h3
    omega
  obtain ⟨a, b, d, rfl⟩ : ∃ a b d, c = [a, b, d] := by
    match c, h3 with
    | [a, b, d], _ => exact ⟨a, b, d, rfl⟩
  obtain ⟨wa, wb, wd⟩ := WPL_three.1 w
  have wt := WQ_few ht.1 ht.2 st
  have rt := qv_RS (by decide) wt
  have o1 := Of1Q_ev 1 2 (by decide) (by decide) (by decide) (by decide) (by decide)
  have o2 := Of1Q_ev 2 3 (by decide) (by decide) (by decide) (by decide) (by decide)
  have r1 : RS 4 (((1 : Int) : Rat) / ((2 : Int) : Rat)) := RS_ratio (by decide) (by decide) (by decide) (by decide)
  have r2 : RS 4 (((2 : Int) : Rat) / ((3 : Int) : Rat)) := RS_ratio (by decide) (by decide) (by decide) (by decide)
  generalize hq1 : ((1 : Int) : Rat) / ((2 : Int) : Rat) = q1 at *
  generalize hq2 : ((2 : Int) : Rat) / ((3 : Int) : Rat) = q2 at *
  have f1 : q1 * 2 = 1 := by rw [← hq1]; decide +kernel
  have f2 : q2 * 3 = 2 := by rw [← hq2]; decide +kernel
  have wa4 := wa.mono (show 3 ≤ 4 by decide)
  have wb4 := wb.mono (show 3 ≤ 4 by decide)
  have wd4 := wd.mono (show 3 ≤ 4 by decide)
  have m1 := POn1_ev (n := 4) (by decide) (by decide) a b (nfQ q1) wa4 wb4 (WQ_nf r1)
  have m2 := POn1_ev (n := 4) (by decide) (by decide) a b (nfQ q2) wa4 wb4 (WQ_nf r2)
  have m3 := POn1_ev (n := 4) (by decide) (by decide) d b (nfQ q2) wd4 wb4 (WQ_nf r2)
  have m4 := POn1_ev (n := 4) (by decide) (by decide) a b t wa4 wb4 (wt.mono (by decide))
  rw [qv_nfQ] at m1 m2 m3
  have w1 := WP_onP (by decide) wa4 wb4 r1
  have w2 := WP_onP (by decide) wa4 wb4 r2
  have w3 := WP_onP (by decide) wd4 wb4 r2
  have a1 := At1_ev (n := 18) (by decide) (by decide) [a, b] t (by simp) (by simp) (WPL_two.2 ⟨wa4.mono (by decide), wb4.mono (by decide)⟩) (wt.mono (by decide))
  have a2 := At1_ev (n := 18) (by decide) (by decide) [a, onP a b q1, b] t (by simp) (by simp) (WPL_three.2 ⟨wa4.mono (by decide), w1, wb4.mono (by decide)⟩) (wt.mono (by decide))
  have a3 := At1_ev (n := 18) (by decide) (by decide) [a, b, d] t (by simp) (by simp) (WPL_three.2 ⟨wa4.mono (by decide), wb4.mono (by decide), wd4.mono (by decide)⟩) (wt.mono (by decide))
  have a4 := At1_ev (n := 18) (by decide) (by decide) [a, onP a b q2, onP d b q2, d] t (by simp) (by simp) (WPL_four.2 ⟨wa4.mono (by decide), w2, w3, wd4.mono (by decide)⟩) (wt.mono (by decide))
  have e1 : atP [a, b] (qv t) = atP [a, onP a b q1, b] (qv t) := by
    simp only [atP]
    apply nfP_congr <;> simp only [onQ, px_on, py_on] <;> grind
  have e2 : atP [a, b, d] (qv t) = atP [a, onP a b q2, onP d b q2, d] (qv t) := by
    simp only [atP]
    apply nfP_congr <;> simp only [onQ, px_on, py_on] <;> grind
  rw [← e1] at a2
  rw [← e2] at a4
  have v1 := WP_at (n := 18) (by decide) (c := [a, b]) (by simp) (by simp) (WPL_two.2 ⟨wa4.mono (by decide), wb4.mono (by decide)⟩) (rt.mono (by decide))
  have v2 := WP_at (n := 18) (by decide) (c := [a, b, d]) (by simp) (by simp) (WPL_three.2 ⟨wa4.mono (by decide), wb4.mono (by decide), wd4.mono (by decide)⟩) (rt.mono (by decide))
  have g0 : gd (false, [], [], false, [], []) [a, b, d] (0 : Int) = a := rfl
  have g1 : gd (false, [], [], false, [], []) [a, b, d] (1 : Int) = b := rfl
  have g2 : gd (false, [], [], false, [], []) [a, b, d] (2 : Int) = d := rfl
  rw [g0, g1, g2]
  refine Ev.bind o1 (Ev.bind o2 (Ev.ct rfl (Ev.ct rfl (Ev.ct rfl (Ev.bind a1 (Ev.bind m1 (Ev.bind a2 (Ev.bind a3 (Ev.bind m2 (Ev.bind m3 (Ev.bind a4 ?_)))))))))))
  refine Ev.cf rfl (Ev.cf rfl (Ev.cf rfl (Ev.cf rfl (Ev.bs rfl (Ev.bind m4 (Ev.bs rfl (okP (Same_one (by decide) v1 rfl) (Ev.bs rfl (Ev.bs rfl (okP (Same_one (by decide) v1 rfl) (Ev.bs rfl (Ev.bs rfl (okP (Same_one (by decide) v2 rfl) end9)))))))))))))
theorem law_CurveRefines (c : List PT) (m : Int) (h0 : 0 ≤ m) (h1 : m < 256) (hc : ∀ p ∈ c, LimbsP p) : Ev (fun k => law09_CurveRefines.f k c m) true := by
  unfold law09_CurveRefines.f
  refine grdL (m := 4) (n := 3) (by decide) hc fun hl w => Ev.cd (fun _ => end9) fun h2 => Ev.cd (fun _ => end9) fun h3 => Ev.cd (fun _ => end9) fun h4 => ?_
  have h2 : 2 ≤ c.length := by omega
  obtain ⟨m, rfl⟩ := Int.eq_ofNat_of_zero_le h0
  rw [i64_in (x := (m : Int)) (by omega) (by omega), show IntKind.i64.wrap (2 * (m : Int)) = ((2 * m : Nat) : Int) by rw [i64_in (by omega) (by omega)]; omega, wadd1 (by omega), wadd1 (by omega)]
  have w4 := w.mono (show 3 ≤ 4 by decide)
  have e1 : flatD c ((m : Nat) : Int) = ((List.range (m + 1)).map fun i => atP c (((i : Nat) : Int) / (((m : Nat) : Int) : Rat)), 0) := by
    unfold flatD; rw [if_pos ⟨h2, hl⟩, if_neg (by omega), if_neg (by omega), Int.toNat_natCast]
  have e2 : flatD c ((2 * m : Nat) : Int) = ((List.range (2 * m + 1)).map fun i => atP c (((i : Nat) : Int) / (((2 * m : Nat) : Int) : Rat)), 0) := by
    unfold flatD; rw [if_pos ⟨h2, hl⟩, if_neg (by omega), if_neg (by omega), Int.toNat_natCast]
  have f1 := Flat1_ev (n := 4) (by decide) (by decide) c w4 ((m : Nat) : Int)
  have f2 := Flat1_ev (n := 4) (by decide) (by decide) c w4 ((2 * m : Nat) : Int)
  rw [e1] at f1
  rw [e2] at f2
  refine Ev.bind f1 (Ev.bind f2 (Ev.cf rfl (Ev.cf rfl (Ev.cf (by simp) (Ev.cf (by simp) ?_)))))
  have l1 : ((List.range (m + 1)).map fun i => atP c (((i : Nat) : Int) / (((m : Nat) : Int) : Rat))).length = m + 1 := by simp
  have l2 : ((List.range (2 * m + 1)).map fun i => atP c (((i : Nat) : Int) / (((2 * m : Nat) : Int) : Rat))).length = 2 * m + 1 := by simp
  show Ev (fun k => law09_CurveRefines.l0 k (((((List.range (m + 1)).map fun i => atP c (((i : Nat) : Int) / (((m : Nat) : Int) : Rat))).length : Nat)) : Int) 0 ((List.range (m + 1)).map fun i => atP c (((i : Nat) : Int) / (((m : Nat) : Int) : Rat))) ((List.range (2 * m + 1)).map fun i => atP c (((i : Nat) : Int) / (((2 * m : Nat) : Int) : Rat)))) true
  rw [l1]
  refine down (Q := fun i => Ev (fun k => law09_CurveRefines.l0 k ((m + 1 : Nat) : Int) (i : Int) ((List.range (m + 1)).map fun i => atP c (((i : Nat) : Int) / (((m : Nat) : Int) : Rat))) ((List.range (2 * m + 1)).map fun i => atP c (((i : Nat) : Int) / (((2 * m : Nat) : Int) : Rat)))) true) (n := m + 1) ?_ ?_
  · refine Ev.step ?_
    simp only [law09_CurveRefines.l0]
    exact Ev.cf dge end9
  · intro i hi q
    refine Ev.step ?_
    simp only [law09_CurveRefines.l0]
    rw [wadd1 (by omega), show IntKind.i64.wrap (2 * (i : Int)) = ((2 * i : Nat) : Int) by rw [i64_in (by omega) (by omega)]; omega, l1, l2, gp_gd, gp_gd, gp_get _ (by rw [l1]; omega), gp_get _ (by rw [l2]; omega), List.getElem_map, List.getElem_map, List.getElem_range, List.getElem_range]
    have wa := WP_at (n := 4) (q := ((i : Nat) : Int) / (((m : Nat) : Int) : Rat)) (by decide) h2 hl w4 (RS_ratio (by omega) (by omega) (by omega) (by omega))
    refine Ev.ct (dlt hi) (Ev.ct (inbN hi) (Ev.bs rfl (Ev.ct (inbN (by omega)) (Ev.bs rfl (Ev.bind (Same_one (by decide) wa ?_) (Ev.cf rfl q))))))
    congr 1
    have hm : ((m : Int) : Rat) ≠ 0 := fun e => by
      have : (m : Int) = 0 := by exact_mod_cast e
      omega
    have c1 : ((2 * i : Nat) : Int) = 2 * (i : Int) := by omega
    have c2 : ((2 * m : Nat) : Int) = 2 * (m : Int) := by omega
    rw [c1, c2, Rat.intCast_mul, Rat.intCast_mul]
    have c3 : ((2 : Int) : Rat) = 2 := rfl
    rw [c3]
    grind
theorem CurveEnds_plain : ∀ x : ArgsD law09_CurveEnds.E.ps, WFA law09_CurveEnds.E.ps x → ∃ k, law09_CurveEnds.E.fn k x = some true := by
  intro x h
  obtain ⟨a0, a1, u⟩ := x
  obtain ⟨g0, g1, _⟩ := h
  exact (law_CurveEnds a0 a1 (limbsPL_wf g0) (limbsR_wf g1)).ex
theorem CurveMoves_plain : ∀ x : ArgsD law09_CurveMoves.E.ps, WFA law09_CurveMoves.E.ps x → ∃ k, law09_CurveMoves.E.fn k x = some true := by
  intro x h
  obtain ⟨a0, a1, a2, u⟩ := x
  obtain ⟨g0, g1, g2, _⟩ := h
  exact (law_CurveMoves a0 a1 a2 (limbsPL_wf g0) (limbsP_wf g1) (limbsR_wf g2)).ex
theorem CurveDegrees_plain : ∀ x : ArgsD law09_CurveDegrees.E.ps, WFA law09_CurveDegrees.E.ps x → ∃ k, law09_CurveDegrees.E.fn k x = some true := by
  intro x h
  obtain ⟨a0, a1, u⟩ := x
  obtain ⟨g0, g1, _⟩ := h
  exact (law_CurveDegrees a0 a1 (limbsPL_wf g0) (limbsR_wf g1)).ex
theorem CurveRefines_plain : ∀ x : ArgsD law09_CurveRefines.E.ps, WFA law09_CurveRefines.E.ps x → ∃ k, law09_CurveRefines.E.fn k x = some true := by
  intro x h
  obtain ⟨a0, a1, u⟩ := x
  obtain ⟨g0, g1, _⟩ := h
  simp only [WFr, WFc] at g1
  have := wf_u8 g1
  exact (law_CurveRefines a0 a1 this.1 this.2 (limbsPL_wf g0)).ex
end Go.Gm
