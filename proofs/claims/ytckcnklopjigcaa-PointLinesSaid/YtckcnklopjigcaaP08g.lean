/- The laws of chapter 8, as plain statements (7): lines. -/
import Derived.Test.YtckcnklopjigcaaP08f
import Derived.Test.YtckcnklopjigcaaML
set_option linter.unusedVariables false
set_option linter.unusedSimpArgs false
set_option maxRecDepth 100000
namespace Go.Gm
open Go.Pi

/-- Four points, as an argument. -/
def mk4 (a b c d : PT) : Bool × (List Int) × (List Int) × Bool × (List Int) × (List Int) × Bool × (List Int) × (List Int) × Bool × (List Int) × (List Int) × Bool × (List Int) × (List Int) × Bool × (List Int) × (List Int) × Bool × (List Int) × (List Int) × Bool × (List Int) × List Int :=
  (a.1, a.2.1, a.2.2.1, a.2.2.2.1, a.2.2.2.2.1, a.2.2.2.2.2, b.1, b.2.1, b.2.2.1, b.2.2.2.1, b.2.2.2.2.1, b.2.2.2.2.2, c.1, c.2.1, c.2.2.1, c.2.2.2.1, c.2.2.2.2.1, c.2.2.2.2.2, d)
theorem small_eq (a b c d : PT) : law08_small.f (mk4 a b c d) = some (shortB 3 a && (shortB 3 b && (shortB 3 c && shortB 3 d))) := by
  have e1 : ref08_Short.f ((mk4 a b c d).1, (mk4 a b c d).2.1, (mk4 a b c d).2.2.1, (mk4 a b c d).2.2.2.1, (mk4 a b c d).2.2.2.2.1, (mk4 a b c d).2.2.2.2.2.1) (3 : Int) = some (shortB 3 a) := Short_eq a 3
  have e2 : ref08_Short.f ((mk4 a b c d).2.2.2.2.2.2.1, (mk4 a b c d).2.2.2.2.2.2.2.1, (mk4 a b c d).2.2.2.2.2.2.2.2.1, (mk4 a b c d).2.2.2.2.2.2.2.2.2.1, (mk4 a b c d).2.2.2.2.2.2.2.2.2.2.1, (mk4 a b c d).2.2.2.2.2.2.2.2.2.2.2.1) (3 : Int) = some (shortB 3 b) := Short_eq b 3
  have e3 : ref08_Short.f ((mk4 a b c d).2.2.2.2.2.2.2.2.2.2.2.2.1, (mk4 a b c d).2.2.2.2.2.2.2.2.2.2.2.2.2.1, (mk4 a b c d).2.2.2.2.2.2.2.2.2.2.2.2.2.2.1, (mk4 a b c d).2.2.2.2.2.2.2.2.2.2.2.2.2.2.2.1, (mk4 a b c d).2.2.2.2.2.2.2.2.2.2.2.2.2.2.2.2.1, (mk4 a b c d).2.2.2.2.2.2.2.2.2.2.2.2.2.2.2.2.2.1) (3 : Int) = some (shortB 3 c) := Short_eq c 3
  have e4 : ref08_Short.f (mk4 a b c d).2.2.2.2.2.2.2.2.2.2.2.2.2.2.2.2.2.2 (3 : Int) = some (shortB 3 d) := Short_eq d 3
  unfold law08_small.f
  rw [e1, bindO_s, e2, bindO_s, e3, bindO_s, e4, bindO_s]
  cases shortB 3 a <;> cases shortB 3 b <;> cases shortB 3 c <;> rfl
theorem small4 {a b c d : PT} (ha : LimbsP a) (hb : LimbsP b) (hc : LimbsP c) (hd : LimbsP d) {g : Nat → Option Bool} (h : WP 3 a → WP 3 b → WP 3 c → WP 3 d → Ev g true) :
    Ev (fun k => bindO (law08_small.f (mk4 a b c d)) fun r0 => bif notB r0 then (bindO (law08_awake.f k) fun r1 => some r1) else g k) true :=
  grd8 (small_eq a b c d) fun hs => by
    simp only [Bool.and_eq_true] at hs
    exact h (WP_short ha hs.1) (WP_short hb hs.2.1) (WP_short hc hs.2.2.1) (WP_short hd hs.2.2.2)
theorem law_PointLines (a b c d : PT) (ha : LimbsP a) (hb : LimbsP b) (hc : LimbsP c) (hd : LimbsP d) : Ev (fun k => law08_PointLines.f k (mk4 a b c d)) true := by
  unfold law08_PointLines.f
  refine small4 ha hb hc hd fun wa wb wc wd => ?_
  have wm := WP_meet (n := 3) (by decide) wa wb wc wd
  have wf := WP_foot (n := 3) (by decide) wa wb wc
  have wr : WP 1000 (nfP (mirX (px a) (footP a b c).1) (mirX (py a) (footP a b c).2)) := by
    have x := wf.x (by decide)
    have y := wf.y (by decide)
    rw [px_nf] at x
    rw [py_nf] at y
    exact WP_nf ((RS_mir (wa.x (by decide)) x).mono (by decide)) ((RS_mir (wa.y (by decide)) y).mono (by decide))
  refine Ev.bind (PMeet1_ev (n := 3) (by decide) (by decide) a b c d wa wb wc wd) (Ev.bind (PMeet2_ev (n := 3) (by decide) (by decide) a b c d wa wb wc wd) (Ev.bind (PFoot1_ev (n := 3) (by decide) (by decide) a b c wa wb wc) (Ev.bind (PFoot2_ev (n := 3) (by decide) (by decide) a b c wa wb wc) (Ev.bind (PMirror1_ev (n := 3) (by decide) (by decide) a b c wa wb wc) (Ev.bind (PMirror2_ev (n := 3) (by decide) (by decide) a b c wa wb wc) ?_)))))
  have s1 : ∀ {p : Prop} [Decidable p] {q : PT}, WP 1000 q → Ev (fun k => ref08_Exact.f k (if p then (zeroP, (10 : Int)) else (q, 0)).1 (if p then (zeroP, (10 : Int)) else (q, 0)).1) true := fun {p} _ {q} w => by
    by_cases h : p
    · rw [if_pos h]; exact Exact_zero
    · rw [if_neg h]; exact Exact_nf w (by decide)
  refine chkP (s1 (wm.mono (by decide))) (Ev.ct (beq_self_eq_true _) (chkP (s1 (wf.mono (by decide))) (Ev.ct (beq_self_eq_true _) (chkP (s1 wr) (Ev.ct (beq_self_eq_true _) ?_)))))
  exact Ev.bind (PSide1_ev (n := 3) (by decide) (by decide) a b c wa wb wc) (Ev.bind (PSide2_ev (n := 3) (by decide) (by decide) a b c wa wb wc) (Ev.ct (beq_self_eq_true _) end8))
theorem meetD_swap (ax ay bx b_y cx cy dx dy : Rat) : meetD cx cy dx dy bx b_y ax ay = meetD ax ay bx b_y cx cy dx dy := by unfold meetD; grind
/-- The meeting point, from either line. -/
theorem meet_two (ax ay bx b_y cx cy dx dy t u : Rat) (h0 : meetD ax ay bx b_y cx cy dx dy ≠ 0) (ht : t * meetD ax ay bx b_y cx cy dx dy = meetN ax ay cx cy dx dy) (hu : u * meetD ax ay bx b_y cx cy dx dy = meetN cx cy bx b_y ax ay) :
    ax + (bx - ax) * t = cx + (dx - cx) * u ∧ ay + (b_y - ay) * t = cy + (dy - cy) * u := by
  have key : ∀ z : Rat, z * meetD ax ay bx b_y cx cy dx dy = 0 → z = 0 := fun z hz => (Rat.mul_eq_zero.mp hz).resolve_right h0
  have e1 := key (ax + (bx - ax) * t - (cx + (dx - cx) * u)) (by
    have : (ax + (bx - ax) * t - (cx + (dx - cx) * u)) * meetD ax ay bx b_y cx cy dx dy = (ax - cx) * meetD ax ay bx b_y cx cy dx dy + (bx - ax) * (t * meetD ax ay bx b_y cx cy dx dy) - (dx - cx) * (u * meetD ax ay bx b_y cx cy dx dy) := by grind
    rw [this, ht, hu]; unfold meetD meetN; grind)
  have e2 := key (ay + (b_y - ay) * t - (cy + (dy - cy) * u)) (by
    have : (ay + (b_y - ay) * t - (cy + (dy - cy) * u)) * meetD ax ay bx b_y cx cy dx dy = (ay - cy) * meetD ax ay bx b_y cx cy dx dy + (b_y - ay) * (t * meetD ax ay bx b_y cx cy dx dy) - (dy - cy) * (u * meetD ax ay bx b_y cx cy dx dy) := by grind
    rw [this, ht, hu]; unfold meetD meetN; grind)
  exact ⟨by grind, by grind⟩
theorem law_PointMeets (a b c d : PT) (ha : LimbsP a) (hb : LimbsP b) (hc : LimbsP c) (hd : LimbsP d) : Ev (fun k => law08_PointMeets.f k (mk4 a b c d)) true := by
  unfold law08_PointMeets.f
  refine small4 ha hb hc hd fun wa wb wc wd => ?_
  have wm := WP_meet (n := 3) (by decide) wa wb wc wd
  have w1 := WP_sub (n := 3) (by decide) wb wa
  have w2 := WP_sub (n := 3) (by decide) wd wc
  have e3 := PCross1_ev (n := 7) (by decide) (by decide) _ _ w1 w2
  have r3 := RS_cross (by decide) w1 w2
  simp only [px_nf, py_nf] at e3 r3
  have z0 : RS 1 ((0 : Int) : Rat) := RS_int (by decide) (by decide)
  have c0 : ((0 : Int) : Rat) = 0 := rfl
  have e5 := Cmp1Q_ev (n := 29) (by decide) (by decide) (nfQ _) (nfQ ((0 : Int) : Rat)) (WQ_nf r3) ((WQ_nf z0).mono (by decide))
  rw [qv_nfQ, qv_nfQ] at e5
  refine Ev.bind (PMeet1_ev (n := 3) (by decide) (by decide) a b c d wa wb wc wd) (Ev.bind (PSub1_ev (n := 3) (by decide) (by decide) b a wb wa) (Ev.bind (PSub1_ev (n := 3) (by decide) (by decide) d c wd wc) (Ev.bind e3 (Ev.bind (part_ev 0 (by decide) (by decide)) (Ev.bind e5 ?_)))))
  rw [cmpQ_zero, c0]
  by_cases h0 : meetD (px a) (py a) (px b) (py b) (px c) (py c) (px d) (py d) = 0
  · refine Ev.ct (decide_eq_true h0) ?_
    rw [if_pos h0]
    exact Ev.ct rfl (chkP Exact_zero end8)
  · refine Ev.cf (decide_eq_false h0) ?_
    have h0' : ¬ meetD (px c) (py c) (px d) (py d) (px b) (py b) (px a) (py a) = 0 := by rw [meetD_swap]; exact h0
    refine Ev.bind (PMeet1_ev (n := 3) (by decide) (by decide) c d b a wc wd wb wa) ?_
    rw [if_neg h0, if_neg h0']
    refine Ev.ct rfl (Ev.ct rfl ?_)
    have hT : ∃ t, meetN (px a) (py a) (px c) (py c) (px d) (py d) / meetD (px a) (py a) (px b) (py b) (px c) (py c) (px d) (py d) = t ∧ t * meetD (px a) (py a) (px b) (py b) (px c) (py c) (px d) (py d) = meetN (px a) (py a) (px c) (py c) (px d) (py d) := ⟨_, rfl, by grind⟩
    have hU : ∃ u, meetN (px c) (py c) (px b) (py b) (px a) (py a) / meetD (px c) (py c) (px d) (py d) (px b) (py b) (px a) (py a) = u ∧ u * meetD (px a) (py a) (px b) (py b) (px c) (py c) (px d) (py d) = meetN (px c) (py c) (px b) (py b) (px a) (py a) := by
      refine ⟨_, rfl, ?_⟩
      rw [meetD_swap]; grind
    obtain ⟨t, ht, ht'⟩ := hT
    obtain ⟨u, hu, hu'⟩ := hU
    obtain ⟨q1, q2⟩ := meet_two _ _ _ _ _ _ _ _ t u h0 ht' hu'
    have f1 : meetP a b c d = (px a + (px b - px a) * t, py a + (py b - py a) * t) := by unfold meetP onQ; rw [ht]
    have f2 : meetP c d b a = (px c + (px d - px c) * u, py c + (py d - py c) * u) := by unfold meetP onQ; rw [hu]
    have f3 : meetP c d b a = meetP a b c d := by rw [f1, f2, q1, q2]
    rw [f3]
    refine chkP (Exact_nf wm (by decide)) ?_
    have s1 := PSide1_ev (n := 69) (by decide) (by decide) a b _ (wa.mono (by decide)) (wb.mono (by decide)) wm
    have s2 := PSide1_ev (n := 69) (by decide) (by decide) c d _ (wc.mono (by decide)) (wd.mono (by decide)) wm
    rw [px_nf, py_nf] at s1 s2
    have k1 : cmpQ (crossQ (px a) (py a) (px b) (py b) (meetP a b c d).1 (meetP a b c d).2) 0 = 0 := cmpQ_eq (by rw [f1]; unfold crossQ; grind)
    have k2 : cmpQ (crossQ (px c) (py c) (px d) (py d) (meetP a b c d).1 (meetP a b c d).2) 0 = 0 := cmpQ_eq (by rw [← f3, f2]; unfold crossQ; grind)
    rw [k1] at s1
    rw [k2] at s2
    exact Ev.bind s1 (Ev.ct rfl (Ev.bind s2 (Ev.ct rfl end8)))
theorem mk4_of (x : Bool × (List Int) × (List Int) × Bool × (List Int) × (List Int) × Bool × (List Int) × (List Int) × Bool × (List Int) × (List Int) × Bool × (List Int) × (List Int) × Bool × (List Int) × (List Int) × Bool × (List Int) × (List Int) × Bool × (List Int) × List Int)
    (h : WFr (.cons .bool (.cons (.sl (.one (.int .u32))) (.cons (.sl (.one (.int .u32))) (.cons .bool (.cons (.sl (.one (.int .u32))) (.cons (.sl (.one (.int .u32))) (.cons .bool (.cons (.sl (.one (.int .u32))) (.cons (.sl (.one (.int .u32))) (.cons .bool (.cons (.sl (.one (.int .u32))) (.cons (.sl (.one (.int .u32))) (.cons .bool (.cons (.sl (.one (.int .u32))) (.cons (.sl (.one (.int .u32))) (.cons .bool (.cons (.sl (.one (.int .u32))) (.cons (.sl (.one (.int .u32))) (.cons .bool (.cons (.sl (.one (.int .u32))) (.cons (.sl (.one (.int .u32))) (.cons .bool (.cons (.sl (.one (.int .u32))) (.one (.sl (.one (.int .u32))))))))))))))))))))))))))) x) :
    ∃ a b c d, x = mk4 a b c d ∧ LimbsP a ∧ LimbsP b ∧ LimbsP c ∧ LimbsP d := by
  obtain ⟨a1, a2, a3, a4, a5, a6, b1, b2, b3, b4, b5, b6, c1, c2, c3, c4, c5, c6, d1, d2, d3, d4, d5, d6⟩ := x
  simp only [WFr, WFc] at h
  obtain ⟨_, h1, h2, _, h3, h4, _, h5, h6, _, h7, h8, _, h9, h10, _, h11, h12, _, h13, h14, _, h15, h16⟩ := h
  exact ⟨(a1, a2, a3, a4, a5, a6), (b1, b2, b3, b4, b5, b6), (c1, c2, c3, c4, c5, c6), (d1, d2, d3, d4, d5, d6), rfl, ⟨⟨limbs_of h1.2, limbs_of h2.2⟩, ⟨limbs_of h3.2, limbs_of h4.2⟩⟩, ⟨⟨limbs_of h5.2, limbs_of h6.2⟩, ⟨limbs_of h7.2, limbs_of h8.2⟩⟩,
    ⟨⟨limbs_of h9.2, limbs_of h10.2⟩, ⟨limbs_of h11.2, limbs_of h12.2⟩⟩, ⟨⟨limbs_of h13.2, limbs_of h14.2⟩, ⟨limbs_of h15.2, limbs_of h16.2⟩⟩⟩
theorem PointLines_plain : ∀ x : ArgsD law08_PointLines.E.ps, WFA law08_PointLines.E.ps x → ∃ k, law08_PointLines.E.fn k x = some true := by
  intro x h
  obtain ⟨a0, u⟩ := x
  obtain ⟨g0, _⟩ := h
  obtain ⟨a, b, c, d, e, ha, hb, hc, hd⟩ := mk4_of a0 g0
  subst e
  exact (law_PointLines a b c d ha hb hc hd).ex
theorem PointMeets_plain : ∀ x : ArgsD law08_PointMeets.E.ps, WFA law08_PointMeets.E.ps x → ∃ k, law08_PointMeets.E.fn k x = some true := by
  intro x h
  obtain ⟨a0, u⟩ := x
  obtain ⟨g0, _⟩ := h
  obtain ⟨a, b, c, d, e, ha, hb, hc, hd⟩ := mk4_of a0 g0
  subst e
  exact (law_PointMeets a b c d ha hb hc hd).ex
end Go.Gm
