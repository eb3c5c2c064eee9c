/- Points: the program's (3): feet, meeting points, mirror images. -/
import Derived.Test.YtgofapkelhccgaaM8b
set_option linter.unusedVariables false
set_option linter.unusedSimpArgs false
namespace Go.Gm
open Go.Pi

def zeroP : PT := (false, [], [], false, [], [])
theorem onQ_eq (ax ay bx b_y t : Rat) : onQ ax ay bx b_y t = (ax + (bx - ax) * t, ay + (b_y - ay) * t) := rfl
/-- Where the foot lies: numerator and denominator. -/
def footN (x y ax ay bx b_y : Rat) : Rat := (x - ax) * (bx - ax) + (y - ay) * (b_y - ay)
def footD (ax ay bx b_y : Rat) : Rat := (bx - ax) * (bx - ax) + (b_y - ay) * (b_y - ay)
def footP (p a b : PT) : Rat × Rat := onQ (px a) (py a) (px b) (py b) (footN (px p) (py p) (px a) (py a) (px b) (py b) / footD (px a) (py a) (px b) (py b))
def meetN (ax ay cx cy dx dy : Rat) : Rat := (cx - ax) * (dy - cy) - (cy - ay) * (dx - cx)
def meetD (ax ay bx b_y cx cy dx dy : Rat) : Rat := (bx - ax) * (dy - cy) - (b_y - ay) * (dx - cx)
def meetP (a b c d : PT) : Rat × Rat := onQ (px a) (py a) (px b) (py b) (meetN (px a) (py a) (px c) (py c) (px d) (py d) / meetD (px a) (py a) (px b) (py b) (px c) (py c) (px d) (py d))
theorem WP_foot {n : Nat} (h1 : 1 ≤ n) {p a b : PT} (hp : WP n p) (ha : WP n a) (hb : WP n b) : WP (19 * n + 12) (nfP (footP p a b).1 (footP p a b).2) := by
  have w1 := WP_sub h1 hb ha
  have w2 := WP_sub h1 hp ha
  have d1 := RS_dot (by omega) w2 w1
  have d2 := RS_dot (by omega) w1 w1
  simp only [px_nf, py_nf] at d1 d2
  exact WP_nf (((ha.x h1).add (((hb.x h1).sub (ha.x h1)).mul (d1.div d2))).mono (by omega)) (((ha.y h1).add (((hb.y h1).sub (ha.y h1)).mul (d1.div d2))).mono (by omega))
theorem WP_meet {n : Nat} (h1 : 1 ≤ n) {a b c d : PT} (ha : WP n a) (hb : WP n b) (hc : WP n c) (hd : WP n d) : WP (19 * n + 12) (nfP (meetP a b c d).1 (meetP a b c d).2) := by
  have w1 := WP_sub h1 hc ha
  have w2 := WP_sub h1 hd hc
  have w3 := WP_sub h1 hb ha
  have d1 := RS_cross (by omega) w1 w2
  have d2 := RS_cross (by omega) w3 w2
  simp only [px_nf, py_nf] at d1 d2
  exact WP_nf (((ha.x h1).add (((hb.x h1).sub (ha.x h1)).mul (d1.div d2))).mono (by omega)) (((ha.y h1).add (((hb.y h1).sub (ha.y h1)).mul (d1.div d2))).mono (by omega))
theorem nfP_one (x y : Rat) (r : PT) (h : r = nfP x y) : px r = x ∧ py r = y := by rw [h]; exact ⟨px_nf x y, py_nf x y⟩
section
variable {n : Nat} (h1 : 1 ≤ n) (hn : n ≤ 500)
include h1 hn
theorem PFoot1_ev (p a b : PT) (hp : WP n p) (ha : WP n a) (hb : WP n b) : Ev (fun k => point_Foot.f k p a b) (if footD (px a) (py a) (px b) (py b) = 0 then (zeroP, 10) else (nfP (footP p a b).1 (footP p a b).2, 0)) := by
  unfold point_Foot.f
  have w1 := WP_sub h1 hb ha
  have w2 := WP_sub h1 hp ha
  refine Ev.bind (PSub1_ev h1 (by omega) b a hb ha) (Ev.bind (PSub1_ev h1 (by omega) p a hp ha) ?_)
  have e1 := PDot1_ev (n := 2 * n + 1) (by omega) (by omega) _ _ w2 w1
  have e2 := PDot1_ev (n := 2 * n + 1) (by omega) (by omega) _ _ w1 w1
  have d1 := RS_dot (by omega) w2 w1
  have d2 := RS_dot (by omega) w1 w1
  simp only [px_nf, py_nf] at e1 e2 d1 d2
  refine Ev.bind e1 (Ev.bind e2 ?_)
  have q := Div1Q_ev (n := 4 * (2 * n + 1) + 1) (by omega) (by omega) (nfQ _) (nfQ _) (WQ_nf d1) (WQ_nf d2)
  rw [qv_nfQ, qv_nfQ] at q
  refine Ev.bind q ?_
  by_cases h0 : (px b - px a) * (px b - px a) + (py b - py a) * (py b - py a) = 0
  · rw [if_pos h0, if_pos (show footD _ _ _ _ = 0 from h0)]
    exact Ev.pure _
  · rw [if_neg h0, if_neg (show ¬ footD _ _ _ _ = 0 from h0)]
    simp only [notB_t, condF]
    have rt := d1.div d2
    have s := PScale1_ev (n := 2 * (4 * (2 * n + 1) + 1)) (by omega) (by omega) _ (nfQ _) (w1.mono (by omega)) ((WQ_nf rt).mono (by omega))
    rw [px_nf, py_nf, qv_nfQ] at s
    refine Ev.bind s ?_
    have w5 : WP (18 * n + 11) (nfP _ _) := WP_nf ((((hb.x h1).sub (ha.x h1)).mul rt).mono (by omega)) ((((hb.y h1).sub (ha.y h1)).mul rt).mono (by omega))
    have t := PAdd1_ev (n := 18 * n + 11) (by omega) (by omega) a _ (ha.mono (by omega)) w5
    rw [px_nf, py_nf] at t
    exact Ev.bind t (Ev.pure _)
theorem PMeet1_ev (a b c d : PT) (ha : WP n a) (hb : WP n b) (hc : WP n c) (hd : WP n d) : Ev (fun k => point_Meet.f k a b c d) (if meetD (px a) (py a) (px b) (py b) (px c) (py c) (px d) (py d) = 0 then (zeroP, 10) else (nfP (meetP a b c d).1 (meetP a b c d).2, 0)) := by
  unfold point_Meet.f
  have w1 := WP_sub h1 hb ha
  have w2 := WP_sub h1 hd hc
  have w3 := WP_sub h1 hc ha
  refine Ev.bind (PSub1_ev h1 (by omega) b a hb ha) (Ev.bind (PSub1_ev h1 (by omega) d c hd hc) (Ev.bind (PSub1_ev h1 (by omega) c a hc ha) ?_))
  have e1 := PCross1_ev (n := 2 * n + 1) (by omega) (by omega) _ _ w3 w2
  have e2 := PCross1_ev (n := 2 * n + 1) (by omega) (by omega) _ _ w1 w2
  have d1 := RS_cross (by omega) w3 w2
  have d2 := RS_cross (by omega) w1 w2
  simp only [px_nf, py_nf] at e1 e2 d1 d2
  refine Ev.bind e1 (Ev.bind e2 ?_)
  have q := Div1Q_ev (n := 4 * (2 * n + 1) + 1) (by omega) (by omega) (nfQ _) (nfQ _) (WQ_nf d1) (WQ_nf d2)
  rw [qv_nfQ, qv_nfQ] at q
  refine Ev.bind q ?_
  by_cases h0 : (px b - px a) * (py d - py c) - (py b - py a) * (px d - px c) = 0
  · rw [if_pos h0, if_pos (show meetD _ _ _ _ _ _ _ _ = 0 from h0)]
    exact Ev.pure _
  · rw [if_neg h0, if_neg (show ¬ meetD _ _ _ _ _ _ _ _ = 0 from h0)]
    simp only [notB_t, condF]
    have rt := d1.div d2
    have s := PScale1_ev (n := 2 * (4 * (2 * n + 1) + 1)) (by omega) (by omega) _ (nfQ _) (w1.mono (by omega)) ((WQ_nf rt).mono (by omega))
    rw [px_nf, py_nf, qv_nfQ] at s
    refine Ev.bind s ?_
    have w5 : WP (18 * n + 11) (nfP _ _) := WP_nf ((((hb.x h1).sub (ha.x h1)).mul rt).mono (by omega)) ((((hb.y h1).sub (ha.y h1)).mul rt).mono (by omega))
    have t := PAdd1_ev (n := 18 * n + 11) (by omega) (by omega) a _ (ha.mono (by omega)) w5
    rw [px_nf, py_nf] at t
    exact Ev.bind t (Ev.pure _)
def mirX (x f : Rat) : Rat := f + f - x
theorem PMirror1_ev (p a b : PT) (hp : WP n p) (ha : WP n a) (hb : WP n b) : Ev (fun k => point_Mirror.f k p a b) (if footD (px a) (py a) (px b) (py b) = 0 then (zeroP, 10) else (nfP (mirX (px p) (footP p a b).1) (mirX (py p) (footP p a b).2), 0)) := by
  unfold point_Mirror.f
  refine Ev.bind (PFoot1_ev h1 hn p a b hp ha hb) ?_
  by_cases h0 : footD (px a) (py a) (px b) (py b) = 0
  · rw [if_pos h0, if_pos h0]
    exact Ev.pure _
  · rw [if_neg h0, if_neg h0]
    have t0 : ((0 : Int) != 0) = false := rfl
    simp only [t0, condF]
    refine Ev.bind (whole1_ev 2 (by decide) (by decide)) ?_
    have wf := WP_foot h1 hp ha hb
    have r2 : RS 1 ((2 : Int) : Rat) := RS_int (by decide) (by decide)
    have o := POn1_ev (n := 19 * n + 12) (by omega) (by omega) p _ (nfQ ((2 : Int) : Rat)) (hp.mono (by omega)) wf ((WQ_nf r2).mono (by omega))
    rw [px_nf, py_nf, qv_nfQ] at o
    refine Ev.bind o (Ev.eq (Ev.pure _) ?_)
    have c2 : ((2 : Int) : Rat) = 2 := rfl
    have ex : ∀ u v : Rat, u + (v - u) * ((2 : Int) : Rat) = mirX u v := fun u v => by rw [c2]; unfold mirX; grind
    rw [onQ_eq, ex, ex]
theorem PSame1W_ev (a b : PT) (ha : WP n a) (hb : WP n b) : Ev (fun k => point_Same.f k a b) (decide (px a = px b ∧ py a = py b)) :=
  PSame1_ev h1 (by omega) a b ha.1 ha.2 hb.1 hb.2
end
theorem RS_mir {m n : Nat} {x f : Rat} (hx : RS m x) (hf : RS n f) : RS (2 * n + m + 2) (mirX x f) := ((hf.add hf).sub hx).mono (by omega)
end Go.Gm
