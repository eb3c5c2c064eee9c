/- Curves: boxes. -/
import Derived.Test.YtgofapkelhccgaaM9b
set_option linter.unusedVariables false
set_option linter.unusedSimpArgs false
namespace Go.Gm
open Go.Pi

theorem cmpQ_neg {p q : Rat} : cmpQ p q < 0 ↔ p < q := by
  unfold cmpQ
  by_cases h : p < q
  · rw [if_pos h]; exact ⟨fun _ => h, fun _ => by decide⟩
  · rw [if_neg h]
    refine ⟨fun e => ?_, fun e => absurd e h⟩
    split at e <;> cases e
theorem cmpQ_pos {p q : Rat} : cmpQ p q > 0 ↔ q < p := by
  unfold cmpQ
  by_cases h : p < q
  · rw [if_pos h]; exact ⟨fun e => absurd e (by decide), fun e => by grind⟩
  · rw [if_neg h]
    by_cases h' : p = q
    · rw [if_pos h']; exact ⟨fun e => absurd e (by decide), fun e => by grind⟩
    · rw [if_neg h']; exact ⟨fun _ => by grind, fun _ => by decide⟩
theorem cmpQ_le2 {p q : Rat} (h : p ≤ q) : decide (cmpQ p q ≤ 0) = true := by
  by_cases c : cmpQ p q > 0
  · have := cmpQ_pos.1 c
    grind
  · exact decide_eq_true (by omega)
section
variable {n : Nat} (h1 : 1 ≤ n) (hn : n ≤ 1000000)
include h1 hn
theorem least_ev (x y : RT) (hx : WQ n x) (hy : WQ n y) : ∃ z, Ev (fun k => curve_least.f k x y) z ∧ WQ n z ∧ qv z ≤ qv x ∧ qv z ≤ qv y := by
  have c := Cmp1Q_ev h1 (by omega) y x hy hx
  by_cases h : qv y < qv x
  · refine ⟨y, ?_, hy, by grind, by grind⟩
    unfold curve_least.f
    exact Ev.bind c (Ev.ct (decide_eq_true (cmpQ_neg.2 h)) (Ev.pure _))
  · refine ⟨x, ?_, hx, by grind, by grind⟩
    unfold curve_least.f
    exact Ev.bind c (Ev.cf (decide_eq_false fun e => h (cmpQ_neg.1 e)) (Ev.pure _))
theorem greatest_ev (x y : RT) (hx : WQ n x) (hy : WQ n y) : ∃ z, Ev (fun k => curve_greatest.f k x y) z ∧ WQ n z ∧ qv x ≤ qv z ∧ qv y ≤ qv z := by
  have c := Cmp1Q_ev h1 (by omega) y x hy hx
  by_cases h : qv x < qv y
  · refine ⟨y, ?_, hy, by grind, by grind⟩
    unfold curve_greatest.f
    exact Ev.bind c (Ev.ct (decide_eq_true (cmpQ_pos.2 h)) (Ev.pure _))
  · refine ⟨x, ?_, hx, by grind, by grind⟩
    unfold curve_greatest.f
    exact Ev.bind c (Ev.cf (decide_eq_false fun e => h (cmpQ_pos.1 e)) (Ev.pure _))
/-- The corners of the box: all control points lie between them. -/
theorem Box1_ev (c : List PT) (h2 : 2 ≤ c.length) (h4 : c.length ≤ 4) (hc : WPL n c) : ∃ lo hi : PT, Ev (fun k => curve_Box.f k c) (normP lo, normP hi, 0) ∧ WP n lo ∧ WP n hi ∧ ∀ p ∈ c, (px lo ≤ px p ∧ px p ≤ px hi) ∧ (py lo ≤ py p ∧ py p ≤ py hi) := by
  obtain ⟨a, d, rfl⟩ : ∃ a d, c = a :: d := by
    cases c with
    | nil => simp at h2
    | cons a d => exact ⟨a, d, rfl⟩
  have ha : WP n a := hc a (by simp)
  have hd : WPL n d := fun p hp => hc p (by simp [hp])
  have hl : d.length ≤ 3 := by simpa using h4
  have key := down (n := d.length) (Q := fun i => ∀ (x y u v : RT), WQ n x → WQ n y → WQ n u → WQ n v → (∀ p ∈ a :: d.take i, (qv x ≤ px p ∧ px p ≤ qv u) ∧ (qv y ≤ py p ∧ py p ≤ qv v)) →
    ∃ lo hi : PT, Ev (fun k => curve_Box.l0 k d (d.length : Int) (i : Int) x.1 x.2.1 x.2.2 y.1 y.2.1 y.2.2 u.1 u.2.1 u.2.2 v.1 v.2.1 v.2.2) (normP lo, normP hi, 0) ∧ WP n lo ∧ WP n hi ∧ ∀ p ∈ a :: d, (px lo ≤ px p ∧ px p ≤ px hi) ∧ (py lo ≤ py p ∧ py p ≤ py hi)) ?_ ?_
  · have := key (p1 a) (p2 a) (p1 a) (p2 a) ha.1 ha.2 ha.1 ha.2 (by
      intro p hp
      simp only [List.take_zero, List.mem_cons, List.not_mem_nil, or_false] at hp
      subst hp
      exact ⟨⟨Rat.le_refl, Rat.le_refl⟩, ⟨Rat.le_refl, Rat.le_refl⟩⟩)
    obtain ⟨lo, hi, e, w1, w2, b⟩ := this
    refine ⟨lo, hi, ?_, w1, w2, b⟩
    unfold curve_Box.f
    refine Ev.bs (valid1_eq _) (Ev.cf (by rw [decide_eq_true ⟨h2, h4⟩]; rfl) (Ev.ct (inbN (i := 0) (by omega)) (Ev.ct (inbN (i := 0) (by omega)) (Ev.ct ?_ e))))
    have t1 : (1 : Int) ≤ ((a :: d).length : Int) := by omega
    show (decide ((0 : Int) ≤ 1) && decide ((1 : Int) ≤ ((a :: d).length : Int))) = true
    rw [decide_eq_true t1]; rfl
  · intro x y u v hx hy hu hv hb
    rw [List.take_length] at hb
    refine ⟨mkP x y, mkP u v, ?_, ⟨hx, hy⟩, ⟨hu, hv⟩, hb⟩
    refine Ev.step ?_
    simp only [curve_Box.l0]
    refine Ev.cf dge ?_
    have e1 := norm1_ev (n := n) hn (mkP x y) ⟨hx, hy⟩
    have e2 := norm1_ev (n := n) hn (mkP u v) ⟨hu, hv⟩
    exact Ev.bind e1 (Ev.bind e2 (Ev.pure _))
  · intro i hi ih x y u v hx hy hu hv hb
    have w := hd.gp hi
    obtain ⟨x', ex, wx, x1, x2⟩ := least_ev h1 hn x (p1 (gp d i)) hx w.1
    obtain ⟨y', ey, wy, y1, y2⟩ := least_ev h1 hn y (p2 (gp d i)) hy w.2
    obtain ⟨u', eu, wu, u1, u2⟩ := greatest_ev h1 hn u (p1 (gp d i)) hu w.1
    obtain ⟨v', ev, wv, v1, v2⟩ := greatest_ev h1 hn v (p2 (gp d i)) hv w.2
    obtain ⟨lo, hi', e, w1, w2, b⟩ := ih x' y' u' v' wx wy wu wv (by
      intro p hp
      rw [take_succ' d i hi, ← List.cons_append, List.mem_append] at hp
      rcases hp with hp | hp
      · have := hb p hp
        exact ⟨⟨Rat.le_trans x1 this.1.1, Rat.le_trans this.1.2 u1⟩, ⟨Rat.le_trans y1 this.2.1, Rat.le_trans this.2.2 v1⟩⟩
      · rw [List.mem_singleton, ← gp_get d hi] at hp
        subst hp
        exact ⟨⟨x2, u2⟩, ⟨y2, v2⟩⟩)
    refine ⟨lo, hi', ?_, w1, w2, b⟩
    refine Ev.step ?_
    simp only [curve_Box.l0]
    rw [wadd1 (by omega), gp_gd]
    exact Ev.ct (dlt hi) (Ev.ct (inbN hi) (Ev.bind ex (Ev.bind ey (Ev.bind eu (Ev.bind ev e)))))
end
/-- Between two numbers. -/
theorem lerp_mem {lo hi a b t : Rat} (ha : lo ≤ a ∧ a ≤ hi) (hb : lo ≤ b ∧ b ≤ hi) (h0 : 0 ≤ t) (h1 : t ≤ 1) : lo ≤ a + (b - a) * t ∧ a + (b - a) * t ≤ hi := by
  have u0 : 0 ≤ 1 - t := by grind
  have m1 := Rat.mul_nonneg (show 0 ≤ a - lo by grind) u0
  have m2 := Rat.mul_nonneg (show 0 ≤ b - lo by grind) h0
  have m3 := Rat.mul_nonneg (show 0 ≤ hi - a by grind) u0
  have m4 := Rat.mul_nonneg (show 0 ≤ hi - b by grind) h0
  constructor <;> grind
theorem at_box (c : List PT) (q : Rat) (h2 : 2 ≤ c.length) (h4 : c.length ≤ 4) (h0 : 0 ≤ q) (h1 : q ≤ 1) {lx hx ly hy : Rat} (h : ∀ p ∈ c, (lx ≤ px p ∧ px p ≤ hx) ∧ (ly ≤ py p ∧ py p ≤ hy)) :
    (lx ≤ px (atP c q) ∧ px (atP c q) ≤ hx) ∧ (ly ≤ py (atP c q) ∧ py (atP c q) ≤ hy) := by
  have key : ∀ a b : PT, ((lx ≤ px a ∧ px a ≤ hx) ∧ (ly ≤ py a ∧ py a ≤ hy)) → ((lx ≤ px b ∧ px b ≤ hx) ∧ (ly ≤ py b ∧ py b ≤ hy)) → (lx ≤ px (onP a b q) ∧ px (onP a b q) ≤ hx) ∧ (ly ≤ py (onP a b q) ∧ py (onP a b q) ≤ hy) := fun a b ha hb => by
    rw [px_on, py_on]
    exact ⟨lerp_mem ha.1 hb.1 h0 h1, lerp_mem ha.2 hb.2 h0 h1⟩
  rcases len234 h2 h4 with ⟨a, b, rfl⟩ | ⟨a, b, d, rfl⟩ | ⟨a, b, d, e, rfl⟩
  · exact key _ _ (h a (by simp)) (h b (by simp))
  · exact key _ _ (key _ _ (h a (by simp)) (h b (by simp))) (key _ _ (h b (by simp)) (h d (by simp)))
  · exact key _ _ (key _ _ (key _ _ (h a (by simp)) (h b (by simp))) (key _ _ (h b (by simp)) (h d (by simp)))) (key _ _ (key _ _ (h b (by simp)) (h d (by simp))) (key _ _ (h d (by simp)) (h e (by simp))))
end Go.Gm
