/- Curves: the program's and the reference's points. -/
import Derived.Test.YtgofapkelhccgaaM8g
import Derived.Test.YtgofapkelhccgaaML
import Derived.Test.YtgofapkelhccgaaDQ
import Derived.Test.YtgofapkelhccgaaDQ
set_option linter.unusedVariables false
set_option linter.unusedSimpArgs false
namespace Go.Gm
open Go.Pi

/-- The point that divides the way from a to b at q. -/
def onP (a b : PT) (q : Rat) : PT := nfP (onQ (px a) (py a) (px b) (py b) q).1 (onQ (px a) (py a) (px b) (py b) q).2
def normP (p : PT) : PT := nfP (px p) (py p)
theorem px_on (a b : PT) (q : Rat) : px (onP a b q) = px a + (px b - px a) * q := px_nf _ _
theorem py_on (a b : PT) (q : Rat) : py (onP a b q) = py a + (py b - py a) * q := py_nf _ _
theorem px_norm (p : PT) : px (normP p) = px p := px_nf _ _
theorem py_norm (p : PT) : py (normP p) = py p := py_nf _ _
theorem norm_on (a b : PT) (q : Rat) : normP (onP a b q) = onP a b q := by unfold normP; rw [px_on, py_on]; rfl
theorem norm_norm (p : PT) : normP (normP p) = normP p := by unfold normP; rw [px_nf, py_nf]
theorem on_norm (a b : PT) (q : Rat) : onP (normP a) (normP b) q = onP a b q := by unfold onP; rw [px_norm, py_norm, px_norm, py_norm]
theorem WP_onP {n : Nat} (h1 : 1 ≤ n) {a b : PT} {q : Rat} (ha : WP n a) (hb : WP n b) (hq : RS n q) : WP (4 * n + 2) (onP a b q) := WP_on h1 ha hb hq
theorem WP_norm {n : Nat} (h1 : 1 ≤ n) {p : PT} (h : WP n p) : WP n (normP p) := WP_nf (h.x h1) (h.y h1)
def gp (c : List PT) (i : Nat) : PT := c.getD i zeroP
theorem gp_gd (c : List PT) (i : Nat) : gd (false, [], [], false, [], []) c (i : Int) = gp c i := by unfold gd gp; rw [Int.toNat_natCast]; rfl
theorem gp_get (c : List PT) {i : Nat} (h : i < c.length) : gp c i = c[i] := by unfold gp; simp [List.getD, List.getElem?_eq_getElem h]
def WPL (n : Nat) (c : List PT) : Prop := ∀ p ∈ c, WP n p
theorem WPL.gp {n : Nat} {c : List PT} (h : WPL n c) {i : Nat} (hi : i < c.length) : WP n (gp c i) := by rw [gp_get c hi]; exact h _ (List.getElem_mem hi)
theorem WPL.mono {m n : Nat} {c : List PT} (h : WPL m c) (hl : m ≤ n) : WPL n c := fun p hp => (h p hp).mono hl
def divP (c : List PT) (q : Rat) : List PT := (List.range (c.length - 1)).map fun i => onP (gp c i) (gp c (i + 1)) q
theorem divP_len (c : List PT) (q : Rat) : (divP c q).length = c.length - 1 := by unfold divP; simp
theorem WPL_div {n : Nat} (h1 : 1 ≤ n) {c : List PT} {q : Rat} (hc : WPL n c) (hq : RS n q) : WPL (4 * n + 2) (divP c q) := by
  intro p hp
  unfold divP at hp
  obtain ⟨i, hi, rfl⟩ := List.mem_map.1 hp
  have := List.mem_range.1 hi
  exact WP_onP h1 (hc.gp (by omega)) (hc.gp (by omega)) hq
theorem t_eta (t : RT) : (t.1, t.2.1, t.2.2) = t := rfl
section
variable {n : Nat} (h1 : 1 ≤ n) (hn : n ≤ 10000) (c : List PT) (t : RT) (hc : WPL n c) (ht : WQ n t) (hl : c.length ≤ 1000)
include h1 hn hc ht hl
theorem divide1_ev (h0 : 1 ≤ c.length) : Ev (fun k => curve_divide.f k c t) (divP c (qv t)) := by
  unfold curve_divide.f
  rw [show IntKind.i64.wrap ((c.length : Int) - 1) = ((c.length - 1 : Nat) : Int) from wsub (j := 1) h0 (by omega)]
  refine Ev.ct (by rw [decide_eq_true (by omega), decide_eq_true (by omega)]; rfl) ?_
  refine down (Q := fun i => Ev (fun k => curve_divide.l0 k c ((i + 1 : Nat) : Int) t.1 t.2.1 t.2.2 ((List.range i).map fun i => onP (gp c i) (gp c (i + 1)) (qv t))) (divP c (qv t))) (n := c.length - 1) ?_ ?_
  · refine Ev.step ?_
    simp only [curve_divide.l0]
    exact Ev.cf (decide_eq_false (by omega)) (Ev.pure _)
  · intro i hi q
    refine Ev.step ?_
    simp only [curve_divide.l0]
    rw [wadd1 (by omega), show IntKind.i64.wrap (((i + 1 : Nat) : Int) - 1) = ((i + 1 - 1 : Nat) : Int) from wsub (j := 1) (by omega) (by omega), Nat.add_sub_cancel, gp_gd, gp_gd, t_eta]
    refine Ev.ct (dlt (by omega)) (Ev.ct (inbN (by omega)) (Ev.ct (inbN (by omega)) (Ev.bind (POn1_ev h1 hn _ _ t (hc.gp (by omega)) (hc.gp (by omega)) ht) (Ev.ct (fits_ok ?_) ?_))))
    · simp; omega
    · rw [map_range_succ] at q
      exact q
theorem divide2_ev : Ev (fun k => ref09_divide.f k c t) (divP c (qv t)) := by
  unfold ref09_divide.f
  refine down (Q := fun i => Ev (fun k => ref09_divide.l0 k c (i : Int) t.1 t.2.1 t.2.2 ((List.range i).map fun i => onP (gp c i) (gp c (i + 1)) (qv t))) (divP c (qv t))) (n := c.length - 1) ?_ ?_
  · refine Ev.step ?_
    simp only [ref09_divide.l0]
    rw [wadd1 (by omega)]
    exact Ev.cf (decide_eq_false (by omega)) (Ev.pure _)
  · intro i hi q
    refine Ev.step ?_
    simp only [ref09_divide.l0]
    rw [wadd1 (by omega), gp_gd, gp_gd, t_eta]
    refine Ev.ct (dlt (by omega)) (Ev.ct (inbN (by omega)) (Ev.ct (inbN (by omega)) (Ev.bind (POn2_ev h1 hn _ _ t (hc.gp (by omega)) (hc.gp (by omega)) ht) (Ev.ct (fits_ok ?_) ?_))))
    · simp; omega
    · rw [map_range_succ] at q
      exact q
end
/-- The point of a curve. -/
def atP (c : List PT) (q : Rat) : PT := match c with
  | [a, b] => onP a b q
  | [a, b, c] => onP (onP a b q) (onP b c q) q
  | [a, b, c, d] => onP (onP (onP a b q) (onP b c q) q) (onP (onP b c q) (onP c d q) q) q
  | _ => zeroP
theorem valid1_eq (c : List PT) : curve_valid.f c = some (decide (2 ≤ c.length ∧ c.length ≤ 4)) := by
  unfold curve_valid.f
  by_cases h : 2 ≤ c.length
  · rw [decide_eq_true (show (c.length : Int) ≥ 2 by omega), condT]; congr 1; rw [Bool.eq_iff_iff, decide_eq_true_iff, decide_eq_true_iff]; omega
  · rw [decide_eq_false (show ¬ (c.length : Int) ≥ 2 by omega), condF]; congr 1; exact (decide_eq_false (by omega)).symm
theorem valid2_eq (c : List PT) : ref09_valid.f c = some (decide (2 ≤ c.length ∧ c.length ≤ 4)) := valid1_eq c
theorem len234 {c : List PT} (h2 : 2 ≤ c.length) (h4 : c.length ≤ 4) : (∃ a b, c = [a, b]) ∨ (∃ a b d, c = [a, b, d]) ∨ ∃ a b d e, c = [a, b, d, e] := by
  match c, h2, h4 with
  | [a, b], _, _ => exact .inl ⟨a, b, rfl⟩
  | [a, b, d], _, _ => exact .inr (.inl ⟨a, b, d, rfl⟩)
  | [a, b, d, e], _, _ => exact .inr (.inr ⟨a, b, d, e, rfl⟩)
theorem WPL_two {n : Nat} {a b : PT} : WPL n [a, b] ↔ WP n a ∧ WP n b := by unfold WPL; simp
theorem WPL_three {n : Nat} {a b c : PT} : WPL n [a, b, c] ↔ WP n a ∧ WP n b ∧ WP n c := by unfold WPL; simp
theorem WPL_four {n : Nat} {a b c d : PT} : WPL n [a, b, c, d] ↔ WP n a ∧ WP n b ∧ WP n c ∧ WP n d := by unfold WPL; simp
theorem WP_at {n : Nat} (h1 : 1 ≤ n) {c : List PT} {q : Rat} (h2 : 2 ≤ c.length) (h4 : c.length ≤ 4) (hc : WPL n c) (hq : RS n q) : WP (64 * n + 42) (atP c q) := by
  rcases len234 h2 h4 with ⟨a, b, rfl⟩ | ⟨a, b, d, rfl⟩ | ⟨a, b, d, e, rfl⟩
  · have := WPL_two.1 hc
    exact (WP_onP h1 this.1 this.2 hq).mono (by omega)
  · have := WPL_three.1 hc
    have q1 := hq.mono (show n ≤ 4 * n + 2 by omega)
    exact (WP_onP (by omega) (WP_onP h1 this.1 this.2.1 hq) (WP_onP h1 this.2.1 this.2.2 hq) q1).mono (by omega)
  · have := WPL_four.1 hc
    have q1 := hq.mono (show n ≤ 4 * n + 2 by omega)
    have q2 := hq.mono (show n ≤ 4 * (4 * n + 2) + 2 by omega)
    have w1 := WP_onP h1 this.1 this.2.1 hq
    have w2 := WP_onP h1 this.2.1 this.2.2.1 hq
    have w3 := WP_onP h1 this.2.2.1 this.2.2.2 hq
    exact (WP_onP (by omega) (WP_onP (by omega) w1 w2 q1) (WP_onP (by omega) w2 w3 q1) q2).mono (by omega)
theorem norm_at {c : List PT} (q : Rat) (h2 : 2 ≤ c.length) (h4 : c.length ≤ 4) : normP (atP c q) = atP c q := by
  rcases len234 h2 h4 with ⟨a, b, rfl⟩ | ⟨a, b, d, rfl⟩ | ⟨a, b, d, e, rfl⟩ <;> exact norm_on _ _ _
theorem at_norm {c : List PT} (q : Rat) (h2 : 2 ≤ c.length) (h4 : c.length ≤ 4) : atP (c.map normP) q = atP c q := by
  rcases len234 h2 h4 with ⟨a, b, rfl⟩ | ⟨a, b, d, rfl⟩ | ⟨a, b, d, e, rfl⟩ <;> simp [atP, on_norm]
section
variable {n : Nat} (h1 : 1 ≤ n) (hn : n ≤ 600) (c : List PT) (t : RT) (h2 : 2 ≤ c.length) (h4 : c.length ≤ 4) (hc : WPL n c) (ht : WQ n t)
include h1 hn hc ht h2 h4
theorem At1_l0 (b1 b2 : Bool) : Ev (fun k => curve_At.l0 k c t.1 t.2.1 t.2.2 b1 b2) (atP c (qv t), 0) := by
  have rq := qv_RS h1 ht
  have step : ∀ {m : Nat} (d : List PT), 1 ≤ m → m ≤ 10000 → WPL m d → n ≤ m → 1 < d.length → d.length ≤ 4 → Ev (fun k => curve_At.l0 k (divP d (qv t)) t.1 t.2.1 t.2.2 b1 b2) (atP c (qv t), 0) → Ev (fun k => curve_At.l0 k d t.1 t.2.1 t.2.2 b1 b2) (atP c (qv t), 0) := by
    intro m d hm hm' hd hnm hl hl' h
    refine Ev.step ?_
    simp only [curve_At.l0]
    rw [t_eta]
    exact Ev.ct (decide_eq_true (by omega)) (Ev.bind (divide1_ev hm hm' d t hd (ht.mono hnm) (by omega) (by omega)) h)
  have fin : ∀ p, p = atP c (qv t) → Ev (fun k => curve_At.l0 k [p] t.1 t.2.1 t.2.2 b1 b2) (atP c (qv t), 0) := by
    intro p hp
    refine Ev.step ?_
    simp only [curve_At.l0]
    exact Ev.cf rfl (Ev.ct rfl (Ev.some (by rw [← hp]; rfl)))
  have w1 := WPL_div h1 hc rq
  have w2 := WPL_div (n := 4 * n + 2) (by omega) w1 (rq.mono (by omega))
  rcases len234 h2 h4 with ⟨a, b, rfl⟩ | ⟨a, b, d, rfl⟩ | ⟨a, b, d, e, rfl⟩
  · exact step _ h1 (by omega) hc (Nat.le_refl _) (by simp) (by simp) (fin _ rfl)
  · exact step _ h1 (by omega) hc (Nat.le_refl _) (by simp) (by simp) (step _ (by omega) (by omega) w1 (by omega) (by rw [divP_len]; simp) (by rw [divP_len]; simp) (fin _ rfl))
  · exact step _ h1 (by omega) hc (Nat.le_refl _) (by simp) (by simp) (step _ (by omega) (by omega) w1 (by omega) (by rw [divP_len]; simp) (by rw [divP_len]; simp) (step _ (by omega) (by omega) w2 (by omega) (by rw [divP_len, divP_len]; simp) (by rw [divP_len, divP_len]; simp) (fin _ rfl)))
theorem At1_ev : Ev (fun k => curve_At.f k c t) (atP c (qv t), 0) := by
  unfold curve_At.f
  exact Ev.bs (valid1_eq c) (Ev.cf (by rw [decide_eq_true ⟨h2, h4⟩]; rfl) (At1_l0 h1 hn c t h2 h4 hc ht _ _))
theorem At2_l0 (b1 b2 : Bool) : Ev (fun k => ref09_At.l0 k t.1 t.2.1 t.2.2 b1 b2 c) (atP c (qv t), 0) := by
  have rq := qv_RS h1 ht
  have step : ∀ {m : Nat} (d : List PT), 1 ≤ m → m ≤ 10000 → WPL m d → n ≤ m → 1 < d.length → d.length ≤ 4 → Ev (fun k => ref09_At.l0 k t.1 t.2.1 t.2.2 b1 b2 (divP d (qv t))) (atP c (qv t), 0) → Ev (fun k => ref09_At.l0 k t.1 t.2.1 t.2.2 b1 b2 d) (atP c (qv t), 0) := by
    intro m d hm hm' hd hnm hl hl' h
    refine Ev.step ?_
    simp only [ref09_At.l0]
    rw [t_eta]
    exact Ev.ct (decide_eq_true (by omega)) (Ev.bind (divide2_ev hm hm' d t hd (ht.mono hnm) (by omega)) h)
  have fin : ∀ p, p = atP c (qv t) → Ev (fun k => ref09_At.l0 k t.1 t.2.1 t.2.2 b1 b2 [p]) (atP c (qv t), 0) := by
    intro p hp
    refine Ev.step ?_
    simp only [ref09_At.l0]
    exact Ev.cf rfl (Ev.ct rfl (Ev.some (by rw [← hp]; rfl)))
  have w1 := WPL_div h1 hc rq
  have w2 := WPL_div (n := 4 * n + 2) (by omega) w1 (rq.mono (by omega))
  rcases len234 h2 h4 with ⟨a, b, rfl⟩ | ⟨a, b, d, rfl⟩ | ⟨a, b, d, e, rfl⟩
  · exact step _ h1 (by omega) hc (Nat.le_refl _) (by simp) (by simp) (fin _ rfl)
  · exact step _ h1 (by omega) hc (Nat.le_refl _) (by simp) (by simp) (step _ (by omega) (by omega) w1 (by omega) (by rw [divP_len]; simp) (by rw [divP_len]; simp) (fin _ rfl))
  · exact step _ h1 (by omega) hc (Nat.le_refl _) (by simp) (by simp) (step _ (by omega) (by omega) w1 (by omega) (by rw [divP_len]; simp) (by rw [divP_len]; simp) (step _ (by omega) (by omega) w2 (by omega) (by rw [divP_len, divP_len]; simp) (by rw [divP_len, divP_len]; simp) (fin _ rfl)))
end
theorem norm1_ev {n : Nat} (hn : n ≤ 1000000) (p : PT) (h : WP n p) : Ev (fun k => curve_norm.f k p) (normP p) := by
  unfold curve_norm.f
  exact Ev.bind (Norm1Q_ev (p1 p) (h.1.mono (by omega))) (Ev.bind (Norm1Q_ev (p2 p) (h.2.mono (by omega))) (Ev.pure _))
theorem norm2_ev {n : Nat} (hn : n ≤ 1000000) (c : List PT) (h : WPL n c) (hl : c.length ≤ 1000) : Ev (fun k => ref09_norm.f k c) (c.map normP) := by
  unfold ref09_norm.f
  refine down (Q := fun i => Ev (fun k => ref09_norm.l0 k c (i : Int) ((c.take i).map normP)) (c.map normP)) (n := c.length) ?_ ?_
  · refine Ev.step ?_
    simp only [ref09_norm.l0]
    exact Ev.cf dge (Ev.some (by rw [List.take_length]))
  · intro i hi q
    refine Ev.step ?_
    simp only [ref09_norm.l0]
    rw [wadd1 (by omega), gp_gd]
    have w := h.gp hi
    refine Ev.ct (dlt hi) (Ev.ct (inbN hi) (Ev.bind (Norm2Q_ev (p1 (gp c i)) (w.1.mono (by omega))) (Ev.ct (inbN hi) (Ev.bind (Norm2Q_ev (p2 (gp c i)) (w.2.mono (by omega))) (Ev.ct (fits_ok ?_) ?_)))))
    · simp; omega
    · rw [take_succ' c i hi, List.map_append, ← gp_get c hi] at q
      exact q
section
variable {n : Nat} (h1 : 1 ≤ n) (hn : n ≤ 600) (c : List PT) (t : RT) (hc : WPL n c) (ht : WQ n t)
include h1 hn hc ht
theorem At2_ev (h2 : 2 ≤ c.length) (h4 : c.length ≤ 4) : Ev (fun k => ref09_At.f k c t) (atP c (qv t), 0) := by
  unfold ref09_At.f
  refine Ev.bs (valid2_eq c) (Ev.cf (by rw [decide_eq_true ⟨h2, h4⟩]; rfl) (Ev.bind (norm2_ev (by omega) c hc (by omega)) ?_))
  have hm : WPL n (c.map normP) := fun p hp => by obtain ⟨q, hq, rfl⟩ := List.mem_map.1 hp; exact WP_norm h1 (hc q hq)
  have := At2_l0 h1 hn (c.map normP) t (by simpa using h2) (by simpa using h4) hm ht false false
  rw [at_norm _ h2 h4] at this
  exact this
end
/-- The points of a curve at n + 1 steps, and the error. -/
def flatD (c : List PT) (n : Int) : List PT × Int := if 2 ≤ c.length ∧ c.length ≤ 4 then (if n < 1 then ([], 3) else if n > 39 then ([], 3) else ((List.range (n.toNat + 1)).map fun i => atP c (((i : Nat) : Int) / (n : Rat)), 0)) else ([], 1)
theorem RS_ratio {a b : Int} (ha0 : -9223372036854775808 ≤ a) (ha1 : a ≤ 9223372036854775807) (hb0 : -9223372036854775808 ≤ b) (hb1 : b ≤ 9223372036854775807) : RS 4 ((a : Rat) / (b : Rat)) := RS.div (RS_i64 ha0 ha1) (RS_i64 hb0 hb1)
theorem Flat1_ev {n : Nat} (h1 : 4 ≤ n) (hn : n ≤ 600) (c : List PT) (hc : WPL n c) (m : Int) : Ev (fun k => curve_Flatten.f k c m) (flatD c m) := by
  unfold curve_Flatten.f flatD
  refine Ev.bs (valid1_eq c) ?_
  by_cases hv : 2 ≤ c.length ∧ c.length ≤ 4
  · rw [if_pos hv]
    refine Ev.cf (by rw [decide_eq_true hv]; rfl) ?_
    refine Ev.cd (fun h => ?_) fun h => ?_
    · rw [if_pos h]; exact Ev.pure _
    rw [if_neg h]
    refine Ev.cd (fun h' => ?_) fun h' => ?_
    · rw [if_pos h']; exact Ev.pure _
    rw [if_neg h']
    obtain ⟨m, rfl⟩ := Int.eq_ofNat_of_zero_le (show 0 ≤ m by omega)
    rw [Int.toNat_natCast, wadd1 (by omega)]
    refine down (Q := fun i => Ev (fun k => curve_Flatten.l0 k c (m : Int) ((m + 1 : Nat) : Int) (i : Int) ((List.range i).map fun i => atP c (((i : Nat) : Int) / ((m : Int) : Rat)))) _) (n := m + 1) ?_ ?_
    · refine Ev.step ?_
      simp only [curve_Flatten.l0]
      exact Ev.cf dge (Ev.pure _)
    · intro i hi q
      refine Ev.step ?_
      simp only [curve_Flatten.l0]
      rw [wadd1 (by omega)]
      have rq : RS n (((i : Nat) : Int) / ((m : Int) : Rat)) := (RS_ratio (by omega) (by omega) (by omega) (by omega)).mono h1
      have a := At1_ev (by omega) hn c (nfQ (((i : Nat) : Int) / ((m : Int) : Rat))) hv.1 hv.2 hc (WQ_nf rq)
      rw [qv_nfQ] at a
      have w := WP_at (by omega) hv.1 hv.2 hc rq
      have nn := norm1_ev (by omega) _ w
      rw [norm_at _ hv.1 hv.2] at nn
      refine Ev.ct (dlt hi) (Ev.bind (Of1Q_ev (i : Int) (m : Int) (by omega) (by omega) (by omega) (by omega) (by omega)) (Ev.bind a (Ev.bind nn (Ev.ct (fits_ok ?_) ?_))))
      · simp; omega
      · rw [map_range_succ] at q
        exact q
  · rw [if_neg hv]
    exact Ev.ct (by rw [decide_eq_false hv]; rfl) (Ev.pure _)
theorem Flat2_ev {n : Nat} (h1 : 4 ≤ n) (hn : n ≤ 600) (c : List PT) (hc : WPL n c) (m : Int) : Ev (fun k => ref09_Flatten.f k c m) (flatD c m) := by
  unfold ref09_Flatten.f flatD
  refine Ev.bs (valid2_eq c) ?_
  by_cases hv : 2 ≤ c.length ∧ c.length ≤ 4
  · rw [if_pos hv]
    refine Ev.cf (by rw [decide_eq_true hv]; rfl) ?_
    refine Ev.cd (fun h => ?_) fun h => ?_
    · rw [if_pos h]; exact Ev.pure _
    rw [if_neg h]
    refine Ev.cd (fun h' => ?_) fun h' => ?_
    · rw [if_pos h']; exact Ev.pure _
    rw [if_neg h']
    obtain ⟨m, rfl⟩ := Int.eq_ofNat_of_zero_le (show 0 ≤ m by omega)
    rw [Int.toNat_natCast]
    refine down (Q := fun i => Ev (fun k => ref09_Flatten.l0 k c (m : Int) (i : Int) ((List.range i).map fun i => atP c (((i : Nat) : Int) / ((m : Int) : Rat)))) _) (n := m + 1) ?_ ?_
    · refine Ev.step ?_
      simp only [ref09_Flatten.l0]
      exact Ev.cf (decide_eq_false (by omega)) (Ev.pure _)
    · intro i hi q
      refine Ev.step ?_
      simp only [ref09_Flatten.l0]
      rw [wadd1 (by omega)]
      have rq : RS n (((i : Nat) : Int) / ((m : Int) : Rat)) := (RS_ratio (by omega) (by omega) (by omega) (by omega)).mono h1
      have a := At2_ev (by omega) hn c (nfQ (((i : Nat) : Int) / ((m : Int) : Rat))) hc (WQ_nf rq) hv.1 hv.2
      rw [qv_nfQ] at a
      refine Ev.ct (decide_eq_true (by omega)) (Ev.bind (Of2Q_ev (i : Int) (m : Int) (by omega) (by omega) (by omega) (by omega) (by omega)) (Ev.bind a (Ev.ct (fits_ok ?_) ?_)))
      · simp; omega
      · rw [map_range_succ] at q
        exact q
  · rw [if_neg hv]
    exact Ev.ct (by rw [decide_eq_false hv]; rfl) (Ev.pure _)
/-- Lists of points, compared with themselves. -/
theorem SameL_refl {n : Nat} (hn : n ≤ 10000000) (c : List PT) (h : WPL n c) (hl : c.length ≤ 100000000) : Ev (fun k => ref09_Same.f k c c) true := by
  unfold ref09_Same.f
  refine Ev.cf (by simp) ?_
  refine down (Q := fun i => Ev (fun k => ref09_Same.l0 k c c (i : Int)) true) (n := c.length) ?_ ?_
  · refine Ev.step ?_
    simp only [ref09_Same.l0]
    exact Ev.cf dge (Ev.pure _)
  · intro i hi q
    refine Ev.step ?_
    simp only [ref09_Same.l0]
    rw [wadd1 (by omega), gp_gd]
    have w := h.gp hi
    exact Ev.ct (dlt hi) (Ev.ct (inbN hi) (Ev.ct (inbN hi) (Ev.bind (Same_refl hn (p1 (gp c i)) w.1) (Ev.cf rfl (Ev.ct (inbN hi) (Ev.ct (inbN hi) (Ev.bind (Same_refl hn (p2 (gp c i)) w.2) (Ev.cf rfl q))))))))
def lightL (n : Nat) (c : List PT) : Prop := ∀ p ∈ c, fewB n (p1 p) = true ∧ fewB n (p2 p) = true
open Classical in
theorem LightL_ev (c : List PT) (m n : Nat) (hl : c.length ≤ 100000000 ∨ m ≤ 1000) : Ev (fun k => ref09_Light.f k c (m : Int) (n : Int)) (decide (c.length ≤ m ∧ lightL n c)) := by
  unfold ref09_Light.f
  by_cases hm : c.length ≤ m
  · refine Ev.cf (decide_eq_false (by omega)) ?_
    refine search (Q := fun i => Ev (fun k => ref09_Light.l0 k c (n : Int) (i : Int)) _) (bad := fun i => ¬ (fewB n (p1 (gp c i)) = true ∧ fewB n (p2 (gp c i)) = true)) (n := c.length) (fun hn => ?_) (fun i hi _ hb => ?_) (fun i hi _ hb q => ?_)
    · have : c.length ≤ m ∧ lightL n c := ⟨hm, fun p hp => by
        obtain ⟨i, hi, rfl⟩ := List.getElem_of_mem hp
        have := Classical.not_not.1 (hn i hi)
        rwa [gp_get c hi] at this⟩
      rw [decide_eq_true this]
      refine Ev.step ?_
      simp only [ref09_Light.l0]
      exact Ev.cf dge (Ev.pure _)
    all_goals
      refine Ev.step ?_
      simp only [ref09_Light.l0]
      rw [wadd1 (by omega), gp_gd]
      refine Ev.ct (dlt hi) (Ev.ct (inbN hi) (Ev.bs (Light_eq (p1 (gp c i)) n) ?_))
    · rw [decide_eq_false (fun h => hb (by have := h.2 _ (List.getElem_mem hi); rwa [gp_get c hi]))]
      refine Ev.cb (fun _ => Ev.pure _) fun c1 => Ev.ct (inbN hi) (Ev.bs (Light_eq (p2 (gp c i)) n) (Ev.ct ?_ (Ev.pure _)))
      have c1' : fewB n (p1 (gp c i)) = true := by cases h : fewB n (p1 (gp c i)) <;> rw [h] at c1 <;> first | rfl | cases c1
      cases h : fewB n (p2 (gp c i))
      · rfl
      · exact absurd ⟨c1', h⟩ hb
    · have hb' := Classical.not_not.1 hb
      exact Ev.cf (by rw [hb'.1]; rfl) (Ev.ct (inbN hi) (Ev.bs (Light_eq (p2 (gp c i)) n) (Ev.cf (by rw [hb'.2]; rfl) q)))
  · rw [decide_eq_false (show ¬ (c.length ≤ m ∧ lightL n c) from fun h => hm h.1)]
    exact Ev.ct (decide_eq_true (by omega)) (Ev.pure _)
theorem WPL_light {n : Nat} {c : List PT} (h : ∀ p ∈ c, LimbsP p) (hs : lightL n c) : WPL n c := fun p hp =>
  ⟨WQ_few (h p hp).1.1 (h p hp).1.2 (hs p hp).1, WQ_few (h p hp).2.1 (h p hp).2.2 (hs p hp).2⟩
end Go.Gm
