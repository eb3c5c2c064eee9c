/- Curves: parts, the opposite order, boxes. -/
import Derived.Test.YtgofapkelhccgaaM9a
set_option linter.unusedVariables false
set_option linter.unusedSimpArgs false
namespace Go.Gm
open Go.Pi

theorem normL_WP {n : Nat} (h1 : 1 ≤ n) {c : List PT} (h : WPL n c) : WPL n (c.map normP) := fun p hp => by
  obtain ⟨q, hq, rfl⟩ := List.mem_map.1 hp; exact WP_norm h1 (h q hq)
/-! the opposite order -/
def revP (c : List PT) : List PT := (c.map normP).reverse
theorem revP_len (c : List PT) : (revP c).length = c.length := by unfold revP; simp
theorem revP_WP {n : Nat} (h1 : 1 ≤ n) {c : List PT} (h : WPL n c) : WPL n (revP c) := fun p hp => normL_WP h1 h p (by unfold revP at hp; simpa using hp)
theorem revP_three (c : List PT) : revP (revP (revP c)) = revP c := by
  unfold revP
  simp [List.map_reverse, norm_norm, Function.comp_def]
theorem Rev1_ev {n : Nat} (hn : n ≤ 1000000) (c : List PT) (hc : WPL n c) (hl : c.length ≤ 1000) : Ev (fun k => curve_Reverse.f k c) (revP c) := by
  unfold curve_Reverse.f
  refine Ev.ct ?_ ?_
  · rw [decide_eq_true (show (0 : Int) ≤ (c.length : Int) by omega), decide_eq_true (Int.le_refl _), decide_eq_true (show (c.length : Int) * 112 ≤ 140737488355328 by omega)]; rfl
  rw [Int.toNat_natCast]
  have hr := revP_len c
  refine Ev.eq (r := List.replicate (c.length - c.length) (false, [], [], false, [], []) ++ (revP c).drop (c.length - c.length)) ?_ (by simp)
  have := down (Q := fun i => Ev (fun k => curve_Reverse.l0 k c c (c.length : Int) (i : Int) (List.replicate (c.length - i) (false, [], [], false, [], []) ++ (revP c).drop (c.length - i))) (List.replicate (c.length - c.length) (false, [], [], false, [], []) ++ (revP c).drop (c.length - c.length))) (n := c.length) ?_ ?_
  · have e0 : (revP c).drop c.length = [] := List.drop_of_length_le (by omega)
    simpa [e0] using this
  · refine Ev.step ?_
    simp only [curve_Reverse.l0]
    exact Ev.cf dge (Ev.pure _)
  · intro i hi q
    refine Ev.step ?_
    simp only [curve_Reverse.l0]
    rw [wadd1 (by omega), gp_gd, show IntKind.i64.wrap ((c.length : Int) - 1) = ((c.length - 1 : Nat) : Int) from wsub (j := 1) (by omega) (by omega), wsub (by omega) (by omega), Int.toNat_natCast]
    refine Ev.ct (dlt hi) (Ev.ct (inbN hi) (Ev.bind (norm1_ev hn _ (hc.gp hi)) (Ev.ct (inbN ?_) ?_)))
    · rw [List.length_append, List.length_replicate, List.length_drop, hr]; omega
    · have e : (List.replicate (c.length - i) ((false, [], [], false, [], []) : PT) ++ (revP c).drop (c.length - i)).set (c.length - 1 - i) (normP (gp c i)) = List.replicate (c.length - (i + 1)) (false, [], [], false, [], []) ++ (revP c).drop (c.length - (i + 1)) := by
        obtain ⟨m, hm⟩ : ∃ m, c.length - i = m + 1 := ⟨c.length - i - 1, by omega⟩
        have hm2 : c.length - (i + 1) = m := by omega
        have hm3 : c.length - 1 - i = m := by omega
        rw [hm, hm2, hm3, List.replicate_succ', List.append_assoc, List.set_append_right _ _ (by simp), List.length_replicate, Nat.sub_self]
        congr 1
        rw [List.drop_eq_getElem_cons (i := m) (by omega)]
        simp only [List.singleton_append, List.set_cons_zero]
        congr 1
        unfold revP
        rw [List.getElem_reverse, List.getElem_map, gp_get c hi]
        congr 2
        simp; omega
      rw [e]
      exact q
/-! parts -/
def splitP (c : List PT) (q : Rat) : List PT × List PT := match c with
  | [a, b] => ([normP a, onP a b q], [onP a b q, normP b])
  | [a, b, c] => ([normP a, onP a b q, onP (onP a b q) (onP b c q) q], [onP (onP a b q) (onP b c q) q, onP b c q, normP c])
  | [a, b, c, d] => ([normP a, onP a b q, onP (onP a b q) (onP b c q) q, onP (onP (onP a b q) (onP b c q) q) (onP (onP b c q) (onP c d q) q) q],
      [onP (onP (onP a b q) (onP b c q) q) (onP (onP b c q) (onP c d q) q) q, onP (onP b c q) (onP c d q) q, onP c d q, normP d])
  | _ => ([], [])
theorem Split1_step {n : Nat} (h1 : 1 ≤ n) (hn : n ≤ 10000) (c : List PT) (t : RT) (hc : WPL n c) (ht : WQ n t) (h0 : 0 < c.length) (hl : c.length ≤ 4) (m i : Nat) (hm : m ≤ 4) (hi : i < m) (left right : List PT) (h2 : left.length = m) (h3 : right.length = m) {r : List PT × List PT × Int}
    (h : Ev (fun k => curve_Split.l0 k (divP c (qv t)) (m : Int) (m : Int) ((i + 1 : Nat) : Int) t.1 t.2.1 t.2.2 (left.set i (normP (gp c 0))) (right.set (m - 1 - i) (normP (gp c (c.length - 1))))) r) :
    Ev (fun k => curve_Split.l0 k c (m : Int) (m : Int) (i : Int) t.1 t.2.1 t.2.2 left right) r := by
  refine Ev.step ?_
  simp only [curve_Split.l0]
  rw [wadd1 (by omega), show IntKind.i64.wrap ((c.length : Int) - 1) = ((c.length - 1 : Nat) : Int) from wsub (j := 1) (by omega) (by omega), show IntKind.i64.wrap ((m : Int) - 1) = ((m - 1 : Nat) : Int) from wsub (j := 1) (by omega) (by omega), wsub (by omega) (by omega), Int.toNat_natCast, Int.toNat_natCast, t_eta, gp_gd, show gd (false, [], [], false, [], []) c (0 : Int) = gp c 0 from gp_gd c 0]
  refine Ev.ct (dlt hi) (Ev.ct (inbN (i := 0) h0) (Ev.bind (norm1_ev (by omega) _ (hc.gp h0)) (Ev.ct (inbN (by omega)) (Ev.bind (norm1_ev (by omega) _ (hc.gp (by omega))) (Ev.ct (inbN (by omega)) (Ev.ct (inbN (by omega)) (Ev.bind (divide1_ev h1 hn c t hc ht (by omega) (by omega)) h)))))))
theorem Split1_fin (c : List PT) (t : RT) (m : Nat) (left right : List PT) : Ev (fun k => curve_Split.l0 k c (m : Int) (m : Int) (m : Int) t.1 t.2.1 t.2.2 left right) (left, right, 0) := by
  refine Ev.step ?_
  simp only [curve_Split.l0]
  exact Ev.cf dge (Ev.pure _)
theorem Split1_ev {n : Nat} (h1 : 1 ≤ n) (hn : n ≤ 100) (c : List PT) (t : RT) (h2 : 2 ≤ c.length) (h4 : c.length ≤ 4) (hc : WPL n c) (ht : WQ n t) : Ev (fun k => curve_Split.f k c t) ((splitP c (qv t)).1, (splitP c (qv t)).2, 0) := by
  have rq := qv_RS h1 ht
  have w1 := WPL_div h1 hc rq
  have w2 := WPL_div (n := 4 * n + 2) (by omega) w1 (rq.mono (by omega))
  have w3 := WPL_div (n := 4 * (4 * n + 2) + 2) (by omega) w2 (rq.mono (by omega))
  unfold curve_Split.f
  refine Ev.bs (valid1_eq c) (Ev.cf (by rw [decide_eq_true ⟨h2, h4⟩]; rfl) ?_)
  have g : ((decide ((0 : Int) ≤ (c.length : Int))) && ((decide ((c.length : Int) ≤ (c.length : Int))) && (decide ((c.length : Int) * 112 ≤ 140737488355328)))) = true := by
    rw [decide_eq_true (show (0 : Int) ≤ (c.length : Int) by omega), decide_eq_true (Int.le_refl _), decide_eq_true (show (c.length : Int) * 112 ≤ 140737488355328 by omega)]; rfl
  refine Ev.ct g (Ev.ct g ?_)
  rw [Int.toNat_natCast]
  rcases len234 h2 h4 with ⟨a, b, rfl⟩ | ⟨a, b, d, rfl⟩ | ⟨a, b, d, e, rfl⟩
  · refine Split1_step h1 (by omega) _ t hc ht (by simp) (by simp) 2 0 (by omega) (by omega) _ _ rfl rfl ?_
    refine Split1_step (n := 4 * n + 2) (by omega) (by omega) _ t w1 (ht.mono (by omega)) (by rw [divP_len]; simp) (by rw [divP_len]; simp) 2 1 (by omega) (by omega) _ _ rfl rfl ?_
    refine Ev.eq (Split1_fin _ t 2 _ _) ?_
    show ([normP a, normP (onP a b (qv t))], [normP (onP a b (qv t)), normP b], (0 : Int)) = _
    rw [norm_on]; rfl
  · refine Split1_step h1 (by omega) _ t hc ht (by simp) (by simp) 3 0 (by omega) (by omega) _ _ rfl rfl ?_
    refine Split1_step (n := 4 * n + 2) (by omega) (by omega) _ t w1 (ht.mono (by omega)) (by rw [divP_len]; simp) (by rw [divP_len]; simp) 3 1 (by omega) (by omega) _ _ rfl rfl ?_
    refine Split1_step (n := 4 * (4 * n + 2) + 2) (by omega) (by omega) _ t w2 (ht.mono (by omega)) (by rw [divP_len, divP_len]; simp) (by rw [divP_len, divP_len]; simp) 3 2 (by omega) (by omega) _ _ rfl rfl ?_
    refine Ev.eq (Split1_fin _ t 3 _ _) ?_
    show ([normP a, normP (onP a b (qv t)), normP (onP (onP a b (qv t)) (onP b d (qv t)) (qv t))], [normP (onP (onP a b (qv t)) (onP b d (qv t)) (qv t)), normP (onP b d (qv t)), normP d], (0 : Int)) = _
    simp only [norm_on]; rfl
  · refine Split1_step h1 (by omega) _ t hc ht (by simp) (by simp) 4 0 (by omega) (by omega) _ _ rfl rfl ?_
    refine Split1_step (n := 4 * n + 2) (by omega) (by omega) _ t w1 (ht.mono (by omega)) (by rw [divP_len]; simp) (by rw [divP_len]; simp) 4 1 (by omega) (by omega) _ _ rfl rfl ?_
    refine Split1_step (n := 4 * (4 * n + 2) + 2) (by omega) (by omega) _ t w2 (ht.mono (by omega)) (by rw [divP_len, divP_len]; simp) (by rw [divP_len, divP_len]; simp) 4 2 (by omega) (by omega) _ _ rfl rfl ?_
    refine Split1_step (n := 4 * (4 * (4 * n + 2) + 2) + 2) (by omega) (by omega) _ t w3 (ht.mono (by omega)) (by rw [divP_len, divP_len, divP_len]; simp) (by rw [divP_len, divP_len, divP_len]; simp) 4 3 (by omega) (by omega) _ _ rfl rfl ?_
    refine Ev.eq (Split1_fin _ t 4 _ _) ?_
    show ([normP a, normP (onP a b (qv t)), normP (onP (onP a b (qv t)) (onP b d (qv t)) (qv t)), normP (onP (onP (onP a b (qv t)) (onP b d (qv t)) (qv t)) (onP (onP b d (qv t)) (onP d e (qv t)) (qv t)) (qv t))], [normP (onP (onP (onP a b (qv t)) (onP b d (qv t)) (qv t)) (onP (onP b d (qv t)) (onP d e (qv t)) (qv t)) (qv t)), normP (onP (onP b d (qv t)) (onP d e (qv t)) (qv t)), normP (onP d e (qv t)), normP e], (0 : Int)) = _
    simp only [norm_on]; rfl
theorem split_len (c : List PT) (q : Rat) (h2 : 2 ≤ c.length) (h4 : c.length ≤ 4) : (splitP c q).1.length = c.length ∧ (splitP c q).2.length = c.length := by
  rcases len234 h2 h4 with ⟨a, b, rfl⟩ | ⟨a, b, d, rfl⟩ | ⟨a, b, d, e, rfl⟩ <;> exact ⟨rfl, rfl⟩
theorem split_WP {n : Nat} (h1 : 1 ≤ n) {c : List PT} {q : Rat} (h2 : 2 ≤ c.length) (h4 : c.length ≤ 4) (hc : WPL n c) (hq : RS n q) : WPL (64 * n + 42) (splitP c q).1 ∧ WPL (64 * n + 42) (splitP c q).2 := by
  have q1 := hq.mono (show n ≤ 4 * n + 2 by omega)
  have q2 := hq.mono (show n ≤ 4 * (4 * n + 2) + 2 by omega)
  rcases len234 h2 h4 with ⟨a, b, rfl⟩ | ⟨a, b, d, rfl⟩ | ⟨a, b, d, e, rfl⟩
  · obtain ⟨ha, hb⟩ := WPL_two.1 hc
    have w1 := WP_onP h1 ha hb hq
    exact ⟨WPL_two.2 ⟨(WP_norm h1 ha).mono (by omega), w1.mono (by omega)⟩, WPL_two.2 ⟨w1.mono (by omega), (WP_norm h1 hb).mono (by omega)⟩⟩
  · obtain ⟨ha, hb, hd⟩ := WPL_three.1 hc
    have w1 := WP_onP h1 ha hb hq
    have w2 := WP_onP h1 hb hd hq
    have w3 := WP_onP (by omega) w1 w2 q1
    exact ⟨WPL_three.2 ⟨(WP_norm h1 ha).mono (by omega), w1.mono (by omega), w3.mono (by omega)⟩, WPL_three.2 ⟨w3.mono (by omega), w2.mono (by omega), (WP_norm h1 hd).mono (by omega)⟩⟩
  · obtain ⟨ha, hb, hd, he⟩ := WPL_four.1 hc
    have w1 := WP_onP h1 ha hb hq
    have w2 := WP_onP h1 hb hd hq
    have w3 := WP_onP h1 hd he hq
    have v1 := WP_onP (by omega) w1 w2 q1
    have v2 := WP_onP (by omega) w2 w3 q1
    have u := WP_onP (by omega) v1 v2 q2
    exact ⟨WPL_four.2 ⟨(WP_norm h1 ha).mono (by omega), w1.mono (by omega), v1.mono (by omega), u.mono (by omega)⟩, WPL_four.2 ⟨u.mono (by omega), v2.mono (by omega), w3.mono (by omega), (WP_norm h1 he).mono (by omega)⟩⟩
theorem nfP_congr {a b c d : Rat} (h1 : a = c) (h2 : b = d) : nfP a b = nfP c d := by rw [h1, h2]
/-- The parts of a curve are parts of it. -/
theorem at_left (c : List PT) (t u : Rat) (h2 : 2 ≤ c.length) (h4 : c.length ≤ 4) : atP (splitP c t).1 u = atP c (t * u) := by
  rcases len234 h2 h4 with ⟨a, b, rfl⟩ | ⟨a, b, d, rfl⟩ | ⟨a, b, d, e, rfl⟩
  all_goals
    simp only [splitP, atP]
    apply nfP_congr <;> simp only [onQ, px_on, py_on, px_norm, py_norm] <;> grind
theorem at_right (c : List PT) (t u : Rat) (h2 : 2 ≤ c.length) (h4 : c.length ≤ 4) : atP (splitP c t).2 u = atP c (t + (1 - t) * u) := by
  rcases len234 h2 h4 with ⟨a, b, rfl⟩ | ⟨a, b, d, rfl⟩ | ⟨a, b, d, e, rfl⟩
  all_goals
    simp only [splitP, atP]
    apply nfP_congr <;> simp only [onQ, px_on, py_on, px_norm, py_norm] <;> grind
theorem split_ends (c : List PT) (t : Rat) (h2 : 2 ≤ c.length) (h4 : c.length ≤ 4) : gp (splitP c t).1 (c.length - 1) = atP c t ∧ gp (splitP c t).2 0 = atP c t := by
  rcases len234 h2 h4 with ⟨a, b, rfl⟩ | ⟨a, b, d, rfl⟩ | ⟨a, b, d, e, rfl⟩ <;> exact ⟨rfl, rfl⟩
theorem at_zero (c : List PT) (h2 : 2 ≤ c.length) (h4 : c.length ≤ 4) : atP c 0 = normP (gp c 0) := by
  rcases len234 h2 h4 with ⟨a, b, rfl⟩ | ⟨a, b, d, rfl⟩ | ⟨a, b, d, e, rfl⟩
  all_goals
    simp only [atP]
    apply nfP_congr <;> simp only [onQ, px_on, py_on, gp, List.getD, List.getElem?_cons_zero, Option.getD_some] <;> grind
theorem at_one (c : List PT) (h2 : 2 ≤ c.length) (h4 : c.length ≤ 4) : atP c 1 = normP (gp c (c.length - 1)) := by
  rcases len234 h2 h4 with ⟨a, b, rfl⟩ | ⟨a, b, d, rfl⟩ | ⟨a, b, d, e, rfl⟩
  · show atP [a, b] 1 = normP b
    simp only [atP]
    apply nfP_congr <;> simp only [onQ, px_on, py_on] <;> grind
  · show atP [a, b, d] 1 = normP d
    simp only [atP]
    apply nfP_congr <;> simp only [onQ, px_on, py_on] <;> grind
  · show atP [a, b, d, e] 1 = normP e
    simp only [atP]
    apply nfP_congr <;> simp only [onQ, px_on, py_on] <;> grind
theorem at_rev (c : List PT) (t : Rat) (h2 : 2 ≤ c.length) (h4 : c.length ≤ 4) : atP (revP c) t = atP c (1 - t) := by
  rcases len234 h2 h4 with ⟨a, b, rfl⟩ | ⟨a, b, d, rfl⟩ | ⟨a, b, d, e, rfl⟩
  · show atP [normP b, normP a] t = _
    simp only [atP]
    apply nfP_congr <;> simp only [onQ, px_on, py_on, px_norm, py_norm] <;> grind
  · show atP [normP d, normP b, normP a] t = _
    simp only [atP]
    apply nfP_congr <;> simp only [onQ, px_on, py_on, px_norm, py_norm] <;> grind
  · show atP [normP e, normP d, normP b, normP a] t = _
    simp only [atP]
    apply nfP_congr <;> simp only [onQ, px_on, py_on, px_norm, py_norm] <;> grind
end Go.Gm
