/- Integers of the machine out of the reference's integers; the grid. -/
import Derived.Test.YtgofapkelhccgaaM8f
set_option linter.unusedVariables false
set_option linter.unusedSimpArgs false
namespace Go.Gm
open Go.Pi

theorem small_end2 (n : Bool) (v : Int) (h0 : 0 ≤ v) (h1 : v < 18446744073709551616) (hn : n = true → v ≠ 0) :
    (bif n then (bif (decide (v ≤ (9223372036854775808 : Int))) then (some ((IntKind.wrap .i64 ((negI .i64 (IntKind.wrap .i64 (IntKind.wrap .u64 (v - (1 : Int))))) - (1 : Int))), true)) else (bif (notB n) then (bif (decide (v ≤ (9223372036854775807 : Int))) then (some ((IntKind.wrap .i64 v), true)) else (some ((0 : Int), false))) else (some ((0 : Int), false)))) else (bif (notB n) then (bif (decide (v ≤ (9223372036854775807 : Int))) then (some ((IntKind.wrap .i64 v), true)) else (some ((0 : Int), false))) else (some ((0 : Int), false)))) = some (smallZ (sg n v)) := by
  unfold smallZ
  cases n
  · rw [condF, notB_f, condT, sg_f]
    by_cases h : v ≤ 9223372036854775807
    · rw [decide_eq_true h, condT, if_pos (by omega), i64_in (by omega) (by omega)]
    · rw [decide_eq_false h, condF, if_neg (by omega)]
  · have := hn rfl
    rw [condT, notB_t, condF, sg_t]
    by_cases h : v ≤ 9223372036854775808
    · rw [decide_eq_true h, condT, if_pos (by omega), u64_in (by omega) (by omega), i64_in (x := v - 1) (by omega) (by omega)]
      unfold negI
      rw [i64_in (x := 0 - (v - 1)) (by omega) (by omega), i64_in (by omega) (by omega)]
      congr 2; omega
    · rw [decide_eq_false h, condF, if_neg (by omega)]
theorem Small2_l0 (n : Bool) (l : List Int) (hl : Limbs l) (h2 : l.length ≤ 2) (hn : n = true → val l ≠ 0) : Ev (fun k => ref02_Small.l0 k 0 (IntKind.wrap .i64 ((l.length : Int) - 1)) n l) (smallZ (sg n (val l))) := by
  match l, hl, h2, hn with
  | [], hl, _, hn =>
    refine Ev.step ?_
    have e : IntKind.i64.wrap ((([] : List Int).length : Int) - 1) = -1 := by decide
    have t0 : decide ((-1 : Int) ≥ 0) = false := by decide
    simp only [e, ref02_Small.l0, t0, condF]
    exact Ev.const (small_end2 n 0 (by decide) (by decide) hn)
  | [x], hl, _, hn =>
    have hx := hl.head
    have e : IntKind.i64.wrap ((([x] : List Int).length : Int) - 1) = 0 := rfl
    have e0 : IntKind.i64.wrap (0 - 1) = -1 := by decide
    have t0 : decide ((0 : Int) ≥ 0) = true := by decide
    have t9 : decide ((-1 : Int) ≥ 0) = false := by decide
    have t1 : inb 0 ([x] : List Int).length = true := rfl
    have g0 : gd (0 : Int) [x] 0 = x := rfl
    have z : IntKind.u64.wrap (0 * 4294967296) = 0 := by decide
    have e1 : IntKind.u64.wrap (0 + IntKind.u64.wrap x) = x := by rw [u64_in (x := x) (by omega) (by omega), u64_in (by omega) (by omega)]; omega
    have ev : val [x] = x := by simp [val]
    refine Ev.step ?_
    simp only [e, ref02_Small.l0, t0, t1, g0, z, e1, e0, condT]
    refine Ev.step ?_
    simp only [ref02_Small.l0, t9, condF]
    rw [ev] at hn ⊢
    exact Ev.const (small_end2 n x hx.1 (by omega) hn)
  | [x, y], hl, _, hn =>
    have hx := hl.head
    have hy := hl.tail.head
    have e : IntKind.i64.wrap ((([x, y] : List Int).length : Int) - 1) = 1 := rfl
    have e0 : IntKind.i64.wrap (0 - 1) = -1 := by decide
    have e9 : IntKind.i64.wrap (1 - 1) = 0 := by decide
    have t0 : decide ((0 : Int) ≥ 0) = true := by decide
    have t8 : decide ((1 : Int) ≥ 0) = true := by decide
    have t9 : decide ((-1 : Int) ≥ 0) = false := by decide
    have t1 : inb 0 ([x, y] : List Int).length = true := rfl
    have t2 : inb 1 ([x, y] : List Int).length = true := rfl
    have g0 : gd (0 : Int) [x, y] 0 = x := rfl
    have g1 : gd (0 : Int) [x, y] 1 = y := rfl
    have z : IntKind.u64.wrap (0 * 4294967296) = 0 := by decide
    have e1 : IntKind.u64.wrap (0 + IntKind.u64.wrap y) = y := by rw [u64_in (x := y) (by omega) (by omega), u64_in (by omega) (by omega)]; omega
    have e2 : IntKind.u64.wrap (IntKind.u64.wrap (y * 4294967296) + IntKind.u64.wrap x) = x + y * 4294967296 := by rw [u64_in (x := x) (by omega) (by omega), u64_in (x := y * 4294967296) (by omega) (by omega), u64_in (by omega) (by omega)]; omega
    have ev : val [x, y] = x + y * 4294967296 := by simp [val]; omega
    refine Ev.step ?_
    simp only [e, ref02_Small.l0, t8, t2, g1, z, e1, e9, condT]
    refine Ev.step ?_
    simp only [ref02_Small.l0, t0, t1, g0, e2, e0, condT]
    refine Ev.step ?_
    simp only [ref02_Small.l0, t9, condF]
    rw [ev] at hn ⊢
    exact Ev.const (small_end2 n _ (by omega) (by omega) hn)
  | _ :: _ :: _ :: _, _, h, _ => simp at h
theorem Small2_ev (x : Bool × List Int) (h : WZ 90000000 x) : Ev (fun k => ref02_Small.f k x) (smallZ (zv x)) := by
  unfold ref02_Small.f
  refine Ev.bind (Norm2Z_ev x h) ?_
  rw [(nfZ_one _).1, (nfZ_one _).2]
  generalize zv x = z
  have e : sg (decide (z < 0)) (ab z) = z := by
    have := zv_nfZ z
    unfold zv nfZ at this
    simp only [val_lm (ab_nn z)] at this
    exact this
  by_cases c : 2 < (lm (ab z)).length
  · have sb := small_big (decide (z < 0)) (ab z) (ab_nn z) c
    rw [e] at sb
    rw [decide_eq_true (show (((lm (ab z)).length : Nat) : Int) > 2 by omega), sb]
    simp only [condT]; exact Ev.pure _
  · rw [decide_eq_false (show ¬ (((lm (ab z)).length : Nat) : Int) > 2 by omega)]
    simp only [condF]
    have := Small2_l0 (decide (z < 0)) (lm (ab z)) (lm_limbs _) (by omega) (by
      intro hd
      have := of_decide_eq_true hd
      rw [val_lm (ab_nn z)]; unfold ab; rw [if_pos this]; omega)
    rw [val_lm (ab_nn z), e] at this
    exact this
/-! the grid -/
def inG (z : Int) : Prop := -1048576 ≤ z ∧ z ≤ 1048576
instance (z : Int) : Decidable (inG z) := inferInstanceAs (Decidable (_ ∧ _))
def gridD (x y : Rat) : (Int × Int) × Int := if inG (rnd x) ∧ inG (rnd y) then ((rnd x, rnd y), 0) else ((0, 0), 3)
theorem coord_ev {n : Nat} (h1 : 1 ≤ n) (hn : n ≤ 1000000) (x : RT) (h : WQ n x) : ∃ v : Int, Ev (fun k => point_coordinate.f k x) (v, decide (inG (rnd (qv x)))) ∧ (inG (rnd (qv x)) → v = rnd (qv x)) := by
  have rl := rnd_len (qv_RS h1 h)
  have s := Small1_ev _ (rl.mono (by omega))
  rw [zv_nfZ] at s
  generalize hz : rnd (qv x) = z at *
  refine ⟨(smallZ z).1, ?_, ?_⟩
  · unfold point_coordinate.f
    refine Ev.bind (Round1Q_ev h1 (by omega) x h) ?_
    rw [hz]
    refine Ev.bind s ?_
    unfold smallZ
    by_cases c : -9223372036854775808 ≤ z ∧ z ≤ 9223372036854775807
    · rw [if_pos c]
      simp only [condT]
      by_cases c2 : z ≥ -1048576
      · simp only [decide_eq_true c2, condT]
        refine Ev.eq (Ev.pure _) ?_
        congr 1
        rw [Bool.eq_iff_iff, decide_eq_true_iff, decide_eq_true_iff]
        unfold inG; omega
      · simp only [decide_eq_false c2, condF]
        refine Ev.eq (Ev.pure _) ?_
        congr 1
        rw [decide_eq_false (by unfold inG; omega)]
    · rw [if_neg c]
      simp only [condF]
      refine Ev.eq (Ev.pure _) ?_
      congr 1
      rw [decide_eq_false (by unfold inG; omega)]
  · intro hi
    unfold inG at hi
    unfold smallZ
    rw [if_pos (by omega)]
theorem PGrid1_ev {n : Nat} (h1 : 1 ≤ n) (hn : n ≤ 1000000) (p : PT) (h : WP n p) : Ev (fun k => point_Grid.f k p) (gridD (px p) (py p)) := by
  obtain ⟨u, e1, g1⟩ := coord_ev h1 hn (p1 p) h.1
  obtain ⟨v, e2, g2⟩ := coord_ev h1 hn (p2 p) h.2
  unfold point_Grid.f gridD px py
  refine Ev.bind e1 (Ev.bind e2 ?_)
  by_cases c1 : inG (rnd (qv (p1 p)))
  · by_cases c2 : inG (rnd (qv (p2 p)))
    · rw [decide_eq_true c1, decide_eq_true c2, if_pos ⟨c1, c2⟩, g1 c1, g2 c2]
      simp only [notB_t, condF]; exact Ev.pure _
    · rw [decide_eq_true c1, decide_eq_false c2, if_neg (fun h => c2 h.2)]
      simp only [notB_t, notB_f, condF, condT]; exact Ev.pure _
  · rw [decide_eq_false c1, if_neg (fun h => c1 h.1)]
    simp only [notB_f, condT]; exact Ev.pure _
theorem PGrid2_ev {n : Nat} (h1 : 1 ≤ n) (hn : n ≤ 1000000) (p : PT) (h : WP n p) : Ev (fun k => ref08_Grid.f k p) (gridD (px p) (py p)) := by
  have rx := rnd_len (qv_RS h1 h.1)
  have ry := rnd_len (qv_RS h1 h.2)
  have sx := Small2_ev _ (rx.mono (by omega))
  have sy := Small2_ev _ (ry.mono (by omega))
  rw [zv_nfZ] at sx sy
  unfold ref08_Grid.f gridD px py
  refine Ev.bind (Round2Q_ev h1 (by omega) (p1 p) h.1) (Ev.bind sx (Ev.bind (Round2Q_ev h1 (by omega) (p2 p) h.2) (Ev.bind sy ?_)))
  generalize rnd (qv (p1 p)) = x
  generalize rnd (qv (p2 p)) = y
  unfold smallZ inG
  by_cases c1 : -9223372036854775808 ≤ x ∧ x ≤ 9223372036854775807
  · rw [if_pos c1]
    by_cases c2 : -9223372036854775808 ≤ y ∧ y ≤ 9223372036854775807
    · rw [if_pos c2]
      simp only [notB_t, condF]
      by_cases d1 : x < -1048576
      · simp only [decide_eq_true d1, condT]; rw [if_neg (by omega)]; exact Ev.pure _
      · by_cases d2 : x > 1048576
        · simp only [decide_eq_false d1, decide_eq_true d2, condT, condF]; rw [if_neg (by omega)]; exact Ev.pure _
        · by_cases d3 : y < -1048576
          · simp only [decide_eq_false d1, decide_eq_false d2, decide_eq_true d3, condT, condF]; rw [if_neg (by omega)]; exact Ev.pure _
          · by_cases d4 : y > 1048576
            · simp only [decide_eq_false d1, decide_eq_false d2, decide_eq_false d3, decide_eq_true d4, condT, condF]; rw [if_neg (by omega)]; exact Ev.pure _
            · simp only [decide_eq_false d1, decide_eq_false d2, decide_eq_false d3, decide_eq_false d4, condF]; rw [if_pos (by omega)]; exact Ev.pure _
    · rw [if_neg c2, if_neg (by omega)]
      simp only [notB_t, notB_f, condF, condT]; exact Ev.pure _
  · rw [if_neg c1]
    simp only [notB_f, condT]
    rw [if_neg (by omega)]; exact Ev.pure _
end Go.Gm
