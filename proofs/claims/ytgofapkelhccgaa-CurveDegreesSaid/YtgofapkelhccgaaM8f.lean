/- Integers of the machine out of integers. -/
import Derived.Test.YtgofapkelhccgaaM8e
set_option linter.unusedVariables false
set_option linter.unusedSimpArgs false
namespace Go.Gm
open Go.Pi

def smallZ (z : Int) : Int × Bool := if -9223372036854775808 ≤ z ∧ z ≤ 9223372036854775807 then (z, true) else (0, false)
theorem zor_comm (k : IntKind) (a b : Int) : zbits .or k a b = zbits .or k b a := by
  unfold zbits
  simp only [BitVec.or_comm]
theorem small_end (n : Bool) (v : Int) (h0 : 0 ≤ v) (h1 : v < 18446744073709551616) :
    (bif n then (bif (decide (v ≤ (9223372036854775808 : Int))) then (some ((IntKind.wrap .i64 (IntKind.wrap .u64 ((zbits .xor .u64 (18446744073709551615 : Int) v) + (1 : Int)))), true)) else (bif (notB n) then (bif (decide (v < (9223372036854775808 : Int))) then (some ((IntKind.wrap .i64 v), true)) else (some ((0 : Int), false))) else (some ((0 : Int), false)))) else (bif (notB n) then (bif (decide (v < (9223372036854775808 : Int))) then (some ((IntKind.wrap .i64 v), true)) else (some ((0 : Int), false))) else (some ((0 : Int), false)))) = some (smallZ (sg n v)) := by
  unfold smallZ
  cases n
  · rw [condF, notB_f, condT, sg_f]
    by_cases h : v < 9223372036854775808
    · rw [decide_eq_true h, condT, if_pos (by omega), i64_in (by omega) (by omega)]
    · rw [decide_eq_false h, condF, if_neg (by omega)]
  · rw [condT, notB_t, condF, sg_t]
    by_cases h : v ≤ 9223372036854775808
    · rw [decide_eq_true h, condT, if_pos (by omega), xor_ones v h0 h1]
      congr 2
      rw [wrap_u64, wrap_i64]
      omega
    · rw [decide_eq_false h, condF, if_neg (by omega)]
theorem zshl32 (y : Int) (h0 : 0 ≤ y) (h1 : y < 4294967296) : zshl .u64 y 32 = y * 4294967296 := by
  have := zshl_u64 y 32 (by decide)
  rw [show (2 : Int) ^ 32 = 4294967296 by decide] at this
  rw [show (32 : Int) = ((32 : Nat) : Int) by rfl, this]; omega
theorem zshl0 (y : Int) (h0 : 0 ≤ y) (h1 : y < 4294967296) : zshl .u64 y 0 = y := by
  have := zshl_u64 y 0 (by decide)
  rw [show (0 : Int) = ((0 : Nat) : Int) by rfl, this]; omega
theorem Small1_l0 (n : Bool) (o l : List Int) (hl : Limbs l) (h2 : l.length ≤ 2) : Ev (fun k => integer_Small.l0 k 0 (l.length : Int) 0 n o l) (smallZ (sg n (val l))) := by
  have w32 : IntKind.i64.wrap (32 * 1) = 32 := by decide
  have w0 : IntKind.i64.wrap (32 * 0) = 0 := by decide
  have a0 : IntKind.i64.wrap (0 + 1) = 1 := by decide
  have a1 : IntKind.i64.wrap (1 + 1) = 2 := by decide
  match l, hl, h2 with
  | [], hl, _ =>
    refine Ev.step ?_
    have t0 : decide ((0 : Int) < (([] : List Int).length : Int)) = false := by decide
    simp only [integer_Small.l0, t0, condF]
    exact Ev.const (small_end n 0 (by decide) (by decide))
  | [x], hl, _ =>
    have hx := hl.head
    have e1 : zbits .or .u64 0 (zshl .u64 (IntKind.u64.wrap x) 0) = x := by
      rw [u64_in (by omega) (by omega), zshl0 x hx.1 hx.2, zor_parts 0 x 32 (by decide) (by decide) (by decide) (by decide) hx.1 (by rw [show (2 : Int) ^ 32 = 4294967296 by decide]; exact hx.2)]
      omega
    refine Ev.step ?_
    have t0 : decide ((0 : Int) < (([x] : List Int).length : Int)) = true := rfl
    have t1 : inb 0 ([x] : List Int).length = true := rfl
    have g0 : gd (0 : Int) [x] 0 = x := rfl
    have nn : nonneg 0 = true := rfl
    simp only [integer_Small.l0, t0, t1, g0, w0, nn, condT, e1, a0]
    refine Ev.step ?_
    have t2 : decide ((1 : Int) < (([x] : List Int).length : Int)) = false := rfl
    simp only [integer_Small.l0, t2, condF]
    have ev : val [x] = x := by simp [val]
    rw [ev]
    exact Ev.const (small_end n x hx.1 (by omega))
  | [x, y], hl, _ =>
    have hx := hl.head
    have hy := hl.tail.head
    have e1 : zbits .or .u64 0 (zshl .u64 (IntKind.u64.wrap x) 0) = x := by
      rw [u64_in (by omega) (by omega), zshl0 x hx.1 hx.2, zor_parts 0 x 32 (by decide) (by decide) (by decide) (by decide) hx.1 (by rw [show (2 : Int) ^ 32 = 4294967296 by decide]; exact hx.2)]
      omega
    have e2 : zbits .or .u64 x (zshl .u64 (IntKind.u64.wrap y) 32) = x + y * 4294967296 := by
      rw [u64_in (by omega) (by omega), zshl32 y hy.1 hy.2, zor_comm, zor_parts _ x 32 (by decide) (by omega) (by omega) (by rw [show (2 : Int) ^ 32 = 4294967296 by decide]; omega) hx.1 (by rw [show (2 : Int) ^ 32 = 4294967296 by decide]; exact hx.2)]
      omega
    refine Ev.step ?_
    have t0 : decide ((0 : Int) < (([x, y] : List Int).length : Int)) = true := rfl
    have t1 : inb 0 ([x, y] : List Int).length = true := rfl
    have g0 : gd (0 : Int) [x, y] 0 = x := rfl
    have nn : nonneg 0 = true := rfl
    simp only [integer_Small.l0, t0, t1, g0, w0, nn, condT, e1, a0]
    refine Ev.step ?_
    have t2 : decide ((1 : Int) < (([x, y] : List Int).length : Int)) = true := rfl
    have t3 : inb 1 ([x, y] : List Int).length = true := rfl
    have g1 : gd (0 : Int) [x, y] 1 = y := rfl
    have nn2 : nonneg 32 = true := rfl
    simp only [integer_Small.l0, t2, t3, g1, w32, nn2, condT, e2, a1]
    refine Ev.step ?_
    have t4 : decide ((2 : Int) < (([x, y] : List Int).length : Int)) = false := rfl
    simp only [integer_Small.l0, t4, condF]
    have ev : val [x, y] = x + y * 4294967296 := by simp [val]; omega
    rw [ev]
    exact Ev.const (small_end n _ (by omega) (by omega))
  | _ :: _ :: _ :: _, _, h => simp at h
theorem small_big (n : Bool) (v : Int) (h0 : 0 ≤ v) (h : 2 < (lm v).length) : smallZ (sg n v) = (0, false) := by
  have h1 : 18446744073709551616 ≤ v := by
    apply Int.not_lt.mp
    intro hc
    have := lm_len_le (n := 2) h0 (by rw [show (4294967296 : Int) ^ 2 = 18446744073709551616 by decide]; exact hc)
    omega
  unfold smallZ
  cases n
  · rw [sg_f, if_neg (by omega)]
  · rw [sg_t, if_neg (by omega)]
theorem Small1_ev (x : Bool × List Int) (h : WZ 90000000 x) : Ev (fun k => integer_Small.f k x) (smallZ (zv x)) := by
  have v0 := val_nonneg h.1
  unfold integer_Small.f zv
  refine Ev.bind (Norm1_ev x.2 h.1 (by have := h.2; omega)) ?_
  by_cases c : 2 < (lm (val x.2)).length
  · rw [decide_eq_true (show (((lm (val x.2)).length : Nat) : Int) > 2 by omega), small_big _ _ v0 c]
    simp only [condT]; exact Ev.pure _
  · rw [decide_eq_false (show ¬ (((lm (val x.2)).length : Nat) : Int) > 2 by omega)]
    simp only [condF]
    have := Small1_l0 x.1 x.2 (lm (val x.2)) (lm_limbs _) (by omega)
    rw [val_lm v0] at this
    exact this
end Go.Gm
