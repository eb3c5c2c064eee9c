/- Points: the program's (1). -/
import Derived.Test.YtgofapkelhccgaaMQ
import Derived.Test.YtgofapkelhccgaaDQ
set_option linter.unusedVariables false
set_option linter.unusedSimpArgs false
namespace Go.Gm
open Go.Pi

theorem whole1_ev (a : Int) (h0 : -9223372036854775808 ≤ a) (h1 : a ≤ 9223372036854775807) : Ev (fun k => point_whole.f k a) (nfQ (a : Rat)) := by
  unfold point_whole.f
  have o := Of1Q_ev a 1 h0 h1 (by decide) (by decide) (by decide)
  rw [div_one] at o
  exact Ev.bind o (Ev.pure _)
theorem POf1_ev (a b : Int) (h0 : -9223372036854775808 ≤ a) (h1 : a ≤ 9223372036854775807) (h2 : -9223372036854775808 ≤ b) (h3 : b ≤ 9223372036854775807) : Ev (fun k => point_Of.f k a b) (nfP (a : Rat) (b : Rat)) := by
  unfold point_Of.f
  exact Ev.bind (whole1_ev a h0 h1) (Ev.bind (whole1_ev b h2 h3) (Ev.pure _))
theorem RS_i64 {a : Int} (h0 : -9223372036854775808 ≤ a) (h1 : a ≤ 9223372036854775807) : RS 2 (a : Rat) :=
  RS_int (by decide) (by rw [show (4294967296 : Int) ^ 2 = 18446744073709551616 by decide]; unfold ab; split <;> omega)
theorem PSame1_ev {n : Nat} (h1 : 1 ≤ n) (hn : n ≤ 10000000) (a b : PT) (ha1 : WQ n (p1 a)) (ha2 : WQ n (p2 a)) (hb1 : WQ n (p1 b)) (hb2 : WQ n (p2 b)) :
    Ev (fun k => point_Same.f k a b) (decide (qv (p1 a) = qv (p1 b) ∧ qv (p2 a) = qv (p2 b))) := by
  unfold point_Same.f
  refine Ev.bind (Cmp1Q_ev h1 hn (p1 a) (p1 b) ha1 hb1) ?_
  rw [cmpQ_zero]
  by_cases h : qv (p1 a) = qv (p1 b)
  · simp only [decide_eq_true h, condT]
    refine Ev.bind (Cmp1Q_ev h1 hn (p2 a) (p2 b) ha2 hb2) (Ev.eq (Ev.pure _) ?_)
    rw [cmpQ_zero]
    congr 1
    exact propext ⟨fun e => ⟨h, e⟩, fun e => e.2⟩
  · simp only [decide_eq_false h, condF]
    refine Ev.eq (Ev.pure _) ?_
    rw [decide_eq_false (fun e => h e.1)]
theorem p1_mkP (x y : RT) : p1 (mkP x y) = x := rfl
theorem p2_mkP (x y : RT) : p2 (mkP x y) = y := rfl
theorem p1_nfP (x y : Rat) : p1 (nfP x y) = nfQ x := rfl
theorem p2_nfP (x y : Rat) : p2 (nfP x y) = nfQ y := rfl
end Go.Gm
