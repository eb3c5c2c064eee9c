/- Products modulo the prime: bits.Mul64, bits.Div64, bits.Rem64. -/
import Derived.Test.YtclmkhbdnidhpaaM0
import Derived.Test.YtclmkhbdnidhpaaD07x0
import Derived.KernelRfl
set_option linter.unusedVariables false
set_option linter.unusedSimpArgs false
namespace Go.Gm
open Go.Pi


theorem mul64 (a b : Int) (ha : 0 ≤ a) (ha' : a < 18446744073709551616) (hb : 0 ≤ b) (hb' : b < 18446744073709551616) :
    bits_Mul64.f a b = some (a * b / 18446744073709551616, a * b % 18446744073709551616) := by
  unfold bits_Mul64.f
  simp only [zand32, zshr32]
  obtain ⟨a1, a0, rfl, h1, h2, h3, h4⟩ : ∃ a1 a0 : Int, a = a1 * 4294967296 + a0 ∧ 0 ≤ a0 ∧ a0 < 4294967296 ∧ 0 ≤ a1 ∧ a1 < 4294967296 := ⟨a / 4294967296, a % 4294967296, by omega, by omega, by omega, by omega, by omega⟩
  obtain ⟨b1, b0, rfl, k1, k2, k3, k4⟩ : ∃ b1 b0 : Int, b = b1 * 4294967296 + b0 ∧ 0 ≤ b0 ∧ b0 < 4294967296 ∧ 0 ≤ b1 ∧ b1 < 4294967296 := ⟨b / 4294967296, b % 4294967296, by omega, by omega, by omega, by omega, by omega⟩
  have d1 : (a1 * 4294967296 + a0) / 4294967296 = a1 := by omega
  have d2 : (b1 * 4294967296 + b0) / 4294967296 = b1 := by omega
  have d3 : (a1 * 4294967296 + a0) % 4294967296 = a0 := by omega
  have d4 : (b1 * 4294967296 + b0) % 4294967296 = b0 := by omega
  simp only [d1, d2, d3, d4]
  have bd : ∀ x y : Int, 0 ≤ x → x < 4294967296 → 0 ≤ y → y < 4294967296 → 0 ≤ x * y ∧ x * y ≤ 18446744065119617025 := by
    intro x y hx hx' hy hy'
    refine ⟨Int.mul_nonneg hx hy, ?_⟩
    have : x * y ≤ 4294967295 * 4294967295 := Int.mul_le_mul (by omega) (by omega) hy (by omega)
    omega
  have w00 := bd a0 b0 h1 h2 k1 k2
  have w10 := bd a1 b0 h3 h4 k1 k2
  have w01 := bd a0 b1 h1 h2 k3 k4
  have w11 := bd a1 b1 h3 h4 k3 k4
  have hp : (a1 * 4294967296 + a0) * (b1 * 4294967296 + b0) = a1 * b1 * 18446744073709551616 + (a1 * b0 + a0 * b1) * 4294967296 + a0 * b0 := by grind
  rw [hp]
  generalize a0 * b0 = x00 at *
  generalize a1 * b0 = x10 at *
  generalize a0 * b1 = x01 at *
  generalize a1 * b1 = x11 at *
  clear bd hp d1 d2 d3 d4 ha ha' hb hb'
  have e1 : IntKind.u64.wrap x00 = x00 := u64_in (by omega) (by omega)
  have e2 : IntKind.u64.wrap x10 = x10 := u64_in (by omega) (by omega)
  have e3 : IntKind.u64.wrap x01 = x01 := u64_in (by omega) (by omega)
  have e4 : IntKind.u64.wrap x11 = x11 := u64_in (by omega) (by omega)
  rw [e1, e2, e3, e4]
  obtain ⟨p1, p0, rfl, q1, q2⟩ : ∃ p1 p0 : Int, x00 = p1 * 4294967296 + p0 ∧ 0 ≤ p0 ∧ p0 < 4294967296 := ⟨x00 / 4294967296, x00 % 4294967296, by omega, by omega, by omega⟩
  have f1 : (p1 * 4294967296 + p0) / 4294967296 = p1 := by omega
  rw [f1]
  have e5 : IntKind.u64.wrap (x10 + p1) = x10 + p1 := u64_in (by omega) (by omega)
  rw [e5]
  obtain ⟨t1, t0, ht, q3, q4⟩ : ∃ t1 t0 : Int, x10 + p1 = t1 * 4294967296 + t0 ∧ 0 ≤ t0 ∧ t0 < 4294967296 := ⟨(x10 + p1) / 4294967296, (x10 + p1) % 4294967296, by omega, by omega, by omega⟩
  rw [ht]
  have f2 : (t1 * 4294967296 + t0) / 4294967296 = t1 := by omega
  have f3 : (t1 * 4294967296 + t0) % 4294967296 = t0 := by omega
  rw [f2, f3]
  have e6 : IntKind.u64.wrap (t0 + x01) = t0 + x01 := u64_in (by omega) (by omega)
  rw [e6]
  obtain ⟨s1, s0, hs, q5, q6⟩ : ∃ s1 s0 : Int, t0 + x01 = s1 * 4294967296 + s0 ∧ 0 ≤ s0 ∧ s0 < 4294967296 := ⟨(t0 + x01) / 4294967296, (t0 + x01) % 4294967296, by omega, by omega, by omega⟩
  rw [hs]
  have f4 : (s1 * 4294967296 + s0) / 4294967296 = s1 := by omega
  rw [f4]
  have key : x11 * 18446744073709551616 + (x10 + x01) * 4294967296 + (p1 * 4294967296 + p0) = (x11 + t1 + s1) * 18446744073709551616 + (s0 * 4294967296 + p0) := by omega
  rw [key]
  have f5 : ((x11 + t1 + s1) * 18446744073709551616 + (s0 * 4294967296 + p0)) / 18446744073709551616 = x11 + t1 + s1 := by omega
  rw [f5, wrap_u64 _, wrap_u64 _, wrap_u64 _]
  simp only [Option.some.injEq, Prod.mk.injEq]
  exact ⟨by omega, trivial⟩

theorem l1_done (k : Nat) (un0 q1 un21 q rh : Int) (h0 : 0 ≤ un0) (h0' : un0 < 4294967296) (hu : 0 ≤ un21) (hu' : un21 < 18446744073709551608) (hq1 : 0 ≤ q1) (hq1' : q1 < 4294967296)
    (hq : 0 ≤ q) (hq' : q ≤ 4294967296) (hr : q * 4294967295 + rh = un21) (hr0 : 0 ≤ rh) (hr1 : rh < 4294967296) (hge : un21 * 4294967296 + un0 - q * 18446744073709551608 < 18446744073709551608) :
    ∃ a, bits_Div64.l1 (k + 3) 18446744073709551608 3 4294967295 4294967288 un0 q1 rh un21 q = some (a, (un21 * 4294967296 + un0) % 18446744073709551608 / 8) := by
  have fin : ∀ q' : Int, q' * 18446744073709551608 ≤ un21 * 4294967296 + un0 → un21 * 4294967296 + un0 - q' * 18446744073709551608 < 18446744073709551608 →
      zshr .u64 (IntKind.wrap .u64 ((IntKind.wrap .u64 ((IntKind.wrap .u64 (un21 * (4294967296 : Int))) + un0)) - (IntKind.wrap .u64 (q' * 18446744073709551608)))) 3 = (un21 * 4294967296 + un0) % 18446744073709551608 / 8 := by
    intro q' h1 h2
    have : (un21 * 4294967296 + un0) % 18446744073709551608 = un21 * 4294967296 + un0 - q' * 18446744073709551608 := by omega
    rw [this, show (3 : Int) = ((3 : Nat) : Int) from rfl, zshr_u64 _ 3 (by decide)]
    simp only [wrap_u64]
    have e : (2 : Int) ^ 3 = 8 := by decide
    rw [e]
    omega
  have nn : nonneg 3 = true := rfl
  -- one round
  have round : ∀ (k : Nat) (q rh : Int), 0 ≤ q → q ≤ 4294967296 → q * 4294967295 + rh = un21 → 0 ≤ rh → rh < 4294967296 → un21 * 4294967296 + un0 - q * 18446744073709551608 < 18446744073709551608 →
      (∃ a, bits_Div64.l1 (k + 1) 18446744073709551608 3 4294967295 4294967288 un0 q1 rh un21 q = some (a, (un21 * 4294967296 + un0) % 18446744073709551608 / 8)) ∨
      (bits_Div64.l1 (k + 1) 18446744073709551608 3 4294967295 4294967288 un0 q1 rh un21 q = bits_Div64.l1 k 18446744073709551608 3 4294967295 4294967288 un0 q1 (rh + 4294967295) un21 (q - 1) ∧ 1 ≤ q ∧ rh + 4294967295 < 4294967296 ∧ un21 * 4294967296 + un0 - (q - 1) * 18446744073709551608 < 18446744073709551608) := by
    intro k q rh hq hq' hr hr0 hr1 hge
    have w1 : IntKind.u64.wrap (rh + 4294967295) = rh + 4294967295 := u64_in (by omega) (by omega)
    by_cases hbig : q ≥ 4294967296
    · have w2 : IntKind.u64.wrap (q - 1) = q - 1 := u64_in (by omega) (by omega)
      by_cases hbr : rh + 4294967295 ≥ 4294967296
      · left
        simp only [bits_Div64.l1, decide_eq_true hbig, w1, w2, decide_eq_true hbr, nn, condT]
        exact ⟨_, by rw [fin (q - 1) (by omega) (by omega)]⟩
      · right
        simp only [bits_Div64.l1, decide_eq_true hbig, w1, w2, decide_eq_false hbr, nn, condT, condF, true_and]
        omega
    · have w3 : IntKind.u64.wrap (q * 4294967288) = q * 4294967288 := u64_in (by omega) (by omega)
      have w4 : IntKind.u64.wrap (4294967296 * rh) = 4294967296 * rh := u64_in (by omega) (by omega)
      have w5 : IntKind.u64.wrap (4294967296 * rh + un0) = 4294967296 * rh + un0 := u64_in (by omega) (by omega)
      by_cases ht : q * 4294967288 > 4294967296 * rh + un0
      · have w2 : IntKind.u64.wrap (q - 1) = q - 1 := u64_in (by omega) (by omega)
        by_cases hbr : rh + 4294967295 ≥ 4294967296
        · left
          simp only [bits_Div64.l1, decide_eq_false hbig, w1, w2, w3, w4, w5, decide_eq_true ht, decide_eq_true hbr, nn, condT, condF]
          exact ⟨_, by rw [fin (q - 1) (by omega) (by omega)]⟩
        · right
          simp only [bits_Div64.l1, decide_eq_false hbig, w1, w2, w3, w4, w5, decide_eq_true ht, decide_eq_false hbr, nn, condT, condF, true_and]
          omega
      · left
        simp only [bits_Div64.l1, decide_eq_false hbig, w3, w4, w5, decide_eq_false ht, nn, condT, condF]
        exact ⟨_, by rw [fin q (by omega) (by omega)]⟩
  rcases round (k + 2) q rh hq hq' hr hr0 hr1 hge with h | ⟨h, g1, g2, g3⟩
  · exact h
  · rw [h]
    rcases round (k + 1) (q - 1) (rh + 4294967295) (by omega) (by omega) (by omega) (by omega) g2 g3 with h | ⟨h, g4, g5, g6⟩
    · exact h
    · omega
theorem l0_done (k : Nat) (un0 un1 un32 q rh : Int) (h0 : 0 ≤ un0) (h0' : un0 < 4294967296) (h1 : 0 ≤ un1) (h1' : un1 < 4294967296) (hu : 0 ≤ un32) (hu' : un32 < 18446744073709551608)
    (hq : 0 ≤ q) (hq' : q ≤ 4294967296) (hr : q * 4294967295 + rh = un32) (hr0 : 0 ≤ rh) (hr1 : rh < 4294967296) (hge : un32 * 4294967296 + un1 - q * 18446744073709551608 < 18446744073709551608) :
    ∃ a, bits_Div64.l0 (k + 6) 18446744073709551608 3 4294967295 4294967288 un32 un1 un0 q rh = some (a, ((un32 * 4294967296 + un1) % 18446744073709551608 * 4294967296 + un0) % 18446744073709551608 / 8) := by
  -- on to the second digit
  have fin : ∀ (k : Nat) (q' : Int), 0 ≤ q' → q' < 4294967296 → q' * 18446744073709551608 ≤ un32 * 4294967296 + un1 → un32 * 4294967296 + un1 - q' * 18446744073709551608 < 18446744073709551608 →
      ∃ a, bits_Div64.l1 (k + 3) 18446744073709551608 3 4294967295 4294967288 un0 q' (IntKind.wrap .u64 ((IntKind.wrap .u64 ((IntKind.wrap .u64 ((IntKind.wrap .u64 (un32 * (4294967296 : Int))) + un1)) - (IntKind.wrap .u64 (q' * 18446744073709551608)))) - (IntKind.wrap .u64 ((IntKind.wrap .u64 (Int.tdiv (IntKind.wrap .u64 ((IntKind.wrap .u64 ((IntKind.wrap .u64 (un32 * (4294967296 : Int))) + un1)) - (IntKind.wrap .u64 (q' * 18446744073709551608)))) 4294967295)) * 4294967295))))
        (IntKind.wrap .u64 ((IntKind.wrap .u64 ((IntKind.wrap .u64 (un32 * (4294967296 : Int))) + un1)) - (IntKind.wrap .u64 (q' * 18446744073709551608)))) (IntKind.wrap .u64 (Int.tdiv (IntKind.wrap .u64 ((IntKind.wrap .u64 ((IntKind.wrap .u64 (un32 * (4294967296 : Int))) + un1)) - (IntKind.wrap .u64 (q' * 18446744073709551608)))) 4294967295)) =
        some (a, ((un32 * 4294967296 + un1) % 18446744073709551608 * 4294967296 + un0) % 18446744073709551608 / 8) := by
    intro k q' g1 g2 g3 g4
    have e1 : IntKind.wrap .u64 ((IntKind.wrap .u64 ((IntKind.wrap .u64 (un32 * (4294967296 : Int))) + un1)) - (IntKind.wrap .u64 (q' * 18446744073709551608))) = (un32 * 4294967296 + un1) % 18446744073709551608 := by
      simp only [wrap_u64]; omega
    rw [e1]
    generalize hN : (un32 * 4294967296 + un1) % 18446744073709551608 = n
    have n1 : 0 ≤ n := by omega
    have n2 : n < 18446744073709551608 := by omega
    rw [tdiv_nn n1]
    have e2 : IntKind.u64.wrap (n / 4294967295) = n / 4294967295 := u64_in (by omega) (by omega)
    have e3 : IntKind.u64.wrap (n / 4294967295 * 4294967295) = n / 4294967295 * 4294967295 := u64_in (by omega) (by omega)
    have e4 : IntKind.u64.wrap (n - n / 4294967295 * 4294967295) = n - n / 4294967295 * 4294967295 := u64_in (by omega) (by omega)
    rw [e2, e3, e4]
    exact l1_done k un0 q' n _ _ h0 h0' n1 n2 g1 g2 (by omega) (by omega) (by omega) (by omega) (by omega) (by omega)
  have nz : (!decide ((4294967295 : Int) = 0)) = true := rfl
  have round : ∀ (k : Nat) (q rh : Int), 0 ≤ q → q ≤ 4294967296 → q * 4294967295 + rh = un32 → 0 ≤ rh → rh < 4294967296 → un32 * 4294967296 + un1 - q * 18446744073709551608 < 18446744073709551608 →
      (∃ a, bits_Div64.l0 (k + 4) 18446744073709551608 3 4294967295 4294967288 un32 un1 un0 q rh = some (a, ((un32 * 4294967296 + un1) % 18446744073709551608 * 4294967296 + un0) % 18446744073709551608 / 8)) ∨
      (bits_Div64.l0 (k + 4) 18446744073709551608 3 4294967295 4294967288 un32 un1 un0 q rh = bits_Div64.l0 (k + 3) 18446744073709551608 3 4294967295 4294967288 un32 un1 un0 (q - 1) (rh + 4294967295) ∧ 1 ≤ q ∧ rh + 4294967295 < 4294967296 ∧ un32 * 4294967296 + un1 - (q - 1) * 18446744073709551608 < 18446744073709551608) := by
    intro k q rh hq hq' hr hr0 hr1 hge
    have w1 : IntKind.u64.wrap (rh + 4294967295) = rh + 4294967295 := u64_in (by omega) (by omega)
    by_cases hbig : q ≥ 4294967296
    · have w2 : IntKind.u64.wrap (q - 1) = q - 1 := u64_in (by omega) (by omega)
      by_cases hbr : rh + 4294967295 ≥ 4294967296
      · left
        simp only [bits_Div64.l0, decide_eq_true hbig, w1, w2, decide_eq_true hbr, nz, condT]
        exact fin k (q - 1) (by omega) (by omega) (by omega) (by omega)
      · right
        simp only [bits_Div64.l0, decide_eq_true hbig, w1, w2, decide_eq_false hbr, condT, condF, true_and]
        omega
    · have w3 : IntKind.u64.wrap (q * 4294967288) = q * 4294967288 := u64_in (by omega) (by omega)
      have w4 : IntKind.u64.wrap (4294967296 * rh) = 4294967296 * rh := u64_in (by omega) (by omega)
      have w5 : IntKind.u64.wrap (4294967296 * rh + un1) = 4294967296 * rh + un1 := u64_in (by omega) (by omega)
      by_cases ht : q * 4294967288 > 4294967296 * rh + un1
      · have w2 : IntKind.u64.wrap (q - 1) = q - 1 := u64_in (by omega) (by omega)
        by_cases hbr : rh + 4294967295 ≥ 4294967296
        · left
          simp only [bits_Div64.l0, decide_eq_false hbig, w1, w2, w3, w4, w5, decide_eq_true ht, decide_eq_true hbr, nz, condT, condF]
          exact fin k (q - 1) (by omega) (by omega) (by omega) (by omega)
        · right
          simp only [bits_Div64.l0, decide_eq_false hbig, w1, w2, w3, w4, w5, decide_eq_true ht, decide_eq_false hbr, condT, condF, true_and]
          omega
      · left
        simp only [bits_Div64.l0, decide_eq_false hbig, w3, w4, w5, decide_eq_false ht, nz, condT, condF]
        exact fin k q (by omega) (by omega) (by omega) (by omega)
  rcases round (k + 2) q rh hq hq' hr hr0 hr1 hge with h | ⟨h, g1, g2, g3⟩
  · exact h
  · rw [h]
    rcases round (k + 1) (q - 1) (rh + 4294967295) (by omega) (by omega) (by omega) (by omega) g2 g3 with h | ⟨h, g4, g5, g6⟩
    · exact h
    · omega

end Go.Gm
