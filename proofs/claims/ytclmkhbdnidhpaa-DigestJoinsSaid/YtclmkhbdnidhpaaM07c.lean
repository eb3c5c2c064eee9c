/- Quotients and remainders by the prime. -/
import Derived.Test.YtclmkhbdnidhpaaM07a
set_option linter.unusedVariables false
set_option linter.unusedSimpArgs false
namespace Go.Gm
open Go.Pi
theorem len_P : bits_Len64.f 2305843009213693951 = some 61 := by kernel_rfl
theorem lz_P : bits_LeadingZeros64.f 2305843009213693951 = some 3 := by unfold bits_LeadingZeros64.f; rw [len_P]; kernel_rfl
theorem div64_P (k : Nat) (hi lo : Int) (h0 : 0 ≤ hi) (h1 : hi < 2305843009213693951) (l0 : 0 ≤ lo) (l1 : lo < 18446744073709551616) : ∃ q, bits_Div64.f (k + 6) hi lo 2305843009213693951 = some (q, (hi * 18446744073709551616 + lo) % 2305843009213693951) := by
  unfold bits_Div64.f
  have c1 : (((2305843009213693951 : Int) == (0 : Int)) = false) := rfl
  have c2 : ¬ ((2305843009213693951 : Int) ≤ hi) := by omega
  simp only [c1, decide_eq_false c2, condF]
  by_cases hz : hi = 0
  · subst hz
    have e : (!decide ((2305843009213693951 : Int) = 0)) = true := rfl
    simp only [beq_self_eq_true, e, condT]
    exact ⟨_, by rw [tmod_nn l0, Int.zero_mul, Int.zero_add]⟩
  · have c3 : (hi == (0 : Int)) = false := by simpa using hz
    simp only [c3, condF, lz_P, bindO_s]
    have e1 : IntKind.u64.wrap 3 = 3 := by decide
    have e2 : IntKind.u64.wrap (64 - 3) = 61 := by decide
    have e3 : nonneg 3 = true := rfl
    have e4 : nonneg 61 = true := rfl
    simp only [e1, e2, e3, e4, condT]
    have y1 : zshl .u64 2305843009213693951 3 = 18446744073709551608 := by rw [show (3 : Int) = ((3 : Nat) : Int) from rfl, zshl_u64 _ 3 (by decide)]; decide
    have y2 : zshr .u64 18446744073709551608 32 = 4294967295 := by rw [show (32 : Int) = ((32 : Nat) : Int) from rfl, zshr_u64 _ 32 (by decide)]; decide
    have y3 : zbits .and .u64 18446744073709551608 4294967295 = 4294967288 := by rw [show (4294967295 : Int) = 2 ^ 32 - 1 by decide, zand_mask .u64 _ 32 (by decide), wrap_u64]; decide
    have s1 : zshl .u64 hi 3 = hi * 8 := by
      rw [show (3 : Int) = ((3 : Nat) : Int) from rfl, zshl_u64 _ 3 (by decide), show (2 : Int) ^ 3 = 8 by decide]; omega
    have s2 : zshl .u64 lo 3 = lo * 8 % 18446744073709551616 := by
      rw [show (3 : Int) = ((3 : Nat) : Int) from rfl, zshl_u64 _ 3 (by decide), show (2 : Int) ^ 3 = 8 by decide]
    have s3 : zshr .u64 lo 61 = lo / 2305843009213693952 := by
      rw [show (61 : Int) = ((61 : Nat) : Int) from rfl, zshr_u64 _ 61 (by decide), show (2 : Int) ^ 61 = 2305843009213693952 by decide]
    have s4 : zbits .or .u64 (hi * 8) (lo / 2305843009213693952) = hi * 8 + lo / 2305843009213693952 :=
      zor_parts _ _ 3 (by decide) (by omega) (by omega) (by rw [show (2 : Int) ^ 3 = 8 by decide]; omega) (by omega) (by rw [show (2 : Int) ^ 3 = 8 by decide]; omega)
    have s5 : zshr .u64 (lo * 8 % 18446744073709551616) 32 = lo * 8 % 18446744073709551616 / 4294967296 := by
      rw [show (32 : Int) = ((32 : Nat) : Int) from rfl, zshr_u64 _ 32 (by decide), show (2 : Int) ^ 32 = 4294967296 by decide]
    have s6 : zbits .and .u64 (lo * 8 % 18446744073709551616) 4294967295 = lo * 8 % 18446744073709551616 % 4294967296 := by
      rw [show (4294967295 : Int) = 2 ^ 32 - 1 by decide, zand_mask .u64 _ 32 (by decide), show (2 : Int) ^ 32 = 4294967296 by decide, wrap_u64]; omega
    simp only [y1, y2, y3, s1, s2, s3, s4, s5, s6]
    have e5 : (!decide ((4294967295 : Int) = 0)) = true := rfl
    simp only [e5, condT]
    generalize hu : hi * 8 + lo / 2305843009213693952 = un32
    have u1 : 0 ≤ un32 := by omega
    have u2 : un32 < 18446744073709551608 := by omega
    rw [tdiv_nn u1]
    have w1 : IntKind.u64.wrap (un32 / 4294967295) = un32 / 4294967295 := u64_in (by omega) (by omega)
    have w2 : IntKind.u64.wrap (un32 / 4294967295 * 4294967295) = un32 / 4294967295 * 4294967295 := u64_in (by omega) (by omega)
    have w3 : IntKind.u64.wrap (un32 - un32 / 4294967295 * 4294967295) = un32 - un32 / 4294967295 * 4294967295 := u64_in (by omega) (by omega)
    rw [w1, w2, w3]
    obtain ⟨a, h⟩ := l0_done k (lo * 8 % 18446744073709551616 % 4294967296) (lo * 8 % 18446744073709551616 / 4294967296) un32 (un32 / 4294967295) (un32 - un32 / 4294967295 * 4294967295)
      (by omega) (by omega) (by omega) (by omega) u1 u2 (by omega) (by omega) (by omega) (by omega) (by omega) (by omega)
    refine ⟨a, ?_⟩
    rw [h]
    congr 2
    omega

theorem rem64_P (k : Nat) (hi lo : Int) (h0 : 0 ≤ hi) (l0 : 0 ≤ lo) (l1 : lo < 18446744073709551616) : bits_Rem64.f (k + 6) hi lo 2305843009213693951 = some ((hi * 18446744073709551616 + lo) % 2305843009213693951) := by
  unfold bits_Rem64.f
  have e : (!decide ((2305843009213693951 : Int) = 0)) = true := rfl
  simp only [e, condT, tmod_nn h0]
  obtain ⟨q, h⟩ := div64_P k (hi % 2305843009213693951) lo (by omega) (by omega) l0 l1
  rw [h, bindO_s]
  congr 1
  omega
theorem dmul (k : Nat) (a b : Int) (ha : 0 ≤ a) (hb : 0 ≤ b) : digest_mul.f (k + 6) a b = some (a * b % 2305843009213693951) := by
  unfold digest_mul.f
  rw [tmod_nn ha, tmod_nn hb, mul64 _ _ (by omega) (by omega) (by omega) (by omega), bindO_s]
  have hn : 0 ≤ a % 2305843009213693951 * (b % 2305843009213693951) := Int.mul_nonneg (by omega) (by omega)
  rw [rem64_P k _ _ (by omega) (by omega) (by omega), bindO_s]
  congr 1
  have : a % 2305843009213693951 * (b % 2305843009213693951) / 18446744073709551616 * 18446744073709551616 + a % 2305843009213693951 * (b % 2305843009213693951) % 18446744073709551616 = a % 2305843009213693951 * (b % 2305843009213693951) := by omega
  rw [this, ← Int.mul_emod]
theorem dmul' (k : Nat) (hk : 6 ≤ k) (a b : Int) (ha : 0 ≤ a) (hb : 0 ≤ b) : digest_mul.f k a b = some (a * b % 2305843009213693951) := by
  obtain ⟨k, rfl⟩ : ∃ m, k = m + 6 := ⟨k - 6, by omega⟩
  exact dmul k a b ha hb
end Go.Gm
