/- Words about numbers: what wraps, shifts and masks come to. -/
import Derived.Test.YtpgnlkenclkgbaaPi24
set_option linter.unusedVariables false
set_option linter.unusedSimpArgs false
namespace Go.Gm
open Go.Pi

/- (not by rfl: so that simp leaves a proof) -/
theorem condT {α : Type} (a b : α) : cond true a b = a := Eq.trans rfl rfl
theorem condF {α : Type} (a b : α) : cond false a b = b := Eq.trans rfl rfl
theorem bindO_s {α β : Type} (x : α) (f : α → Option β) : bindO (some x) f = f x := Eq.trans rfl rfl
theorem wrap_u64 (x : Int) : IntKind.u64.wrap x = x % 18446744073709551616 := by simp [IntKind.wrap, IntKind.bits, IntKind.signed]
theorem wrap_u32 (x : Int) : IntKind.u32.wrap x = x % 4294967296 := by simp [IntKind.wrap, IntKind.bits, IntKind.signed]
theorem wrap_u16 (x : Int) : IntKind.u16.wrap x = x % 65536 := by simp [IntKind.wrap, IntKind.bits, IntKind.signed]
theorem wrap_u8 (x : Int) : IntKind.u8.wrap x = x % 256 := by simp [IntKind.wrap, IntKind.bits, IntKind.signed]
theorem wrap_i64 (x : Int) : IntKind.i64.wrap x = if 9223372036854775808 ≤ x % 18446744073709551616 then x % 18446744073709551616 - 18446744073709551616 else x % 18446744073709551616 := by
  simp [IntKind.wrap, IntKind.bits, IntKind.signed]
theorem i64_in {x : Int} (h1 : -9223372036854775808 ≤ x) (h2 : x ≤ 9223372036854775807) : IntKind.i64.wrap x = x := by rw [wrap_i64]; omega
theorem i64_bd (x : Int) : -9223372036854775808 ≤ IntKind.i64.wrap x ∧ IntKind.i64.wrap x ≤ 9223372036854775807 := by rw [wrap_i64]; omega
theorem u64_in {x : Int} (h1 : 0 ≤ x) (h2 : x < 18446744073709551616) : IntKind.u64.wrap x = x := by rw [wrap_u64]; omega
theorem u64_bd (x : Int) : 0 ≤ IntKind.u64.wrap x ∧ IntKind.u64.wrap x < 18446744073709551616 := by rw [wrap_u64]; omega
theorem u32_in {x : Int} (h1 : 0 ≤ x) (h2 : x < 4294967296) : IntKind.u32.wrap x = x := by rw [wrap_u32]; omega
theorem u8_in {x : Int} (h1 : 0 ≤ x) (h2 : x < 256) : IntKind.u8.wrap x = x := by rw [wrap_u8]; omega
theorem wf_u64 {x : Int} (h : (Lit.int .u64 x).wf = true) : 0 ≤ x ∧ x < 18446744073709551616 := by
  simp [Lit.wf, IntKind.min, IntKind.max, IntKind.signed, IntKind.bits] at h; omega
theorem wf_u32 {x : Int} (h : (Lit.int .u32 x).wf = true) : 0 ≤ x ∧ x < 4294967296 := by
  simp [Lit.wf, IntKind.min, IntKind.max, IntKind.signed, IntKind.bits] at h; omega
theorem wf_u16 {x : Int} (h : (Lit.int .u16 x).wf = true) : 0 ≤ x ∧ x < 65536 := by
  simp [Lit.wf, IntKind.min, IntKind.max, IntKind.signed, IntKind.bits] at h; omega
theorem wf_u8 {x : Int} (h : (Lit.int .u8 x).wf = true) : 0 ≤ x ∧ x < 256 := by
  simp [Lit.wf, IntKind.min, IntKind.max, IntKind.signed, IntKind.bits] at h; omega
theorem wf_i64 {x : Int} (h : (Lit.int .i64 x).wf = true) : -9223372036854775808 ≤ x ∧ x ≤ 9223372036854775807 := by
  simp [Lit.wf, IntKind.min, IntKind.max, IntKind.signed, IntKind.bits] at h; omega

theorem tmod_nn {a b : Int} (h : 0 ≤ a) : Int.tmod a b = a % b := Int.tmod_eq_emod_of_nonneg h
theorem tdiv_nn {a b : Int} (h : 0 ≤ a) : Int.tdiv a b = a / b := Int.tdiv_eq_ediv_of_nonneg h

theorem zshr_u64 (a : Int) (n : Nat) (h : n ≤ 64) : zshr .u64 a (n : Int) = a / 2 ^ n := by
  have : min n 64 = n := Nat.min_eq_left h
  simp only [zshr, IntKind.bits, Int.toNat_natCast, this]
  exact Int.fdiv_eq_ediv_of_nonneg _ (Int.le_of_lt (Int.pow_pos (by decide)))
theorem zshl_u64 (a : Int) (n : Nat) (h : n ≤ 64) : zshl .u64 a (n : Int) = (a * 2 ^ n) % 18446744073709551616 := by
  have : min n 64 = n := Nat.min_eq_left h
  simp only [zshl, IntKind.bits, Int.toNat_natCast, this, wrap_u64]

theorem ofInt_nat (w : Nat) (a : Int) : ((BitVec.ofInt w a).toNat : Int) = a % 2 ^ w := by
  rw [BitVec.toNat_ofInt]
  have hp : (0 : Int) < 2 ^ w := Int.pow_pos (by decide)
  rw [Int.toNat_of_nonneg (Int.emod_nonneg _ (by simpa using Int.ne_of_gt hp))]
  simp
theorem zbits_nat (op : BinOp) (k : IntKind) (a b : Int) (r : Nat) (hr : (match op with | .and => BitVec.ofInt k.bits a &&& BitVec.ofInt k.bits b | .or => BitVec.ofInt k.bits a ||| BitVec.ofInt k.bits b | .xor => BitVec.ofInt k.bits a ^^^ BitVec.ofInt k.bits b | _ => BitVec.ofInt k.bits a &&& ~~~(BitVec.ofInt k.bits b) : BitVec k.bits).toNat = r) :
    zbits op k a b = k.wrap (r : Int) := by rw [← hr]; rfl

/-- A mask of n ones. -/
theorem zand_mask (k : IntKind) (a : Int) (n : Nat) (h : n ≤ k.bits) : zbits .and k a (2 ^ n - 1) = k.wrap (a % 2 ^ n) := by
  have hp : (1 : Nat) ≤ 2 ^ n := Nat.one_le_two_pow
  have hle : 2 ^ n ≤ 2 ^ k.bits := Nat.pow_le_pow_right (by decide) h
  rw [zbits_nat .and k a (2 ^ n - 1) ((a % 2 ^ n).toNat)]
  · rw [Int.toNat_of_nonneg (Int.emod_nonneg _ (Int.ne_of_gt (Int.pow_pos (by decide))))]
  · simp only [BitVec.toNat_and]
    have e2 : (BitVec.ofInt k.bits (2 ^ n - 1)).toNat = 2 ^ n - 1 := by
      have : ((BitVec.ofInt k.bits (2 ^ n - 1)).toNat : Int) = ((2 ^ n - 1 : Nat) : Int) := by
        rw [ofInt_nat]
        have e : ((2 ^ n - 1 : Nat) : Int) = (2 : Int) ^ n - 1 := by
          rw [Int.natCast_sub hp]; simp
        rw [← e]
        have : ((2 : Int) ^ k.bits) = ((2 ^ k.bits : Nat) : Int) := by simp
        rw [this, ← Int.natCast_emod, Nat.mod_eq_of_lt (by omega)]
      exact_mod_cast this
    rw [e2, Nat.and_two_pow_sub_one_eq_mod]
    have : (((BitVec.ofInt k.bits a).toNat % 2 ^ n : Nat) : Int) = ((a % 2 ^ n).toNat : Int) := by
      rw [Int.natCast_emod, ofInt_nat, Int.toNat_of_nonneg (Int.emod_nonneg _ (Int.ne_of_gt (Int.pow_pos (by decide))))]
      have hd : ((2 ^ n : Nat) : Int) ∣ (2 : Int) ^ k.bits := by
        have := Nat.pow_dvd_pow 2 h
        have h2 : (((2 ^ n : Nat)) : Int) ∣ ((2 ^ k.bits : Nat) : Int) := Int.natCast_dvd_natCast.2 this
        simpa using h2
      rw [Int.emod_emod_of_dvd _ hd]
      simp
    exact_mod_cast this
/-- Parts that do not overlap. -/
theorem zor_parts (a b : Int) (n : Nat) (hn : n ≤ 64) (ha : 0 ≤ a) (ha' : a < 18446744073709551616) (hd : a % 2 ^ n = 0) (hb : 0 ≤ b) (hb' : b < 2 ^ n) : zbits .or .u64 a b = a + b := by
  obtain ⟨m, rfl⟩ := Int.eq_ofNat_of_zero_le ha
  obtain ⟨c, rfl⟩ := Int.eq_ofNat_of_zero_le hb
  have hc : c < 2 ^ n := by exact_mod_cast hb'
  have hc64 : c < 18446744073709551616 := Nat.lt_of_lt_of_le hc (Nat.le_trans (Nat.pow_le_pow_right (by decide) hn) (by decide))
  have hm : m % 2 ^ n = 0 := by exact_mod_cast hd
  obtain ⟨q, rfl⟩ : ∃ q, m = q * 2 ^ n := ⟨m / 2 ^ n, by have := Nat.div_add_mod m (2 ^ n); rw [hm, Nat.add_zero, Nat.mul_comm] at this; exact this.symm⟩
  have h1 : (BitVec.ofInt 64 ((q * 2 ^ n : Nat) : Int)).toNat = q * 2 ^ n := by
    have := ofInt_nat 64 ((q * 2 ^ n : Nat) : Int)
    have h64 : ((q * 2 ^ n : Nat) : Int) % 2 ^ 64 = ((q * 2 ^ n : Nat) : Int) := by
      have : q * 2 ^ n < 18446744073709551616 := by omega
      omega
    rw [h64] at this
    exact_mod_cast this
  have h2 : (BitVec.ofInt 64 (c : Int)).toNat = c := by
    have := ofInt_nat 64 (c : Int)
    have h64 : (c : Int) % 2 ^ 64 = (c : Int) := by omega
    rw [h64] at this
    exact_mod_cast this
  have hor : q * 2 ^ n ||| c = q * 2 ^ n + c := by
    rw [Nat.mul_comm]
    exact (Nat.two_pow_add_eq_or_of_lt hc q).symm
  have hsum : q * 2 ^ n + c < 18446744073709551616 := by
    have hq : q * 2 ^ n < 18446744073709551616 := by omega
    have : (2 : Nat) ^ 64 = 18446744073709551616 := by decide
    rw [← this] at hq ⊢
    have e : (2 : Nat) ^ 64 = 2 ^ (64 - n) * 2 ^ n := by rw [← Nat.pow_add]; congr 1; omega
    rw [e] at hq ⊢
    have hq' := Nat.lt_of_mul_lt_mul_right hq
    have : (q + 1) * 2 ^ n ≤ 2 ^ (64 - n) * 2 ^ n := Nat.mul_le_mul_right _ hq'
    rw [Nat.add_mul, Nat.one_mul] at this
    omega
  rw [zbits_nat .or .u64 _ _ (q * 2 ^ n + c) (by
    show (BitVec.ofInt 64 ((q * 2 ^ n : Nat) : Int) ||| BitVec.ofInt 64 (c : Int)).toNat = _
    rw [BitVec.toNat_or, h1, h2, hor])]
  rw [u64_in (by omega) (by omega)]
  simp
theorem zand32 (x : Int) : zbits .and .u64 x 4294967295 = x % 4294967296 := by
  have := zand_mask .u64 x 32 (by decide)
  rw [show (2 : Int) ^ 32 - 1 = 4294967295 by decide, show (2 : Int) ^ 32 = 4294967296 by decide] at this
  rw [this, wrap_u64]; omega
theorem zshr32 (x : Int) : zshr .u64 x 32 = x / 4294967296 := by
  have := zshr_u64 x 32 (by decide)
  rwa [show (2 : Int) ^ 32 = 4294967296 by decide] at this
theorem zshl4 (x : Int) : zshl .u64 x 4 = x * 16 % 18446744073709551616 := by
  have := zshl_u64 x 4 (by decide)
  rwa [show (2 : Int) ^ 4 = 16 by decide] at this
theorem inb_t' {i : Int} {n : Nat} (h0 : 0 ≤ i) (h1 : i < (n : Int)) : inb i n = true := by
  unfold inb
  rw [decide_eq_true h0, decide_eq_true h1]; rfl
theorem gd_get' {α : Type} (d : α) (l : List α) (i : Nat) (h : i < l.length) : gd d l (i : Int) = l[i] := by
  unfold gd
  simp [List.getD, List.getElem?_eq_getElem h]
end Go.Gm
