/- What the functions of the digests compute: the program's and the reference's. -/
import Derived.Test.YtclmkhbdnidhpaaM07c
set_option linter.unusedVariables false
set_option linter.unusedSimpArgs false
namespace Go.Gm
open Go.Pi

/-! the digests as numbers -/
def dgs : List UInt8 → Int → Int
  | [], d => d
  | c :: l, d => dgs l ((d * 1099511628211 + (c.toNat : Int) + 1) % 2305843009213693951)
def dig (s : ByteArray) : Int := dgs s.data.toList 0
def joinD (a : Int) (n : Nat) (b : Int) : Int := (a * 1099511628211 ^ n + b) % 2305843009213693951

theorem dgs_bd : ∀ (l : List UInt8) (d : Int), 0 ≤ d → d < 2305843009213693951 → 0 ≤ dgs l d ∧ dgs l d < 2305843009213693951
  | [], d, h1, h2 => ⟨h1, h2⟩
  | c :: l, d, h1, h2 => dgs_bd l _ (by omega) (by omega)
theorem dgs_append : ∀ (l m : List UInt8) (d : Int), dgs (l ++ m) d = dgs m (dgs l d)
  | [], _, _ => rfl
  | c :: l, m, d => dgs_append l m _

/-! reading a byte -/
theorem bt_get (s : ByteArray) (i : Nat) (h : i < s.size) : bt s (i : Int) = ((s.data.toList[i]'(by simpa using h)).toNat : Int) := by
  unfold bt
  have : ((i : Int).toNat) < s.size := by simpa using h
  rw [dif_pos this]
  rfl
theorem inb_t {i : Int} {n : Nat} (h0 : 0 ≤ i) (h1 : i < (n : Int)) : inb i n = true := by
  unfold inb
  rw [decide_eq_true h0, decide_eq_true h1]; rfl
theorem drop_get (l : List UInt8) (i : Nat) (h : i < l.length) : l.drop i = l[i] :: l.drop (i + 1) := List.drop_eq_getElem_cons h

/-! the program's -/
theorem Of_l0 (s : ByteArray) (hs : s.size ≤ 9223372036854775807) : ∀ (n k i : Nat) (d : Int), n = s.size - i → i ≤ s.size → n + 8 ≤ k → 0 ≤ d → d < 2305843009213693951 →
    digest_Of.l0 k s d (s.size : Int) (i : Int) = some (dgs (s.data.toList.drop i) d) := by
  intro n
  induction n with
  | zero =>
    intro k i d hn hi hk h0 h1
    obtain ⟨k, rfl⟩ : ∃ m, k = m + 1 := ⟨k - 1, by omega⟩
    have : ¬ ((i : Int) < (s.size : Int)) := by omega
    simp only [digest_Of.l0, decide_eq_false this, condF]
    rw [List.drop_of_length_le (by simp; omega)]
    rfl
  | succ n ih =>
    intro k i d hn hi hk h0 h1
    obtain ⟨k, rfl⟩ : ∃ m, k = m + 1 := ⟨k - 1, by omega⟩
    have hlt : i < s.size := by omega
    have hl : i < s.data.toList.length := by simpa using hlt
    have c : (i : Int) < (s.size : Int) := by omega
    simp only [digest_Of.l0, decide_eq_true c, condT, dmul' k (by omega) d 1099511628211 h0 (by decide), bindO_s, inb_t (Int.natCast_nonneg i) c, bt_get s i hlt]
    rw [drop_get _ i hl]
    have hb : ((s.data.toList[i]'hl).toNat : Int) < 256 := by have := (s.data.toList[i]'hl).toNat_lt; omega
    have e1 : IntKind.i64.wrap ((i : Int) + 1) = ((i + 1 : Nat) : Int) := by rw [i64_in (by omega) (by omega)]; omega
    rw [e1]
    generalize ((s.data.toList[i]'hl)) = c at *
    have e2 : Int.tmod (IntKind.u64.wrap (IntKind.u64.wrap (d * 1099511628211 % 2305843009213693951 + IntKind.u64.wrap (c.toNat : Int)) + 1)) 2305843009213693951 = (d * 1099511628211 + (c.toNat : Int) + 1) % 2305843009213693951 := by
      rw [u64_in (x := (c.toNat : Int)) (by omega) (by omega), u64_in (x := d * 1099511628211 % 2305843009213693951 + (c.toNat : Int)) (by omega) (by omega), u64_in (by omega) (by omega), tmod_nn (by omega)]
      omega
    rw [e2]
    exact ih k (i + 1) _ (by omega) (by omega) (by omega) (by omega) (by omega)
theorem Of_eq (s : ByteArray) (hs : s.size ≤ 9223372036854775807) (k : Nat) (hk : s.size + 8 ≤ k) : digest_Of.f k s = some (dig s) := by
  unfold digest_Of.f
  have := Of_l0 s hs s.size k 0 0 (by omega) (by omega) hk (by decide) (by decide)
  simpa [dig] using this

theorem radd (u v : Int) (h1 : 0 ≤ u) (h2 : u < 2305843009213693951) (h3 : 0 ≤ v) (h4 : v < 2305843009213693951) : ref07_add.f u v = some ((u + v) % 2305843009213693951) := by
  unfold ref07_add.f
  rw [u64_in (by omega) (by omega), tmod_nn (by omega)]
theorem rmul_l0 : ∀ (n k : Nat) (b x o : Int), 0 ≤ x → x < 2305843009213693951 → 0 ≤ o → o < 2305843009213693951 → 0 ≤ b → b < 18446744073709551616 → b < 2 ^ n → n + 1 ≤ k →
    ref07_mul.l0 k x b o = some ((o + x * b) % 2305843009213693951) := by
  intro n
  induction n with
  | zero =>
    intro k b x o hx hx' ho ho' hb hb6 hb' hk
    obtain ⟨k, rfl⟩ : ∃ m, k = m + 1 := ⟨k - 1, by omega⟩
    have hz : b = 0 := by simp at hb'; omega
    subst hz
    have : ¬ ((0 : Int) > 0) := by decide
    simp only [ref07_mul.l0, decide_eq_false this, condF, Int.mul_zero, Int.add_zero]
    rw [Int.emod_eq_of_lt ho ho']
  | succ n ih =>
    intro k b x o hx hx' ho ho' hb hb6 hb' hk
    obtain ⟨k, rfl⟩ : ∃ m, k = m + 1 := ⟨k - 1, by omega⟩
    by_cases hz : b = 0
    · subst hz
      have : ¬ ((0 : Int) > 0) := by decide
      simp only [ref07_mul.l0, decide_eq_false this, condF, Int.mul_zero, Int.add_zero]
      rw [Int.emod_eq_of_lt ho ho']
    · have hpos : b > 0 := by omega
      have hp : (2 : Int) ^ (n + 1) = 2 ^ n * 2 := Int.pow_succ ..
      have w : IntKind.u64.wrap (b / 2) = b / 2 := u64_in (by omega) (by omega)
      have hxx := radd x x hx hx' hx hx'
      have hox := radd o x ho ho' hx hx'
      simp only [ref07_mul.l0, decide_eq_true hpos, condT, tmod_nn hb, tdiv_nn hb, w, hxx, hox, bindO_s]
      have hb2 : b = b / 2 * 2 + b % 2 := by omega
      have i1 : 0 ≤ (x + x) % 2305843009213693951 := by omega
      have i2 : (x + x) % 2305843009213693951 < 2305843009213693951 := by omega
      have i3 : b / 2 < 2 ^ n := by omega
      by_cases h1 : b % 2 = 1
      · have e : (b % 2 == 1) = true := by simpa using h1
        rw [e, condT, ih k (b / 2) _ _ i1 i2 (by omega) (by omega) (by omega) (by omega) i3 (by omega)]
        congr 1
        have : o + x * b = o + x + (x + x) * (b / 2) := by
          have : x * b = x * (b / 2 * 2 + 1) := by rw [← h1, ← hb2]
          rw [this]; grind
        rw [this, Int.add_emod, Int.mul_emod]
        simp [Int.add_emod, Int.mul_emod]
      · have e : (b % 2 == 1) = false := by simpa using h1
        rw [e, condF, ih k (b / 2) _ _ i1 i2 ho ho' (by omega) (by omega) i3 (by omega)]
        congr 1
        have : o + x * b = o + (x + x) * (b / 2) := by
          have h0 : b % 2 = 0 := by omega
          have : x * b = x * (b / 2 * 2 + 0) := by rw [← h0, ← hb2]
          rw [this]; grind
        rw [this, Int.add_emod, Int.mul_emod]
        simp [Int.add_emod, Int.mul_emod]
theorem rmul (k : Nat) (hk : 65 ≤ k) (a b : Int) (ha : 0 ≤ a) (ha' : a < 2305843009213693951) (hb : 0 ≤ b) (hb' : b < 18446744073709551616) : ref07_mul.f k a b = some (a * b % 2305843009213693951) := by
  unfold ref07_mul.f
  rw [rmul_l0 64 k b a 0 ha ha' (by decide) (by decide) hb hb' (by have : (2 : Int) ^ 64 = 18446744073709551616 := by decide
                                                                   omega) hk, Int.zero_add]
theorem rOf_l0 (s : ByteArray) (hs : s.size ≤ 9223372036854775807) : ∀ (n k i : Nat) (d : Int), n = s.size - i → i ≤ s.size → n + 70 ≤ k → 0 ≤ d → d < 2305843009213693951 →
    ref07_Of.l0 k s d (i : Int) = some (dgs (s.data.toList.drop i) d) := by
  intro n
  induction n with
  | zero =>
    intro k i d hn hi hk h0 h1
    obtain ⟨k, rfl⟩ : ∃ m, k = m + 1 := ⟨k - 1, by omega⟩
    have : ¬ ((i : Int) < (s.size : Int)) := by omega
    simp only [ref07_Of.l0, decide_eq_false this, condF]
    rw [List.drop_of_length_le (by simp; omega)]
    rfl
  | succ n ih =>
    intro k i d hn hi hk h0 h1
    obtain ⟨k, rfl⟩ : ∃ m, k = m + 1 := ⟨k - 1, by omega⟩
    have hlt : i < s.size := by omega
    have hl : i < s.data.toList.length := by simpa using hlt
    have c : (i : Int) < (s.size : Int) := by omega
    simp only [ref07_Of.l0, decide_eq_true c, condT, rmul k (by omega) d 1099511628211 h0 h1 (by decide) (by decide), bindO_s, inb_t (Int.natCast_nonneg i) c, bt_get s i hlt]
    rw [drop_get _ i hl]
    have hb : ((s.data.toList[i]'hl).toNat : Int) < 256 := by have := (s.data.toList[i]'hl).toNat_lt; omega
    have e1 : IntKind.i64.wrap ((i : Int) + 1) = ((i + 1 : Nat) : Int) := by rw [i64_in (by omega) (by omega)]; omega
    rw [e1]
    generalize ((s.data.toList[i]'hl)) = c at *
    rw [u64_in (x := (c.toNat : Int)) (by omega) (by omega), u64_in (x := (c.toNat : Int) + 1) (by omega) (by omega), radd _ _ (by omega) (by omega) (by omega) (by omega), bindO_s]
    have e2 : (d * 1099511628211 % 2305843009213693951 + ((c.toNat : Int) + 1)) % 2305843009213693951 = (d * 1099511628211 + (c.toNat : Int) + 1) % 2305843009213693951 := by omega
    rw [e2]
    exact ih k (i + 1) _ (by omega) (by omega) (by omega) (by omega) (by omega)
theorem rOf_eq (s : ByteArray) (hs : s.size ≤ 9223372036854775807) (k : Nat) (hk : s.size + 70 ≤ k) : ref07_Of.f k s = some (dig s) := by
  unfold ref07_Of.f
  have := rOf_l0 s hs s.size k 0 0 (by omega) (by omega) hk (by decide) (by decide)
  simpa [dig] using this

/-! powers -/
theorem pow_half (q : Int) (m : Nat) : q ^ m = (if m % 2 = 1 then q else 1) * (q * q) ^ (m / 2) := by
  have h : m = m / 2 + m / 2 + m % 2 := by omega
  rcases Nat.mod_two_eq_zero_or_one m with h0 | h0
  · rw [h0] at h ⊢
    rw [if_neg (by decide), Int.one_mul, Int.mul_pow, ← Int.pow_add]
    congr 1
  · rw [h0] at h ⊢
    rw [if_pos rfl, Int.mul_pow, ← Int.pow_add]
    conv => lhs; rw [h, Int.pow_succ]
    grind
theorem emod_pow (a P : Int) (n : Nat) : (a % P) ^ n % P = a ^ n % P := by
  induction n with
  | zero => simp
  | succ n ih => rw [Int.pow_succ, Int.pow_succ, Int.mul_emod, ih, Int.emod_emod, ← Int.mul_emod]
theorem Join_l0 : ∀ (N k : Nat) (a n b p q : Int) , 0 ≤ a → 0 ≤ b → n ≤ 9223372036854775807 → n.toNat < 2 ^ N → N + 8 ≤ k → 0 ≤ p → 0 ≤ q →
    digest_Join.l0 k a n b p q = some ((a * (p * q ^ n.toNat) + b) % 2305843009213693951) := by
  intro N
  induction N with
  | zero =>
    intro k a n b p q ha hb hn hN hk hp hq
    obtain ⟨k, rfl⟩ : ∃ m, k = m + 1 := ⟨k - 1, by omega⟩
    have hz : n.toNat = 0 := by simpa using hN
    have : ¬ (n > 0) := by omega
    simp only [digest_Join.l0, decide_eq_false this, condF, dmul' k (by omega) a p ha hp, bindO_s, tmod_nn hb]
    rw [u64_in (by omega) (by omega), tmod_nn (by omega), hz, Int.pow_zero, Int.mul_one]
    congr 1
    omega
  | succ N ih =>
    intro k a n b p q ha hb hn hN hk hp hq
    obtain ⟨k, rfl⟩ : ∃ m, k = m + 1 := ⟨k - 1, by omega⟩
    by_cases hz : n ≤ 0
    · have : ¬ (n > 0) := by omega
      have hz' : n.toNat = 0 := by omega
      simp only [digest_Join.l0, decide_eq_false this, condF, dmul' k (by omega) a p ha hp, bindO_s, tmod_nn hb]
      rw [u64_in (by omega) (by omega), tmod_nn (by omega), hz', Int.pow_zero, Int.mul_one]
      congr 1
      omega
    · have hpos : n > 0 := by omega
      have hn0 : 0 ≤ n := by omega
      have hp2 : (2 : Nat) ^ (N + 1) = 2 ^ N * 2 := Nat.pow_succ ..
      have w : IntKind.i64.wrap (n / 2) = n / 2 := i64_in (by omega) (by omega)
      simp only [digest_Join.l0, decide_eq_true hpos, condT, tmod_nn hn0, tdiv_nn hn0, w, dmul' k (by omega) p q hp hq, dmul' k (by omega) q q hq hq, bindO_s]
      have ht : (n / 2).toNat = n.toNat / 2 := by omega
      have key : ∀ p' : Int, p' % 2305843009213693951 = (p * (if n.toNat % 2 = 1 then q else 1)) % 2305843009213693951 →
          (a * (p' * (q * q % 2305843009213693951) ^ (n / 2).toNat) + b) % 2305843009213693951 = (a * (p * q ^ n.toNat) + b) % 2305843009213693951 := by
        intro p' h
        rw [ht, pow_half q n.toNat, ← Int.mul_assoc p]
        have hX : (p' * (q * q % 2305843009213693951) ^ (n.toNat / 2)) % 2305843009213693951 = (p * (if n.toNat % 2 = 1 then q else 1) * (q * q) ^ (n.toNat / 2)) % 2305843009213693951 := by
          rw [Int.mul_emod, h, emod_pow, ← Int.mul_emod]
        rw [Int.add_emod, Int.mul_emod a, hX, ← Int.mul_emod, ← Int.add_emod]
      by_cases h1 : n % 2 = 1
      · have e : (n % 2 == 1) = true := by simpa using h1
        rw [e, condT, ih k a _ b _ _ ha hb (by omega) (by omega) (by omega) (by omega) (by omega)]
        rw [key _ (by rw [if_pos (by omega), Int.emod_emod])]
      · have e : (n % 2 == 1) = false := by simpa using h1
        rw [e, condF, ih k a _ b _ _ ha hb (by omega) (by omega) (by omega) (by omega) (by omega)]
        rw [key _ (by rw [if_neg (by omega), Int.mul_one])]
theorem Join_eq (k : Nat) (hk : 80 ≤ k) (a n b : Int) (ha : 0 ≤ a) (hb : 0 ≤ b) (hn : n ≤ 9223372036854775807) : digest_Join.f k a n b = some (joinD a n.toNat b) := by
  unfold digest_Join.f
  rw [Join_l0 64 k a n b 1 1099511628211 ha hb hn (by have : (2 : Nat) ^ 64 = 18446744073709551616 := by decide
                                                      omega) (by omega) (by decide) (by decide), Int.one_mul]
  rfl
theorem rpow_l0 : ∀ (N k : Nat) (n p q : Int) , n ≤ 9223372036854775807 → n.toNat < 2 ^ N → N + 70 ≤ k → 0 ≤ p → p < 2305843009213693951 → 0 ≤ q → q < 2305843009213693951 →
    ref07_power.l0 k n p q = some ((p * q ^ n.toNat) % 2305843009213693951) := by
  intro N
  induction N with
  | zero =>
    intro k n p q hn hN hk hp hp' hq hq'
    obtain ⟨k, rfl⟩ : ∃ m, k = m + 1 := ⟨k - 1, by omega⟩
    have hz : n.toNat = 0 := by simpa using hN
    have : ¬ (n > 0) := by omega
    simp only [ref07_power.l0, decide_eq_false this, condF]
    rw [hz, Int.pow_zero, Int.mul_one, Int.emod_eq_of_lt hp hp']
  | succ N ih =>
    intro k n p q hn hN hk hp hp' hq hq'
    obtain ⟨k, rfl⟩ : ∃ m, k = m + 1 := ⟨k - 1, by omega⟩
    by_cases hz : n ≤ 0
    · have : ¬ (n > 0) := by omega
      have hz' : n.toNat = 0 := by omega
      simp only [ref07_power.l0, decide_eq_false this, condF]
      rw [hz', Int.pow_zero, Int.mul_one, Int.emod_eq_of_lt hp hp']
    · have hpos : n > 0 := by omega
      have hn0 : 0 ≤ n := by omega
      have hp2 : (2 : Nat) ^ (N + 1) = 2 ^ N * 2 := Nat.pow_succ ..
      have w : IntKind.i64.wrap (n / 2) = n / 2 := i64_in (by omega) (by omega)
      simp only [ref07_power.l0, decide_eq_true hpos, condT, tmod_nn hn0, tdiv_nn hn0, w, rmul k (by omega) p q hp hp' hq (by omega), rmul k (by omega) q q hq hq' hq (by omega), bindO_s]
      have ht : (n / 2).toNat = n.toNat / 2 := by omega
      have key : ∀ p' : Int, p' % 2305843009213693951 = (p * (if n.toNat % 2 = 1 then q else 1)) % 2305843009213693951 →
          (p' * (q * q % 2305843009213693951) ^ (n / 2).toNat) % 2305843009213693951 = (p * q ^ n.toNat) % 2305843009213693951 := by
        intro p' h
        rw [ht, pow_half q n.toNat, ← Int.mul_assoc p]
        rw [Int.mul_emod p', h, emod_pow, ← Int.mul_emod]
      by_cases h1 : n % 2 = 1
      · have e : (n % 2 == 1) = true := by simpa using h1
        rw [e, condT, ih k _ _ _ (by omega) (by omega) (by omega) (by omega) (by omega) (by omega) (by omega)]
        rw [key _ (by rw [if_pos (by omega), Int.emod_emod])]
      · have e : (n % 2 == 1) = false := by simpa using h1
        rw [e, condF, ih k _ _ _ (by omega) (by omega) (by omega) (by omega) (by omega) (by omega) (by omega)]
        rw [key _ (by rw [if_neg (by omega), Int.mul_one])]
theorem rJoin_eq (k : Nat) (hk : 140 ≤ k) (a n b : Int) (ha : 0 ≤ a) (hb : 0 ≤ b) (hn : n ≤ 9223372036854775807) : ref07_Join.f k a n b = some (joinD a n.toNat b) := by
  unfold ref07_Join.f ref07_power.f
  rw [rpow_l0 64 k n 1 1099511628211 hn (by have : (2 : Nat) ^ 64 = 18446744073709551616 := by decide
                                            omega) (by omega) (by decide) (by decide) (by decide) (by decide), Int.one_mul, bindO_s, tmod_nn ha, tmod_nn hb]
  have hm : 0 ≤ (1099511628211 : Int) ^ n.toNat % 2305843009213693951 := by omega
  rw [rmul k (by omega) _ _ (by omega) (by omega) hm (by omega), bindO_s, radd _ _ (by omega) (by omega) (by omega) (by omega), bindO_s]
  congr 1
  unfold joinD
  rw [← Int.mul_emod, ← Int.add_emod]
end Go.Gm
