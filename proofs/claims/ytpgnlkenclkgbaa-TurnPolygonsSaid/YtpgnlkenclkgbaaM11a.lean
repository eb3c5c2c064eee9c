/- Polygons: lists of spots round a ring; sums over a ring. -/
import Derived.Test.YtpgnlkenclkgbaaML
set_option linter.unusedVariables false
set_option linter.unusedSimpArgs false
namespace Go.Gm
open Go.Pi

abbrev Spot := Int × Int
/-- The vertex with an index, round the ring. -/
def atI (p : List Spot) (i : Int) : Spot := p.getD (i % (p.length : Int)).toNat (0, 0)
theorem atI_mod (p : List Spot) (i : Int) : atI p (i % (p.length : Int)) = atI p i := by
  unfold atI; rw [Int.emod_emod_of_dvd i (Int.dvd_refl _)]
theorem atI_congr (p : List Spot) {i j : Int} (h : i % (p.length : Int) = j % (p.length : Int)) : atI p i = atI p j := by
  unfold atI; rw [h]
theorem atI_nat (p : List Spot) {i : Nat} (h : i < p.length) : atI p (i : Int) = p[i] := by
  unfold atI
  rw [Int.emod_eq_of_lt (by omega) (by omega), Int.toNat_natCast]
  simp [List.getD, List.getElem?_eq_getElem h]
theorem atI_gd (p : List Spot) {i : Nat} (h : i < p.length) : gd (0, 0) p (i : Int) = atI p (i : Int) := by
  rw [atI_nat p h, gd_get' _ p i h]
theorem atI_gdm (p : List Spot) (i : Nat) (h : 0 < p.length) : gd (0, 0) p ((i % p.length : Nat) : Int) = atI p (i : Int) := by
  rw [atI_gd p (Nat.mod_lt _ h)]
  apply atI_congr
  rw [Int.natCast_emod, Int.emod_emod_of_dvd _ (Int.dvd_refl _)]
theorem atI_add_len (p : List Spot) (i : Int) : atI p (i + p.length) = atI p i := atI_congr p (by simp)
theorem atI_mem (p : List Spot) (h : 0 < p.length) (i : Int) : atI p i ∈ p := by
  have h0 := Int.emod_nonneg i (show (p.length : Int) ≠ 0 by omega)
  have h1 := Int.emod_lt_of_pos i (show 0 < (p.length : Int) by omega)
  rw [← atI_mod]
  generalize i % (p.length : Int) = j at *
  obtain ⟨m, rfl⟩ := Int.eq_ofNat_of_zero_le h0
  rw [atI_nat p (by omega)]
  exact List.getElem_mem _
theorem atI_map (f : Spot → Spot) (p : List Spot) (h : 0 < p.length) (i : Int) : atI (p.map f) i = f (atI p i) := by
  have h0 := Int.emod_nonneg i (show (p.length : Int) ≠ 0 by omega)
  have h1 := Int.emod_lt_of_pos i (show 0 < (p.length : Int) by omega)
  have hl : (p.map f).length = p.length := by simp
  rw [← atI_mod p, ← atI_mod, hl]
  generalize i % (p.length : Int) = j at *
  obtain ⟨m, rfl⟩ := Int.eq_ofNat_of_zero_le h0
  rw [atI_nat p (by omega), atI_nat _ (by omega), List.getElem_map]
theorem mod_of {i j n : Int} (q : Int) (h : i = j + q * n) : i % n = j % n := by
  rw [h, Int.add_mul_emod_self_right]
theorem atI_modadd (p : List Spot) (i c : Int) : atI p (i % (p.length : Int) + c) = atI p (i + c) := by
  apply atI_congr
  have := Int.mul_ediv_add_emod i (p.length : Int)
  rw [Int.mul_comm] at this
  refine mod_of (-(i / (p.length : Int))) ?_
  rw [Int.neg_mul]
  generalize i / (p.length : Int) * (p.length : Int) = q at *
  omega
theorem atI_reverse (p : List Spot) (h : 0 < p.length) (i : Int) : atI p.reverse i = atI p (-1 - i) := by
  have h0 := Int.emod_nonneg i (show (p.length : Int) ≠ 0 by omega)
  have h1 := Int.emod_lt_of_pos i (show 0 < (p.length : Int) by omega)
  have hl : p.reverse.length = p.length := by simp
  have e : atI p (-1 - i) = atI p ((p.length : Int) - 1 - i % (p.length : Int)) := by
    apply atI_congr
    have := Int.mul_ediv_add_emod i (p.length : Int)
    refine mod_of (-(i / (p.length : Int)) - 1) ?_
    generalize i / (p.length : Int) = q at *
    generalize i % (p.length : Int) = r at *
    generalize (p.length : Int) = n at *
    subst this
    grind
  rw [e, ← atI_mod, hl]
  generalize i % (p.length : Int) = j at *
  obtain ⟨m, rfl⟩ := Int.eq_ofNat_of_zero_le h0
  have hm : m < p.length := by omega
  rw [atI_nat _ (by omega), List.getElem_reverse]
  have e2 : (p.length : Int) - 1 - (m : Int) = ((p.length - 1 - m : Nat) : Int) := by omega
  rw [e2, atI_nat p (by omega)]
/-- The list from an index on, and then its beginning. -/
def rotL {α : Type} (p : List α) (r : Nat) : List α := p.drop r ++ p.take r
theorem rotL_len {α : Type} (p : List α) (r : Nat) : (rotL p r).length = p.length := by
  unfold rotL; rw [List.length_append, List.length_drop, List.length_take]; omega
theorem atI_rotL (p : List Spot) (h : 0 < p.length) (r : Nat) (hr : r ≤ p.length) (i : Int) : atI (rotL p r) i = atI p (i + r) := by
  have h0 := Int.emod_nonneg i (show (p.length : Int) ≠ 0 by omega)
  have h1 := Int.emod_lt_of_pos i (show 0 < (p.length : Int) by omega)
  have hl := rotL_len p r
  have e : atI p (i + r) = atI p (i % (p.length : Int) + r) := (atI_modadd p i r).symm
  rw [e, ← atI_mod, hl]
  generalize i % (p.length : Int) = j at *
  obtain ⟨m, rfl⟩ := Int.eq_ofNat_of_zero_le h0
  have hm : m < p.length := by omega
  rw [atI_nat _ (by omega)]
  unfold rotL
  by_cases c : m + r < p.length
  · have e2 : (m : Int) + r = ((m + r : Nat) : Int) := by omega
    rw [e2, atI_nat p c, List.getElem_append_left (by rw [List.length_drop]; omega), List.getElem_drop]
    congr 1; omega
  · have e2 : (m : Int) + r = ((m + r - p.length : Nat) : Int) + p.length := by omega
    rw [e2, atI_add_len, atI_nat p (by omega), List.getElem_append_right (by rw [List.length_drop]; omega), List.getElem_take]
    congr 1; rw [List.length_drop]; omega
/-- Two lists of one length that agree round the ring. -/
theorem ext_atI {p q : List Spot} (hl : p.length = q.length) (h : ∀ i : Nat, i < p.length → atI p i = atI q i) : p = q := by
  apply List.ext_getElem hl
  intro i h1 h2
  rw [← atI_nat p h1, ← atI_nat q h2]
  exact h i h1

/-! sums round a ring -/
def sumN (n : Nat) (f : Int → Int) : Int := match n with
  | 0 => 0
  | n + 1 => sumN n f + f (n : Int)
theorem sumN_succ (n : Nat) (f : Int → Int) : sumN (n + 1) f = sumN n f + f (n : Int) := rfl
theorem sumN_congr {n : Nat} {f g : Int → Int} (h : ∀ i : Nat, i < n → f (i : Int) = g (i : Int)) : sumN n f = sumN n g := by
  induction n with
  | zero => rfl
  | succ n ih => rw [sumN_succ, sumN_succ, ih (fun i hi => h i (by omega)), h n (by omega)]
theorem sumN_add (n : Nat) (f g : Int → Int) : sumN n (fun i => f i + g i) = sumN n f + sumN n g := by
  induction n with
  | zero => rfl
  | succ n ih => rw [sumN_succ, sumN_succ, sumN_succ, ih]; omega
theorem sumN_mul (n : Nat) (c : Int) (f : Int → Int) : sumN n (fun i => c * f i) = c * sumN n f := by
  induction n with
  | zero => simp [sumN]
  | succ n ih => rw [sumN_succ, sumN_succ, ih, Int.mul_add]
theorem sumN_neg (n : Nat) (f : Int → Int) : sumN n (fun i => - f i) = - sumN n f := by
  induction n with
  | zero => rfl
  | succ n ih => rw [sumN_succ, sumN_succ, ih]; omega
theorem sumN_shift1 (n : Nat) (f : Int → Int) : sumN n (fun i => f (i + 1)) = sumN n f + f n - f 0 := by
  induction n with
  | zero => simp [sumN]
  | succ n ih =>
    rw [sumN_succ, sumN_succ, ih]
    have : ((n + 1 : Nat) : Int) = (n : Int) + 1 := by omega
    rw [this]; omega
theorem sumN_rot1 {n : Nat} {f : Int → Int} (hp : ∀ i, f (i + n) = f i) : sumN n (fun i => f (i + 1)) = sumN n f := by
  rw [sumN_shift1]
  have := hp 0
  rw [Int.zero_add] at this
  omega
theorem sumN_rot {n : Nat} {f : Int → Int} (hp : ∀ i, f (i + n) = f i) (r : Nat) : sumN n (fun i => f (i + r)) = sumN n f := by
  induction r with
  | zero => simp
  | succ r ih =>
    rw [← ih]
    have hp' : ∀ i, (fun i => f (i + r)) (i + n) = (fun i => f (i + r)) i := fun i => by
      show f (i + n + r) = f (i + r)
      rw [show i + n + r = i + r + n by omega]; exact hp _
    have e := sumN_rot1 (f := fun i => f (i + r)) hp'
    rw [← e]
    apply sumN_congr
    intro i _
    show f _ = f _
    congr 1; omega
theorem sumN_rev (n : Nat) (f : Int → Int) : sumN n (fun i => f ((n : Int) - 1 - i)) = sumN n f := by
  induction n generalizing f with
  | zero => rfl
  | succ n ih =>
    rw [sumN_succ]
    have h0 : sumN (n + 1) f = sumN n (fun i => f (i + 1)) + f 0 := by rw [sumN_shift1, sumN_succ]; omega
    have e : sumN n (fun i => f (((n + 1 : Nat) : Int) - 1 - i)) = sumN n (fun i => f (i + 1)) := by
      have := ih (fun i => f (i + 1))
      rw [← this]
      apply sumN_congr
      intro i hi
      show f _ = f _
      congr 1; omega
    rw [e, h0]
    have : ((n + 1 : Nat) : Int) - 1 - (n : Int) = 0 := by omega
    rw [this]
/-- Backwards round the ring. -/
theorem sumN_neg1 {n : Nat} {f : Int → Int} (hp : ∀ i, f (i + n) = f i) : sumN n (fun i => f (-1 - i)) = sumN n f := by
  rw [← sumN_rev n f]
  apply sumN_congr
  intro i _
  have := hp (-1 - (i : Int))
  rw [← this]
  congr 1; omega
theorem sumN_bound {n : Nat} {f : Int → Int} {B : Int} (hB : 0 ≤ B) (h : ∀ i : Nat, i < n → -B ≤ f i ∧ f i ≤ B) : -(n * B) ≤ sumN n f ∧ sumN n f ≤ n * B := by
  induction n with
  | zero => simp [sumN]
  | succ n ih =>
    have h1 := ih fun i hi => h i (by omega)
    have h2 := h n (by omega)
    rw [sumN_succ]
    have : ((n + 1 : Nat) : Int) * B = (n : Int) * B + B := by rw [Int.natCast_add, Int.add_mul]; simp
    omega
end Go.Gm
