/- Polygons: what is simple, areas; motions, rotations and the opposite order. -/
import Derived.Test.YtpgnlkenclkgbaaM11a
set_option linter.unusedVariables false
set_option linter.unusedSimpArgs false
namespace Go.Gm
open Go.Pi

def crs (a b c : Spot) : Int := (b.1 - a.1) * (c.2 - b.2) - (b.2 - a.2) * (c.1 - b.1)
theorem crs_ref (a b c : Spot) : (b.1 - a.1) * (c.2 - a.2) - (b.2 - a.2) * (c.1 - a.1) = crs a b c := by unfold crs; grind
theorem crs_swap (a b c : Spot) : crs b a c = - crs a b c := by unfold crs; grind
theorem crs_cyc (a b c : Spot) : crs b c a = crs a b c := by unfold crs; grind
/-- q lies on the segment. -/
def hld (a b q : Spot) : Prop := crs a b q = 0 ∧ (min a.1 b.1 ≤ q.1 ∧ q.1 ≤ max a.1 b.1) ∧ (min a.2 b.2 ≤ q.2 ∧ q.2 ≤ max a.2 b.2)
def dvd2 (a b p q : Spot) : Prop := crs a b p < 0 ∧ 0 < crs a b q ∨ 0 < crs a b p ∧ crs a b q < 0
def mts (a b c d : Spot) : Prop := hld a b c ∨ hld a b d ∨ hld c d a ∨ hld c d b ∨ dvd2 a b c d ∧ dvd2 c d a b
instance (a b q : Spot) : Decidable (hld a b q) := by unfold hld; infer_instance
instance (a b p q : Spot) : Decidable (dvd2 a b p q) := by unfold dvd2; infer_instance
instance (a b c d : Spot) : Decidable (mts a b c d) := by unfold mts; infer_instance
theorem hld_swap (a b q : Spot) : hld b a q ↔ hld a b q := by
  unfold hld
  rw [crs_swap a b q, Int.min_comm b.1, Int.max_comm b.1, Int.min_comm b.2, Int.max_comm b.2]
  omega
theorem dvd2_swap (a b p q : Spot) : dvd2 b a p q ↔ dvd2 a b p q := by
  unfold dvd2; rw [crs_swap a b p, crs_swap a b q]; omega
theorem dvd2_swap2 (a b p q : Spot) : dvd2 a b q p ↔ dvd2 a b p q := by unfold dvd2; omega
theorem mts_symm (a b c d : Spot) : mts c d a b ↔ mts a b c d := by
  unfold mts
  generalize hld a b c = p1
  generalize hld a b d = p2
  generalize hld c d a = p3
  generalize hld c d b = p4
  generalize dvd2 a b c d = p5
  generalize dvd2 c d a b = p6
  constructor <;> (rintro (h | h | h | h | ⟨h, h'⟩) <;> simp [*])
theorem mts_swap1 (a b c d : Spot) : mts b a c d ↔ mts a b c d := by
  unfold mts
  rw [hld_swap a b c, hld_swap a b d, dvd2_swap a b c d, dvd2_swap2 c d a b]
  generalize hld a b c = p1
  generalize hld a b d = p2
  generalize hld c d a = p3
  generalize hld c d b = p4
  generalize dvd2 a b c d = p5
  generalize dvd2 c d a b = p6
  constructor <;> (rintro (h | h | h | h | ⟨h, h'⟩) <;> simp [*])
theorem mts_swap2 (a b c d : Spot) : mts a b d c ↔ mts a b c d := by rw [← mts_symm, mts_swap1, mts_symm]
theorem mts_swap (a b c d : Spot) : mts b a d c ↔ mts a b c d := by rw [mts_swap1, mts_swap2]

/-- Simple, round the ring. -/
structure Simple (p : List Spot) : Prop where
  ne : ∀ i : Int, atI p i ≠ atI p (i + 1)
  fwd : ∀ i : Int, ¬ hld (atI p i) (atI p (i + 1)) (atI p (i + 2))
  bwd : ∀ i : Int, ¬ hld (atI p (i + 1)) (atI p (i + 2)) (atI p i)
  far : ∀ i k : Int, ¬ ((p.length : Int) ∣ k - i) → ¬ ((p.length : Int) ∣ k - i - 1) → ¬ ((p.length : Int) ∣ k - i + 1) → ¬ mts (atI p i) (atI p (i + 1)) (atI p k) (atI p (k + 1))
/-- Simple, by indexes from 0 on. -/
structure SimpleN (p : List Spot) : Prop where
  ne : ∀ i : Nat, i < p.length → atI p i ≠ atI p ((i : Int) + 1)
  fwd : ∀ i : Nat, i < p.length → ¬ hld (atI p i) (atI p ((i : Int) + 1)) (atI p ((i : Int) + 2))
  bwd : ∀ i : Nat, i < p.length → ¬ hld (atI p ((i : Int) + 1)) (atI p ((i : Int) + 2)) (atI p i)
  far : ∀ i k : Nat, i + 2 ≤ k → k < p.length → ¬ (i = 0 ∧ k = p.length - 1) → ¬ mts (atI p i) (atI p ((i : Int) + 1)) (atI p k) (atI p ((k : Int) + 1))
theorem Simple_iff (p : List Spot) (h : 0 < p.length) : Simple p ↔ SimpleN p := by
  constructor
  · intro s
    refine ⟨fun i _ => s.ne i, fun i _ => s.fwd i, fun i _ => s.bwd i, fun i k h1 h2 h3 => s.far i k ?_ ?_ ?_⟩
    · rintro ⟨q, hq⟩
      have : 0 < q := by
        apply Int.not_le.1; intro hq0
        have := Int.mul_le_mul_of_nonneg_left hq0 (show (0 : Int) ≤ p.length by omega)
        omega
      have := Int.mul_le_mul_of_nonneg_left (show 1 ≤ q by omega) (show (0 : Int) ≤ p.length by omega)
      omega
    · rintro ⟨q, hq⟩
      have : 0 < q := by
        apply Int.not_le.1; intro hq0
        have := Int.mul_le_mul_of_nonneg_left hq0 (show (0 : Int) ≤ p.length by omega)
        omega
      have := Int.mul_le_mul_of_nonneg_left (show 1 ≤ q by omega) (show (0 : Int) ≤ p.length by omega)
      omega
    · rintro ⟨q, hq⟩
      have : 0 < q := by
        apply Int.not_le.1; intro hq0
        have := Int.mul_le_mul_of_nonneg_left hq0 (show (0 : Int) ≤ p.length by omega)
        omega
      have := Int.mul_le_mul_of_nonneg_left (show 1 ≤ q by omega) (show (0 : Int) ≤ p.length by omega)
      omega
  · intro s
    have hn : (0 : Int) < p.length := by omega
    have key : ∀ i : Int, ∃ m : Nat, m < p.length ∧ (m : Int) = i % (p.length : Int) := fun i => by
      have h0 := Int.emod_nonneg i (show (p.length : Int) ≠ 0 by omega)
      have h1 := Int.emod_lt_of_pos i hn
      exact ⟨(i % (p.length : Int)).toNat, by omega, by omega⟩
    have at0 : ∀ i : Int, atI p (i % (p.length : Int)) = atI p i := fun i => atI_mod p i
    refine ⟨fun i => ?_, fun i => ?_, fun i => ?_, fun i k h1 h2 h3 => ?_⟩
    · obtain ⟨m, hm, e⟩ := key i
      have := s.ne m hm
      rw [e, at0, atI_modadd] at this; exact this
    · obtain ⟨m, hm, e⟩ := key i
      have := s.fwd m hm
      rw [e, at0, atI_modadd, atI_modadd] at this; exact this
    · obtain ⟨m, hm, e⟩ := key i
      have := s.bwd m hm
      rw [e, at0, atI_modadd, atI_modadd] at this; exact this
    · obtain ⟨m, hm, e⟩ := key i
      obtain ⟨l, hl, f⟩ := key k
      have d1 := Int.mul_ediv_add_emod i (p.length : Int)
      have d2 := Int.mul_ediv_add_emod k (p.length : Int)
      have red : ∀ c : Int, ((p.length : Int) ∣ (l : Int) - m + c) → (p.length : Int) ∣ k - i + c := fun c ⟨q, hq⟩ => by
        refine ⟨q + k / (p.length : Int) - i / (p.length : Int), ?_⟩
        rw [Int.mul_sub, Int.mul_add, ← hq]
        rw [← e] at d1
        rw [← f] at d2
        omega
      have n1 : ¬ (l : Int) = m := fun q => h1 (by have := red 0 ⟨0, by omega⟩; simpa using this)
      have n2 : ¬ (l : Int) = m + 1 := fun q => h2 (by have := red (-1) ⟨0, by omega⟩; simpa [Int.sub_eq_add_neg] using this)
      have n3 : ¬ (m : Int) = l + 1 := fun q => h3 (by have := red 1 ⟨0, by omega⟩; simpa using this)
      have n4 : ¬ (m = 0 ∧ l = p.length - 1) := fun q => h3 (by have := red 1 ⟨1, by omega⟩; simpa using this)
      have n5 : ¬ (l = 0 ∧ m = p.length - 1) := fun q => h2 (by have := red (-1) ⟨-1, by omega⟩; simpa [Int.sub_eq_add_neg] using this)
      by_cases c : m < l
      · have := s.far m l (by omega) hl n4
        rw [e, f, at0, at0, atI_modadd, atI_modadd] at this; exact this
      · have := s.far l m (by omega) hm n5
        rw [e, f, at0, at0, atI_modadd, atI_modadd, mts_symm] at this; exact this
/-- Under a rotation of the list. -/
theorem Simple.rot {p : List Spot} (h : 0 < p.length) (s : Simple p) (r : Nat) (hr : r ≤ p.length) : Simple (rotL p r) := by
  have a := atI_rotL p h r hr
  have hl := rotL_len p r
  refine ⟨fun i => ?_, fun i => ?_, fun i => ?_, fun i k h1 h2 h3 => ?_⟩
  · rw [a, a, show i + 1 + (r : Int) = i + r + 1 by omega]; exact s.ne _
  · rw [a, a, a, show i + 1 + (r : Int) = i + r + 1 by omega, show i + 2 + (r : Int) = i + r + 2 by omega]; exact s.fwd _
  · rw [a, a, a, show i + 1 + (r : Int) = i + r + 1 by omega, show i + 2 + (r : Int) = i + r + 2 by omega]; exact s.bwd _
  · rw [hl] at h1 h2 h3
    rw [a, a, a, a, show i + 1 + (r : Int) = i + r + 1 by omega, show k + 1 + (r : Int) = k + r + 1 by omega]
    exact s.far _ _ (by rwa [show k + (r : Int) - (i + r) = k - i by omega]) (by rwa [show k + (r : Int) - (i + r) = k - i by omega]) (by rwa [show k + (r : Int) - (i + r) = k - i by omega])
theorem Simple.rev {p : List Spot} (h : 0 < p.length) (s : Simple p) : Simple p.reverse := by
  have a := atI_reverse p h
  have hl : p.reverse.length = p.length := by simp
  refine ⟨fun i => ?_, fun i => ?_, fun i => ?_, fun i k h1 h2 h3 => ?_⟩
  · rw [a, a]
    have := s.ne (-1 - (i + 1))
    rw [show -1 - (i + 1) + 1 = -1 - i by omega] at this
    exact fun e => this e.symm
  · rw [a, a, a, hld_swap]
    have := s.bwd (-1 - (i + 2))
    rw [show -1 - (i + 2) + 1 = -1 - (i + 1) by omega, show -1 - (i + 2) + 2 = -1 - i by omega] at this
    exact this
  · rw [a, a, a, hld_swap]
    have := s.fwd (-1 - (i + 2))
    rw [show -1 - (i + 2) + 1 = -1 - (i + 1) by omega, show -1 - (i + 2) + 2 = -1 - i by omega] at this
    exact this
  · rw [hl] at h1 h2 h3
    rw [a, a, a, a, mts_swap]
    have hd : ∀ c : Int, ((p.length : Int) ∣ -1 - (k + 1) - (-1 - (i + 1)) + c) → (p.length : Int) ∣ k - i - c := fun c ⟨q, hq⟩ => ⟨-q, by rw [Int.mul_neg, ← hq]; omega⟩
    have := s.far (-1 - (i + 1)) (-1 - (k + 1)) (fun q => h1 (by have := hd 0 (by simpa using q); simpa using this)) (fun q => h3 (by have := hd (-1) (by simpa [Int.sub_eq_add_neg] using q); simpa using this)) (fun q => h2 (by have := hd 1 (by simpa using q); simpa using this))
    rw [show -1 - (i + 1) + 1 = -1 - i by omega, show -1 - (k + 1) + 1 = -1 - k by omega] at this
    exact this
/-- A motion, up to its sign. -/
structure Motion (f : Spot → Spot) (σ : Int) : Prop where
  sgn : σ = 1 ∨ σ = -1
  inj : ∀ a b, f a = f b → a = b
  crs : ∀ a b c, crs (f a) (f b) (f c) = σ * crs a b c
  hld : ∀ a b q, hld (f a) (f b) (f q) ↔ hld a b q
theorem Motion.dvd {f : Spot → Spot} {σ : Int} (m : Motion f σ) (a b p q : Spot) : dvd2 (f a) (f b) (f p) (f q) ↔ dvd2 a b p q := by
  unfold dvd2
  rw [m.crs, m.crs]
  rcases m.sgn with h | h <;> subst h <;> omega
theorem Motion.mts {f : Spot → Spot} {σ : Int} (m : Motion f σ) (a b c d : Spot) : mts (f a) (f b) (f c) (f d) ↔ mts a b c d := by
  unfold Gm.mts
  rw [m.hld, m.hld, m.hld, m.hld, m.dvd, m.dvd]
theorem Simple.map {p : List Spot} (h : 0 < p.length) {f : Spot → Spot} {σ : Int} (m : Motion f σ) : Simple (p.map f) ↔ Simple p := by
  have a := atI_map f p h
  have hl : (p.map f).length = p.length := by simp
  constructor
  · intro s
    refine ⟨fun i e => s.ne i ?_, fun i => ?_, fun i => ?_, fun i k h1 h2 h3 => ?_⟩
    · rw [a, a, e]
    · have := s.fwd i; rwa [a, a, a, m.hld] at this
    · have := s.bwd i; rwa [a, a, a, m.hld] at this
    · have := s.far i k (by rwa [hl]) (by rwa [hl]) (by rwa [hl]); rwa [a, a, a, a, m.mts] at this
  · intro s
    refine ⟨fun i e => s.ne i ?_, fun i => ?_, fun i => ?_, fun i k h1 h2 h3 => ?_⟩
    · rw [a, a] at e; exact m.inj _ _ e
    · rw [a, a, a, m.hld]; exact s.fwd i
    · rw [a, a, a, m.hld]; exact s.bwd i
    · rw [hl] at h1 h2 h3; rw [a, a, a, a, m.mts]; exact s.far i k h1 h2 h3

/-! areas -/
/-- Twice the area. -/
def area2 (p : List Spot) : Int := sumN p.length fun i => (atI p i).1 * (atI p (i + 1)).2 - (atI p i).2 * (atI p (i + 1)).1
theorem area2_alt (p : List Spot) (h : 0 < p.length) : - sumN p.length (fun i => ((atI p (i + 1)).1 - (atI p i).1) * ((atI p i).2 + (atI p (i + 1)).2)) = area2 p := by
  have hp : ∀ i, (atI p (i + p.length)).1 * (atI p (i + p.length)).2 = (atI p i).1 * (atI p i).2 := fun i => by rw [atI_add_len]
  have e := sumN_rot1 (f := fun i => (atI p i).1 * (atI p i).2) hp
  have e2 : sumN p.length (fun i => ((atI p (i + 1)).1 - (atI p i).1) * ((atI p i).2 + (atI p (i + 1)).2)) = sumN p.length (fun i => ((atI p (i + 1)).1 * (atI p (i + 1)).2 + - ((atI p i).1 * (atI p i).2)) + - ((atI p i).1 * (atI p (i + 1)).2 - (atI p i).2 * (atI p (i + 1)).1)) :=
    sumN_congr fun i _ => by grind
  rw [e2, sumN_add, sumN_add, sumN_neg, sumN_neg]
  unfold area2
  have e' : sumN p.length (fun i => (atI p (i + 1)).1 * (atI p (i + 1)).2) = sumN p.length (fun i => (atI p i).1 * (atI p i).2) := e
  rw [e']; omega
theorem area2_per (p : List Spot) (i : Int) : (atI p (i + p.length)).1 * (atI p (i + p.length + 1)).2 - (atI p (i + p.length)).2 * (atI p (i + p.length + 1)).1 = (atI p i).1 * (atI p (i + 1)).2 - (atI p i).2 * (atI p (i + 1)).1 := by
  rw [show i + (p.length : Int) + 1 = i + 1 + p.length by omega, atI_add_len, atI_add_len]
theorem area2_rot (p : List Spot) (h : 0 < p.length) (r : Nat) (hr : r ≤ p.length) : area2 (rotL p r) = area2 p := by
  have e := sumN_rot (n := p.length) (f := fun i => (atI p i).1 * (atI p (i + 1)).2 - (atI p i).2 * (atI p (i + 1)).1) (area2_per p) r
  unfold area2
  rw [rotL_len, ← e]
  apply sumN_congr
  intro i _
  rw [atI_rotL p h r hr, atI_rotL p h r hr, show (i : Int) + 1 + r = i + r + 1 by omega]
theorem area2_rev (p : List Spot) (h : 0 < p.length) : area2 p.reverse = - area2 p := by
  unfold area2
  have hp := area2_per p
  have e := sumN_neg1 (n := p.length) (f := fun i => (atI p (i - 1)).1 * (atI p i).2 - (atI p (i - 1)).2 * (atI p i).1) (fun i => by
    have := hp (i - 1)
    rw [show i - 1 + (p.length : Int) + 1 = i + p.length by omega, show i - 1 + 1 = i by omega, show i - 1 + (p.length : Int) = i + p.length - 1 by omega] at this
    exact this)
  have e2 := sumN_rot1 (n := p.length) (f := fun i => (atI p (i - 1)).1 * (atI p i).2 - (atI p (i - 1)).2 * (atI p i).1) (fun i => by
    have := hp (i - 1)
    rw [show i - 1 + (p.length : Int) + 1 = i + p.length by omega, show i - 1 + 1 = i by omega, show i - 1 + (p.length : Int) = i + p.length - 1 by omega] at this
    exact this)
  have e3 : sumN p.length (fun i => (atI p i).1 * (atI p (i + 1)).2 - (atI p i).2 * (atI p (i + 1)).1) = sumN p.length (fun i => (atI p (i + 1 - 1)).1 * (atI p (i + 1)).2 - (atI p (i + 1 - 1)).2 * (atI p (i + 1)).1) :=
    sumN_congr fun i _ => by rw [show (i : Int) + 1 - 1 = i by omega]
  rw [e3]
  have e4 : sumN p.length (fun i => (atI p (i + 1 - 1)).1 * (atI p (i + 1)).2 - (atI p (i + 1 - 1)).2 * (atI p (i + 1)).1) = sumN p.length (fun i => (atI p (i - 1)).1 * (atI p i).2 - (atI p (i - 1)).2 * (atI p i).1) := e2
  rw [e4, ← e, ← sumN_neg, List.length_reverse]
  apply sumN_congr
  intro i _
  rw [atI_reverse p h, atI_reverse p h, show -1 - ((i : Int) + 1) = -1 - i - 1 by omega]
  grind
end Go.Gm
