/- Polygons: the program's checks and areas. -/
import Derived.Test.YtpgnlkenclkgbaaM11b
import Derived.Test.YtpgnlkenclkgbaaDQ
set_option linter.unusedVariables false
set_option linter.unusedSimpArgs false
namespace Go.Gm
open Go.Pi
open Classical in
noncomputable def dec (p : Prop) : Bool := decide p
theorem dec_t {p : Prop} (h : p) : dec p = true := @decide_eq_true p (Classical.propDecidable p) h
theorem dec_f {p : Prop} (h : ¬ p) : dec p = false := @decide_eq_false p (Classical.propDecidable p) h
theorem dec_iff {p q : Prop} (h : p ↔ q) : dec p = dec q := by rw [propext h]
theorem dec_decide (p : Prop) [Decidable p] : dec p = decide p := by
  by_cases h : p
  · rw [dec_t h, decide_eq_true h]
  · rw [dec_f h, decide_eq_false h]
theorem dec_eq_true {p : Prop} : dec p = true ↔ p := by
  by_cases hp : p
  · exact ⟨fun _ => hp, fun _ => dec_t hp⟩
  · rw [dec_f hp]; exact ⟨fun h => Bool.noConfusion h, fun h => absurd h hp⟩

/-- Within the limits. -/
def Ins (s : Spot) : Prop := (-1048576 ≤ s.1 ∧ s.1 ≤ 1048576) ∧ (-1048576 ≤ s.2 ∧ s.2 ≤ 1048576)
instance (s : Spot) : Decidable (Ins s) := by unfold Ins; infer_instance
theorem mul_bd {x y A B : Int} (hx : -A ≤ x ∧ x ≤ A) (hy : -B ≤ y ∧ y ≤ B) : -(A * B) ≤ x * y ∧ x * y ≤ A * B := by
  have hA : 0 ≤ A := by omega
  have hB : 0 ≤ B := by omega
  have h1 := Int.mul_nonneg (show 0 ≤ A - x by omega) (show 0 ≤ B + y by omega)
  have h2 := Int.mul_nonneg (show 0 ≤ A + x by omega) (show 0 ≤ B - y by omega)
  have h3 := Int.mul_nonneg (show 0 ≤ A - x by omega) (show 0 ≤ B - y by omega)
  have h4 := Int.mul_nonneg (show 0 ≤ A + x by omega) (show 0 ≤ B + y by omega)
  simp only [Int.sub_mul, Int.add_mul, Int.mul_sub, Int.mul_add] at h1 h2 h3 h4
  omega
theorem mul_bd21 {x y : Int} (hx : -2097152 ≤ x ∧ x ≤ 2097152) (hy : -2097152 ≤ y ∧ y ≤ 2097152) : -4398046511104 ≤ x * y ∧ x * y ≤ 4398046511104 := by
  have := mul_bd hx hy
  omega
theorem turn_eq {a b c : Spot} (ha : Ins a) (hb : Ins b) (hc : Ins c) : polygon_turn.f a b c = some (crs a b c) := by
  unfold polygon_turn.f crs
  obtain ⟨⟨a1, a2⟩, a3, a4⟩ := ha
  obtain ⟨⟨b1, b2⟩, b3, b4⟩ := hb
  obtain ⟨⟨c1, c2⟩, c3, c4⟩ := hc
  have m1 := mul_bd21 (x := b.1 - a.1) (y := c.2 - b.2) (by omega) (by omega)
  have m2 := mul_bd21 (x := b.2 - a.2) (y := c.1 - b.1) (by omega) (by omega)
  rw [i64_in (x := b.1 - a.1) (by omega) (by omega), i64_in (x := c.2 - b.2) (by omega) (by omega), i64_in (x := b.2 - a.2) (by omega) (by omega), i64_in (x := c.1 - b.1) (by omega) (by omega),
    i64_in (x := (b.1 - a.1) * (c.2 - b.2)) (by omega) (by omega), i64_in (x := (b.2 - a.2) * (c.1 - b.1)) (by omega) (by omega), i64_in (by omega) (by omega)]
theorem within_eq (n a b : Int) : polygon_within.f n a b = some (decide (min a b ≤ n ∧ n ≤ max a b)) := by
  unfold polygon_within.f
  have e1 : List.foldl zmin a [b] = min a b := by show zmin a b = _; unfold zmin; split <;> omega
  have e2 : List.foldl zmax a [b] = max a b := by show zmax a b = _; unfold zmax; split <;> omega
  rw [e1, e2]
  by_cases h : min a b ≤ n
  · rw [decide_eq_true h, condT]; congr 1; rw [Bool.eq_iff_iff, decide_eq_true_iff, decide_eq_true_iff]; exact ⟨fun x => ⟨h, x⟩, fun x => x.2⟩
  · rw [decide_eq_false h, condF]; congr 1; exact (decide_eq_false fun x => h x.1).symm
def mkS (a b : Spot) : Int × Int × Int × Int := (a.1, a.2, b)
theorem holds_eq {a b q : Spot} (ha : Ins a) (hb : Ins b) (hq : Ins q) : polygon_side_holds.f (mkS a b) q = some (decide (hld a b q)) := by
  have e : polygon_turn.f ((mkS a b).1, (mkS a b).2.1) (mkS a b).2.2 q = some (crs a b q) := turn_eq ha hb hq
  unfold polygon_side_holds.f
  rw [e, bindO_s, within_eq, bindO_s, within_eq, bindO_s]
  by_cases h1 : crs a b q = 0
  · rw [beq_iff_eq.2 h1, condT]
    by_cases h2 : min a.1 b.1 ≤ q.1 ∧ q.1 ≤ max a.1 b.1
    · rw [decide_eq_true (show min (mkS a b).1 (mkS a b).2.2.1 ≤ q.1 ∧ q.1 ≤ max (mkS a b).1 (mkS a b).2.2.1 from h2), condT]
      by_cases h3 : min a.2 b.2 ≤ q.2 ∧ q.2 ≤ max a.2 b.2
      · rw [decide_eq_true (show min (mkS a b).2.1 (mkS a b).2.2.2 ≤ q.2 ∧ q.2 ≤ max (mkS a b).2.1 (mkS a b).2.2.2 from h3), decide_eq_true (show hld a b q from ⟨h1, h2, h3⟩)]
      · rw [decide_eq_false (show ¬ (min (mkS a b).2.1 (mkS a b).2.2.2 ≤ q.2 ∧ q.2 ≤ max (mkS a b).2.1 (mkS a b).2.2.2) from h3), decide_eq_false (show ¬ hld a b q from fun x => h3 x.2.2)]
    · rw [decide_eq_false (show ¬ (min (mkS a b).1 (mkS a b).2.2.1 ≤ q.1 ∧ q.1 ≤ max (mkS a b).1 (mkS a b).2.2.1) from h2), condF, decide_eq_false (show ¬ hld a b q from fun x => h2 x.2.1)]
  · rw [beq_eq_false_iff_ne.2 h1, condF, decide_eq_false (show ¬ hld a b q from fun x => h1 x.1)]
theorem divides_eq {a b p q : Spot} (ha : Ins a) (hb : Ins b) (hp : Ins p) (hq : Ins q) : polygon_side_divides.f (mkS a b) p q = some (decide (dvd2 a b p q)) := by
  have e : polygon_turn.f ((mkS a b).1, (mkS a b).2.1) (mkS a b).2.2 p = some (crs a b p) := turn_eq ha hb hp
  have e' : polygon_turn.f ((mkS a b).1, (mkS a b).2.1) (mkS a b).2.2 q = some (crs a b q) := turn_eq ha hb hq
  unfold polygon_side_divides.f
  rw [e, bindO_s, e', bindO_s]
  have dv : decide (dvd2 a b p q) = decide (crs a b p < 0 ∧ 0 < crs a b q ∨ 0 < crs a b p ∧ crs a b q < 0) := by
    by_cases h : dvd2 a b p q
    · rw [decide_eq_true h, decide_eq_true (show crs a b p < 0 ∧ 0 < crs a b q ∨ 0 < crs a b p ∧ crs a b q < 0 from h)]
    · rw [decide_eq_false h, decide_eq_false (show ¬ (crs a b p < 0 ∧ 0 < crs a b q ∨ 0 < crs a b p ∧ crs a b q < 0) from h)]
  rw [dv]
  by_cases h1 : crs a b p < 0 <;> by_cases h2 : 0 < crs a b q <;> by_cases h3 : 0 < crs a b p <;> by_cases h4 : crs a b q < 0 <;> simp [h1, h2, h3, h4, GT.gt] <;> omega
theorem meets_eq {a b c d : Spot} (ha : Ins a) (hb : Ins b) (hc : Ins c) (hd : Ins d) : polygon_side_meets.f (mkS a b) (mkS c d) = some (decide (mts a b c d)) := by
  have e1 : polygon_side_holds.f (mkS a b) ((mkS c d).1, (mkS c d).2.1) = some (decide (hld a b c)) := holds_eq ha hb hc
  have e2 : polygon_side_holds.f (mkS a b) (mkS c d).2.2 = some (decide (hld a b d)) := holds_eq ha hb hd
  have e3 : polygon_side_holds.f (mkS c d) ((mkS a b).1, (mkS a b).2.1) = some (decide (hld c d a)) := holds_eq hc hd ha
  have e4 : polygon_side_holds.f (mkS c d) (mkS a b).2.2 = some (decide (hld c d b)) := holds_eq hc hd hb
  have e5 : polygon_side_divides.f (mkS a b) ((mkS c d).1, (mkS c d).2.1) (mkS c d).2.2 = some (decide (dvd2 a b c d)) := divides_eq ha hb hc hd
  have e6 : polygon_side_divides.f (mkS c d) ((mkS a b).1, (mkS a b).2.1) (mkS a b).2.2 = some (decide (dvd2 c d a b)) := divides_eq hc hd ha hb
  unfold polygon_side_meets.f
  rw [e1, bindO_s, e2, bindO_s, e3, bindO_s, e4, bindO_s, e5, bindO_s, e6, bindO_s]
  by_cases h1 : hld a b c
  · rw [decide_eq_true h1, condT, decide_eq_true (show mts a b c d from .inl h1)]
  rw [decide_eq_false h1, condF]
  by_cases h2 : hld a b d
  · rw [decide_eq_true h2, condT, decide_eq_true (show mts a b c d from .inr (.inl h2))]
  rw [decide_eq_false h2, condF]
  by_cases h3 : hld c d a
  · rw [decide_eq_true h3, condT, decide_eq_true (show mts a b c d from .inr (.inr (.inl h3)))]
  rw [decide_eq_false h3, condF]
  by_cases h4 : hld c d b
  · rw [decide_eq_true h4, condT, decide_eq_true (show mts a b c d from .inr (.inr (.inr (.inl h4))))]
  rw [decide_eq_false h4, condF]
  by_cases h5 : dvd2 a b c d
  · rw [decide_eq_true h5, condT]
    by_cases h6 : dvd2 c d a b
    · rw [decide_eq_true h6, decide_eq_true (show mts a b c d from .inr (.inr (.inr (.inr ⟨h5, h6⟩))))]
    · rw [decide_eq_false h6, decide_eq_false (show ¬ mts a b c d from fun x => by
        rcases x with x | x | x | x | x
        · exact h1 x
        · exact h2 x
        · exact h3 x
        · exact h4 x
        · exact h6 x.2)]
  · rw [decide_eq_false h5, condF, decide_eq_false (show ¬ mts a b c d from fun x => by
      rcases x with x | x | x | x | x
      · exact h1 x
      · exact h2 x
      · exact h3 x
      · exact h4 x
      · exact h5 x.1)]
def sidesD (p : List Spot) : List (Int × Int × Int × Int) := (List.range p.length).map fun i : Nat => mkS (atI p (i : Int)) (atI p ((i : Int) + 1))
theorem sidesD_len (p : List Spot) : (sidesD p).length = p.length := by unfold sidesD; simp
theorem sidesD_gd (p : List Spot) {i : Nat} (h : i < p.length) : gd (0, 0, 0, 0) (sidesD p) (i : Int) = mkS (atI p i) (atI p ((i : Int) + 1)) := by
  rw [gd_get' _ _ i (by rw [sidesD_len]; exact h)]
  unfold sidesD
  rw [List.getElem_map, List.getElem_range]
theorem sidesD_gdm (p : List Spot) (i : Nat) (h : 0 < p.length) : gd (0, 0, 0, 0) (sidesD p) ((i % p.length : Nat) : Int) = mkS (atI p i) (atI p ((i : Int) + 1)) := by
  rw [sidesD_gd p (Nat.mod_lt _ h), Int.natCast_emod, atI_mod, atI_modadd]
theorem sides_ev (p : List Spot) (hp : p.length ≤ 1000000) : Ev (fun k => polygon_sides.f k p) (sidesD p) := by
  unfold polygon_sides.f
  refine Ev.ct ?_ ?_
  · rw [decide_eq_true (show (0 : Int) ≤ (p.length : Int) by omega), decide_eq_true (Int.le_refl _), decide_eq_true (show (p.length : Int) * 32 ≤ 140737488355328 by omega)]; rfl
  rw [Int.toNat_natCast]
  -- the list as far as it is written
  have hz : ∀ i, i ≤ p.length → ((sidesD p).take i ++ List.replicate (p.length - i) ((0, 0, 0, 0) : Int × Int × Int × Int)).length = p.length := fun i hi => by
    rw [List.length_append, List.length_take, List.length_replicate, sidesD_len]; omega
  have := down (Q := fun i => Ev (fun k => polygon_sides.l0 k p p (p.length : Int) (i : Int) ((sidesD p).take i ++ List.replicate (p.length - i) (0, 0, 0, 0))) (sidesD p)) (n := p.length) ?_ ?_
  · simpa using this
  · refine Ev.step ?_
    simp only [polygon_sides.l0]
    refine Ev.cf dge (Ev.some ?_)
    rw [Nat.sub_self, List.replicate_zero, List.append_nil, List.take_of_length_le (by rw [sidesD_len]; omega)]
  · intro i hi q
    refine Ev.step ?_
    simp only [polygon_sides.l0]
    rw [wadd1 (by omega), tmod_nat]
    refine Ev.ct (dlt hi) (Ev.ct (inbN hi) (Ev.ct (ne0 (by omega)) (Ev.ct (inbN (Nat.mod_lt _ (by omega))) (Ev.ct (inbN (by rw [hz i (by omega)]; exact hi)) ?_))))
    rw [Int.toNat_natCast, atI_gdm p (i + 1) (by omega), atI_gd p hi]
    have e : ((sidesD p).take i ++ List.replicate (p.length - i) ((0, 0, 0, 0) : Int × Int × Int × Int)).set i (mkS (atI p i) (atI p ((i + 1 : Nat) : Int))) = (sidesD p).take (i + 1) ++ List.replicate (p.length - (i + 1)) (0, 0, 0, 0) := by
      have hl : ((sidesD p).take i).length = i := by rw [List.length_take, sidesD_len]; omega
      rw [List.set_append_right _ _ (by omega), hl, Nat.sub_self, take_succ' _ _ (by rw [sidesD_len]; exact hi), List.append_assoc]
      obtain ⟨m, hm⟩ : ∃ m, p.length - i = m + 1 := ⟨p.length - i - 1, by omega⟩
      rw [hm, List.replicate_succ, List.set_cons_zero, show p.length - (i + 1) = m by omega, List.singleton_append]
      congr 2
      unfold sidesD
      rw [List.getElem_map, List.getElem_range]
      congr 1
    have e' : ((atI p i).1, (atI p i).2, atI p ((i + 1 : Nat) : Int)) = mkS (atI p i) (atI p ((i + 1 : Nat) : Int)) := rfl
    rw [e', e]
    exact q
section
variable {p : List Spot} (hp : p.length ≤ 1000000) (h3 : 0 < p.length) (hins : ∀ s ∈ p, Ins s)
include hp h3 hins
omit hp in
theorem insI (i : Int) : Ins (atI p i) := hins _ (atI_mem p h3 i)
/-- What is wrong with the side i. -/
def badS (p : List Spot) (i : Nat) : Prop := atI p i = atI p ((i : Int) + 1) ∨ hld (atI p i) (atI p ((i : Int) + 1)) (atI p ((i : Int) + 2)) ∨ hld (atI p ((i : Int) + 1)) (atI p ((i : Int) + 2)) (atI p i) ∨
  ∃ k : Nat, i + 2 ≤ k ∧ k < p.length ∧ ¬ (i = 0 ∧ k = p.length - 1) ∧ mts (atI p i) (atI p ((i : Int) + 1)) (atI p k) (atI p ((k : Int) + 1))
omit hp h3 hins in
theorem badS_iff (p : List Spot) : SimpleN p ↔ ∀ i, i < p.length → ¬ badS p i := by
  constructor
  · rintro s i hi (h | h | h | ⟨k, h1, h2, h4, h5⟩)
    · exact s.ne i hi h
    · exact s.fwd i hi h
    · exact s.bwd i hi h
    · exact s.far i k h1 h2 h4 h5
  · intro h
    refine ⟨fun i hi e => h i hi (.inl e), fun i hi e => h i hi (.inr (.inl e)), fun i hi e => h i hi (.inr (.inr (.inl e))), fun i k h1 h2 h4 h5 => h i (by omega) (.inr (.inr (.inr ⟨k, h1, h2, h4, h5⟩)))⟩
theorem simple_ev : Ev (fun k => polygon_simple.f k p) (dec (Simple p)) := by
  rw [dec_iff (Simple_iff p h3), dec_iff (badS_iff p)]
  unfold polygon_simple.f
  refine Ev.bind (sides_ev p hp) ?_
  rw [sidesD_len]
  have I := insI h3 hins
  have I1 := fun i : Int => I i
  refine search (Q := fun i => Ev (fun k => polygon_simple.l0 k (p.length : Int) (i : Int) (sidesD p)) (dec (∀ i, i < p.length → ¬ badS p i))) (bad := badS p) (n := p.length) (fun hn => ?_) (fun i hi hn hb => ?_) (fun i hi hn hb q => ?_)
  · refine Ev.step ?_
    simp only [polygon_simple.l0]
    exact Ev.cf dge (Ev.some (dec_t hn).symm)
  all_goals
    refine Ev.step ?_
    simp only [polygon_simple.l0]
    rw [sidesD_len, sidesD_gd p hi, wadd1 (by omega), tmod_nat, sidesD_gdm p (i + 1) h3, show IntKind.i64.wrap ((i : Int) + 2) = ((i + 2 : Nat) : Int) from wadd 2 (by omega)]
    refine Ev.ct (dlt hi) (Ev.ct (inbN hi) ?_)
    have c1 : ((i + 1 : Nat) : Int) = (i : Int) + 1 := by omega
    have c2 : ((i + 1 : Nat) : Int) + 1 = (i : Int) + 2 := by omega
    have eA : andB (eqI (mkS (atI p i) (atI p ((i : Int) + 1))).1 (mkS (atI p i) (atI p ((i : Int) + 1))).2.2.1) (andB (eqI (mkS (atI p i) (atI p ((i : Int) + 1))).2.1 (mkS (atI p i) (atI p ((i : Int) + 1))).2.2.2) true) = decide (atI p i = atI p ((i : Int) + 1)) := by
      unfold andB eqI mkS
      rw [Bool.eq_iff_iff]
      simp [Prod.ext_iff]
    rw [eA, c2, c1]
    have b1 : polygon_side_holds.f (mkS (atI p i) (atI p ((i : Int) + 1))) (mkS (atI p ((i : Int) + 1)) (atI p ((i : Int) + 2))).2.2 = some (decide (hld (atI p i) (atI p ((i : Int) + 1)) (atI p ((i : Int) + 2)))) := holds_eq (I _) (I _) (I _)
    have b2 : polygon_side_holds.f (mkS (atI p ((i : Int) + 1)) (atI p ((i : Int) + 2))) ((mkS (atI p i) (atI p ((i : Int) + 1))).1, (mkS (atI p i) (atI p ((i : Int) + 1))).2.1) = some (decide (hld (atI p ((i : Int) + 1)) (atI p ((i : Int) + 2)) (atI p i))) := holds_eq (I _) (I _) (I _)
    rw [b1, b2]
    -- the inner loop
    have inner : ∀ (r : Bool), (∀ k : Nat, i + 2 ≤ k → k < p.length → ¬ (i = 0 ∧ k = p.length - 1) → mts (atI p i) (atI p ((i : Int) + 1)) (atI p k) (atI p ((k : Int) + 1)) → r = false) →
        ((∀ k : Nat, i + 2 ≤ k → k < p.length → ¬ (i = 0 ∧ k = p.length - 1) → ¬ mts (atI p i) (atI p ((i : Int) + 1)) (atI p k) (atI p ((k : Int) + 1))) → Ev (fun k => polygon_simple.l0 k (p.length : Int) ((i + 1 : Nat) : Int) (sidesD p)) r) →
        Ev (fun k => polygon_simple.l1 k (i : Int) ((i + 2 : Nat) : Int) (p.length : Int) (i : Int) (sidesD p) (mkS (atI p i) (atI p ((i : Int) + 1))).1 (mkS (atI p i) (atI p ((i : Int) + 1))).2.1 (mkS (atI p i) (atI p ((i : Int) + 1))).2.2.1 (mkS (atI p i) (atI p ((i : Int) + 1))).2.2.2) r := by
      intro r hr hq
      have stop : ∀ m : Nat, p.length ≤ m → m ≤ p.length + 1 → Ev (fun k => polygon_simple.l0 k (p.length : Int) ((i + 1 : Nat) : Int) (sidesD p)) r → Ev (fun k => polygon_simple.l1 k (i : Int) ((m : Nat) : Int) (p.length : Int) (i : Int) (sidesD p) (mkS (atI p i) (atI p ((i : Int) + 1))).1 (mkS (atI p i) (atI p ((i : Int) + 1))).2.1 (mkS (atI p i) (atI p ((i : Int) + 1))).2.2.1 (mkS (atI p i) (atI p ((i : Int) + 1))).2.2.2) r := by
        intro m hm _ h
        refine Ev.step ?_
        simp only [polygon_simple.l1]
        rw [sidesD_len, wadd1 (i := i) (by omega)]
        exact Ev.cf (decide_eq_false (by omega)) h
      by_cases hlt : i + 2 ≤ p.length
      · refine searchFrom (Q := fun m => Ev (fun k => polygon_simple.l1 k (i : Int) ((m : Nat) : Int) (p.length : Int) (i : Int) (sidesD p) (mkS (atI p i) (atI p ((i : Int) + 1))).1 (mkS (atI p i) (atI p ((i : Int) + 1))).2.1 (mkS (atI p i) (atI p ((i : Int) + 1))).2.2.1 (mkS (atI p i) (atI p ((i : Int) + 1))).2.2.2) r)
          (bad := fun m => ¬ (i = 0 ∧ m = p.length - 1) ∧ mts (atI p i) (atI p ((i : Int) + 1)) (atI p m) (atI p ((m : Int) + 1))) hlt (fun hn => stop _ (Nat.le_refl _) (by omega) (hq fun k h1 h2 h4 h5 => hn k h1 h2 ⟨h4, h5⟩)) (fun m h1 h2 _ hb => ?_) (fun m h1 h2 _ hb q => ?_)
        all_goals
          refine Ev.step ?_
          simp only [polygon_simple.l1]
          rw [sidesD_len, wadd1 (by omega), sidesD_gd p h2, show IntKind.i64.wrap ((p.length : Int) - 1) = ((p.length - 1 : Nat) : Int) from wsub (j := 1) (by omega) (by omega)]
          have b3 : polygon_side_meets.f ((mkS (atI p i) (atI p ((i : Int) + 1))).1, (mkS (atI p i) (atI p ((i : Int) + 1))).2.1, (mkS (atI p i) (atI p ((i : Int) + 1))).2.2.1, (mkS (atI p i) (atI p ((i : Int) + 1))).2.2.2) (mkS (atI p m) (atI p ((m : Int) + 1))) = some (decide (mts (atI p i) (atI p ((i : Int) + 1)) (atI p m) (atI p ((m : Int) + 1)))) := meets_eq (I _) (I _) (I _) (I _)
          rw [b3]
          refine Ev.ct (dlt h2) ?_
        · have h6 := hr m h1 h2 hb.1 hb.2
          subst h6
          by_cases c : i = 0
          · refine Ev.ct (beq_iff_eq.2 (by omega)) (Ev.cf (beq_eq_false_iff_ne.2 (by intro e; exact hb.1 ⟨c, by omega⟩)) (Ev.ct (inbN h2) (Ev.bs rfl (Ev.ct (decide_eq_true hb.2) (Ev.pure _)))))
          · exact Ev.cf (beq_eq_false_iff_ne.2 (by omega)) (Ev.ct (inbN h2) (Ev.bs rfl (Ev.ct (decide_eq_true hb.2) (Ev.pure _))))
        · by_cases c : i = 0
          · refine Ev.ct (beq_iff_eq.2 (by omega)) ?_
            by_cases c' : m = p.length - 1
            · exact Ev.ct (beq_iff_eq.2 (by omega)) q
            · exact Ev.cf (beq_eq_false_iff_ne.2 (by omega)) (Ev.ct (inbN h2) (Ev.bs rfl (Ev.cf (decide_eq_false fun e => hb ⟨fun z => c' z.2, e⟩) q)))
          · exact Ev.cf (beq_eq_false_iff_ne.2 (by omega)) (Ev.ct (inbN h2) (Ev.bs rfl (Ev.cf (decide_eq_false fun e => hb ⟨fun z => c z.1, e⟩) q)))
      · exact stop (i + 2) (by omega) (by omega) (hq fun k h1 h2 => by omega)
  · have hf : dec (∀ i, i < p.length → ¬ badS p i) = false := dec_f fun h => h i hi hb
    rw [hf]
    refine Ev.cd (fun _ => Ev.pure _) fun n1 => Ev.ct (ne0 h3) (Ev.ct (inbN (Nat.mod_lt _ h3)) (Ev.bs rfl (Ev.cd (fun _ => Ev.pure _) fun n2 => Ev.bs rfl (Ev.cd (fun _ => Ev.pure _) fun n4 => ?_))))
    rcases hb with hb | hb | hb | ⟨k, h1, h2, h4, h5⟩
    · exact absurd hb n1
    · exact absurd hb n2
    · exact absurd hb n4
    · exact inner false (fun _ _ _ _ _ => rfl) fun h => absurd h5 (h k h1 h2 h4)
  · refine Ev.cf (decide_eq_false fun e => hb (.inl e)) (Ev.ct (ne0 h3) (Ev.ct (inbN (Nat.mod_lt _ h3)) (Ev.bs rfl (Ev.cf (decide_eq_false fun e => hb (.inr (.inl e))) (Ev.bs rfl (Ev.cf (decide_eq_false fun e => hb (.inr (.inr (.inl e)))) ?_))))))
    exact inner _ (fun k h1 h2 h4 h5 => absurd (.inr (.inr (.inr ⟨k, h1, h2, h4, h5⟩))) hb) fun _ => q
theorem area_ev (hn : p.length ≤ 1000) : Ev (fun k => polygon_area.f k p) (area2 p) := by
  rw [← area2_alt p h3]
  unfold polygon_area.f
  refine Ev.bind (sides_ev p hp) ?_
  rw [sidesD_len]
  have I := insI h3 hins
  have tb : ∀ i : Int, -4398046511104 ≤ ((atI p (i + 1)).1 - (atI p i).1) * ((atI p i).2 + (atI p (i + 1)).2) ∧ ((atI p (i + 1)).1 - (atI p i).1) * ((atI p i).2 + (atI p (i + 1)).2) ≤ 4398046511104 := fun i => by
    obtain ⟨⟨a1, a2⟩, a3, a4⟩ := I i
    obtain ⟨⟨b1, b2⟩, b3, b4⟩ := I (i + 1)
    exact mul_bd21 (by omega) (by omega)
  have sb : ∀ i : Nat, i ≤ p.length → -4398046511104000 ≤ sumN i (fun i => ((atI p (i + 1)).1 - (atI p i).1) * ((atI p i).2 + (atI p (i + 1)).2)) ∧ sumN i (fun i => ((atI p (i + 1)).1 - (atI p i).1) * ((atI p i).2 + (atI p (i + 1)).2)) ≤ 4398046511104000 := fun i hi => by
    have := sumN_bound (n := i) (f := fun i => ((atI p (i + 1)).1 - (atI p i).1) * ((atI p i).2 + (atI p (i + 1)).2)) (B := 4398046511104) (by decide) (fun j _ => tb j)
    omega
  refine down (Q := fun i => Ev (fun k => polygon_area.l0 k (sumN i (fun i => ((atI p (i + 1)).1 - (atI p i).1) * ((atI p i).2 + (atI p (i + 1)).2))) (p.length : Int) (i : Int) (sidesD p)) _) (n := p.length) ?_ ?_
  · refine Ev.step ?_
    simp only [polygon_area.l0]
    refine Ev.cf dge (Ev.some ?_)
    have := sb p.length (Nat.le_refl _)
    unfold negI
    rw [i64_in (by omega) (by omega)]; omega
  · intro i hi q
    refine Ev.step ?_
    simp only [polygon_area.l0]
    rw [sidesD_len, sidesD_gd p hi, wadd1 (by omega)]
    refine Ev.ct (dlt hi) (Ev.ct (inbN hi) ?_)
    have h1 := sb i (by omega)
    have h2 := sb (i + 1) (by omega)
    have h5 := tb i
    rw [sumN_succ] at h2
    obtain ⟨⟨a1, a2⟩, a3, a4⟩ := I i
    obtain ⟨⟨b1, b2⟩, b3, b4⟩ := I ((i : Int) + 1)
    have e : IntKind.i64.wrap (sumN i (fun i => ((atI p (i + 1)).1 - (atI p i).1) * ((atI p i).2 + (atI p (i + 1)).2)) + IntKind.i64.wrap (IntKind.i64.wrap ((mkS (atI p i) (atI p ((i : Int) + 1))).2.2.1 - (mkS (atI p i) (atI p ((i : Int) + 1))).1) * IntKind.i64.wrap ((mkS (atI p i) (atI p ((i : Int) + 1))).2.1 + (mkS (atI p i) (atI p ((i : Int) + 1))).2.2.2))) = sumN (i + 1) (fun i => ((atI p (i + 1)).1 - (atI p i).1) * ((atI p i).2 + (atI p (i + 1)).2)) := by
      show IntKind.i64.wrap (_ + IntKind.i64.wrap (IntKind.i64.wrap ((atI p ((i : Int) + 1)).1 - (atI p i).1) * IntKind.i64.wrap ((atI p i).2 + (atI p ((i : Int) + 1)).2))) = _
      rw [i64_in (x := (atI p ((i : Int) + 1)).1 - (atI p i).1) (by omega) (by omega), i64_in (x := (atI p i).2 + (atI p ((i : Int) + 1)).2) (by omega) (by omega), i64_in (x := ((atI p ((i : Int) + 1)).1 - (atI p i).1) * ((atI p i).2 + (atI p ((i : Int) + 1)).2)) (by omega) (by omega), i64_in (by omega) (by omega), sumN_succ]
    rw [e]
    exact q
end
/-- The error of a polygon. -/
noncomputable def checkP (p : List Spot) : Int := cond (decide (p.length > 40)) 5 (cond (decide (p.length < 3)) 11 (cond (dec (∀ s ∈ p, Ins s)) (cond (dec (Simple p)) 0 11) 3))
theorem inside_eq (n : Int) : polygon_inside.f n = some (decide (-1048576 ≤ n ∧ n ≤ 1048576)) := by
  unfold polygon_inside.f
  by_cases h : n ≥ -1048576
  · rw [decide_eq_true h, condT]; congr 1; rw [Bool.eq_iff_iff, decide_eq_true_iff, decide_eq_true_iff]; exact ⟨fun x => ⟨h, x⟩, fun x => x.2⟩
  · rw [decide_eq_false h, condF]; congr 1; exact (decide_eq_false fun x => h x.1).symm
theorem Check_ev (p : List Spot) : Ev (fun k => polygon_Check.f k p) (checkP p) := by
  unfold polygon_Check.f checkP
  by_cases c1 : p.length > 40
  · rw [decide_eq_true c1, condT]
    exact Ev.ct (decide_eq_true (by omega)) (Ev.pure _)
  rw [decide_eq_false c1, condF]
  refine Ev.cf (decide_eq_false (by omega)) ?_
  by_cases c2 : p.length < 3
  · rw [decide_eq_true c2, condT]
    exact Ev.ct (decide_eq_true (by omega)) (Ev.pure _)
  rw [decide_eq_false c2, condF]
  refine Ev.cf (decide_eq_false (by omega)) ?_
  refine search (Q := fun i => Ev (fun k => polygon_Check.l0 k p p (p.length : Int) (i : Int)) _) (bad := fun i => ¬ Ins (atI p (i : Int))) (n := p.length) (fun hn => ?_) (fun i hi _ hb => ?_) (fun i hi _ hb q => ?_)
  · have ha : ∀ s ∈ p, Ins s := fun s hs => by
      obtain ⟨i, hi, rfl⟩ := List.getElem_of_mem hs
      have := hn i hi
      rw [atI_nat p hi] at this
      exact Classical.not_not.1 this
    rw [dec_t ha, condT]
    refine Ev.step ?_
    simp only [polygon_Check.l0]
    refine Ev.cf dge (Ev.bind (simple_ev (by omega) (by omega) ha) ?_)
    cases dec (Simple p)
    · exact Ev.ct rfl (Ev.pure _)
    · exact Ev.cf rfl (Ev.pure _)
  all_goals
    refine Ev.step ?_
    simp only [polygon_Check.l0]
    rw [wadd1 (by omega), atI_gd p hi, inside_eq, inside_eq]
    refine Ev.ct (dlt hi) (Ev.ct (inbN hi) (Ev.bs rfl ?_))
  · have hf : ¬ ∀ s ∈ p, Ins s := fun h => hb (h _ (atI_mem p (by omega) _))
    rw [dec_f hf, condF]
    by_cases c : -1048576 ≤ (atI p i).1 ∧ (atI p i).1 ≤ 1048576
    · exact Ev.cf (by rw [decide_eq_true c]; rfl) (Ev.bs rfl (Ev.ct (by rw [decide_eq_false fun e => hb ⟨c, e⟩]; rfl) (Ev.pure _)))
    · exact Ev.ct (by rw [decide_eq_false c]; rfl) (Ev.pure _)
  · have hb' := Classical.not_not.1 hb
    exact Ev.cf (by rw [decide_eq_true hb'.1]; rfl) (Ev.bs rfl (Ev.cf (by rw [decide_eq_true hb'.2]; rfl) q))
theorem checkP_ok {p : List Spot} : checkP p = 0 ↔ (p.length ≤ 40 ∧ 3 ≤ p.length ∧ (∀ s ∈ p, Ins s) ∧ Simple p) := by
  unfold checkP
  by_cases c1 : p.length > 40
  · rw [decide_eq_true c1, condT]; exact ⟨fun h => absurd h (by decide), fun h => by omega⟩
  by_cases c2 : p.length < 3
  · rw [decide_eq_false c1, decide_eq_true c2, condF, condT]; exact ⟨fun h => absurd h (by decide), fun h => by omega⟩
  rw [decide_eq_false c1, decide_eq_false c2, condF, condF]
  by_cases c3 : ∀ s ∈ p, Ins s
  · rw [dec_t c3, condT]
    by_cases c4 : Simple p
    · rw [dec_t c4, condT]; exact ⟨fun _ => ⟨by omega, by omega, c3, c4⟩, fun _ => rfl⟩
    · rw [dec_f c4, condF]; exact ⟨fun h => absurd h (by decide), fun h => absurd h.2.2.2 c4⟩
  · rw [dec_f c3, condF]; exact ⟨fun h => absurd h (by decide), fun h => absurd h.2.2.1 c3⟩
theorem Area2_ev (p : List Spot) : Ev (fun k => polygon_Area2.f k p) (if checkP p = 0 then area2 p else 0) := by
  unfold polygon_Area2.f
  refine Ev.bind (Check_ev p) ?_
  by_cases h : checkP p = 0
  · rw [if_pos h]
    have := checkP_ok.1 h
    exact Ev.cf (by rw [h]; rfl) (Ev.bind (area_ev (by omega) (by omega) this.2.2.1 (by omega)) (Ev.pure _))
  · rw [if_neg h]
    exact Ev.ct (bne_iff_ne.2 h) (Ev.pure _)
end Go.Gm
