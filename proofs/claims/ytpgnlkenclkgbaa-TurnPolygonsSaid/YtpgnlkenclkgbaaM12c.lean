/- Turns of polygons. -/
import Derived.Test.YtpgnlkenclkgbaaM11c
import Derived.Test.YtpgnlkenclkgbaaM12a
set_option linter.unusedVariables false
set_option linter.unusedSimpArgs false
namespace Go.Gm
open Go.Pi

/-- A turn, without bounds. -/
def rotZ (q : Int) (s : Spot) : Spot := if q = 1 then (-s.2, s.1) else if q = 2 then (-s.1, -s.2) else if q = 3 then (s.2, -s.1) else s
def actZ (t : Bool × Int) (s : Spot) : Spot := rotZ (t.2 % 4) (cond t.1 (-s.1, s.2) s)
def sgT (t : Bool × Int) : Int := cond t.1 (-1) 1
theorem negI_in {x : Int} (h : -9223372036854775808 < x) (h' : x ≤ 9223372036854775807) : negI .i64 x = -x := by
  unfold negI; rw [i64_in (by omega) (by omega)]; omega
/-- Spots whose coordinates can be negated. -/
def Neg64 (s : Spot) : Prop := (-9223372036854775808 < s.1 ∧ s.1 ≤ 9223372036854775807) ∧ (-9223372036854775808 < s.2 ∧ s.2 ≤ 9223372036854775807)
theorem Ins.neg {s : Spot} (h : Ins s) : Neg64 s := by unfold Ins at h; unfold Neg64; omega
theorem act_Z (t : Bool × Int) {s : Spot} (h : Neg64 s) : act t s = actZ t s := by
  obtain ⟨⟨h1, h2⟩, h3, h4⟩ := h
  have e1 := negI_in h1 h2
  have e2 := negI_in h3 h4
  have e3 : negI .i64 (-s.1) = - -s.1 := negI_in (by omega) (by omega)
  unfold act actZ rot rotZ flp
  rcases four t.2 with h | h | h | h <;> rw [h] <;> cases t.1 <;> simp [e1, e2, e3]
theorem actZ_cases (t : Bool × Int) : (∀ s, actZ t s = s) ∨ (∀ s, actZ t s = (-s.2, s.1)) ∨ (∀ s, actZ t s = (-s.1, -s.2)) ∨ (∀ s, actZ t s = (s.2, -s.1)) ∨
    (∀ s, actZ t s = (-s.1, s.2)) ∨ (∀ s, actZ t s = (-s.2, -s.1)) ∨ (∀ s, actZ t s = (s.1, -s.2)) ∨ (∀ s, actZ t s = (s.2, s.1)) := by
  unfold actZ rotZ
  rcases four t.2 with h | h | h | h <;> rw [h] <;> cases t.1 <;> simp
theorem actZ_sg (t : Bool × Int) (a b : Spot) : (actZ t a).1 * (actZ t b).2 - (actZ t a).2 * (actZ t b).1 = sgT t * (a.1 * b.2 - a.2 * b.1) := by
  unfold actZ rotZ sgT
  rcases four t.2 with h | h | h | h <;> rw [h] <;> cases t.1 <;> simp <;> grind
theorem actZ_crs (t : Bool × Int) (a b c : Spot) : crs (actZ t a) (actZ t b) (actZ t c) = sgT t * crs a b c := by
  unfold crs actZ rotZ sgT
  rcases four t.2 with h | h | h | h <;> rw [h] <;> cases t.1 <;> simp <;> grind
theorem sgT_or (t : Bool × Int) : sgT t = 1 ∨ sgT t = -1 := by unfold sgT; cases t.1 <;> simp
theorem actZ_motion (t : Bool × Int) : Motion (actZ t) (sgT t) := by
  refine ⟨sgT_or t, fun a b h => ?_, actZ_crs t, fun a b q => ?_⟩
  · rcases actZ_cases t with e | e | e | e | e | e | e | e <;> rw [e, e] at h <;> simp only [Prod.ext_iff] at h ⊢ <;> omega
  · have hc : crs (actZ t a) (actZ t b) (actZ t q) = 0 ↔ crs a b q = 0 := by
      rw [actZ_crs]
      rcases sgT_or t with h | h <;> rw [h] <;> omega
    unfold hld
    rw [hc]
    have : (((min (actZ t a).1 (actZ t b).1 ≤ (actZ t q).1 ∧ (actZ t q).1 ≤ max (actZ t a).1 (actZ t b).1) ∧ (min (actZ t a).2 (actZ t b).2 ≤ (actZ t q).2 ∧ (actZ t q).2 ≤ max (actZ t a).2 (actZ t b).2))) ↔
        ((min a.1 b.1 ≤ q.1 ∧ q.1 ≤ max a.1 b.1) ∧ (min a.2 b.2 ≤ q.2 ∧ q.2 ≤ max a.2 b.2)) := by
      rcases actZ_cases t with e | e | e | e | e | e | e | e <;> rw [e, e, e] <;> simp only <;> omega
    rw [this]
theorem actZ_area (t : Bool × Int) (p : List Spot) (h : 0 < p.length) : area2 (p.map (actZ t)) = sgT t * area2 p := by
  unfold area2
  rw [← sumN_mul, List.length_map]
  apply sumN_congr
  intro i _
  rw [atI_map _ p h, atI_map _ p h, actZ_sg]
theorem act_Ins (t : Bool × Int) {s : Spot} (h1 : I64 s.1) (h2 : I64 s.2) : Ins (act t s) ↔ Ins s := by
  have key : ∀ x : Int, I64 x → ((-1048576 ≤ negI .i64 x ∧ negI .i64 x ≤ 1048576) ↔ (-1048576 ≤ x ∧ x ≤ 1048576)) := fun x hx => by
    unfold I64 at hx
    by_cases c : x = -9223372036854775808
    · subst c
      have : negI .i64 (-9223372036854775808) = -9223372036854775808 := rfl
      rw [this]
    · rw [negI_in (by omega) (by omega)]; omega
  have k1 := key s.1 h1
  have k2 := key s.2 h2
  have k3 := key _ (ng_in s.1)
  unfold act rot flp Ins
  rcases four t.2 with h | h | h | h <;> rw [h] <;> cases t.1 <;> simp only [cond] <;> simp [k1, k2, k3] <;> omega
theorem actZ_Ins (t : Bool × Int) {s : Spot} : Ins (actZ t s) ↔ Ins s := by
  unfold Ins
  rcases actZ_cases t with e | e | e | e | e | e | e | e <;> rw [e] <;> simp only <;> omega
/-- The image of a list, without bounds. -/
def polyZ (t : Bool × Int) (p : List Spot) : List Spot := (cond t.1 p.reverse p).map (actZ t)
theorem polyZ_len (t : Bool × Int) (p : List Spot) : (polyZ t p).length = p.length := by unfold polyZ; cases t.1 <;> simp
theorem polyZ_simple (t : Bool × Int) (p : List Spot) (h : 0 < p.length) : Simple (polyZ t p) ↔ Simple p := by
  unfold polyZ
  cases ht : t.1
  · exact Simple.map h (actZ_motion t)
  · have : 0 < p.reverse.length := by simpa using h
    rw [show (cond true p.reverse p) = p.reverse from rfl, Simple.map this (actZ_motion t)]
    exact ⟨fun s => by have := s.rev this; rwa [List.reverse_reverse] at this, fun s => s.rev h⟩
theorem polyZ_area (t : Bool × Int) (p : List Spot) (h : 0 < p.length) : area2 (polyZ t p) = area2 p := by
  unfold polyZ
  cases ht : t.1
  · show area2 (p.map _) = _
    rw [actZ_area t p h]; unfold sgT; rw [ht]; simp
  · have : 0 < p.reverse.length := by simpa using h
    show area2 (p.reverse.map _) = _
    rw [actZ_area t _ this, area2_rev p h]; unfold sgT; rw [ht]; simp
theorem polyZ_Ins (t : Bool × Int) (p : List Spot) : (∀ s ∈ polyZ t p, Ins s) ↔ ∀ s ∈ p, Ins s := by
  unfold polyZ
  constructor
  · intro h s hs
    exact (actZ_Ins t).1 (h _ (List.mem_map_of_mem (by cases t.1 <;> simpa using hs)))
  · intro h s hs
    obtain ⟨u, hu, rfl⟩ := List.mem_map.1 hs
    exact (actZ_Ins t).2 (h u (by cases ht : t.1 <;> rw [ht] at hu <;> simpa using hu))
theorem polyZ_check (t : Bool × Int) (p : List Spot) : checkP (polyZ t p) = checkP p := by
  unfold checkP
  rw [polyZ_len]
  by_cases c2 : p.length < 3
  · rw [decide_eq_true c2, condT, condT]
  · rw [dec_iff (polyZ_Ins t p), dec_iff (polyZ_simple t p (by omega))]
end Go.Gm
