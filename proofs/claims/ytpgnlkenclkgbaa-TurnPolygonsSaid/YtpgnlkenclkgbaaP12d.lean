/- The laws of chapter 12, as plain statements (4): polygons. -/
import Derived.Test.YtpgnlkenclkgbaaP12c
import Derived.Test.YtpgnlkenclkgbaaM12c
set_option linter.unusedVariables false
set_option linter.unusedSimpArgs false
set_option maxRecDepth 100000
namespace Go.Gm
open Go.Pi

theorem polyD_Z (t : Bool × Int) (p : List Spot) (h : ∀ s ∈ p, Ins s) : polyD t p = polyZ t p := by
  unfold polyD polyZ
  apply List.map_congr_left
  intro s hs
  exact act_Z t (h s (by cases ht : t.1 <;> rw [ht] at hs <;> simpa using hs)).neg
theorem polyD_Ins (t : Bool × Int) (p : List Spot) (hb : ∀ s ∈ p, I64 s.1 ∧ I64 s.2) : (∀ s ∈ polyD t p, Ins s) ↔ ∀ s ∈ p, Ins s := by
  unfold polyD
  constructor
  · intro h s hs
    have b := hb s hs
    exact (act_Ins t b.1 b.2).1 (h _ (List.mem_map_of_mem (by cases t.1 <;> simpa using hs)))
  · intro h s hs
    obtain ⟨u, hu, rfl⟩ := List.mem_map.1 hs
    have hu' : u ∈ p := by cases ht : t.1 <;> rw [ht] at hu <;> simpa using hu
    have b := hb u hu'
    exact (act_Ins t b.1 b.2).2 (h u hu')
theorem polyD_check (t : Bool × Int) (p : List Spot) (hb : ∀ s ∈ p, I64 s.1 ∧ I64 s.2) : checkP (polyD t p) = checkP p := by
  by_cases c : ∀ s ∈ p, Ins s
  · rw [polyD_Z t p c, polyZ_check]
  · have c' := fun h => c ((polyD_Ins t p hb).1 h)
    unfold checkP
    rw [polyD_len, dec_f c, dec_f c', condF, condF]
theorem polyD_back (t : Bool × Int) (p : List Spot) (hb : ∀ s ∈ p, I64 s.1 ∧ I64 s.2) : polyD (inv t) (polyD t p) = p := by
  unfold polyD
  have e1 : (inv t).1 = t.1 := rfl
  have key : ∀ l : List Spot, (∀ s ∈ l, s ∈ p) → (l.map (act t)).map (act (inv t)) = l := fun l hl => by
    rw [List.map_map]
    have : l.map (act (inv t) ∘ act t) = l.map id := List.map_congr_left fun s hs => by
      have b := hb s (hl s hs)
      show act (inv t) (act t s) = s
      rw [← act_comp t (inv t) s b.1 b.2, comp_inv, act_none]
    rw [this, List.map_id]
  rw [e1]
  cases t.1
  · exact key p fun s h => h
  · show ((p.reverse.map (act t)).reverse).map (act (inv t)) = p
    rw [← List.map_reverse, List.reverse_reverse]
    exact key p fun s h => h
theorem law_TurnPolygons (t : Bool × Int) (p : List Spot) (hb : ∀ s ∈ p, I64 s.1 ∧ I64 s.2) : Ev (fun k => law12_TurnPolygons.f k t p) true := by
  have ex : Ev (fun k => law12_exampleHolds.f k) true := ⟨1000, fun k hk => ex12_k k hk⟩
  unfold law12_TurnPolygons.f
  by_cases c : ((p.length : Nat) : Int) > 50
  · exact Ev.ct (decide_eq_true c) (Ev.bind ex (Ev.pure _))
  refine Ev.cf (decide_eq_false c) ?_
  have hl := polyD_len t p
  have e1 : Ev (fun k => turn_Poly.f k t p) (polyD t p) := ⟨p.length + 2, fun k hk => Poly_eq t p (by omega) k hk⟩
  have e2 : Ev (fun k => turn_Poly.f k (inv t) (polyD t p)) p := ⟨p.length + 2, fun k hk => (Poly_eq _ _ (by omega) k (by omega)).trans (by rw [polyD_back t p hb])⟩
  have e3 : Ev (fun k => ref12_SameSpots.f k p p) true := ⟨p.length + 1, fun k hk => SameSpots_eq p (by omega) k hk⟩
  refine Ev.bind e1 (Ev.bs (Inverse_eq t) (Ev.bind e2 (Ev.bind e3 (Ev.cf rfl (Ev.bind (Check_ev p) (Ev.bind (Check_ev (polyD t p)) (Ev.ct ?_ (Ev.bind (Area2_ev p) (Ev.bind (Area2_ev (polyD t p)) (Ev.ct ?_ (Ev.bind ex (Ev.pure _))))))))))))
  · rw [polyD_check t p hb]; unfold eqB; simp
  · rw [polyD_check t p hb, beq_iff_eq]
    by_cases z : checkP p = 0
    · rw [if_pos z, if_pos z]
      have := checkP_ok.1 z
      rw [polyD_Z t p this.2.2.1, polyZ_area t p (by omega)]
    · rw [if_neg z, if_neg z]
theorem TurnPolygons_plain : ∀ x : ArgsD law12_TurnPolygons.E.ps, WFA law12_TurnPolygons.E.ps x → ∃ k, law12_TurnPolygons.E.fn k x = some true := by
  intro x h
  obtain ⟨a0, a1, u⟩ := x
  obtain ⟨_, h3, _⟩ := h
  exact (law_TurnPolygons a0 a1 (wf_spots h3)).ex
end Go.Gm
