/- AllowanceZero: with widths 0 the result is the polygon of the outline. -/
import Derived.Test.YtbaceloeihkmkaaGreatDoorMQ4
import Derived.Test.YtbaceloeihkmkaaGreatDoorP24a
set_option linter.unusedVariables false
set_option linter.unusedSimpArgs false
set_option maxRecDepth 100000
namespace Go.Gm
open Go.Pi

theorem repl_get (n i : Nat) : (List.replicate n (0 : Int)).getD i 0 = 0 := by
  rw [List.getD_eq_getElem?_getD, List.getElem?_replicate]
  split <;> rfl
theorem Zero_true (l : List ED) (hsz : ∀ i, i < l.length → (l.getD i e0).2.length ≤ 140737488351232) : Ev (fun k => law24_AllowanceZero.f k l) true := by
  unfold law24_AllowanceZero.f
  obtain ⟨b, hb, hs⟩ := small24_ev l [] hsz
  refine Ev.bind hb ?_
  cases b
  · exact Ev.ct rfl tail24
  have s := hs rfl
  have hl := s.most
  refine Ev.cf rfl (Ev.bind (Poly_ev l s.few) (Ev.ct ?_ ?_))
  · rw [decide_eq_true (by omega), decide_eq_true (by omega), decide_eq_true (by omega)]; rfl
  rw [Int.toNat_natCast]
  have ha := Allow_ev l (List.replicate l.length 0) s.few (by omega) (by rw [List.length_replicate]; omega)
  have hok : wOk (List.replicate l.length 0) := fun w hw => by
    rw [List.eq_of_mem_replicate hw]; decide
  by_cases c : outE l = 0
  · have ho := outE_ok.1 c
    have h1 : sidesE l (List.replicate l.length 0) = 0 := sidesE_ok.2 ⟨ho, by rw [List.length_replicate], hok⟩
    have h2 := moved_zero (ws := List.replicate l.length 0) ho (signO_or l) (fun i => repl_get _ i)
    have h3 := movedE_verts ho
    rw [if_pos h1, h2] at ha
    unfold movedR at ha
    rw [if_pos h3] at ha
    rw [if_pos c]
    have h40 := (checkP_ok.1 ho.poly).1
    refine Ev.bind ha (Ev.ct rfl (Ev.bind (Same11_ev _ _ (by show (verts l).length ≤ _; omega)) ?_))
    rw [decide_eq_true rfl]
    exact Ev.ct rfl tail24
  · have h1 : sidesE l (List.replicate l.length 0) = outE l := by unfold sidesE; rw [if_neg c]
    rw [h1, if_neg c] at ha
    rw [if_neg c]
    refine Ev.bind ha (Ev.ct (by rw [beq_iff_eq]) (Ev.bind (Same11_ev _ _ (Nat.zero_le _)) ?_))
    rw [decide_eq_true rfl]
    exact Ev.ct rfl tail24
theorem AllowanceZero_plain (x : ArgsD law24_AllowanceZero.E.ps) (h : WFA law24_AllowanceZero.E.ps x) (hz : SZA law24_AllowanceZero.E.ps x) : ∃ k, law24_AllowanceZero.E.fn k x = some true :=
  Ev.ex (Zero_true x.1 (sizes24 hz.1))
end Go.Gm
