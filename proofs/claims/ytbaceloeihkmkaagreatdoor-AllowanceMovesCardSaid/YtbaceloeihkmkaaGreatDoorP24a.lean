/- AllowanceShifts: the program's shifts are the reference's. -/
import Derived.Test.YtbaceloeihkmkaaGreatDoorMQ3
import Derived.Test.YtbaceloeihkmkaaGreatDoorB24x1
import Derived.Test.YtbaceloeihkmkaaGreatDoorQQ5
set_option linter.unusedVariables false
set_option linter.unusedSimpArgs false
set_option maxRecDepth 100000
namespace Go.Gm
open Go.Pi

theorem alive24 : ∃ k, law24_exampleHolds.f k = some true := ⟨60, by kernel_rfl⟩
theorem alive24_ev : Ev (fun k => law24_exampleHolds.f k) true := by
  obtain ⟨k, h⟩ := alive24
  exact ⟨k, fun k' hk => law24_exampleHolds.H.m k k' () true hk h⟩
theorem tail24 : Ev (fun k => bindO (law24_exampleHolds.f k) fun r => some r) true := Ev.bind alive24_ev (Ev.pure _)
/-- The sizes of the edges that come in. -/
theorem sizes24 {l : List ED} (h : SZr (.one (.sl (.cons .str (.one (.sl (.cons (.int .i64) (.one (.int .i64)))))))) l) : ∀ i, i < l.length → (l.getD i e0).2.length ≤ 140737488351232 := by
  simp only [SZr, SZc] at h
  refine lines_of fun x hx => ?_
  exact (h.2 x hx).2.1
theorem Shifts_true (l : List ED) (ws : List Int) (hsz : ∀ i, i < l.length → (l.getD i e0).2.length ≤ 140737488351232) : Ev (fun k => law24_AllowanceShifts.f k l ws) true := by
  unfold law24_AllowanceShifts.f
  obtain ⟨b, hb, hs⟩ := small24_ev l ws hsz
  refine Ev.bind hb ?_
  cases b
  · exact Ev.ct rfl tail24
  have s := hs rfl
  have hw : ws.length ≤ 1000000 := by have := s.ws; omega
  refine Ev.cf rfl (Ev.bind (Shifts_ev l ws s.few hw) (Ev.bind (Shifts2_ev l ws s.few hw) ?_))
  have hlen : (if sidesE l ws = 0 then ((segs l ws (signO l)).map fun x => x.2.2.2.2.2, (0 : Int)) else ([], sidesE l ws)).1.length ≤ 1000000 := by
    split
    · have := segsTo_len s.few ws (signO l) l.length (Nat.le_refl _)
      have := s.most
      show ((segs l ws (signO l)).map _).length ≤ _
      rw [List.length_map]
      unfold segs
      omega
    · exact Nat.zero_le _
  refine Ev.ct (by rw [beq_iff_eq]) (Ev.bind (Same11_ev _ _ hlen) ?_)
  rw [decide_eq_true rfl]
  exact Ev.ct rfl tail24
theorem AllowanceShifts_plain (x : ArgsD law24_AllowanceShifts.E.ps) (h : WFA law24_AllowanceShifts.E.ps x) (hz : SZA law24_AllowanceShifts.E.ps x) : ∃ k, law24_AllowanceShifts.E.fn k x = some true :=
  Ev.ex (Shifts_true x.1 x.2.1 (sizes24 hz.1))
end Go.Gm
