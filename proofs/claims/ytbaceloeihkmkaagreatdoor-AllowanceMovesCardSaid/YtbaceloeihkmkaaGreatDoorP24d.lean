/- AllowanceMoves: moving the outline moves the result. -/
import Derived.Test.YtbaceloeihkmkaaGreatDoorMQ4
import Derived.Test.YtbaceloeihkmkaaGreatDoorP24a
set_option linter.unusedVariables false
set_option linter.unusedSimpArgs false
set_option maxRecDepth 100000
namespace Go.Gm
open Go.Pi

theorem movedO_few {l : List ED} (hf : Few l) (hl : l.length ≤ 30) (ws : List Int) (s : Int) : (movedO (segs l ws s)).length ≤ 100000 := by
  have h1 := segsTo_len hf ws s l.length (Nat.le_refl _)
  have h2 := cornersTo_len (segs l ws s) (segs l ws s).length
  have h3 := trimN_len (cornersTo (segs l ws s) (segs l ws s).length).length (cornersTo (segs l ws s) (segs l ws s).length)
  unfold movedO trimE
  unfold segs at *
  omega
theorem Moves_true (l : List ED) (ws : List Int) (d : Spot) (hsz : ∀ i, i < l.length → (l.getD i e0).2.length ≤ 140737488351232) : Ev (fun k => law24_AllowanceMoves.f k l ws d) true := by
  unfold law24_AllowanceMoves.f
  obtain ⟨b, hb, hs⟩ := small24_ev l ws hsz
  refine Ev.bind hb ?_
  cases b
  · exact Ev.ct rfl tail24
  have sm := hs rfl
  have hl := sm.most
  refine Ev.cf rfl (Ev.cd (fun _ => tail24) fun k1 => Ev.cd (fun _ => tail24) fun k2 => Ev.cd (fun _ => tail24) fun k3 => Ev.cd (fun _ => tail24) fun k4 => ?_)
  have hd : Ins d := ⟨⟨by omega, by omega⟩, by omega, by omega⟩
  have hw : ws.length ≤ 1000000 := by have := sm.ws; omega
  have ha := Allow_ev l ws sm.few (by omega) hw
  by_cases c : ¬ sidesE l ws = 0
  · rw [if_neg c] at ha
    exact Ev.bind ha (Ev.ct (bne_iff_ne.2 c) tail24)
  have c := Classical.not_not.1 c
  rw [if_pos c] at ha
  unfold movedR at ha
  by_cases c2 : ¬ movedE (movedO (segs l ws (signO l))) (signO l) = 0
  · rw [if_neg c2] at ha
    exact Ev.bind ha (Ev.ct (bne_iff_ne.2 c2) tail24)
  have c2 := Classical.not_not.1 c2
  rw [if_pos c2] at ha
  refine Ev.bind ha (Ev.cf rfl ?_)
  obtain ⟨ho, h1, h2⟩ := sidesE_ok.1 c
  have hlen := movedO_few sm.few hl ws (signO l)
  have hf := sm.few
  have hP : 0 < (verts l).length := by have := (checkP_ok.1 ho.poly).2.1; omega
  generalize hp : movedO (segs l ws (signO l)) = p at c2 hlen ⊢
  -- the result is within the limits
  have hpin : ∀ q ∈ p, Ins q := Classical.byContradiction fun h => by
    unfold movedE at c2
    rw [if_neg h] at c2
    cases c2
  have hpc : checkP p = 0 := Classical.byContradiction fun h => by
    unfold movedE at c2
    rw [if_pos hpin, if_neg h] at c2
    exact h c2
  have hpa : ¬ area2 p * signO l < 0 := fun h => by
    unfold movedE at c2
    rw [if_pos hpin, if_pos hpc, if_pos h] at c2
    cases c2
  refine down (Q := fun i => Ev (fun k => law24_AllowanceMoves.l0 k ws l (l.length : Int) (i : Int) d.1 d.2 p ((l.take i).map (mvE d))) true) (n := l.length) ?_ ?_
  · refine Ev.step ?_
    simp only [law24_AllowanceMoves.l0]
    rw [List.take_length]
    refine Ev.cf dge (Ev.bind (Move_ev p d (by omega) hpin hd) (Ev.bind (Out_ev _ (Few_map d hf)) ?_))
    by_cases c3 : ¬ outE (l.map (mvE d)) = 0
    · exact Ev.ct (bne_iff_ne.2 c3) tail24
    have c3 := Classical.not_not.1 c3
    refine Ev.cf (by rw [c3]; rfl) (Ev.bind (Check_ev _) ?_)
    by_cases c4 : ¬ checkP (p.map fun s => addS s d) = 0
    · exact Ev.ct (bne_iff_ne.2 c4) tail24
    have c4 := Classical.not_not.1 c4
    refine Ev.cf (by rw [c4]; rfl) ?_
    have ho' := outE_ok.1 c3
    have hs' : sidesE (l.map (mvE d)) ws = 0 := sidesE_ok.2 ⟨ho', by rw [List.length_map]; exact h1, h2⟩
    have ha' := Allow_ev (l.map (mvE d)) ws (Few_map d hf) (by rw [List.length_map]; omega) hw
    rw [if_pos hs', sign_move d l hP, segs_map, movedO_map, hp] at ha'
    obtain ⟨g1, g2, g3, g4⟩ := checkP_ok.1 c4
    have hme : movedE (p.map fun s => addS s d) (signO l) = 0 := by
      unfold movedE
      rw [List.length_map] at g2
      rw [if_pos g3, if_pos c4, area2_move d p (by omega), if_neg hpa]
    unfold movedR at ha'
    rw [if_pos hme] at ha'
    refine Ev.bind ha' (Ev.ct rfl (Ev.bind (Same11_ev _ _ (by show (p.map _).length ≤ _; rw [List.length_map]; omega)) ?_))
    rw [decide_eq_true rfl]
    exact Ev.ct rfl tail24
  · intro i hi q
    have hx : gd ((⟨#[]⟩ : ByteArray), []) l (i : Int) = l.getD i e0 := rfl
    obtain ⟨h40, h22, hin, _⟩ := lineE_ok.1 (ho.line i hi)
    refine Ev.step ?_
    simp only [law24_AllowanceMoves.l0, hx]
    rw [take_succ' l i hi, List.map_append, ← getD_lt e0 l hi] at q
    rw [wadd1 (by omega)]
    refine Ev.ct (dlt hi) (Ev.ct (inbN hi) (Ev.bind (Move_ev (l.getD i e0).2 d (by omega) hin hd) (Ev.ct (fits_ok ?_) q)))
    rw [List.length_map, List.length_take]
    show (_ + 1) * 40 ≤ _
    omega
theorem AllowanceMoves_plain (x : ArgsD law24_AllowanceMoves.E.ps) (h : WFA law24_AllowanceMoves.E.ps x) (hz : SZA law24_AllowanceMoves.E.ps x) : ∃ k, law24_AllowanceMoves.E.fn k x = some true :=
  Ev.ex (Moves_true x.1 x.2.1 x.2.2.1 (sizes24 hz.1))
end Go.Gm
