/- AllowanceOutwards: shifts point to the outside. -/
import Derived.Test.YtbaceloeihkmkaaGreatDoorMQ3
import Derived.Test.YtbaceloeihkmkaaGreatDoorP24a
set_option linter.unusedVariables false
set_option linter.unusedSimpArgs false
set_option maxRecDepth 100000
namespace Go.Gm
open Go.Pi

theorem gd_some {α : Type} {d x : α} {l : List α} {j : Nat} (h : l[j]? = some x) : gd d l (j : Int) = x := by
  show l.getD j d = x
  rw [List.getD_eq_getElem?_getD, h]
  rfl
theorem spotZ (p : Spot) : andB (eqI p.1 0) (andB (eqI p.2 0) true) = decide (p = (0, 0)) := spotEq p (0, 0)
section
variable {l : List ED} {ws : List Int} (hf : Few l) (hws : ws.length = l.length) (hok : wOk ws) (hline : ∀ i, i < l.length → lineE (l.getD i e0).2 = 0) {A : Int} {s : Int} (hs : s = if A < 0 then -1 else 1)
include hf hws hok hline hs
theorem out_in (i : Nat) (hi : i < l.length) (nm : ByteArray) (ih : Ev (fun k => law24_AllowanceOutwards.l0 k ws A (((segsTo l ws s (i + 1)).length : Nat) : Int) l (l.length : Int) ((i + 1 : Nat) : Int) ((segs l ws s).map fun x => x.2.2.2.2.2)) true) :
    Ev (fun k => law24_AllowanceOutwards.l1 k ws A (((segsTo l ws s i).length : Nat) : Int) (i : Int) 0 l (l.length : Int) (i : Int) ((segs l ws s).map fun x => x.2.2.2.2.2) nm (l.getD i e0).2) true := by
  obtain ⟨h40, h2, hin, hne⟩ := lineE_ok.1 (hline i hi)
  have hl := hf.1
  have hsg : s = 1 ∨ s = -1 := by rw [hs]; split <;> omega
  have hb0 := segsTo_len hf ws s i (by omega)
  refine down (Q := fun m => Ev (fun k => law24_AllowanceOutwards.l1 k ws A (((segsTo l ws s i).length + m : Nat) : Int) (i : Int) (m : Int) l (l.length : Int) (i : Int) ((segs l ws s).map fun x => x.2.2.2.2.2) nm (l.getD i e0).2) true) (n := (l.getD i e0).2.length - 1) ?_ ?_
  · refine Ev.step ?_
    simp only [law24_AllowanceOutwards.l1]
    rw [wadd1 (i := (l.getD i e0).2.length - 1) (by omega), wadd1 (i := i) (by omega)]
    rw [segsTo_succ, List.length_append, segsN_len] at ih
    exact Ev.cf (decide_eq_false (by omega)) ih
  · intro m hm q
    have hat := segs_at l ws s hi hm
    have hS : ((segs l ws s).map fun x => x.2.2.2.2.2)[(segsTo l ws s i).length + m]? = some (shiftS ((l.getD i e0).2.getD m (0, 0)) ((l.getD i e0).2.getD (m + 1) (0, 0)) (ws.getD i 0) s) := by
      rw [List.getElem?_map, hat]
      rfl
    have hlt := (List.getElem?_eq_some_iff.1 hS).1
    have gS : gd ((0 : Int), (0 : Int)) ((segs l ws s).map fun x => x.2.2.2.2.2) (((segsTo l ws s i).length + m : Nat) : Int) = _ := gd_some hS
    have ga : gd ((0 : Int), (0 : Int)) (l.getD i e0).2 (m : Int) = (l.getD i e0).2.getD m (0, 0) := rfl
    have gb : gd ((0 : Int), (0 : Int)) (l.getD i e0).2 ((m + 1 : Nat) : Int) = (l.getD i e0).2.getD (m + 1) (0, 0) := rfl
    have gw : gd (0 : Int) ws (i : Int) = ws.getD i 0 := rfl
    have w1 : IntKind.i64.wrap ((m : Int) + 1) = ((m + 1 : Nat) : Int) := wadd1 (by omega)
    have w2 : IntKind.i64.wrap ((((segsTo l ws s i).length + m : Nat) : Int) + 1) = (((segsTo l ws s i).length + (m + 1) : Nat) : Int) := by
      rw [wadd1 (by omega)]; rfl
    refine Ev.step ?_
    simp only [law24_AllowanceOutwards.l1, w1, w2, gS, ga, gb, gw, spotZ]
    have ha : Ins ((l.getD i e0).2.getD m (0, 0)) := (all_getD (0, 0) _ Ins).1 hin m (by omega)
    have hb : Ins ((l.getD i e0).2.getD (m + 1) (0, 0)) := (all_getD (0, 0) _ Ins).1 hin (m + 1) (by omega)
    have hab : (l.getD i e0).2.getD m (0, 0) ≠ (l.getD i e0).2.getD (m + 1) (0, 0) := fun e => hne (m + 1) (by omega) (by omega) e.symm
    have hw := wOk_get hok i
    have i1 : inb (m : Int) (l.getD i e0).2.length = true := inbN (by omega)
    have i2 : inb ((m + 1 : Nat) : Int) (l.getD i e0).2.length = true := inbN (by omega)
    have i3 : inb (((segsTo l ws s i).length + m : Nat) : Int) ((segs l ws s).map fun x => x.2.2.2.2.2).length = true := inbN hlt
    have i4 : inb (i : Int) ws.length = true := inbN (by omega)
    have dm : decide (((m + 1 : Nat) : Int) < ((l.getD i e0).2.length : Int)) = true := dlt (by omega)
    have dS : decide ((((segsTo l ws s i).length + m : Nat) : Int) ≥ ((((segs l ws s).map fun x => x.2.2.2.2.2).length : Nat) : Int)) = false := decide_eq_false (by omega)
    generalize (l.getD i e0).2.getD m (0, 0) = a at ha hab ⊢
    generalize (l.getD i e0).2.getD (m + 1) (0, 0) = b at hb hab ⊢
    generalize ws.getD i 0 = w at hw ⊢
    obtain ⟨d1, d2, dn, dl⟩ := side_nums ha hb hab hw hsg
    have hbd := shift_bd ha hb hab hw hsg
    have hz : w = 0 → shiftS a b w s = (0, 0) := fun e => by rw [e]; exact shift_zero dl.1
    have hp : 0 < w → 0 < s * rightS a b (shiftS a b w s) := fun e => right_pos ha hb hab (by omega) hsg
    generalize shiftS a b w s = sh at hbd hz hp ⊢
    have v1 : IntKind.i64.wrap (b.1 - a.1) = b.1 - a.1 := i64_in (by omega) (by omega)
    have v2 : IntKind.i64.wrap (b.2 - a.2) = b.2 - a.2 := i64_in (by omega) (by omega)
    have m1 := mul_bd d2 hbd.1
    have m2 := mul_bd d1 hbd.2
    have v3 : IntKind.i64.wrap ((b.2 - a.2) * sh.1) = (b.2 - a.2) * sh.1 := i64_in (by omega) (by omega)
    have v4 : IntKind.i64.wrap ((b.1 - a.1) * sh.2) = (b.1 - a.1) * sh.2 := i64_in (by omega) (by omega)
    have v5 : IntKind.i64.wrap ((b.2 - a.2) * sh.1 - (b.1 - a.1) * sh.2) = rightS a b sh := i64_in (by omega) (by omega)
    have v6 : negI .i64 (rightS a b sh) = - rightS a b sh := by unfold negI rightS; rw [i64_in (by omega) (by omega)]; omega
    simp only [v1, v2, v3, v4, v5, v6]
    refine Ev.ct dm (Ev.cf dS (Ev.ct i2 (Ev.ct i1 (Ev.ct i2 (Ev.ct i1 (Ev.ct i3 (Ev.ct i3 ?_)))))))
    have fin : Ev (fun k => bif inb (i : Int) ws.length then (bif w == 0 then (bif inb (((segsTo l ws s i).length + m : Nat) : Int) ((segs l ws s).map fun x => x.2.2.2.2.2).length then (bif notB (decide (sh = (0, 0))) then some false else law24_AllowanceOutwards.l1 k ws A (((segsTo l ws s i).length + (m + 1) : Nat) : Int) (i : Int) ((m + 1 : Nat) : Int) l (l.length : Int) (i : Int) ((segs l ws s).map fun x => x.2.2.2.2.2) nm (l.getD i e0).2) else none)
        else law24_AllowanceOutwards.l1 k ws A (((segsTo l ws s i).length + (m + 1) : Nat) : Int) (i : Int) ((m + 1 : Nat) : Int) l (l.length : Int) (i : Int) ((segs l ws s).map fun x => x.2.2.2.2.2) nm (l.getD i e0).2) else none) true := by
      refine Ev.ct i4 ?_
      by_cases c : w = 0
      · exact Ev.ct (beq_iff_eq.2 c) (Ev.ct i3 (Ev.cf (by rw [decide_eq_true (hz c)]; rfl) q))
      · exact Ev.cf (beq_eq_false_iff_ne.2 c) q
    by_cases cA : A < 0
    · rw [if_pos cA] at hs
      refine Ev.ct (decide_eq_true cA) (Ev.ct i4 ?_)
      by_cases c : w > 0
      · have := hp c
        rw [hs] at this
        exact Ev.ct (decide_eq_true c) (Ev.cf (decide_eq_false (by omega)) fin)
      · exact Ev.cf (decide_eq_false c) fin
    · rw [if_neg cA] at hs
      refine Ev.cf (decide_eq_false cA) (Ev.ct i4 ?_)
      by_cases c : w > 0
      · have := hp c
        rw [hs] at this
        exact Ev.ct (decide_eq_true c) (Ev.cf (decide_eq_false (by omega)) fin)
      · exact Ev.cf (decide_eq_false c) fin
end
theorem Outwards_true (l : List ED) (ws : List Int) (hsz : ∀ i, i < l.length → (l.getD i e0).2.length ≤ 140737488351232) : Ev (fun k => law24_AllowanceOutwards.f k l ws) true := by
  unfold law24_AllowanceOutwards.f
  obtain ⟨b, hb, hs⟩ := small24_ev l ws hsz
  refine Ev.bind hb ?_
  cases b
  · exact Ev.ct rfl tail24
  have s := hs rfl
  have hw : ws.length ≤ 1000000 := by have := s.ws; omega
  refine Ev.cf rfl (Ev.bind (Shifts_ev l ws s.few hw) ?_)
  by_cases c : ¬ sidesE l ws = 0
  · rw [if_neg c]
    exact Ev.ct (bne_iff_ne.2 c) tail24
  have c := Classical.not_not.1 c
  rw [if_pos c]
  obtain ⟨ho, h1, h2⟩ := sidesE_ok.1 c
  have hp := Poly_ev l s.few
  rw [if_pos (outE_ok.2 ho)] at hp
  refine Ev.cf rfl (Ev.bind hp (Ev.cf rfl (Ev.cf ?_ (Ev.cf ?_ ?_))))
  · rw [bne_eq_false_iff_eq]
    show ((verts l).length : Int) = ((((segs l ws (signO l)).map fun x => x.2.2.2.2.2).length : Nat) : Int)
    rw [List.length_map, segs_vlen]
  · rw [bne_eq_false_iff_eq]; omega
  have ha := Area2_ev (verts l)
  rw [if_pos ho.poly] at ha
  refine Ev.bind ha ?_
  have hlen := s.most
  refine down (Q := fun i => Ev (fun k => law24_AllowanceOutwards.l0 k ws (area2 (verts l)) (((segsTo l ws (signO l) i).length : Nat) : Int) l (l.length : Int) (i : Int) ((segs l ws (signO l)).map fun x => x.2.2.2.2.2)) true) (n := l.length) ?_ ?_
  · refine Ev.step ?_
    simp only [law24_AllowanceOutwards.l0]
    exact Ev.cf dge tail24
  · intro i hi q
    refine Ev.step ?_
    simp only [law24_AllowanceOutwards.l0]
    exact Ev.ct (dlt hi) (Ev.ct (inbN hi) (out_in s.few h1 h2 ho.line rfl i hi _ q))
theorem AllowanceOutwards_plain (x : ArgsD law24_AllowanceOutwards.E.ps) (h : WFA law24_AllowanceOutwards.E.ps x) (hz : SZA law24_AllowanceOutwards.E.ps x) : ∃ k, law24_AllowanceOutwards.E.fn k x = some true :=
  Ev.ex (Outwards_true x.1 x.2.1 (sizes24 hz.1))
end Go.Gm
