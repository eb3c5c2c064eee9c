/- Points: equality of forms, sizes. -/
import Derived.Test.YtgofapkelhccgaaM8d
set_option linter.unusedVariables false
set_option linter.unusedSimpArgs false
namespace Go.Gm
open Go.Pi

theorem same2_l0 (b : Bool) (a : List Int) (hl : a.length ≤ 100000000) : ∀ (n i : Nat), n = a.length - i → i ≤ a.length → Ev (fun k => ref02_Same.l0 k (i : Int) b a b a) true := by
  intro n
  induction n with
  | zero =>
    intro i hn hi
    have t0 : ¬ ((i : Int) < (a.length : Int)) := by omega
    refine Ev.step ?_
    simp only [ref02_Same.l0, decide_eq_false t0, condF]
    exact Ev.pure _
  | succ n ih =>
    intro i hn hi
    have t0 : ((i : Int) < (a.length : Int)) := by omega
    have t1 : inb (i : Int) a.length = true := inb_t' (by omega) t0
    have t2 : (gd (0 : Int) a (i : Int) != gd (0 : Int) a (i : Int)) = false := by simp
    refine Ev.step ?_
    simp only [ref02_Same.l0, decide_eq_true t0, condT, t1, t2, condF, add1 (i := i) (by omega)]
    exact ih (i + 1) (by omega) (by omega)
theorem same8_l0 (a : List Int) (hl : a.length ≤ 100000000) : ∀ (n i : Nat), n = a.length - i → i ≤ a.length → Ev (fun k => ref08_sameNat.l0 k a a (i : Int)) true := by
  intro n
  induction n with
  | zero =>
    intro i hn hi
    have t0 : ¬ ((i : Int) < (a.length : Int)) := by omega
    refine Ev.step ?_
    simp only [ref08_sameNat.l0, decide_eq_false t0, condF]
    exact Ev.pure _
  | succ n ih =>
    intro i hn hi
    have t0 : ((i : Int) < (a.length : Int)) := by omega
    have t1 : inb (i : Int) a.length = true := inb_t' (by omega) t0
    have t2 : (gd (0 : Int) a (i : Int) != gd (0 : Int) a (i : Int)) = false := by simp
    refine Ev.step ?_
    simp only [ref08_sameNat.l0, decide_eq_true t0, condT, t1, t2, condF, add1 (i := i) (by omega)]
    exact ih (i + 1) (by omega) (by omega)
theorem SameR_refl (x : RT) (h : x.2.1.length ≤ 10000000 ∧ x.2.2.length ≤ 10000000) : Ev (fun k => ref08_SameRatio.f k x x) true := by
  have t2 : ∀ a : List Int, ((a.length : Int) != (a.length : Int)) = false := fun a => by simp
  have s : Ev (fun k => ref02_Same.f k (x.1, x.2.1) (x.1, x.2.1)) true := by
    unfold ref02_Same.f
    simp only [eqB_refl, notB_t, t2, condF]
    exact same2_l0 x.1 x.2.1 (by omega) x.2.1.length 0 (by omega) (by omega)
  have n : Ev (fun k => ref08_sameNat.f k x.2.2 x.2.2) true := by
    unfold ref08_sameNat.f
    simp only [t2, condF]
    exact same8_l0 x.2.2 (by omega) x.2.2.length 0 (by omega) (by omega)
  unfold ref08_SameRatio.f
  refine Ev.bind s ?_
  simp only [condT]
  exact Ev.bind n (Ev.pure _)
theorem SameQ_refl {n : Nat} {q : Rat} (h : RS n q) (hn : n ≤ 10000000) : Ev (fun k => ref08_SameRatio.f k (nfQ q) (nfQ q)) true := by
  have w := WQ_nf h
  exact SameR_refl _ ⟨Nat.le_trans w.1.2 hn, Nat.le_trans w.2.2 hn⟩
theorem Exact_refl (p : PT) (h1 : (p1 p).2.1.length ≤ 10000000 ∧ (p1 p).2.2.length ≤ 10000000) (h2 : (p2 p).2.1.length ≤ 10000000 ∧ (p2 p).2.2.length ≤ 10000000) : Ev (fun k => ref08_Exact.f k p p) true := by
  unfold ref08_Exact.f
  refine Ev.bind (SameR_refl (p1 p) h1) ?_
  simp only [condT]
  exact Ev.bind (SameR_refl (p2 p) h2) (Ev.pure _)
theorem Exact_nf {n : Nat} {p : PT} (w : WP n p) (hn : n ≤ 10000000) : Ev (fun k => ref08_Exact.f k p p) true :=
  Exact_refl _ ⟨Nat.le_trans w.1.1.2 hn, Nat.le_trans w.1.2.2 hn⟩ ⟨Nat.le_trans w.2.1.2 hn, Nat.le_trans w.2.2.2 hn⟩
theorem Exact_zero : Ev (fun k => ref08_Exact.f k zeroP zeroP) true := Exact_refl _ (by decide) (by decide)
theorem Few_eq (x : RT) (n : Nat) : ref08_Few.f x (n : Int) = some (fewB n x) := few_cond _ _ _
def shortB (n : Nat) (p : PT) : Bool := fewB n (p1 p) && fewB n (p2 p)
theorem Short_eq (p : PT) (n : Nat) : ref08_Short.f p (n : Int) = some (shortB n p) := by
  have e1 : ref08_Few.f (p.1, p.2.1, p.2.2.1) (n : Int) = some (fewB n (p1 p)) := Few_eq (p1 p) n
  have e2 : ref08_Few.f p.2.2.2 (n : Int) = some (fewB n (p2 p)) := Few_eq (p2 p) n
  unfold ref08_Short.f shortB
  rw [e1, bindO_s, e2]
  cases fewB n (p1 p)
  · rfl
  · rw [condT, bindO_s]; rfl
def LimbsP (p : PT) : Prop := (Limbs (p1 p).2.1 ∧ Limbs (p1 p).2.2) ∧ (Limbs (p2 p).2.1 ∧ Limbs (p2 p).2.2)
theorem WP_short {n : Nat} {p : PT} (h : LimbsP p) (hs : shortB n p = true) : WP n p := by
  unfold shortB at hs
  rw [Bool.and_eq_true] at hs
  exact ⟨WQ_few h.1.1 h.1.2 hs.1, WQ_few h.2.1 h.2.2 hs.2⟩
end Go.Gm
