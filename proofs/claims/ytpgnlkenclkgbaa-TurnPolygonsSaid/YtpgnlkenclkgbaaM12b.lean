/- Turns of points. -/
import Derived.Test.YtpgnlkenclkgbaaMQ
import Derived.Test.YtpgnlkenclkgbaaM12a
set_option linter.unusedVariables false
set_option linter.unusedSimpArgs false
namespace Go.Gm
open Go.Pi

def rotQ : Nat → Rat → Rat → Rat × Rat
  | 0, x, y => (x, y)
  | n + 1, x, y => rotQ n (-y) x
def actQ (t : Bool × Int) (x y : Rat) : Rat × Rat := rotQ (t.2 % 4).toNat (bif t.1 then -x else x) y
theorem rotQ_RS {m : Nat} : ∀ (n : Nat) (x y : Rat), RS m x → RS m y → RS m (rotQ n x y).1 ∧ RS m (rotQ n x y).2
  | 0, x, y, hx, hy => ⟨hx, hy⟩
  | n + 1, x, y, hx, hy => rotQ_RS n (-y) x hy.neg hx
theorem actQ_RS {m : Nat} (t : Bool × Int) (x y : Rat) (hx : RS m x) (hy : RS m y) : RS m (actQ t x y).1 ∧ RS m (actQ t x y).2 := by
  unfold actQ
  cases t.1
  · exact rotQ_RS _ _ _ hx hy
  · exact rotQ_RS _ _ _ hx.neg hy
theorem Point_l0 {m : Nat} (hm : m ≤ 10000000) (b b' : Bool) : ∀ (n : Nat) (i q : Int) (x y : Rat), RS m x → RS m y → 0 ≤ i → q = i + n → q ≤ 4 →
    Ev (fun k => turn_Point.l0 k q i b b' (nfQ x).1 (nfQ x).2.1 (nfQ x).2.2 (nfQ y).1 (nfQ y).2.1 (nfQ y).2.2) (nfP (rotQ n x y).1 (rotQ n x y).2) := by
  intro n
  induction n with
  | zero =>
    intro i q x y hx hy hi hq hq4
    have t0 : ¬ (i < q) := by omega
    refine Ev.step ?_
    simp only [turn_Point.l0, decide_eq_false t0, condF]
    exact Ev.pure _
  | succ n ih =>
    intro i q x y hx hy hi hq hq4
    have t0 : i < q := by omega
    have e : IntKind.i64.wrap (i + 1) = i + 1 := i64_in (by omega) (by omega)
    refine Ev.step ?_
    simp only [turn_Point.l0, decide_eq_true t0, condT, e]
    have g := Neg1Q_ev hy.pos hm (nfQ y) (WQ_nf hy)
    rw [qv_nfQ] at g
    exact Ev.bind g (ih (i + 1) q (-y) x hy.neg hx (by omega) (by omega) hq4)
theorem rPoint_l0 {m : Nat} (hm : m ≤ 10000000) (b b' f : Bool) : ∀ (n : Nat) (i q : Int) (x y : Rat), RS m x → RS m y → 0 ≤ i → q = i + n → q ≤ 4 →
    Ev (fun k => ref12_Point.l0 k i b b' (nfQ x).1 (nfQ x).2.1 (nfQ x).2.2 (nfQ y).1 (nfQ y).2.1 (nfQ y).2.2 f q) (nfP (rotQ n x y).1 (rotQ n x y).2) := by
  intro n
  induction n with
  | zero =>
    intro i q x y hx hy hi hq hq4
    have t0 : ¬ (i < q) := by omega
    refine Ev.step ?_
    simp only [ref12_Point.l0, decide_eq_false t0, condF]
    exact Ev.pure _
  | succ n ih =>
    intro i q x y hx hy hi hq hq4
    have t0 : i < q := by omega
    have e : IntKind.i64.wrap (i + 1) = i + 1 := i64_in (by omega) (by omega)
    refine Ev.step ?_
    simp only [ref12_Point.l0, decide_eq_true t0, condT, e]
    have g := Neg2Q_ev hy.pos hm (nfQ y) (WQ_nf hy)
    rw [qv_nfQ] at g
    exact Ev.bind g (ih (i + 1) q (-y) x hy.neg hx (by omega) (by omega) hq4)
theorem Point1_ev {m : Nat} (h1 : 1 ≤ m) (hm : m ≤ 10000000) (t : Bool × Int) (p : PT) (hx : WQ m (p1 p)) (hy : WQ m (p2 p)) :
    Ev (fun k => turn_Point.f k t p) (nfP (actQ t (qv (p1 p)) (qv (p2 p))).1 (actQ t (qv (p1 p)) (qv (p2 p))).2) := by
  have rx := qv_RS h1 hx
  have ry := qv_RS h1 hy
  unfold turn_Point.f actQ
  refine Ev.bind (Norm1Q_ev (p1 p) (hx.mono (by omega))) (Ev.bind (Norm1Q_ev (p2 p) (hy.mono (by omega))) ?_)
  generalize qv (p1 p) = x at *
  generalize qv (p2 p) = y at *
  rw [zand3]
  cases ht : t.1
  · simp only [condF]
    exact Point_l0 hm false false (t.2 % 4).toNat 0 (t.2 % 4) x y rx ry (by omega) (by omega) (by omega)
  · simp only [condT]
    have g := Neg1Q_ev h1 hm (nfQ x) (WQ_nf rx)
    rw [qv_nfQ] at g
    exact Ev.bind g (Point_l0 hm false false (t.2 % 4).toNat 0 (t.2 % 4) (-x) y rx.neg ry (by omega) (by omega) (by omega))
theorem Point2_ev {m : Nat} (h1 : 1 ≤ m) (hm : m ≤ 10000000) (t : Bool × Int) (p : PT) (hx : WQ m (p1 p)) (hy : WQ m (p2 p)) :
    Ev (fun k => ref12_Point.f k t p) (nfP (actQ t (qv (p1 p)) (qv (p2 p))).1 (actQ t (qv (p1 p)) (qv (p2 p))).2) := by
  have rx := qv_RS h1 hx
  have ry := qv_RS h1 hy
  unfold ref12_Point.f actQ
  refine Ev.bind (Norm2Q_ev (p1 p) (hx.mono (by omega))) (Ev.bind (Norm2Q_ev (p2 p) (hy.mono (by omega))) ?_)
  generalize qv (p1 p) = x at *
  generalize qv (p2 p) = y at *
  cases ht : t.1
  · simp only [condF, rNorm_eq, bindO_s]
    exact rPoint_l0 hm false false t.1 (t.2 % 4).toNat 0 (t.2 % 4) x y rx ry (by omega) (by omega) (by omega)
  · simp only [condT, rNorm_eq, bindO_s]
    have g := Neg2Q_ev h1 hm (nfQ x) (WQ_nf rx)
    rw [qv_nfQ] at g
    exact Ev.bind g (rPoint_l0 hm false false t.1 (t.2 % 4).toNat 0 (t.2 % 4) (-x) y rx.neg ry (by omega) (by omega) (by omega))
end Go.Gm
