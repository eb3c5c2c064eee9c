/- Points: the program's (2). -/
import Derived.Test.YtgofapkelhccgaaM8a
set_option linter.unusedVariables false
set_option linter.unusedSimpArgs false
namespace Go.Gm
open Go.Pi

/-- Both coordinates have at most n limbs. -/
def WP (n : Nat) (p : PT) : Prop := WQ n (p1 p) ∧ WQ n (p2 p)
def px (p : PT) : Rat := qv (p1 p)
def py (p : PT) : Rat := qv (p2 p)
theorem px_nf (x y : Rat) : px (nfP x y) = x := qv_nfQ x
theorem py_nf (x y : Rat) : py (nfP x y) = y := qv_nfQ y
theorem WP_nf {n : Nat} {x y : Rat} (hx : RS n x) (hy : RS n y) : WP n (nfP x y) := ⟨WQ_nf hx, WQ_nf hy⟩
theorem WP.mono {m n : Nat} {p : PT} (h : WP m p) (hl : m ≤ n) : WP n p := ⟨h.1.mono hl, h.2.mono hl⟩
theorem WP.x {n : Nat} {p : PT} (h : WP n p) (h1 : 1 ≤ n) : RS n (px p) := qv_RS h1 h.1
theorem WP.y {n : Nat} {p : PT} (h : WP n p) (h1 : 1 ≤ n) : RS n (py p) := qv_RS h1 h.2
section
variable {n : Nat} (h1 : 1 ≤ n) (hn : n ≤ 1000000)
include h1 hn
theorem PAdd1_ev (a b : PT) (ha : WP n a) (hb : WP n b) : Ev (fun k => point_Add.f k a b) (nfP (px a + px b) (py a + py b)) := by
  have e : Ev (fun k => point_each_add.f k a b) (nfP (px a + px b) (py a + py b)) := by
    unfold point_each_add.f
    exact Ev.bind (Add1Q_ev h1 (by omega) (p1 a) (p1 b) ha.1 hb.1) (Ev.bind (Add1Q_ev h1 (by omega) (p2 a) (p2 b) ha.2 hb.2) (Ev.pure _))
  unfold point_Add.f
  exact Ev.bind e (Ev.pure _)
theorem PSub1_ev (a b : PT) (ha : WP n a) (hb : WP n b) : Ev (fun k => point_Sub.f k a b) (nfP (px a - px b) (py a - py b)) := by
  have e : Ev (fun k => point_each_sub.f k a b) (nfP (px a - px b) (py a - py b)) := by
    unfold point_each_sub.f
    exact Ev.bind (Sub1Q_ev h1 (by omega) (p1 a) (p1 b) ha.1 hb.1) (Ev.bind (Sub1Q_ev h1 (by omega) (p2 a) (p2 b) ha.2 hb.2) (Ev.pure _))
  unfold point_Sub.f
  exact Ev.bind e (Ev.pure _)
theorem PScale1_ev (a : PT) (r : RT) (ha : WP n a) (hr : WQ n r) : Ev (fun k => point_Scale.f k a r) (nfP (px a * qv r) (py a * qv r)) := by
  have e : Ev (fun k => point_each_mul.f k a (r.1, r.2.1, r.2.2, r)) (nfP (px a * qv r) (py a * qv r)) := by
    unfold point_each_mul.f
    exact Ev.bind (Mul1Q_ev h1 (by omega) (p1 a) r ha.1 hr) (Ev.bind (Mul1Q_ev h1 (by omega) (p2 a) r ha.2 hr) (Ev.pure _))
  unfold point_Scale.f
  exact Ev.bind e (Ev.pure _)
theorem PCross1_ev (a b : PT) (ha : WP n a) (hb : WP n b) : Ev (fun k => point_Cross.f k a b) (nfQ (px a * py b - py a * px b)) := by
  unfold point_Cross.f
  refine Ev.bind (Mul1Q_ev h1 (by omega) (p1 a) (p2 b) ha.1 hb.2) (Ev.bind (Mul1Q_ev h1 (by omega) (p2 a) (p1 b) ha.2 hb.1) ?_)
  have m1 := (ha.x h1).mul (hb.y h1)
  have m2 := (ha.y h1).mul (hb.x h1)
  have s := Sub1Q_ev (n := n + n) (by omega) (by omega) (nfQ (px a * py b)) (nfQ (py a * px b)) (WQ_nf m1) (WQ_nf m2)
  rw [qv_nfQ, qv_nfQ] at s
  exact Ev.bind s (Ev.pure _)
theorem PDot1_ev (a b : PT) (ha : WP n a) (hb : WP n b) : Ev (fun k => point_Dot.f k a b) (nfQ (px a * px b + py a * py b)) := by
  unfold point_Dot.f
  refine Ev.bind (Mul1Q_ev h1 (by omega) (p1 a) (p1 b) ha.1 hb.1) (Ev.bind (Mul1Q_ev h1 (by omega) (p2 a) (p2 b) ha.2 hb.2) ?_)
  have m1 := (ha.x h1).mul (hb.x h1)
  have m2 := (ha.y h1).mul (hb.y h1)
  have s := Add1Q_ev (n := n + n) (by omega) (by omega) (nfQ (px a * px b)) (nfQ (py a * py b)) (WQ_nf m1) (WQ_nf m2)
  rw [qv_nfQ, qv_nfQ] at s
  exact Ev.bind s (Ev.pure _)
end
theorem RS_dot {n : Nat} (h1 : 1 ≤ n) {a b : PT} (ha : WP n a) (hb : WP n b) : RS (4 * n + 1) (px a * px b + py a * py b) :=
  (((ha.x h1).mul (hb.x h1)).add ((ha.y h1).mul (hb.y h1))).mono (by omega)
theorem RS_cross {n : Nat} (h1 : 1 ≤ n) {a b : PT} (ha : WP n a) (hb : WP n b) : RS (4 * n + 1) (px a * py b - py a * px b) :=
  (((ha.x h1).mul (hb.y h1)).sub ((ha.y h1).mul (hb.x h1))).mono (by omega)
theorem WP_sub {n : Nat} (h1 : 1 ≤ n) {a b : PT} (ha : WP n a) (hb : WP n b) : WP (2 * n + 1) (nfP (px a - px b) (py a - py b)) :=
  WP_nf (((ha.x h1).sub (hb.x h1)).mono (by omega)) (((ha.y h1).sub (hb.y h1)).mono (by omega))
theorem WP_add {n : Nat} (h1 : 1 ≤ n) {a b : PT} (ha : WP n a) (hb : WP n b) : WP (2 * n + 1) (nfP (px a + px b) (py a + py b)) :=
  WP_nf (((ha.x h1).add (hb.x h1)).mono (by omega)) (((ha.y h1).add (hb.y h1)).mono (by omega))
/-- The point of a line. -/
def onQ (ax ay bx b_y t : Rat) : Rat × Rat := (ax + (bx - ax) * t, ay + (b_y - ay) * t)
theorem WP_on {n : Nat} (h1 : 1 ≤ n) {a b : PT} {t : Rat} (ha : WP n a) (hb : WP n b) (ht : RS n t) : WP (4 * n + 2) (nfP (onQ (px a) (py a) (px b) (py b) t).1 (onQ (px a) (py a) (px b) (py b) t).2) :=
  WP_nf (((ha.x h1).add (((hb.x h1).sub (ha.x h1)).mul ht)).mono (by omega)) (((ha.y h1).add (((hb.y h1).sub (ha.y h1)).mul ht)).mono (by omega))
section
variable {n : Nat} (h1 : 1 ≤ n) (hn : n ≤ 10000)
include h1 hn
theorem POn1_ev (a b : PT) (t : RT) (ha : WP n a) (hb : WP n b) (ht : WQ n t) : Ev (fun k => point_On.f k a b t) (nfP (onQ (px a) (py a) (px b) (py b) (qv t)).1 (onQ (px a) (py a) (px b) (py b) (qv t)).2) := by
  unfold point_On.f
  refine Ev.bind (PSub1_ev h1 (by omega) b a hb ha) ?_
  have w := WP_sub h1 hb ha
  have s := PScale1_ev (n := 2 * n + 1) (by omega) (by omega) _ t w (ht.mono (by omega))
  rw [px_nf, py_nf] at s
  refine Ev.bind s ?_
  have w2 : WP (3 * n + 1) (nfP ((px b - px a) * qv t) ((py b - py a) * qv t)) :=
    WP_nf ((((hb.x h1).sub (ha.x h1)).mul (qv_RS h1 ht)).mono (by omega)) ((((hb.y h1).sub (ha.y h1)).mul (qv_RS h1 ht)).mono (by omega))
  have a2 := PAdd1_ev (n := 3 * n + 1) (by omega) (by omega) a _ (ha.mono (by omega)) w2
  rw [px_nf, py_nf] at a2
  exact Ev.bind a2 (Ev.pure _)
/-- On which side: the sign of the cross product. -/
def crossQ (ax ay bx b_y x y : Rat) : Rat := (bx - ax) * (y - ay) - (b_y - ay) * (x - ax)
theorem PSide1_ev (a b p : PT) (ha : WP n a) (hb : WP n b) (hp : WP n p) : Ev (fun k => point_Side.f k a b p) (cmpQ (crossQ (px a) (py a) (px b) (py b) (px p) (py p)) 0) := by
  unfold point_Side.f
  refine Ev.bind (PSub1_ev h1 (by omega) b a hb ha) (Ev.bind (PSub1_ev h1 (by omega) p a hp ha) ?_)
  have w1 := WP_sub h1 hb ha
  have w2 := WP_sub h1 hp ha
  have c := PCross1_ev (n := 2 * n + 1) (by omega) (by omega) _ _ w1 w2
  have rc := RS_cross (n := 2 * n + 1) (by omega) w1 w2
  simp only [px_nf, py_nf] at c rc
  refine Ev.bind c (Ev.bind (whole1_ev 0 (by decide) (by decide)) ?_)
  have z : RS 1 ((0 : Int) : Rat) := RS_int (by decide) (by decide)
  have m := Cmp1Q_ev (n := 4 * (2 * n + 1) + 1) (by omega) (by omega) (nfQ _) (nfQ ((0 : Int) : Rat)) (WQ_nf rc) (WQ_nf (z.mono (by omega)))
  rw [qv_nfQ, qv_nfQ] at m
  exact Ev.bind m (Ev.pure _)
end
end Go.Gm
