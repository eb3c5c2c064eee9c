/- Points: the reference's. -/
import Derived.Test.YtgofapkelhccgaaM8c
import Derived.Test.YtgofapkelhccgaaDQ
set_option linter.unusedVariables false
set_option linter.unusedSimpArgs false
namespace Go.Gm
open Go.Pi

theorem whole2_ev (a : Int) (h0 : -9223372036854775808 ≤ a) (h1 : a ≤ 9223372036854775807) : Ev (fun k => ref08_whole.f k a) (nfQ (a : Rat)) := by
  unfold ref08_whole.f
  have o := Of2Q_ev a 1 h0 h1 (by decide) (by decide) (by decide)
  rw [div_one] at o
  exact Ev.bind o (Ev.pure _)
theorem POf2_ev (a b : Int) (h0 : -9223372036854775808 ≤ a) (h1 : a ≤ 9223372036854775807) (h2 : -9223372036854775808 ≤ b) (h3 : b ≤ 9223372036854775807) : Ev (fun k => ref08_Of.f k a b) (nfP (a : Rat) (b : Rat)) := by
  unfold ref08_Of.f
  exact Ev.bind (whole2_ev a h0 h1) (Ev.bind (whole2_ev b h2 h3) (Ev.pure _))
theorem PSame2_ev {n : Nat} (h1 : 1 ≤ n) (hn : n ≤ 10000000) (a b : PT) (ha1 : WQ n (p1 a)) (ha2 : WQ n (p2 a)) (hb1 : WQ n (p1 b)) (hb2 : WQ n (p2 b)) :
    Ev (fun k => ref08_Same.f k a b) (decide (qv (p1 a) = qv (p1 b) ∧ qv (p2 a) = qv (p2 b))) := by
  unfold ref08_Same.f
  refine Ev.bind (Cmp2Q_ev h1 hn (p1 a) (p1 b) ha1 hb1) ?_
  rw [cmpQ_zero]
  by_cases h : qv (p1 a) = qv (p1 b)
  · simp only [decide_eq_true h, condT]
    refine Ev.bind (Cmp2Q_ev h1 hn (p2 a) (p2 b) ha2 hb2) (Ev.eq (Ev.pure _) ?_)
    rw [cmpQ_zero]
    congr 1
    exact propext ⟨fun e => ⟨h, e⟩, fun e => e.2⟩
  · simp only [decide_eq_false h, condF]
    refine Ev.eq (Ev.pure _) ?_
    rw [decide_eq_false (fun e => h e.1)]
section
variable {n : Nat} (h1 : 1 ≤ n) (hn : n ≤ 1000000)
include h1 hn
theorem PAdd2_ev (a b : PT) (ha : WP n a) (hb : WP n b) : Ev (fun k => ref08_Add.f k a b) (nfP (px a + px b) (py a + py b)) := by
  unfold ref08_Add.f
  exact Ev.bind (Add2Q_ev h1 (by omega) (p1 a) (p1 b) ha.1 hb.1) (Ev.bind (Add2Q_ev h1 (by omega) (p2 a) (p2 b) ha.2 hb.2) (Ev.pure _))
theorem PSub2_ev (a b : PT) (ha : WP n a) (hb : WP n b) : Ev (fun k => ref08_Sub.f k a b) (nfP (px a - px b) (py a - py b)) := by
  unfold ref08_Sub.f
  exact Ev.bind (Sub2Q_ev h1 (by omega) (p1 a) (p1 b) ha.1 hb.1) (Ev.bind (Sub2Q_ev h1 (by omega) (p2 a) (p2 b) ha.2 hb.2) (Ev.pure _))
theorem PScale2_ev (a : PT) (r : RT) (ha : WP n a) (hr : WQ n r) : Ev (fun k => ref08_Scale.f k a r) (nfP (px a * qv r) (py a * qv r)) := by
  unfold ref08_Scale.f
  exact Ev.bind (Mul2Q_ev h1 (by omega) (p1 a) r ha.1 hr) (Ev.bind (Mul2Q_ev h1 (by omega) (p2 a) r ha.2 hr) (Ev.pure _))
theorem PCross2_ev (a b : PT) (ha : WP n a) (hb : WP n b) : Ev (fun k => ref08_Cross.f k a b) (nfQ (px a * py b - py a * px b)) := by
  unfold ref08_Cross.f
  refine Ev.bind (Mul2Q_ev h1 (by omega) (p1 a) (p2 b) ha.1 hb.2) (Ev.bind (Mul2Q_ev h1 (by omega) (p2 a) (p1 b) ha.2 hb.1) ?_)
  have m1 := (ha.x h1).mul (hb.y h1)
  have m2 := (ha.y h1).mul (hb.x h1)
  have s := Sub2Q_ev (n := n + n) (by omega) (by omega) (nfQ (px a * py b)) (nfQ (py a * px b)) (WQ_nf m1) (WQ_nf m2)
  rw [qv_nfQ, qv_nfQ] at s
  exact Ev.bind s (Ev.pure _)
theorem PDot2_ev (a b : PT) (ha : WP n a) (hb : WP n b) : Ev (fun k => ref08_Dot.f k a b) (nfQ (px a * px b + py a * py b)) := by
  unfold ref08_Dot.f
  refine Ev.bind (Mul2Q_ev h1 (by omega) (p1 a) (p1 b) ha.1 hb.1) (Ev.bind (Mul2Q_ev h1 (by omega) (p2 a) (p2 b) ha.2 hb.2) ?_)
  have m1 := (ha.x h1).mul (hb.x h1)
  have m2 := (ha.y h1).mul (hb.y h1)
  have s := Add2Q_ev (n := n + n) (by omega) (by omega) (nfQ (px a * px b)) (nfQ (py a * py b)) (WQ_nf m1) (WQ_nf m2)
  rw [qv_nfQ, qv_nfQ] at s
  exact Ev.bind s (Ev.pure _)
end
section
variable {n : Nat} (h1 : 1 ≤ n) (hn : n ≤ 10000)
include h1 hn
theorem POn2_ev (a b : PT) (t : RT) (ha : WP n a) (hb : WP n b) (ht : WQ n t) : Ev (fun k => ref08_On.f k a b t) (nfP (onQ (px a) (py a) (px b) (py b) (qv t)).1 (onQ (px a) (py a) (px b) (py b) (qv t)).2) := by
  unfold ref08_On.f
  refine Ev.bind (PSub2_ev h1 (by omega) b a hb ha) ?_
  have w := WP_sub h1 hb ha
  have s := PScale2_ev (n := 2 * n + 1) (by omega) (by omega) _ t w (ht.mono (by omega))
  rw [px_nf, py_nf] at s
  refine Ev.bind s ?_
  have w2 : WP (3 * n + 1) (nfP ((px b - px a) * qv t) ((py b - py a) * qv t)) :=
    WP_nf ((((hb.x h1).sub (ha.x h1)).mul (qv_RS h1 ht)).mono (by omega)) ((((hb.y h1).sub (ha.y h1)).mul (qv_RS h1 ht)).mono (by omega))
  have a2 := PAdd2_ev (n := 3 * n + 1) (by omega) (by omega) a _ (ha.mono (by omega)) w2
  rw [px_nf, py_nf] at a2
  exact Ev.bind a2 (Ev.pure _)
theorem PSide2_ev (a b p : PT) (ha : WP n a) (hb : WP n b) (hp : WP n p) : Ev (fun k => ref08_Side.f k a b p) (cmpQ (crossQ (px a) (py a) (px b) (py b) (px p) (py p)) 0) := by
  unfold ref08_Side.f
  refine Ev.bind (PSub2_ev h1 (by omega) b a hb ha) (Ev.bind (PSub2_ev h1 (by omega) p a hp ha) ?_)
  have w1 := WP_sub h1 hb ha
  have w2 := WP_sub h1 hp ha
  have c := PCross2_ev (n := 2 * n + 1) (by omega) (by omega) _ _ w1 w2
  have rc := RS_cross (n := 2 * n + 1) (by omega) w1 w2
  simp only [px_nf, py_nf] at c rc
  refine Ev.bind c (Ev.bind (whole2_ev 0 (by decide) (by decide)) ?_)
  have z : RS 1 ((0 : Int) : Rat) := RS_int (by decide) (by decide)
  have m := Cmp2Q_ev (n := 4 * (2 * n + 1) + 1) (by omega) (by omega) (nfQ _) (nfQ ((0 : Int) : Rat)) (WQ_nf rc) (WQ_nf (z.mono (by omega)))
  rw [qv_nfQ, qv_nfQ] at m
  exact Ev.bind m (Ev.pure _)
end
section
variable {n : Nat} (h1 : 1 ≤ n) (hn : n ≤ 500)
include h1 hn
theorem PFoot2_ev (p a b : PT) (hp : WP n p) (ha : WP n a) (hb : WP n b) : Ev (fun k => ref08_Foot.f k p a b) (if footD (px a) (py a) (px b) (py b) = 0 then (zeroP, 10) else (nfP (footP p a b).1 (footP p a b).2, 0)) := by
  unfold ref08_Foot.f
  have w1 := WP_sub h1 hb ha
  have w2 := WP_sub h1 hp ha
  refine Ev.bind (PSub2_ev h1 (by omega) b a hb ha) (Ev.bind (PSub2_ev h1 (by omega) p a hp ha) ?_)
  have e1 := PDot2_ev (n := 2 * n + 1) (by omega) (by omega) _ _ w2 w1
  have e2 := PDot2_ev (n := 2 * n + 1) (by omega) (by omega) _ _ w1 w1
  have d1 := RS_dot (by omega) w2 w1
  have d2 := RS_dot (by omega) w1 w1
  simp only [px_nf, py_nf] at e1 e2 d1 d2
  refine Ev.bind e1 (Ev.bind e2 ?_)
  have q := Div2Q_ev (n := 4 * (2 * n + 1) + 1) (by omega) (by omega) (nfQ _) (nfQ _) (WQ_nf d1) (WQ_nf d2)
  rw [qv_nfQ, qv_nfQ] at q
  refine Ev.bind q ?_
  by_cases h0 : (px b - px a) * (px b - px a) + (py b - py a) * (py b - py a) = 0
  · rw [if_pos h0, if_pos (show footD _ _ _ _ = 0 from h0)]
    exact Ev.pure _
  · rw [if_neg h0, if_neg (show ¬ footD _ _ _ _ = 0 from h0)]
    simp only [notB_t, condF]
    have rt := d1.div d2
    have o := POn2_ev (n := 16 * n + 10) (by omega) (by omega) a b (nfQ _) (ha.mono (by omega)) (hb.mono (by omega)) ((WQ_nf rt).mono (by omega))
    rw [qv_nfQ] at o
    exact Ev.bind o (Ev.pure _)
theorem PMeet2_ev (a b c d : PT) (ha : WP n a) (hb : WP n b) (hc : WP n c) (hd : WP n d) : Ev (fun k => ref08_Meet.f k a b c d) (if meetD (px a) (py a) (px b) (py b) (px c) (py c) (px d) (py d) = 0 then (zeroP, 10) else (nfP (meetP a b c d).1 (meetP a b c d).2, 0)) := by
  unfold ref08_Meet.f
  have w1 := WP_sub h1 hb ha
  have w2 := WP_sub h1 hd hc
  have w3 := WP_sub h1 hc ha
  have e1 := PCross2_ev (n := 2 * n + 1) (by omega) (by omega) _ _ w3 w2
  have e2 := PCross2_ev (n := 2 * n + 1) (by omega) (by omega) _ _ w1 w2
  have d1 := RS_cross (by omega) w3 w2
  have d2 := RS_cross (by omega) w1 w2
  simp only [px_nf, py_nf] at e1 e2 d1 d2
  refine Ev.bind (PSub2_ev h1 (by omega) c a hc ha) (Ev.bind (PSub2_ev h1 (by omega) d c hd hc) (Ev.bind e1 (Ev.bind (PSub2_ev h1 (by omega) b a hb ha) (Ev.bind (PSub2_ev h1 (by omega) d c hd hc) (Ev.bind e2 ?_)))))
  have q := Div2Q_ev (n := 4 * (2 * n + 1) + 1) (by omega) (by omega) (nfQ _) (nfQ _) (WQ_nf d1) (WQ_nf d2)
  rw [qv_nfQ, qv_nfQ] at q
  refine Ev.bind q ?_
  by_cases h0 : (px b - px a) * (py d - py c) - (py b - py a) * (px d - px c) = 0
  · rw [if_pos h0, if_pos (show meetD _ _ _ _ _ _ _ _ = 0 from h0)]
    exact Ev.pure _
  · rw [if_neg h0, if_neg (show ¬ meetD _ _ _ _ _ _ _ _ = 0 from h0)]
    simp only [notB_t, condF]
    have rt := d1.div d2
    have o := POn2_ev (n := 16 * n + 10) (by omega) (by omega) a b (nfQ _) (ha.mono (by omega)) (hb.mono (by omega)) ((WQ_nf rt).mono (by omega))
    rw [qv_nfQ] at o
    exact Ev.bind o (Ev.pure _)
theorem PMirror2_ev (p a b : PT) (hp : WP n p) (ha : WP n a) (hb : WP n b) : Ev (fun k => ref08_Mirror.f k p a b) (if footD (px a) (py a) (px b) (py b) = 0 then (zeroP, 10) else (nfP (mirX (px p) (footP p a b).1) (mirX (py p) (footP p a b).2), 0)) := by
  unfold ref08_Mirror.f
  refine Ev.bind (PFoot2_ev h1 hn p a b hp ha hb) ?_
  by_cases h0 : footD (px a) (py a) (px b) (py b) = 0
  · rw [if_pos h0, if_pos h0]
    exact Ev.pure _
  · rw [if_neg h0, if_neg h0]
    have t0 : ((0 : Int) != 0) = false := rfl
    simp only [t0, condF]
    have wf := WP_foot h1 hp ha hb
    have s1 := PAdd2_ev (n := 19 * n + 12) (by omega) (by omega) _ _ wf wf
    have w2 := WP_add (by omega) wf wf
    have s2 := PSub2_ev (n := 2 * (19 * n + 12) + 1) (by omega) (by omega) _ p w2 (hp.mono (by omega))
    simp only [px_nf, py_nf] at s1 s2
    exact Ev.bind s1 (Ev.bind s2 (Ev.pure _))
theorem PSame2W_ev (a b : PT) (ha : WP n a) (hb : WP n b) : Ev (fun k => ref08_Same.f k a b) (decide (px a = px b ∧ py a = py b)) :=
  PSame2_ev h1 (by omega) a b ha.1 ha.2 hb.1 hb.2
end
end Go.Gm
