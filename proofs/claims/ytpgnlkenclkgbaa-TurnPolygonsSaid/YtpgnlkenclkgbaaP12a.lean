/- The laws of chapter 12, as plain statements (1). -/
import Derived.Test.YtpgnlkenclkgbaaM12a
import Derived.Test.YtpgnlkenclkgbaaB12x0
set_option linter.unusedVariables false
set_option linter.unusedSimpArgs false
set_option maxRecDepth 100000
namespace Go.Gm
open Go.Pi

theorem ex12_E : law12_exampleHolds.E.fn 1000 () = some true := by kernel_rfl
theorem ex12_k (k : Nat) (hk : 1000 ≤ k) : law12_exampleHolds.f k = some true := law12_exampleHolds.H.m 1000 k () _ hk ex12_E
theorem ex12 : law12_exampleHolds.f 1000 = some true := ex12_k 1000 (Nat.le_refl _)

theorem law_TurnResults (a b : Bool × Int) (s : Int × Int) (h1 : I64 s.1) (h2 : I64 s.2) : law12_TurnResults.f 1000 a b s = some true := by
  unfold law12_TurnResults.f
  rw [Norm_eq, bindO_s, rNorm_eq, bindO_s, sameT, decide_eq_true rfl, condT, Apply_eq, bindO_s, rApply_eq _ _ h1 h2 _ (by omega), bindO_s, sameS, decide_eq_true rfl, condT, Compose_eq, bindO_s, rCompose_eq, bindO_s, sameT, decide_eq_true rfl, condT,
    Inverse_eq, bindO_s, rInverse_eq, bindO_s, sameT, decide_eq_true rfl, condT, ex12, bindO_s]
theorem TurnResults_plain : ∀ x : ArgsD law12_TurnResults.E.ps, WFA law12_TurnResults.E.ps x → ∃ k, law12_TurnResults.E.fn k x = some true := by
  intro x h
  obtain ⟨a0, a1, a2, u⟩ := x
  obtain ⟨_, _, h3, _⟩ := h
  simp only [WFr, WFc] at h3
  exact ⟨1000, law_TurnResults a0 a1 a2 (wf_i64 h3.1) (wf_i64 h3.2)⟩

/-! polygons -/
def polyD (t : Bool × Int) (p : List (Int × Int)) : List (Int × Int) := (cond t.1 p.reverse p).map (act t)
theorem polyD_len (t : Bool × Int) (p : List (Int × Int)) : (polyD t p).length = p.length := by unfold polyD; cases t.1 <;> simp

theorem Poly_l0 (p : List (Int × Int)) (hp : p.length ≤ 1000000) (t : Bool × Int) : ∀ (n k i : Nat) (out : List (Int × Int)), n = p.length - i → i ≤ p.length → n + 2 ≤ k → out.length = p.length →
    (cond t.1 (out.drop (p.length - i)) (out.take i)) = cond t.1 ((polyD t p).drop (p.length - i)) ((polyD t p).take i) →
    turn_Poly.l0 k p p (p.length : Int) (i : Int) t.1 t.2 out = some (polyD t p) := by
  intro n
  induction n with
  | zero =>
    intro k i out hn hi hk ho hc
    obtain ⟨k, rfl⟩ : ∃ m, k = m + 1 := ⟨k - 1, by omega⟩
    have hi' : i = p.length := by omega
    subst hi'
    have : ¬ ((p.length : Int) < (p.length : Int)) := by omega
    simp only [turn_Poly.l0, decide_eq_false this, condF]
    congr 1
    have hl := polyD_len t p
    cases ht : t.1 with
    | true => rw [ht] at hc; simpa using hc
    | false =>
      rw [ht] at hc
      have hc' : out.take p.length = (polyD t p).take p.length := hc
      rwa [List.take_of_length_le (by omega), List.take_of_length_le (by omega)] at hc'
  | succ n ih =>
    intro k i out hn hi hk ho hc
    obtain ⟨k, rfl⟩ : ∃ m, k = m + 1 := ⟨k - 1, by omega⟩
    have hlt : i < p.length := by omega
    have c : (i : Int) < (p.length : Int) := by omega
    have hl := polyD_len t p
    have w3 : IntKind.i64.wrap ((i : Int) + 1) = ((i + 1 : Nat) : Int) := by rw [i64_in (by omega) (by omega)]; omega
    have w1 : IntKind.i64.wrap (IntKind.i64.wrap ((p.length : Int) - 1) - (i : Int)) = ((p.length - 1 - i : Nat) : Int) := by
      rw [i64_in (x := (p.length : Int) - 1) (by omega) (by omega), i64_in (by omega) (by omega)]; omega
    have e5 : (t.1, t.2) = t := rfl
    rw [turn_Poly.l0, decide_eq_true c, condT, inb_t' (Int.natCast_nonneg i) c, condT, gd_get' _ p i hlt, e5, Apply_eq, bindO_s, bindO_s, w1, w3]
    cases ht : t.1 with
    | true =>
      rw [condT, inb_t' (by omega) (by omega), condT, Int.toNat_natCast, ← ht]
      refine ih k (i + 1) _ (by omega) (by omega) (by omega) (by simp [ho]) ?_
      rw [ht] at hc ⊢
      have hc' : out.drop (p.length - i) = (polyD t p).drop (p.length - i) := hc
      show (out.set (p.length - 1 - i) _).drop (p.length - (i + 1)) = (polyD t p).drop (p.length - (i + 1))
      have hj : p.length - (i + 1) < (polyD t p).length := by omega
      have hj2 : p.length - (i + 1) < (out.set (p.length - 1 - i) (act t p[i])).length := by simp; omega
      rw [List.drop_eq_getElem_cons hj, List.drop_eq_getElem_cons hj2, show p.length - (i + 1) + 1 = p.length - i by omega, ← hc']
      congr 1
      · have : p.length - 1 - i = p.length - (i + 1) := by omega
        simp only [this, List.getElem_set_self]
        unfold polyD
        simp only [ht, cond]
        rw [List.getElem_map, List.getElem_reverse]
        congr 2
        omega
      · rw [List.drop_set_of_lt (by omega)]
    | false =>
      rw [condF, inb_t' (Int.natCast_nonneg i) (by omega), condT, Int.toNat_natCast, ← ht]
      refine ih k (i + 1) _ (by omega) (by omega) (by omega) (by simp [ho]) ?_
      rw [ht] at hc ⊢
      have hc' : out.take i = (polyD t p).take i := hc
      show (out.set i _).take (i + 1) = (polyD t p).take (i + 1)
      rw [List.take_succ_eq_append_getElem (by simp; omega), List.take_succ_eq_append_getElem (by omega), ← hc', List.getElem_set_self, List.take_set_of_le (Nat.le_refl i)]
      congr 2
      unfold polyD
      simp only [ht, cond]
      rw [List.getElem_map]
theorem Poly_eq (t : Bool × Int) (p : List (Int × Int)) (hp : p.length ≤ 1000000) (k : Nat) (hk : p.length + 2 ≤ k) : turn_Poly.f k t p = some (polyD t p) := by
  unfold turn_Poly.f
  have h1 : (0 : Int) ≤ (p.length : Int) := by omega
  have h2 : (p.length : Int) * 16 ≤ 140737488355328 := by omega
  rw [decide_eq_true h1, decide_eq_true (Int.le_refl _), decide_eq_true h2]
  simp only [Bool.and_self, condT, Int.toNat_natCast]
  refine Poly_l0 p hp t p.length k 0 _ (by omega) (by omega) hk (by simp) ?_
  have hl := polyD_len t p
  cases t.1 with
  | true =>
    show List.drop _ _ = List.drop _ _
    rw [List.drop_of_length_le (by simp), List.drop_of_length_le (by omega)]
  | false => rfl
theorem rPoly_l0 (p : List (Int × Int)) (hp : p.length ≤ 1000000) (hb : ∀ s ∈ p, I64 s.1 ∧ I64 s.2) (t : Bool × Int) : ∀ (n k i : Nat) (out : List (Int × Int)), n = p.length - i → i ≤ p.length → n + 7 ≤ k → out = (polyD t p).take i →
    ref12_Poly.l0 k p (i : Int) t.1 t.2 out = some (polyD t p) := by
  intro n
  induction n with
  | zero =>
    intro k i out hn hi hk ho
    obtain ⟨k, rfl⟩ : ∃ m, k = m + 1 := ⟨k - 1, by omega⟩
    have hl := polyD_len t p
    have : ¬ ((i : Int) < (p.length : Int)) := by omega
    simp only [ref12_Poly.l0, decide_eq_false this, condF]
    rw [ho, List.take_of_length_le (by omega)]
  | succ n ih =>
    intro k i out hn hi hk ho
    obtain ⟨k, rfl⟩ : ∃ m, k = m + 1 := ⟨k - 1, by omega⟩
    have hlt : i < p.length := by omega
    have c : (i : Int) < (p.length : Int) := by omega
    have hl := polyD_len t p
    have hlo : out.length = i := by rw [ho, List.length_take]; omega
    have w3 : IntKind.i64.wrap ((i : Int) + 1) = ((i + 1 : Nat) : Int) := by rw [i64_in (by omega) (by omega)]; omega
    have w1 : IntKind.i64.wrap (IntKind.i64.wrap ((p.length : Int) - 1) - (i : Int)) = ((p.length - 1 - i : Nat) : Int) := by
      rw [i64_in (x := (p.length : Int) - 1) (by omega) (by omega), i64_in (by omega) (by omega)]; omega
    have e5 : (t.1, t.2) = t := rfl
    have hj : p.length - 1 - i < p.length := by omega
    have b1 := hb _ (List.getElem_mem hlt)
    have b2 := hb _ (List.getElem_mem hj)
    have fit : ∀ x : Int × Int, fits 16 out.length (List.length [x]) = true := fun x => by unfold fits; exact decide_eq_true (by rw [hlo, List.length_singleton]; omega)
    have nxt : ∀ x : Int × Int, x = (polyD t p)[i]'(by omega) → ref12_Poly.l0 k p ((i + 1 : Nat) : Int) t.1 t.2 (out ++ [x]) = some (polyD t p) := fun x hx => by
      refine ih k (i + 1) _ (by omega) (by omega) (by omega) ?_
      rw [List.take_succ_eq_append_getElem (by omega), ← ho, hx]
    rw [ref12_Poly.l0, decide_eq_true c, condT, w1, w3, e5]
    cases ht : t.1 with
    | true =>
      rw [condT, inb_t' (by omega) (by omega), condT, gd_get' _ p _ hj, rApply_eq _ _ b2.1 b2.2 _ (by omega), bindO_s, fit, condT, ← ht]
      refine nxt _ ?_
      unfold polyD
      simp only [ht, cond]
      rw [List.getElem_map, List.getElem_reverse]
    | false =>
      rw [condF, inb_t' (Int.natCast_nonneg i) (by omega), condT, gd_get' _ p i hlt, rApply_eq _ _ b1.1 b1.2 _ (by omega), bindO_s, fit, condT, ← ht]
      refine nxt _ ?_
      unfold polyD
      simp only [ht, cond]
      rw [List.getElem_map]
theorem rPoly_eq (t : Bool × Int) (p : List (Int × Int)) (hp : p.length ≤ 1000000) (hb : ∀ s ∈ p, I64 s.1 ∧ I64 s.2) (k : Nat) (hk : p.length + 7 ≤ k) : ref12_Poly.f k t p = some (polyD t p) := by
  unfold ref12_Poly.f
  exact rPoly_l0 p hp hb t p.length k 0 [] (by omega) (by omega) hk rfl
theorem SameSpots_l0 (p : List (Int × Int)) (hp : p.length ≤ 1000000) : ∀ (n k i : Nat), n = p.length - i → i ≤ p.length → n + 1 ≤ k → ref12_SameSpots.l0 k p p (i : Int) = some true := by
  intro n
  induction n with
  | zero =>
    intro k i hn hi hk
    obtain ⟨k, rfl⟩ : ∃ m, k = m + 1 := ⟨k - 1, by omega⟩
    have : ¬ ((i : Int) < (p.length : Int)) := by omega
    simp only [ref12_SameSpots.l0, decide_eq_false this, condF]
  | succ n ih =>
    intro k i hn hi hk
    obtain ⟨k, rfl⟩ : ∃ m, k = m + 1 := ⟨k - 1, by omega⟩
    have hlt : i < p.length := by omega
    have c : (i : Int) < (p.length : Int) := by omega
    have w3 : IntKind.i64.wrap ((i : Int) + 1) = ((i + 1 : Nat) : Int) := by rw [i64_in (by omega) (by omega)]; omega
    rw [ref12_SameSpots.l0, decide_eq_true c, condT, inb_t' (Int.natCast_nonneg i) c, condT, condT, sameS, decide_eq_true rfl]
    simp only [notB, Bool.not_true, condF, w3]
    exact ih k (i + 1) (by omega) (by omega) (by omega)
theorem SameSpots_eq (p : List (Int × Int)) (hp : p.length ≤ 1000000) (k : Nat) (hk : p.length + 1 ≤ k) : ref12_SameSpots.f k p p = some true := by
  unfold ref12_SameSpots.f
  rw [bne_self_eq_false, condF]
  exact SameSpots_l0 p hp p.length k 0 (by omega) (by omega) hk
theorem law_TurnPolys (t : Bool × Int) (p : List (Int × Int)) (hb : ∀ s ∈ p, I64 s.1 ∧ I64 s.2) : law12_TurnPolys.f 1000 t p = some true := by
  unfold law12_TurnPolys.f
  by_cases c : ((p.length : Nat) : Int) > 200
  · rw [decide_eq_true c, condT, ex12, bindO_s]
  · rw [decide_eq_false c, condF, Poly_eq t p (by omega) _ (by omega), bindO_s, rPoly_eq t p (by omega) hb _ (by omega), bindO_s, SameSpots_eq _ (by rw [polyD_len]; omega) _ (by rw [polyD_len]; omega), bindO_s, condT, ex12, bindO_s]
theorem wf_spots {p : List (Int × Int)} (h : WFr (.one (.sl (.cons (.int .i64) (.one (.int .i64))))) p) : ∀ s ∈ p, I64 s.1 ∧ I64 s.2 := by
  simp only [WFr, WFc] at h
  intro s hs
  have := h.2 s hs
  exact ⟨wf_i64 this.1, wf_i64 this.2⟩
theorem TurnPolys_plain : ∀ x : ArgsD law12_TurnPolys.E.ps, WFA law12_TurnPolys.E.ps x → ∃ k, law12_TurnPolys.E.fn k x = some true := by
  intro x h
  obtain ⟨a0, a1, u⟩ := x
  obtain ⟨_, h3, _⟩ := h
  exact ⟨1000, law_TurnPolys a0 a1 (wf_spots h3)⟩

/-! grains -/
def allD (g : Int) (m : Bool) : List (Bool × Int) := ([0, 1, 2, 3] : List Int).filterMap fun q => if allowB g m (m, q) then some (m, q) else none
theorem All_l0 (g : Int) (m : Bool) : ∀ (n k : Nat) (i : Nat) (out : List (Bool × Int)), n = 4 - i → i ≤ 4 → n + 1 ≤ k → out.length ≤ i →
    turn_All.l0 k g m (i : Int) out = some (out ++ (([0, 1, 2, 3] : List Int).drop i).filterMap fun q => if allowB g m (m, q) then some (m, q) else none) := by
  intro n
  induction n with
  | zero =>
    intro k i out hn hi hk ho
    obtain ⟨k, rfl⟩ : ∃ m, k = m + 1 := ⟨k - 1, by omega⟩
    have hi' : i = 4 := by omega
    subst hi'
    have : ¬ (((4 : Nat) : Int) < 4) := by decide
    simp only [turn_All.l0, decide_eq_false this, condF]
    simp
  | succ n ih =>
    intro k i out hn hi hk ho
    obtain ⟨k, rfl⟩ : ∃ m, k = m + 1 := ⟨k - 1, by omega⟩
    have c : (i : Int) < 4 := by omega
    have w3 : IntKind.i64.wrap ((i : Int) + 1) = ((i + 1 : Nat) : Int) := by rw [i64_in (by omega) (by omega)]; omega
    have fit : fits 16 out.length (List.length [(m, (i : Int))]) = true := by unfold fits; exact decide_eq_true (by rw [List.length_singleton]; omega)
    have hd : ([0, 1, 2, 3] : List Int).drop i = (i : Int) :: ([0, 1, 2, 3] : List Int).drop (i + 1) := by
      obtain h | h | h | h : i = 0 ∨ i = 1 ∨ i = 2 ∨ i = 3 := by omega
      all_goals subst h; rfl
    rw [turn_All.l0, decide_eq_true c, condT, Allowed_eq, bindO_s, fit, condT, w3, hd, List.filterMap_cons]
    cases ha : allowB g m (m, (i : Int)) with
    | true =>
      rw [condT, ih k (i + 1) _ (by omega) (by omega) (by omega) (by simp; omega)]
      simp
    | false =>
      rw [condF, ih k (i + 1) _ (by omega) (by omega) (by omega) (by omega)]
      simp
theorem All_eq (g : Int) (m : Bool) (k : Nat) (hk : 5 ≤ k) : turn_All.f k g m = some (allD g m) := by
  unfold turn_All.f
  have := All_l0 g m 4 k 0 [] rfl (by decide) hk (by decide)
  simpa [allD] using this
theorem rAll_l0 (g : Int) (m : Bool) : ∀ (n k : Nat) (i : Nat) (out : List (Bool × Int)), n = 4 - i → i ≤ 4 → n + 1 ≤ k → out.length ≤ i →
    ref12_All.l0 k g m (i : Int) out = some (out ++ (([0, 1, 2, 3] : List Int).drop i).filterMap fun q => if allowB g m (m, q) then some (m, q) else none) := by
  intro n
  induction n with
  | zero =>
    intro k i out hn hi hk ho
    obtain ⟨k, rfl⟩ : ∃ m, k = m + 1 := ⟨k - 1, by omega⟩
    have hi' : i = 4 := by omega
    subst hi'
    have : ¬ (((4 : Nat) : Int) < 4) := by decide
    simp only [ref12_All.l0, decide_eq_false this, condF]
    simp
  | succ n ih =>
    intro k i out hn hi hk ho
    obtain ⟨k, rfl⟩ : ∃ m, k = m + 1 := ⟨k - 1, by omega⟩
    have c : (i : Int) < 4 := by omega
    have w3 : IntKind.i64.wrap ((i : Int) + 1) = ((i + 1 : Nat) : Int) := by rw [i64_in (by omega) (by omega)]; omega
    have fit : fits 16 out.length (List.length [(m, (i : Int))]) = true := by unfold fits; exact decide_eq_true (by rw [List.length_singleton]; omega)
    have hd : ([0, 1, 2, 3] : List Int).drop i = (i : Int) :: ([0, 1, 2, 3] : List Int).drop (i + 1) := by
      obtain h | h | h | h : i = 0 ∨ i = 1 ∨ i = 2 ∨ i = 3 := by omega
      all_goals subst h; rfl
    rw [ref12_All.l0, decide_eq_true c, condT, rAllowed_eq, bindO_s, fit, condT, w3, hd, List.filterMap_cons]
    cases ha : allowB g m (m, (i : Int)) with
    | true =>
      rw [condT, ih k (i + 1) _ (by omega) (by omega) (by omega) (by simp; omega)]
      simp
    | false =>
      rw [condF, ih k (i + 1) _ (by omega) (by omega) (by omega) (by omega)]
      simp
theorem rAll_eq (g : Int) (m : Bool) (k : Nat) (hk : 5 ≤ k) : ref12_All.f k g m = some (allD g m) := by
  unfold ref12_All.f
  have := rAll_l0 g m 4 k 0 [] rfl (by decide) hk (by decide)
  simpa [allD] using this
theorem Grains_l0 (g : Int) (m : Bool) (t : Bool × Int) (l : List (Bool × Int)) (hl : l.length ≤ 4) (ha : allowB g m t = decide ((t.1, t.2 % 4) ∈ l)) : ∀ (n k i : Nat) (b : Bool), n = l.length - i → i ≤ l.length → 1000 ≤ k → b = decide ((t.1, t.2 % 4) ∈ l.take i) →
    law12_TurnGrains.l0 (k + n + 1) g m b (l.length : Int) (i : Int) t.1 t.2 l l = some true := by
  intro n
  induction n with
  | zero =>
    intro k i b hn hi hk hb
    have : ¬ ((i : Int) < (l.length : Int)) := by omega
    have e5 : (t.1, t.2) = t := rfl
    have hi' : i = l.length := by omega
    subst hi'
    rw [List.take_length] at hb
    rw [law12_TurnGrains.l0]
    simp only [Nat.add_zero, decide_eq_false this, condF]
    rw [e5, Allowed_eq, bindO_s, rAllowed_eq, bindO_s, bindO_s, ha, ← hb]
    unfold eqB
    rw [beq_self_eq_true, condT, condT, ex12_k k hk, bindO_s]
  | succ n ih =>
    intro k i b hn hi hk hb
    have hlt : i < l.length := by omega
    have c : (i : Int) < (l.length : Int) := by omega
    have w3 : IntKind.i64.wrap ((i : Int) + 1) = ((i + 1 : Nat) : Int) := by rw [i64_in (by omega) (by omega)]; omega
    have e5 : (t.1, t.2) = t := rfl
    have nxt : ∀ b', b' = decide ((t.1, t.2 % 4) ∈ l.take (i + 1)) → law12_TurnGrains.l0 (k + n + 1) g m b' (l.length : Int) ((i + 1 : Nat) : Int) t.1 t.2 l l = some true := fun b' h => ih k (i + 1) b' (by omega) (by omega) hk h
    rw [show k + (n + 1) + 1 = (k + n + 1) + 1 by omega, law12_TurnGrains.l0, decide_eq_true c, condT, inb_t' (Int.natCast_nonneg i) c, condT, condT, condT, sameT, decide_eq_true rfl, gd_get' _ l i hlt, e5, Norm_eq, bindO_s]
    simp only [notB, Bool.not_true, condF, w3]
    have ht : l.take (i + 1) = l.take i ++ [l[i]] := List.take_succ_eq_append_getElem hlt
    cases b with
    | true =>
      rw [condT]
      refine nxt true ?_
      have hb' := (decide_eq_true_iff (p := (t.1, t.2 % 4) ∈ l.take i)).1 hb.symm
      rw [ht]
      exact (decide_eq_true (List.mem_append_left _ hb')).symm
    | false =>
      rw [condF, sameT l[i] (t.1, t.2 % 4)]
      refine nxt _ ?_
      have hb' : ¬ (t.1, t.2 % 4) ∈ l.take i := of_decide_eq_false hb.symm
      rw [ht]
      by_cases q : l[i] = (t.1, t.2 % 4)
      · rw [decide_eq_true q]; exact (decide_eq_true (List.mem_append_right _ (by simp [q]))).symm
      · rw [decide_eq_false q]
        refine (decide_eq_false fun h => ?_).symm
        rcases List.mem_append.1 h with h | h
        · exact hb' h
        · exact q (List.mem_singleton.1 h).symm
theorem allD_mem (g : Int) (m : Bool) (t : Bool × Int) : allowB g m t = decide ((t.1, t.2 % 4) ∈ allD g m) := by
  rw [Bool.eq_iff_iff, decide_eq_true_iff]
  unfold allD
  rw [List.mem_filterMap]
  have key : allowB g t.1 (t.1, t.2 % 4) = allowB g t.1 t := by
    unfold allowB
    have e1 : t.2 % 4 % 4 = t.2 % 4 := by omega
    have e2 : t.2 % 4 % 2 = t.2 % 2 := by omega
    simp only [e1, e2]
  constructor
  · intro h
    have hm : t.1 = m := by
      unfold allowB at h
      rw [Bool.and_eq_true] at h
      simpa using h.1
    subst hm
    refine ⟨t.2 % 4, ?_, ?_⟩
    · rcases four t.2 with q | q | q | q <;> rw [q] <;> simp
    · rw [key, h]; rfl
  · rintro ⟨q, _, h⟩
    split at h
    · rename_i ha
      simp only [Option.some.injEq, Prod.mk.injEq] at h
      obtain ⟨rfl, h2⟩ := h
      rw [h2, key] at ha
      exact ha
    · cases h
theorem law_TurnGrains (g : Int) (m : Bool) (t : Bool × Int) : law12_TurnGrains.f 2000 g m t = some true := by
  unfold law12_TurnGrains.f
  have hl : (allD g m).length ≤ 4 := by
    unfold allD
    exact Nat.le_trans (List.length_filterMap_le _ _) (by decide)
  rw [All_eq g m _ (by omega), bindO_s, rAll_eq g m _ (by omega), bindO_s, bne_self_eq_false, condF]
  have := Grains_l0 g m t (allD g m) hl (allD_mem g m t) (allD g m).length (2000 - (allD g m).length - 1) 0 false (by omega) (by omega) (by omega) rfl
  rw [show 2000 - (allD g m).length - 1 + (allD g m).length + 1 = 2000 by omega] at this
  exact this
theorem TurnGrains_plain : ∀ x : ArgsD law12_TurnGrains.E.ps, WFA law12_TurnGrains.E.ps x → ∃ k, law12_TurnGrains.E.fn k x = some true := by
  intro x h
  obtain ⟨a0, a1, a2, u⟩ := x
  exact ⟨2000, law_TurnGrains a0 a1 a2⟩

/-! the group -/
theorem act_comp (a b : Bool × Int) (s : Int × Int) (h1 : I64 s.1) (h2 : I64 s.2) : act (comp a b) s = act b (act a s) := by
  obtain ⟨x, y⟩ := s
  obtain ⟨f, p⟩ := a
  obtain ⟨g, q⟩ := b
  have n1 := ng_ng (x := x) h1
  have n2 := ng_ng (x := y) h2
  have key : (if g then (q - p) % 4 else (p + q) % 4) % 4 = if g then (q % 4 - p % 4) % 4 else (p % 4 + q % 4) % 4 := by cases g <;> simp <;> omega
  unfold act comp
  simp only [key]
  rcases four p with hp | hp | hp | hp <;> rcases four q with hq | hq | hq | hq <;> rw [hp, hq] <;> cases f <;> cases g <;> simp [rot, flp, n1, n2]
theorem comp_assoc (a b c : Bool × Int) : comp (comp a b) c = comp a (comp b c) := by
  obtain ⟨f, p⟩ := a
  obtain ⟨g, q⟩ := b
  obtain ⟨h, r⟩ := c
  unfold comp
  cases f <;> cases g <;> cases h <;> simp <;> omega
theorem comp_none (a : Bool × Int) : comp a (false, 0) = (a.1, a.2 % 4) := by
  unfold comp; cases a.1 <;> simp
theorem none_comp (a : Bool × Int) : comp (false, 0) a = (a.1, a.2 % 4) := by
  unfold comp; cases a.1 <;> simp
theorem comp_inv (a : Bool × Int) : comp a (inv a) = (false, 0) := by
  obtain ⟨f, p⟩ := a
  unfold comp inv
  cases f <;> simp <;> omega
theorem inv_comp (a : Bool × Int) : comp (inv a) a = (false, 0) := by
  obtain ⟨f, p⟩ := a
  unfold comp inv
  cases f <;> simp <;> omega
theorem act_none (s : Int × Int) : act (false, 0) s = s := rfl
theorem law_TurnGroup (a b c : Bool × Int) (s : Int × Int) (h1 : I64 s.1) (h2 : I64 s.2) : law12_TurnGroup.f 1000 a b c s = some true := by
  unfold law12_TurnGroup.f
  have e1 : act (inv a) (act a s) = s := by rw [← act_comp a (inv a) s h1 h2, comp_inv, act_none]
  have nt : ∀ p : Prop, ∀ [Decidable p], p → notB (decide p) = false := fun p _ h => by unfold notB; rw [decide_eq_true h]; rfl
  have s0 : ∀ r : Bool × Int, andB (eqB r.1 false) (andB (eqI r.2 0) true) = decide (r = (false, 0)) := fun r => sameT r (false, 0)
  rw [Compose_eq, bindO_s, Apply_eq, bindO_s, Apply_eq, bindO_s, Apply_eq, bindO_s, sameS, nt _ (act_comp a b s h1 h2), condF, bindO_s, Compose_eq, bindO_s, Compose_eq, bindO_s, Compose_eq, bindO_s, sameT, nt _ (comp_assoc a b c), condF,
    Compose_eq, bindO_s, Norm_eq, bindO_s, sameT, nt _ (comp_none a), condF, Compose_eq, bindO_s, bindO_s, sameT, nt _ (none_comp a), condF, Inverse_eq, bindO_s, Compose_eq, bindO_s, s0, nt _ (comp_inv a), condF, bindO_s, Compose_eq, bindO_s, s0, nt _ (inv_comp a), condF,
    bindO_s, bindO_s, Apply_eq, bindO_s, sameS, decide_eq_true e1, condT, ex12, bindO_s]
theorem TurnGroup_plain : ∀ x : ArgsD law12_TurnGroup.E.ps, WFA law12_TurnGroup.E.ps x → ∃ k, law12_TurnGroup.E.fn k x = some true := by
  intro x h
  obtain ⟨a0, a1, a2, a3, u⟩ := x
  obtain ⟨_, _, _, h3, _⟩ := h
  simp only [WFr, WFc] at h3
  exact ⟨1000, law_TurnGroup a0 a1 a2 a3 (wf_i64 h3.1) (wf_i64 h3.2)⟩
theorem act_12 (a b : Bool × Int) : ((a.1, a.2 % 4) = (b.1, b.2 % 4)) ↔ act a (1, 2) = act b (1, 2) := by
  obtain ⟨f, p⟩ := a
  obtain ⟨g, q⟩ := b
  have n1 : negI .i64 1 = -1 := rfl
  have n2 : negI .i64 2 = -2 := rfl
  have n3 : negI .i64 (-1) = 1 := rfl
  have n4 : negI .i64 (-2) = 2 := rfl
  unfold act
  rcases four p with hp | hp | hp | hp <;> rcases four q with hq | hq | hq | hq <;> simp only [hp, hq] <;> cases f <;> cases g <;> simp [rot, flp, n1, n2, n3, n4]
theorem law_TurnEight (a b : Bool × Int) : law12_TurnEight.f 1000 a b = some true := by
  unfold law12_TurnEight.f
  have nt : ∀ p : Prop, ∀ [Decidable p], p → notB (decide p) = false := fun p _ h => by unfold notB; rw [decide_eq_true h]; rfl
  have s0 : ∀ r : Bool × Int, andB (eqB r.1 false) (andB (eqI r.2 0) true) = decide (r = (false, 0)) := fun r => sameT r (false, 0)
  have iff1 := act_12 a b
  have e1 : notB (eqB (decide ((a.1, a.2 % 4) = (b.1, b.2 % 4))) (decide (act a (1, 2) = act b (1, 2)))) = false := by
    unfold notB eqB
    by_cases q : (a.1, a.2 % 4) = (b.1, b.2 % 4)
    · rw [decide_eq_true q, decide_eq_true (iff1.1 q)]; rfl
    · rw [decide_eq_false q, decide_eq_false (fun h => q (iff1.2 h))]; rfl
  have c1 : ¬ (a.2 % 4 < 0) := by omega
  have c2 : ¬ (a.2 % 4 > 3) := by omega
  have c3 : notB (eqB a.1 a.1) = false := by unfold notB eqB; rw [beq_self_eq_true]; rfl
  have c4 : (a.1, a.2 % 4 % 4) = (a.1, a.2 % 4) := by congr 1; omega
  have c5 : comp (comp a a) (comp a a) = (false, 0) := by
    obtain ⟨f, p⟩ := a
    unfold comp
    cases f <;> simp <;> omega
  rw [Norm_eq, bindO_s, Norm_eq, bindO_s, Apply_eq, bindO_s, Apply_eq, bindO_s, sameT, sameS, e1, condF, bindO_s, decide_eq_false c1, condF, decide_eq_false c2, condF, c3, condF, Norm_eq, bindO_s, sameT, nt _ c4, condF, Compose_eq, bindO_s, Compose_eq, bindO_s, s0, decide_eq_true c5, condT, s0]
  cases ha : a.1 with
  | false => simp only [notB, Bool.not_false, condT, ex12, bindO_s]
  | true =>
    have c6 : comp a a = (false, 0) := by
      obtain ⟨f, p⟩ := a
      have ha' : f = true := ha
      subst ha'
      unfold comp
      simp
    rw [decide_eq_true c6]
    simp only [notB, Bool.not_true, condF, condT, ex12, bindO_s]
theorem TurnEight_plain : ∀ x : ArgsD law12_TurnEight.E.ps, WFA law12_TurnEight.E.ps x → ∃ k, law12_TurnEight.E.fn k x = some true := by
  intro x h
  obtain ⟨a0, a1, u⟩ := x
  exact ⟨1000, law_TurnEight a0 a1⟩
end Go.Gm
