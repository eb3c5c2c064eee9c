/- Allowances: sides and vertices; widths 0. -/
import Derived.Test.YtbaceloeihkmkaaGreatDoorMQ3
set_option linter.unusedVariables false
set_option linter.unusedSimpArgs false
namespace Go.Gm
open Go.Pi

theorem verts_pre (l : List ED) (i : Nat) : ∀ d, i + d ≤ l.length → ∃ r, verts (l.take (i + d)) = verts (l.take i) ++ r
  | 0, _ => ⟨[], by simp⟩
  | d + 1, h => by
    obtain ⟨r, hr⟩ := verts_pre l i d (by omega)
    exact ⟨r ++ _, by rw [← Nat.add_assoc, verts_take_succ l (i + d) (by omega), hr, List.append_assoc]⟩
/-- Where a vertex stands. -/
theorem verts_get (l : List ED) {i m : Nat} (hi : i < l.length) (hm : m < (l.getD i e0).2.length - 1) :
    (verts l)[(verts (l.take i)).length + m]? = some ((l.getD i e0).2.getD m (0, 0)) := by
  obtain ⟨r, h⟩ := verts_pre l (i + 1) (l.length - (i + 1)) (by omega)
  rw [show i + 1 + (l.length - (i + 1)) = l.length by omega, List.take_length] at h
  rw [h, verts_take_succ l i hi, List.append_assoc, List.getElem?_append_right (by omega), Nat.add_sub_cancel_left, List.getElem?_append_left (by rw [List.length_take]; omega), List.getElem?_take, if_pos hm, getD_lt ((0 : Int), (0 : Int)) (l.getD i e0).2 (show m < (l.getD i e0).2.length by omega), List.getElem?_eq_getElem (show m < (l.getD i e0).2.length by omega)]
theorem verts_locate (l : List ED) (h2 : ∀ i, i < l.length → 2 ≤ (l.getD i e0).2.length) : ∀ n, n ≤ l.length → ∀ j, j < (verts (l.take n)).length → ∃ i m, i < n ∧ m < (l.getD i e0).2.length - 1 ∧ j = (verts (l.take i)).length + m
  | 0, _, j, hj => by simp [verts] at hj
  | n + 1, hn, j, hj => by
    by_cases c : j < (verts (l.take n)).length
    · obtain ⟨i, m, a, b, d⟩ := verts_locate l h2 n (by omega) j c
      exact ⟨i, m, by omega, b, d⟩
    · rw [verts_take_succ l n (by omega), List.length_append, List.length_take] at hj
      exact ⟨n, j - (verts (l.take n)).length, by omega, by omega, by omega⟩
theorem atI_some {p : List Spot} {j : Nat} {x : Spot} (h : p[j]? = some x) : atI p (j : Int) = x := by
  obtain ⟨h1, h2⟩ := List.getElem?_eq_some_iff.1 h
  rw [atI_nat p h1]
  exact h2
/-- The sides of an outline lead from vertex to vertex. -/
theorem segs_side {l : List ED} (ho : Out l) (ws : List Int) (s : Int) {j : Nat} (hj : j < (verts l).length) :
    ∃ i, i < l.length ∧ (segs l ws s)[j]? = some (sideS (atI (verts l) j) (atI (verts l) ((j : Int) + 1)) (ws.getD i 0) s) := by
  have h2 : ∀ i, i < l.length → 2 ≤ (l.getD i e0).2.length := fun i hi => (lineE_ok.1 (ho.line i hi)).2.1
  obtain ⟨i, m, hi, hm, rfl⟩ := verts_locate l h2 l.length (Nat.le_refl _) j (by rw [List.take_length]; exact hj)
  have hs := segs_at l ws s hi hm
  rw [segs_verts l ws s i (by omega)] at hs
  refine ⟨i, hi, ?_⟩
  rw [hs]
  have e1 := atI_some (verts_get l hi hm)
  rw [e1]
  have e2 : atI (verts l) ((((verts (l.take i)).length + m : Nat) : Int) + 1) = (l.getD i e0).2.getD (m + 1) (0, 0) := by
    by_cases c : m + 1 < (l.getD i e0).2.length - 1
    · have := atI_some (verts_get l hi c)
      rw [← this]
      congr 1
    · -- the edge's last point is the next one's first
      have hlast : (l.getD i e0).2.getD (m + 1) (0, 0) = lastS (l.getD i e0).2 := by
        unfold lastS
        rw [show m + 1 = (l.getD i e0).2.length - 1 by omega]
      rw [hlast, (joint_all l).1 ho.joint i hi]
      have hk : (verts (l.take (i + 1))).length = (verts (l.take i)).length + m + 1 := by
        rw [verts_take_succ l i hi, List.length_append, List.length_take]
        omega
      by_cases e : i + 1 = l.length
      · rw [e, Nat.mod_self]
        have h0 := atI_some (verts_get l (i := 0) (m := 0) (by omega) (by have := h2 0 (by omega); omega))
        rw [← h0]
        have hz : (verts (l.take 0)).length = 0 := by simp [verts]
        rw [hz]
        rw [e, List.take_length] at hk
        have : ((((verts (l.take i)).length + m : Nat) : Int) + 1) = ((0 + 0 : Nat) : Int) + ((verts l).length : Int) := by omega
        rw [this, atI_add_len]
      · rw [Nat.mod_eq_of_lt (by omega)]
        have h0 := atI_some (verts_get l (i := i + 1) (m := 0) (by omega) (by have := h2 (i + 1) (by omega); omega))
        rw [← h0]
        congr 1
        omega
  rw [e2]
theorem rnd_int0 : rnd (0 : Rat) = 0 := by decide +kernel
theorem grid0 : gridD 0 0 = ((0, 0), 0) := by
  unfold gridD
  rw [rnd_int0, if_pos (by unfold inG; decide)]
theorem shS_side (a b : Spot) (w s : Int) : shS (sideS a b w s) = shiftS a b w s := rfl
theorem from_side (a b : Spot) (w s : Int) : fromS (sideS a b w s) = a := rfl
theorem to_side (a b : Spot) (w s : Int) : toS (sideS a b w s) = b := rfl
theorem add_z (a : Spot) : addS a (0, 0) = a := by unfold addS; simp
theorem lenS_pos {a b : Spot} (ha : Ins a) (hb : Ins b) (hab : a ≠ b) : 0 < lenS a b := (side_nums ha hb hab (w := 0) (s := 1) (by decide) (.inl rfl)).2.2.2.1
theorem meet_at {P Q S : Spot} (h : meetDI P Q Q S ≠ 0) : meetI P Q Q S = ((Q.1 : Rat), (Q.2 : Rat)) := by
  unfold meetI meetP ptI
  simp only [px_nf, py_nf]
  have hN : meetN (P.1 : Rat) P.2 Q.1 Q.2 S.1 S.2 = meetD P.1 P.2 Q.1 Q.2 Q.1 Q.2 S.1 S.2 := rfl
  rw [hN]
  have hD : meetD (P.1 : Rat) P.2 Q.1 Q.2 Q.1 Q.2 S.1 S.2 ≠ 0 := h
  rw [Rat.div_def, Rat.mul_inv_cancel _ hD, onQ_eq]
  refine Prod.ext ?_ ?_
  · show (P.1 : Rat) + ((Q.1 : Rat) - P.1) * 1 = Q.1
    grind
  · show (P.2 : Rat) + ((Q.2 : Rat) - P.2) * 1 = Q.2
    grind
theorem corner_zero {a b : SideT} (h1 : toS a = fromS b) (h2 : shS a = (0, 0)) (h3 : shS b = (0, 0)) (h4 : 0 ≤ widS a) : cornerS a b = [fromS b] ∨ cornerS a b = [fromS b, fromS b] := by
  have e1 : mFrom a = fromS a := by unfold mFrom; rw [h2, add_z]
  have e2 : mTo a = fromS b := by unfold mTo; rw [h2, add_z, h1]
  have e3 : mFrom b = fromS b := by unfold mFrom; rw [h3, add_z]
  have e4 : mTo b = toS b := by unfold mTo; rw [h3, add_z]
  unfold cornerS
  by_cases c : meetDI (mFrom a) (mTo a) (mFrom b) (mTo b) = 0
  · rw [if_neg (fun h => h.1 c), e2, e3]
    exact .inr rfl
  · have hc : cornD a b = ((0, 0), 0) := by
      unfold cornD
      rw [e1, e2, e3, e4] at c ⊢
      rw [meet_at c]
      show gridD ((fromS b).1 - (fromS b).1) ((fromS b).2 - (fromS b).2) = _
      rw [Rat.sub_self, Rat.sub_self, grid0]
    rw [hc, if_pos ⟨c, rfl, by unfold absI mostS; show max (0 : Int) (-0) ≤ _; omega, by unfold absI mostS; show max (0 : Int) (-0) ≤ _; omega⟩, add_z]
    exact .inl rfl
theorem push_same (l : List Spot) (p : Spot) (h : l.length = 0 ∨ lastS l ≠ p) : push l p = l ++ [p] ∧ push (l ++ [p]) p = l ++ [p] := by
  refine ⟨if_pos h, if_neg ?_⟩
  rintro (h1 | h1)
  · simp at h1
  · apply h1
    unfold lastS
    simp
theorem moved_zero {l : List ED} (ho : Out l) {s : Int} {ws : List Int} (hs : s = 1 ∨ s = -1) (hw : ∀ i, ws.getD i 0 = 0) : movedO (segs l ws s) = verts l := by
  obtain ⟨h40, h3, hin, hsim⟩ := checkP_ok.1 ho.poly
  have hN : (segs l ws s).length = (verts l).length := segs_vlen l ws s
  have I := insI (by omega) hin
  have ne : ∀ j : Nat, atI (verts l) j ≠ atI (verts l) ((j : Int) + 1) := fun j => hsim.ne j
  have side : ∀ j, j < (verts l).length → (segs l ws s).getD j d0 = sideS (atI (verts l) j) (atI (verts l) ((j : Int) + 1)) 0 s ∧ shS ((segs l ws s).getD j d0) = (0, 0) := fun j hj => by
    obtain ⟨i, hi, e⟩ := segs_side ho ws s hj
    rw [hw] at e
    have e2 : (segs l ws s).getD j d0 = sideS (atI (verts l) j) (atI (verts l) ((j : Int) + 1)) 0 s := by rw [List.getD_eq_getElem?_getD, e]; rfl
    exact ⟨e2, by rw [e2, shS_side, shift_zero (lenS_pos (I _) (I _) (ne j))]⟩
  have key : ∀ j, j ≤ (verts l).length → cornersTo (segs l ws s) j = (verts l).take j := by
    intro j
    induction j with
    | zero => intro _; simp [cornersTo]
    | succ j ih =>
      intro hj
      rw [cornersTo_succ, ih (by omega), take_succ' (verts l) j (by omega)]
      obtain ⟨sj, zj⟩ := side j (by omega)
      have hp : (j + (segs l ws s).length - 1) % (segs l ws s).length < (verts l).length := by rw [hN]; exact Nat.mod_lt _ (by omega)
      obtain ⟨sp, zp⟩ := side _ hp
      have hprev : prevI (segs l ws s) j = (segs l ws s).getD ((j + (segs l ws s).length - 1) % (segs l ws s).length) d0 := rfl
      have hto : toS (prevI (segs l ws s) j) = fromS ((segs l ws s).getD j d0) := by
        rw [hprev, sp, sj, to_side, from_side, hN]
        apply atI_congr
        rw [pred_mod (by omega)]
        by_cases c : j = 0
        · subst c
          rw [if_pos rfl, show (((verts l).length - 1 : Nat) : Int) + 1 = ((verts l).length : Int) by omega, Int.emod_self]
          simp
        · rw [if_neg c, show ((j - 1 : Nat) : Int) + 1 = (j : Int) by omega]
      have hfrom : fromS ((segs l ws s).getD j d0) = (verts l)[j] := by rw [sj, from_side, atI_nat (verts l) (by omega)]
      have hlast : ((verts l).take j).length = 0 ∨ lastS ((verts l).take j) ≠ (verts l)[j] := by
        by_cases c : j = 0
        · left; rw [c]; rfl
        · right
          have hl : ((verts l).take j).length = j := by rw [List.length_take]; omega
          have e : lastS ((verts l).take j) = atI (verts l) ((j - 1 : Nat) : Int) := by
            unfold lastS
            rw [hl, List.getD_eq_getElem?_getD, List.getElem?_take, if_pos (by omega), atI_nat (verts l) (by omega), List.getElem?_eq_getElem (by omega)]
            rfl
          rw [e]
          have := ne (j - 1)
          rw [show ((j - 1 : Nat) : Int) + 1 = (j : Int) by omega, atI_nat (verts l) (show j < _ by omega)] at this
          exact this
      obtain ⟨p1, p2⟩ := push_same _ _ hlast
      have hw0 : 0 ≤ widS (prevI (segs l ws s) j) := by rw [hprev, sp]; exact Int.le_refl _
      rcases corner_zero hto zp zj hw0 with h | h <;> rw [h, hfrom]
      · rw [List.foldl_cons, List.foldl_nil, p1]
      · rw [List.foldl_cons, List.foldl_cons, List.foldl_nil, p1, p2]
  unfold movedO trimE
  rw [hN, key _ (Nat.le_refl _), List.take_length]
  cases hn : (verts l).length with
  | zero => rfl
  | succ n =>
    unfold trimN
    rw [if_neg]
    rintro ⟨_, h⟩
    have := ne ((verts l).length - 1)
    rw [atI_nat (verts l) (by omega), show (((verts l).length - 1 : Nat) : Int) + 1 = (0 : Int) + ((verts l).length : Int) by omega, atI_add_len, show (0 : Int) = ((0 : Nat) : Int) from rfl, atI_nat (verts l) (by omega)] at this
    apply this
    unfold lastS at h
    rwa [getD_lt _ _ (by omega), getD_lt _ _ (by omega)] at h
theorem movedE_verts {l : List ED} (ho : Out l) : movedE (verts l) (signO l) = 0 := by
  obtain ⟨h40, h3, hin, hsim⟩ := checkP_ok.1 ho.poly
  unfold movedE
  rw [if_pos hin, if_pos ho.poly, if_neg]
  unfold signO
  split <;> omega
end Go.Gm
