/- Merged from small texts. -/
import Derived.Test.YtbaceloeihkmkaaGreatDoorMQ3
/- Allowances: sides and vertices; widths 0. -/
set_option linter.unusedVariables false
set_option linter.unusedSimpArgs false
namespace Go.Gm
open Go.Pi

theorem verts_pre (l : List ED) (i : Nat) : ∀ d, i + d ≤ l.length → ∃ r, verts (l.take (i + d)) = verts (l.take i) ++ r
  | 0, _ => ⟨[], by simp⟩
  | d + 1, h => by
    obtain ⟨r, hr⟩ := verts_pre l i d (by omega)
    exact ⟨r ++ _, by rw [← Nat.add_assoc, verts_take_succ l (i + d) (by omega), hr, List.append_assoc]⟩
/-- Where a vertex stands. -/
theorem verts_get (l : List ED) {i m : Nat} (hi : i < l.length) (hm : m < (l.getD i e0).2.length - 1) :
    (verts l)[(verts (l.take i)).length + m]? = some ((l.getD i e0).2.getD m (0, 0)) := by
  obtain ⟨r, h⟩ := verts_pre l (i + 1) (l.length - (i + 1)) (by omega)
  rw [show i + 1 + (l.length - (i + 1)) = l.length by omega, List.take_length] at h
  rw [h, verts_take_succ l i hi, List.append_assoc, List.getElem?_append_right (by omega), Nat.add_sub_cancel_left, List.getElem?_append_left (by rw [List.length_take]; omega), List.getElem?_take, if_pos hm, getD_lt ((0 : Int), (0 : Int)) (l.getD i e0).2 (show m < (l.getD i e0).2.length by omega), List.getElem?_eq_getElem (show m < (l.getD i e0).2.length by omega)]
theorem verts_locate (l : List ED) (h2 : ∀ i, i < l.length → 2 ≤ (l.getD i e0).2.length) : ∀ n, n ≤ l.length → ∀ j, j < (verts (l.take n)).length → ∃ i m, i < n ∧ m < (l.getD i e0).2.length - 1 ∧ j = (verts (l.take i)).length + m
  | 0, _, j, hj => by simp [verts] at hj
  | n + 1, hn, j, hj => by
    by_cases c : j < (verts (l.take n)).length
    · obtain ⟨i, m, a, b, d⟩ := verts_locate l h2 n (by omega) j c
      exact ⟨i, m, by omega, b, d⟩
    · rw [verts_take_succ l n (by omega), List.length_append, List.length_take] at hj
      exact ⟨n, j - (verts (l.take n)).length, by omega, by omega, by omega⟩
theorem atI_some {p : List Spot} {j : Nat} {x : Spot} (h : p[j]? = some x) : atI p (j : Int) = x := by
  obtain ⟨h1, h2⟩ := List.getElem?_eq_some_iff.1 h
  rw [atI_nat p h1]
  exact h2
/-- The sides of an outline lead from vertex to vertex. -/
theorem segs_side {l : List ED} (ho : Out l) (ws : List Int) (s : Int) {j : Nat} (hj : j < (verts l).length) :
    ∃ i, i < l.length ∧ (segs l ws s)[j]? = some (sideS (atI (verts l) j) (atI (verts l) ((j : Int) + 1)) (ws.getD i 0) s) := by
  have h2 : ∀ i, i < l.length → 2 ≤ (l.getD i e0).2.length := fun i hi => (lineE_ok.1 (ho.line i hi)).2.1
  obtain ⟨i, m, hi, hm, rfl⟩ := verts_locate l h2 l.length (Nat.le_refl _) j (by rw [List.take_length]; exact hj)
  have hs := segs_at l ws s hi hm
  rw [segs_verts l ws s i (by omega)] at hs
  refine ⟨i, hi, ?_⟩
  rw [hs]
  have e1 := atI_some (verts_get l hi hm)
  rw [e1]
  have e2 : atI (verts l) ((((verts (l.take i)).length + m : Nat) : Int) + 1) = (l.getD i e0).2.getD (m + 1) (0, 0) := by
    by_cases c : m + 1 < (l.getD i e0).2.length - 1
    · have := atI_some (verts_get l hi c)
      rw [← this]
      congr 1
    · -- the edge's last point is the next one's first
      have hlast : (l.getD i e0).2.getD (m + 1) (0, 0) = lastS (l.getD i e0).2 := by
        unfold lastS
        rw [show m + 1 = (l.getD i e0).2.length - 1 by omega]
      rw [hlast, (joint_all l).1 ho.joint i hi]
      have hk : (verts (l.take (i + 1))).length = (verts (l.take i)).length + m + 1 := by
        rw [verts_take_succ l i hi, List.length_append, List.length_take]
        omega
      by_cases e : i + 1 = l.length
      · rw [e, Nat.mod_self]
        have h0 := atI_some (verts_get l (i := 0) (m := 0) (by omega) (by have := h2 0 (by omega); omega))
        rw [← h0]
        have hz : (verts (l.take 0)).length = 0 := by simp [verts]
        rw [hz]
        rw [e, List.take_length] at hk
        have : ((((verts (l.take i)).length + m : Nat) : Int) + 1) = ((0 + 0 : Nat) : Int) + ((verts l).length : Int) := by omega
        rw [this, atI_add_len]
      · rw [Nat.mod_eq_of_lt (by omega)]
        have h0 := atI_some (verts_get l (i := i + 1) (m := 0) (by omega) (by have := h2 (i + 1) (by omega); omega))
        rw [← h0]
        congr 1
        omega
  rw [e2]
theorem rnd_int0 : rnd (0 : Rat) = 0 := by decide +kernel
theorem grid0 : gridD 0 0 = ((0, 0), 0) := by
  unfold gridD
  rw [rnd_int0, if_pos (by unfold inG; decide)]
theorem shS_side (a b : Spot) (w s : Int) : shS (sideS a b w s) = shiftS a b w s := rfl
theorem from_side (a b : Spot) (w s : Int) : fromS (sideS a b w s) = a := rfl
theorem to_side (a b : Spot) (w s : Int) : toS (sideS a b w s) = b := rfl
theorem add_z (a : Spot) : addS a (0, 0) = a := by unfold addS; simp
theorem lenS_pos {a b : Spot} (ha : Ins a) (hb : Ins b) (hab : a ≠ b) : 0 < lenS a b := (side_nums ha hb hab (w := 0) (s := 1) (by decide) (.inl rfl)).2.2.2.1
theorem meet_at {P Q S : Spot} (h : meetDI P Q Q S ≠ 0) : meetI P Q Q S = ((Q.1 : Rat), (Q.2 : Rat)) := by
  unfold meetI meetP ptI
  simp only [px_nf, py_nf]
  have hN : meetN (P.1 : Rat) P.2 Q.1 Q.2 S.1 S.2 = meetD P.1 P.2 Q.1 Q.2 Q.1 Q.2 S.1 S.2 := rfl
  rw [hN]
  have hD : meetD (P.1 : Rat) P.2 Q.1 Q.2 Q.1 Q.2 S.1 S.2 ≠ 0 := h
  rw [Rat.div_def, Rat.mul_inv_cancel _ hD, onQ_eq]
  refine Prod.ext ?_ ?_
  · show (P.1 : Rat) + ((Q.1 : Rat) - P.1) * 1 = Q.1
    grind
  · show (P.2 : Rat) + ((Q.2 : Rat) - P.2) * 1 = Q.2
    grind
theorem corner_zero {a b : SideT} (h1 : toS a = fromS b) (h2 : shS a = (0, 0)) (h3 : shS b = (0, 0)) (h4 : 0 ≤ widS a) : cornerS a b = [fromS b] ∨ cornerS a b = [fromS b, fromS b] := by
  have e1 : mFrom a = fromS a := by unfold mFrom; rw [h2, add_z]
  have e2 : mTo a = fromS b := by unfold mTo; rw [h2, add_z, h1]
  have e3 : mFrom b = fromS b := by unfold mFrom; rw [h3, add_z]
  have e4 : mTo b = toS b := by unfold mTo; rw [h3, add_z]
  unfold cornerS
  by_cases c : meetDI (mFrom a) (mTo a) (mFrom b) (mTo b) = 0
  · rw [if_neg (fun h => h.1 c), e2, e3]
    exact .inr rfl
  · have hc : cornD a b = ((0, 0), 0) := by
      unfold cornD
      rw [e1, e2, e3, e4] at c ⊢
      rw [meet_at c]
      show gridD ((fromS b).1 - (fromS b).1) ((fromS b).2 - (fromS b).2) = _
      rw [Rat.sub_self, Rat.sub_self, grid0]
    rw [hc, if_pos ⟨c, rfl, by unfold absI mostS; show max (0 : Int) (-0) ≤ _; omega, by unfold absI mostS; show max (0 : Int) (-0) ≤ _; omega⟩, add_z]
    exact .inl rfl
theorem push_same (l : List Spot) (p : Spot) (h : l.length = 0 ∨ lastS l ≠ p) : push l p = l ++ [p] ∧ push (l ++ [p]) p = l ++ [p] := by
  refine ⟨if_pos h, if_neg ?_⟩
  rintro (h1 | h1)
  · simp at h1
  · apply h1
    unfold lastS
    simp
theorem moved_zero {l : List ED} (ho : Out l) {s : Int} {ws : List Int} (hs : s = 1 ∨ s = -1) (hw : ∀ i, ws.getD i 0 = 0) : movedO (segs l ws s) = verts l := by
  obtain ⟨h40, h3, hin, hsim⟩ := checkP_ok.1 ho.poly
  have hN : (segs l ws s).length = (verts l).length := segs_vlen l ws s
  have I := insI (by omega) hin
  have ne : ∀ j : Nat, atI (verts l) j ≠ atI (verts l) ((j : Int) + 1) := fun j => hsim.ne j
  have side : ∀ j, j < (verts l).length → (segs l ws s).getD j d0 = sideS (atI (verts l) j) (atI (verts l) ((j : Int) + 1)) 0 s ∧ shS ((segs l ws s).getD j d0) = (0, 0) := fun j hj => by
    obtain ⟨i, hi, e⟩ := segs_side ho ws s hj
    rw [hw] at e
    have e2 : (segs l ws s).getD j d0 = sideS (atI (verts l) j) (atI (verts l) ((j : Int) + 1)) 0 s := by rw [List.getD_eq_getElem?_getD, e]; rfl
    exact ⟨e2, by rw [e2, shS_side, shift_zero (lenS_pos (I _) (I _) (ne j))]⟩
  have key : ∀ j, j ≤ (verts l).length → cornersTo (segs l ws s) j = (verts l).take j := by
    intro j
    induction j with
    | zero => intro _; simp [cornersTo]
    | succ j ih =>
      intro hj
      rw [cornersTo_succ, ih (by omega), take_succ' (verts l) j (by omega)]
      obtain ⟨sj, zj⟩ := side j (by omega)
      have hp : (j + (segs l ws s).length - 1) % (segs l ws s).length < (verts l).length := by rw [hN]; exact Nat.mod_lt _ (by omega)
      obtain ⟨sp, zp⟩ := side _ hp
      have hprev : prevI (segs l ws s) j = (segs l ws s).getD ((j + (segs l ws s).length - 1) % (segs l ws s).length) d0 := rfl
      have hto : toS (prevI (segs l ws s) j) = fromS ((segs l ws s).getD j d0) := by
        rw [hprev, sp, sj, to_side, from_side, hN]
        apply atI_congr
        rw [pred_mod (by omega)]
        by_cases c : j = 0
        · subst c
          rw [if_pos rfl, show (((verts l).length - 1 : Nat) : Int) + 1 = ((verts l).length : Int) by omega, Int.emod_self]
          simp
        · rw [if_neg c, show ((j - 1 : Nat) : Int) + 1 = (j : Int) by omega]
      have hfrom : fromS ((segs l ws s).getD j d0) = (verts l)[j] := by rw [sj, from_side, atI_nat (verts l) (by omega)]
      have hlast : ((verts l).take j).length = 0 ∨ lastS ((verts l).take j) ≠ (verts l)[j] := by
        by_cases c : j = 0
        · left; rw [c]; rfl
        · right
          have hl : ((verts l).take j).length = j := by rw [List.length_take]; omega
          have e : lastS ((verts l).take j) = atI (verts l) ((j - 1 : Nat) : Int) := by
            unfold lastS
            rw [hl, List.getD_eq_getElem?_getD, List.getElem?_take, if_pos (by omega), atI_nat (verts l) (by omega), List.getElem?_eq_getElem (by omega)]
            rfl
          rw [e]
          have := ne (j - 1)
          rw [show ((j - 1 : Nat) : Int) + 1 = (j : Int) by omega, atI_nat (verts l) (show j < _ by omega)] at this
          exact this
      obtain ⟨p1, p2⟩ := push_same _ _ hlast
      have hw0 : 0 ≤ widS (prevI (segs l ws s) j) := by rw [hprev, sp]; exact Int.le_refl _
      rcases corner_zero hto zp zj hw0 with h | h <;> rw [h, hfrom]
      · rw [List.foldl_cons, List.foldl_nil, p1]
      · rw [List.foldl_cons, List.foldl_cons, List.foldl_nil, p1, p2]
  unfold movedO trimE
  rw [hN, key _ (Nat.le_refl _), List.take_length]
  cases hn : (verts l).length with
  | zero => rfl
  | succ n =>
    unfold trimN
    rw [if_neg]
    rintro ⟨_, h⟩
    have := ne ((verts l).length - 1)
    rw [atI_nat (verts l) (by omega), show (((verts l).length - 1 : Nat) : Int) + 1 = (0 : Int) + ((verts l).length : Int) by omega, atI_add_len, show (0 : Int) = ((0 : Nat) : Int) from rfl, atI_nat (verts l) (by omega)] at this
    apply this
    unfold lastS at h
    rwa [getD_lt _ _ (by omega), getD_lt _ _ (by omega)] at h
theorem movedE_verts {l : List ED} (ho : Out l) : movedE (verts l) (signO l) = 0 := by
  obtain ⟨h40, h3, hin, hsim⟩ := checkP_ok.1 ho.poly
  unfold movedE
  rw [if_pos hin, if_pos ho.poly, if_neg]
  unfold signO
  split <;> omega
end Go.Gm

/- Allowances: what is moved. -/
set_option linter.unusedVariables false
set_option linter.unusedSimpArgs false
namespace Go.Gm
open Go.Pi

theorem addS_inj {a b d : Spot} (h : addS a d = addS b d) : a = b := by
  unfold addS at h
  have h1 := congrArg Prod.fst h
  have h2 := congrArg Prod.snd h
  simp only at h1 h2
  exact Prod.ext (by omega) (by omega)
def mvE (d : Spot) (x : ED) : ED := (x.1, x.2.map fun s => addS s d)
def mvS (d : Spot) (x : SideT) : SideT := (x.1 + d.1, x.2.1 + d.2, x.2.2.1 + d.1, x.2.2.2.1 + d.2, x.2.2.2.2)
theorem getD_map' {α β : Type} (f : α → β) (d : α) (d' : β) (l : List α) {i : Nat} (h : i < l.length) : (l.map f).getD i d' = f (l.getD i d) := by
  rw [getD_lt d' (l.map f) (by rw [List.length_map]; exact h), getD_lt d l h, List.getElem_map]
theorem verts_map (d : Spot) (l : List ED) : verts (l.map (mvE d)) = (verts l).map fun s => addS s d := by
  unfold verts
  rw [List.flatMap_map, List.map_flatMap]
  congr 1
  funext x
  show (x.2.map _).take ((x.2.map _).length - 1) = _
  rw [List.length_map, List.map_take]
theorem side_map (a b d : Spot) (w s : Int) : sideS (addS a d) (addS b d) w s = mvS d (sideS a b w s) := by
  unfold sideS mvS shiftS lenS addS
  simp only
  rw [show b.1 + d.1 - (a.1 + d.1) = b.1 - a.1 by omega, show b.2 + d.2 - (a.2 + d.2) = b.2 - a.2 by omega]
theorem segsN_map (d : Spot) (p : List Spot) (w s : Int) : ∀ m, m + 1 ≤ p.length ∨ m = 0 → segsN (p.map fun q => addS q d) w s m = (segsN p w s m).map (mvS d)
  | 0, _ => rfl
  | m + 1, h => by
    rw [segsN_succ, segsN_succ, List.map_append, segsN_map d p w s m (by omega)]
    congr 1
    rw [getD_map' (fun q => addS q d) (0, 0) (0, 0) p (by omega), getD_map' (fun q => addS q d) (0, 0) (0, 0) p (by omega), side_map]
    rfl
theorem segsTo_map (d : Spot) (l : List ED) (ws : List Int) (s : Int) : ∀ i, i ≤ l.length → segsTo (l.map (mvE d)) ws s i = (segsTo l ws s i).map (mvS d)
  | 0, _ => rfl
  | i + 1, hi => by
    rw [segsTo_succ, segsTo_succ, List.map_append, segsTo_map d l ws s i (by omega)]
    congr 1
    rw [getD_map' (mvE d) e0 e0 l (by omega)]
    show segsN ((l.getD i e0).2.map _) _ s (((l.getD i e0).2.map _).length - 1) = _
    rw [List.length_map, segsN_map d _ _ s _ (by omega)]
theorem segs_map (d : Spot) (l : List ED) (ws : List Int) (s : Int) : segs (l.map (mvE d)) ws s = (segs l ws s).map (mvS d) := by
  unfold segs
  rw [List.length_map, segsTo_map d l ws s _ (Nat.le_refl _)]
theorem mFrom_map (d : Spot) (x : SideT) : mFrom (mvS d x) = addS (mFrom x) d := by
  unfold mFrom fromS shS mvS addS
  simp only
  exact Prod.ext (by simp only; omega) (by simp only; omega)
theorem mTo_map (d : Spot) (x : SideT) : mTo (mvS d x) = addS (mTo x) d := by
  unfold mTo toS shS mvS addS
  simp only
  exact Prod.ext (by simp only; omega) (by simp only; omega)
theorem from_map (d : Spot) (x : SideT) : fromS (mvS d x) = addS (fromS x) d := rfl
theorem meetD_map (a b c e d : Spot) : meetDI (addS a d) (addS b d) (addS c d) (addS e d) = meetDI a b c e := by
  unfold meetDI meetD addS
  simp only [Rat.intCast_add]
  grind
theorem meet_map (a b c e d : Spot) : meetI (addS a d) (addS b d) (addS c d) (addS e d) = ((meetI a b c e).1 + d.1, (meetI a b c e).2 + d.2) := by
  have hD := meetD_map a b c e d
  unfold meetDI at hD
  unfold meetI meetP ptI
  simp only [px_nf, py_nf]
  rw [hD]
  have hN : meetN ((addS a d).1 : Rat) (addS a d).2 (addS c d).1 (addS c d).2 (addS e d).1 (addS e d).2 = meetN a.1 a.2 c.1 c.2 e.1 e.2 := by
    unfold meetN addS
    simp only [Rat.intCast_add]
    grind
  rw [hN]
  generalize meetN (a.1 : Rat) a.2 c.1 c.2 e.1 e.2 / meetD (a.1 : Rat) a.2 b.1 b.2 c.1 c.2 e.1 e.2 = t
  rw [onQ_eq, onQ_eq]
  unfold addS
  simp only [Rat.intCast_add]
  exact Prod.ext (by simp only; grind) (by simp only; grind)
theorem cornD_map (d : Spot) (a b : SideT) : cornD (mvS d a) (mvS d b) = cornD a b := by
  unfold cornD
  rw [mFrom_map, mTo_map, mFrom_map, mTo_map, meet_map, from_map]
  have e1 : ∀ x y z : Rat, x + z - (y + z) = x - y := fun x y z => by grind
  unfold addS
  simp only [Rat.intCast_add, e1]
theorem corner_map (d : Spot) (a b : SideT) : cornerS (mvS d a) (mvS d b) = (cornerS a b).map fun s => addS s d := by
  unfold cornerS
  rw [cornD_map, mFrom_map, mTo_map, mFrom_map, mTo_map, meetD_map, from_map]
  have hm : mostS (mvS d a) (mvS d b) = mostS a b := rfl
  rw [hm]
  by_cases c : meetDI (mFrom a) (mTo a) (mFrom b) (mTo b) ≠ 0 ∧ (cornD a b).2 = 0 ∧ absI (cornD a b).1.1 ≤ mostS a b ∧ absI (cornD a b).1.2 ≤ mostS a b
  · rw [if_pos c, if_pos c]
    show [_] = [_]
    congr 1
    unfold addS
    exact Prod.ext (by simp only; omega) (by simp only; omega)
  · rw [if_neg c, if_neg c]
    rfl
theorem lastS_map (d : Spot) (l : List Spot) (h : 0 < l.length) : lastS (l.map fun s => addS s d) = addS (lastS l) d := by
  unfold lastS
  rw [List.length_map, getD_map' (fun s => addS s d) (0, 0) (0, 0) l (by omega)]
theorem push_map (d : Spot) (l : List Spot) (p : Spot) : push (l.map fun s => addS s d) (addS p d) = (push l p).map fun s => addS s d := by
  unfold push
  rw [List.length_map]
  by_cases c : l.length = 0 ∨ lastS l ≠ p
  · rw [if_pos c, if_pos ?_, List.map_append]
    · rfl
    rcases c with c | c
    · exact .inl c
    · by_cases h0 : l.length = 0
      · exact .inl h0
      · rw [lastS_map d l (by omega)]
        exact .inr fun e => c (addS_inj e)
  · rw [if_neg c, if_neg ?_]
    have c1 : ¬ l.length = 0 := fun h => c (.inl h)
    have c2 : lastS l = p := Classical.not_not.1 fun h => c (.inr h)
    rw [lastS_map d l (by omega), c2]
    rintro (h | h)
    · exact c1 h
    · exact h rfl
theorem foldl_push_map (d : Spot) : ∀ (ps l : List Spot), (ps.map fun s => addS s d).foldl push (l.map fun s => addS s d) = (ps.foldl push l).map fun s => addS s d
  | [], l => rfl
  | p :: ps, l => by
    rw [List.map_cons, List.foldl_cons, List.foldl_cons, push_map, foldl_push_map d ps]
theorem cornersTo_map (d : Spot) (S : List SideT) : ∀ i, i ≤ S.length → cornersTo (S.map (mvS d)) i = (cornersTo S i).map fun s => addS s d
  | 0, _ => rfl
  | i + 1, hi => by
    rw [cornersTo_succ, cornersTo_succ, cornersTo_map d S i (by omega)]
    have h1 : prevI (S.map (mvS d)) i = mvS d (prevI S i) := by
      unfold prevI
      rw [List.length_map, getD_map' (mvS d) d0 d0 S (Nat.mod_lt _ (by omega))]
    rw [h1, getD_map' (mvS d) d0 d0 S (by omega), corner_map, foldl_push_map]
theorem trimN_map (d : Spot) : ∀ (n : Nat) (l : List Spot), trimN n (l.map fun s => addS s d) = (trimN n l).map fun s => addS s d
  | 0, l => rfl
  | n + 1, l => by
    unfold trimN
    rw [List.length_map]
    by_cases c : 2 ≤ l.length
    · rw [lastS_map d l (by omega), getD_map' (fun s => addS s d) (0, 0) (0, 0) l (by omega)]
      by_cases c2 : lastS l = l.getD 0 (0, 0)
      · rw [if_pos ⟨c, by rw [c2]⟩, if_pos ⟨c, c2⟩, ← List.map_take, trimN_map d n]
      · rw [if_neg (fun h => c2 (addS_inj h.2)), if_neg (fun h => c2 h.2)]
    · rw [if_neg (fun h => c h.1), if_neg (fun h => c h.1)]
theorem movedO_map (d : Spot) (S : List SideT) : movedO (S.map (mvS d)) = (movedO S).map fun s => addS s d := by
  unfold movedO trimE
  rw [List.length_map, cornersTo_map d S _ (Nat.le_refl _), List.length_map, trimN_map]
theorem area2_move (d : Spot) (p : List Spot) (h : 0 < p.length) : area2 (p.map fun s => addS s d) = area2 p := by
  unfold area2
  rw [List.length_map]
  have e : sumN p.length (fun i => (atI (p.map fun s => addS s d) i).1 * (atI (p.map fun s => addS s d) (i + 1)).2 - (atI (p.map fun s => addS s d) i).2 * (atI (p.map fun s => addS s d) (i + 1)).1) =
      sumN p.length (fun i => ((atI p i).1 * (atI p (i + 1)).2 - (atI p i).2 * (atI p (i + 1)).1) + ((d.1 * (atI p (i + 1)).2 - d.2 * (atI p (i + 1)).1) + -(d.1 * (atI p i).2 - d.2 * (atI p i).1))) := by
    refine sumN_congr fun i hi => ?_
    rw [atI_map _ p h, atI_map _ p h]
    unfold addS
    simp only
    grind
  rw [e, sumN_add, sumN_add, sumN_neg]
  have hr := sumN_rot1 (n := p.length) (f := fun i => d.1 * (atI p i).2 - d.2 * (atI p i).1) (fun i => by simp only [atI_add_len])
  rw [hr]
  omega
theorem sign_move (d : Spot) (l : List ED) (h : 0 < (verts l).length) : signO (l.map (mvE d)) = signO l := by
  unfold signO
  rw [verts_map, area2_move d _ h]
theorem Few_map (d : Spot) {l : List ED} (hf : Few l) : Few (l.map (mvE d)) := by
  refine ⟨by rw [List.length_map]; exact hf.1, fun i hi => ?_⟩
  rw [List.length_map] at hi
  rw [getD_map' (mvE d) e0 e0 l hi]
  show ((l.getD i e0).2.map _).length ≤ _ ∧ _
  rw [List.length_map]
  exact hf.2 i hi
/-- A list that is moved. -/
theorem Move_ev (p : List Spot) (d : Spot) (hp : p.length ≤ 1000000) (hin : ∀ s ∈ p, Ins s) (hd : Ins d) : Ev (fun k => polygon_Move.f k p d) (p.map fun s => addS s d) := by
  unfold polygon_Move.f
  refine Ev.ct (by rw [decide_eq_true (by omega), decide_eq_true (by omega)]; rfl) ?_
  refine down (Q := fun i => Ev (fun k => polygon_Move.l0 k p (p.length : Int) (i : Int) d.1 d.2 ((p.take i).map fun s => addS s d)) _) (n := p.length) ?_ ?_
  · refine Ev.step ?_
    simp only [polygon_Move.l0]
    rw [List.take_length]
    exact Ev.cf dge (Ev.pure _)
  · intro i hi q
    refine Ev.step ?_
    simp only [polygon_Move.l0]
    rw [take_succ' p i hi, List.map_append] at q
    rw [wadd1 (by omega), gd_get' _ p i hi]
    obtain ⟨⟨a1, a2⟩, a3, a4⟩ := hin _ (List.getElem_mem hi)
    obtain ⟨⟨b1, b2⟩, b3, b4⟩ := hd
    rw [i64_in (x := p[i].1 + d.1) (by omega) (by omega), i64_in (x := p[i].2 + d.2) (by omega) (by omega)]
    refine Ev.ct (dlt hi) (Ev.ct (inbN hi) (Ev.ct (fits_ok ?_) q))
    rw [List.length_map, List.length_take]
    show (_ + 1) * 16 ≤ _
    omega
end Go.Gm
