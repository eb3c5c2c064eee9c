/- Appends, copies. -/
import Derived.Test.YtgofapkelhccgaaPi15
import Derived.Maps.AppendAt
set_option linter.unusedVariables false
set_option linter.unusedSimpArgs false
namespace Go.Pi
open Go.RowKit

section
variable {P : Program} {W0 : World} {A Gv : Nat → Prop} {N : Nat} {U : Nat → Prop} {g : Nat → TV} {B : Nat → Option Blk} {ν : Nat → Value} {a : Act} {w : World} {o : Oper}

theorem append_none (t ty e : TypeId) (i : TypeInfo) (ht : P.underlying t = some (.slice e)) (hi : P.info? e = some i)
    (v : Value) (n size : Nat) (xs : List Value) (hown : w.ownsRow 0 e size v n xs) (c : Nat) : (Builtin.append_ #[t, t] ty #[v, .slice none 0 c]).run P w = .ok v w := by
  rcases hown.2 with ⟨rfl, rfl⟩ | ⟨g, cap, cur, rfl, _, _, hnc, _⟩
  · simp [Builtin.append_, run_underlying ht, sizeOf, typeInfo, hi, Builtin.lenOf, Builtin.firstCells]
  · simp [Builtin.append_, run_underlying ht, sizeOf, typeInfo, hi, Builtin.lenOf, Builtin.firstCells, hnc, storeCells]

/-- Whatever is appended. -/
theorem run_append (t ty e : TypeId) (i : TypeInfo) (z : Value) (size : Nat) (ht : P.underlying t = some (.slice e)) (hi : P.info? e = some i) (hz : i.zero = some z) (hsize : i.size = size) (hzs : z.cells.size = size) (hsz : 0 < size) (hby : 0 < i.bytes)
    (v : Value) (n : Nat) (xs : List Value) (hown : w.ownsRow 0 e size v n xs) (Ad : Option Addr) (m c : Nat) (news : List Value) (hl : news.length = m * size)
    (hc : 0 < m → ∃ ad, Ad = some ad ∧ ∀ j u, news[j]? = some u → w.cell? (ad.add j) = some u) (h1 : ∀ u ∈ news, u.oneCell' = true) (hf : fits i.bytes n m = true) :
    ∃ v' w', (Builtin.append_ #[t, t] ty #[v, .slice Ad m c]).run P w = .ok v' w' ∧ w'.ownsRow 0 e size v' (n + m) (xs ++ news) ∧ w.grownBy w' v.ownBlock ∧ (v'.ownBlock = v.ownBlock ∨ v'.ownBlock = some w.heap.size) := by
  have hb : (n + m) * i.bytes ≤ 140737488355328 := of_decide_eq_true hf
  have h63 : n + m ≤ maxLen := by
    have := Nat.le_mul_of_pos_right (n + m) hby
    simp only [maxLen]
    omega
  cases Ad with
  | none =>
    have hm : m = 0 := by
      rcases Nat.eq_zero_or_pos m with h0 | h0
      · exact h0
      · obtain ⟨ad, h, _⟩ := hc h0
        cases h
    subst hm
    have hn : news = [] := List.eq_nil_of_length_eq_zero (by simpa using hl)
    subst hn
    exact ⟨v, w, append_none t ty e i ht hi v n size xs hown c, by simpa using hown, ⟨rfl, rfl, rfl, Nat.le_refl _, fun _ _ _ => rfl⟩, .inl rfl⟩
  | some ad =>
    have hcells : ∀ j u, news[j]? = some u → w.cell? (ad.add j) = some u := by
      intro j u hu
      rcases Nat.eq_zero_or_pos m with h0 | h0
      · subst h0
        have hn : news = [] := List.eq_nil_of_length_eq_zero (by simpa using hl)
        subst hn
        simp at hu
      · obtain ⟨ad', h, hc'⟩ := hc h0
        cases h
        exact hc' j u hu
    obtain ⟨v', w', hrun, h2, h3, _, h5⟩ := run_append_own_at (P := P) w 0 t ty e i z size i.bytes ht hi hz hsize rfl hzs hsz v n xs hown ad m c news hl hcells h1 h63 hb (Nat.zero_le _)
    exact ⟨v', w', hrun, h2, h3, h5⟩

theorem ownB_slice {Ad : Option Addr} {n c : Nat} : ownB (.slice Ad n c) = (Value.slice Ad n c).ownBlock := by cases Ad <;> rfl
theorem own_isSlice {base n size : Nat} {e : TypeId} {v : Value} {xs : List Value} (h : w.ownsRow base e size v n xs) : ∃ Ad c, v = .slice Ad n c ∧ n ≤ c ∧ c ≤ maxLen := by
  rcases h.2 with ⟨rfl, rfl⟩ | ⟨q, cap, cur, rfl, _, _, h1, h2, _⟩
  · exact ⟨none, 0, rfl, Nat.le_refl _, Nat.zero_le _⟩
  · exact ⟨_, cap, rfl, h1, h2⟩
theorem ownB_own {base n size : Nat} {e : TypeId} {v : Value} {xs : List Value} (h : w.ownsRow base e size v n xs) : ownB v = v.ownBlock := by
  obtain ⟨Ad, c, rfl, _⟩ := own_isSlice h
  exact ownB_slice

theorem op_append_nil (h : Sim W0 A Gv N U g B ν a w) (d x : Operand) (t : TypeId) (ho : o.op = .call { callee := .builtin .append, args := #[d, x], argTypes := #[t, t] }) {e : TypeId} (ht : elemT P t = some e) {i : TypeInfo} (hi : P.info? e = some i)
    (hd : opnd g d = .e (.one (.val (.slice none 0 0)))) {v : CV} (hx : opnd g x = .e (.one v)) {r : Shs} {ys : List (RowD r)} (hdat : dataOf B v = some ⟨r, ys⟩) (hsz : i.size = r.size) (hby : 0 < i.bytes) (hz : i.zero.map (·.cells.size) = some i.size)
    (hf : fits i.bytes 0 ys.length = true) {s : Nat} (hs : ¬ U s) :
    Res P W0 A Gv N (fun i => U i ∨ i = s) g (setB B s (some (.row e r ys false))) (one (.own s)) o a w := by
  have hdv := (hd ▸ h.opnd d : RepTV w (okS W0 A Gv ν B w) ν B (.e (.one (.val (.slice none 0 0)))) (a.eval d))
  have hdv : a.eval d = .slice none 0 0 := hdv.1
  have hv : RepCV w (okS W0 A Gv ν B w) ν B v (a.eval x) := (hx ▸ h.opnd x : RepTV w (okS W0 A Gv ν B w) ν B (.e (.one v)) (a.eval x))
  obtain ⟨Ad, c, css, h1, h2, h3, h4, h5⟩ := dataOf_rep h hv hdat
  obtain ⟨z, hz1, hz2⟩ := Option.map_eq_some_iff.1 hz
  obtain ⟨v', w', hrun, h6, h7, h8⟩ := run_append (P := P) (w := w) t o.type e i z r.size (elemT_eq ht) hi hz1 hsz (by rw [hz2, hsz]) r.size_pos hby (.slice none 0 0) 0 [] (World.ownsRow_nil w 0 e r.size) Ad ys.length c css.flatten (flat_len h4)
    (fun hp => by obtain ⟨ad, e1, _, _, hc⟩ := h5 hp; exact ⟨ad, e1, hc⟩) (flat_ones h4) hf
  simp only [Nat.zero_add, List.nil_append] at h6
  have hfr : ∀ y, ownB v' = some y → w.heap.size ≤ y := by
    intro y hy
    rw [ownB_own h6] at hy
    rcases h8 with h8 | h8
    · rw [h8] at hy; cases hy
    · rw [h8] at hy; cases hy; exact Nat.le_refl _
  obtain ⟨ν1, h9, h10⟩ := new_row h hs e h7 h4 h6 hfr
  refine ⟨_, _, _, ν1, ?_, .inl rfl, h9, h10, fun s' hs' => ?_⟩
  · simp [execOp, ho, resolve, invoke, builtin, hdv, h1, hrun]
  · rw [one_sites] at hs'
    simp only [CV.sites, List.mem_singleton] at hs'
    exact .inr hs'

/-- What is appended to, in memory. -/
theorem baseOf_rep (h : Sim W0 A Gv N U g B ν a w) {d : CV} {u : Value} (hd : RepCV w (okS W0 A Gv ν B w) ν B d u) {s : Nat} {r : Shs} {xs : List (RowD r)} (hb : baseOfApp B d = some (s, ⟨r, xs⟩)) :
    ∃ e ys css, B s = some (.row e r ys false) ∧ All2 (fun x cs => RepR w (okS W0 A Gv ν B w) r x cs) xs css ∧ w.ownsRow 0 e r.size u xs.length css.flatten ∧ (ownB u = none ∨ ownB u = ownB (ν s)) := by
  unfold baseOfApp at hb
  split at hb
  · rename_i s'
    split at hb
    · rename_i e r' ys hB
      simp only [Option.some.injEq, Prod.mk.injEq] at hb
      obtain ⟨rfl, hb⟩ := hb
      cases hb
      obtain ⟨_, hd⟩ := hd
      obtain ⟨_, rfl⟩ := hd _ hB
      obtain ⟨css, h2, h3, h4⟩ := h.bl _ _ hB
      exact ⟨e, _, css, hB, h2, h3, .inr rfl⟩
    · cases hb
  · rename_i s' n
    split at hb
    · rename_i e r' ys hB
      simp only [Option.some.injEq, Prod.mk.injEq] at hb
      obtain ⟨rfl, hb⟩ := hb
      cases hb
      obtain ⟨_, hd⟩ := hd
      obtain ⟨_, r1, m, Ad, c', he, hn0, hnm, hν, rfl⟩ := hd _ hB
      simp only [Blk.elems, Option.some.injEq, Prod.mk.injEq] at he
      obtain ⟨rfl, rfl⟩ := he
      obtain ⟨css, h2, h3, h4⟩ := h.bl _ _ hB
      have hlen : (ys.take n.toNat).length = n.toNat := by rw [List.length_take]; omega
      have htk := h2.take n.toNat
      refine ⟨e, _, css.take n.toNat, hB, htk, ?_, ?_⟩
      · refine ⟨flat_len htk, ?_⟩
        rw [hlen]
        rcases h3.2 with ⟨h5, h6⟩ | ⟨q, cap, cur, h5, h6, h7, h8, h9, h10, h11⟩
        · rw [h5] at hν
          simp only [Value.slice.injEq] at hν
          obtain ⟨rfl, _, rfl⟩ := hν
          have : n.toNat = 0 := by omega
          exact .inl ⟨by rw [this], this⟩
        · rw [h5] at hν
          simp only [Value.slice.injEq, true_and] at hν
          obtain ⟨rfl, rfl⟩ := hν
          refine .inr ⟨q, cap, cur, rfl, h6, h7, by omega, h9, h10, ?_⟩
          have e1 : css.flatten = (css.take n.toNat).flatten ++ (css.drop n.toNat).flatten := by rw [← List.flatten_append, List.take_append_drop]
          have e2 := flat_len htk
          rw [hlen] at e2
          have e3 : cur.toList.take (n.toNat * r.size) = (cur.toList.take (ys.length * r.size)).take (n.toNat * r.size) := by
            rw [List.take_take, Nat.min_eq_left (Nat.mul_le_mul_right _ (by omega))]
          rw [e3, h11, e1, ← e2]
          exact List.take_left
      · rw [hν]
        cases Ad with
        | none => exact .inl rfl
        | some ad => exact .inr rfl
    · cases hb
  · cases hb

theorem op_append_own (h : Sim W0 A Gv N U g B ν a w) (d x : Operand) (t : TypeId) (ho : o.op = .call { callee := .builtin .append, args := #[d, x], argTypes := #[t, t] }) {e : TypeId} (ht : elemT P t = some e) {i : TypeInfo} (hi : P.info? e = some i)
    {dv : CV} (hd : opnd g d = .e (.one dv)) {s0 : Nat} {r : Shs} {xs : List (RowD r)} (hb : baseOfApp B dv = some (s0, ⟨r, xs⟩)) (hrt : rowType B s0 = some e)
    {v : CV} (hx : opnd g x = .e (.one v)) {ys : List (RowD r)} (hdat : dataOf B v = some ⟨r, ys⟩) (hsz : i.size = r.size) (hby : 0 < i.bytes) (hz : i.zero.map (·.cells.size) = some i.size)
    (hf : fits i.bytes xs.length ys.length = true) {s : Nat} (hs : ¬ U s) :
    Res P W0 A Gv N (fun i => U i ∨ i = s) g (setB (setB B s (some (.row e r (xs ++ ys) false))) s0 none) (one (.own s)) o a w := by
  have hdv : RepCV w (okS W0 A Gv ν B w) ν B dv (a.eval d) := (hd ▸ h.opnd d : RepTV w (okS W0 A Gv ν B w) ν B (.e (.one dv)) (a.eval d))
  have hv : RepCV w (okS W0 A Gv ν B w) ν B v (a.eval x) := (hx ▸ h.opnd x : RepTV w (okS W0 A Gv ν B w) ν B (.e (.one v)) (a.eval x))
  obtain ⟨e', zs, css0, hB, hx0, hown0, hblk⟩ := baseOf_rep h hdv hb
  have he : e' = e := by
    unfold rowType at hrt
    rw [hB] at hrt
    exact Option.some.inj hrt
  subst he
  obtain ⟨Ad, c, css, h1, h2, h3, h4, h5⟩ := dataOf_rep h hv hdat
  obtain ⟨z, hz1, hz2⟩ := Option.map_eq_some_iff.1 hz
  obtain ⟨v', w', hrun, h6, h7, h8⟩ := run_append (P := P) (w := w) t o.type e' i z r.size (elemT_eq ht) hi hz1 hsz (by rw [hz2, hsz]) r.size_pos hby (a.eval d) xs.length css0.flatten hown0 Ad ys.length c css.flatten (flat_len h4)
    (fun hp => by obtain ⟨ad, e1, _, _, hc⟩ := h5 hp; exact ⟨ad, e1, hc⟩) (flat_ones h4) hf
  have hU0 : U s0 := (h.ub s0 _ hB).1
  have hne0 : s ≠ s0 := fun e1 => hs (e1 ▸ hU0)
  have hneU : ∀ i, U i → s ≠ i := fun i hi e1 => hs (e1 ▸ hi)
  have hBs : B s = none := by
    cases hb' : B s with
    | none => rfl
    | some b' => exact absurd (h.ub s b' hb').1 hs
  have hd1 : ownB (a.eval d) = (a.eval d).ownBlock := ownB_own hown0
  -- where the new row lies
  have hwhere : ∀ y, ownB v' = some y → y = w.heap.size ∨ ownB (ν s0) = some y := by
    intro y hy
    rw [ownB_own h6] at hy
    rcases h8 with h8 | h8
    · rw [h8, ← hd1] at hy
      rcases hblk with h9 | h9
      · rw [h9] at hy; cases hy
      · exact .inr (by rw [← h9]; exact hy)
    · rw [h8] at hy; cases hy; exact .inl rfl
  have hB1s : setB (setB B s (some (.row e' r (xs ++ ys) false))) s0 none s = some (.row e' r (xs ++ ys) false) := by rw [setB_ne _ _ (Ne.symm hne0), setB_eq]
  have hB10 : setB (setB B s (some (.row e' r (xs ++ ys) false))) s0 none s0 = none := setB_eq _ _ _
  have hB1o : ∀ j, j ≠ s → j ≠ s0 → setB (setB B s (some (.row e' r (xs ++ ys) false))) s0 none j = B j := fun j hj hj0 => by rw [setB_ne _ _ (Ne.symm hj0), setB_ne _ _ (Ne.symm hj)]
  have hsim : Sim W0 A Gv N (fun i => U i ∨ i = s) g (setB (setB B s (some (.row e' r (xs ++ ys) false))) s0 none) (setν ν s v') a w' := by
    refine h.step (Tc := fun i => i = s ∨ i = s0) (fun i hi => .inl hi) h7.os h7.tape h7.output h7.size (fun y hy hne => h7.block y hy fun e1 => ?_) (fun j hj => ⟨hB1o j (fun e1 => hj (.inl e1)) (fun e1 => hj (.inr e1)), fun hu => setν_ne _ _ (hneU j hu)⟩) ?_ ?_ ?_ ?_ ?_ ?_
    · rw [← hd1] at e1
      rcases hblk with h9 | h9
      · rw [h9] at e1; cases e1
      · rw [h9] at e1
        exact hne s0 _ (.inr rfl) hB rfl e1.symm
    · rintro j (rfl | rfl) hu
      · exact absurd hu hs
      · exact .inl hB10
    · rintro j b1 y (rfl | rfl) hb1 hm hy hl
      · rw [setν_eq] at hy
        rcases hwhere y hy with h9 | h9
        · omega
        · exact ⟨s0, _, .inr rfl, hB, rfl, h9⟩
      · rw [hB10] at hb1; cases hb1
    · rintro j b1 (rfl | rfl) hb1
      · rw [hB1s] at hb1
        cases hb1
        exact ⟨.inr rfl, fun y hy => by cases hy⟩
      · rw [hB10] at hb1; cases hb1
    · rintro hboth _ j b1 (rfl | rfl) hb1
      · rw [hB1s] at hb1
        cases hb1
        have hA := (hx0.append h4).imp fun x cs hx => RepR.move (fun y hy => (hboth y hy).2) (fun y hy => (hboth y hy).1) r x cs hx
        refine ⟨css0 ++ css, hA, ?_, fun y hy => ?_⟩
        · rw [setν_eq, List.length_append, List.flatten_append]
          exact h6
        · rw [setν_eq] at hy
          rcases hwhere y hy with h9 | h9
          · subst h9; exact .inl h.kept.size
          · exact ((h.bl s0 _ hB).own h9).1
      · rw [hB10] at hb1; cases hb1
    · rintro j j' b b' y (rfl | rfl) hb1 hb2 hy hy'
      · by_cases hj : j = j'
        · exact hj
        · exfalso
          have hj0 : j' ≠ s0 := by rintro rfl; rw [hB10] at hb2; cases hb2
          rw [hB1o j' (Ne.symm hj) hj0] at hb2
          rw [setν_eq] at hy
          rw [setν_ne _ _ hj] at hy'
          rcases hwhere y hy with h9 | h9
          · have := ((h.bl j' _ hb2).own hy').2; omega
          · exact hj0 (h.inj j' s0 _ _ y hb2 hB hy' h9)
      · rw [hB10] at hb1; cases hb1
    · intro j b b1 hj hb1 hb2
      rw [hB1o j (fun e1 => hj (.inl e1)) (fun e1 => hj (.inr e1)), hb1] at hb2
      exact (Option.some.inj hb2).symm
  refine ⟨_, _, _, _, ?_, .inl rfl, hsim, (⟨?_, fun b hb' => ?_⟩ : RepCV _ _ _ _ (.own s) v'), fun s' hs' => ?_⟩
  · simp [execOp, ho, resolve, invoke, builtin, h1, hrun]
  · obtain ⟨Ad', c', rfl, _⟩ := own_isSlice h6
    rfl
  · rw [hB1s] at hb'
    cases hb'
    exact ⟨rfl, (setν_eq _ _ _).symm⟩
  · rw [one_sites] at hs'
    simp only [CV.sites, List.mem_singleton] at hs'
    exact .inr hs'

end
end Go.Pi
