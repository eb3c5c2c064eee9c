/- Copies. -/
import Derived.Test.YtgofapkelhccgaaPi20
import Derived.Laws.IdiomCopy
set_option linter.unusedVariables false
set_option linter.unusedSimpArgs false
namespace Go.Pi
open Go.RowKit

theorem flat_take {cs : List (List Value)} (h : ∀ c ∈ cs, c.length = 1) : ∀ n, (cs.take n).flatten = cs.flatten.take n := by
  induction cs with
  | nil => intro n; simp
  | cons c cs ih =>
    intro n
    have hc := h c (by simp)
    cases n with
    | zero => simp
    | succ n =>
      rw [List.take_succ_cons, List.flatten_cons, List.flatten_cons, ih (fun c hc => h c (by simp [hc])), List.take_append, hc]
      simp only [Nat.add_sub_cancel]
      congr 1
      exact (List.take_of_length_le (by omega)).symm
theorem flat_drop {cs : List (List Value)} (h : ∀ c ∈ cs, c.length = 1) : ∀ n, (cs.drop n).flatten = cs.flatten.drop n := by
  induction cs with
  | nil => intro n; simp
  | cons c cs ih =>
    intro n
    have hc := h c (by simp)
    cases n with
    | zero => simp
    | succ n =>
      rw [List.drop_succ_cons, List.flatten_cons, ih (fun c hc => h c (by simp [hc])), List.drop_append, hc]
      simp only [Nat.add_sub_cancel]
      have e0 : c.drop (n + 1) = [] := List.drop_eq_nil_iff.2 (by omega)
      rw [e0, List.nil_append]

section
variable {P : Program} {W0 : World} {A Gv : Nat → Prop} {N : Nat} {U : Nat → Prop} {g : Nat → TV} {B : Nat → Option Blk} {ν : Nat → Value} {a : Act} {w : World} {o : Oper}

theorem rep_lens {ok : Nat → Prop} {r : Shs} {xs : List (RowD r)} {css : List (List Value)} (h : All2 (fun x cs => RepR w ok r x cs) xs css) : ∀ c ∈ css, c.length = r.size := by
  intro c hc
  obtain ⟨j, hj⟩ := List.getElem?_of_mem hc
  have hjl : j < xs.length := by rw [h.len]; exact (List.getElem?_eq_some_iff.1 hj).1
  obtain ⟨c', hc', hr'⟩ := h.get j _ (List.getElem?_eq_getElem hjl)
  rw [hj] at hc'
  cases hc'
  exact hr'.len

theorem op_copy (h : Sim W0 A Gv N U g B ν a w) (d x : Operand) (t u : TypeId) (ho : o.op = .call { callee := .builtin .copy, args := #[d, x], argTypes := #[t, u] }) {e : TypeId} (ht : elemT P t = some e)
    {s : Nat} (hd : opnd g d = .e (.one (.own s))) {e' : TypeId} {r : Shs} {xs : List (RowD r)} (hB : B s = some (.row e' r xs false)) {v : CV} (hx : opnd g x = .e (.one v)) {ys : List (RowD r)} (hdat : dataOf B v = some ⟨r, ys⟩)
    (hsz : sizeT P e = some 1) (hr1 : r.size = 1) (hfl : r.hasSl = false) :
    Res P W0 A Gv N U g (setB B s (some (.row e' r (ys.take xs.length ++ xs.drop ys.length) false))) (int1 .i64 (min ys.length xs.length : Nat)) o a w := by
  obtain ⟨_, hdv⟩ := (hd ▸ h.opnd d : RepTV w (okS W0 A Gv ν B w) ν B (.e (.one (.own s))) (a.eval d))
  obtain ⟨_, hdv⟩ := hdv _ hB
  have hv : RepCV w (okS W0 A Gv ν B w) ν B v (a.eval x) := (hx ▸ h.opnd x : RepTV w (okS W0 A Gv ν B w) ν B (.e (.one v)) (a.eval x))
  obtain ⟨Ad, c, cy, h1, h2, h3, h4, h5⟩ := dataOf_rep h hv hdat
  obtain ⟨cx, g1, g2, g3⟩ := h.bl _ _ hB
  have hly := rep_lens h4
  have hlx := rep_lens g1
  rw [hr1] at hly hlx
  have hcy : cy.flatten.length = ys.length := by rw [flat_len h4, hr1, Nat.mul_one]
  have hcx : cx.flatten.length = xs.length := by rw [flat_len g1, hr1, Nat.mul_one]
  have hel := elemT_eq ht
  have hsz' : (P.info? e).map (·.size) = some 1 := hsz
  by_cases hn : min ys.length xs.length = 0
  · have hsame : ys.take xs.length ++ xs.drop ys.length = xs := by
      rcases Nat.eq_zero_or_pos ys.length with h0 | h0
      · have := List.eq_nil_of_length_eq_zero h0
        simp [this]
      · have h1 : xs.length = 0 := by omega
        have := List.eq_nil_of_length_eq_zero h1
        simp [this]
    have hB1 : setB B s (some (.row e' r (ys.take xs.length ++ xs.drop ys.length) false)) = B := by
      rw [hsame]
      funext i
      by_cases hi : s = i
      · subst hi; rw [setB_eq, hB]
      · rw [setB_ne _ _ hi]
    rw [hB1, hn]
    obtain ⟨A0, c0, hν0, _, _⟩ := own_isSlice g2
    refine Res.same h _ ?_ (int1_rep _ _) (int1_sites _ _)
    have := run_copy_none (P := P) w t u o.type e A0 Ad xs.length c0 ys.length c hel hsz' hn
    simp [execOp, ho, resolve, invoke, builtin, h1, hdv, hν0, this, goInt]
  · obtain ⟨q, cap, g4, g5, _⟩ := own_some g2 (by omega)
    obtain ⟨ad, e1, e2, _, e3⟩ := h5 (by omega)
    rcases g2.2 with ⟨g6, g7⟩ | ⟨q', cap', cur, g6, _, g8, g9, g10, g11, g12⟩
    · omega
    · rw [g6] at g4
      simp only [Value.slice.injEq, Option.some.injEq, Addr.mk.injEq] at g4
      obtain ⟨⟨rfl, -⟩, -, rfl⟩ := g4
      rw [hr1, Nat.mul_one] at g11 g12
      have hcs : (cy.flatten.take xs.length).length = min ys.length xs.length := by rw [List.length_take, hcy]; exact Nat.min_comm _ _
      have hrun := run_copy_row (P := P) w t u o.type e q' 0 xs.length cap' ad ys.length c cur e' (cy.flatten.take xs.length) hel hsz' g8 hcs
        (fun j v hj => e3 j v (by rw [List.getElem?_take] at hj; split at hj; exact hj; cases hj)) (by rw [hcs]; omega) (fun v hv => flat_ones h4 v (List.mem_of_mem_take hv))
      have hpre : cur.toList = cx.flatten ++ cur.toList.drop xs.length := by
        conv => lhs; rw [← List.take_append_drop xs.length cur.toList]
        rw [g12]
      have hmem : cur.toList.take 0 ++ cy.flatten.take xs.length ++ cur.toList.drop (0 + (cy.flatten.take xs.length).length) = (cy.take xs.length ++ cx.drop ys.length).flatten ++ cur.toList.drop xs.length := by
        rw [List.flatten_append, flat_take hly, flat_drop hlx, hcs]
        simp only [List.take_zero, List.nil_append, Nat.zero_add, List.append_assoc]
        congr 1
        rcases Nat.le_total ys.length xs.length with hle | hle
        · rw [Nat.min_eq_left hle]
          conv => lhs; rw [hpre]
          rw [List.drop_append_of_le_length (by omega)]
        · have e0 : cx.flatten.drop ys.length = [] := List.drop_eq_nil_iff.2 (by omega)
          rw [Nat.min_eq_right hle, e0, List.nil_append]
      rw [hmem] at hrun
      have hlen1 : (ys.take xs.length ++ xs.drop ys.length).length = xs.length := by
        rw [List.length_append, List.length_take, List.length_drop]; omega
      have hsim := h.write (b1 := .row e' r (ys.take xs.length ++ xs.drop ys.length) false) hB rfl rfl ⟨rfl, by simp only [Blk.elems, hlen1]⟩ (q := q') (by rw [g6]; rfl) (grown_setRow w q' ((cy.take xs.length ++ cx.drop ys.length).flatten ++ cur.toList.drop xs.length).toArray) (size_setRow w q' _) (fun c hc => by cases hc) (fun ok1 B1 hk1 hk2 hk3 => by
        have hA : All2 (fun x cs => RepR (w.setRow q' ((cy.take xs.length ++ cx.drop ys.length).flatten ++ cur.toList.drop xs.length).toArray) ok1 r x cs) (ys.take xs.length ++ xs.drop ys.length) (cy.take xs.length ++ cx.drop ys.length) :=
          All2.append ((h4.take _).imp fun x cs hx => RepR.flat r x cs hfl hx) ((g1.drop _).imp fun x cs hx => RepR.flat r x cs hfl hx)
        have hfl2 := flat_len hA
        rw [hlen1, hr1, Nat.mul_one] at hfl2
        refine ⟨_, hA, ⟨by rw [flat_len hA], .inr ⟨q', cap', _, by rw [g6, hlen1], Nat.zero_le _, setRow_heap w q' _ _ e' (0, 0) g8, by rw [hlen1]; exact g9, g10, ?_, ?_⟩⟩, g3⟩
        · simp only [List.size_toArray, List.length_append, List.length_drop, Array.length_toList, hr1, Nat.mul_one, g11]
          rw [show (cy.take xs.length ++ cx.drop ys.length).flatten.length = xs.length from hfl2]
          omega
        · rw [hlen1, hr1, Nat.mul_one]
          exact List.take_left' hfl2)
      refine ⟨_, .int .i64 (min ys.length xs.length : Nat), _, ν, ?_, .inl rfl, hsim, int1_rep _ _, int1_sites _ _⟩
      simp only [execOp, ho, resolve, invoke, builtin, Sem.run_bind, Sem.run_pure, Result.andThen_ok, List.map_toArray, List.map_cons, List.map_nil, h1, hdv, g6, e1, hrun, goInt, hcs]
end
end Go.Pi
