/- Merged from small texts. -/
import Derived.Laws.IdiomCopy
import Derived.Orders
import Derived.Test.YtbaceloeihkmkaaGreatDoorQQ2
/- Calls: the operation. -/
set_option linter.unusedVariables false
set_option linter.unusedSimpArgs false
namespace Go.Pi
open Go.RowKit

section
variable (P : Program) (W0 : World) (A Gv : Nat → Prop) (N : Nat) (U : Nat → Prop) (g : Nat → TV) (B : Nat → Option Blk) (tv : TV) (o : Oper) (a : Act) (w : World)
/-- The operation runs, and comes to what the executor says of it. -/
def Did : Prop := (∀ s ∈ tv.sites, U s) ∧ ∀ (next : Act → World → Prop) (Q : Exit → Act → World → Prop),
  (∀ v w1 ν1, Sim W0 A Gv N U g B ν1 a w1 → RepTV w1 (okS W0 A Gv ν1 B w1) ν1 B tv v → next (a.put o.dst v) w1) → o.wp P a w next Q
end

section
variable {P : Program} {W0 : World} {A Gv : Nat → Prop} {N : Nat} {U : Nat → Prop} {g : Nat → TV} {B : Nat → Option Blk} {ν : Nat → Value} {a : Act} {w : World} {o : Oper}

theorem Res.did {tv : TV} (h : Res P W0 A Gv N U g B tv o a w) : Did P W0 A Gv N U g B tv o a w := by
  obtain ⟨nx, v, w1, ν1, hr, hn, h1, h2, h3⟩ := h
  refine ⟨h3, fun next Q hk => ?_⟩
  unfold Oper.wp
  rw [hr]
  rcases hn with rfl | ⟨rfl, rfl⟩
  · exact hk _ _ _ h1 h2
  · exact hk _ _ _ h1 h2
theorem Res.mono {tv : TV} {U1 : Nat → Prop} (hU : ∀ s, U s → U1 s) (h : Res P W0 A Gv N U g B tv o a w) : Res P W0 A Gv N U1 g B tv o a w := by
  obtain ⟨nx, v, w1, ν1, hr, hn, h1, h2, h3⟩ := h
  exact ⟨nx, v, w1, ν1, hr, hn, h1.mono hU, h2, fun s hs => hU s (h3 s hs)⟩

theorem opnds_all (h : Sim W0 A Gv N U g B ν a w) : ∀ (l : List Operand), All2 (RepTV w (okS W0 A Gv ν B w) ν B) (l.map (opnd g)) (l.map a.eval)
  | [] => trivial
  | x :: l => ⟨h.opnd x, opnds_all h l⟩
theorem cap_tv {ok : Nat → Prop} {c : Cap} {v : Value} (h : RepCap w ok ν B c v) : RepTV w ok ν B c.tv v := by
  cases c with
  | ptr s off => exact h
  | dat s x => exact h
  | ref r x =>
    obtain ⟨ad, cs, h1, h2, h3, h4, h5⟩ := h
    refine ⟨ad, [cs], ?_, h2, h3, ⟨h4, trivial⟩, fun j u hj => h5 j u (by simpa using hj), Int.le_refl 0, by simp⟩
    obtain ⟨b, o, sp⟩ := ad
    cases h2
    rw [h1]
    simp
theorem caps_tv {ok : Nat → Prop} : ∀ {caps : List Cap} {us : List Value}, All2 (RepCap w ok ν B) caps us → All2 (RepTV w ok ν B) (caps.map Cap.tv) us
  | [], [], _ => trivial
  | _ :: _, _ :: _, h => ⟨cap_tv h.1, caps_tv h.2⟩
  | [], _ :: _, h => h.elim
  | _ :: _, [], h => h.elim

theorem op_call (h : Sim W0 A Gv N U g B ν a w) (c : Call) (ho : o.op = .call c) {f : Operand} (hc : c.callee = .value f) {n : FuncId} {cu : List Value} (hfv : a.eval f = .func (.func n) #[] cu.toArray) {ts : List TV}
    (hts : All2 (RepTV w (okS W0 A Gv ν B w) ν B) ts (c.args.toList.map a.eval ++ cu)) {E : Ent} (hE : Holds P n E) {x : ArgsD E.ps}
    (hp : packA B E.ps ts = some x) (hnd : (takenA E.ps ts).Nodup) (hdis : ∀ s ∈ takenA E.ps ts, s ∉ lentA E.ps ts) (hbx : E.rs.any RK.leaks = true → boxA E.ps ts = [])
    {base : Nat} (hbase : ∀ j, j < E.rs.length → ¬ U (base + j)) {k : Nat} {r : ResD E.rs} (hr : E.fn k x = some r) :
    Did P W0 A Gv N (fun i => U i ∨ ∃ j, j < E.rs.length ∧ i = base + j) g
      (updB (callEff base E ((takenA E.ps ts).map (fun s => (s, none)) ++ (if E.rs.any RK.leaks then frz B (lentA E.ps ts) else [])) r).w B)
      (callEff base E ((takenA E.ps ts).map (fun s => (s, none)) ++ (if E.rs.any RK.leaks then frz B (lentA E.ps ts) else [])) r).v o a w := by
  let A' : Nat → Prop := fun y => okS W0 A Gv ν B w y ∨ (∃ s ∈ lentA E.ps ts, ∃ e r xs fz, B s = some (.row e r xs fz) ∧ ownB (ν s) = some y) ∨ ∃ s ∈ boxA E.ps ts, ∃ ty cells, B s = some (.box ty cells) ∧ ownB (ν s) = some y
  obtain ⟨hA1, htkv, htk⟩ := packA_rep h (ok1 := A') (fun _ => .inl) E.ps ts _ x hts (fun s hs e r xs fz y hb hy => .inr (.inl ⟨s, hs, e, r, xs, fz, hb, hy⟩)) (fun s hs ty cells y hb hy => .inr (.inr ⟨s, hs, ty, cells, hb, hy⟩)) hp
  have hgv : ∀ b, GvOf ((takenA E.ps ts).map ν) b → ∃ s ∈ takenA E.ps ts, ownB (ν s) = some b := by
    rintro b ⟨v, hv, hx⟩
    obtain ⟨s, hs, rfl⟩ := List.mem_map.1 hv
    exact ⟨s, hs, hx⟩
  have hcall := hE.calls k x r (c.args.toList.map a.eval ++ cu) w A' hr (fun b hb => ?_) ?_ hA1
  rotate_left
  · rw [htkv]
    rcases hb with hb | ⟨s, hs, e, r, xs, fz, hb, hy⟩ | ⟨s, hs, ty, cells, hb, hy⟩
    · refine ⟨h.okLt hb, fun hg => ?_⟩
      obtain ⟨s, hs, hx⟩ := hgv b hg
      obtain ⟨e, r, xs, hB⟩ := htk s hs
      rcases hb with ha | ⟨_, _, hne⟩
      · have h1 := h.old b ha
        rcases ((h.bl s _ hB).own hx).1 with h2 | h2
        · omega
        · exact h1.2 h2
      · exact hne s _ hB rfl hx
    · refine ⟨((h.bl s _ hb).own hy).2, fun hg => ?_⟩
      obtain ⟨s', hs', hx⟩ := hgv b hg
      obtain ⟨e, r, xs, hB⟩ := htk s' hs'
      exact hdis s' hs' (h.inj s s' _ _ b hb hB hy hx ▸ hs)
    · refine ⟨((h.bl s _ hb).own hy).2, fun hg => ?_⟩
      obtain ⟨s', hs', hx⟩ := hgv b hg
      obtain ⟨e, r, xs, hB⟩ := htk s' hs'
      have e1 := h.inj s s' _ _ b hb hB hy hx
      subst e1
      rw [hb] at hB
      cases hB
  · rw [htkv]
    refine List.pairwise_map.2 ?_
    have := List.nodup_iff_pairwise_ne.1 hnd
    refine List.Pairwise.imp_of_mem (fun {s s'} hs hs' hne y hy hy' => ?_) this
    obtain ⟨e, r, xs, hB⟩ := htk s hs
    obtain ⟨e', r', xs', hB'⟩ := htk s' hs'
    exact hne (h.inj s s' _ _ y hB hB' hy hy')
  rw [htkv] at hcall
  -- what is lent is written no more, if the results may lead there
  have hfz : ∃ B', B' = updB (if E.rs.any RK.leaks then frz B (lentA E.ps ts) else []) B ∧ Sim W0 A Gv N U g B' ν a w ∧ (E.rs.any RK.leaks = true → ∀ y, A' y → okS W0 A Gv ν B' w y) ∧
      ∀ s ∈ takenA E.ps ts, ∃ e r xs, B' s = some (.row e r xs false) := by
    refine ⟨_, rfl, ?_⟩
    cases hl : E.rs.any RK.leaks with
    | false => exact ⟨h, fun hh => Bool.noConfusion hh, htk⟩
    | true =>
      obtain ⟨h1, h2, h3, h4⟩ := h.freeze (lentA E.ps ts)
      refine ⟨h1, fun _ y hy => ?_, fun s hs => ?_⟩
      · rcases hy with hy | ⟨s, hs, e, r, xs, fz, hb, hy⟩ | ⟨s, hs, _⟩
        · exact h2 y hy
        · exact h3 s hs e r xs fz y hb hy
        · rw [hbx hl] at hs
          cases hs
      · obtain ⟨e, r, xs, hB⟩ := htk s hs
        refine ⟨e, r, xs, ?_⟩
        simp only [if_true]
        rw [frz_lk, hB]
        simp [hdis s hs]
  obtain ⟨B', hB', h', hA', htk'⟩ := hfz
  have hw : updB (callEff base E ((takenA E.ps ts).map (fun s => (s, none)) ++ (if E.rs.any RK.leaks then frz B (lentA E.ps ts) else [])) r).w B =
      updB (resW base E.rs r ++ (takenA E.ps ts).map (fun s => (s, none))) B' := by
    rw [hB', ← updB_append]
    simp only [callEff, List.append_assoc]
  rw [hw]
  refine ⟨fun s hs => ?_, fun next Q hk => ?_⟩
  · obtain ⟨j, h1, h2⟩ := goV_sites (resL E.rs r) base s (by rw [← resV_go]; exact tupV_sites hs)
    exact .inr ⟨j, by rwa [resL_len] at h1, h2⟩
  · obtain ⟨fn, hfn, hb, hnm⟩ := hE.there
    have hrun : (execOp a.eval o).run P w = .ok (.enter n (c.args.toList.map a.eval ++ cu).toArray) w := by
      have h1 : fn.name ≠ "runtime.NumGoroutine" := by simpa using hnm
      obtain ⟨cd, hcd⟩ : ∃ cd, fn.body = some cd := Option.isSome_iff_exists.1 (by cases hbb : fn.body <;> simp_all)
      have harr : c.args.map a.eval ++ cu.toArray = (c.args.toList.map a.eval ++ cu).toArray := by rw [← Array.toList_map]; simp
      simp [execOp, ho, resolve, hc, hfv, Deferred.ofValue, invoke, callFunc, hfn, h1, hcd, harr]
    unfold Oper.wp
    rw [hrun, Oper.upon_enter]
    refine hcall.mono fun e w' he => ?_
    obtain ⟨us, rfl, hkp, hap, hrs⟩ := he
    obtain ⟨ν1, h1, h2, h3⟩ := h'.called htk' hbase hkp hap hA' hrs
    exact hk _ _ _ h1 h2

end
end Go.Pi

/- Copies. -/
set_option linter.unusedVariables false
set_option linter.unusedSimpArgs false
namespace Go.Pi
open Go.RowKit

theorem flat_take {cs : List (List Value)} (h : ∀ c ∈ cs, c.length = 1) : ∀ n, (cs.take n).flatten = cs.flatten.take n := by
  induction cs with
  | nil => intro n; simp
  | cons c cs ih =>
    intro n
    have hc := h c (by simp)
    cases n with
    | zero => simp
    | succ n =>
      rw [List.take_succ_cons, List.flatten_cons, List.flatten_cons, ih (fun c hc => h c (by simp [hc])), List.take_append, hc]
      simp only [Nat.add_sub_cancel]
      congr 1
      exact (List.take_of_length_le (by omega)).symm
theorem flat_drop {cs : List (List Value)} (h : ∀ c ∈ cs, c.length = 1) : ∀ n, (cs.drop n).flatten = cs.flatten.drop n := by
  induction cs with
  | nil => intro n; simp
  | cons c cs ih =>
    intro n
    have hc := h c (by simp)
    cases n with
    | zero => simp
    | succ n =>
      rw [List.drop_succ_cons, List.flatten_cons, ih (fun c hc => h c (by simp [hc])), List.drop_append, hc]
      simp only [Nat.add_sub_cancel]
      have e0 : c.drop (n + 1) = [] := List.drop_eq_nil_iff.2 (by omega)
      rw [e0, List.nil_append]

section
variable {P : Program} {W0 : World} {A Gv : Nat → Prop} {N : Nat} {U : Nat → Prop} {g : Nat → TV} {B : Nat → Option Blk} {ν : Nat → Value} {a : Act} {w : World} {o : Oper}

theorem rep_lens {ok : Nat → Prop} {r : Shs} {xs : List (RowD r)} {css : List (List Value)} (h : All2 (fun x cs => RepR w ok r x cs) xs css) : ∀ c ∈ css, c.length = r.size := by
  intro c hc
  obtain ⟨j, hj⟩ := List.getElem?_of_mem hc
  have hjl : j < xs.length := by rw [h.len]; exact (List.getElem?_eq_some_iff.1 hj).1
  obtain ⟨c', hc', hr'⟩ := h.get j _ (List.getElem?_eq_getElem hjl)
  rw [hj] at hc'
  cases hc'
  exact hr'.len

theorem op_copy (h : Sim W0 A Gv N U g B ν a w) (d x : Operand) (t u : TypeId) (ho : o.op = .call { callee := .builtin .copy, args := #[d, x], argTypes := #[t, u] }) {e : TypeId} (ht : elemT P t = some e)
    {s : Nat} (hd : opnd g d = .e (.one (.own s))) {e' : TypeId} {r : Shs} {xs : List (RowD r)} (hB : B s = some (.row e' r xs false)) {v : CV} (hx : opnd g x = .e (.one v)) {ys : List (RowD r)} (hdat : dataOf B v = some ⟨r, ys⟩)
    (hsz : sizeT P e = some 1) (hr1 : r.size = 1) (hfl : r.hasSl = false) :
    Res P W0 A Gv N U g (setB B s (some (.row e' r (ys.take xs.length ++ xs.drop ys.length) false))) (int1 .i64 (min ys.length xs.length : Nat)) o a w := by
  obtain ⟨_, hdv⟩ := (hd ▸ h.opnd d : RepTV w (okS W0 A Gv ν B w) ν B (.e (.one (.own s))) (a.eval d))
  obtain ⟨_, hdv⟩ := hdv _ hB
  have hv : RepCV w (okS W0 A Gv ν B w) ν B v (a.eval x) := (hx ▸ h.opnd x : RepTV w (okS W0 A Gv ν B w) ν B (.e (.one v)) (a.eval x))
  obtain ⟨Ad, c, cy, h1, h2, h3, h4, h5⟩ := dataOf_rep h hv hdat
  obtain ⟨cx, g1, g2, g3⟩ := h.bl _ _ hB
  have hly := rep_lens h4
  have hlx := rep_lens g1
  rw [hr1] at hly hlx
  have hcy : cy.flatten.length = ys.length := by rw [flat_len h4, hr1, Nat.mul_one]
  have hcx : cx.flatten.length = xs.length := by rw [flat_len g1, hr1, Nat.mul_one]
  have hel := elemT_eq ht
  have hsz' : (P.info? e).map (·.size) = some 1 := hsz
  by_cases hn : min ys.length xs.length = 0
  · have hsame : ys.take xs.length ++ xs.drop ys.length = xs := by
      rcases Nat.eq_zero_or_pos ys.length with h0 | h0
      · have := List.eq_nil_of_length_eq_zero h0
        simp [this]
      · have h1 : xs.length = 0 := by omega
        have := List.eq_nil_of_length_eq_zero h1
        simp [this]
    have hB1 : setB B s (some (.row e' r (ys.take xs.length ++ xs.drop ys.length) false)) = B := by
      rw [hsame]
      funext i
      by_cases hi : s = i
      · subst hi; rw [setB_eq, hB]
      · rw [setB_ne _ _ hi]
    rw [hB1, hn]
    obtain ⟨A0, c0, hν0, _, _⟩ := own_isSlice g2
    refine Res.same h _ ?_ (int1_rep _ _) (int1_sites _ _)
    have := run_copy_none (P := P) w t u o.type e A0 Ad xs.length c0 ys.length c hel hsz' hn
    simp [execOp, ho, resolve, invoke, builtin, h1, hdv, hν0, this, goInt]
  · obtain ⟨q, cap, g4, g5, _⟩ := own_some g2 (by omega)
    obtain ⟨ad, e1, e2, _, e3⟩ := h5 (by omega)
    rcases g2.2 with ⟨g6, g7⟩ | ⟨q', cap', cur, g6, _, g8, g9, g10, g11, g12⟩
    · omega
    · rw [g6] at g4
      simp only [Value.slice.injEq, Option.some.injEq, Addr.mk.injEq] at g4
      obtain ⟨⟨rfl, -⟩, -, rfl⟩ := g4
      rw [hr1, Nat.mul_one] at g11 g12
      have hcs : (cy.flatten.take xs.length).length = min ys.length xs.length := by rw [List.length_take, hcy]; exact Nat.min_comm _ _
      have hrun := run_copy_row (P := P) w t u o.type e q' 0 xs.length cap' ad ys.length c cur e' (cy.flatten.take xs.length) hel hsz' g8 hcs
        (fun j v hj => e3 j v (by rw [List.getElem?_take] at hj; split at hj; exact hj; cases hj)) (by rw [hcs]; omega) (fun v hv => flat_ones h4 v (List.mem_of_mem_take hv))
      have hpre : cur.toList = cx.flatten ++ cur.toList.drop xs.length := by
        conv => lhs; rw [← List.take_append_drop xs.length cur.toList]
        rw [g12]
      have hmem : cur.toList.take 0 ++ cy.flatten.take xs.length ++ cur.toList.drop (0 + (cy.flatten.take xs.length).length) = (cy.take xs.length ++ cx.drop ys.length).flatten ++ cur.toList.drop xs.length := by
        rw [List.flatten_append, flat_take hly, flat_drop hlx, hcs]
        simp only [List.take_zero, List.nil_append, Nat.zero_add, List.append_assoc]
        congr 1
        rcases Nat.le_total ys.length xs.length with hle | hle
        · rw [Nat.min_eq_left hle]
          conv => lhs; rw [hpre]
          rw [List.drop_append_of_le_length (by omega)]
        · have e0 : cx.flatten.drop ys.length = [] := List.drop_eq_nil_iff.2 (by omega)
          rw [Nat.min_eq_right hle, e0, List.nil_append]
      rw [hmem] at hrun
      have hlen1 : (ys.take xs.length ++ xs.drop ys.length).length = xs.length := by
        rw [List.length_append, List.length_take, List.length_drop]; omega
      have hsim := h.write (b1 := .row e' r (ys.take xs.length ++ xs.drop ys.length) false) hB rfl rfl ⟨rfl, by simp only [Blk.elems, hlen1]⟩ (q := q') (by rw [g6]; rfl) (grown_setRow w q' ((cy.take xs.length ++ cx.drop ys.length).flatten ++ cur.toList.drop xs.length).toArray) (size_setRow w q' _) (fun c hc => by cases hc) (fun ok1 B1 hk1 hk2 hk3 => by
        have hA : All2 (fun x cs => RepR (w.setRow q' ((cy.take xs.length ++ cx.drop ys.length).flatten ++ cur.toList.drop xs.length).toArray) ok1 r x cs) (ys.take xs.length ++ xs.drop ys.length) (cy.take xs.length ++ cx.drop ys.length) :=
          All2.append ((h4.take _).imp fun x cs hx => RepR.flat r x cs hfl hx) ((g1.drop _).imp fun x cs hx => RepR.flat r x cs hfl hx)
        have hfl2 := flat_len hA
        rw [hlen1, hr1, Nat.mul_one] at hfl2
        refine ⟨_, hA, ⟨by rw [flat_len hA], .inr ⟨q', cap', _, by rw [g6, hlen1], Nat.zero_le _, setRow_heap w q' _ _ e' (0, 0) g8, by rw [hlen1]; exact g9, g10, ?_, ?_⟩⟩, g3⟩
        · simp only [List.size_toArray, List.length_append, List.length_drop, Array.length_toList, hr1, Nat.mul_one, g11]
          rw [show (cy.take xs.length ++ cx.drop ys.length).flatten.length = xs.length from hfl2]
          omega
        · rw [hlen1, hr1, Nat.mul_one]
          exact List.take_left' hfl2)
      refine ⟨_, .int .i64 (min ys.length xs.length : Nat), _, ν, ?_, .inl rfl, hsim, int1_rep _ _, int1_sites _ _⟩
      simp only [execOp, ho, resolve, invoke, builtin, Sem.run_bind, Sem.run_pure, Result.andThen_ok, List.map_toArray, List.map_cons, List.map_nil, h1, hdv, g6, e1, hrun, goInt, hcs]
end
end Go.Pi

/- Arrays: stores, and the slice of a whole array. -/
set_option linter.unusedVariables false
set_option linter.unusedSimpArgs false
namespace Go.Pi
open Go.RowKit

section
variable {P : Program} {W0 : World} {A Gv : Nat → Prop} {N : Nat} {U : Nat → Prop} {g : Nat → TV} {B : Nat → Option Blk} {ν : Nat → Value} {a : Act} {w : World} {o : Oper}

theorem op_store_arr (h : Sim W0 A Gv N U g B ν a w) (t : TypeId) (p x : Operand) (ho : o.op = .store t p x) {s : Nat} {r : Shs} {i : Int} {off : Nat} (hp : opnd g p = .e (.one (.rptr s r i off))) {v : EV} (hx : opnd g x = .e v) {n : Nat} (hn : sizeT P t = some n) (hl : v.cells.length = n)
    {e : TypeId} {m : Nat} {xs : List (RowD r)} (hB : B s = some (.arr e r m xs)) (hfit : off + n ≤ r.size) {y : RowD r} (hy : packR B r (setCells (unpackR r (gd r.dflt xs i)) off v.cells) = some y)
    {ss : List Nat} (hss : ss = v.cells.flatMap CV.rowSites) :
    Res P W0 A Gv N U g (setB (updB (frz B ss) B) s (some (.arr e r m (xs.set i.toNat y)))) (.tup []) o a w := by
  obtain ⟨_, hpv⟩ := (hp ▸ h.opnd p : RepTV w (okS W0 A Gv ν B w) ν B (.e (.one (.rptr s r i off))) (a.eval p))
  obtain ⟨q, r', m', hν, he, hi0, him, hpv⟩ := hpv _ hB
  simp only [Blk.elems, Option.some.injEq, Prod.mk.injEq] at he
  obtain ⟨rfl, rfl⟩ := he
  have hv := (hx ▸ h.opnd x : RepTV w (okS W0 A Gv ν B w) ν B (.e v) (a.eval x))
  have hc := EV_cells hv
  obtain ⟨hf1, hf2, hf3, hf4⟩ := h.freeze ss
  have hB' : updB (frz B ss) B s = some (.arr e r m xs) := by
    rw [frz_lk, hB]
  obtain ⟨q', css, h7, h3, h9, h1, h8⟩ := h.bl _ _ hB
  obtain ⟨cs, h4, h5, h6⟩ := flat_at h1 i.toNat _ (gd_get (d := r.dflt) hi0 him)
  have hcl : (a.eval x).cells.size = n := by rw [← Array.length_toList, ← hc.len, hl]
  have hcs : cs.length = r.size := h5.len
  have hlen := flat_len h1
  rw [h7] at hν
  simp only [baseG, Option.some.injEq] at hν
  subst hν
  have hit : i.toNat < xs.length := by omega
  have hrow : i.toNat * r.size + r.size ≤ xs.length * r.size := by
    rw [show i.toNat * r.size + r.size = (i.toNat + 1) * r.size by rw [Nat.add_mul]; omega]
    exact Nat.mul_le_mul_right _ hit
  have hrun := run_storeVar (P := P) (w := w) (cur := css.flatten) (off := i.toNat * r.size + off) hn h8 hcl (by rw [hlen]; omega) (All2.ones hc)
  -- the new row
  have hnewc : All2 (RepCV w (okS W0 A Gv ν B w) ν B) (setCells (unpackR r (gd r.dflt xs i)) off v.cells) (cs.take off ++ (a.eval x).cells.toList ++ cs.drop (off + (a.eval x).cells.toList.length)) := setCells_rep (unpack_rep h5) hc off
  have hrs : ∀ s' ∈ (setCells (unpackR r (gd r.dflt xs i)) off v.cells).flatMap CV.rowSites, s' ∈ ss := by
    intro s' hs'
    rw [List.mem_flatMap] at hs'
    obtain ⟨c, hcm, hs'⟩ := hs'
    unfold setCells at hcm
    simp only [List.mem_append] at hcm
    have hno : ∀ c, c ∈ unpackR r (gd r.dflt xs i) → c.rowSites = [] := by
      intro c hcm'
      have := unpack_sites hcm'
      cases c <;> simp_all [CV.sites, CV.rowSites]
    rcases hcm with (hcm | hcm) | hcm
    · rw [hno c (List.mem_of_mem_take hcm)] at hs'; cases hs'
    · rw [hss]
      exact List.mem_flatMap.2 ⟨c, hcm, hs'⟩
    · rw [hno c (List.mem_of_mem_drop hcm)] at hs'; cases hs'
  have hrep := packR_rep h hf2 r _ _ (fun s' hs' => hf3 s' (hrs s' hs')) y hy hnewc
  have hvl : (a.eval x).cells.toList.length = n := by simpa using hcl
  have hnew : (cs.take off ++ (a.eval x).cells.toList ++ cs.drop (off + (a.eval x).cells.toList.length)).length = r.size := hrep.len
  generalize hnc : cs.take off ++ (a.eval x).cells.toList ++ cs.drop (off + (a.eval x).cells.toList.length) = nc at *
  -- in memory
  have hcss : css[i.toNat]? = some cs := h4
  have hmem : (css.flatten.take (i.toNat * r.size + off) ++ (a.eval x).cells.toList ++ css.flatten.drop (i.toNat * r.size + off + (a.eval x).cells.toList.length)) = (css.set i.toNat nc).flatten := by
    have hlens : ∀ c ∈ css, c.length = r.size := by
      intro c hcm
      obtain ⟨j, hj⟩ := List.getElem?_of_mem hcm
      have hjl : j < xs.length := by rw [h1.len]; exact (List.getElem?_eq_some_iff.1 hj).1
      obtain ⟨c', hc', hr'⟩ := h1.get j _ (List.getElem?_eq_getElem hjl)
      rw [hj] at hc'
      cases hc'
      exact hr'.len
    rw [← flat_set i.toNat nc hlens hnew (by rw [← h1.len]; exact hit)]
    have hflen : css.flatten.length = xs.length * r.size := hlen
    have e0 : i.toNat * r.size + off ≤ css.flatten.length := by omega
    have e1 : i.toNat * r.size + off + n ≤ css.flatten.length := by omega
    rw [hvl]
    have e2 : css.flatten = css.flatten.take (i.toNat * r.size) ++ (cs ++ css.flatten.drop (i.toNat * r.size + r.size)) := by
      have e3 : (css.flatten.drop (i.toNat * r.size)).take r.size = cs := by
        apply List.ext_getElem?
        intro k
        rw [List.getElem?_take]
        split
        · rename_i hk
          rw [List.getElem?_drop]
          cases hck : cs[k]? with
          | none => rw [List.getElem?_eq_none_iff] at hck; omega
          | some u => exact h6 k u hck
        · rename_i hk
          rw [List.getElem?_eq_none_iff.2 (by omega)]
      conv => lhs; rw [← List.take_append_drop (i.toNat * r.size) css.flatten, ← List.take_append_drop r.size (css.flatten.drop (i.toNat * r.size)), e3, List.drop_drop]
    have hT : (css.flatten.take (i.toNat * r.size)).length = i.toNat * r.size := by rw [List.length_take]; omega
    have e4 : css.flatten.take (i.toNat * r.size + off) = css.flatten.take (i.toNat * r.size) ++ cs.take off := by
      conv => lhs; rw [e2]
      rw [List.take_append, hT, Nat.add_sub_cancel_left, List.take_of_length_le (by omega), List.take_append_of_le_length (by omega)]
    have e5 : css.flatten.drop (i.toNat * r.size + off + n) = cs.drop (off + n) ++ css.flatten.drop (i.toNat * r.size + r.size) := by
      conv => lhs; rw [e2]
      rw [List.drop_append, hT, List.drop_of_length_le (by omega), List.nil_append, show i.toNat * r.size + off + n - i.toNat * r.size = off + n by omega, List.drop_append_of_le_length (by omega)]
    rw [e4, e5, ← hnc, hvl]
    simp only [List.append_assoc]
  rw [hmem] at hrun
  have hsim := hf1.write (b1 := .arr e r m (xs.set i.toNat y)) hB' rfl rfl ⟨rfl, by simp [Blk.elems]⟩ (q := q') (by rw [h7]; rfl) (grown_setRow w q' (css.set i.toNat nc).flatten.toArray) (size_setRow w q' _) (fun c hc => by cases hc) (fun ok1 B1 hk1 hk2 hk3 => by
    have hA : All2 (fun x cs => RepR (w.setRow q' (css.set i.toNat nc).flatten.toArray) ok1 r x cs) (xs.set i.toNat y) (css.set i.toNat nc) := by
      refine All2.set _ (h1.imp fun x cs hx => ?_) ?_
      · exact RepR.move hk2 hk1 r x cs (RepR.move (fun _ _ => rfl) hf2 r x cs hx)
      · exact RepR.move hk2 hk1 r y nc hrep
    exact ⟨q', css.set i.toNat nc, h7, h3, by rw [List.length_set]; exact h9, hA, setRow_heap w q' _ _ e (0, 0) h8⟩)
  refine ⟨_, undef, _, ν, ?_, .inr ⟨rfl, rfl⟩, hsim, ⟨[], rfl, trivial⟩, fun s' hs' => by simp [TV.sites] at hs'⟩
  simp only [execOp, ho, hpv, Instr.storeAt, Instr.sureAddr, Sem.run_bind, Sem.run_pure, Result.andThen_ok, hrun]


/-- A name is given up: what it stood for is written no more. -/
theorem Sim.kill (h : Sim W0 A Gv N U g B ν a w) (s : Nat) : Sim W0 A Gv N U g (setB B s none) ν a w ∧ (∀ x, okS W0 A Gv ν B w x → okS W0 A Gv ν (setB B s none) w x) ∧
    ∀ b x, B s = some b → ownB (ν s) = some x → okS W0 A Gv ν (setB B s none) w x := by
  have hok : ∀ x, okS W0 A Gv ν B w x → okS W0 A Gv ν (setB B s none) w x := by
    intro x hx
    rcases hx with hx | ⟨h1, h2, h3⟩
    · exact .inl hx
    · refine .inr ⟨h1, h2, fun s' b hb hm => ?_⟩
      by_cases hs : s = s'
      · subst hs; rw [setB_eq] at hb; cases hb
      · rw [setB_ne _ _ hs] at hb; exact h3 s' b hb hm
  refine ⟨h.step (Tc := fun i => i = s) (fun _ h => h) rfl rfl rfl (Nat.le_refl _) (fun _ _ _ => rfl) (fun i hi => ⟨setB_ne _ _ (Ne.symm hi), fun _ => rfl⟩) ?_ ?_ ?_ ?_ ?_ ?_, hok, ?_⟩
  · rintro i rfl _
    exact .inl (setB_eq _ _ _)
  · rintro i b1 x rfl hb1
    rw [setB_eq] at hb1; cases hb1
  · rintro i b1 rfl hb1
    rw [setB_eq] at hb1; cases hb1
  · rintro _ _ i b1 rfl hb1
    rw [setB_eq] at hb1; cases hb1
  · rintro i i' b b' x rfl hb1
    rw [setB_eq] at hb1; cases hb1
  · intro i b b1 hi h1 h2
    rw [setB_ne _ _ (Ne.symm hi), h1] at h2
    exact (Option.some.inj h2).symm
  · intro b x hb hx
    have h1 := (h.bl s b hb).own hx
    refine .inr ⟨h1.1, h1.2, fun s' b' hb' hm hx' => ?_⟩
    by_cases hs : s = s'
    · subst hs; rw [setB_eq] at hb'; cases hb'
    · rw [setB_ne _ _ hs] at hb'
      exact hs (h.inj s s' b b' x hb hb' hx hx')

theorem op_slice_arr (h : Sim W0 A Gv N U g B ν a w) (t : TypeId) (x : Operand) (ho : o.op = .slice t x none none none) {n : Nat} {e : TypeId} (ht : P.underlying t = some (.array n e)) {k : Nat} (hk : sizeT P e = some k) (hn : n ≤ 16777216)
    {s : Nat} (hx : opnd g x = .e (.one (.ptr s 0))) {t' : TypeId} {r : Shs} {m : Nat} {xs : List (RowD r)} (hB : B s = some (.arr t' r m xs)) (hm : m = n) :
    Res P W0 A Gv N U g (setB B s none) (one (.c (.sl r) xs)) o a w := by
  subst hm
  obtain ⟨_, hv⟩ := (hx ▸ h.opnd x : RepTV w (okS W0 A Gv ν B w) ν B (.e (.one (.ptr s 0))) (a.eval x))
  obtain ⟨_, q, hν, hv⟩ := hv _ hB
  obtain ⟨q', css, h1, h2, h3, h4, h5⟩ := h.bl _ _ hB
  rw [h1] at hν
  simp only [Value.pointer.injEq, Option.some.injEq, Addr.mk.injEq, and_true] at hν
  subst hν
  obtain ⟨k1, k2, k3⟩ := h.kill s
  have hs := run_size (P := P) (w := w) hk
  refine ⟨_, .slice (some ⟨q', 0, none⟩) m m, w, ν, ?_, .inl rfl, k1, ?_, fun s' hs' => by simp [one, TV.sites, EV.sites, EV.cells, CV.sites] at hs'⟩
  · have e0 : (⟨q', 0, none⟩ : Addr).add 0 = ⟨q', 0, none⟩ := rfl
    simp [execOp, ho, hv, Instr.sliceAt, run_underlying ht, Instr.sureAddr, Instr.sliceBounds, hs, e0]
  · show RepC w _ (.sl r) xs _
    simp only [RepC]
    refine ⟨some ⟨q', 0, none⟩, m, css, by rw [h3], by rw [h3]; exact Nat.le_refl _, by unfold maxLen; omega, h4.imp fun x cs hx => RepR.move (fun _ _ => rfl) k2 r x cs hx, fun hp => ⟨_, rfl, k3 _ q' hB (by rw [h1]; rfl), rfl, fun j u hj => ?_⟩⟩
    rw [add_eq rfl, Nat.zero_add, cell_of_row w q' j _ t' (0, 0) h5]
    simpa using hj
end
end Go.Pi

/- Rows written from a place on: cleared, turned round; function values. -/
set_option linter.unusedVariables false
set_option linter.unusedSimpArgs false
namespace Go.Pi
open Go.RowKit

theorem isRev_mem {n : FuncId} {e : TypeId} {r : Shs} : ∀ {T : List (Nat × Ent)}, isRev n e r T = true → ∃ E, (n, E) ∈ T ∧ E.ps = [.rev e r]
  | [], h => nomatch h
  | (m, E) :: T, h => by
    unfold isRev at h
    rw [Bool.or_eq_true, Bool.and_eq_true] at h
    rcases h with ⟨h1, h2⟩ | h
    · have h1 := Nat.eq_of_beq_eq_true h1
      subst h1
      split at h2
      · rename_i e' r' hps
        rw [Bool.and_eq_true, decide_eq_true_eq] at h2
        have h3 := Nat.eq_of_beq_eq_true h2.1
        rw [← h3, ← h2.2] at hps
        exact ⟨E, by simp, hps⟩
      · cases h2
    · obtain ⟨E', h1, h2⟩ := isRev_mem h
      exact ⟨E', List.mem_cons_of_mem _ h1, h2⟩
section
variable {P : Program} {W0 : World} {A Gv : Nat → Prop} {N : Nat} {U : Nat → Prop} {g : Nat → TV} {B : Nat → Option Blk} {ν : Nat → Value} {a : Act} {w : World} {o : Oper}

/-- The end of a row of the call's own, as a value. -/
theorem sufOf_rep (h : Sim W0 A Gv N U g B ν a w) {v : CV} {u : Value} (hv : RepCV w (okS W0 A Gv ν B w) ν B v u) {s : Nat} {e : TypeId} {lo : Int} {r : Shs} {xs : List (RowD r)} (hs : sufOf B v = some (s, e, lo, ⟨r, xs⟩)) :
    B s = some (.row e r xs false) ∧ 0 ≤ lo ∧ lo ≤ (xs.length : Int) ∧ ∃ Ad c, ν s = .slice Ad xs.length c ∧ u = .slice (if c = lo.toNat then Ad else Ad.map (·.add (lo.toNat * r.size))) (xs.length - lo.toNat) (c - lo.toNat) := by
  unfold sufOf at hs
  split at hs
  · rename_i s'
    split at hs
    · rename_i e' r' xs' hB
      cases hs
      obtain ⟨_, hv⟩ := hv
      obtain ⟨_, rfl⟩ := hv _ hB
      obtain ⟨css, h1, h2, h3⟩ := h.bl _ _ hB
      obtain ⟨Ad, c, e1, e2, e3⟩ := own_isSlice h2
      refine ⟨hB, Int.le_refl 0, by omega, Ad, c, e1, ?_⟩
      rw [e1]
      have : (if c = (0 : Int).toNat then Ad else Ad.map (·.add ((0 : Int).toNat * r.size))) = Ad := by
        split
        · rfl
        · cases Ad with
          | none => rfl
          | some ad => simp [Addr.add]
      rw [this]
      simp
    · cases hs
  · rename_i s' n
    split at hs
    · rename_i e' r' xs' hB
      cases hs
      obtain ⟨_, hv⟩ := hv
      obtain ⟨_, r1, m, Ad, c, he, hn0, hnm, hν, hu⟩ := hv _ hB
      simp only [Blk.elems, Option.some.injEq, Prod.mk.injEq] at he
      obtain ⟨rfl, rfl⟩ := he
      exact ⟨hB, hn0, hnm, Ad, c, hν, hu⟩
    · cases hs
  · cases hs

theorem all2_rev {α β : Type} {R : α → β → Prop} : ∀ {l : List α} {m : List β}, All2 R l m → All2 R l.reverse m.reverse
  | [], [], _ => trivial
  | _ :: _, _ :: _, h => by
    rw [List.reverse_cons, List.reverse_cons]
    exact (all2_rev h.2).append ⟨h.1, trivial⟩
  | [], _ :: _, h => h.elim
  | _ :: _, [], h => h.elim
/-- A row of the call's own has other elements. -/
theorem Sim.reRow (h : Sim W0 A Gv N U g B ν a w) {s : Nat} {e : TypeId} {r : Shs} {xs xs' : List (RowD r)} (hB : B s = some (.row e r xs false)) (hl : xs'.length = xs.length) {css' : List (List Value)}
    (hA : All2 (fun x cs => RepR w (okS W0 A Gv ν B w) r x cs) xs' css') {q cap : Nat} {cur : Array Value} (hν : ν s = .slice (some ⟨q, 0, none⟩) xs.length cap) (hq : w.heap[q]? = some (.cells cur e (0, 0))) (h1 : xs.length ≤ cap) (h2 : cap ≤ maxLen)
    (h3 : cur.size = cap * r.size) : Sim W0 A Gv N U g (setB B s (some (.row e r xs' false))) ν a (w.setRow q (css'.flatten ++ cur.toList.drop (xs.length * r.size)).toArray) := by
  obtain ⟨css, g1, g2, g3⟩ := h.bl _ _ hB
  have hfl := flat_len hA
  rw [hl] at hfl
  have hcap : xs.length * r.size ≤ cap * r.size := Nat.mul_le_mul_right _ h1
  refine h.write (b1 := .row e r xs' false) hB rfl rfl ⟨rfl, by simp only [Blk.elems, hl]⟩ (q := q) (by rw [hν]; rfl) (grown_setRow w q _) (size_setRow w q _) (fun c hc => by cases hc) (fun ok1 B1 hk1 hk2 hk3 => ?_)
  have hA1 : All2 (fun x cs => RepR (w.setRow q (css'.flatten ++ cur.toList.drop (xs.length * r.size)).toArray) ok1 r x cs) xs' css' := hA.imp fun x cs hx => RepR.move hk2 hk1 r x cs hx
  refine ⟨css', hA1, ⟨by rw [hl]; exact hfl, .inr ⟨q, cap, _, by rw [hν, hl], Nat.zero_le _, setRow_heap w q _ _ e (0, 0) hq, by rw [hl]; exact h1, h2, ?_, ?_⟩⟩, g3⟩
  · simp only [List.size_toArray, List.length_append, List.length_drop, Array.length_toList, h3, hfl]
    omega
  · rw [hl]
    exact List.take_left' hfl

theorem drawn_sim (h : Sim W0 A Gv N U g B ν a w) (d : Nat) : Sim W0 A Gv N U g B ν a { w with drawn := d } := h.drew d

theorem setB_same {s : Nat} {b : Blk} (hB : B s = some b) : setB B s (some b) = B := by
  funext i
  by_cases hi : s = i
  · subst hi; rw [setB_eq, hB]
  · rw [setB_ne _ _ hi]
/-- The block of a row that is not empty. -/
theorem row_block (h : Sim W0 A Gv N U g B ν a w) {s : Nat} {e : TypeId} {r : Shs} {xs : List (RowD r)} (hB : B s = some (.row e r xs false)) (hp : 0 < xs.length) :
    ∃ q cap cur css, ν s = .slice (some ⟨q, 0, none⟩) xs.length cap ∧ w.heap[q]? = some (.cells cur e (0, 0)) ∧ xs.length ≤ cap ∧ cap ≤ maxLen ∧ cur.size = cap * r.size ∧ All2 (fun x cs => RepR w (okS W0 A Gv ν B w) r x cs) xs css ∧
      cur.toList = css.flatten ++ cur.toList.drop (xs.length * r.size) := by
  obtain ⟨css, g1, g2, g3⟩ := h.bl _ _ hB
  obtain ⟨hlen, hown⟩ := g2
  rcases hown with ⟨_, h0⟩ | ⟨q, cap, cur, h7, _, h8, h9, h10, h11, h12⟩
  · omega
  · refine ⟨q, cap, cur, css, h7, h8, h9, h10, h11, g1, ?_⟩
    conv => lhs; rw [← List.take_append_drop (xs.length * r.size) cur.toList]
    rw [h12]
theorem zeroCells_flat (z : Array Value) (n : Nat) (hz : 0 < z.size) : (Builtin.zeroCells z n).toList = (List.replicate n z.toList).flatten := by
  have := zeros_flat z.toList n (by simpa using hz)
  simp only [Array.toArray_toList, Array.length_toList] at this
  unfold Builtin.zeroCells
  rw [this]

theorem op_rev (h : Sim W0 A Gv N U g B ν a w) (c : Call) (ho : o.op = .call c) {f x : Operand} (hc : c.callee = .value f) (hargs : c.args.toList = [x]) {n : FuncId} (hfv : a.eval f = .func (.func n) #[] #[]) {v : CV} (hx : opnd g x = .e (.one v))
    {s : Nat} {e : TypeId} {lo : Int} {r : Shs} {xs : List (RowD r)} (hs : sufOf B v = some (s, e, lo, ⟨r, xs⟩)) (hthere : ∃ fn, P.funcs[n]? = some fn ∧ fn.body.isNone = false ∧ (fn.name == "runtime.NumGoroutine") = false) (hT : Turns P n e r) :
    Did P W0 A Gv N U g (setB B s (some (.row e r (xs.take lo.toNat ++ (xs.drop lo.toNat).reverse) false))) (.tup []) o a w := by
  have hv : RepCV w (okS W0 A Gv ν B w) ν B v (a.eval x) := (hx ▸ h.opnd x : RepTV w (okS W0 A Gv ν B w) ν B (.e (.one v)) (a.eval x))
  obtain ⟨hB, h0, h1, Ad, cc, hν, hu⟩ := sufOf_rep h hv hs
  refine ⟨fun s hs => (nomatch hs), fun next Q hk => ?_⟩
  obtain ⟨fn, hfn, hb, hnm⟩ := hthere
  have hrun : (execOp a.eval o).run P w = .ok (.enter n #[a.eval x]) w := by
    have h1 : fn.name ≠ "runtime.NumGoroutine" := by simpa using hnm
    obtain ⟨cd, hcd⟩ : ∃ cd, fn.body = some cd := Option.isSome_iff_exists.1 (by cases hbb : fn.body <;> simp_all)
    have harr : c.args.map a.eval = #[a.eval x] := by rw [← Array.toList_inj, Array.toList_map, hargs]; rfl
    simp [execOp, ho, resolve, hc, hfv, Deferred.ofValue, invoke, callFunc, hfn, h1, hcd, harr]
  unfold Oper.wp
  rw [hrun, Oper.upon_enter]
  by_cases hl : xs.length - lo.toNat = 0
  · have e1 : xs.take lo.toNat ++ (xs.drop lo.toNat).reverse = xs := by
      rw [List.drop_of_length_le (by omega), List.reverse_nil, List.append_nil, List.take_of_length_le (by omega)]
    have hcall := hT.2 w (cc - lo.toNat) (if cc = lo.toNat then Ad else Ad.map (·.add (lo.toNat * r.size)))
    rw [hl] at hu
    rw [hu]
    refine hcall.mono fun q w' hq => ?_
    obtain ⟨rfl, d, rfl⟩ := hq
    rw [e1, setB_same hB] at hk
    exact hk _ _ ν (h.drew d) ⟨[], rfl, trivial⟩
  · obtain ⟨q, cap, cur, css, k1, k2, k3, k4, k5, k6, k7⟩ := row_block h hB (by omega)
    rw [k1] at hν
    simp only [Value.slice.injEq, true_and] at hν
    obtain ⟨rfl, rfl⟩ := hν
    have hne : ¬ cap = lo.toNat := by omega
    rw [if_neg hne, Option.map_some, add_eq rfl, Nat.zero_add] at hu
    have hlens := rep_lens k6
    have e1 : css.flatten = (css.take lo.toNat).flatten ++ (css.drop lo.toNat).flatten := by rw [← List.flatten_append, List.take_append_drop]
    have e2 : (css.take lo.toNat).flatten.length = lo.toNat * r.size := by
      rw [flat_len (k6.take lo.toNat), List.length_take]; congr 1; omega
    have hcur : cur = ((css.take lo.toNat).flatten ++ (css.drop lo.toNat).flatten ++ cur.toList.drop (xs.length * r.size)).toArray := by
      rw [← e1, ← k7]
    have hq := k2
    rw [hcur] at hq
    have hcall := hT.1 w q (lo.toNat * r.size) (xs.length - lo.toNat) (cap - lo.toNat) e (css.take lo.toNat).flatten (cur.toList.drop (xs.length * r.size)) (css.drop lo.toNat) hq (by rw [List.length_drop, ← k6.len]) (fun l hl => hlens l (List.mem_of_mem_drop hl))
      (fun u hu => flat_ones (k6.drop lo.toNat) u hu) e2.symm (by have : maxLen = 9223372036854775807 := rfl; have := r.size_pos; omega) (by omega) (by omega)
    rw [hu]
    refine hcall.mono fun q' w' hq' => ?_
    obtain ⟨rfl, d, rfl⟩ := hq'
    have hA : All2 (fun x cs => RepR w (okS W0 A Gv ν B w) r x cs) (xs.take lo.toNat ++ (xs.drop lo.toNat).reverse) (css.take lo.toNat ++ (css.drop lo.toNat).reverse) := (k6.take _).append (all2_rev (k6.drop _))
    have hsim := h.reRow hB (by rw [List.length_append, List.length_take, List.length_reverse, List.length_drop]; omega) hA k1 k2 k3 k4 k5
    rw [List.flatten_append] at hsim
    exact hk _ _ ν (hsim.drew d) ⟨[], rfl, trivial⟩

theorem op_clo (h : Sim W0 A Gv N U g B ν a w) (f : FuncId) (first captured : Array Operand) (ho : o.op = .makeFunc (.func f) first captured) (hf : first.size = 0) {caps : List Cap} (hc : capsOf (captured.toList.map (opnd g)) = some caps) :
    Res P W0 A Gv N U g B (one (.clo f caps)) o a w := by
  have key : ∀ (l : List Operand) (cs : List Cap), capsOf (l.map (opnd g)) = some cs → All2 (RepCap w (okS W0 A Gv ν B w) ν B) cs (l.map a.eval) ∧ ∀ s ∈ cs.flatMap Cap.sites, U s := by
    intro l
    induction l with
    | nil => intro cs hcs; cases hcs; exact ⟨trivial, fun s hs => (nomatch hs)⟩
    | cons x l ih =>
      intro cs hcs
      simp only [List.map_cons, capsOf] at hcs
      cases h1 : capOf (opnd g x) with
      | none => rw [h1] at hcs; cases hcs
      | some c =>
        cases h2 : capsOf (l.map (opnd g)) with
        | none => rw [h1, h2] at hcs; cases hcs
        | some cs' =>
          rw [h1, h2] at hcs
          cases hcs
          obtain ⟨i1, i2⟩ := ih cs' h2
          have hx := h.opnd x
          have hu := h.opnd_sites x
          have : RepCap w (okS W0 A Gv ν B w) ν B c (a.eval x) ∧ ∀ s ∈ c.sites, U s := by
            unfold capOf at h1
            split at h1
            · rename_i s off e
              cases h1
              rw [e] at hx hu
              exact ⟨hx, fun s' hs' => hu s' (by simpa [TV.sites, EV.sites, EV.cells, CV.sites, Cap.sites] using hs')⟩
            · rename_i s x' e
              cases h1
              rw [e] at hx
              exact ⟨hx, fun s' hs' => nomatch hs'⟩
            · cases h1
          refine ⟨⟨this.1, i1⟩, fun s hs => ?_⟩
          rw [List.flatMap_cons, List.mem_append] at hs
          rcases hs with hs | hs
          · exact this.2 s hs
          · exact i2 s hs
  obtain ⟨k1, k2⟩ := key captured.toList caps hc
  have hfe : first = #[] := Array.eq_empty_of_size_eq_zero hf
  refine Res.same h (.func (.func f) #[] (captured.toList.map a.eval).toArray) ?_ ⟨_, rfl, k1⟩ fun s hs => ?_
  · have harr : captured.map a.eval = (captured.toList.map a.eval).toArray := by rw [← Array.toList_map]
    simp [execOp, ho, Instr.makeFunc, hfe, harr]
  · rw [one_sites] at hs
    exact k2 s (by simpa [CV.sites] using hs)
theorem op_clear (h : Sim W0 A Gv N U g B ν a w) (x : Operand) (t : TypeId) (ho : o.op = .call { callee := .builtin .clear, args := #[x], argTypes := #[t] }) {e : TypeId} (ht : elemT P t = some e) {v : CV} (hx : opnd g x = .e (.one v))
    {s : Nat} {e' : TypeId} {lo : Int} {r : Shs} {xs : List (RowD r)} (hs : sufOf B v = some (s, e', lo, ⟨r, xs⟩)) {z : List Value} (hz : zeroT P e = some z) (hn : sizeT P e = some r.size) (hzr : zeroIs r z = true) :
    Res P W0 A Gv N U g (setB B s (some (.row e' r (xs.take lo.toNat ++ List.replicate (xs.length - lo.toNat) r.dflt) false))) (.tup []) o a w := by
  have hv : RepCV w (okS W0 A Gv ν B w) ν B v (a.eval x) := (hx ▸ h.opnd x : RepTV w (okS W0 A Gv ν B w) ν B (.e (.one v)) (a.eval x))
  obtain ⟨hB, h0, h1, Ad, c, hν, hu⟩ := sufOf_rep h hv hs
  have hel := elemT_eq ht
  by_cases hl : xs.length - lo.toNat = 0
  · have e1 : xs.take lo.toNat ++ List.replicate (xs.length - lo.toNat) r.dflt = xs := by rw [hl, List.replicate_zero, List.append_nil, List.take_of_length_le (by omega)]
    rw [e1, setB_same hB]
    refine ⟨_, .tuple #[], w, ν, ?_, .inl rfl, h, ⟨[], rfl, trivial⟩, fun s' hs' => by cases hs'⟩
    rw [hl] at hu
    cases hAd : (if c = lo.toNat then Ad else Ad.map (·.add (lo.toNat * r.size))) with
    | none => rw [hAd] at hu; simp [execOp, ho, resolve, invoke, builtin, hu, Builtin.clear_, run_underlying hel]
    | some ad => rw [hAd] at hu; simp [execOp, ho, resolve, invoke, builtin, hu, Builtin.clear_, run_underlying hel]
  · obtain ⟨q, cap, cur, css, k1, k2, k3, k4, k5, k6, k7⟩ := row_block h hB (by omega)
    rw [k1] at hν
    simp only [Value.slice.injEq, true_and] at hν
    obtain ⟨rfl, rfl⟩ := hν
    have hne : ¬ cap = lo.toNat := by omega
    rw [if_neg hne, Option.map_some, add_eq rfl, Nat.zero_add] at hu
    obtain ⟨i, zv, z1, z2, z3, z4⟩ := zero_eq (w := w) hz
    have hzl : z.length = r.size := RepR.len (zeroIs_rep (w := w) (ok := fun _ => True) hzr)
    have hzs : zv.cells.size = r.size := by rw [← hzl, ← z3]; simp
    have hzo : ∀ u ∈ z, u.oneCell' = true := RepR.ones (zeroIs_rep (w := w) (ok := fun _ => True) (r := r) hzr)
    have hzc := zeroCells_flat zv.cells (xs.length - lo.toNat) (by rw [hzs]; exact r.size_pos)
    rw [z3] at hzc
    have hfl : (List.replicate (xs.length - lo.toNat) z).flatten.length = (xs.length - lo.toNat) * r.size := by
      rw [flat_size (n := r.size) (fun c hc => by rw [(List.mem_replicate.1 hc).2]; exact hzl), List.length_replicate]
    have hcap : xs.length * r.size ≤ cap * r.size := Nat.mul_le_mul_right _ k3
    have hsum : lo.toNat * r.size + (xs.length - lo.toNat) * r.size = xs.length * r.size := by rw [← Nat.add_mul]; congr 1; omega
    have hrun := run_storeCells_at P q (lo.toNat * r.size) e' (List.replicate (xs.length - lo.toNat) z).flatten 0 cur w k2 (by rw [hfl, k5]; omega) (fun u hu => by
      obtain ⟨l, hl1, hl2⟩ := List.mem_flatten.1 hu
      rw [(List.mem_replicate.1 hl1).2] at hl2
      exact hzo u hl2)
    simp only [Nat.add_zero] at hrun
    have hmem : cur.toList.take (lo.toNat * r.size) ++ (List.replicate (xs.length - lo.toNat) z).flatten ++ cur.toList.drop (lo.toNat * r.size + (List.replicate (xs.length - lo.toNat) z).flatten.length) =
        (css.take lo.toNat ++ List.replicate (xs.length - lo.toNat) z).flatten ++ cur.toList.drop (xs.length * r.size) := by
      rw [hfl, hsum, List.flatten_append]
      congr 2
      have e1 : css.flatten = (css.take lo.toNat).flatten ++ (css.drop lo.toNat).flatten := by rw [← List.flatten_append, List.take_append_drop]
      have e2 : (css.take lo.toNat).flatten.length = lo.toNat * r.size := by
        rw [flat_len (k6.take lo.toNat), List.length_take]; congr 1; omega
      conv => lhs; rw [k7, e1]
      rw [List.append_assoc]
      exact List.take_left' e2
    rw [hmem] at hrun
    have hA : All2 (fun x cs => RepR w (okS W0 A Gv ν B w) r x cs) (xs.take lo.toNat ++ List.replicate (xs.length - lo.toNat) r.dflt) (css.take lo.toNat ++ List.replicate (xs.length - lo.toNat) z) :=
      (k6.take _).append (All2.replicate _ (zeroIs_rep hzr))
    have hsim := h.reRow hB (by rw [List.length_append, List.length_take, List.length_replicate]; omega) hA k1 k2 k3 k4 k5
    refine ⟨_, .tuple #[], _, ν, ?_, .inl rfl, hsim, ⟨[], rfl, trivial⟩, fun s' hs' => by cases hs'⟩
    obtain ⟨mm, hm⟩ : ∃ mm, xs.length - lo.toNat = mm + 1 := ⟨xs.length - lo.toNat - 1, by omega⟩
    have hcl : (Builtin.clear_ #[t] o.type #[a.eval x]).run P w = .ok (.tuple #[]) (w.setRow q ((css.take lo.toNat ++ List.replicate (xs.length - lo.toNat) z).flatten ++ cur.toList.drop (xs.length * r.size)).toArray) := by
      rw [hu]
      rw [hm] at hrun hzc ⊢
      simp only [Builtin.clear_, List.getElem?_toArray, List.getElem?_cons_zero, run_underlying hel, Sem.run_bind, Result.andThen_ok, z4, hzc, hrun, Sem.run_pure]
    simp only [execOp, ho, resolve, invoke, builtin, Sem.run_bind, Sem.run_pure, Result.andThen_ok, List.map_toArray, List.map_cons, List.map_nil, hcl]
end
end Go.Pi

/- One operation: what the executor says of it holds. -/
set_option linter.unusedVariables false
set_option linter.unusedSimpArgs false
namespace Go.Pi
open Go.RowKit

section
variable (P : Program) (W0 : World) (A Gv : Nat → Prop) (N : Nat) (U : Nat → Prop) (g : Nat → TV) (B : Nat → Option Blk) (base : Nat) (o : Oper) (a : Act) (w : World)
abbrev U8 (U : Nat → Prop) (base : Nat) : Nat → Prop := fun i => U i ∨ ∃ j, j < 8 ∧ i = base + j
def Fits : Prep → Prop
  | .bad => True
  | .eff gd e => gd = true → Did P W0 A Gv N (U8 U base) g (updB e.w B) e.v o a w
  | .call n E x as wl => Holds P n E ∧ ∀ k r, E.fn k x = some r → Did P W0 A Gv N (U8 U base) g (updB (callEff base E wl r).w B) (callEff base E wl r).v o a w
end

theorem map_one {α β : Type} {f : α → β} {l : Array α} {y : β} (h : l.toList.map f = [y]) : ∃ x, l = #[x] ∧ f x = y := by
  obtain ⟨l⟩ := l
  cases l with
  | nil => cases h
  | cons x l =>
    cases l with
    | nil => exact ⟨x, rfl, by simpa using h⟩
    | cons _ _ => simp at h
theorem map_two {α β : Type} {f : α → β} {l : Array α} {y z : β} (h : l.toList.map f = [y, z]) : ∃ x x', l = #[x, x'] ∧ f x = y ∧ f x' = z := by
  obtain ⟨l⟩ := l
  cases l with
  | nil => cases h
  | cons x l =>
    cases l with
    | nil => simp at h
    | cons x' l =>
      cases l with
      | nil => exact ⟨x, x', rfl, by simpa using h⟩
      | cons _ _ => simp at h
theorem toList_one {α : Type} {l : Array α} {y : α} (h : l.toList = [y]) : l = #[y] := by
  obtain ⟨l⟩ := l
  simp at h
  subst h
  rfl
theorem toList_two {α : Type} {l : Array α} {y z : α} (h : l.toList = [y, z]) : l = #[y, z] := by
  obtain ⟨l⟩ := l
  simp at h
  subst h
  rfl

section
variable {P : Program} {W0 : World} {A Gv : Nat → Prop} {N : Nat} {U : Nat → Prop} {g : Nat → TV} {B : Nat → Option Blk} {ν : Nat → Value} {a : Act} {w : World} {o : Oper} {base : Nat}

theorem fits_same {tv : TV} (h : Res P W0 A Gv N U g B tv o a w) : Fits P W0 A Gv N U g B base o a w (eff1 tv) :=
  fun _ => (h.mono fun _ => .inl).did
theorem fits_sameG {gd : Bool} {tv : TV} (h : gd = true → Res P W0 A Gv N U g B tv o a w) : Fits P W0 A Gv N U g B base o a w (effG gd tv) :=
  fun hg => ((h hg).mono fun _ => .inl).did
theorem fits_upd {gd : Bool} {tv : TV} {wl : List (Nat × Option Blk)} (h : gd = true → Res P W0 A Gv N U g (updB wl B) tv o a w) : Fits P W0 A Gv N U g B base o a w (.eff gd { v := tv, w := wl }) :=
  fun hg => ((h hg).mono fun _ => .inl).did
theorem fits_new {gd : Bool} {tv : TV} {wl : List (Nat × Option Blk)} (h : gd = true → Res P W0 A Gv N (fun i => U i ∨ i = base) g (updB wl B) tv o a w) : Fits P W0 A Gv N U g B base o a w (.eff gd { v := tv, w := wl }) :=
  fun hg => ((h hg).mono fun s hs => hs.imp id fun e => ⟨0, by omega, e⟩).did

theorem storeV_res (h : Sim W0 A Gv N U g B ν a w) (t : TypeId) (p x : Operand) (ho : o.op = .store t p x) {q : CV} {v : EV} (hp : getC (opnd g p) = some q) (hx : getE (opnd g x) = some v) {wl : List (Nat × Option Blk)}
    (hs : storeV P B t q v = some wl) : Res P W0 A Gv N U g (updB wl B) (.tup []) o a w := by
  have hp := getC_eq hp
  have hx := getE_eq hx
  unfold storeV at hs
  split at hs
  · cases hs
  · rename_i n hn
    split at hs
    · rename_i hl
      split at hs
      · rename_i s off
        split at hs
        · rename_i bt cells hB
          split at hs
          · rename_i hfit
            cases hs
            rw [updB_cons, updB_nil]
            exact op_store_box h t p x ho hp hx hn hl hB hfit
          · cases hs
        · cases hs
      · rename_i s r i off
        split at hs
        · rename_i e r' xs hB
          split at hs
          · cases hs
          · rename_i hns
            split at hs
            · rename_i xs' hxs
              obtain ⟨rfl, rfl⟩ := castRows_eq hxs
              split at hs
              · rename_i hfit
                split at hs
                · rename_i y hy
                  cases hs
                  rw [updB_cons]
                  exact op_store_row h t p x ho hp hx hn hl hB hfit hy rfl hns
                · cases hs
              · cases hs
            · cases hs
        · rename_i e r' m xs hB
          split at hs
          · rename_i xs' hxs
            obtain ⟨rfl, rfl⟩ := castRows_eq hxs
            split at hs
            · rename_i hfit
              split at hs
              · rename_i y hy
                cases hs
                rw [updB_cons]
                exact op_store_arr h t p x ho hp hx hn hl hB hfit hy rfl
              · cases hs
            · cases hs
          · cases hs
        · cases hs
      · cases hs
    · cases hs

theorem nodupN_nodup : ∀ {l : List Nat}, nodupN l = true → l.Nodup
  | [], _ => List.nodup_nil
  | x :: l, h => by
    rw [nodupN, Bool.and_eq_true, List.all_eq_true] at h
    refine List.nodup_cons.2 ⟨fun hx => ?_, nodupN_nodup h.2⟩
    have := h.1 x hx
    rw [Nat.beq_refl] at this
    cases this
theorem findE_fits (h : Sim W0 A Gv N U g B ν a w) (c : Call) (ho : o.op = .call c) {f : Operand} (hc : c.callee = .value f) {n : FuncId} {cu : List Value} (hfv : a.eval f = .func (.func n) #[] cu.toArray) {ts : List TV}
    (hts : All2 (RepTV w (okS W0 A Gv ν B w) ν B) ts (c.args.toList.map a.eval ++ cu)) (hfree : ∀ j, j < 8 → ¬ U (base + j)) :
    ∀ (T : List (Nat × Ent)), (∀ p ∈ T, Holds P p.1 p.2) → Fits P W0 A Gv N U g B base o a w (findE B n ts T)
  | [], _ => trivial
  | (m, E) :: T, hT => by
    unfold findE
    cases hm : Nat.beq m n with
    | false => exact findE_fits h c ho hc hfv hts hfree T fun p hp => hT p (List.mem_cons_of_mem _ hp)
    | true =>
      have hmn := Nat.eq_of_beq_eq_true hm
      subst hmn
      simp only [cond]
      split
      · rename_i x hp
        cases hcnd : (nodupN (takenA E.ps ts) && (((takenA E.ps ts).all fun s => (lentA E.ps ts).all fun s' => !Nat.beq s s') && (Nat.ble E.rs.length 8 && (!(E.rs.any RK.leaks) || (boxA E.ps ts).isEmpty)))) with
        | true =>
          simp only [cond]
          have hE : Holds P m E := hT (m, E) (by simp)
          refine ⟨hE, fun k r hr => ?_⟩
          rw [Bool.and_eq_true, Bool.and_eq_true, Bool.and_eq_true] at hcnd
          obtain ⟨hnd, hdis, h8, hbx⟩ := hcnd
          have hbx : E.rs.any RK.leaks = true → boxA E.ps ts = [] := fun hl => by
            rw [hl] at hbx
            simpa using hbx
          have hnd := nodupN_nodup hnd
          have h8 := Nat.le_of_ble_eq_true h8
          have hdis : ∀ s ∈ takenA E.ps ts, s ∉ lentA E.ps ts := fun s hs hs' => by
            rw [List.all_eq_true] at hdis
            have h1 := hdis s hs
            rw [List.all_eq_true] at h1
            have h2 := h1 s hs'
            rw [Nat.beq_refl] at h2
            cases h2
          obtain ⟨d1, d2⟩ := op_call h c ho hc hfv hts hE hp hnd hdis hbx (base := base) (fun j hj => hfree j (by omega)) hr
          refine ⟨fun s hs => ?_, fun next Q hk => d2 next Q fun v w1 ν1 hs hr => hk v w1 ν1 (hs.mono fun i hi => ?_) hr⟩
          · rcases d1 s hs with h1 | ⟨j, h1, h2⟩
            · exact .inl h1
            · exact .inr ⟨j, by omega, h2⟩
          · rcases hi with h1 | ⟨j, h1, h2⟩
            · exact .inl h1
            · exact .inr ⟨j, by omega, h2⟩
        | false => trivial
      · exact findE_fits h c ho hc hfv hts hfree T fun p hp => hT p (List.mem_cons_of_mem _ hp)

end
end Go.Pi

/- One operation: what the executor says of it holds (2). -/
set_option linter.unusedVariables false
set_option linter.unusedSimpArgs false
namespace Go.Pi
open Go.RowKit

section
variable {P : Program} {W0 : World} {A Gv : Nat → Prop} {N : Nat} {U : Nat → Prop} {g : Nat → TV} {B : Nat → Option Blk} {ν : Nat → Value} {a : Act} {w : World} {o : Oper} {base : Nat}

theorem len_fits (h : Sim W0 A Gv N U g B ν a w) (x : Operand) (t : TypeId) (ho : o.op = .call { callee := .builtin .len, args := #[x], argTypes := #[t] }) {v : CV} (hx : opnd g x = .e (.one v)) (hsl : ∃ e, P.underlying t = some (.slice e)) :
    Fits P W0 A Gv N U g B base o a w (match (generalizing := false) v with
          | .val (.slice none 0 0) => eff1 (int1 .i64 0)
          | .pre s n => if (B s).isSome then effG (decide (0 ≤ n)) (int1 .i64 n) else .bad
          | v => match dataOf B v with
            | some ⟨_, xs⟩ => eff1 (int1 .i64 (xs.length : Nat))
            | none => .bad) := by
  obtain ⟨e, ht⟩ := hsl
  have hv : RepCV w (okS W0 A Gv ν B w) ν B v (a.eval x) := (hx ▸ h.opnd x : RepTV w (okS W0 A Gv ν B w) ν B (.e (.one v)) (a.eval x))
  split
  · exact fits_same (op_len_sl h x t ho ht (Ad := none) (n := 0) (c := 0) hv.1)
  · rename_i s n
    split
    · rename_i hB
      refine fits_sameG fun hg => ?_
      obtain ⟨b, hb⟩ := Option.isSome_iff_exists.1 hB
      obtain ⟨_, hv⟩ := hv
      obtain ⟨_, r, m, Ad, c, _, h0, _, _, hv⟩ := hv b hb
      have := op_len_sl h x t ho ht hv
      rwa [Int.toNat_of_nonneg h0] at this
    · trivial
  · split
    · rename_i r xs hd
      obtain ⟨Ad, c, css, h1, _⟩ := dataOf_rep h hv hd
      exact fits_same (op_len_sl h x t ho ht h1)
    · trivial

theorem prep_sound (h : Sim W0 A Gv N U g B ν a w) (T : List (Nat × Ent)) (hT : ∀ p ∈ T, Holds P p.1 p.2) (hfree : ∀ j, j < 8 → ¬ U (base + j)) :
    Fits P W0 A Gv N U g B base o a w (prep P T g B base o) := by
  have hb0 : ¬ U base := hfree 0 (by omega)
  unfold prep
  split
  -- move, assign
  · rename_i x ho
    split
    · trivial
    · exact fits_same (op_move h x (.inl ho))
  · rename_i x ho
    split
    · trivial
    · exact fits_same (op_move h x (.inr ho))
  · rename_i c x y ho
    split
    · rename_i t hc
      exact fits_same (op_pick h c x y ho hc)
    · trivial
  · rename_i t i ho
    split
    · rename_i l ht
      split
      · rename_i x hx
        exact fits_same (op_extract h t i ho ht hx)
      · trivial
    · trivial
  · rename_i op t x y t' ho
    split
    · rename_i q v hb
      refine fits_sameG fun hq => ?_
      subst hq
      exact op_bin h op t x y t' ho hb
    · trivial
  · rename_i op t x ho
    split
    · rename_i v hu
      exact fits_same (op_un h op t x ho hu)
    · trivial
  · rename_i src dst x ho
    split
    · rename_i d k k' n hs hd hx
      exact fits_same (op_conv_int h src dst x ho hs hd hx)
    · rename_i e v hs hd hx
      split
      · rename_i xs he hxs
        exact fits_same (op_conv_str h src dst x ho hs hd he hx hxs)
      · trivial
    · trivial
  · rename_i t ho
    split
    · rename_i z n e hz ht
      split
      · rename_i r hr
        split
        · rename_i hcnd
          refine fits_new fun _ => ?_
          rw [updB_cons, updB_nil]
          exact op_alloc_arr h t ho hz hcnd.2 hb0
        · trivial
      · trivial
    · rename_i z d _ hz ht
      split
      · rename_i h1
        refine fits_new fun _ => ?_
        rw [updB_cons, updB_nil]
        exact op_alloc_box h t ho hz h1 hb0
      · trivial
    · trivial
  · rename_i t x ho
    split
    · rename_i v hx
      refine fits_new fun _ => ?_
      rw [updB_cons, updB_nil]
      exact op_box h t x ho hx hb0
    · trivial
  · rename_i t p ho
    split
    · rename_i q hq
      split
      · rename_i l off hc
        split
        · rename_i v hv
          exact fits_same (op_load h t p ho hq hc hv)
        · trivial
      · trivial
    · trivial
  · rename_i t p x ho
    split
    · rename_i q v hq hv
      split
      · rename_i wl hs
        exact fits_upd fun _ => storeV_res h t p x ho hq hv hs
      · trivial
    · trivial
  · rename_i t x f ho
    split
    · rename_i q off ft hq hf
      split
      · rename_i q' ha
        split
        · rename_i hal
          exact fits_same (op_fieldAddr h t x f ho (getC_eq hq) hf ha hal)
        · trivial
      · trivial
    · trivial
  · rename_i t x f ho
    split
    · rename_i l off ft hx hf
      split
      · rename_i v hv
        exact fits_same (op_field h t x f ho hx hf hv)
      · trivial
    · trivial
  · rename_i t x i ho
    split
    · rename_i e r xs j ht hx hj
      split
      · rename_i hn
        exact fits_sameG fun hg => op_indexAddr_c h t x i ho ht (getC_eq hx) hj hn hg
      · trivial
    · rename_i e s j ht hx hj
      split
      · rename_i e' r xs fz hB
        split
        · rename_i hn
          exact fits_sameG fun hg => op_indexAddr_own h t x i ho ht (getC_eq hx) hB hj hn hg
        · trivial
      · trivial
    · rename_i e s n j ht hx hj
      split
      · rename_i e' r xs fz hB
        split
        · rename_i hn
          exact fits_sameG fun hg => op_indexAddr_pre h t x i ho ht (getC_eq hx) hB hj hn hg
        · trivial
      · trivial
    · rename_i e s n j ht hx hj
      split
      · rename_i e' r xs fz hB
        split
        · rename_i hn
          exact fits_sameG fun hg => op_indexAddr_suf h t x i ho ht (getC_eq hx) hB hj hn hg
        · trivial
      · trivial
    · rename_i n e s j ht hx hj
      split
      · rename_i t' r m xs hB
        split
        · rename_i hn
          exact fits_sameG fun hg => op_indexAddr_arr h t x i ho ht (getC_eq hx) hB hj hn.1 hn.2 hg
        · trivial
      · rename_i t' l hB
        split
        · rename_i z hn
          split
          · rename_i hb
            exact fits_same (op_indexAddr_box h t x i ho ht (getC_eq hx) hB hj hn hb)
          · trivial
        · trivial
      · trivial
    · trivial
  · rename_i t x i ho
    split
    · rename_i s j ht hx hj
      exact fits_sameG fun hg => op_index_str h t x i ho ht hx hj hg
    · trivial
  · rename_i t parts ho
    split
    · rename_i z fs hz ht
      split
      · rename_i l hl
        split
        · rename_i hcnd
          rw [Bool.and_eq_true] at hcnd
          exact fits_same (op_build h t parts ho hz hcnd.2 ht hcnd.1 hl)
        · trivial
      · trivial
    · trivial
  · rename_i t n parts ho
    split
    · rename_i e ht
      split
      · rename_i r z hr hz
        split
        · rename_i hcnd
          split
          · rename_i xs hx
            obtain ⟨h1, h2, h3, h4, h5⟩ := hcnd
            refine fits_new fun _ => ?_
            rw [updB_cons]
            exact op_buildSlice h t n parts ho ht hz h1 h2 h3 h4 h5 hx rfl (fun _ h => h) hb0
          · trivial
        · trivial
      · trivial
    · trivial
  · rename_i t l c ho
    split
    · rename_i e n m ht hn hm
      split
      · rename_i r z i hr hz hi
        split
        · rename_i hcnd
          refine fits_new fun hg => ?_
          rw [updB_cons, updB_nil]
          exact op_makeSlice h t l c ho ht hn hm hz hi hcnd.1 hcnd.2.1 hcnd.2.2 hg hb0
        · trivial
      · trivial
    · trivial
  · rename_i t x lo hi ho
    split
    · rename_i s l r ht hx hl hr
      exact fits_sameG fun hg => op_slice_str h t x lo hi ho ht hx hl hr hg
    · rename_i e v l r ht hx hl hr
      split
      · rename_i s
        have hlo : lo = none := by
          unfold optI at hl
          split at hl
          · rfl
          · split at hl <;> simp at hl
        subst hlo
        split
        · rename_i e' r' xs fz hB
          split
          · rename_i j
            split
            · rename_i hn
              obtain ⟨n, hn⟩ := Option.isSome_iff_exists.1 hn
              refine fits_sameG fun hg => ?_
              simp only [Bool.and_eq_true, decide_eq_true_eq] at hg
              exact op_slice_own h t x hi ho ht hn hx hB hr hg.1 hg.2
            · trivial
          · trivial
        · trivial
      · rename_i s l'
        split
        · rename_i e' r' xs fz hB
          split
          · split
            · rename_i hn
              have hhi : hi = none := by
                unfold optI at hr
                split at hr
                · rfl
                · split at hr <;> simp at hr
              subst hhi
              refine fits_sameG fun hg => ?_
              simp only [Bool.and_eq_true, decide_eq_true_eq] at hg
              exact op_slice_suf h t x lo ho ht hx hB hn hl hg.1 hg.2
            · trivial
          · rename_i hh
            split
            · rename_i hn
              refine fits_upd fun hg => ?_
              have hd : dataOf B (.own s) = some ⟨r', xs⟩ := by simp [dataOf, hB]
              exact op_slice_data h t x lo hi ho ht hn hx hd hl hr hg
            · trivial
        · trivial
      · rename_i s m
        have hlo : lo = none := by
          unfold optI at hl
          split at hl
          · rfl
          · split at hl <;> simp at hl
        subst hlo
        split
        · rename_i j
          split
          · rename_i hn
            rw [Bool.and_eq_true] at hn
            obtain ⟨n, hn1⟩ := Option.isSome_iff_exists.1 hn.1
            refine fits_sameG fun hg => ?_
            simp only [Bool.and_eq_true, decide_eq_true_eq] at hg
            exact op_slice_pre h t x hi ho ht hn1 hx hn.2 hr hg.1 hg.2
          · trivial
        · trivial
      · split
        · rename_i r' xs hd
          split
          · rename_i hn
            refine fits_upd fun hg => ?_
            exact op_slice_data h t x lo hi ho ht hn hx hd hl hr hg
          · trivial
        · trivial
    · rename_i n e s ht hx hl hr
      split
      · rename_i t' r m xs hB
        split
        · rename_i hcnd
          obtain ⟨k, hk⟩ := Option.isSome_iff_exists.1 hcnd.1
          have hnone : ∀ q : Option Operand, optI g q = some none → q = none := by
            intro q hq
            unfold optI at hq
            split at hq
            · rfl
            · split at hq <;> simp at hq
          obtain rfl := hnone lo hl
          obtain rfl := hnone hi hr
          refine fits_upd fun _ => ?_
          rw [updB_cons, updB_nil]
          exact op_slice_arr h t x ho ht hk hcnd.2.2 hx hB hcnd.2.1
        · trivial
      · trivial
    · trivial
  · rename_i c ho
    obtain ⟨callee, args, ats⟩ := c
    dsimp only
    split
    · split
      · rename_i s t hx ht
        obtain ⟨x, rfl, hx1⟩ := map_one hx
        obtain rfl := toList_one ht
        split
        · rename_i hs
          exact fits_same (op_len_str h x t ho hs hx1)
        · trivial
      · rename_i v t _ hx ht
        obtain ⟨x, rfl, hx1⟩ := map_one hx
        obtain rfl := toList_one ht
        split
        · rename_i hs
          rw [if_pos rfl]
          exact len_fits h x t ho hx1 ⟨_, hs⟩
        · trivial
      · trivial
    · split
      · rename_i l k x hl hk
        split
        · rename_i m hm
          exact fits_same (op_max h args ats ho hl hk hm)
        · trivial
      · trivial
    · split
      · rename_i l k x hl hk
        split
        · rename_i m hm
          exact fits_same (op_min h args ats ho hl hk hm)
        · trivial
      · trivial
    · split
      · rename_i dv v t u hx ht
        obtain ⟨d, x, rfl, hd, hx1⟩ := map_two hx
        obtain rfl := toList_two ht
        split
        · trivial
        · rename_i e he
          split
          · trivial
          · rename_i i hi
            split
            · rename_i htu
              subst htu
              split
              · trivial
              · rename_i r ys hdat
                split
                · rename_i hcnd
                  obtain ⟨h1, h2, h3⟩ := hcnd
                  split
                  · refine fits_new fun hg => ?_
                    rw [updB_cons, updB_nil]
                    exact op_append_nil h d x t ho he hi hd hx1 hdat h1 h2 h3 hg hb0
                  · split
                    · rename_i s r' xs hbase
                      split
                      · rename_i xs' hxs
                        obtain ⟨rfl, rfl⟩ := castRows_eq hxs
                        split
                        · rename_i hcnd
                          refine fits_new fun hg => ?_
                          rw [updB_cons, updB_cons, updB_nil]
                          exact op_append_own h d x t ho he hi hd hbase hcnd.1 hx1 hdat h1 h2 h3 hg hb0
                        · trivial
                      · trivial
                    · trivial
                · trivial
            · trivial
      · trivial
    · split
      · rename_i s v t u hx ht
        obtain ⟨d, x, rfl, hd, hx1⟩ := map_two hx
        obtain rfl := toList_two ht
        split
        · rename_i e e' r xs r' ys he hB hdat
          split
          · rename_i ys' hys
            obtain ⟨rfl, rfl⟩ := castRows_eq hys
            split
            · rename_i hcnd
              obtain ⟨h1, h2, h3, h4⟩ := hcnd
              refine fits_upd fun _ => ?_
              rw [updB_cons, updB_nil]
              exact op_copy h d x t u ho he hd hB hx1 hdat h1 h2 h4
            · trivial
          · trivial
        · trivial
      · trivial
    · split
      · rename_i v t hx ht
        obtain ⟨x, rfl, hx1⟩ := map_one hx
        obtain rfl := toList_one ht
        split
        · rename_i e he
          split
          · rename_i s e' lo r xs z hs hz
            split
            · rename_i hcnd
              obtain ⟨h1, h2, h3⟩ := hcnd
              refine fits_upd fun _ => ?_
              rw [updB_cons, updB_nil]
              exact op_clear h x t ho he hx1 hs hz h1 h2
            · trivial
          · trivial
        · trivial
      · trivial
    · rename_i f
      split
      · rename_i q hq
        have hf : opnd g f = .e (.one (.clo q.1 q.2)) := by
          unfold cloOf at hq
          split at hq
          · rename_i e; cases hq; exact e
          · cases hq
        obtain ⟨cu, hfv, hcaps⟩ := (hf ▸ h.opnd f : RepTV w (okS W0 A Gv ν B w) ν B (.e (.one (.clo q.1 q.2))) (a.eval f))
        exact findE_fits h _ ho rfl hfv ((opnds_all h _).append (caps_tv hcaps)) hfree T hT
      · split
        · rename_i n hn
          have hfv := funOf_rep hn (h.opnd f)
          have plain : ∀ ts, args.toList.map (opnd g) = ts → Fits P W0 A Gv N U g B base o a w (findE B n ts T) := fun ts hts => by
            subst hts
            exact findE_fits h _ ho rfl (cu := []) hfv (by rw [List.append_nil]; exact opnds_all h _) hfree T hT
          split
          · rename_i v hx
            split
            · rename_i s e lo r xs hs
              cases hrev : isRev n e r T with
              | false => exact plain _ hx
              | true =>
                obtain ⟨E, hE, hps⟩ := isRev_mem hrev
                have hH := hT (n, E) hE
                obtain ⟨x, hargs, hx1⟩ : ∃ x, args.toList = [x] ∧ opnd g x = .e (.one v) := by
                  cases hl : args.toList with
                  | nil => rw [hl] at hx; cases hx
                  | cons x l =>
                    rw [hl] at hx
                    cases l with
                    | nil => simp only [List.map_cons, List.map_nil, List.cons.injEq, and_true] at hx; exact ⟨x, rfl, hx⟩
                    | cons _ _ => simp at hx
                have hd := op_rev h _ ho rfl hargs hfv hx1 hs hH.there (hH.turn e r hps)
                intro _
                rw [updB_cons, updB_nil]
                obtain ⟨d1, d2⟩ := hd
                exact ⟨fun s hs => .inl (d1 s hs), fun next Q hk => d2 next Q fun v w1 ν1 hs hr => hk v w1 ν1 (hs.mono fun i hi => .inl hi) hr⟩
            · exact plain _ hx
          · exact plain _ rfl
        · trivial
    · trivial
  · rename_i f first captured ho
    split
    · rename_i hf
      split
      · rename_i caps hc
        exact fits_same (op_clo h f first captured ho hf hc)
      · trivial
    · trivial
  · trivial

end
end Go.Pi

/- The executor: regions, code, loops, functions. -/
set_option linter.unusedVariables false
set_option linter.unusedSimpArgs false
namespace Go.Pi
open Go.RowKit

structure St where
  g : List (Nat × TV)
  b : List (Nat × Option Blk)
  nx : Nat
def gOf (l : List (Nat × TV)) : Nat → TV := fun i => match lk l i with
  | some v => v
  | none => .dead
def bOf (l : List (Nat × Option Blk)) : Nat → Option Blk := fun i => match lk l i with
  | some v => v
  | none => none
def bindO {α β : Type} : Option α → (α → Option β) → Option β
  | none, _ => none
  | some x, f => f x

inductive Ex : Type where
  | norm
  | exit (id : Nat)
  | ret

/-- What one operation of a region did. -/
structure Log where
  dst : Option Nat
  v : TV
  w : List (Nat × Option Blk)
  rd : List Nat := []
/-- The sites that an operation's operands name. -/
def rdOf (g : Nat → TV) (o : Oper) : List Nat := o.op.operands.toList.flatMap fun x => (opnd g x).sites
def putG (g : List (Nat × TV)) (d : Option Nat) (v : TV) : List (Nat × TV) := match d with
  | some d => (d, v) :: g
  | none => g

section
variable {R : Type}

/-- One operation, its guard aside. -/
def op1 (P : Program) (T : List (Nat × Ent)) (N k base : Nat) (o : Oper) (g : List (Nat × TV)) (b : List (Nat × Option Blk)) (K : List (Nat × TV) → List (Nat × Option Blk) → Log → Option R) : Option R :=
  match o.dst with
  | some d => cond (Nat.blt d N) (go (some d)) none
  | none => go none
where go (d : Option Nat) : Option R := match prep P T (gOf g) (bOf b) base o with
  | .bad => none
  | .eff gd e => cond gd (K (putG g d e.v) (e.w ++ b) ⟨d, e.v, e.w, rdOf (gOf g) o⟩) none
  | .call _ E x _ wl => bindO (E.fn k x) fun r => K (putG g d (callEff base E wl r).v) ((callEff base E wl r).w ++ b) ⟨d, (callEff base E wl r).v, (callEff base E wl r).w, rdOf (gOf g) o⟩
/-- The slot that a guard looks at. -/
def guardT (ops : Array Oper) (j : Nat) : Option Nat := (ops[j]?).bind (·.dst)
def skip1 (N : Nat) (o : Oper) (g : List (Nat × TV)) (b : List (Nat × Option Blk)) (K : List (Nat × TV) → List (Nat × Option Blk) → Log → Option R) : Option R :=
  match o.dst with
  | some d => cond (Nat.blt d N) (K (putG g (some d) (.tup [])) b ⟨some d, .tup [], [], []⟩) none
  | none => K g b ⟨none, .tup [], [], []⟩
def opG (P : Program) (T : List (Nat × Ent)) (N k base : Nat) (ops : Array Oper) (o : Oper) (g : List (Nat × TV)) (b : List (Nat × Option Blk)) (K : List (Nat × TV) → List (Nat × Option Blk) → Log → Option R) : Option R :=
  match o.guard with
  | none => op1 P T N k base o g b K
  | some (j, want) => match guardT ops j with
    | none => none
    | some t => match gOf g t with
      | .e (.one (.c .bool x)) => match want with
        | true => cond x (op1 P T N k base o ((t, bool1 true) :: g) b K) (skip1 N o ((t, bool1 false) :: g) b K)
        | false => cond x (skip1 N o ((t, bool1 true) :: g) b K) (op1 P T N k base o ((t, bool1 false) :: g) b K)
      | .tup [] => skip1 N o g b K
      | _ => none
def opsK (P : Program) (T : List (Nat × Ent)) (N k : Nat) (ops : Array Oper) : List Oper → Nat → List (Nat × TV) → List (Nat × Option Blk) → List Log → (List (Nat × TV) → List (Nat × Option Blk) → List Log → Option R) → Option R
  | [], _, g, b, lg, K => K g b lg
  | o :: l, base, g, b, lg, K => opG P T N k base ops o g b fun g' b' lo => opsK P T N k ops l (base + 8) g' b' (lo :: lg) K
end

/-! drawn regions: what is not bound by the order stands apart -/
def pureOp (o : Oper) : Bool := match o.op with
  | .move _ | .assign _ | .pick _ _ _ | .extract _ _ | .binOp _ _ _ _ _ | .unOp _ _ _ | .field _ _ _ | .index _ _ _ | .build _ _ => true
  | _ => false
def maskOf (M : List Nat) (o : Oper) : Nat := o.after.toList.foldr (fun e s => if Region.binds .any e then s ||| (2 ^ e.on ||| (M.getD e.on 0)) else s) 0
def masks : List Oper → List Nat → List Nat
  | [], M => M
  | o :: l, M => masks l (M ++ [maskOf M o])
/-- Looked at by an operation: operands, the guard's slot. -/
def looks (ops : Array Oper) (o : Oper) : List Nat := (o.op.operands.toList.filterMap fun | .tmp t => some t | _ => none) ++
  (match o.guard with
   | some (j, _) => (guardT ops j).toList
   | none => [])
def keysW (w : List (Nat × Option Blk)) : List Nat := w.map (·.1)
def disj (l m : List Nat) : Bool := l.all fun x => m.all fun y => !Nat.beq x y
def apart1 (ops : Array Oper) (o o' : Oper) (lg lg' : Log) : Bool :=
  (match lg.dst with
   | some d => !(looks ops o').contains d && lg'.dst != some d
   | none => true) &&
  (match lg'.dst with
   | some d => !(looks ops o).contains d
   | none => true) && (disj (keysW lg.w) lg'.rd || pureOp o') && (disj (keysW lg'.w) lg.rd || pureOp o) && disj (keysW lg.w) (keysW lg'.w)
/-- All pairs. l: (operation, its log, its mask), in text order, with their places. -/
def apartAll (ops : Array Oper) : List (Nat × Oper × Log × Nat) → Bool
  | [] => true
  | (i, o, lg, _) :: l => l.all (fun q => Nat.testBit q.2.2.2 i || apart1 ops o q.2.1 lg q.2.2.1) && apartAll ops l
def numbered {α : Type} : Nat → List α → List (Nat × α)
  | _, [] => []
  | n, x :: l => (n, x) :: numbered (n + 1) l
def zip3 : List Oper → List Log → List Nat → List (Oper × Log × Nat)
  | o :: l, x :: m, n :: r => (o, x, n) :: zip3 l m r
  | _, _, _ => []
def drawOk (ops : Array Oper) (lg : List Log) : Bool :=
  let M := masks ops.toList []
  (numbered 0 ops.toList).all (fun q => M.getD q.1 0 == maskOf M q.2 && q.2.after.toList.all fun e => !Region.binds .any e || Nat.blt e.on q.1) &&
    apartAll ops (numbered 0 (zip3 ops.toList lg M))

/-! loops: what a state holds, its data aside -/
inductive CK : Type where
  | val (v : Value)
  | c (s : Sh)
  | own (s : Nat)
  | pre (s : Nat)
  | ptr (s off : Nat)
  | rptr (s : Nat) (r : Shs) (off : Nat)
  | eptr (r : Shs) (off : Nat)
  | suf (s : Nat)
  | clo (f : FuncId) (ks : List CapK)
def CK.D : CK → Type
  | .val _ | .own _ | .ptr _ _ => Unit
  | .c s => CellD s
  | .pre _ | .rptr _ _ _ | .suf _ => Int
  | .eptr r _ => List (RowD r) × Int
  | .clo _ ks => CapsD ks
def CsD : List CK → Type
  | [] => Unit
  | k :: l => k.D × CsD l
inductive EK : Type where
  | one (c : CK)
  | agg (l : List CK)
def EK.D : EK → Type
  | .one c => c.D
  | .agg l => CsD l
inductive BK : Type where
  | box (t : TypeId) (l : List CK)
  | row (e : TypeId) (r : Shs) (fz : Bool)
  | arr (t : TypeId) (r : Shs) (n : Nat)
def BK.D : BK → Type
  | .box _ l => CsD l
  | .row _ r _ => List (RowD r)
  | .arr _ r _ => List (RowD r)
structure Sk where
  nx : Nat
  ts : List (Nat × EK)
  bs : List (Nat × BK)
def TsD : List (Nat × EK) → Type
  | [] => Unit
  | (_, k) :: l => k.D × TsD l
def BsD : List (Nat × BK) → Type
  | [] => Unit
  | (_, k) :: l => k.D × BsD l
abbrev Sk.D (sk : Sk) : Type := TsD sk.ts × BsD sk.bs

def capsMk : (ks : List CapK) → CapsD ks → List Cap
  | [], _ => []
  | .dat s :: ks, x => .dat s x.1 :: capsMk ks x.2
  | .ref r :: ks, x => .ref r x.1 :: capsMk ks x.2
def CK.mk : (k : CK) → k.D → CV
  | .val v, _ => .val v
  | .c s, x => .c s x
  | .own s, _ => .own s
  | .pre s, n => .pre s n
  | .ptr s off, _ => .ptr s off
  | .rptr s r off, i => .rptr s r i off
  | .eptr r off, x => .eptr r x.1 x.2 off
  | .suf s, n => .suf s n
  | .clo f ks, x => .clo f (capsMk ks x)
def csMk : (l : List CK) → CsD l → List CV
  | [], _ => []
  | k :: l, x => k.mk x.1 :: csMk l x.2
def EK.mk : (k : EK) → k.D → EV
  | .one c, x => .one (c.mk x)
  | .agg l, x => .agg (csMk l x)
def BK.mk : (k : BK) → k.D → Blk
  | .box t l, x => .box t (csMk l x)
  | .row e r fz, x => .row e r x fz
  | .arr t r n, x => .arr t r n x
def tsMk : (l : List (Nat × EK)) → TsD l → List (Nat × TV)
  | [], _ => []
  | (t, k) :: l, x => (t, .e (k.mk x.1)) :: tsMk l x.2
def bsMk : (l : List (Nat × BK)) → BsD l → List (Nat × Option Blk)
  | [], _ => []
  | (s, k) :: l, x => (s, some (k.mk x.1)) :: bsMk l x.2
def Sk.mk' (sk : Sk) (x : sk.D) : St := ⟨tsMk sk.ts x.1, bsMk sk.bs x.2, sk.nx⟩

def sameV : Value → Value → Bool
  | .slice none 0 0, .slice none 0 0 => true
  | .func (.func f) a b, .func (.func f') a' b' => Nat.beq f f' && (a.size == 0 && (b.size == 0 && (a'.size == 0 && b'.size == 0)))
  | _, _ => false

/-- Which of the state's sites stands for which of the skeleton's. -/
def pairC : CK → CV → List (Nat × Nat)
  | .own s, .own s' | .pre s, .pre s' _ | .ptr s _, .ptr s' _ | .rptr s _ _, .rptr s' _ _ _ | .suf s, .suf s' _ => [(s, s')]
  | _, _ => []
def pairCs : List CK → List CV → List (Nat × Nat)
  | k :: l, v :: m => pairC k v ++ pairCs l m
  | _, _ => []
def pairE : EK → TV → List (Nat × Nat)
  | .one k, .e (.one v) => pairC k v
  | .agg l, .e (.agg m) => pairCs l m
  | _, _ => []
def pairTs (g : Nat → TV) : List (Nat × EK) → List (Nat × Nat)
  | [] => []
  | (t, k) :: l => pairE k (g t) ++ pairTs g l
def rho (pr : List (Nat × Nat)) (i : Nat) : Nat := match lk pr i with
  | some s => s
  | none => i
def pairBs (b : Nat → Option Blk) : List (Nat × BK) → List (Nat × Nat) → List (Nat × Nat)
  | [], pr => pr
  | (s, k) :: l, pr => pairBs b l (match k, b (rho pr s) with
    | .box _ l, some (.box _ m) => pr ++ pairCs l m
    | _, _ => pr)

def takeCap : (k : CapK) → Cap → Option k.D
  | .dat s, c => match c with
    | .dat s' x => castD s' s x
    | _ => none
  | .ref r, c => match c with
    | .ref r' x => match castRows r' r [x] with
      | some ys => some (gd r.dflt ys 0)
      | none => none
    | _ => none
def takeCaps : (ks : List CapK) → List Cap → Option (CapsD ks)
  | [], l => match l with
    | [] => some ()
    | _ :: _ => none
  | k :: ks, l => match l with
    | [] => none
    | c :: l => match takeCap k c with
      | none => none
      | some x => match takeCaps ks l with
        | none => none
        | some y => some (x, y)
section
variable (ρ : Nat → Nat)
def takeC : (k : CK) → CV → Option k.D
  | .val v, .val v' => cond (sameV v v') (some ()) none
  | .c s, .c s' x => castD s' s x
  | .own s, .own s' => cond (Nat.beq (ρ s) s') (some ()) none
  | .pre s, .pre s' n => cond (Nat.beq (ρ s) s') (some n) none
  | .ptr s off, .ptr s' off' => cond (Nat.beq (ρ s) s' && Nat.beq off off') (some ()) none
  | .rptr s r off, .rptr s' r' i off' => cond (Nat.beq (ρ s) s' && (Nat.beq off off' && decide (r = r'))) (some i) none
  | .eptr r off, .eptr r' xs i off' => cond (Nat.beq off off') (match castRows r' r xs with | some ys => some (ys, i) | none => none) none
  | .suf s, .suf s' n => cond (Nat.beq (ρ s) s') (some n) none
  | .clo f ks, .clo f' caps => cond (Nat.beq f f') (takeCaps ks caps) none
  | _, _ => none
def takeCs : (l : List CK) → List CV → Option (CsD l)
  | [], [] => some ()
  | k :: l, v :: m => match takeC ρ k v, takeCs l m with
    | some x, some y => some (x, y)
    | _, _ => none
  | _, _ => none
def takeE : (k : EK) → TV → Option k.D
  | .one k, .e (.one v) => takeC ρ k v
  | .agg l, .e (.agg m) => takeCs ρ l m
  | _, _ => none
def takeB : (k : BK) → Option Blk → Option k.D
  | .box t l, some (.box t' m) => cond (Nat.beq t t') (takeCs ρ l m) none
  | .row e r fz, some (.row e' r' xs fz') => cond (Nat.beq e e' && (fz == fz')) (castRows r' r xs) none
  | .arr t r n, some (.arr t' r' n' xs) => cond (Nat.beq t t' && Nat.beq n n') (castRows r' r xs) none
  | _, _ => none
def takeTs (g : Nat → TV) : (l : List (Nat × EK)) → Option (TsD l)
  | [] => some ()
  | (t, k) :: l => match takeE ρ k (g t), takeTs g l with
    | some x, some y => some (x, y)
    | _, _ => none
def takeBs (b : Nat → Option Blk) : (l : List (Nat × BK)) → Option (BsD l)
  | [] => some ()
  | (s, k) :: l => match takeB ρ k (b (ρ s)), takeBs b l with
    | some x, some y => some (x, y)
    | _, _ => none
end
def CK.lt (n : Nat) : CK → Bool
  | .own s | .pre s | .ptr s _ | .rptr s _ _ | .suf s => Nat.blt s n
  | _ => true
def EK.lt (n : Nat) : EK → Bool
  | .one c => c.lt n
  | .agg l => l.all (CK.lt n)
def BK.lt (n : Nat) : BK → Bool
  | .box _ l => l.all (CK.lt n)
  | _ => true
def Sk.ok (sk : Sk) : Bool := sk.ts.all (fun p => p.2.lt sk.nx) && sk.bs.all fun p => Nat.blt p.1 sk.nx && p.2.lt sk.nx
/-- A slot that holds nil, or a beginning of a row, where the skeleton has a row of the call's own. -/
def own1 (bs : List (Nat × BK)) (S : St) (t : Nat) (k : EK) : St := match k with
  | .one (.own s) => match gOf S.g t with
    | .e (.one (.val (.slice none 0 0))) => match lk bs s with
      | some (.row e r false) => ⟨(t, .e (.one (.own S.nx))) :: S.g, (S.nx, some (.row e r [] false)) :: S.b, S.nx + 1⟩
      | _ => S
    | .e (.one (.pre s' n)) => match bOf S.b s' with
      | some (.row e r xs false) => ⟨(t, .e (.one (.own S.nx))) :: S.g, (S.nx, some (.row e r (xs.take n.toNat) false)) :: (s', none) :: S.b, S.nx + 1⟩
      | _ => S
    | _ => S
  | _ => S
/-- A cell that the skeleton has as data; the rows that it leads to are written no more. -/
def fitC (B : Nat → Option Blk) (k : CK) (v : CV) : CV := match k with
  | .c s => match v with
    | .c s' x => .c s' x
    | v => match v.toC B s with
      | some x => .c s x
      | none => v
  | _ => v
def fitN (k : CK) (v : CV) : List Nat := match k with
  | .c _ => CV.rowSites v
  | _ => []
def fitCs (B : Nat → Option Blk) : List CK → List CV → List CV
  | k :: l, v :: m => fitC B k v :: fitCs B l m
  | _, m => m
def fitNs : List CK → List CV → List Nat
  | k :: l, v :: m => fitN k v ++ fitNs l m
  | _, _ => []
def fitE (B : Nat → Option Blk) (k : EK) (x : TV) : TV := match k, x with
  | .one c, .e (.one v) => .e (.one (fitC B c v))
  | .agg l, .e (.agg m) => .e (.agg (fitCs B l m))
  | _, x => x
def fitEn (k : EK) (x : TV) : List Nat := match k, x with
  | .one c, .e (.one v) => fitN c v
  | .agg l, .e (.agg m) => fitNs l m
  | _, _ => []
def fitS (S : St) (t : Nat) (k : EK) : St := ⟨(t, fitE (bOf S.b) k (gOf S.g t)) :: S.g, frz (bOf S.b) (fitEn k (gOf S.g t)) ++ S.b, S.nx⟩
def fits1 (bs : List (Nat × BK)) : List (Nat × EK) → St → St
  | [], S => S
  | p :: l, S => fits1 bs l (fitS (own1 bs S p.1 p.2) p.1 p.2)
def fitB1 (ρ : Nat → Nat) (S : St) (p : Nat × BK) : St := match p.2 with
  | .box _ l => match bOf S.b (ρ p.1) with
    | some (.box t m) => ⟨S.g, (ρ p.1, some (.box t (fitCs (bOf S.b) l m))) :: (frz (bOf S.b) (fitNs l m) ++ S.b), S.nx⟩
    | _ => S
  | _ => S
def fitBs (ρ : Nat → Nat) : List (Nat × BK) → St → St
  | [], S => S
  | p :: l, S => fitBs ρ l (fitB1 ρ S p)
def Sk.take0 (sk : Sk) (S : St) : Option sk.D :=
  let ρ := rho (pairBs (bOf S.b) sk.bs (pairTs (gOf S.g) sk.ts))
  cond (sk.ok && nodupN (sk.bs.map fun p => ρ p.1)) (match takeTs ρ (gOf S.g) sk.ts, takeBs ρ (bOf S.b) sk.bs with
    | some x, some y => some (x, y)
    | _, _ => none) none

def Sk.fit (sk : Sk) (S : St) : St :=
  let S := fits1 sk.bs sk.ts S
  fitBs (rho (pairBs (bOf S.b) sk.bs (pairTs (gOf S.g) sk.ts))) sk.bs S
def Sk.take (sk : Sk) (S : St) : Option sk.D := sk.take0 (sk.fit S)

structure LoopE (R : Type) where
  sk : Sk
  fn : Nat → sk.D → Option R
def lid : Code → Nat
  | .region id _ _ => id + 1
  | .seq a b => let n := lid a; cond (Nat.beq n 0) (lid b) n
  | .cond _ a b => let n := lid a; cond (Nat.beq n 0) (lid b) n
  | .block _ c | .loop c | .scope c => lid c
  | _ => 0

section
variable {R : Type}
def loopGo (L : List (Nat × LoopE R)) (id k : Nat) (S : St) : Option R := match lk L id with
  | some le => bindO (le.sk.take S) (le.fn k)
  | none => none
def seqK (f : Nat → St → Option R) (K : Nat → Ex → St → Option R) (k : Nat) (e : Ex) (S : St) : Option R := match e with
  | .norm => f k S
  | .exit i => K k (.exit i) S
  | .ret => K k .ret S
def blockK (id : Nat) (K : Nat → Ex → St → Option R) (k : Nat) (e : Ex) (S : St) : Option R := match e with
  | .exit i => cond (Nat.beq i id) (K k .norm S) (K k (.exit i) S)
  | .norm => K k .norm S
  | .ret => K k .ret S
def exec (P : Program) (T : List (Nat × Ent)) (N : Nat) (L : List (Nat × LoopE R)) : Code → Nat → St → (Nat → Ex → St → Option R) → Option R
  | .skip, k, S, K => K k .norm S
  | .region _ ops draw, k, S, K => opsK P T N k ops ops.toList S.nx S.g S.b [] fun g b lg =>
      cond (!draw || drawOk ops lg.reverse) (K k .norm ⟨g, b, S.nx + 8 * ops.size⟩) none
  | .seq a b, k, S, K => exec P T N L a k S (seqK (fun k S => exec P T N L b k S K) K)
  | .cond c x y, k, S, K => match opnd (gOf S.g) c with
      | .e (.one (.c .bool t)) => cond t (exec P T N L x k S K) (exec P T N L y k S K)
      | _ => none
  | .block id c, k, S, K => exec P T N L c k S (blockK id K)
  | .scope c, k, S, K => exec P T N L c k S K
  | .loop c, k, S, _ => loopGo L (lid c) k S
  | .exit id, k, S, K => K k (.exit id) S
  | .ret, k, S, K => K k .ret S
  | _, _, _, _ => none
/-- What a loop's body goes on with. -/
def loopK (L : List (Nat × LoopE R)) (id : Nat) (K : Nat → Ex → St → Option R) (k : Nat) (e : Ex) (S : St) : Option R := match e with
  | .norm => loopGo L id k S
  | .exit i => K k (.exit i) S
  | .ret => K k .ret S
/-- What is asked of the loops' functions. -/
def obl (P : Program) (T : List (Nat × Ent)) (N : Nat) (L : List (Nat × LoopE R)) : Code → (Nat → Ex → St → Option R) → Prop
  | .seq a b, K => obl P T N L a (seqK (fun k S => exec P T N L b k S K) K) ∧ obl P T N L b K
  | .cond _ x y, K => obl P T N L x K ∧ obl P T N L y K
  | .block id c, K => obl P T N L c (blockK id K)
  | .scope c, K => obl P T N L c K
  | .loop c, K => (∀ le, lk L (lid c) = some le → (∀ d, le.fn 0 d = none) ∧ ∀ k d, le.fn (k + 1) d = exec P T N L c k (le.sk.mk' d) (loopK L (lid c) K)) ∧ obl P T N L c (loopK L (lid c) K)
  | _, _ => True

/-! results -/
def resE (P : Program) (S : St) : ResultVar → Option EV
  | .tmp t => getE (gOf S.g t)
  | .cell q t => match getC (gOf S.g q) with
    | some p => match cellsAt (bOf S.b) p with
      | some (l, off) => partV P t l off
      | none => none
    | none => none
def resD1 (B : Nat → Option Blk) : (p : RK) → EV → Option (RowD p.row)
  | ⟨_, .one (.sl r), some e⟩, x => match x with
    | .one (.own s) => match B s with
      | some (.row e' r' xs false) => cond (Nat.beq e e') (castRows r' r xs) none
      | _ => none
    | .one (.pre s n) => match B s with
      | some (.row e' r' xs false) => cond (Nat.beq e e') (castRows r' r (xs.take n.toNat)) none
      | _ => none
    | .one (.val (.slice none 0 0)) => some ([] : List (RowD r))
    | _ => none
  | ⟨_, _, some _⟩, _ => none
  | ⟨agg, r, none⟩, x => match x with
    | .agg l => cond (RK.isAgg ⟨agg, r, none⟩) (packR B r l) none
    | .one v => cond (RK.isAgg ⟨agg, r, none⟩) none (packR B r [v])
def ownS : RK → EV → List Nat
  | ⟨_, _, some _⟩, .one (.own s) => [s]
  | ⟨_, _, some _⟩, .one (.pre s _) => [s]
  | _, _ => []
def datS : RK → EV → List Nat
  | ⟨_, _, none⟩, x => x.cells.flatMap CV.rowSites
  | _, _ => []
def resDs (B : Nat → Option Blk) : (rs : List RK) → List EV → Option (ResD rs)
  | [], [] => some ()
  | [p], [x] => resD1 B p x
  | p :: q :: l, x :: m => match resD1 B p x, resDs B (q :: l) m with
    | some y, some z => some (y, z)
    | _, _ => none
  | _, _ => none
def zipW {α : Type} (f : RK → EV → List α) : List RK → List EV → List α
  | p :: l, x :: m => f p x ++ zipW f l m
  | _, _ => []
def resEs (P : Program) (S : St) : List ResultVar → Option (List EV)
  | [] => some []
  | r :: l => match resE P S r, resEs P S l with
    | some x, some y => some (x :: y)
    | _, _ => none
def retK (P : Program) (rvs : List ResultVar) (rs : List RK) (_ : Nat) (e : Ex) (S : St) : Option (ResD rs) := match e with
  | .exit _ => none
  | _ => match resEs P S rvs with
    | some xs => cond (nodupN (zipW ownS rs xs) && (zipW ownS rs xs).all fun s => (zipW datS rs xs).all fun s' => !Nat.beq s s') (resDs (bOf S.b) rs xs) none
    | none => none

/-! where a function begins -/
def initG (t : Nat) : (ps : List PK) → ArgsD ps → List (Nat × TV)
  | [], _ => []
  | p :: ps, x => (t, g1 t p x.1) :: initG (t + 1) ps x.2
where g1 (t : Nat) : (p : PK) → p.D → TV
  | .data true r, x => .e (.agg (unpackR r x))
  | .data false (.one s), x => .e (.one (.c s x))
  | .data false (.cons _ _), _ => .dead
  | .take _ _, _ => .e (.one (.own t))
  | .fn f, _ => .e (.one (.val (.func (.func f) #[] #[])))
  | .clo f ks, x => .e (.one (.clo f (capsMk ks x)))
  | .ref r, x => .e (.one (.eptr r [x] 0 0))
  | .rev _ _, _ => .dead
def initB (t : Nat) : (ps : List PK) → ArgsD ps → List (Nat × Option Blk)
  | [], _ => []
  | p :: ps, x => b1 t p x.1 ++ initB (t + 1) ps x.2
where b1 (t : Nat) : (p : PK) → p.D → List (Nat × Option Blk)
  | .take e r, x => [(t, some (.row e r x false))]
  | _, _ => []
def init (ps : List PK) (x : ArgsD ps) : St := ⟨initG 0 ps x, initB 0 ps x, ps.length⟩
end
end Go.Pi

/- Regions in text order. -/
set_option linter.unusedVariables false
set_option linter.unusedSimpArgs false
namespace Go.Pi
open Go.RowKit

def putF (d : Option Nat) (v : TV) (g : Nat → TV) : Nat → TV := match d with
  | some d => fun i => cond (Nat.beq d i) v (g i)
  | none => g
theorem gOf_cons (d : Nat) (v : TV) (g : List (Nat × TV)) : gOf ((d, v) :: g) = fun i => cond (Nat.beq d i) v (gOf g i) := by
  funext i
  unfold gOf
  by_cases h : d = i
  · subst h; simp [lk_cons_eq]
  · simp [lk_cons_ne h, beq_ne h]
theorem gOf_put (g : List (Nat × TV)) (d : Option Nat) (v : TV) : gOf (putG g d v) = putF d v (gOf g) := by
  cases d with
  | none => rfl
  | some d => exact gOf_cons d v g
theorem bOf_app (w b : List (Nat × Option Blk)) : bOf (w ++ b) = updB w (bOf b) := by
  funext s
  unfold bOf updB
  rw [lk_append]
  cases lk w s <;> rfl
/-- A slot is told anew what it holds already. -/
theorem gOf_same {g : List (Nat × TV)} {t : Nat} {v : TV} (h : gOf g t = v) : gOf ((t, v) :: g) = gOf g := by
  rw [gOf_cons]
  funext i
  by_cases hi : t = i
  · subst hi; simp [h]
  · simp [beq_ne hi]

section
variable (P : Program) (T : List (Nat × Ent)) (N k base : Nat) (ops : Array Oper) (o : Oper) (g : Nat → TV) (B : Nat → Option Blk)
def Ran (v : TV) (wl : List (Nat × Option Blk)) : Prop :=
  prep P T g B base o = .eff true { v := v, w := wl } ∨ ∃ n E x as wl0 r, prep P T g B base o = .call n E x as wl0 ∧ E.fn k x = some r ∧ v = (callEff base E wl0 r).v ∧ wl = (callEff base E wl0 r).w
def Wanted : Prop := o.guard = none ∨ ∃ j want t, o.guard = some (j, want) ∧ guardT ops j = some t ∧ g t = bool1 want
def NotWanted : Prop := ∃ j want t, o.guard = some (j, want) ∧ guardT ops j = some t ∧ (g t = bool1 (!want) ∨ g t = .tup [])
def Step1 (lg : Log) : Prop := (∀ d, o.dst = some d → d < N) ∧ lg.dst = o.dst ∧
  ((Wanted ops o g ∧ Ran P T k base o g B lg.v lg.w ∧ lg.rd = rdOf g o) ∨ (NotWanted ops o g ∧ lg.v = .tup [] ∧ lg.w = []))
end

theorem bindO_some {α β : Type} {x : Option α} {f : α → Option β} {r : β} (h : bindO x f = some r) : ∃ y, x = some y ∧ f y = some r := by
  cases x with
  | none => cases h
  | some y => exact ⟨y, rfl, h⟩
theorem cond_none {α : Type} {c : Bool} {x : Option α} {r : α} (h : cond c x none = some r) : c = true ∧ x = some r := by
  cases c with
  | true => exact ⟨rfl, h⟩
  | false => cases h

section
variable {R : Type} {P : Program} {T : List (Nat × Ent)} {N k base : Nat} {ops : Array Oper} {o : Oper} {g : List (Nat × TV)} {b : List (Nat × Option Blk)} {K : List (Nat × TV) → List (Nat × Option Blk) → Log → Option R} {r : R}

theorem go_step {d : Option Nat} (h : op1.go P T k base o g b K d = some r) : ∃ v wl, Ran P T k base o (gOf g) (bOf b) v wl ∧ K (putG g d v) (wl ++ b) ⟨d, v, wl, rdOf (gOf g) o⟩ = some r := by
  unfold op1.go at h
  split at h
  · cases h
  · rename_i gd e hp
    obtain ⟨rfl, h⟩ := cond_none h
    exact ⟨_, _, .inl hp, h⟩
  · rename_i n E x as wl hp
    obtain ⟨y, h1, h2⟩ := bindO_some h
    exact ⟨_, _, .inr ⟨_, _, _, _, _, _, hp, h1, rfl, rfl⟩, h2⟩
theorem op1_step (h : op1 P T N k base o g b K = some r) : ∃ v wl, (∀ d, o.dst = some d → d < N) ∧ Ran P T k base o (gOf g) (bOf b) v wl ∧ K (putG g o.dst v) (wl ++ b) ⟨o.dst, v, wl, rdOf (gOf g) o⟩ = some r := by
  unfold op1 at h
  split at h
  · rename_i d hd
    obtain ⟨hl, h⟩ := cond_none h
    obtain ⟨v, wl, h1, h2⟩ := go_step h
    rw [hd]
    exact ⟨v, wl, fun d' e => by cases e; exact Nat.le_of_ble_eq_true hl, h1, h2⟩
  · rename_i hd
    obtain ⟨v, wl, h1, h2⟩ := go_step h
    rw [hd]
    exact ⟨v, wl, (fun d' e => nomatch e), h1, h2⟩
theorem skip1_step (h : skip1 N o g b K = some r) : (∀ d, o.dst = some d → d < N) ∧ K (putG g o.dst (.tup [])) ([] ++ b) ⟨o.dst, .tup [], [], []⟩ = some r := by
  unfold skip1 at h
  split at h
  · rename_i d hd
    obtain ⟨hl, h⟩ := cond_none h
    rw [hd]
    exact ⟨fun d' e => by cases e; exact Nat.le_of_ble_eq_true hl, h⟩
  · rename_i hd
    rw [hd]
    exact ⟨(fun d' e => nomatch e), h⟩

theorem opG_step (h : opG P T N k base ops o g b K = some r) : ∃ lg g' b', Step1 P T N k base ops o (gOf g) (bOf b) lg ∧ K g' b' lg = some r ∧ gOf g' = putF lg.dst lg.v (gOf g) ∧ bOf b' = updB lg.w (bOf b) := by
  have fin : ∀ (g0 : List (Nat × TV)) (lg : Log), gOf g0 = gOf g → lg.dst = o.dst → Step1 P T N k base ops o (gOf g) (bOf b) lg → K (putG g0 o.dst lg.v) (lg.w ++ b) lg = some r →
      ∃ lg g' b', Step1 P T N k base ops o (gOf g) (bOf b) lg ∧ K g' b' lg = some r ∧ gOf g' = putF lg.dst lg.v (gOf g) ∧ bOf b' = updB lg.w (bOf b) := by
    intro g0 lg h0 hd h1 h2
    exact ⟨lg, _, _, h1, h2, by rw [gOf_put, h0, hd], bOf_app _ _⟩
  have run : ∀ (g0 : List (Nat × TV)), gOf g0 = gOf g → Wanted ops o (gOf g) → op1 P T N k base o g0 b K = some r → ∃ lg g' b', Step1 P T N k base ops o (gOf g) (bOf b) lg ∧ K g' b' lg = some r ∧ gOf g' = putF lg.dst lg.v (gOf g) ∧ bOf b' = updB lg.w (bOf b) := by
    intro g0 h0 hw h
    obtain ⟨v, wl, h1, h2, h3⟩ := op1_step h
    rw [h0] at h2 h3
    exact fin g0 ⟨o.dst, v, wl, rdOf (gOf g) o⟩ h0 rfl ⟨h1, rfl, .inl ⟨hw, h2, rfl⟩⟩ h3
  have skp : ∀ (g0 : List (Nat × TV)), gOf g0 = gOf g → NotWanted ops o (gOf g) → skip1 N o g0 b K = some r → ∃ lg g' b', Step1 P T N k base ops o (gOf g) (bOf b) lg ∧ K g' b' lg = some r ∧ gOf g' = putF lg.dst lg.v (gOf g) ∧ bOf b' = updB lg.w (bOf b) := by
    intro g0 h0 hw h
    obtain ⟨h1, h3⟩ := skip1_step h
    exact fin g0 ⟨o.dst, .tup [], [], []⟩ h0 rfl ⟨h1, rfl, .inr ⟨hw, rfl, rfl⟩⟩ h3
  unfold opG at h
  split at h
  · rename_i hg
    exact run g rfl (.inl hg) h
  · rename_i j want hg
    split at h
    · cases h
    · rename_i t ht
      split at h
      · rename_i x hx
        split at h
        · cases x with
          | true => exact run _ (gOf_same hx) (.inr ⟨j, _, t, hg, ht, hx⟩) h
          | false => exact skp _ (gOf_same hx) ⟨j, _, t, hg, ht, .inl hx⟩ h
        · cases x with
          | true => exact skp _ (gOf_same hx) ⟨j, _, t, hg, ht, .inl hx⟩ h
          | false => exact run _ (gOf_same hx) (.inr ⟨j, _, t, hg, ht, hx⟩) h
      · rename_i hx
        exact skp g rfl ⟨j, want, t, hg, ht, .inr hx⟩ h
      · cases h
end

section
variable {P : Program} {W0 : World} {A Gv : Nat → Prop} {N : Nat} {U : Nat → Prop} {g : Nat → TV} {B : Nat → Option Blk} {ν : Nat → Value} {a : Act} {w : World} {o : Oper} {base k : Nat} {T : List (Nat × Ent)} {ops : Array Oper} {lg : Log}

theorem Sim.at (h : Sim W0 A Gv N U g B ν a w) {t : Nat} {x : Bool} (ht : g t = bool1 x) : a.tmps[t]? = some (.bool x) := by
  have := h.tm t
  rw [ht] at this
  have hv := rep_bool this
  rcases Nat.lt_or_ge t a.tmps.size with hl | hl
  · simpa [hl] using hv
  · simp [Array.getElem?_eq_none hl, undef] at hv
theorem Sim.notBool (h : Sim W0 A Gv N U g B ν a w) {t : Nat} (ht : g t = .tup []) : ∀ x, a.tmps[t]? ≠ some (.bool x) := by
  intro x hx
  have := h.tm t
  rw [ht] at this
  obtain ⟨vs, hv, _⟩ := this
  simp [hx] at hv
theorem wanted_true (h : Sim W0 A Gv N U g B ν a w) (hw : Wanted ops o g) : Region.wanted o (yielded ops a.tmps) = true := by
  unfold Region.wanted
  rcases hw with hw | ⟨j, want, t, h1, h2, h3⟩
  · simp [hw]
  · have : yielded ops a.tmps j = some want := by
      unfold yielded
      rw [show (ops[j]?).bind (·.dst) = some t from h2]
      simp [h.at h3]
    simp [h1, this]
theorem wanted_false (h : Sim W0 A Gv N U g B ν a w) (hw : NotWanted ops o g) : Region.wanted o (yielded ops a.tmps) = false := by
  unfold Region.wanted
  obtain ⟨j, want, t, h1, h2, h3⟩ := hw
  rcases h3 with h3 | h3
  · have : yielded ops a.tmps j = some (!want) := by
      unfold yielded
      rw [show (ops[j]?).bind (·.dst) = some t from h2]
      simp [h.at h3]
    simp [h1, this]
  · have : yielded ops a.tmps j = none := by
      unfold yielded
      rw [show (ops[j]?).bind (·.dst) = some t from h2]
      have hn := h.notBool h3
      split
      · rename_i b hb
        exact absurd hb (hn b)
      · rfl
    simp [h1, this]

theorem Ran.did (h : Sim W0 A Gv N U g B ν a w) (hT : ∀ p ∈ T, Holds P p.1 p.2) (hfree : ∀ j, j < 8 → ¬ U (base + j)) {v : TV} {wl : List (Nat × Option Blk)} (hr : Ran P T k base o g B v wl) :
    Did P W0 A Gv N (U8 U base) g (updB wl B) v o a w := by
  have hp := prep_sound (o := o) h T hT hfree
  rcases hr with hr | ⟨n, E, x, as, wl0, r, h1, h2, rfl, rfl⟩
  · rw [hr] at hp
    exact hp rfl
  · rw [h1] at hp
    exact hp.2 k r h2

theorem Sim.putO (h : Sim W0 A Gv N U g B ν a w) (d : Option Nat) (hd : ∀ x, d = some x → x < N) (tv : TV) (v : Value) (hv : RepTV w (okS W0 A Gv ν B w) ν B tv v) (hs : ∀ s ∈ tv.sites, U s) :
    Sim W0 A Gv N U (putF d tv g) B ν (a.put d v) w := by
  cases d with
  | none => exact h
  | some d => exact h.put d (hd d rfl) tv v hv hs

theorem Step1.sound (h : Sim W0 A Gv N U g B ν a w) (hT : ∀ p ∈ T, Holds P p.1 p.2) (hfree : ∀ j, j < 8 → ¬ U (base + j)) (hs : Step1 P T N k base ops o g B lg)
    (next : Act → World → Prop) (Q : Exit → Act → World → Prop) (hk : ∀ ν' a' w', Sim W0 A Gv N (U8 U base) (putF lg.dst lg.v g) (updB lg.w B) ν' a' w' → next a' w') :
    if Region.wanted o (yielded ops a.tmps) then o.wp P a w next Q ∨ (o.asks P a w ∧ LetsOut Q) else next (a.put o.dst undef) w := by
  obtain ⟨hN, hd, hs⟩ := hs
  rcases hs with ⟨hw, hr, _⟩ | ⟨hw, hv, hwl⟩
  · rw [wanted_true h hw, if_pos rfl]
    obtain ⟨h1, h2⟩ := hr.did h hT hfree
    refine .inl (h2 next Q fun v w1 ν1 h3 h4 => hk ν1 _ w1 ?_)
    rw [hd]
    exact h3.putO o.dst hN lg.v v h4 h1
  · rw [wanted_false h hw, if_neg (by decide)]
    refine hk ν _ w ?_
    rw [hd, hv, hwl, updB_nil]
    exact (h.mono fun _ => .inl).putO o.dst hN _ undef ⟨[], rfl, trivial⟩ (fun s hs => by simp [TV.sites] at hs)
end

section
variable {R : Type} {P : Program} {W0 : World} {A Gv : Nat → Prop} {N k : Nat} {T : List (Nat × Ent)} {ops : Array Oper} {Q : Exit → Act → World → Prop} {r : R}
  {K : List (Nat × TV) → List (Nat × Option Blk) → List Log → Option R}

theorem U8_lt {base : Nat} {i : Nat} (h : U8 (fun s => s < base) base i) : i < base + 8 := by
  rcases h with h | ⟨j, hj, rfl⟩
  · exact Nat.lt_of_lt_of_le h (Nat.le_add_right _ _)
  · omega

theorem opsK_text (hT : ∀ p ∈ T, Holds P p.1 p.2) : ∀ (l : List Oper) (i0 base : Nat) (g : List (Nat × TV)) (b : List (Nat × Option Blk)) (lg : List Log) (ν : Nat → Value) (a : Act) (w : World),
    l = ops.toList.drop i0 → opsK P T N k ops l base g b lg K = some r → Sim W0 A Gv N (fun s => s < base) (gOf g) (bOf b) ν a w →
    (∀ g' b' lg' ν' a' w', K g' b' lg' = some r → Sim W0 A Gv N (fun s => s < base + 8 * l.length) (gOf g') (bOf b') ν' a' w' → Q .normal a' w') →
    wpOps P ops Q (List.range' i0 l.length) a w
  | [], i0, base, g, b, lg, ν, a, w, hl, h, hs, hK => hK g b lg ν a w h hs
  | o :: l, i0, base, g, b, lg, ν, a, w, hl, h, hs, hK => by
    have hlt : i0 < ops.toList.length := by
      rcases Nat.lt_or_ge i0 ops.toList.length with h1 | h1
      · exact h1
      · rw [List.drop_eq_nil_iff.2 h1] at hl; cases hl
    rw [List.drop_eq_getElem_cons hlt] at hl
    injection hl with ho hl
    have ho' : ops[i0]? = some o := by
      rw [ho, ← Array.getElem?_toList, List.getElem?_eq_getElem hlt]
    obtain ⟨lo, g', b', h1, h2, h3, h4⟩ := opG_step h
    rw [List.length_cons, List.range'_succ]
    simp only [wpOps, ho']
    refine h1.sound hs hT (fun j _ hj => by omega) _ Q fun ν' a' w' hs' => ?_
    rw [← h3, ← h4] at hs'
    refine opsK_text hT l (i0 + 1) (base + 8) g' b' (lo :: lg) ν' a' w' hl h2 (hs'.mono fun i hi => U8_lt hi) fun g1 b1 lg1 ν1 a1 w1 h5 h6 => hK g1 b1 lg1 ν1 a1 w1 h5 (h6.mono fun s hs => by simp only [List.length_cons]; omega)
end
end Go.Pi

/- Drawn regions (1): what an operation depends on. -/
set_option linter.unusedVariables false
set_option linter.unusedSimpArgs false
namespace Go.Pi
open Go.RowKit

theorem opnd_congr {g g' : Nat → TV} {x : Operand} (h : ∀ t, x = .tmp t → g t = g' t) : opnd g x = opnd g' x := by
  cases x <;> first | rfl | exact h _ rfl
theorem mapM_congr' {α β : Type} {f f' : α → Option β} : ∀ {l : List α}, (∀ x ∈ l, f x = f' x) → l.mapM f = l.mapM f'
  | [], _ => rfl
  | x :: l, h => by
    rw [List.mapM_cons, List.mapM_cons, h x (by simp), mapM_congr' (fun y hy => h y (by simp [hy]))]
theorem optI_congr {g g' : Nat → TV} {x : Option Operand} (h : ∀ y, x = some y → opnd g y = opnd g' y) : optI g x = optI g' x := by
  cases x with
  | none => rfl
  | some y => simp only [optI, h y rfl]
theorem flatMap_congr' {α β : Type} {f f' : α → List β} : ∀ {l : List α}, (∀ x ∈ l, f x = f' x) → l.flatMap f = l.flatMap f'
  | [], _ => rfl
  | x :: l, h => by rw [List.flatMap_cons, List.flatMap_cons, h x (by simp), flatMap_congr' (fun y hy => h y (by simp [hy]))]

theorem prep_congr (P : Program) (T : List (Nat × Ent)) {g g' : Nat → TV} (B : Nat → Option Blk) (base : Nat) (o : Oper) (h : ∀ x ∈ o.op.operands, opnd g x = opnd g' x) :
    prep P T g B base o = prep P T g' B base o := by
  obtain ⟨dst, op, type, pos, after, guard⟩ := o
  cases op
  case build t ps =>
    have hp : (ps.toList.map fun p => (p.1, opnd g p.2)) = ps.toList.map fun p => (p.1, opnd g' p.2) := List.map_congr_left fun p hp => by
      rw [h p.2 (by simp [Op.operands]; exact ⟨p.1, by simpa using hp⟩)]
    simp only [prep, hp]
  case buildSlice t n ps =>
    have hp : (ps.toList.map fun p => (p.1, opnd g p.2)) = ps.toList.map fun p => (p.1, opnd g' p.2) := List.map_congr_left fun p hp => by
      rw [h p.2 (by simp [Op.operands]; exact ⟨p.1, by simpa using hp⟩)]
    have hq : (ps.toList.flatMap fun p => litS (opnd g p.2)) = ps.toList.flatMap fun p => litS (opnd g' p.2) := by
      exact flatMap_congr' fun p hp => by rw [h p.2 (by simp [Op.operands]; exact ⟨p.1, by simpa using hp⟩)]
    simp only [prep, hp, hq]
  case call c =>
    obtain ⟨callee, args, ats⟩ := c
    have ha : args.toList.map (opnd g) = args.toList.map (opnd g') := List.map_congr_left fun x hx => h x (by
      simp only [Op.operands, Call.operands]
      cases callee <;> simp_all)
    have hm : args.toList.mapM (fun x => getI (opnd g x)) = args.toList.mapM (fun x => getI (opnd g' x)) := mapM_congr' fun x hx => by
      rw [h x (by
        simp only [Op.operands, Call.operands]
        cases callee <;> simp_all)]
    have hh : args.toList.head?.map (opnd g) = args.toList.head?.map (opnd g') := by
      rw [← List.head?_map, ← List.head?_map, ha]
    cases callee with
    | value f =>
      have hf := h f (by simp [Op.operands, Call.operands])
      simp only [prep, ha, hf]
    | invoke r m => rfl
    | builtin b => cases b <;> simp only [prep, ha, hm, hh]
  case slice t x lo hi mx =>
    have h0 := h x (by simp [Op.operands])
    have h1 : optI g lo = optI g' lo := optI_congr fun y hy => h y (by subst hy; simp [Op.operands])
    have h2 : optI g hi = optI g' hi := optI_congr fun y hy => h y (by subst hy; simp [Op.operands])
    cases mx <;> simp only [prep, h0, h1, h2]
  case makeFunc fn first captured =>
    have hc : captured.toList.map (opnd g) = captured.toList.map (opnd g') := List.map_congr_left fun x hx => h x (by simp only [Op.operands]; exact Array.mem_append.2 (.inr (by simpa using hx)))
    cases fn <;> first | rfl | simp only [prep, hc]
  all_goals first
    | rfl
    | (simp only [Op.operands] at h
       simp only [prep]
       simp_all)

/-! of the blocks, an operation looks only at those that its operands name -/
section
variable {B B' : Nat → Option Blk}
theorem toC_local {s : Sh} {v : CV} (h : ∀ i ∈ v.sites, B i = B' i) : v.toC B s = v.toC B' s := by
  cases v with
  | own i => simp only [CV.toC, h i (by simp [CV.sites])]
  | pre i n => simp only [CV.toC, h i (by simp [CV.sites])]
  | suf i n => simp only [CV.toC, h i (by simp [CV.sites])]
  | val u =>
    unfold CV.toC
    cases u with
    | slice A n c => cases A <;> cases n <;> cases c <;> rfl
    | _ => rfl
  | _ => rfl
theorem packR_local (r : Shs) : ∀ (l : List CV), (∀ c ∈ l, ∀ i ∈ c.sites, B i = B' i) → packR B r l = packR B' r l := by
  refine Shs.rec (motive_1 := fun _ => True) (motive_2 := fun r => ∀ (l : List CV), (∀ c ∈ l, ∀ i ∈ c.sites, B i = B' i) → packR B r l = packR B' r l)
    (fun _ => trivial) trivial trivial (fun _ _ => trivial) ?_ ?_ r
  · intro s _ l h
    rw [packR_one, packR_one]
    rcases l with _ | ⟨v, _ | ⟨_, _⟩⟩
    · rfl
    · exact toC_local (h v (by simp))
    · rfl
  · intro s r _ ih l h
    rw [packR_cons, packR_cons]
    rcases l with _ | ⟨v, l⟩
    · rfl
    · simp only [toC_local (s := s) (h v (by simp)), ih l fun c hc => h c (by simp [hc])]
theorem cellsAt_local {q : CV} (h : ∀ i ∈ q.sites, B i = B' i) : cellsAt B q = cellsAt B' q := by
  cases q with
  | ptr i off => simp only [cellsAt, h i (by simp [CV.sites])]
  | rptr i r j off => simp only [cellsAt, h i (by simp [CV.sites])]
  | _ => rfl
theorem filterMap_local {α β : Type} {f f' : α → Option β} : ∀ {l : List α}, (∀ x ∈ l, f x = f' x) → l.filterMap f = l.filterMap f'
  | [], _ => rfl
  | x :: l, h => by rw [List.filterMap_cons, List.filterMap_cons, h x (by simp), filterMap_local fun y hy => h y (by simp [hy])]
theorem frz_local {ss : List Nat} (h : ∀ i ∈ ss, B i = B' i) : frz B ss = frz B' ss := filterMap_local fun i hi => by rw [h i hi]
theorem rowSites_sub {v : CV} : ∀ i ∈ v.rowSites, i ∈ v.sites := by cases v <;> simp [CV.rowSites, CV.sites]
theorem alive_local {v : CV} (h : ∀ i ∈ v.sites, B i = B' i) : v.alive B = v.alive B' := by
  cases v with
  | own i | pre i _ | ptr i _ | rptr i _ _ _ | suf i _ => simp only [CV.alive, h i (by simp [CV.sites])]
  | _ => rfl
theorem dataOf_local {v : CV} (h : ∀ i ∈ v.sites, B i = B' i) : dataOf B v = dataOf B' v := by
  cases v with
  | own i | pre i _ | suf i _ => simp only [dataOf, h i (by simp [CV.sites])]
  | c s x => cases s <;> rfl
  | _ => rfl
theorem baseOfApp_local {v : CV} (h : ∀ i ∈ v.sites, B i = B' i) : baseOfApp B v = baseOfApp B' v := by
  cases v with
  | own i | pre i _ => simp only [baseOfApp, h i (by simp [CV.sites])]
  | _ => rfl
theorem sufOf_local {v : CV} (h : ∀ i ∈ v.sites, B i = B' i) : sufOf B v = sufOf B' v := by
  cases v with
  | own i | suf i _ => simp only [sufOf, h i (by simp [CV.sites])]
  | _ => rfl
theorem boxD_local {s : Nat} (h : B s = B' s) (r : Shs) : boxD B s r = boxD B' s r := by unfold boxD; rw [h]
theorem packCaps_local : ∀ (ks : List CapK) (caps : List Cap), (∀ i ∈ caps.flatMap Cap.sites, B i = B' i) → packCaps B ks caps = packCaps B' ks caps
  | [], [], _ => rfl
  | [], _ :: _, _ => rfl
  | _ :: _, [], _ => rfl
  | k :: ks, c :: caps, h => by
    have h1 : packCap B k c = packCap B' k c := by
      cases k with
      | dat s => cases c <;> rfl
      | ref r => cases c with
        | ptr s off => cases off with
          | zero => exact boxD_local (h s (by rw [List.flatMap_cons]; exact List.mem_append.2 (.inl (by simp [Cap.sites])))) r
          | succ _ => rfl
        | _ => rfl
    have ih := packCaps_local ks caps fun i hi => h i (by rw [List.flatMap_cons]; exact List.mem_append.2 (.inr hi))
    simp only [packCaps, h1, ih]
theorem caps_sites {caps : List Cap} {t : TV} (ht : t ∈ caps.map Cap.tv) : ∀ i ∈ t.sites, i ∈ caps.flatMap Cap.sites := fun i hi => by
  obtain ⟨c, hc, rfl⟩ := List.mem_map.1 ht
  refine List.mem_flatMap.2 ⟨c, hc, ?_⟩
  cases c with
  | ptr s off => simpa [Cap.tv, TV.sites, EV.sites, EV.cells, CV.sites, Cap.sites] using hi
  | dat s x => simp [Cap.tv, TV.sites, EV.sites, EV.cells, CV.sites] at hi
  | ref r x => simp [Cap.tv, TV.sites, EV.sites, EV.cells, CV.sites] at hi
theorem mem_setCells {l m : List CV} {off : Nat} {c : CV} (h : c ∈ setCells l off m) : c ∈ l ∨ c ∈ m := by
  unfold setCells at h
  simp only [List.mem_append] at h
  rcases h with (h | h) | h
  · exact .inl (List.mem_of_mem_take h)
  · exact .inr h
  · exact .inl (List.mem_of_mem_drop h)
theorem unpackR_sites (r : Shs) : ∀ (x : RowD r), ∀ c ∈ unpackR r x, c.sites = [] := by
  refine Shs.rec (motive_1 := fun _ => True) (motive_2 := fun r => ∀ (x : RowD r), ∀ c ∈ unpackR r x, c.sites = [])
    (fun _ => trivial) trivial trivial (fun _ _ => trivial) ?_ ?_ r
  · intro s _ x c hc
    simp only [unpackR, List.mem_singleton] at hc
    subst hc
    rfl
  · intro s r _ ih x c hc
    simp only [unpackR, List.mem_cons] at hc
    rcases hc with rfl | hc
    · rfl
    · exact ih _ c hc
theorem storeV_local (P : Program) {t : TypeId} {p : CV} {x : EV} (hp : ∀ i ∈ p.sites, B i = B' i) (hx : ∀ i ∈ x.sites, B i = B' i) : storeV P B t p x = storeV P B' t p x := by
  have hc : ∀ c ∈ x.cells, ∀ i ∈ c.sites, B i = B' i := fun c h i hi => hx i (List.mem_flatMap.2 ⟨c, h, hi⟩)
  have hr : ∀ i ∈ x.cells.flatMap CV.rowSites, B i = B' i := fun i hi => by
    obtain ⟨c, h1, h2⟩ := List.mem_flatMap.1 hi
    exact hc c h1 i (rowSites_sub i h2)
  have hpk : ∀ (r : Shs) (y : RowD r) (off : Nat), packR B r (setCells (unpackR r y) off x.cells) = packR B' r (setCells (unpackR r y) off x.cells) := fun r y off => packR_local r _ fun c h i hi => by
    rcases mem_setCells h with h | h
    · rw [unpackR_sites r y c h] at hi; cases hi
    · exact hc c h i hi
  have hf : ∀ s, frz B ((x.cells.flatMap CV.rowSites).filter (· != s)) = frz B' ((x.cells.flatMap CV.rowSites).filter (· != s)) := fun s => frz_local fun i hi => hr i (List.mem_filter.1 hi).1
  have hf' : frz B (x.cells.flatMap CV.rowSites) = frz B' (x.cells.flatMap CV.rowSites) := frz_local hr
  unfold storeV
  cases p with
  | ptr s off => simp only [hp s (by simp [CV.sites])]
  | rptr s r j off => simp only [hp s (by simp [CV.sites]), hpk, hf, hf']
  | _ => rfl
theorem litRows_local {r : Shs} {parts : List (Nat × TV)} (h : ∀ p ∈ parts, ∀ i ∈ p.2.sites, B i = B' i) : ∀ (n j : Nat), litRows B r parts j n = litRows B' r parts j n
  | 0, j => by unfold litRows; rfl
  | n + 1, j => by
    unfold litRows
    simp only [litRows_local h n (j + 1)]
    split
    · rfl
    · rename_i x hx
      rw [packR_local r _ fun c hc i hi => h _ (List.mem_of_find?_eq_some hx) i (List.mem_flatMap.2 ⟨c, hc, hi⟩)]
    · rfl
theorem pack1_local (p : PK) {t : TV} (h : ∀ i ∈ t.sites, B i = B' i) : pack1 B p t = pack1 B' p t := by
  have one : ∀ {v : CV}, t = .e (.one v) → ∀ i ∈ v.sites, B i = B' i := fun e i hi => h i (by rw [e]; simpa [TV.sites, EV.sites, EV.cells] using hi)
  have agg : ∀ {l : List CV}, t = .e (.agg l) → ∀ c ∈ l, ∀ i ∈ c.sites, B i = B' i := fun e c hc i hi => h i (by rw [e]; exact List.mem_flatMap.2 ⟨c, hc, hi⟩)
  cases p with
  | data a r =>
    cases a with
    | true =>
      show (pack1 B (.data true r) t : Option (RowD r)) = pack1 B' (.data true r) t
      rw [pack1_true, pack1_true]
      cases t with
      | e x => cases x with
        | agg l => exact packR_local r _ (agg rfl)
        | one v => rfl
      | _ => rfl
    | false =>
      show (pack1 B (.data false r) t : Option (RowD r)) = pack1 B' (.data false r) t
      rw [pack1_false, pack1_false]
      cases t with
      | e x => cases x with
        | agg l => rfl
        | one v => exact packR_local r _ (fun c hc => by rw [List.mem_singleton.1 hc]; exact one rfl)
      | _ => rfl
  | take e r =>
    show (pack1 B (.take e r) t : Option (List (RowD r))) = pack1 B' (.take e r) t
    rw [pack1_take, pack1_take]
    cases t with
    | e x => cases x with
      | agg l => rfl
      | one v => cases v with
        | own s => simp only [one rfl s (by simp [CV.sites])]
        | _ => rfl
    | _ => rfl
  | fn f => rfl
  | rev e r => rfl
  | ref r =>
    cases t with
    | e x => cases x with
      | agg l => rfl
      | one v => cases v with
        | ptr s off => cases off with
          | zero => exact boxD_local (one rfl s (by simp [CV.sites])) r
          | succ _ => rfl
        | eptr r' xs i off => cases off <;> rfl
        | _ => rfl
    | _ => rfl
  | clo f ks =>
    cases t with
    | e x => cases x with
      | agg l => rfl
      | one v => cases v with
        | clo f' caps => exact congrArg (fun z => cond (Nat.beq f f') z none) (packCaps_local ks caps (one rfl))
        | _ => rfl
    | _ => rfl
theorem packA_local : ∀ (ps : List PK) (as : List TV), (∀ t ∈ as, ∀ i ∈ t.sites, B i = B' i) → packA B ps as = packA B' ps as
  | [], as, _ => by cases as <;> rfl
  | p :: ps, [], _ => rfl
  | p :: ps, t :: as, h => by
    unfold packA
    simp only [pack1_local p (h t (by simp)), packA_local ps as fun t ht => h t (by simp [ht])]
theorem lentA_sub : ∀ (ps : List PK) (as : List TV), ∀ i ∈ lentA ps as, ∃ t ∈ as, i ∈ t.sites
  | [], as, i, h => by simp [lentA] at h
  | p :: ps, [], i, h => by cases p <;> simp [lentA] at h
  | p :: ps, t :: as, i, h => by
    have rest : i ∈ lentA ps as → ∃ t' ∈ t :: as, i ∈ t'.sites := fun h => by
      obtain ⟨t', h1, h2⟩ := lentA_sub ps as i h
      exact ⟨t', by simp [h1], h2⟩
    cases p with
    | data a r =>
      cases t with
      | e x =>
        simp only [lentA, List.mem_append] at h
        rcases h with h | h
        · obtain ⟨c, h1, h2⟩ := List.mem_flatMap.1 h
          exact ⟨_, List.mem_cons_self, List.mem_flatMap.2 ⟨c, h1, rowSites_sub i h2⟩⟩
        · exact rest h
      | dead => exact rest (by simpa only [lentA] using h)
      | tup l => exact rest (by simpa only [lentA] using h)
    | take e r => exact rest (by simpa only [lentA] using h)
    | fn f => exact rest (by simpa only [lentA] using h)
    | clo f ks => exact rest (by simpa only [lentA] using h)
    | ref r => exact rest (by simpa only [lentA] using h)
    | rev e r => exact rest (by simpa only [lentA] using h)
theorem findE_local {n : FuncId} {as : List TV} (h : ∀ t ∈ as, ∀ i ∈ t.sites, B i = B' i) : ∀ (T : List (Nat × Ent)), findE B n as T = findE B' n as T
  | [] => rfl
  | (m, E) :: l => by
    unfold findE
    have hf : frz B (lentA E.ps as) = frz B' (lentA E.ps as) := frz_local fun i hi => by
      obtain ⟨t, h1, h2⟩ := lentA_sub E.ps as i hi
      exact h t h1 i h2
    simp only [packA_local E.ps as h, findE_local h l, hf]
end

def faOf (q : Option CV) (z : Option (Nat × TypeId)) (al : CV → Bool) : Prep := match q, z with
  | some q, some (off, _) => match addOff q off with
    | some q' => if al q then eff1 (Pi.one q') else .bad
    | none => .bad
  | _, _ => .bad
def iaOf (P : Program) (u : Option TypeDesc) (q : Option CV) (j : Option Int) (B : Nat → Option Blk) : Prep := match u, q, j with
    | some (.slice e), some (.c (.sl r) xs), some j => if sizeT P e = some r.size then effG (inb j (List.length xs)) (Pi.one (.eptr r xs j 0)) else .bad
    | some (.slice e), some (.own s), some j => match B s with
      | some (.row _ r xs _) => if sizeT P e = some r.size then effG (inb j xs.length) (Pi.one (.rptr s r j 0)) else .bad
      | _ => .bad
    | some (.slice e), some (.pre s n), some j => match B s with
      | some (.row _ r _ _) => if sizeT P e = some r.size then effG (inb j n.toNat) (Pi.one (.rptr s r j 0)) else .bad
      | _ => .bad
    | some (.slice e), some (.suf s n), some j => match B s with
      | some (.row _ r xs _) => if sizeT P e = some r.size then effG (inb j (xs.length - n.toNat)) (Pi.one (.rptr s r (n + j) 0)) else .bad
      | _ => .bad
    | some (.array n e), some (.ptr s 0), some j => match B s with
      | some (.arr _ r m _) => if sizeT P e = some r.size ∧ m = n then effG (inb j n) (Pi.one (.rptr s r j 0)) else .bad
      | some (.box _ _) => match sizeT P e with
        | some z => if inb j n = true then eff1 (Pi.one (.ptr s (j.toNat * z))) else .bad
        | none => .bad
      | _ => .bad
    | _, _, _ => .bad
def idxRow (P : Program) (e : TypeId) (s : Nat) (j : Int) (ob : Option Blk) : Prep := match ob with
  | some (.row _ r xs _) => if sizeT P e = some r.size then effG (inb j xs.length) (Pi.one (.rptr s r j 0)) else .bad
  | _ => .bad
def idxPre (P : Program) (e : TypeId) (s : Nat) (j : Int) (n : Int) (ob : Option Blk) : Prep := match ob with
  | some (.row _ r _ _) => if sizeT P e = some r.size then effG (inb j n.toNat) (Pi.one (.rptr s r j 0)) else .bad
  | _ => .bad
def idxSuf (P : Program) (e : TypeId) (s : Nat) (j : Int) (n : Int) (ob : Option Blk) : Prep := match ob with
  | some (.row _ r xs _) => if sizeT P e = some r.size then effG (inb j (xs.length - n.toNat)) (Pi.one (.rptr s r (n + j) 0)) else .bad
  | _ => .bad
def idxArr (P : Program) (e : TypeId) (s : Nat) (j : Int) (n : Nat) (ob : Option Blk) : Prep := match ob with
  | some (.arr _ r m _) => if sizeT P e = some r.size ∧ m = n then effG (inb j n) (Pi.one (.rptr s r j 0)) else .bad
  | some (.box _ _) => match sizeT P e with
    | some z => if inb j n = true then eff1 (Pi.one (.ptr s (j.toNat * z))) else .bad
    | none => .bad
  | _ => .bad
def slOwn (P : Program) (e : TypeId) (s : Nat) (h : Option Int) (ob : Option Blk) : Prep := match ob with
  | some (.row _ _ xs _) => match h with
    | some h => if (sizeT P e).isSome then effG (decide (0 ≤ h) && decide (h ≤ (xs.length : Int))) (Pi.one (.pre s h)) else .bad
    | none => .bad
  | _ => .bad
def slSuf (P : Program) (e : TypeId) (s : Nat) (l : Int) (h : Option Int) (fz : List (Nat × Option Blk)) (ob : Option Blk) : Prep := match ob with
  | some (.row _ r xs _) => match h with
    | none => if (sizeT P e) = some r.size then effG (decide (0 ≤ l) && decide (l ≤ (xs.length : Int))) (Pi.one (.suf s l)) else .bad
    | some h => if (sizeT P e) = some r.size then .eff (cutG (some l) (some h) xs.length) { v := Pi.one (.c (.sl r) (cutL (some l) (some h) xs)), w := fz } else .bad
  | _ => .bad
def slPre (P : Program) (e : TypeId) (s : Nat) (n h : Int) (ob : Option Blk) : Prep := if (sizeT P e).isSome && ob.isSome then effG (decide (0 ≤ h) && decide (h ≤ n)) (Pi.one (.pre s h)) else .bad
def slDat (P : Program) (e : TypeId) (d : Option ((r : Shs) × List (RowD r))) (w : List (Nat × Option Blk)) (l h : Option Int) : Prep := match d with
  | some ⟨r, xs⟩ => if sizeT P e = some r.size then .eff (cutG l h xs.length) { v := Pi.one (.c (.sl r) (cutL l h xs)), w := w } else .bad
  | none => .bad
def slArr (P : Program) (e : TypeId) (s n : Nat) (ob : Option Blk) : Prep := match ob with
  | some (.arr _ r m xs) => if (sizeT P e).isSome ∧ m = n ∧ n ≤ 16777216 then .eff true { v := Pi.one (.c (.sl r) xs), w := (s, none) :: [] } else .bad
  | _ => .bad
def slOf (P : Program) (u : Option TypeDesc) (x : TV) (lo hi : Option (Option Int)) (B : Nat → Option Blk) : Prep := match u, x, lo, hi with
    | some .string, .e (.one (.c .str s)), some l, some h => effG (cutG l h (ByteArray.size s)) (str1 (cutS l h s))
    | some (.slice e), .e (.one v), some l, some h => match v, l with
      | .own s, none => match B s with
        | some (.row _ r xs _) => match h with
          | some h => if (sizeT P e).isSome then effG (decide (0 ≤ h) && decide (h ≤ (xs.length : Int))) (Pi.one (.pre s h)) else .bad
          | none => .bad
        | _ => .bad
      | .own s, some l => match B s with
        | some (.row _ r xs _) => match h with
          | none => if (sizeT P e) = some r.size then effG (decide (0 ≤ l) && decide (l ≤ (xs.length : Int))) (Pi.one (.suf s l)) else .bad
          | some h => if (sizeT P e) = some r.size then .eff (cutG (some l) (some h) xs.length) { v := Pi.one (.c (.sl r) (cutL (some l) (some h) xs)), w := frz B [s] } else .bad
        | _ => .bad
      | .pre s n, none => match h with
        | some h => if (sizeT P e).isSome && (B s).isSome then effG (decide (0 ≤ h) && decide (h ≤ n)) (Pi.one (.pre s h)) else .bad
        | none => .bad
      | v, l => match dataOf B v with
        | some ⟨r, xs⟩ => if sizeT P e = some r.size then .eff (cutG l h xs.length) { v := Pi.one (.c (.sl r) (cutL l h xs)), w := frz B (CV.rowSites v) } else .bad
        | none => .bad
    | some (.array n e), .e (.one (.ptr s 0)), some none, some none => match B s with
      | some (.arr _ r m xs) => if (sizeT P e).isSome ∧ m = n ∧ n ≤ 16777216 then .eff true { v := Pi.one (.c (.sl r) xs), w := (s, none) :: [] } else .bad
      | _ => .bad
    | _, _, _, _ => .bad
set_option maxHeartbeats 1000000 in
theorem prep_local (P : Program) (T : List (Nat × Ent)) {g : Nat → TV} {B B' : Nat → Option Blk} (base : Nat) (o : Oper) (h : ∀ s ∈ rdOf g o, B s = B' s) :
    prep P T g B base o = prep P T g B' base o := by
  have H : ∀ x ∈ o.op.operands, ∀ s ∈ (opnd g x).sites, B s = B' s := fun x hx s hs => h s (List.mem_flatMap.2 ⟨x, by simpa using hx, hs⟩)
  have one : ∀ x ∈ o.op.operands, ∀ v, opnd g x = .e (.one v) → ∀ s ∈ v.sites, B s = B' s := fun x hx v e s hs => H x hx s (by rw [e]; simpa [TV.sites, EV.sites, EV.cells] using hs)
  have evs : ∀ x ∈ o.op.operands, ∀ v, opnd g x = .e v → ∀ s ∈ v.sites, B s = B' s := fun x hx v e s hs => H x hx s (by rw [e]; exact hs)
  clear h
  obtain ⟨dst, op, type, pos, after, guard⟩ := o
  cases op
  case convert src dst x =>
    simp only [prep]
    split
    · rfl
    · rename_i v _ hx
      rw [toC_local (one x (by simp [Op.operands]) _ hx)]
    · rfl
  case load t p =>
    simp only [prep]
    cases hq : getC (opnd g p) with
    | none => rfl
    | some q => simp only [cellsAt_local (one p (by simp [Op.operands]) q (getC_eq hq))]
  case store t p x =>
    simp only [prep]
    cases hq : getC (opnd g p) with
    | none => rfl
    | some q => cases hx : getE (opnd g x) with
      | none => rfl
      | some v => simp only [storeV_local P (one p (by simp [Op.operands]) q (getC_eq hq)) (evs x (by simp [Op.operands]) v (getE_eq hx))]
  case fieldAddr t x f =>
    have e : ∀ B, prep P T g B base ⟨dst, .fieldAddr t x f, type, pos, after, guard⟩ = faOf (getC (opnd g x)) (fieldOff P t f) (CV.alive B) := fun B => by simp only [prep, faOf]; rfl
    rw [e, e]
    unfold faOf
    cases hq : getC (opnd g x) with
    | none => rfl
    | some q =>
      cases hf : fieldOff P t f with
      | none => rfl
      | some z =>
        obtain ⟨off, ft⟩ := z
        cases hadd : addOff q off with
        | none => simp only [hadd]
        | some q' =>
          have : q.alive B = q.alive B' := alive_local fun i hi => one x (by simp [Op.operands]) q (getC_eq hq) i hi
          simp only [hadd, this]
  case indexAddr t x i =>
    have e : ∀ B, prep P T g B base ⟨dst, .indexAddr t x i, type, pos, after, guard⟩ = iaOf P (P.underlying t) (getC (opnd g x)) (getI (opnd g i)) B := fun B => rfl
    rw [e, e]
    cases hu : P.underlying t with
    | none => rfl
    | some d =>
      cases hq : getC (opnd g x) with
      | none => cases d <;> rfl
      | some q =>
        have hs := one x (by simp [Op.operands]) q (getC_eq hq)
        cases hj : getI (opnd g i) with
        | none => cases d <;> cases q <;> first | rfl | (rename_i c _ ; cases c <;> rfl) | (rename_i s off; cases off <;> rfl)
        | some j =>
          cases q with
          | own s => cases d with
            | slice el => exact congrArg (idxRow P el s j) (hs s (by simp [CV.sites]))
            | _ => rfl
          | pre s n => cases d with
            | slice el => exact congrArg (idxPre P el s j n) (hs s (by simp [CV.sites]))
            | _ => rfl
          | suf s n => cases d with
            | slice el => exact congrArg (idxSuf P el s j n) (hs s (by simp [CV.sites]))
            | _ => rfl
          | ptr s off => cases off with
            | zero => cases d with
              | array n el => exact congrArg (idxArr P el s j n) (hs s (by simp [CV.sites]))
              | _ => rfl
            | succ off => cases d <;> rfl
          | c sh y => cases d <;> cases sh <;> rfl
          | _ => cases d <;> rfl
  case buildSlice t n ps =>
    have hp : ∀ p ∈ (ps.toList.map fun p => (p.1, opnd g p.2)), ∀ i ∈ p.2.sites, B i = B' i := fun p hp i hi => by
      obtain ⟨q, h1, rfl⟩ := List.mem_map.1 hp
      exact H q.2 (by simp [Op.operands]; exact ⟨q.1, by simpa using h1⟩) i hi
    have hf : frz B (ps.toList.flatMap fun p => litS (opnd g p.2)) = frz B' (ps.toList.flatMap fun p => litS (opnd g p.2)) := frz_local fun i hi => by
      obtain ⟨q, h1, h2⟩ := List.mem_flatMap.1 hi
      refine hp (q.1, opnd g q.2) (List.mem_map.2 ⟨q, h1, rfl⟩) i ?_
      unfold litS at h2
      split at h2
      · rename_i x hx
        rw [hx]
        obtain ⟨c, h3, h4⟩ := List.mem_flatMap.1 h2
        exact List.mem_flatMap.2 ⟨c, h3, rowSites_sub i h4⟩
      · cases h2
    simp only [prep, litRows_local hp, hf]
  case slice t x lo hi mx =>
    cases mx with
    | some m => rfl
    | none =>
      have e : ∀ B, prep P T g B base ⟨dst, .slice t x lo hi none, type, pos, after, guard⟩ = slOf P (P.underlying t) (opnd g x) (optI g lo) (optI g hi) B := fun B => rfl
      rw [e, e]
      cases hu : P.underlying t with
      | none => rfl
      | some d =>
        cases hx : opnd g x with
        | dead => cases d <;> rfl
        | tup l => cases d <;> rfl
        | e v => cases v with
          | agg l => cases d <;> rfl
          | one v =>
            have hs := one x (by simp [Op.operands]) v hx
            have hd : dataOf B v = dataOf B' v := dataOf_local hs
            have hf : frz B (CV.rowSites v) = frz B' (CV.rowSites v) := frz_local fun i hi => hs i (rowSites_sub i hi)
            cases hl : optI g lo with
            | none => cases d with
              | _ => cases v with
                | c sh y => cases sh <;> rfl
                | ptr s off => cases off <;> rfl
                | _ => rfl
            | some l => cases hh : optI g hi with
              | none => cases l with
                | _ => cases d with
                  | _ => cases v with
                    | c sh y => cases sh <;> rfl
                    | ptr s off => cases off <;> rfl
                    | _ => rfl
              | some h =>
                have hdat : ∀ el, slDat P el (dataOf B v) (frz B (CV.rowSites v)) l h = slDat P el (dataOf B' v) (frz B' (CV.rowSites v)) l h := fun el => by rw [hd, hf]
                cases d with
                | slice el =>
                  cases v with
                  | own s => cases l with
                    | none => exact congrArg (slOwn P el s h) (hs s (by simp [CV.sites]))
                    | some l =>
                      have e1 : slSuf P el s l h (frz B [s]) (B s) = slSuf P el s l h (frz B' [s]) (B' s) := by
                        rw [hs s (by simp [CV.sites]), show frz B [s] = frz B' [s] from hf]
                      exact e1
                  | pre s n => cases l with
                    | none => cases h with
                      | none => rfl
                      | some h => exact congrArg (slPre P el s n h) (hs s (by simp [CV.sites]))
                    | some l => exact hdat el
                  | _ => exact hdat el
                | array n el =>
                  cases v with
                  | ptr s off => cases off with
                    | zero => cases l with
                      | none => cases h with
                        | none => exact congrArg (slArr P el s n) (hs s (by simp [CV.sites]))
                        | some _ => rfl
                      | some _ => rfl
                    | succ off => rfl
                  | c sh y => cases sh <;> rfl
                  | _ => rfl
                | string => cases v with
                  | c sh y => cases sh <;> rfl
                  | _ => rfl
                | _ => cases v with
                  | c sh y => cases sh <;> rfl
                  | ptr s off => cases off <;> rfl
                  | _ => rfl
  case call c =>
    obtain ⟨callee, args, ats⟩ := c
    have ha : ∀ t ∈ args.toList.map (opnd g), ∀ i ∈ t.sites, B i = B' i := fun t ht i hi => by
      obtain ⟨x, h1, rfl⟩ := List.mem_map.1 ht
      exact H x (by
        simp only [Op.operands, Call.operands]
        cases callee <;> simp_all) i hi
    have hone : ∀ v, .e (.one v) ∈ args.toList.map (opnd g) → ∀ i ∈ v.sites, B i = B' i := fun v hv i hi => ha _ hv i (by simpa [TV.sites, EV.sites, EV.cells] using hi)
    cases callee with
    | value f =>
      simp only [prep]
      split
      · rename_i q hq
        have hf : opnd g f = .e (.one (.clo q.1 q.2)) := by
          unfold cloOf at hq
          split at hq
          · rename_i e; cases hq; exact e
          · cases hq
        refine findE_local (fun t ht i hi => ?_) T
        rw [List.mem_append] at ht
        rcases ht with ht | ht
        · exact ha t ht i hi
        · exact one f (by simp [Op.operands, Call.operands]) _ hf i (caps_sites ht i hi)
      · split
        · split
          · rename_i v hv
            have hs := hone v (by rw [hv]; simp)
            have hl : ∀ t ∈ [TV.e (.one v)], ∀ i ∈ t.sites, B i = B' i := fun t ht i hi => ha t (by rw [hv]; exact ht) i hi
            rw [sufOf_local hs]
            split
            · rw [findE_local hl T]
            · exact findE_local hl T
          · exact findE_local ha T
        · rfl
    | invoke r m => rfl
    | builtin b =>
      cases b
      case len =>
        simp only [prep]
        split
        · rfl
        · rename_i v t _ he _
          have hs := hone v (by rw [he]; simp)
          have hd : dataOf B v = dataOf B' v := dataOf_local hs
          cases v with
          | pre s n => simp only [hs s (by simp [CV.sites])]
          | own s => simp only [dataOf, hs s (by simp [CV.sites])]
          | suf s n => simp only [dataOf, hs s (by simp [CV.sites])]
          | c sh y => cases sh <;> rfl
          | val u => cases u with
            | slice A n c => cases A <;> cases n <;> cases c <;> rfl
            | _ => rfl
          | _ => rfl
        · rfl
      case append =>
        simp only [prep]
        split
        · rename_i d v t u he _
          have hs := hone v (by rw [he]; simp)
          have hsd := hone d (by rw [he]; simp)
          have hd : dataOf B v = dataOf B' v := dataOf_local hs
          have hb : baseOfApp B d = baseOfApp B' d := baseOfApp_local hsd
          have hrt : ∀ s q, baseOfApp B' d = some (s, q) → rowType B s = rowType B' s := fun s q hq => by
            have hm : s ∈ d.sites := by
              cases d <;> simp only [baseOfApp] at hq <;> first
                | (cases hq)
                | (split at hq <;> first | (cases hq; simp [CV.sites]) | cases hq)
            unfold rowType
            rw [hsd s hm]
          rw [hd]
          cases d with
          | own s =>
            have e := hsd s (by simp [CV.sites])
            cases hb' : B' s with
            | none => simp only [baseOfApp, e, hb']
            | some bk => cases bk with
              | row e0 r0 xs0 fz => cases fz <;> simp only [baseOfApp, rowType, e, hb']
              | _ => simp only [baseOfApp, e, hb']
          | pre s n =>
            have e := hsd s (by simp [CV.sites])
            cases hb' : B' s with
            | none => simp only [baseOfApp, e, hb']
            | some bk => cases bk with
              | row e0 r0 xs0 fz => cases fz <;> simp only [baseOfApp, rowType, e, hb']
              | _ => simp only [baseOfApp, e, hb']
          | val u => cases u with
            | slice A n c => cases A <;> cases n <;> cases c <;> rfl
            | _ => rfl
          | _ => rfl
        · rfl
      case copy =>
        simp only [prep]
        split
        · rename_i s v t u he _
          have hs := hone v (by rw [he]; simp)
          have hss := hone (.own s) (by rw [he]; simp) s (by simp [CV.sites])
          have hd : dataOf B v = dataOf B' v := dataOf_local hs
          simp only [hd, hss]
        · rfl
      case clear =>
        simp only [prep]
        split
        · rename_i v t he _
          have hs := hone v (by rw [he]; simp)
          simp only [sufOf_local hs]
        · rfl
      all_goals rfl
  case makeFunc fn first captured => cases fn <;> rfl
  all_goals rfl
end Go.Pi

/- Drawn regions (2): whatever the order. -/
set_option linter.unusedVariables false
set_option linter.unusedSimpArgs false
namespace Go.Pi
open Go.RowKit

section fold
variable (D : Nat → Bool)
def fG : Nat → List Log → (Nat → TV) → Nat → TV
  | _, [], G => G
  | i, lo :: l, G => fG (i + 1) l (cond (D i) (putF lo.dst lo.v G) G)
def fB : Nat → List Log → (Nat → Option Blk) → Nat → Option Blk
  | _, [], B => B
  | i, lo :: l, B => fB (i + 1) l (cond (D i) (updB lo.w B) B)
end fold

theorem putF_ne {d : Option Nat} {v : TV} {G : Nat → TV} {t : Nat} (h : d ≠ some t) : putF d v G t = G t := by
  cases d with
  | none => rfl
  | some d =>
    have hne : ¬ d = t := fun e => h (by rw [e])
    simp [putF, beq_ne hne]
theorem putF_congr {d : Option Nat} {v : TV} {G G' : Nat → TV} {t : Nat} (h : G t = G' t) : putF d v G t = putF d v G' t := by
  cases d with
  | none => exact h
  | some d => simp only [putF, h]
theorem fG_congr {D D' : Nat → Bool} (t : Nat) : ∀ (ls : List Log) (i0 : Nat) (G G' : Nat → TV), (∀ j lo, ls[j]? = some lo → D (i0 + j) ≠ D' (i0 + j) → lo.dst ≠ some t) → G t = G' t → fG D i0 ls G t = fG D' i0 ls G' t
  | [], _, _, _, _, h => h
  | lo :: l, i0, G, G', hd, h => by
    refine fG_congr t l (i0 + 1) _ _ (fun j lo hj hn => hd (j + 1) lo (by simpa using hj) (by rwa [show i0 + (j + 1) = i0 + 1 + j by omega])) ?_
    have h0 := hd 0 lo rfl
    simp only [Nat.add_zero] at h0
    cases h1 : D i0 <;> cases h2 : D' i0 <;> simp only [cond]
    · exact h
    · rw [putF_ne (h0 (by simp [h1, h2]))]; exact h
    · rw [putF_ne (h0 (by simp [h1, h2]))]; exact h
    · exact putF_congr h
theorem fB_congr {D D' : Nat → Bool} : ∀ (ls : List Log) (i0 : Nat) (B : Nat → Option Blk), (∀ j lo, ls[j]? = some lo → D (i0 + j) ≠ D' (i0 + j) → lo.w = []) → fB D i0 ls B = fB D' i0 ls B
  | [], _, _, _ => rfl
  | lo :: l, i0, B, hd => by
    have h0 := hd 0 lo rfl
    simp only [Nat.add_zero] at h0
    have e : cond (D i0) (updB lo.w B) B = cond (D' i0) (updB lo.w B) B := by
      cases h1 : D i0 <;> cases h2 : D' i0 <;> simp only [cond]
      · rw [h0 (by simp [h1, h2])]; rfl
      · rw [h0 (by simp [h1, h2])]; rfl
    unfold fB
    rw [e]
    exact fB_congr l (i0 + 1) _ fun j lo hj hn => hd (j + 1) lo (by simpa using hj) (by rwa [show i0 + (j + 1) = i0 + 1 + j by omega])
theorem fG_none {D : Nat → Bool} : ∀ (ls : List Log) (i0 : Nat) (G : Nat → TV), (∀ j, D (i0 + j) = false) → fG D i0 ls G = G
  | [], _, _, _ => rfl
  | lo :: l, i0, G, h => by
    unfold fG
    have := h 0
    simp only [Nat.add_zero] at this
    rw [this]
    exact fG_none l (i0 + 1) G fun j => by have := h (j + 1); rwa [show i0 + (j + 1) = i0 + 1 + j by omega] at this
theorem fB_none {D : Nat → Bool} : ∀ (ls : List Log) (i0 : Nat) (B : Nat → Option Blk), (∀ j, D (i0 + j) = false) → fB D i0 ls B = B
  | [], _, _, _ => rfl
  | lo :: l, i0, B, h => by
    unfold fB
    have := h 0
    simp only [Nat.add_zero] at this
    rw [this]
    exact fB_none l (i0 + 1) B fun j => by have := h (j + 1); rwa [show i0 + (j + 1) = i0 + 1 + j by omega] at this

theorem putF_comm {d d' : Option Nat} {v v' : TV} {G : Nat → TV} (h : ∀ x, d = some x → d' ≠ some x) : putF d v (putF d' v' G) = putF d' v' (putF d v G) := by
  cases d with
  | none => rfl
  | some x =>
    cases d' with
    | none => rfl
    | some y =>
      funext i
      have hne : y ≠ x := fun e => h x rfl (by rw [e])
      by_cases h1 : x = i
      · subst h1
        simp [putF, beq_ne hne]
      · simp [putF, beq_ne h1]
theorem fG_comm {D : Nat → Bool} (li : Log) : ∀ (ls : List Log) (i0 : Nat) (G : Nat → TV), (∀ j lo, ls[j]? = some lo → D (i0 + j) = true → ∀ x, lo.dst = some x → li.dst ≠ some x) →
    fG D i0 ls (putF li.dst li.v G) = putF li.dst li.v (fG D i0 ls G)
  | [], _, _, _ => rfl
  | lo :: l, i0, G, h => by
    have ih := fun G' => fG_comm li l (i0 + 1) G' fun j lo hj hD => h (j + 1) lo (by simpa using hj) (by rwa [show i0 + (j + 1) = i0 + 1 + j by omega])
    unfold fG
    cases hD : D i0 with
    | false => exact ih G
    | true =>
      simp only [cond]
      rw [putF_comm (h 0 lo rfl hD)]
      exact ih _
theorem updB_comm {w1 w2 : List (Nat × Option Blk)} {B : Nat → Option Blk} (h : ∀ s ∈ keysW w1, s ∉ keysW w2) : updB w1 (updB w2 B) = updB w2 (updB w1 B) := by
  funext s
  unfold updB
  cases h1 : lk w1 s with
  | none => rfl
  | some b1 => cases h2 : lk w2 s with
    | none => rfl
    | some b2 => exact absurd (List.mem_map_of_mem (f := (·.1)) (lk_mem h2)) (h s (List.mem_map_of_mem (f := (·.1)) (lk_mem h1)))
theorem updB_ne {w : List (Nat × Option Blk)} {B : Nat → Option Blk} {s : Nat} (h : s ∉ keysW w) : updB w B s = B s := by
  unfold updB
  cases h1 : lk w s with
  | none => rfl
  | some b1 => exact absurd (List.mem_map_of_mem (f := (·.1)) (lk_mem h1)) h
theorem fB_at {D D' : Nat → Bool} (s : Nat) : ∀ (ls : List Log) (i0 : Nat) (B B' : Nat → Option Blk), (∀ j lo, ls[j]? = some lo → D (i0 + j) ≠ D' (i0 + j) → s ∉ keysW lo.w) → B s = B' s → fB D i0 ls B s = fB D' i0 ls B' s
  | [], _, _, _, _, h => h
  | lo :: l, i0, B, B', hd, h => by
    refine fB_at s l (i0 + 1) _ _ (fun j lo hj hn => hd (j + 1) lo (by simpa using hj) (by rwa [show i0 + (j + 1) = i0 + 1 + j by omega])) ?_
    have h0 := hd 0 lo rfl
    simp only [Nat.add_zero] at h0
    cases h1 : D i0 <;> cases h2 : D' i0 <;> simp only [cond]
    · exact h
    · rw [updB_ne (h0 (by simp [h1, h2]))]; exact h
    · rw [updB_ne (h0 (by simp [h1, h2]))]; exact h
    · unfold updB
      split
      · rfl
      · exact h
theorem fB_comm {D : Nat → Bool} (li : Log) : ∀ (ls : List Log) (i0 : Nat) (B : Nat → Option Blk), (∀ j lo, ls[j]? = some lo → D (i0 + j) = true → ∀ s ∈ keysW li.w, s ∉ keysW lo.w) →
    fB D i0 ls (updB li.w B) = updB li.w (fB D i0 ls B)
  | [], _, _, _ => rfl
  | lo :: l, i0, B, h => by
    have ih := fun B' => fB_comm li l (i0 + 1) B' fun j lo hj hD => h (j + 1) lo (by simpa using hj) (by rwa [show i0 + (j + 1) = i0 + 1 + j by omega])
    unfold fB
    cases hD : D i0 with
    | false => exact ih B
    | true =>
      simp only [cond]
      rw [← updB_comm (h 0 lo rfl hD)]
      exact ih _
theorem fG_insert {D D' : Nat → Bool} (i : Nat) (li : Log) (hDi : D i = false) (hD' : ∀ j, D' j = (D j || Nat.beq i j)) : ∀ (ls : List Log) (i0 : Nat) (G : Nat → TV), i0 ≤ i → ls[i - i0]? = some li →
    (∀ j lo, ls[j]? = some lo → i < i0 + j → D (i0 + j) = true → ∀ x, lo.dst = some x → li.dst ≠ some x) → fG D' i0 ls G = putF li.dst li.v (fG D i0 ls G)
  | [], _, _, _, hl, _ => by simp at hl
  | lo :: l, i0, G, hi, hl, h => by
    unfold fG
    by_cases he : i0 = i
    · subst he
      simp only [Nat.sub_self, List.getElem?_cons_zero, Option.some.injEq] at hl
      subst hl
      rw [hDi, hD' i0, Nat.beq_refl, Bool.or_true]
      simp only [cond]
      rw [← fG_comm lo l (i0 + 1) G fun j lo' hj hD => h (j + 1) lo' (by simpa using hj) (by omega) (by rwa [show i0 + (j + 1) = i0 + 1 + j by omega])]
      have : ∀ j, D' (i0 + 1 + j) = D (i0 + 1 + j) := fun j => by rw [hD', beq_ne (by omega), Bool.or_false]
      funext t
      exact fG_congr t l (i0 + 1) _ _ (fun j lo' _ hn => absurd (this j) hn) rfl
    · have : D' i0 = D i0 := by rw [hD', beq_ne (fun e => he e.symm), Bool.or_false]
      rw [this]
      refine fG_insert i li hDi hD' l (i0 + 1) _ (by omega) ?_ fun j lo' hj hlt hD => h (j + 1) lo' (by simpa using hj) (by omega) (by rwa [show i0 + (j + 1) = i0 + 1 + j by omega])
      rw [show i - i0 = (i - (i0 + 1)) + 1 by omega] at hl
      simpa using hl
theorem fB_insert {D D' : Nat → Bool} (i : Nat) (li : Log) (hDi : D i = false) (hD' : ∀ j, D' j = (D j || Nat.beq i j)) : ∀ (ls : List Log) (i0 : Nat) (B : Nat → Option Blk), i0 ≤ i → ls[i - i0]? = some li →
    (∀ j lo, ls[j]? = some lo → i < i0 + j → D (i0 + j) = true → ∀ s ∈ keysW li.w, s ∉ keysW lo.w) → fB D' i0 ls B = updB li.w (fB D i0 ls B)
  | [], _, _, _, hl, _ => by simp at hl
  | lo :: l, i0, B, hi, hl, h => by
    unfold fB
    by_cases he : i0 = i
    · subst he
      simp only [Nat.sub_self, List.getElem?_cons_zero, Option.some.injEq] at hl
      subst hl
      rw [hDi, hD' i0, Nat.beq_refl, Bool.or_true]
      simp only [cond]
      rw [← fB_comm lo l (i0 + 1) B fun j lo' hj hD => h (j + 1) lo' (by simpa using hj) (by omega) (by rwa [show i0 + (j + 1) = i0 + 1 + j by omega])]
      have : ∀ j, D' (i0 + 1 + j) = D (i0 + 1 + j) := fun j => by rw [hD', beq_ne (by omega), Bool.or_false]
      exact fB_congr l (i0 + 1) _ (fun j lo' _ hn => absurd (this j) hn)
    · have : D' i0 = D i0 := by rw [hD', beq_ne (fun e => he e.symm), Bool.or_false]
      rw [this]
      refine fB_insert i li hDi hD' l (i0 + 1) _ (by omega) ?_ fun j lo' hj hlt hD => h (j + 1) lo' (by simpa using hj) (by omega) (by rwa [show i0 + (j + 1) = i0 + 1 + j by omega])
      rw [show i - i0 = (i - (i0 + 1)) + 1 by omega] at hl
      simpa using hl

section
variable {R : Type} {P : Program} {N k : Nat} {T : List (Nat × Ent)} {ops : Array Oper} {r : R} {K : List (Nat × TV) → List (Nat × Option Blk) → List Log → Option R}

/-- What a region did, in text order. -/
theorem opsK_trace : ∀ (l : List Oper) (i0 nx : Nat) (g : List (Nat × TV)) (b : List (Nat × Option Blk)) (lg : List Log), opsK P T N k ops l (nx + 8 * i0) g b lg K = some r →
    ∃ ls g' b', K g' b' (ls.reverse ++ lg) = some r ∧ ls.length = l.length ∧ gOf g' = fG (fun _ => true) i0 ls (gOf g) ∧ bOf b' = fB (fun _ => true) i0 ls (bOf b) ∧
      ∀ i o lo, l[i]? = some o → ls[i]? = some lo → Step1 P T N k (nx + 8 * (i0 + i)) ops o (fG (fun j => Nat.blt j (i0 + i)) i0 ls (gOf g)) (fB (fun j => Nat.blt j (i0 + i)) i0 ls (bOf b)) lo
  | [], i0, nx, g, b, lg, h => ⟨[], g, b, h, rfl, rfl, rfl, fun i o lo hl => by simp at hl⟩
  | o :: l, i0, nx, g, b, lg, h => by
    obtain ⟨lo, g', b', h1, h2, h3, h4⟩ := opG_step h
    rw [show nx + 8 * i0 + 8 = nx + 8 * (i0 + 1) by omega] at h2
    obtain ⟨ls, g2, b2, h5, h6, h7, h8, h9⟩ := opsK_trace l (i0 + 1) nx g' b' (lo :: lg) h2
    refine ⟨lo :: ls, g2, b2, by simpa using h5, by simp [h6], by rw [h7, h3]; rfl, by rw [h8, h4]; rfl, fun i o' lo' hl hls => ?_⟩
    have hblt : ∀ a b : Nat, Nat.blt a b = decide (a < b) := fun a b => by
      rw [Bool.eq_iff_iff, decide_eq_true_iff]
      exact ⟨fun h => Nat.le_of_ble_eq_true h, fun h => Nat.ble_eq_true_of_le h⟩
    cases i with
    | zero =>
      simp at hl hls
      subst hl; subst hls
      rw [fG_none _ _ _ (fun j => by simp [hblt]), fB_none _ _ _ (fun j => by simp [hblt])]
      exact h1
    | succ i =>
      simp at hl hls
      have := h9 i o' lo' hl hls
      unfold fG fB
      have e : Nat.blt i0 (i0 + (i + 1)) = true := by simp [hblt]
      rw [e]
      simp only [cond]
      rw [← h3, ← h4, show i0 + (i + 1) = i0 + 1 + i by omega]
      exact this
end
end Go.Pi
