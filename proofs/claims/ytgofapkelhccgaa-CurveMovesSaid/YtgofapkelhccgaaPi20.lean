/- Calls: the operation. -/
import Derived.Test.YtgofapkelhccgaaPi19
set_option linter.unusedVariables false
set_option linter.unusedSimpArgs false
namespace Go.Pi
open Go.RowKit

section
variable (P : Program) (W0 : World) (A Gv : Nat → Prop) (N : Nat) (U : Nat → Prop) (g : Nat → TV) (B : Nat → Option Blk) (tv : TV) (o : Oper) (a : Act) (w : World)
/-- The operation runs, and comes to what the executor says of it. -/
def Did : Prop := (∀ s ∈ tv.sites, U s) ∧ ∀ (next : Act → World → Prop) (Q : Exit → Act → World → Prop),
  (∀ v w1 ν1, Sim W0 A Gv N U g B ν1 a w1 → RepTV w1 (okS W0 A Gv ν1 B w1) ν1 B tv v → next (a.put o.dst v) w1) → o.wp P a w next Q
end

section
variable {P : Program} {W0 : World} {A Gv : Nat → Prop} {N : Nat} {U : Nat → Prop} {g : Nat → TV} {B : Nat → Option Blk} {ν : Nat → Value} {a : Act} {w : World} {o : Oper}

theorem Res.did {tv : TV} (h : Res P W0 A Gv N U g B tv o a w) : Did P W0 A Gv N U g B tv o a w := by
  obtain ⟨nx, v, w1, ν1, hr, hn, h1, h2, h3⟩ := h
  refine ⟨h3, fun next Q hk => ?_⟩
  unfold Oper.wp
  rw [hr]
  rcases hn with rfl | ⟨rfl, rfl⟩
  · exact hk _ _ _ h1 h2
  · exact hk _ _ _ h1 h2
theorem Res.mono {tv : TV} {U1 : Nat → Prop} (hU : ∀ s, U s → U1 s) (h : Res P W0 A Gv N U g B tv o a w) : Res P W0 A Gv N U1 g B tv o a w := by
  obtain ⟨nx, v, w1, ν1, hr, hn, h1, h2, h3⟩ := h
  exact ⟨nx, v, w1, ν1, hr, hn, h1.mono hU, h2, fun s hs => hU s (h3 s hs)⟩

theorem op_call (h : Sim W0 A Gv N U g B ν a w) (c : Call) (ho : o.op = .call c) {f : Operand} (hc : c.callee = .value f) {n : FuncId} (hf : funOf (opnd g f) = some n) {E : Ent} (hE : Holds P n E) {x : ArgsD E.ps}
    (hp : packA B E.ps (c.args.toList.map (opnd g)) = some x) (hnd : (takenA E.ps (c.args.toList.map (opnd g))).Nodup) (hdis : ∀ s ∈ takenA E.ps (c.args.toList.map (opnd g)), s ∉ lentA E.ps (c.args.toList.map (opnd g)))
    {base : Nat} (hbase : ∀ j, j < E.rs.length → ¬ U (base + j)) {k : Nat} {r : ResD E.rs} (hr : E.fn k x = some r) :
    Did P W0 A Gv N (fun i => U i ∨ ∃ j, j < E.rs.length ∧ i = base + j) g
      (updB (callEff base E ((takenA E.ps (c.args.toList.map (opnd g))).map (fun s => (s, none)) ++ (if E.rs.any RK.leaks then frz B (lentA E.ps (c.args.toList.map (opnd g))) else [])) r).w B)
      (callEff base E ((takenA E.ps (c.args.toList.map (opnd g))).map (fun s => (s, none)) ++ (if E.rs.any RK.leaks then frz B (lentA E.ps (c.args.toList.map (opnd g))) else [])) r).v o a w := by
  let A' : Nat → Prop := fun y => okS W0 A Gv ν B w y ∨ ∃ s ∈ lentA E.ps (c.args.toList.map (opnd g)), ∃ e r xs fz, B s = some (.row e r xs fz) ∧ ownB (ν s) = some y
  obtain ⟨hA1, htkv, htk⟩ := packA_rep h (ok1 := A') (fun _ => .inl) E.ps c.args.toList x (fun s hs e r xs fz y hb hy => .inr ⟨s, hs, e, r, xs, fz, hb, hy⟩) hp
  have hgv : ∀ b, GvOf ((takenA E.ps (c.args.toList.map (opnd g))).map ν) b → ∃ s ∈ takenA E.ps (c.args.toList.map (opnd g)), ownB (ν s) = some b := by
    rintro b ⟨v, hv, hx⟩
    obtain ⟨s, hs, rfl⟩ := List.mem_map.1 hv
    exact ⟨s, hs, hx⟩
  have hcall := hE.calls k x r (c.args.toList.map a.eval) w A' hr (fun b hb => ?_) ?_ hA1
  rotate_left
  · rw [htkv]
    rcases hb with hb | ⟨s, hs, e, r, xs, fz, hb, hy⟩
    · refine ⟨h.okLt hb, fun hg => ?_⟩
      obtain ⟨s, hs, hx⟩ := hgv b hg
      obtain ⟨e, r, xs, hB⟩ := htk s hs
      rcases hb with ha | ⟨_, _, hne⟩
      · have h1 := h.old b ha
        rcases ((h.bl s _ hB).own hx).1 with h2 | h2
        · omega
        · exact h1.2 h2
      · exact hne s _ hB rfl hx
    · refine ⟨((h.bl s _ hb).own hy).2, fun hg => ?_⟩
      obtain ⟨s', hs', hx⟩ := hgv b hg
      obtain ⟨e, r, xs, hB⟩ := htk s' hs'
      exact hdis s' hs' (h.inj s s' _ _ b hb hB hy hx ▸ hs)
  · rw [htkv]
    refine List.pairwise_map.2 ?_
    have := List.nodup_iff_pairwise_ne.1 hnd
    refine List.Pairwise.imp_of_mem (fun {s s'} hs hs' hne y hy hy' => ?_) this
    obtain ⟨e, r, xs, hB⟩ := htk s hs
    obtain ⟨e', r', xs', hB'⟩ := htk s' hs'
    exact hne (h.inj s s' _ _ y hB hB' hy hy')
  rw [htkv] at hcall
  -- what is lent is written no more, if the results may lead there
  have hfz : ∃ B', B' = updB (if E.rs.any RK.leaks then frz B (lentA E.ps (c.args.toList.map (opnd g))) else []) B ∧ Sim W0 A Gv N U g B' ν a w ∧ (E.rs.any RK.leaks = true → ∀ y, A' y → okS W0 A Gv ν B' w y) ∧
      ∀ s ∈ takenA E.ps (c.args.toList.map (opnd g)), ∃ e r xs, B' s = some (.row e r xs false) := by
    refine ⟨_, rfl, ?_⟩
    cases hl : E.rs.any RK.leaks with
    | false => exact ⟨h, fun hh => Bool.noConfusion hh, htk⟩
    | true =>
      obtain ⟨h1, h2, h3, h4⟩ := h.freeze (lentA E.ps (c.args.toList.map (opnd g)))
      refine ⟨h1, fun _ y hy => ?_, fun s hs => ?_⟩
      · rcases hy with hy | ⟨s, hs, e, r, xs, fz, hb, hy⟩
        · exact h2 y hy
        · exact h3 s hs e r xs fz y hb hy
      · obtain ⟨e, r, xs, hB⟩ := htk s hs
        refine ⟨e, r, xs, ?_⟩
        simp only [if_true]
        rw [frz_lk, hB]
        simp [hdis s hs]
  obtain ⟨B', hB', h', hA', htk'⟩ := hfz
  have hw : updB (callEff base E ((takenA E.ps (c.args.toList.map (opnd g))).map (fun s => (s, none)) ++ (if E.rs.any RK.leaks then frz B (lentA E.ps (c.args.toList.map (opnd g))) else [])) r).w B =
      updB (resW base E.rs r ++ (takenA E.ps (c.args.toList.map (opnd g))).map (fun s => (s, none))) B' := by
    rw [hB', ← updB_append]
    simp only [callEff, List.append_assoc]
  rw [hw]
  refine ⟨fun s hs => ?_, fun next Q hk => ?_⟩
  · obtain ⟨j, h1, h2⟩ := goV_sites (resL E.rs r) base s (by rw [← resV_go]; exact tupV_sites hs)
    exact .inr ⟨j, by rwa [resL_len] at h1, h2⟩
  · obtain ⟨fn, hfn, hb, hnm⟩ := hE.there
    have hfv : a.eval f = .func (.func n) #[] #[] := funOf_rep hf (h.opnd f)
    have hrun : (execOp a.eval o).run P w = .ok (.enter n (c.args.toList.map a.eval).toArray) w := by
      have h1 : fn.name ≠ "runtime.NumGoroutine" := by simpa using hnm
      obtain ⟨cd, hcd⟩ : ∃ cd, fn.body = some cd := Option.isSome_iff_exists.1 (by cases hbb : fn.body <;> simp_all)
      have harr : c.args.map a.eval = (c.args.toList.map a.eval).toArray := by rw [← Array.toList_map]
      simp [execOp, ho, resolve, hc, hfv, Deferred.ofValue, invoke, callFunc, hfn, h1, hcd, harr]
    unfold Oper.wp
    rw [hrun, Oper.upon_enter]
    refine hcall.mono fun e w' he => ?_
    obtain ⟨us, rfl, hkp, hap, hrs⟩ := he
    obtain ⟨ν1, h1, h2, h3⟩ := h'.called htk' hbase hkp hap hA' hrs
    exact hk _ _ _ h1 h2

end
end Go.Pi
