/- Arrays: stores, and the slice of a whole array. -/
import Derived.Test.YtgofapkelhccgaaPi21
set_option linter.unusedVariables false
set_option linter.unusedSimpArgs false
namespace Go.Pi
open Go.RowKit

section
variable {P : Program} {W0 : World} {A Gv : Nat → Prop} {N : Nat} {U : Nat → Prop} {g : Nat → TV} {B : Nat → Option Blk} {ν : Nat → Value} {a : Act} {w : World} {o : Oper}

theorem op_store_arr (h : Sim W0 A Gv N U g B ν a w) (t : TypeId) (p x : Operand) (ho : o.op = .store t p x) {s : Nat} {r : Shs} {i : Int} {off : Nat} (hp : opnd g p = .e (.one (.rptr s r i off))) {v : EV} (hx : opnd g x = .e v) {n : Nat} (hn : sizeT P t = some n) (hl : v.cells.length = n)
    {e : TypeId} {m : Nat} {xs : List (RowD r)} (hB : B s = some (.arr e r m xs)) (hfit : off + n ≤ r.size) {y : RowD r} (hy : packR B r (setCells (unpackR r (gd r.dflt xs i)) off v.cells) = some y)
    {ss : List Nat} (hss : ss = v.cells.flatMap CV.rowSites) :
    Res P W0 A Gv N U g (setB (updB (frz B ss) B) s (some (.arr e r m (xs.set i.toNat y)))) (.tup []) o a w := by
  obtain ⟨_, hpv⟩ := (hp ▸ h.opnd p : RepTV w (okS W0 A Gv ν B w) ν B (.e (.one (.rptr s r i off))) (a.eval p))
  obtain ⟨q, r', m', hν, he, hi0, him, hpv⟩ := hpv _ hB
  simp only [Blk.elems, Option.some.injEq, Prod.mk.injEq] at he
  obtain ⟨rfl, rfl⟩ := he
  have hv := (hx ▸ h.opnd x : RepTV w (okS W0 A Gv ν B w) ν B (.e v) (a.eval x))
  have hc := EV_cells hv
  obtain ⟨hf1, hf2, hf3, hf4⟩ := h.freeze ss
  have hB' : updB (frz B ss) B s = some (.arr e r m xs) := by
    rw [frz_lk, hB]
  obtain ⟨q', css, h7, h3, h9, h1, h8⟩ := h.bl _ _ hB
  obtain ⟨cs, h4, h5, h6⟩ := flat_at h1 i.toNat _ (gd_get (d := r.dflt) hi0 him)
  have hcl : (a.eval x).cells.size = n := by rw [← Array.length_toList, ← hc.len, hl]
  have hcs : cs.length = r.size := h5.len
  have hlen := flat_len h1
  rw [h7] at hν
  simp only [baseG, Option.some.injEq] at hν
  subst hν
  have hit : i.toNat < xs.length := by omega
  have hrow : i.toNat * r.size + r.size ≤ xs.length * r.size := by
    rw [show i.toNat * r.size + r.size = (i.toNat + 1) * r.size by rw [Nat.add_mul]; omega]
    exact Nat.mul_le_mul_right _ hit
  have hrun := run_storeVar (P := P) (w := w) (cur := css.flatten) (off := i.toNat * r.size + off) hn h8 hcl (by rw [hlen]; omega) (All2.ones hc)
  -- the new row
  have hnewc : All2 (RepCV w (okS W0 A Gv ν B w) ν B) (setCells (unpackR r (gd r.dflt xs i)) off v.cells) (cs.take off ++ (a.eval x).cells.toList ++ cs.drop (off + (a.eval x).cells.toList.length)) := setCells_rep (unpack_rep h5) hc off
  have hrs : ∀ s' ∈ (setCells (unpackR r (gd r.dflt xs i)) off v.cells).flatMap CV.rowSites, s' ∈ ss := by
    intro s' hs'
    rw [List.mem_flatMap] at hs'
    obtain ⟨c, hcm, hs'⟩ := hs'
    unfold setCells at hcm
    simp only [List.mem_append] at hcm
    have hno : ∀ c, c ∈ unpackR r (gd r.dflt xs i) → c.rowSites = [] := by
      intro c hcm'
      have := unpack_sites hcm'
      cases c <;> simp_all [CV.sites, CV.rowSites]
    rcases hcm with (hcm | hcm) | hcm
    · rw [hno c (List.mem_of_mem_take hcm)] at hs'; cases hs'
    · rw [hss]
      exact List.mem_flatMap.2 ⟨c, hcm, hs'⟩
    · rw [hno c (List.mem_of_mem_drop hcm)] at hs'; cases hs'
  have hrep := packR_rep h hf2 r _ _ (fun s' hs' => hf3 s' (hrs s' hs')) y hy hnewc
  have hvl : (a.eval x).cells.toList.length = n := by simpa using hcl
  have hnew : (cs.take off ++ (a.eval x).cells.toList ++ cs.drop (off + (a.eval x).cells.toList.length)).length = r.size := hrep.len
  generalize hnc : cs.take off ++ (a.eval x).cells.toList ++ cs.drop (off + (a.eval x).cells.toList.length) = nc at *
  -- in memory
  have hcss : css[i.toNat]? = some cs := h4
  have hmem : (css.flatten.take (i.toNat * r.size + off) ++ (a.eval x).cells.toList ++ css.flatten.drop (i.toNat * r.size + off + (a.eval x).cells.toList.length)) = (css.set i.toNat nc).flatten := by
    have hlens : ∀ c ∈ css, c.length = r.size := by
      intro c hcm
      obtain ⟨j, hj⟩ := List.getElem?_of_mem hcm
      have hjl : j < xs.length := by rw [h1.len]; exact (List.getElem?_eq_some_iff.1 hj).1
      obtain ⟨c', hc', hr'⟩ := h1.get j _ (List.getElem?_eq_getElem hjl)
      rw [hj] at hc'
      cases hc'
      exact hr'.len
    rw [← flat_set i.toNat nc hlens hnew (by rw [← h1.len]; exact hit)]
    have hflen : css.flatten.length = xs.length * r.size := hlen
    have e0 : i.toNat * r.size + off ≤ css.flatten.length := by omega
    have e1 : i.toNat * r.size + off + n ≤ css.flatten.length := by omega
    rw [hvl]
    have e2 : css.flatten = css.flatten.take (i.toNat * r.size) ++ (cs ++ css.flatten.drop (i.toNat * r.size + r.size)) := by
      have e3 : (css.flatten.drop (i.toNat * r.size)).take r.size = cs := by
        apply List.ext_getElem?
        intro k
        rw [List.getElem?_take]
        split
        · rename_i hk
          rw [List.getElem?_drop]
          cases hck : cs[k]? with
          | none => rw [List.getElem?_eq_none_iff] at hck; omega
          | some u => exact h6 k u hck
        · rename_i hk
          rw [List.getElem?_eq_none_iff.2 (by omega)]
      conv => lhs; rw [← List.take_append_drop (i.toNat * r.size) css.flatten, ← List.take_append_drop r.size (css.flatten.drop (i.toNat * r.size)), e3, List.drop_drop]
    have hT : (css.flatten.take (i.toNat * r.size)).length = i.toNat * r.size := by rw [List.length_take]; omega
    have e4 : css.flatten.take (i.toNat * r.size + off) = css.flatten.take (i.toNat * r.size) ++ cs.take off := by
      conv => lhs; rw [e2]
      rw [List.take_append, hT, Nat.add_sub_cancel_left, List.take_of_length_le (by omega), List.take_append_of_le_length (by omega)]
    have e5 : css.flatten.drop (i.toNat * r.size + off + n) = cs.drop (off + n) ++ css.flatten.drop (i.toNat * r.size + r.size) := by
      conv => lhs; rw [e2]
      rw [List.drop_append, hT, List.drop_of_length_le (by omega), List.nil_append, show i.toNat * r.size + off + n - i.toNat * r.size = off + n by omega, List.drop_append_of_le_length (by omega)]
    rw [e4, e5, ← hnc, hvl]
    simp only [List.append_assoc]
  rw [hmem] at hrun
  have hsim := hf1.write (b1 := .arr e r m (xs.set i.toNat y)) hB' rfl rfl ⟨rfl, by simp [Blk.elems]⟩ (q := q') (by rw [h7]; rfl) (grown_setRow w q' (css.set i.toNat nc).flatten.toArray) (size_setRow w q' _) (fun c hc => by cases hc) (fun ok1 B1 hk1 hk2 hk3 => by
    have hA : All2 (fun x cs => RepR (w.setRow q' (css.set i.toNat nc).flatten.toArray) ok1 r x cs) (xs.set i.toNat y) (css.set i.toNat nc) := by
      refine All2.set _ (h1.imp fun x cs hx => ?_) ?_
      · exact RepR.move hk2 hk1 r x cs (RepR.move (fun _ _ => rfl) hf2 r x cs hx)
      · exact RepR.move hk2 hk1 r y nc hrep
    exact ⟨q', css.set i.toNat nc, h7, h3, by rw [List.length_set]; exact h9, hA, setRow_heap w q' _ _ e (0, 0) h8⟩)
  refine ⟨_, undef, _, ν, ?_, .inr ⟨rfl, rfl⟩, hsim, ⟨[], rfl, trivial⟩, fun s' hs' => by simp [TV.sites] at hs'⟩
  simp only [execOp, ho, hpv, Instr.storeAt, Instr.sureAddr, Sem.run_bind, Sem.run_pure, Result.andThen_ok, hrun]


/-- A name is given up: what it stood for is written no more. -/
theorem Sim.kill (h : Sim W0 A Gv N U g B ν a w) (s : Nat) : Sim W0 A Gv N U g (setB B s none) ν a w ∧ (∀ x, okS W0 A Gv ν B w x → okS W0 A Gv ν (setB B s none) w x) ∧
    ∀ b x, B s = some b → ownB (ν s) = some x → okS W0 A Gv ν (setB B s none) w x := by
  have hok : ∀ x, okS W0 A Gv ν B w x → okS W0 A Gv ν (setB B s none) w x := by
    intro x hx
    rcases hx with hx | ⟨h1, h2, h3⟩
    · exact .inl hx
    · refine .inr ⟨h1, h2, fun s' b hb hm => ?_⟩
      by_cases hs : s = s'
      · subst hs; rw [setB_eq] at hb; cases hb
      · rw [setB_ne _ _ hs] at hb; exact h3 s' b hb hm
  refine ⟨h.step (Tc := fun i => i = s) (fun _ h => h) rfl rfl rfl (Nat.le_refl _) (fun _ _ _ => rfl) (fun i hi => ⟨setB_ne _ _ (Ne.symm hi), fun _ => rfl⟩) ?_ ?_ ?_ ?_ ?_ ?_, hok, ?_⟩
  · rintro i rfl _
    exact .inl (setB_eq _ _ _)
  · rintro i b1 x rfl hb1
    rw [setB_eq] at hb1; cases hb1
  · rintro i b1 rfl hb1
    rw [setB_eq] at hb1; cases hb1
  · rintro _ _ i b1 rfl hb1
    rw [setB_eq] at hb1; cases hb1
  · rintro i i' b b' x rfl hb1
    rw [setB_eq] at hb1; cases hb1
  · intro i b b1 hi h1 h2
    rw [setB_ne _ _ (Ne.symm hi), h1] at h2
    exact (Option.some.inj h2).symm
  · intro b x hb hx
    have h1 := (h.bl s b hb).own hx
    refine .inr ⟨h1.1, h1.2, fun s' b' hb' hm hx' => ?_⟩
    by_cases hs : s = s'
    · subst hs; rw [setB_eq] at hb'; cases hb'
    · rw [setB_ne _ _ hs] at hb'
      exact hs (h.inj s s' b b' x hb hb' hx hx')

theorem op_slice_arr (h : Sim W0 A Gv N U g B ν a w) (t : TypeId) (x : Operand) (ho : o.op = .slice t x none none none) {n : Nat} {e : TypeId} (ht : P.underlying t = some (.array n e)) {k : Nat} (hk : sizeT P e = some k) (hn : n ≤ 16777216)
    {s : Nat} (hx : opnd g x = .e (.one (.ptr s 0))) {t' : TypeId} {r : Shs} {m : Nat} {xs : List (RowD r)} (hB : B s = some (.arr t' r m xs)) (hm : m = n) :
    Res P W0 A Gv N U g (setB B s none) (one (.c (.sl r) xs)) o a w := by
  subst hm
  obtain ⟨_, hv⟩ := (hx ▸ h.opnd x : RepTV w (okS W0 A Gv ν B w) ν B (.e (.one (.ptr s 0))) (a.eval x))
  obtain ⟨_, q, hν, hv⟩ := hv _ hB
  obtain ⟨q', css, h1, h2, h3, h4, h5⟩ := h.bl _ _ hB
  rw [h1] at hν
  simp only [Value.pointer.injEq, Option.some.injEq, Addr.mk.injEq, and_true] at hν
  subst hν
  obtain ⟨k1, k2, k3⟩ := h.kill s
  have hs := run_size (P := P) (w := w) hk
  refine ⟨_, .slice (some ⟨q', 0, none⟩) m m, w, ν, ?_, .inl rfl, k1, ?_, fun s' hs' => by simp [one, TV.sites, EV.sites, EV.cells, CV.sites] at hs'⟩
  · have e0 : (⟨q', 0, none⟩ : Addr).add 0 = ⟨q', 0, none⟩ := rfl
    simp [execOp, ho, hv, Instr.sliceAt, run_underlying ht, Instr.sureAddr, Instr.sliceBounds, hs, e0]
  · show RepC w _ (.sl r) xs _
    simp only [RepC]
    refine ⟨some ⟨q', 0, none⟩, m, css, by rw [h3], by rw [h3]; exact Nat.le_refl _, by unfold maxLen; omega, h4.imp fun x cs hx => RepR.move (fun _ _ => rfl) k2 r x cs hx, fun hp => ⟨_, rfl, k3 _ q' hB (by rw [h1]; rfl), rfl, fun j u hj => ?_⟩⟩
    rw [add_eq rfl, Nat.zero_add, cell_of_row w q' j _ t' (0, 0) h5]
    simpa using hj
end
end Go.Pi
