/- New rows: the operations. -/
import Derived.Test.YtgofapkelhccgaaPi13
set_option linter.unusedVariables false
set_option linter.unusedSimpArgs false
namespace Go.Pi
open Go.RowKit

section
variable {P : Program} {W0 : World} {A Gv : Nat → Prop} {N : Nat} {U : Nat → Prop} {g : Nat → TV} {B : Nat → Option Blk} {ν : Nat → Value} {a : Act} {w : World} {o : Oper}

theorem find_map {α β : Type} (f : α → β) (j : Nat) : ∀ (l : List (Nat × α)), (l.map fun p => (p.1, f p.2)).find? (fun p => p.1 == j) = (l.find? (fun p => p.1 == j)).map fun p => (p.1, f p.2)
  | [] => rfl
  | p :: l => by
    simp only [List.map_cons, List.find?_cons]
    cases p.1 == j
    · exact find_map f j l
    · rfl

theorem elemT_eq {t e : TypeId} (h : elemT P t = some e) : P.underlying t = some (.slice e) := by
  unfold elemT at h
  split at h
  · cases h; assumption
  · cases h

theorem zeros_flat (z : List Value) (n : Nat) (hz : 0 < z.length) : (Array.range (n * z.length)).map (fun i => z.toArray[i % z.toArray.size]!) = (List.replicate n z).flatten.toArray := by
  apply Array.ext'
  simp only [Array.toList_map, Array.toList_range, List.size_toArray]
  induction n with
  | zero => simp
  | succ n ih =>
    rw [List.replicate_succ', List.flatten_append, ← ih, Nat.add_mul, Nat.one_mul, List.range_add, List.map_append]
    congr 1
    simp only [List.map_map, List.flatten_cons, List.flatten_nil, List.append_nil]
    apply List.ext_getElem
    · simp
    · intro i h1 h2
      simp only [List.length_map, List.length_range] at h1
      simp [Nat.mul_add_mod', Nat.mod_eq_of_lt h1, h1]

theorem op_buildSlice (h : Sim W0 A Gv N U g B ν a w) (t : TypeId) (n : Nat) (parts : Array (Nat × Operand)) (ho : o.op = .buildSlice t n parts) {e : TypeId} (ht : elemT P t = some e) {r : Shs} {z : List Value} (hz : zeroT P e = some z)
    (hn : sizeT P e = some r.size) (hzr : zeroIs r z = true) (hlim : n * r.size ≤ 16777216) (hnd : (parts.toList.map (·.1)).Nodup) (hlt : ∀ p ∈ parts.toList, p.1 < n) {xs : List (RowD r)}
    (hx : litRows B r (parts.toList.map fun p => (p.1, opnd g p.2)) 0 n = some xs) {ss : List Nat} (hss : ss = parts.toList.flatMap fun p => match opnd g p.2 with | .e x => x.cells.flatMap CV.rowSites | _ => [])
    (hU : ∀ s, U s → U s) {s : Nat} (hs : ¬ U s) :
    Res P W0 A Gv N (fun i => U i ∨ i = s) g (setB (updB (frz B ss) B) s (some (.row e r xs false))) (one (.own s)) o a w := by
  have ht' := elemT_eq ht
  obtain ⟨i, v, hi, hv, hvc, hrun⟩ := zero_eq (w := w) hz
  obtain ⟨hf1, hf2, hf3, hf4⟩ := h.freeze ss
  obtain ⟨hxl, hxg⟩ := litRows_get n 0 hx
  have hzlen : z.length = r.size := RepR.len (zeroIs_rep (w := w) (ok := fun _ => True) hzr)
  -- every part's value
  have hpart : ∀ p ∈ parts.toList, ∃ x, opnd g p.2 = .e x ∧ (a.eval p.2).cells.size = r.size ∧ All2 (RepCV w (okS W0 A Gv ν B w) ν B) x.cells (a.eval p.2).cells.toList := by
    intro p hp
    obtain ⟨y, hy, hf⟩ := hxg p.1 (hlt p hp)
    have hfind : parts.toList.find? (fun q => q.1 == p.1) = some p := by
      have hpp : parts.toList.find? (fun q => q.1 == p.1) ≠ none := by
        rw [ne_eq, List.find?_eq_none]
        intro hq
        exact hq p hp (by simp)
      obtain ⟨q, hq⟩ := Option.ne_none_iff_exists'.1 hpp
      have hq1 : q.1 = p.1 := by simpa using List.find?_some hq
      have hq2 := List.mem_of_find?_eq_some hq
      rw [hq]
      congr 1
      clear hx hss hxg hf hpp hq
      generalize parts.toList = L at *
      induction L with
      | nil => cases hp
      | cons c L ih =>
        simp only [List.map_cons, List.nodup_cons] at hnd
        rcases List.mem_cons.1 hp with rfl | hp' <;> rcases List.mem_cons.1 hq2 with rfl | hq'
        · rfl
        · exact absurd (hq1 ▸ List.mem_map_of_mem hq') hnd.1
        · exact absurd (hq1 ▸ List.mem_map_of_mem hp') hnd.1
        · exact ih hnd.2 (fun q hq => hlt q (by simp [hq])) hp' hq'
    rw [Nat.zero_add, find_map, hfind] at hf
    simp only [Option.map_some] at hf
    split at hf
    · rename_i e1; cases e1
    · rename_i e1
      rename_i k x
      simp only [Option.some.injEq, Prod.mk.injEq] at e1
      have hr := (e1.2 ▸ h.opnd p.2 : RepTV w (okS W0 A Gv ν B w) ν B (.e x) (a.eval p.2))
      have hc := EV_cells hr
      have hrep := packR_rep h (ok1 := fun _ => True) (fun _ _ => trivial) r x.cells _ (fun _ _ _ _ _ _ _ _ _ => trivial) y hf hc
      exact ⟨x, e1.2, by rw [← Array.length_toList]; exact hrep.len, hc⟩
    · exact hf.elim
  let vals : List (Nat × Value) := parts.toList.map fun p => (p.1, a.eval p.2)
  let css : List (List Value) := vals.foldl (fun cs p => cs.set p.1 p.2.cells.toList) (List.replicate n z)
  have hvals : ∀ p ∈ vals, p.2.cells.size = r.size ∧ p.1 < (List.replicate n z).length := by
    intro p hp
    obtain ⟨q, hq, rfl⟩ := List.mem_map.1 hp
    obtain ⟨x, _, h2, _⟩ := hpart q hq
    exact ⟨h2, by simpa using hlt q hq⟩
  have hfill := fill_rows (n := r.size) vals (List.replicate n z) (fun c hc => by rw [(List.mem_replicate.1 hc).2]; exact hzlen) hvals
  have hlenf : ∀ (l : List (Nat × Value)) (cs : List (List Value)), (l.foldl (fun cs p => cs.set p.1 p.2.cells.toList) cs).length = cs.length := by
    intro l
    induction l with
    | nil => intro cs; rfl
    | cons p l ih => intro cs; rw [List.foldl_cons, ih, List.length_set]
  have hcl : css.length = n := by rw [hlenf]; simp
  have hnd' : (vals.map (·.1)).Nodup := by simpa [vals, List.map_map, Function.comp_def] using hnd
  have hcss : All2 (fun x cs => RepR w (okS W0 A Gv ν (updB (frz B ss) B) w) r x cs) xs css := by
    refine All2.ofGet (by rw [hxl, hcl]) fun j y c hy hc => ?_
    have hj : j < n := by rw [← hxl]; exact (List.getElem?_eq_some_iff.1 hy).1
    obtain ⟨y', hy', hf⟩ := hxg j hj
    rw [hy] at hy'
    cases hy'
    have hc' := set_fold_get j vals (List.replicate n z) hnd' (fun p hp => (hvals p hp).2) (by simpa using hj)
    rw [show (vals.foldl (fun cs p => cs.set p.1 p.2.cells.toList) (List.replicate n z))[j]? = some c from hc, find_map] at hc'
    rw [Nat.zero_add, find_map] at hf
    cases hfd : parts.toList.find? (fun p => p.1 == j) with
    | none =>
      rw [hfd] at hf hc'
      simp only [Option.map_none] at hf hc'
      subst hf
      have : c = z := by
        have h1 : (List.replicate n z)[j]? = some z := by simp [hj]
        rw [h1] at hc'
        exact Option.some.inj hc'
      subst this
      exact zeroIs_rep hzr
    | some p =>
      rw [hfd] at hf hc'
      simp only [Option.map_some] at hf hc'
      cases hc'
      have hpm := List.mem_of_find?_eq_some hfd
      obtain ⟨x, hx1, _, hx3⟩ := hpart p hpm
      split at hf
      · rename_i e1; cases e1
      · rename_i e1
        rename_i k x'
        simp only [Option.some.injEq, Prod.mk.injEq] at e1
        rw [hx1] at e1
        obtain ⟨_, e2⟩ := e1
        cases e2
        exact packR_rep h hf2 r x.cells _ (fun s' hs' e' r' xs' fz x' hB hx' => hf3 s' (by
          rw [hss, List.mem_flatMap]
          exact ⟨p, hpm, by rw [hx1]; exact hs'⟩) e' r' xs' fz x' hB hx') y hf hx3
      · exact hf.elim
  have hsz : css.flatten.length = n * r.size := by rw [flat_len hcss, hxl]
  obtain ⟨ν1, h1, h2⟩ := new_row hf1 hs e (w1 := w.alloc (.cells css.flatten.toArray e)) (u := .slice (some ⟨w.heap.size, 0, none⟩) n n) (World.grownBy_alloc w _ none) hcss
    ⟨by rw [hsz, hxl], .inr ⟨w.heap.size, n, css.flatten.toArray, by rw [hxl], Nat.zero_le _, heap_alloc_new w _, by rw [hxl]; exact Nat.le_refl _, by
      have := r.size_pos
      have : n ≤ n * r.size := Nat.le_mul_of_pos_right _ this
      simp only [maxLen]; omega, by simp only [List.size_toArray]; exact hsz, by rw [hxl]; simp only []; rw [← hsz]; exact List.take_length⟩⟩ (fun x hx => by simp [ownB] at hx; omega)
  refine ⟨_, _, _, ν1, ?_, .inl rfl, h1, h2, fun s' hs' => ?_⟩
  · have hsz' := run_size (P := P) (w := w) hn
    have hnl : ¬ (n * r.size > 2 ^ 24) := by omega
    have hvz : v.cells = z.toArray := by rw [← hvc]
    have hfill' : Instr.fill (fun i => some (i * r.size, r.size)) (List.replicate n z).flatten.toArray (parts.toList.map fun p => (p.1, a.eval p.2)) = some css.flatten.toArray := hfill
    have key : (Instr.buildSlice t n (parts.map fun (i, x) => (i, a.eval x))).run P w = .ok (.slice (some ⟨w.heap.size, 0, none⟩) n n) (w.alloc (.cells css.flatten.toArray e)) := by
      unfold Instr.buildSlice
      simp only [Sem.run_bind, run_underlying ht', Result.andThen_ok, hsz', if_neg hnl, Sem.run_pure, Array.toList_map]
      by_cases h0 : n * r.size = 0
      · have hn0 : n = 0 := by
          rcases Nat.mul_eq_zero.1 h0 with h3 | h3
          · exact h3
          · have := r.size_pos; omega
        subst hn0
        have hp0 : parts.toList = [] := by
          cases hl : parts.toList with
          | nil => rfl
          | cons p l => have := hlt p (by rw [hl]; simp); omega
        have hc0 : css.flatten = [] := List.eq_nil_of_length_eq_zero (by rw [hsz, Nat.zero_mul])
        simp [h0, hp0, hc0, Instr.fill, newRow, newObj, Array.range_zero']
        rfl
      · have hz0 : 0 < z.length := by rw [hzlen]; exact r.size_pos
        have hzf := zeros_flat z n hz0
        rw [hzlen] at hzf
        simp only [if_neg h0, Sem.run_bind, hrun, Result.andThen_ok, Sem.run_pure, hvz, hzf, hfill', newRow, newObj]
        rfl
    simp only [execOp, ho, Sem.run_bind, key, Result.andThen_ok, Sem.run_pure]
  · rw [one_sites] at hs'
    simp only [CV.sites, List.mem_singleton] at hs'
    exact .inr hs'

theorem op_makeSlice (h : Sim W0 A Gv N U g B ν a w) (t : TypeId) (l c : Operand) (ho : o.op = .makeSlice t l c) {e : TypeId} (ht : elemT P t = some e) {n m : Int} (hn : getI (opnd g l) = some n) (hm : getI (opnd g c) = some m) {r : Shs} {z : List Value}
    (hz : zeroT P e = some z) {i : TypeInfo} (hi : P.info? e = some i) (hsz : i.size = r.size) (hzr : zeroIs r z = true) (hby : 0 < i.bytes) (hg : (decide (0 ≤ n) && (decide (n ≤ m) && decide (m * i.bytes ≤ 140737488355328))) = true) {s : Nat} (hs : ¬ U s) :
    Res P W0 A Gv N (fun i => U i ∨ i = s) g (setB B s (some (.row e r (List.replicate n.toNat r.dflt) false))) (one (.own s)) o a w := by
  simp only [Bool.and_eq_true, decide_eq_true_eq] at hg
  obtain ⟨h0, h1, h2⟩ := hg
  have ht' := elemT_eq ht
  obtain ⟨i', v, hi', hv, hvc, hrun⟩ := zero_eq (w := w) hz
  rw [hi] at hi'
  cases hi'
  obtain ⟨kl, hl⟩ := getI_rep hn (h.opnd l)
  obtain ⟨kc, hc⟩ := getI_rep hm (h.opnd c)
  have hzlen : z.length = r.size := RepR.len (zeroIs_rep (w := w) (ok := fun _ => True) hzr)
  have hmb : m ≤ m * (i.bytes : Int) := by
    have : (1 : Int) ≤ i.bytes := by omega
    have := Int.mul_le_mul_of_nonneg_left this (show (0 : Int) ≤ m by omega)
    omega
  have hr := run_make (P := P) w t e i v ht' hi hv kl kc n m h0 h1 (by rw [Int.mul_comm]; omega) (by omega)
  have hvz : v.cells = z.toArray := by rw [← hvc]
  have hmade : madeCells v.cells (m.toNat * i.size) = (List.replicate m.toNat z).flatten.toArray := by
    have := zeros_flat z m.toNat (by rw [hzlen]; exact r.size_pos)
    rw [hzlen] at this
    rw [hvz, hsz]
    exact this
  rw [hmade] at hr
  have hall : All2 (fun x cs => RepR w (okS W0 A Gv ν B w) r x cs) (List.replicate n.toNat r.dflt) (List.replicate n.toNat z) := All2.replicate _ (zeroIs_rep hzr)
  have hfl := flat_len hall
  have hfm : (List.replicate m.toNat z).flatten.length = m.toNat * r.size := by
    rw [flat_size (n := r.size) (fun c hc => by rw [(List.mem_replicate.1 hc).2]; exact hzlen), List.length_replicate]
  obtain ⟨ν1, h3, h4⟩ := new_row h hs e (World.grownBy_alloc w (.cells (List.replicate m.toNat z).flatten.toArray e) none) hall (u := .slice (some ⟨w.heap.size, 0, none⟩) n.toNat m.toNat)
    ⟨hfl, .inr ⟨w.heap.size, m.toNat, (List.replicate m.toNat z).flatten.toArray, by simp, Nat.zero_le _, heap_alloc_new w _, by simp; omega, by simp only [maxLen]; omega, by simp only [List.size_toArray]; exact hfm, by
      simp only [List.length_replicate] at hfl ⊢
      have e1 : m.toNat = n.toNat + (m.toNat - n.toNat) := by omega
      rw [e1, ← List.replicate_append_replicate, List.flatten_append, ← hfl]
      exact List.take_left⟩⟩ (fun x hx => by simp [ownB] at hx; omega)
  refine ⟨_, _, _, ν1, ?_, .inl rfl, h3, h4, fun s' hs' => ?_⟩
  · simp only [execOp, ho, hl, hc, Sem.run_bind, hr, Result.andThen_ok, Sem.run_pure]
  · rw [one_sites] at hs'
    simp only [CV.sites, List.mem_singleton] at hs'
    exact .inr hs'

theorem zeroRows_rep {ok : Nat → Prop} {r : Shs} : ∀ (n : Nat) (z : List Value), prep.zeroRows r n z = true → ∃ css, z = css.flatten ∧ All2 (fun x cs => RepR w ok r x cs) (List.replicate n r.dflt) css
  | 0, z, h => by
    simp only [prep.zeroRows, List.isEmpty_iff] at h
    exact ⟨[], by simp [h], trivial⟩
  | n + 1, z, h => by
    simp only [prep.zeroRows, Bool.and_eq_true] at h
    obtain ⟨css, h1, h2⟩ := zeroRows_rep n _ h.2
    exact ⟨z.take r.size :: css, by rw [List.flatten_cons, ← h1, List.take_append_drop], ⟨zeroIs_rep h.1, h2⟩⟩

theorem op_alloc_arr (h : Sim W0 A Gv N U g B ν a w) (t : TypeId) (ho : o.op = .alloc t) {z : List Value} (hz : zeroT P t = some z) {r : Shs} {n : Nat} (hzr : prep.zeroRows r n z = true) {s : Nat} (hs : ¬ U s) :
    Res P W0 A Gv N (fun i => U i ∨ i = s) g (setB B s (some (.arr t r n (List.replicate n r.dflt)))) (one (.ptr s 0)) o a w := by
  obtain ⟨i, v, hi, hv, hvc, hrun⟩ := zero_eq (w := w) hz
  obtain ⟨css, hcz, hall⟩ := zeroRows_rep (w := w) (ok := okS W0 A Gv ν B w) n z hzr
  have hn := h.new hs (World.grownBy_alloc w (.cells z.toArray t) none) (.arr t r n (List.replicate n r.dflt)) (.pointer (some ⟨w.heap.size, 0, none⟩)) (fun x hx => by cases hx) (fun x hx => by simp [ownB] at hx; omega) (fun ok1 ν1 B1 h1 h2 h3 h4 => by
    refine ⟨w.heap.size, css, h4, .inl h.kept.size, by simp, hall.imp fun x cs hx => RepR.move h2 h1 r x cs hx, ?_⟩
    rw [← hcz]
    exact heap_alloc_new w _)
  refine ⟨_, _, _, _, ?_, .inl rfl, hn.1, (⟨rfl, fun b hb => ?_⟩ : RepCV _ _ _ _ (.ptr s 0) (.pointer (some ⟨w.heap.size, 0, none⟩))), fun s' hs' => ?_⟩
  · have e : v.cells = z.toArray := by rw [← hvc]
    simp [execOp, ho, Instr.alloc, hrun, newVar, newRow, newObj, e]
    rfl
  · rw [setB_eq] at hb
    cases hb
    exact ⟨rfl, w.heap.size, setν_eq _ _ _, rfl⟩
  · rw [one_sites] at hs'
    simp only [CV.sites, List.mem_singleton] at hs'
    exact .inr hs'

end
end Go.Pi
