/- Each operation does what the executor says: greatest, least, cuts, text, struct literals. -/
import Derived.Test.YtgofapkelhccgaaPi8
set_option linter.unusedVariables false
set_option linter.unusedSimpArgs false
namespace Go.Pi
open Go.RowKit

section
variable {P : Program} {W0 : World} {A Gv : Nat → Prop} {N : Nat} {U : Nat → Prop} {g : Nat → TV} {B : Nat → Option Blk} {ν : Nat → Value} {a : Act} {w : World} {o : Oper}

theorem mapM_ints (h : Sim W0 A Gv N U g B ν a w) : ∀ {l : List Operand} {is : List Int}, l.mapM (fun x => getI (opnd g x)) = some is → ∃ ks : List IntKind, l.map a.eval = List.zipWith Value.int ks is ∧ ks.length = is.length
  | [], is, e => by
    simp at e
    subst e
    exact ⟨[], rfl, rfl⟩
  | x :: l, is, e => by
    simp only [List.mapM_cons, bind, Option.bind_eq_some_iff] at e
    obtain ⟨i, hi, is', his, e⟩ := e
    cases e
    obtain ⟨ks, hk, hl⟩ := mapM_ints h his
    obtain ⟨k, hv⟩ := getI_rep hi (h.opnd x)
    exact ⟨k :: ks, by simp [hv, hk], by simp [hl]⟩

theorem foldlM_max (k : IntKind) : ∀ (ks : List IntKind) (is : List Int) (m : Int), ks.length = is.length → ((List.zipWith Value.int ks is).foldlM Builtin.max2 (.int k m) : Sem Value).run P w = .ok (.int k (is.foldl zmax m)) w
  | [], [], m, _ => by simp
  | k' :: ks, i :: is, m, h => by
    simp only [List.zipWith_cons_cons, List.foldlM_cons, Sem.run_bind, Builtin.max2, Sem.run_pure, Result.andThen_ok, List.foldl_cons]
    exact foldlM_max k ks is (zmax m i) (by simpa using h)
  | [], _ :: _, _, h => by simp at h
  | _ :: _, [], _, h => by simp at h
theorem foldlM_min (k : IntKind) : ∀ (ks : List IntKind) (is : List Int) (m : Int), ks.length = is.length → ((List.zipWith Value.int ks is).foldlM Builtin.min2 (.int k m) : Sem Value).run P w = .ok (.int k (is.foldl zmin m)) w
  | [], [], m, _ => by simp
  | k' :: ks, i :: is, m, h => by
    simp only [List.zipWith_cons_cons, List.foldlM_cons, Sem.run_bind, Builtin.min2, Sem.run_pure, Result.andThen_ok, List.foldl_cons]
    exact foldlM_min k ks is (zmin m i) (by simpa using h)
  | [], _ :: _, _, h => by simp at h
  | _ :: _, [], _, h => by simp at h

theorem op_max (h : Sim W0 A Gv N U g B ν a w) (args : Array Operand) (ts : Array TypeId) (ho : o.op = .call { callee := .builtin .max, args := args, argTypes := ts }) {is : List Int} {k : IntKind} {x : CellD (.int k)} {m : Int}
    (hi : args.toList.mapM (fun x => getI (opnd g x)) = some is) (hk : args.toList.head?.map (opnd g) = some (.e (.one (.c (.int k) x)))) (hm : mxL is = some m) : Res P W0 A Gv N U g B (int1 k m) o a w := by
  obtain ⟨ks, h1, h2⟩ := mapM_ints h hi
  cases hl : args.toList with
  | nil => rw [hl] at hk; cases hk
  | cons y l =>
    rw [hl] at hi hk h1
    simp only [List.head?_cons, Option.map_some, Option.some.injEq] at hk
    have hy := rep_int (hk ▸ h.opnd y)
    cases is with
    | nil => cases hm
    | cons i is =>
      cases ks with
      | nil => simp at h2
      | cons k' ks =>
        simp only [List.map_cons, List.zipWith_cons_cons, List.cons.injEq] at h1
        obtain ⟨e1, e2⟩ := h1
        rw [hy] at e1
        injection e1 with e3 e4
        subst e3
        subst e4
        simp only [mxL, Option.some.injEq] at hm
        subst hm
        refine Res.same h _ ?_ (int1_rep _ _) (int1_sites _ _)
        have hr := foldlM_max (P := P) (w := w) k ks is x (Nat.succ.inj h2)
        have ha : (args.map a.eval).toList = .int k x :: List.zipWith Value.int ks is := by rw [Array.toList_map, hl, List.map_cons, e2, hy]
        simp only [execOp, ho, resolve, invoke, builtin, Sem.run_bind, Sem.run_pure, Result.andThen_ok, Builtin.max_, ha]
        exact (congrArg (fun r => Result.andThen r _) hr).trans rfl

theorem op_min (h : Sim W0 A Gv N U g B ν a w) (args : Array Operand) (ts : Array TypeId) (ho : o.op = .call { callee := .builtin .min, args := args, argTypes := ts }) {is : List Int} {k : IntKind} {x : CellD (.int k)} {m : Int}
    (hi : args.toList.mapM (fun x => getI (opnd g x)) = some is) (hk : args.toList.head?.map (opnd g) = some (.e (.one (.c (.int k) x)))) (hm : mnL is = some m) : Res P W0 A Gv N U g B (int1 k m) o a w := by
  obtain ⟨ks, h1, h2⟩ := mapM_ints h hi
  cases hl : args.toList with
  | nil => rw [hl] at hk; cases hk
  | cons y l =>
    rw [hl] at hi hk h1
    simp only [List.head?_cons, Option.map_some, Option.some.injEq] at hk
    have hy := rep_int (hk ▸ h.opnd y)
    cases is with
    | nil => cases hm
    | cons i is =>
      cases ks with
      | nil => simp at h2
      | cons k' ks =>
        simp only [List.map_cons, List.zipWith_cons_cons, List.cons.injEq] at h1
        obtain ⟨e1, e2⟩ := h1
        rw [hy] at e1
        injection e1 with e3 e4
        subst e3
        subst e4
        simp only [mnL, Option.some.injEq] at hm
        subst hm
        refine Res.same h _ ?_ (int1_rep _ _) (int1_sites _ _)
        have hr := foldlM_min (P := P) (w := w) k ks is x (Nat.succ.inj h2)
        have ha : (args.map a.eval).toList = .int k x :: List.zipWith Value.int ks is := by rw [Array.toList_map, hl, List.map_cons, e2, hy]
        simp only [execOp, ho, resolve, invoke, builtin, Sem.run_bind, Sem.run_pure, Result.andThen_ok, Builtin.min_, ha]
        exact (congrArg (fun r => Result.andThen r _) hr).trans rfl

/-! cuts -/
theorem optI_rep (h : Sim W0 A Gv N U g B ν a w) {x : Option Operand} {i : Option Int} (hi : optI g x = some i) : (x = none ∧ i = none) ∨ ∃ k j, i = some j ∧ x.map a.eval = some (.int k j) := by
  unfold optI at hi
  split at hi
  · cases hi; exact .inl ⟨rfl, rfl⟩
  · rename_i y
    split at hi
    · rename_i j hj
      cases hi
      obtain ⟨k, hv⟩ := getI_rep hj (h.opnd y)
      exact .inr ⟨k, j, rfl, by simp [hv]⟩
    · cases hi

/-- The bounds of a cut, as Go has them: within the length. -/
theorem run_bounds (isSlice : Bool) (len cap : Nat) (hlc : len ≤ cap) {lo hi : Option Int} (hg : cutG lo hi len = true) (vl vh : Option Value)
    (hl : (vl = none ∧ lo = none) ∨ ∃ k j, lo = some j ∧ vl = some (.int k j)) (hh : (vh = none ∧ hi = none) ∨ ∃ k j, hi = some j ∧ vh = some (.int k j)) :
    (Instr.sliceBounds isSlice len cap vl vh none).run P w = .ok ((lo.map Int.toNat).getD 0, (hi.map Int.toNat).getD len, cap) w := by
  have sb : ∀ (k : IntKind) (i : Int) (y : Nat) code, 0 ≤ i → i ≤ (y : Int) → (Instr.sliceBound (.int k i) y code).run P w = .ok i.toNat w := by
    intro k i y code h0 h1
    simp [Instr.sliceBound, asIntOf, h0, h1]
  unfold cutG at hg
  rcases hl with ⟨rfl, rfl⟩ | ⟨k, j, rfl, rfl⟩ <;> rcases hh with ⟨rfl, rfl⟩ | ⟨k', j', rfl, rfl⟩
  · simp [Instr.sliceBounds]
  · simp only [Bool.and_eq_true, decide_eq_true_eq] at hg
    simp [Instr.sliceBounds, sb k' j' cap _ hg.1 (by omega)]
  · simp only [Bool.and_eq_true, decide_eq_true_eq] at hg
    simp [Instr.sliceBounds, sb k j len _ hg.1 hg.2]
  · simp only [Bool.and_eq_true, decide_eq_true_eq] at hg
    obtain ⟨h1, h2, h3⟩ := hg
    have e : ((j'.toNat : Nat) : Int) = j' := by omega
    simp [Instr.sliceBounds, sb k' j' cap _ (by omega) (by omega), sb k j j'.toNat _ h1 (by omega)]

theorem op_slice_str (h : Sim W0 A Gv N U g B ν a w) (t : TypeId) (x : Operand) (lo hi : Option Operand) (ho : o.op = .slice t x lo hi none) (ht : P.underlying t = some .string) {s : CellD .str} (hx : opnd g x = .e (.one (.c .str s)))
    {l r : Option Int} (hl : optI g lo = some l) (hr : optI g hi = some r) (hg : cutG l r (ByteArray.size s) = true) : Res P W0 A Gv N U g B (str1 (cutS l r s)) o a w := by
  have hv := rep_str (hx ▸ h.opnd x)
  refine Res.same h _ ?_ (str1_rep _) (str1_sites _)
  have hb := run_bounds (P := P) (w := w) false (ByteArray.size s) (ByteArray.size s) (Nat.le_refl _) hg (lo.map a.eval) (hi.map a.eval)
    (by rcases optI_rep h hl with ⟨rfl, rfl⟩ | h1; exact .inl ⟨rfl, rfl⟩; exact .inr h1) (by rcases optI_rep h hr with ⟨rfl, rfl⟩ | h1; exact .inl ⟨rfl, rfl⟩; exact .inr h1)
  simp [execOp, ho, hv, Instr.sliceAt, Instr.slice, run_underlying ht, hb, cutS]

theorem run_sliceAt_sl {t e : TypeId} (ht : P.underlying t = some (.slice e)) {n : Nat} (hn : sizeT P e = some n) (Ad : Option Addr) (len cap : Nat) {vl vh : Option Value} {l r m : Nat}
    (hb : (Instr.sliceBounds true len cap vl vh none).run P w = .ok (l, r, m) w) :
    (Instr.sliceAt t (.slice Ad len cap) vl vh none).run P w = .ok (.slice (if m = l then Ad else Ad.map (·.add (l * n))) (r - l) (m - l)) w := by
  have hs := run_size (P := P) (w := w) hn
  simp [Instr.sliceAt, Instr.slice, run_underlying ht, hb, hs]

theorem cutL_len {α : Type} {lo hi : Option Int} {xs : List α} (hg : cutG lo hi xs.length = true) : (cutL lo hi xs).length = (hi.map Int.toNat).getD xs.length - (lo.map Int.toNat).getD 0 := by
  unfold cutG at hg
  unfold cutL
  cases lo <;> cases hi <;> simp only [Bool.and_eq_true, decide_eq_true_eq] at hg <;> simp <;> omega
theorem cutL_bd {lo hi : Option Int} {n : Nat} (hg : cutG lo hi n = true) : (lo.map Int.toNat).getD 0 ≤ (hi.map Int.toNat).getD n ∧ (hi.map Int.toNat).getD n ≤ n := by
  unfold cutG at hg
  cases lo <;> cases hi <;> simp only [Bool.and_eq_true, decide_eq_true_eq] at hg <;> simp <;> omega
theorem cutL_eq {α : Type} {lo hi : Option Int} {xs : List α} (hg : cutG lo hi xs.length = true) : cutL lo hi xs = (xs.take ((hi.map Int.toNat).getD xs.length)).drop ((lo.map Int.toNat).getD 0) := by
  unfold cutL
  cases lo <;> cases hi <;> simp

/-- A cut of what is read. ok1: also what the row's own block is, if it is one. -/
theorem cut_rep {ok : Nat → Prop} {r : Shs} {xs : List (RowD r)} {Ad : Option Addr} {c : Nat} {css : List (List Value)} {lo hi : Option Int} (hg : cutG lo hi xs.length = true) (h1 : xs.length ≤ c) (h2 : c ≤ maxLen)
    (h3 : All2 (fun x cs => RepR w ok r x cs) xs css) (h4 : 0 < xs.length → ∃ ad, Ad = some ad ∧ ok ad.block ∧ ad.spot = none ∧ ∀ j u, css.flatten[j]? = some u → w.cell? (ad.add j) = some u) :
    RepC w ok (.sl r) (cutL lo hi xs) (.slice (if c = (lo.map Int.toNat).getD 0 then Ad else Ad.map (·.add ((lo.map Int.toNat).getD 0 * r.size))) ((hi.map Int.toNat).getD xs.length - (lo.map Int.toNat).getD 0) (c - (lo.map Int.toNat).getD 0)) := by
  have hlen := cutL_len hg
  have hbd := cutL_bd hg
  have heq := cutL_eq hg
  generalize (lo.map Int.toNat).getD 0 = l at *
  generalize (hi.map Int.toNat).getD xs.length = q at *
  refine ⟨_, _, (css.take q).drop l, by rw [hlen], by rw [hlen]; omega, by omega, ?_, fun hp => ?_⟩
  · rw [heq]; exact (h3.take q).drop l
  · have hp' : 0 < (cutL lo hi xs).length := hp
    rw [hlen] at hp'
    obtain ⟨ad, rfl, h5, h6, h7⟩ := h4 (by omega)
    have hne : ¬ c = l := by omega
    rw [if_neg hne]
    refine ⟨ad.add (l * r.size), rfl, by rw [add_eq h6]; exact h5, by rw [add_eq h6], fun j u hj => ?_⟩
    have e1 : css.flatten = ((css.take q).take l).flatten ++ (((css.take q).drop l).flatten ++ (css.drop q).flatten) := by
      rw [← List.append_assoc, ← List.flatten_append, List.take_append_drop, ← List.flatten_append, List.take_append_drop]
    have e2 : ((css.take q).take l).flatten.length = l * r.size := by
      rw [flat_len ((h3.take q).take l), List.length_take, List.length_take]
      congr 1
      omega
    have := h7 (l * r.size + j) u (by
      rw [e1, List.getElem?_append_right (by omega), e2, Nat.add_sub_cancel_left, List.getElem?_append_left (List.getElem?_eq_some_iff.1 hj).1]
      exact hj)
    rw [add_eq h6] at this
    rw [add_eq h6, add_eq rfl]
    simpa [Nat.add_assoc] using this

end
end Go.Pi
