/- Each operation does what the executor says: numbers, comparisons. -/
import Derived.Test.YtgofapkelhccgaaPi5
set_option linter.unusedVariables false
set_option linter.unusedSimpArgs false
namespace Go.Pi
open Go.RowKit

section
variable {P : Program} {W0 : World} {A Gv : Nat → Prop} {N : Nat} {U : Nat → Prop} {g : Nat → TV} {B : Nat → Option Blk} {ν : Nat → Value} {a : Act} {w : World} {o : Oper}

theorem run_bin_int (op : BinOp) (t : TypeId) (x y : Operand) (k : IntKind) (m n : Int) (h : op ≠ .shl) (h' : op ≠ .shr) {r : Value}
    (hr : (match op with
      | .add | .sub | .mul => Op.intArith op k m n
      | .quo | .rem => Op.intDiv op k m n
      | .and | .or | .xor | .andNot => Op.intBits op k m n
      | _ => Op.intCmp op m n : Sem Value).run P w = .ok r w) :
    ((do eqGuard op t x y (.int k m) (.int k n); binOp op t (.int k m) (.int k n) : Sem Value).run P w) = .ok r w := by
  have he : (eqGuard op t x y (.int k m) (.int k n)).run P w = .ok () w := by
    unfold eqGuard
    cases op <;> simp
  rw [Sem.run_bind, he, Result.andThen_ok]
  cases op <;> first | (exact absurd rfl h; done) | (exact absurd rfl h'; done) | (simp_all [binOp]; done)

theorem cmpI_run {op : BinOp} {k : IntKind} {x y : Int} {r : Bool} (h : cmpI op x y = some r) (t : TypeId) (ox oy : Operand) :
    ((do eqGuard op t ox oy (.int k x) (.int k y); binOp op t (.int k x) (.int k y) : Sem Value).run P w) = .ok (.bool r) w := by
  unfold cmpI at h
  refine run_bin_int op t ox oy k x y (by rintro rfl; simp at h) (by rintro rfl; simp at h) ?_
  split at h <;> first | (cases h; done) | (cases h; simp [Op.intCmp])

theorem arI_run {op : BinOp} {k : IntKind} {x y : Int} {r : Int} (h : arI op k x y = some (true, r)) (t : TypeId) (ox oy : Operand) :
    ((do eqGuard op t ox oy (.int k x) (.int k y); binOp op t (.int k x) (.int k y) : Sem Value).run P w) = .ok (.int k r) w := by
  unfold arI at h
  refine run_bin_int op t ox oy k x y (by rintro rfl; simp at h) (by rintro rfl; simp at h) ?_
  split at h
  · simp only [Option.some.injEq, Prod.mk.injEq, true_and] at h; subst h; simp [Op.intArith]
  · simp only [Option.some.injEq, Prod.mk.injEq, true_and] at h; subst h; simp [Op.intArith]
  · simp only [Option.some.injEq, Prod.mk.injEq, true_and] at h; subst h; simp [Op.intArith]
  · simp only [Option.some.injEq, Prod.mk.injEq, Bool.not_eq_true', decide_eq_false_iff_not] at h; obtain ⟨h1, rfl⟩ := h; simp [Op.intDiv, h1]
  · simp only [Option.some.injEq, Prod.mk.injEq, Bool.not_eq_true', decide_eq_false_iff_not] at h; obtain ⟨h1, rfl⟩ := h; simp [Op.intDiv, h1]
  · simp only [Option.some.injEq, Prod.mk.injEq, true_and] at h; subst h; exact zbits_run _ _ _ _ (.inl rfl)
  · simp only [Option.some.injEq, Prod.mk.injEq, true_and] at h; subst h; exact zbits_run _ _ _ _ (.inr (.inl rfl))
  · simp only [Option.some.injEq, Prod.mk.injEq, true_and] at h; subst h; exact zbits_run _ _ _ _ (.inr (.inr (.inl rfl)))
  · simp only [Option.some.injEq, Prod.mk.injEq, true_and] at h; subst h; exact zbits_run _ _ _ _ (.inr (.inr (.inr rfl)))
  · cases h

theorem shl_run (t : TypeId) (ox oy : Operand) (k k' : IntKind) (m n : Int) (h : nonneg n = true) :
    ((do eqGuard .shl t ox oy (.int k m) (.int k' n); binOp .shl t (.int k m) (.int k' n) : Sem Value).run P w) = .ok (.int k (zshl k m n)) w := by
  unfold nonneg at h
  have h1 : (0 : Int) ≤ n := of_decide_eq_true h
  have : ¬ (n < 0) := by omega
  simp [eqGuard, binOp, Op.shift, this, zshl]
theorem shr_run (t : TypeId) (ox oy : Operand) (k k' : IntKind) (m n : Int) (h : nonneg n = true) :
    ((do eqGuard .shr t ox oy (.int k m) (.int k' n); binOp .shr t (.int k m) (.int k' n) : Sem Value).run P w) = .ok (.int k (zshr k m n)) w := by
  unfold nonneg at h
  have h1 : (0 : Int) ≤ n := of_decide_eq_true h
  have : ¬ (n < 0) := by omega
  simp [eqGuard, binOp, Op.shift, this, zshr]
theorem cat_run (t : TypeId) (ox oy : Operand) (m n : ByteArray) (h : catOk m n = true) :
    ((do eqGuard .add t ox oy (.string m) (.string n); binOp .add t (.string m) (.string n) : Sem Value).run P w) = .ok (.string (catS m n)) w := by
  unfold catOk at h
  have h1' : m.size + n.size ≤ 9223372036854775807 := of_decide_eq_true h
  have : ¬ (((m.size + n.size : Nat) : Int) > IntKind.i64.max) := by simp [IntKind.max, IntKind.bits, IntKind.signed]; omega
  simp only [eqGuard, binOp, Op.stringOp, if_neg this, catS]
  simp

theorem boolEq_run (t : TypeId) (ht : P.underlying t = some .bool) (ox oy : Operand) (m n : Bool) :
    ((do eqGuard .eql t ox oy (.bool m) (.bool n); binOp .eql t (.bool m) (.bool n) : Sem Value).run P w) = .ok (.bool (eqB m n)) w := by
  have he : (Op.equalIn 10000 t (.bool m) (.bool n)).run P w = .ok (eqB m n) w := by
    rw [show (10000 : Nat) = 9999 + 1 from rfl]
    generalize 9999 = d
    simp only [Op.equalIn, Sem.run_bind, run_underlying ht, Result.andThen_ok, Sem.run_pure, eqB]
  have hg : (eqGuard .eql t ox oy (.bool m) (.bool n)).run P w = .ok () w := rfl
  rw [Sem.run_bind, hg, Result.andThen_ok]
  simp only [binOp, Op.equal, Op.maxDepth, Sem.run_bind, he, Result.andThen_ok, Sem.run_pure]
theorem boolNe_run (t : TypeId) (ht : P.underlying t = some .bool) (ox oy : Operand) (m n : Bool) :
    ((do eqGuard .neq t ox oy (.bool m) (.bool n); binOp .neq t (.bool m) (.bool n) : Sem Value).run P w) = .ok (.bool (notB (eqB m n))) w := by
  have he : (Op.equalIn 10000 t (.bool m) (.bool n)).run P w = .ok (eqB m n) w := by
    rw [show (10000 : Nat) = 9999 + 1 from rfl]
    generalize 9999 = d
    simp only [Op.equalIn, Sem.run_bind, run_underlying ht, Result.andThen_ok, Sem.run_pure, eqB]
  have hg : (eqGuard .neq t ox oy (.bool m) (.bool n)).run P w = .ok () w := rfl
  rw [Sem.run_bind, hg, Result.andThen_ok]
  simp only [binOp, Op.equal, Op.maxDepth, Sem.run_bind, he, Result.andThen_ok, Sem.run_pure, notB]
theorem unXor_run (k : IntKind) (m : Int) : (Op.unary .xor (.int k m)).run P w = .ok (.int k (zbits .xor k (if k.signed then -1 else k.max) m)) w := by
  simp only [Op.unary]
  exact zbits_run .xor k _ _ (.inr (.inr (.inl rfl)))
theorem structEq_run (t : TypeId) (ox oy : Operand) (vs us : Array Value) (b : Bool) (hs2 : P.eqGuardType P.depth t = false) (h : (Op.equal t (.agg vs) (.agg us)).run P w = .ok b w) :
    ((do eqGuard .eql t ox oy (.agg vs) (.agg us); binOp .eql t (.agg vs) (.agg us) : Sem Value).run P w) = .ok (.bool b) w ∧
    ((do eqGuard .neq t ox oy (.agg vs) (.agg us); binOp .neq t (.agg vs) (.agg us) : Sem Value).run P w) = .ok (.bool (notB b)) w := by
  constructor
  · have hg : (eqGuard .eql t ox oy (.agg vs) (.agg us)).run P w = .ok () w := by simp [eqGuard, hs2]
    rw [Sem.run_bind, hg, Result.andThen_ok]
    simp only [binOp, Sem.run_bind, h, Result.andThen_ok, Sem.run_pure]
  · have hg : (eqGuard .neq t ox oy (.agg vs) (.agg us)).run P w = .ok () w := by simp [eqGuard, hs2]
    rw [Sem.run_bind, hg, Result.andThen_ok]
    simp only [binOp, Sem.run_bind, h, Result.andThen_ok, Sem.run_pure, notB]

theorem bin_run {op : BinOp} {t : TypeId} {x y : TV} {tv : TV} {vx vy : Value} {ok : Nat → Prop} (hx : RepTV w ok ν B x vx) (hy : RepTV w ok ν B y vy) (ox oy : Operand)
    (h : bin P op t x y = some (true, tv)) :
    ∃ v, ((do eqGuard op t ox oy vx vy; binOp op t vx vy : Sem Value).run P w) = .ok v w ∧ RepTV w ok ν B tv v ∧ ∀ s, s ∉ tv.sites := by
  unfold bin at h
  split at h
  · rename_i k m k' n
    have ex := rep_int hx
    have ey := rep_int hy
    subst ex; subst ey
    split at h
    · simp only [Option.some.injEq, Prod.mk.injEq] at h
      obtain ⟨h1, rfl⟩ := h
      exact ⟨_, shl_run t ox oy k k' m n h1, int1_rep k _, int1_sites (U := fun _ => False) k _⟩
    · simp only [Option.some.injEq, Prod.mk.injEq] at h
      obtain ⟨h1, rfl⟩ := h
      exact ⟨_, shr_run t ox oy k k' m n h1, int1_rep k _, int1_sites (U := fun _ => False) k _⟩
    · split at h
      · rename_i hk
        subst hk
        split at h
        · rename_i r hr
          simp only [Option.some.injEq, Prod.mk.injEq, true_and] at h
          subst h
          exact ⟨_, cmpI_run hr t ox oy, bool1_rep r, bool1_sites (U := fun _ => False) r⟩
        · split at h
          · rename_i q r hr
            simp only [Option.some.injEq, Prod.mk.injEq] at h
            obtain ⟨rfl, rfl⟩ := h
            exact ⟨_, arI_run hr t ox oy, int1_rep k r, int1_sites (U := fun _ => False) k r⟩
          · cases h
      · cases h
  · rename_i m n
    have ex := rep_bool hx
    have ey := rep_bool hy
    subst ex; subst ey
    split at h
    · rename_i ht
      simp only [Option.some.injEq, Prod.mk.injEq, true_and] at h
      subst h
      exact ⟨_, boolEq_run t ht ox oy m n, bool1_rep _, bool1_sites (U := fun _ => False) _⟩
    · rename_i ht
      simp only [Option.some.injEq, Prod.mk.injEq, true_and] at h
      subst h
      exact ⟨_, boolNe_run t ht ox oy m n, bool1_rep _, bool1_sites (U := fun _ => False) _⟩
    · cases h
  · rename_i m n
    have ex := rep_str hx
    have ey := rep_str hy
    subst ex; subst ey
    split at h
    · simp only [Option.some.injEq, Prod.mk.injEq] at h
      obtain ⟨h1, rfl⟩ := h
      exact ⟨_, cat_run t ox oy m n h1, str1_rep _, str1_sites (U := fun _ => False) _⟩
    · simp only [Option.some.injEq, Prod.mk.injEq, true_and] at h
      subst h
      exact ⟨_, by simp [eqGuard, binOp, Op.stringOp, eqS], bool1_rep _, bool1_sites (U := fun _ => False) _⟩
    · simp only [Option.some.injEq, Prod.mk.injEq, true_and] at h
      subst h
      exact ⟨_, by simp [eqGuard, binOp, Op.stringOp, eqS, notB], bool1_rep _, bool1_sites (U := fun _ => False) _⟩
    · cases h
  · rename_i l m
    obtain ⟨vs, rfl, hl⟩ := hx
    obtain ⟨us, rfl, hm⟩ := hy
    split at h
    · rename_i fs ht
      split at h
      · cases h
      · rename_i hst
        have hs1 : P.stoodInHeld t = false := by cases hq : P.stoodInHeld t <;> simp_all
        have hs2 : P.eqGuardType P.depth t = false := by cases hq : P.eqGuardType P.depth t <;> simp_all
        have hf : P.underlying t = some (.struct (P.fieldsOf t)) := by simp [Program.fieldsOf, ht]
        have hfe : P.fieldsOf t = fs := by simp [Program.fieldsOf, ht]
        have run : ∀ b, eqFields1 P fs.toList l m = some b → (Op.equal t (.agg vs.toArray) (.agg us.toArray)).run P w = .ok b w := by
          intro b hb
          unfold Op.equal
          rw [show Op.maxDepth = 9999 + 1 from rfl, run_equalIn_struct (w := w) 9999 t _ _ hf hs1, hfe]
          exact eqFields1_run fs.toList 9998 l m vs us hl hm hb
        split at h
        · rename_i b hb
          simp only [Option.some.injEq, Prod.mk.injEq, true_and] at h
          subst h
          exact ⟨_, (structEq_run t ox oy _ _ b hs2 (run b hb)).1, bool1_rep _, bool1_sites (U := fun _ => False) _⟩
        · rename_i b hb
          simp only [Option.some.injEq, Prod.mk.injEq, true_and] at h
          subst h
          exact ⟨_, (structEq_run t ox oy _ _ b hs2 (run b hb)).2, bool1_rep _, bool1_sites (U := fun _ => False) _⟩
        · cases h
    · cases h
  · cases h

theorem op_bin (h : Sim W0 A Gv N U g B ν a w) (op : BinOp) (t : TypeId) (x y : Operand) (t' : TypeId) (ho : o.op = .binOp op t x y t') {tv : TV}
    (hb : bin P op t (opnd g x) (opnd g y) = some (true, tv)) : Res P W0 A Gv N U g B tv o a w := by
  obtain ⟨v, hr, hv, hs⟩ := bin_run (h.opnd x) (h.opnd y) x y hb
  refine Res.same h v ?_ hv fun s hx => absurd hx (hs s)
  simp only [execOp, ho]
  simp only [Sem.run_bind] at hr ⊢
  rw [hr]
  rfl

theorem op_un (h : Sim W0 A Gv N U g B ν a w) (op : UnOp) (t : TypeId) (x : Operand) (ho : o.op = .unOp op t x) {tv : TV} (hu : un op (opnd g x) = some tv) : Res P W0 A Gv N U g B tv o a w := by
  have hx := h.opnd x
  unfold un at hu
  split at hu
  · rename_i k m hq
    rw [hq] at hx
    have ex := rep_int hx
    cases hu
    refine Res.same h _ ?_ (int1_rep k _) (int1_sites k _)
    simp [execOp, ho, ex, Op.unary, Op.intArith, negI]
  · rename_i k m hq
    rw [hq] at hx
    have ex := rep_int hx
    cases hu
    refine Res.same h _ ?_ (int1_rep k _) (int1_sites k _)
    have hx := unXor_run (P := P) (w := w) k m
    simp only [execOp, ho, ex, Sem.run_bind] at hx ⊢
    exact (congrArg (fun r => Result.andThen r _) hx).trans rfl
  · rename_i b hq
    rw [hq] at hx
    have ex := rep_bool hx
    cases hu
    refine Res.same h _ ?_ (bool1_rep _) (bool1_sites _)
    simp [execOp, ho, ex, Op.unary, notB]
  · cases hu

theorem op_conv_int (h : Sim W0 A Gv N U g B ν a w) (src dst : TypeId) (x : Operand) (ho : o.op = .convert src dst x) {d : TypeDesc} {k k' : IntKind} {n : CellD (.int k')}
    (hs : P.underlying src = some d) (hd : P.underlying dst = some (.int k)) (hx : opnd g x = .e (.one (.c (.int k') n))) : Res P W0 A Gv N U g B (int1 k (k.wrap n)) o a w := by
  have ex := rep_int (hx ▸ h.opnd x)
  refine Res.same h _ ?_ (int1_rep k _) (int1_sites k _)
  have hq := run_convert_int (P := P) w src dst k n
  simp only [execOp, ho, ex, convert, Sem.run_bind, run_underlying hs, run_underlying hd, Result.andThen_ok]
  cases d <;> simp [Conv.intToInt]

end
end Go.Pi
