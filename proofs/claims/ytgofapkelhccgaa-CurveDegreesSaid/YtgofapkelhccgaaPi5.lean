/- Each operation does what the executor says. First part: what computes and reads. -/
import Derived.Test.YtgofapkelhccgaaPi4
import Derived.Laws.StructEq
import Derived.Laws.BytesString
import Derived.Laws.BitsLemmas
set_option linter.unusedVariables false
set_option linter.unusedSimpArgs false
namespace Go.Pi
open Go.RowKit

def updB (w : List (Nat × Option Blk)) (B : Nat → Option Blk) : Nat → Option Blk := fun s => match lk w s with
  | some b => b
  | none => B s
theorem updB_nil (B : Nat → Option Blk) : updB [] B = B := rfl

section
variable (P : Program) (W0 : World) (A Gv : Nat → Prop) (N : Nat) (U : Nat → Prop) (g : Nat → TV) (B : Nat → Option Blk) (tv : TV) (o : Oper) (a : Act) (w : World)
/-- The operation runs, and what the executor says of it holds. -/
def Res : Prop := ∃ nx v w1 ν1, (execOp a.eval o).run P w = .ok nx w1 ∧ (nx = .value v ∨ nx = .skip ∧ v = undef) ∧ Sim W0 A Gv N U g B ν1 a w1 ∧
  RepTV w1 (okS W0 A Gv ν1 B w1) ν1 B tv v ∧ ∀ s ∈ tv.sites, U s
end

section
variable {P : Program} {W0 : World} {A Gv : Nat → Prop} {N : Nat} {U : Nat → Prop} {g : Nat → TV} {B : Nat → Option Blk} {ν : Nat → Value} {a : Act} {w : World} {o : Oper}

theorem Sim.mono (h : Sim W0 A Gv N U g B ν a w) {U1 : Nat → Prop} (hU : ∀ s, U s → U1 s) : Sim W0 A Gv N U1 g B ν a w :=
  ⟨h.old, h.kept, h.defs, h.size, h.tm, fun i s hs => hU s (h.us i s hs), fun s b hb => ⟨hU _ (h.ub s b hb).1, fun x hx s' hs => hU _ ((h.ub s b hb).2 x hx s' hs)⟩, h.bl, h.inj⟩

theorem ofCell_rep {ok : Nat → Prop} {v : Value} (hv : v.oneCell' = true) : RepCV w ok ν B (ofCell v) v := by
  cases v <;> simp [ofCell, RepCV, RepC, hv]
theorem ofCell_sites (v : Value) : (ofCell v).sites = [] := by cases v <;> rfl

theorem Sim.opnd (h : Sim W0 A Gv N U g B ν a w) (x : Operand) : RepTV w (okS W0 A Gv ν B w) ν B (opnd g x) (a.eval x) := by
  cases x with
  | tmp t => exact h.tm t
  | const v =>
    simp only [Pi.opnd, ofVal, Act.eval]
    split
    · exact ofCell_rep (by assumption)
    · trivial
  | func f => simp [Pi.opnd, Act.eval, RepTV, RepEV, RepCV, Value.oneCell']
  | global i => trivial

theorem Sim.opnd_sites (h : Sim W0 A Gv N U g B ν a w) (x : Operand) : ∀ s ∈ (Pi.opnd g x).sites, U s := by
  cases x with
  | tmp t => exact h.us t
  | const v =>
    simp only [Pi.opnd, ofVal]
    split
    · intro s hs; simp [TV.sites, EV.sites, EV.cells, ofCell_sites] at hs
    · intro s hs; simp [TV.sites] at hs
  | func f => intro s hs; simp [Pi.opnd, TV.sites, EV.sites, EV.cells, CV.sites] at hs
  | global i => intro s hs; simp [Pi.opnd, TV.sites] at hs

/-- An operation that only computes or reads. -/
theorem Res.same (h : Sim W0 A Gv N U g B ν a w) {tv : TV} (v : Value) (hr : (execOp a.eval o).run P w = .ok (.value v) w)
    (hv : RepTV w (okS W0 A Gv ν B w) ν B tv v) (hs : ∀ s ∈ tv.sites, U s) : Res P W0 A Gv N U g B tv o a w :=
  ⟨_, v, w, ν, hr, .inl rfl, h, hv, hs⟩

theorem rep_int {ok : Nat → Prop} {k : IntKind} {x : CellD (.int k)} {v : Value} (h : RepTV w ok ν B (.e (.one (.c (.int k) x))) v) : v = .int k x := by
  simpa only [RepTV, RepEV, RepCV, RepC] using h
theorem rep_bool {ok : Nat → Prop} {x : CellD .bool} {v : Value} (h : RepTV w ok ν B (.e (.one (.c .bool x))) v) : v = .bool x := by
  simpa only [RepTV, RepEV, RepCV, RepC] using h
theorem rep_str {ok : Nat → Prop} {x : CellD .str} {v : Value} (h : RepTV w ok ν B (.e (.one (.c .str x))) v) : v = .string x := by
  simpa only [RepTV, RepEV, RepCV, RepC] using h
theorem int1_rep {ok : Nat → Prop} (k : IntKind) (x : Int) : RepTV w ok ν B (int1 k x) (.int k x) := by simp [int1, RepTV, RepEV, RepCV, RepC]
theorem bool1_rep {ok : Nat → Prop} (x : Bool) : RepTV w ok ν B (bool1 x) (.bool x) := by simp [bool1, RepTV, RepEV, RepCV, RepC]
theorem str1_rep {ok : Nat → Prop} (x : ByteArray) : RepTV w ok ν B (str1 x) (.string x) := by simp [str1, RepTV, RepEV, RepCV, RepC]
theorem int1_sites (k : IntKind) (x : Int) : ∀ s ∈ (int1 k x).sites, U s := by intro s hs; simp [int1, TV.sites, EV.sites, EV.cells, CV.sites] at hs
theorem bool1_sites (x : Bool) : ∀ s ∈ (bool1 x).sites, U s := by intro s hs; simp [bool1, TV.sites, EV.sites, EV.cells, CV.sites] at hs
theorem str1_sites (x : ByteArray) : ∀ s ∈ (str1 x).sites, U s := by intro s hs; simp [str1, TV.sites, EV.sites, EV.cells, CV.sites] at hs

theorem op_move (h : Sim W0 A Gv N U g B ν a w) (x : Operand) (ho : o.op = .move x ∨ o.op = .assign x) : Res P W0 A Gv N U g B (opnd g x) o a w := by
  refine Res.same h (a.eval x) ?_ (h.opnd x) (h.opnd_sites x)
  rcases ho with ho | ho <;> simp [execOp, ho]

theorem phi_rep {ok : Nat → Prop} {b : Bool} {x y : TV} {vx vy : Value} (hx : RepTV w ok ν B x vx) (hy : RepTV w ok ν B y vy) : RepTV w ok ν B (phi b x y) (cond b vx vy) := by
  unfold phi
  split
  · rename_i s u s' v
    split
    · rename_i v' hc
      unfold castD at hc
      split at hc
      · rename_i e
        subst e
        cases hc
        cases b
        · exact hy
        · exact hx
      · cases hc
    · cases b
      · exact hy
      · exact hx
  · cases b
    · exact hy
    · exact hx

theorem phi_sites {b : Bool} {x y : TV} (hx : ∀ s ∈ x.sites, U s) (hy : ∀ s ∈ y.sites, U s) : ∀ s ∈ (phi b x y).sites, U s := by
  unfold phi
  split
  · split
    · intro s hs; simp [TV.sites, EV.sites, EV.cells, CV.sites] at hs
    · cases b
      · exact hy
      · exact hx
  · cases b
    · exact hy
    · exact hx

theorem op_pick (h : Sim W0 A Gv N U g B ν a w) (c x y : Operand) (ho : o.op = .pick c x y) {t : CellD .bool} (hc : opnd g c = .e (.one (.c .bool t))) :
    Res P W0 A Gv N U g B (phi t (opnd g x) (opnd g y)) o a w := by
  have hb := rep_bool (hc ▸ h.opnd c)
  refine Res.same h (cond t (a.eval x) (a.eval y)) ?_ (phi_rep (h.opnd x) (h.opnd y)) (phi_sites (h.opnd_sites x) (h.opnd_sites y))
  simp only [execOp, ho, hb, asBool, Sem.run_bind, Sem.run_pure, Result.andThen_ok]
  cases (show Bool from t) <;> rfl

theorem op_extract (h : Sim W0 A Gv N U g B ν a w) (t : Operand) (i : Nat) (ho : o.op = .extract t i) {l : List EV} (ht : opnd g t = .tup l) {x : EV} (hx : l[i]? = some x) :
    Res P W0 A Gv N U g B (.e x) o a w := by
  obtain ⟨vs, hv, hr⟩ := (ht ▸ h.opnd t : RepTV w (okS W0 A Gv ν B w) ν B (.tup l) (a.eval t))
  obtain ⟨u, hu, hru⟩ := hr.get i x hx
  refine Res.same h u ?_ hru fun s hs => h.opnd_sites t s ?_
  · simp [execOp, ho, hv, Instr.extract, hu]
  · rw [ht]
    simp only [TV.sites, List.mem_flatMap]
    exact ⟨x, List.mem_of_getElem? hx, hs⟩

theorem zbits_run (op : BinOp) (k : IntKind) (x y : Int) (hop : op = .and ∨ op = .or ∨ op = .xor ∨ op = .andNot) : (Op.intBits op k x y).run P w = .ok (.int k (zbits op k x y)) w := by
  rcases hop with rfl | rfl | rfl | rfl <;> simp [Op.intBits, zbits]

theorem eqFields1_run : ∀ (fs : List Field) (d : Nat) (xs ys : List CV) (vs us : List Value) {ok : Nat → Prop} {b : Bool}, All2 (RepCV w ok ν B) xs vs → All2 (RepCV w ok ν B) ys us →
    eqFields1 P fs xs ys = some b → (Op.eqFields (d + 1) vs.toArray us.toArray fs).run P w = .ok b w
  | [], d, xs, ys, vs, us, ok, b, _, _, h => by
    simp only [eqFields1, Option.some.injEq] at h
    subst h
    simp [Op.eqFields]
  | f :: fs, d, xs, ys, vs, us, ok, b, hx, hy, h => by
    unfold eqFields1 at h
    split at h
    · cases h
    · rename_i hn
      have part1 : ∀ (dsc : TypeDesc), P.underlying f.type = some dsc → (match dsc with | .struct _ | .array _ _ => false | _ => true) = true → ∀ (zs : List Value) u, zs[f.offset]? = some u → (part f.type zs.toArray f.offset).run P w = .ok u w := by
        intro dsc hd hna zs u hu
        unfold part isAgg
        cases dsc <;> simp_all [run_underlying hd]
      split at h
      · rename_i k k1 x k2 y hu hxs hys
        split at h
        · rename_i hk
          obtain ⟨rfl, rfl⟩ := hk
          cases hrest : eqFields1 P fs xs ys with
          | none => simp [hrest] at h
          | some b' =>
            simp only [hrest, Option.map_some, Option.some.injEq] at h
            subst h
            obtain ⟨u1, h1, r1⟩ := hx.get _ _ hxs
            obtain ⟨u2, h2, r2⟩ := hy.get _ _ hys
            simp only [RepCV, RepC] at r1 r2
            subst r1; subst r2
            have ih := eqFields1_run fs d xs ys vs us hx hy hrest
            cases hq : eqI x y <;> (unfold eqI at hq; simp [Op.eqFields, hn, Sem.run_bind, part1 _ hu rfl _ _ h1, part1 _ hu rfl _ _ h2, Op.equalIn, run_underlying hu, andB, eqI, hq, ih])
        · cases h
      · rename_i x y hu hxs hys
        cases hrest : eqFields1 P fs xs ys with
        | none => simp [hrest] at h
        | some b' =>
          simp only [hrest, Option.map_some, Option.some.injEq] at h
          subst h
          obtain ⟨u1, h1, r1⟩ := hx.get _ _ hxs
          obtain ⟨u2, h2, r2⟩ := hy.get _ _ hys
          simp only [RepCV, RepC] at r1 r2
          subst r1; subst r2
          have ih := eqFields1_run fs d xs ys vs us hx hy hrest
          cases hq : eqB x y <;> (unfold eqB at hq; simp [Op.eqFields, hn, Sem.run_bind, part1 _ hu rfl _ _ h1, part1 _ hu rfl _ _ h2, Op.equalIn, run_underlying hu, andB, eqB, hq, ih])
      · rename_i x y hu hxs hys
        cases hrest : eqFields1 P fs xs ys with
        | none => simp [hrest] at h
        | some b' =>
          simp only [hrest, Option.map_some, Option.some.injEq] at h
          subst h
          obtain ⟨u1, h1, r1⟩ := hx.get _ _ hxs
          obtain ⟨u2, h2, r2⟩ := hy.get _ _ hys
          simp only [RepCV, RepC] at r1 r2
          subst r1; subst r2
          have ih := eqFields1_run fs d xs ys vs us hx hy hrest
          cases hq : eqA x y <;> (unfold eqA at hq; simp [Op.eqFields, hn, Sem.run_bind, part1 _ hu rfl _ _ h1, part1 _ hu rfl _ _ h2, Op.equalIn, run_underlying hu, andB, eqA, hq, ih])
      · cases h

end
end Go.Pi
