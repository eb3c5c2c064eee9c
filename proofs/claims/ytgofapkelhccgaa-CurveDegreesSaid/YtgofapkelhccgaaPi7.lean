/- Each operation does what the executor says: what reads memory. -/
import Derived.Test.YtgofapkelhccgaaPi6
set_option linter.unusedVariables false
set_option linter.unusedSimpArgs false
namespace Go.Pi
open Go.RowKit

theorem add_eq {a : Addr} (h : a.spot = none) (n : Nat) : a.add n = ⟨a.block, a.off + n, none⟩ := by
  obtain ⟨b, o, s⟩ := a
  simp only at h
  subst h
  unfold Addr.add
  split <;> simp_all

section
variable {P : Program} {W0 : World} {A Gv : Nat → Prop} {N : Nat} {U : Nat → Prop} {g : Nat → TV} {B : Nat → Option Blk} {ν : Nat → Value} {a : Act} {w : World} {o : Oper}

theorem unpack_rep {ok : Nat → Prop} : ∀ {r : Shs} {x : RowD r} {cs : List Value}, RepR w ok r x cs → All2 (RepCV w ok ν B) (unpackR r x) cs
  | .one s, x, cs, h => by
    simp only [RepR] at h
    obtain ⟨v, rfl, hv⟩ := h
    exact ⟨hv, trivial⟩
  | .cons s r, x, cs, h => by
    simp only [RepR] at h
    obtain ⟨v, vs, rfl, hv, hr⟩ := h
    exact ⟨hv, unpack_rep hr⟩
theorem unpack_sites : ∀ {r : Shs} {x : RowD r} {c : CV}, c ∈ unpackR r x → c.sites = []
  | .one s, x, c, h => by
    simp only [unpackR, List.mem_singleton] at h
    subst h
    rfl
  | .cons s r, x, c, h => by
    simp only [unpackR, List.mem_cons] at h
    rcases h with rfl | h
    · rfl
    · exact unpack_sites h
theorem unpack_len : ∀ {r : Shs} {x : RowD r}, (unpackR r x).length = r.size
  | .one s, x => rfl
  | .cons s r, x => by simp [unpackR, Shs.size, unpack_len]

theorem gd_get {α : Type} {d : α} {xs : List α} {i : Int} (h0 : 0 ≤ i) (h1 : i < (xs.length : Int)) : xs[i.toNat]? = some (gd d xs i) := by
  have hl : i.toNat < xs.length := by omega
  simp [gd, List.getElem?_eq_getElem hl]

theorem castRows_eq {r r' : Shs} {xs : List (RowD r)} {ys : List (RowD r')} (h : castRows r r' xs = some ys) : ∃ e : r = r', ys = e ▸ xs := by
  unfold castRows at h
  split at h
  · rename_i e
    exact ⟨e, (Option.some.inj h).symm⟩
  · cases h
theorem castD_eq {s s' : Sh} {x : CellD s} {y : CellD s'} (h : castD s s' x = some y) : ∃ e : s = s', y = e ▸ x := by
  unfold castD at h
  split at h
  · rename_i e
    exact ⟨e, (Option.some.inj h).symm⟩
  · cases h

theorem own_cells {base n size : Nat} {e : TypeId} {v : Value} {xs : List Value} (h : w.ownsRow base e size v n xs) {q : Nat} (hq : baseG v = some q) :
    ∀ j u, xs[j]? = some u → w.cell? ⟨q, j, none⟩ = some u := by
  intro j u hj
  have := h.cells (g := q) (by
    unfold baseG at hq
    split at hq
    · simpa [Value.ownBlock] using hq
    · rcases h.2 with ⟨hv, _⟩ | ⟨_, _, _, hv, _⟩ <;> cases hv
    · cases hq) j u hj
  rwa [add_eq rfl, Nat.zero_add] at this

/-- The cells behind a pointer, in memory. -/
theorem cellsAt_rep (h : Sim W0 A Gv N U g B ν a w) {p : CV} {v : Value} (hp : RepCV w (okS W0 A Gv ν B w) ν B p v) {l : List CV} {off : Nat} (hc : cellsAt B p = some (l, off)) :
    ∃ b q vs, v = .pointer (some ⟨b, q + off, none⟩) ∧ All2 (RepCV w (okS W0 A Gv ν B w) ν B) l vs ∧ (∀ j u, vs[j]? = some u → w.cell? ⟨b, q + j, none⟩ = some u) ∧
      ∀ c ∈ l, ∀ s ∈ c.sites, U s := by
  unfold cellsAt at hc
  split at hc
  · rename_i s off'
    split at hc
    · rename_i t cells hb
      simp only [Option.some.injEq, Prod.mk.injEq] at hc
      obtain ⟨rfl, rfl⟩ := hc
      obtain ⟨_, hp⟩ := hp
      obtain ⟨_, x, h1, h2⟩ := hp _ hb
      obtain ⟨x', vs, h3, h4, h5, h6⟩ := h.bl _ _ hb
      rw [h1] at h3
      simp only [Value.pointer.injEq, Option.some.injEq, Addr.mk.injEq, and_true] at h3
      subst h3
      refine ⟨x, 0, vs, by rw [h2, Nat.zero_add], h6, fun j u hj => ?_, (h.ub s _ hb).2⟩
      rw [Nat.zero_add, cell_of_row w x j _ t (0, 0) h5]
      simpa using hj
    · cases hc
  · rename_i s r i off'
    obtain ⟨_, hp⟩ := hp
    split at hc
    · rename_i e r' xs fz hb
      split at hc
      · rename_i xs' hx
        obtain ⟨rfl, rfl⟩ := castRows_eq hx
        simp only [Option.some.injEq, Prod.mk.injEq] at hc
        obtain ⟨rfl, rfl⟩ := hc
        obtain ⟨x, r1, m, h1, h2, h3, h4, h5⟩ := hp _ hb
        simp only [Blk.elems, Option.some.injEq, Prod.mk.injEq] at h2
        obtain ⟨rfl, rfl⟩ := h2
        obtain ⟨css, h6, h7, h8⟩ := h.bl _ _ hb
        obtain ⟨cs, h9, h10, h11⟩ := flat_at h6 i.toNat _ (gd_get (d := Shs.dflt _) h3 h4)
        refine ⟨x, i.toNat * Shs.size _, cs, h5, unpack_rep h10, fun j u hj => ?_, fun c hc s hs => by rw [unpack_sites hc] at hs; cases hs⟩
        exact own_cells h7 h1 _ _ (h11 j u hj)
      · cases hc
    · rename_i t r' n xs hb
      split at hc
      · rename_i xs' hx
        obtain ⟨rfl, rfl⟩ := castRows_eq hx
        simp only [Option.some.injEq, Prod.mk.injEq] at hc
        obtain ⟨rfl, rfl⟩ := hc
        obtain ⟨x, r1, m, h1, h2, h3, h4, h5⟩ := hp _ hb
        simp only [Blk.elems, Option.some.injEq, Prod.mk.injEq] at h2
        obtain ⟨rfl, rfl⟩ := h2
        obtain ⟨x', css, h6, h7, h7', h8, h8'⟩ := h.bl _ _ hb
        rw [h6] at h1
        simp only [baseG, Option.some.injEq] at h1
        subst h1
        obtain ⟨cs, h9, h10, h11⟩ := flat_at h8 i.toNat _ (gd_get (d := Shs.dflt _) h3 h4)
        refine ⟨x', i.toNat * Shs.size _, cs, h5, unpack_rep h10, fun j u hj => ?_, fun c hc s hs => by rw [unpack_sites hc] at hs; cases hs⟩
        rw [cell_of_row w x' _ _ t (0, 0) h8']
        simpa using h11 j u hj
      · cases hc
    · cases hc
  · rename_i r xs i off'
    simp only [Option.some.injEq, Prod.mk.injEq] at hc
    obtain ⟨rfl, rfl⟩ := hc
    obtain ⟨ad, css, h1, h2, h3, h4, h5, h6, h7⟩ := hp
    obtain ⟨cs, h9, h10, h11⟩ := flat_at h4 i.toNat _ (gd_get (d := Shs.dflt _) h6 h7)
    refine ⟨ad.block, ad.off + i.toNat * r.size, cs, by rw [h1, Nat.add_assoc], unpack_rep h10, fun j u hj => ?_, fun c hc s hs => by rw [unpack_sites hc] at hs; cases hs⟩
    have := h5 _ _ (h11 j u hj)
    rwa [add_eq h2, ← Nat.add_assoc] at this
  · cases hc

theorem run_isAgg {t : TypeId} {d : TypeDesc} (h : P.underlying t = some d) : (isAgg t).run P w = .ok (isAggT P t) w := by
  unfold isAgg isAggT
  simp only [Sem.run_bind, run_underlying h, Result.andThen_ok, h]
  cases d <;> simp
theorem run_size {t : TypeId} {n : Nat} (h : sizeT P t = some n) : (sizeOf t).run P w = .ok n w := by
  unfold sizeT at h
  cases hi : P.info? t with
  | none => simp [hi] at h
  | some i => simp [hi] at h; simp [sizeOf, typeInfo, hi, h]

/-- A part of some cells, as a value. -/
theorem partV_rep {ok : Nat → Prop} {t : TypeId} {l : List CV} {off : Nat} {x : EV} (hp : partV P t l off = some x) {vs : List Value} (hl : All2 (RepCV w ok ν B) l vs) :
    ∃ v n d, sizeT P t = some n ∧ P.underlying t = some d ∧ off + n ≤ vs.length ∧ RepEV w ok ν B x v ∧ ((isAggT P t = true ∧ v = .agg ((vs.drop off).take n).toArray) ∨ (isAggT P t = false ∧ n = 1 ∧ vs[off]? = some v)) ∧
      ∀ c ∈ x.cells, c ∈ l := by
  unfold partV at hp
  split at hp
  · rename_i n d hn hd
    split at hp
    · rename_i hlen
      split at hp
      · rename_i hagg
        cases hp
        exact ⟨_, n, d, hn, hd, by rw [← hl.len]; exact hlen, ⟨_, rfl, (hl.drop off).take n⟩, .inl ⟨hagg, rfl⟩, fun c hc => List.mem_of_mem_drop (List.mem_of_mem_take hc)⟩
      · rename_i hagg
        split at hp
        · rename_i v hv
          split at hp
          · rename_i hn1
            cases hp
            obtain ⟨u, hu, hr⟩ := hl.get _ _ hv
            refine ⟨u, n, d, hn, hd, by rw [← hl.len]; exact hlen, hr, .inr ⟨by simpa using hagg, hn1, hu⟩, fun c hc => ?_⟩
            simp only [EV.cells, List.mem_singleton] at hc
            subst hc
            exact List.mem_of_getElem? hv
          · cases hp
        · cases hp
    · cases hp
  · cases hp

theorem op_load (h : Sim W0 A Gv N U g B ν a w) (t : TypeId) (p : Operand) (ho : o.op = .load t p) {q : CV} (hq : getC (opnd g p) = some q) {l : List CV} {off : Nat} (hc : cellsAt B q = some (l, off))
    {x : EV} (hx : partV P t l off = some x) : Res P W0 A Gv N U g B (.e x) o a w := by
  have hp := h.opnd p
  have hq' : opnd g p = .e (.one q) := by
    unfold getC at hq
    split at hq
    · rename_i e; rw [e]; cases hq; rfl
    · cases hq
  rw [hq'] at hp
  obtain ⟨b, z, vs, h1, h2, h3, h4⟩ := cellsAt_rep h hp hc
  obtain ⟨v, n, d, h5, h6, h7, h8, h9, h10⟩ := partV_rep hx h2
  refine Res.same h v ?_ h8 fun s hs => ?_
  · have key : (loadVar t ⟨b, z + off, none⟩).run P w = .ok v w := by
      unfold loadVar
      rw [Sem.run_bind, run_isAgg h6, Result.andThen_ok]
      rcases h9 with ⟨ha, rfl⟩ | ⟨ha, rfl, hv⟩
      · rw [if_pos ha, Sem.run_bind, run_size h5]
        simp only [Result.andThen_ok]
        have hlen : ((vs.drop off).take n).length = n := by simp; omega
        have := run_loadCells_list (P := P) w ⟨b, z + off, none⟩ ((vs.drop off).take n) (fun j u hj => by
          rw [add_eq rfl]
          rw [List.getElem?_take] at hj
          split at hj
          · rw [List.getElem?_drop] at hj
            have := h3 _ _ hj
            rwa [← Nat.add_assoc] at this
          · cases hj)
        rw [hlen] at this
        simp [this]
      · rw [ha]
        simp only [Bool.false_eq_true, if_false]
        have := h3 _ _ hv
        simp only [load, Sem.run, this]
    simp only [execOp, ho, h1, Instr.loadAt, Instr.sureAddr, Sem.run_bind, Sem.run_pure, Result.andThen_ok, key]
  · simp only [TV.sites, EV.sites, List.mem_flatMap] at hs
    obtain ⟨c, hc, hs⟩ := hs
    exact h4 c (h10 c hc) s hs

theorem addOff_rep {ok : Nat → Prop} {q q' : CV} {v : Value} (hq : RepCV w ok ν B q v) (hal : q.alive B = true) {n : Nat} (ha : addOff q n = some q') :
    ∃ b z, v = .pointer (some ⟨b, z, none⟩) ∧ RepCV w ok ν B q' (.pointer (some ⟨b, z + n, none⟩)) ∧ q'.sites = q.sites := by
  unfold addOff at ha
  split at ha
  · rename_i s off
    cases ha
    obtain ⟨h1, h2⟩ := hq
    simp only [CV.alive, Option.isSome_iff_exists] at hal
    obtain ⟨bk, hb⟩ := hal
    obtain ⟨h3, x, h4, rfl⟩ := h2 bk hb
    refine ⟨x, off, rfl, ⟨rfl, fun b' hb' => ?_⟩, rfl⟩
    obtain ⟨h5, y, h6, h7⟩ := h2 b' hb'
    refine ⟨h5, y, h6, ?_⟩
    simp only [Value.pointer.injEq, Option.some.injEq, Addr.mk.injEq, and_true, true_and] at h7
    rw [h7]
  · rename_i s r i off
    cases ha
    obtain ⟨h1, h2⟩ := hq
    simp only [CV.alive, Option.isSome_iff_exists] at hal
    obtain ⟨bk, hb⟩ := hal
    obtain ⟨x, r', m, h3, h4, h5, h6, rfl⟩ := h2 bk hb
    refine ⟨x, _, rfl, ⟨rfl, fun b' hb' => ?_⟩, rfl⟩
    obtain ⟨y, r1, m1, h7, h8, h9, h10, h11⟩ := h2 b' hb'
    refine ⟨y, r1, m1, h7, h8, h9, h10, ?_⟩
    simp only [Value.pointer.injEq, Option.some.injEq, Addr.mk.injEq, and_true, true_and] at h11 ⊢
    exact ⟨h11, by omega⟩
  · rename_i r xs i off
    cases ha
    obtain ⟨ad, css, rfl, h2, h3⟩ := hq
    exact ⟨ad.block, _, rfl, ⟨ad, css, by simp only [Value.pointer.injEq, Option.some.injEq, Addr.mk.injEq, and_true, true_and]; omega, h2, h3⟩, rfl⟩
  · cases ha

theorem one_sites (q : CV) : (one q).sites = q.sites := by simp [one, TV.sites, EV.sites, EV.cells]

theorem fieldOff_eq {t : TypeId} {f off : Nat} {ft : TypeId} (hf : fieldOff P t f = some (off, ft)) : ∃ fs fd n, P.underlying t = some (.struct fs) ∧ fs[f]? = some fd ∧ sizeT P ft = some (n + 1) ∧ fd.offset = off ∧ fd.type = ft := by
  unfold fieldOff at hf
  split at hf
  · rename_i fs hfs
    split at hf
    · rename_i fd hfd
      split at hf
      · rename_i n hn
        simp only [Option.some.injEq, Prod.mk.injEq] at hf
        obtain ⟨rfl, rfl⟩ := hf
        exact ⟨fs, fd, n, hfs, hfd, hn, rfl, rfl⟩
      · cases hf
    · cases hf
  · cases hf

theorem op_fieldAddr (h : Sim W0 A Gv N U g B ν a w) (t : TypeId) (x : Operand) (f : Nat) (ho : o.op = .fieldAddr t x f) {q q' : CV} (hq : opnd g x = .e (.one q)) {off : Nat} {ft : TypeId}
    (hf : fieldOff P t f = some (off, ft)) (ha : addOff q off = some q') (hal : q.alive B = true) : Res P W0 A Gv N U g B (one q') o a w := by
  have hp := hq ▸ h.opnd x
  have hu := h.opnd_sites x
  rw [hq] at hu
  obtain ⟨fs, fd, n, hfs, hfd, hn, rfl, rfl⟩ := fieldOff_eq hf
  obtain ⟨b, z, hv, hr, hs⟩ := addOff_rep hp hal ha
  refine Res.same h _ ?_ hr fun s hs' => hu s ?_
  · have hsz := run_size (P := P) (w := w) hn
    simp [execOp, ho, hv, Instr.fieldAt, run_underlying hfs, hfd, Instr.sureAddr, fieldPlace, hsz, add_eq]
  · rw [one_sites, hs] at hs'
    simpa [TV.sites, EV.sites, EV.cells] using hs'

theorem run_part {t : TypeId} {n : Nat} {d : TypeDesc} (hn : sizeT P t = some n) (hd : P.underlying t = some d) {vs : List Value} {off : Nat} {v : Value} (hl : off + n ≤ vs.length)
    (hv : (isAggT P t = true ∧ v = .agg ((vs.drop off).take n).toArray) ∨ (isAggT P t = false ∧ n = 1 ∧ vs[off]? = some v)) : (part t vs.toArray off).run P w = .ok v w := by
  unfold part
  rw [Sem.run_bind, run_isAgg hd, Result.andThen_ok]
  rcases hv with ⟨ha, rfl⟩ | ⟨ha, rfl, hv⟩
  · rw [if_pos ha, Sem.run_bind, run_size hn]
    simp
  · rw [ha]
    simp [hv]

theorem op_field (h : Sim W0 A Gv N U g B ν a w) (t : TypeId) (x : Operand) (f : Nat) (ho : o.op = .field t x f) {l : List CV} (hx : opnd g x = .e (.agg l)) {off : Nat} {ft : TypeId}
    (hf : fieldOff P t f = some (off, ft)) {y : EV} (hy : partV P ft l off = some y) : Res P W0 A Gv N U g B (.e y) o a w := by
  obtain ⟨vs, hv, hl⟩ := (hx ▸ h.opnd x : RepTV w (okS W0 A Gv ν B w) ν B (.e (.agg l)) (a.eval x))
  have hu := h.opnd_sites x
  rw [hx] at hu
  obtain ⟨fs, fd, n, hfs, hfd, hn, rfl, rfl⟩ := fieldOff_eq hf
  obtain ⟨v, n', d, h5, h6, h7, h8, h9, h10⟩ := partV_rep hy hl
  refine Res.same h v ?_ h8 fun s hs => hu s ?_
  · simp only [execOp, ho, hv, Instr.field, Sem.run_bind, run_underlying hfs, Result.andThen_ok, hfd, asAgg, Sem.run_pure, run_part h5 h6 h7 h9]
  · simp only [TV.sites, EV.sites, List.mem_flatMap] at hs ⊢
    obtain ⟨c, hc, hs⟩ := hs
    exact ⟨c, h10 c hc, hs⟩

end
end Go.Pi
