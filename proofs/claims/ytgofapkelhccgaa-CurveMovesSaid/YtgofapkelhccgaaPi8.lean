/- Each operation does what the executor says: indexes, cuts, lengths, struct literals. -/
import Derived.Test.YtgofapkelhccgaaPi7
set_option linter.unusedVariables false
set_option linter.unusedSimpArgs false
namespace Go.Pi
open Go.RowKit

section
variable {P : Program} {W0 : World} {A Gv : Nat → Prop} {N : Nat} {U : Nat → Prop} {g : Nat → TV} {B : Nat → Option Blk} {ν : Nat → Value} {a : Act} {w : World} {o : Oper}

theorem inb_spec {i : Int} {n : Nat} (h : inb i n = true) : 0 ≤ i ∧ i < (n : Int) := by
  simp only [inb, Bool.and_eq_true, decide_eq_true_eq] at h
  exact h

theorem getI_rep {ok : Nat → Prop} {tv : TV} {j : Int} (hj : getI tv = some j) {v : Value} (hv : RepTV w ok ν B tv v) : ∃ k, v = .int k j := by
  unfold getI at hj
  split at hj
  · cases hj
    exact ⟨_, rep_int hv⟩
  · cases hj
theorem getC_eq {tv : TV} {q : CV} (h : getC tv = some q) : tv = .e (.one q) := by
  unfold getC at h
  split at h
  · cases h; rfl
  · cases h
theorem getE_eq {tv : TV} {q : EV} (h : getE tv = some q) : tv = .e q := by
  unfold getE at h
  split at h
  · cases h; rfl
  · cases h

/-- The address of an element of a slice. -/
theorem run_indexAt_sl {t e : TypeId} (ht : P.underlying t = some (.slice e)) {n : Nat} (hn : sizeT P e = some n) (ad : Addr) (len c : Nat) (k : IntKind) (i : Int) (h0 : 0 ≤ i) (h1 : i < (len : Int)) :
    (Instr.indexAt t (.slice (some ad) len c) (.int k i)).run P w = .ok (.pointer (some (ad.add (i.toNat * n)))) w := by
  have hs := run_size (P := P) (w := w) hn
  simp [Instr.indexAt, asIntOf, run_underlying ht, h0, h1, hs]

theorem run_indexAt_ar {t e : TypeId} {m : Nat} (ht : P.underlying t = some (.array m e)) {n : Nat} (hn : sizeT P e = some n) (ad : Addr) (k : IntKind) (i : Int) (h0 : 0 ≤ i) (h1 : i < (m : Int)) :
    (Instr.indexAt t (.pointer (some ad)) (.int k i)).run P w = .ok (.pointer (some (ad.add (i.toNat * n)))) w := by
  have hs := run_size (P := P) (w := w) hn
  simp [Instr.indexAt, asIntOf, run_underlying ht, h0, h1, hs, Instr.sureAddr]

theorem op_indexAddr_c (h : Sim W0 A Gv N U g B ν a w) (t : TypeId) (x i : Operand) (ho : o.op = .indexAddr t x i) {e : TypeId} (ht : P.underlying t = some (.slice e)) {r : Shs} {xs : CellD (.sl r)}
    (hx : opnd g x = .e (.one (.c (.sl r) xs))) {j : Int} (hj : getI (opnd g i) = some j) (hn : sizeT P e = some r.size) (hb : inb j (List.length xs) = true) :
    Res P W0 A Gv N U g B (one (.eptr r xs j 0)) o a w := by
  obtain ⟨h0, h1⟩ := inb_spec hb
  obtain ⟨k, hi⟩ := getI_rep hj (h.opnd i)
  obtain ⟨Ad, c, css, hv, h2, h3, h4, h5⟩ := (hx ▸ h.opnd x : RepTV w (okS W0 A Gv ν B w) ν B (.e (.one (.c (.sl r) xs))) (a.eval x))
  obtain ⟨ad, rfl, h6, h7, h8⟩ := h5 (by omega)
  refine Res.same h _ ?_ (⟨ad, css, rfl, h7, h6, h4, h8, h0, h1⟩ : RepCV w (okS W0 A Gv ν B w) ν B (.eptr r xs j 0) _) fun s hs => ?_
  · simp only [execOp, ho, hi, hv, Sem.run_bind, run_indexAt_sl ht hn ad _ c k j h0 h1, Result.andThen_ok, Sem.run_pure, add_eq h7, Nat.add_zero]
  · rw [one_sites] at hs; cases hs

theorem own_some {base n size : Nat} {e : TypeId} {v : Value} {xs : List Value} (h : w.ownsRow base e size v n xs) (hn : 0 < n) : ∃ q c, v = .slice (some ⟨q, 0, none⟩) n c ∧ baseG v = some q ∧ n ≤ c := by
  rcases h.2 with ⟨_, h0⟩ | ⟨q, cap, cur, rfl, _, _, h1, _⟩
  · omega
  · exact ⟨q, cap, rfl, rfl, h1⟩

theorem op_indexAddr_own (h : Sim W0 A Gv N U g B ν a w) (t : TypeId) (x i : Operand) (ho : o.op = .indexAddr t x i) {e : TypeId} (ht : P.underlying t = some (.slice e)) {s : Nat} {e' : TypeId} {r : Shs} {xs : List (RowD r)} {fz : Bool}
    (hx : opnd g x = .e (.one (.own s))) (hB : B s = some (.row e' r xs fz)) {j : Int} (hj : getI (opnd g i) = some j) (hn : sizeT P e = some r.size) (hb : inb j xs.length = true) :
    Res P W0 A Gv N U g B (one (.rptr s r j 0)) o a w := by
  obtain ⟨h0, h1⟩ := inb_spec hb
  obtain ⟨k, hi⟩ := getI_rep hj (h.opnd i)
  obtain ⟨_, hv⟩ := (hx ▸ h.opnd x : RepTV w (okS W0 A Gv ν B w) ν B (.e (.one (.own s))) (a.eval x))
  obtain ⟨_, hv⟩ := hv _ hB
  obtain ⟨css, h2, h3, h4⟩ := h.bl _ _ hB
  obtain ⟨q, c, h5, h6, h7⟩ := own_some h3 (by omega)
  refine Res.same h (.pointer (some ⟨q, j.toNat * r.size + 0, none⟩)) ?_ (⟨rfl, fun b hb' => ?_⟩ : RepCV w (okS W0 A Gv ν B w) ν B (.rptr s r j 0) _) fun s' hs => ?_
  · simp only [execOp, ho, hi, hv, h5, Sem.run_bind, run_indexAt_sl ht hn _ _ c k j h0 h1, Result.andThen_ok, Sem.run_pure, add_eq (a := ⟨q, 0, none⟩) rfl, Nat.add_zero, Nat.zero_add]
  · rw [hB] at hb'
    cases hb'
    exact ⟨q, r, xs.length, h6, rfl, h0, h1, rfl⟩
  · have hu := h.opnd_sites x
    rw [hx] at hu
    rw [one_sites] at hs
    exact hu s' (by simpa [TV.sites, EV.sites, EV.cells, CV.sites] using hs)

theorem op_indexAddr_pre (h : Sim W0 A Gv N U g B ν a w) (t : TypeId) (x i : Operand) (ho : o.op = .indexAddr t x i) {e : TypeId} (ht : P.underlying t = some (.slice e)) {s : Nat} {n : Int} {e' : TypeId} {r : Shs} {xs : List (RowD r)} {fz : Bool}
    (hx : opnd g x = .e (.one (.pre s n))) (hB : B s = some (.row e' r xs fz)) {j : Int} (hj : getI (opnd g i) = some j) (hn : sizeT P e = some r.size) (hb : inb j n.toNat = true) :
    Res P W0 A Gv N U g B (one (.rptr s r j 0)) o a w := by
  obtain ⟨h0, h1⟩ := inb_spec hb
  obtain ⟨k, hi⟩ := getI_rep hj (h.opnd i)
  obtain ⟨_, hv⟩ := (hx ▸ h.opnd x : RepTV w (okS W0 A Gv ν B w) ν B (.e (.one (.pre s n))) (a.eval x))
  obtain ⟨_, r1, m, Ad, c', he, hn0, hnm, hν, hv⟩ := hv _ hB
  simp only [Blk.elems, Option.some.injEq, Prod.mk.injEq] at he
  obtain ⟨rfl, rfl⟩ := he
  obtain ⟨css, h2, h3, h4⟩ := h.bl _ _ hB
  obtain ⟨q, c, h5, h6, h7⟩ := own_some h3 (by omega)
  rw [h5] at hν
  simp only [Value.slice.injEq, true_and] at hν
  obtain ⟨rfl, rfl⟩ := hν
  refine Res.same h (.pointer (some ⟨q, j.toNat * r.size + 0, none⟩)) ?_ (⟨rfl, fun b hb' => ?_⟩ : RepCV w (okS W0 A Gv ν B w) ν B (.rptr s r j 0) _) fun s' hs => ?_
  · simp only [execOp, ho, hi, hv, Sem.run_bind, run_indexAt_sl ht hn _ _ c k j h0 h1, Result.andThen_ok, Sem.run_pure, add_eq (a := ⟨q, 0, none⟩) rfl, Nat.add_zero, Nat.zero_add]
  · rw [hB] at hb'
    cases hb'
    exact ⟨q, r, xs.length, h6, rfl, h0, by omega, rfl⟩
  · have hu := h.opnd_sites x
    rw [hx] at hu
    rw [one_sites] at hs
    exact hu s' (by simpa [TV.sites, EV.sites, EV.cells, CV.sites] using hs)

theorem op_indexAddr_arr (h : Sim W0 A Gv N U g B ν a w) (t : TypeId) (x i : Operand) (ho : o.op = .indexAddr t x i) {e : TypeId} {n : Nat} (ht : P.underlying t = some (.array n e)) {s : Nat} {e' : TypeId} {r : Shs} {m : Nat} {xs : List (RowD r)}
    (hx : opnd g x = .e (.one (.ptr s 0))) (hB : B s = some (.arr e' r m xs)) {j : Int} (hj : getI (opnd g i) = some j) (hn : sizeT P e = some r.size) (hm : m = n) (hb : inb j n = true) :
    Res P W0 A Gv N U g B (one (.rptr s r j 0)) o a w := by
  obtain ⟨h0, h1⟩ := inb_spec hb
  obtain ⟨k, hi⟩ := getI_rep hj (h.opnd i)
  obtain ⟨_, hv⟩ := (hx ▸ h.opnd x : RepTV w (okS W0 A Gv ν B w) ν B (.e (.one (.ptr s 0))) (a.eval x))
  obtain ⟨_, q, hq, hv⟩ := hv _ hB
  obtain ⟨q', css, h2, h3, h4, h5, h6⟩ := h.bl _ _ hB
  rw [hq] at h2
  simp only [Value.pointer.injEq, Option.some.injEq, Addr.mk.injEq, and_true] at h2
  subst h2
  refine Res.same h (.pointer (some ⟨q, j.toNat * r.size + 0, none⟩)) ?_ (⟨rfl, fun b hb' => ?_⟩ : RepCV w (okS W0 A Gv ν B w) ν B (.rptr s r j 0) _) fun s' hs => ?_
  · simp only [execOp, ho, hi, hv, Sem.run_bind, run_indexAt_ar ht hn _ k j h0 h1, Result.andThen_ok, Sem.run_pure, add_eq (a := ⟨q, 0, none⟩) rfl, Nat.add_zero, Nat.zero_add]
  · rw [hB] at hb'
    cases hb'
    exact ⟨q, r, xs.length, by rw [hq]; rfl, rfl, h0, by omega, rfl⟩
  · have hu := h.opnd_sites x
    rw [hx] at hu
    rw [one_sites] at hs
    exact hu s' (by simpa [TV.sites, EV.sites, EV.cells, CV.sites] using hs)

theorem op_indexAddr_box (h : Sim W0 A Gv N U g B ν a w) (t : TypeId) (x i : Operand) (ho : o.op = .indexAddr t x i) {e : TypeId} {n : Nat} (ht : P.underlying t = some (.array n e)) {s : Nat} {bk : Blk}
    (hx : opnd g x = .e (.one (.ptr s 0))) (hB : B s = some bk) {j : Int} (hj : getI (opnd g i) = some j) {z : Nat} (hn : sizeT P e = some z) (hb : inb j n = true) :
    Res P W0 A Gv N U g B (one (.ptr s (j.toNat * z))) o a w := by
  obtain ⟨h0, h1⟩ := inb_spec hb
  obtain ⟨k, hi⟩ := getI_rep hj (h.opnd i)
  have hp : RepCV w (okS W0 A Gv ν B w) ν B (.ptr s 0) (a.eval x) := (hx ▸ h.opnd x : RepTV w (okS W0 A Gv ν B w) ν B (.e (.one (.ptr s 0))) (a.eval x))
  have hu := h.opnd_sites x
  rw [hx] at hu
  have hal : CV.alive B (.ptr s 0) = true := by simp [CV.alive, hB]
  have ha : addOff (.ptr s 0) (j.toNat * z) = some (.ptr s (j.toNat * z)) := by simp [addOff]
  obtain ⟨b, y, hv, hr, hs⟩ := addOff_rep hp hal ha
  refine Res.same h _ ?_ hr fun s' hs' => hu s' ?_
  · simp only [execOp, ho, hi, hv, Sem.run_bind, run_indexAt_ar ht hn _ k j h0 h1, Result.andThen_ok, Sem.run_pure, add_eq (a := ⟨b, y, none⟩) rfl]
  · rw [one_sites, hs] at hs'
    simpa [TV.sites, EV.sites, EV.cells] using hs'

theorem run_index_str {t : TypeId} (ht : P.underlying t = some .string) (s : ByteArray) (k : IntKind) (j : Int) (hb : inb j s.size = true) : (Instr.index t (.string s) (.int k j)).run P w = .ok (.int .u8 (bt s j)) w := by
  obtain ⟨h0, h1⟩ := inb_spec hb
  have hl : j.toNat < s.size := by omega
  simp [Instr.index, asIntOf, run_underlying ht, h0, bt, hl]
theorem op_index_str (h : Sim W0 A Gv N U g B ν a w) (t : TypeId) (x i : Operand) (ho : o.op = .index t x i) (ht : P.underlying t = some .string) {s : CellD .str}
    (hx : opnd g x = .e (.one (.c .str s))) {j : Int} (hj : getI (opnd g i) = some j) (hb : inb j (ByteArray.size s) = true) : Res P W0 A Gv N U g B (int1 .u8 (bt s j)) o a w := by
  obtain ⟨k, hi⟩ := getI_rep hj (h.opnd i)
  have hv := rep_str (hx ▸ h.opnd x)
  refine Res.same h _ ?_ (int1_rep _ _) (int1_sites _ _)
  have := run_index_str (P := P) (w := w) ht s k j hb
  simp only [execOp, ho, hi, hv, Sem.run_bind]
  exact (congrArg (fun r => Result.andThen r _) this).trans rfl

/-- The value of a slice, whatever its kind: its address, its length, its cells. -/
theorem dataOf_rep (h : Sim W0 A Gv N U g B ν a w) {v : CV} {u : Value} (hv : RepCV w (okS W0 A Gv ν B w) ν B v u) {r : Shs} {xs : List (RowD r)} (hd : dataOf B v = some ⟨r, xs⟩) :
    ∃ Ad c css, u = .slice Ad xs.length c ∧ xs.length ≤ c ∧ c ≤ maxLen ∧ All2 (fun x cs => RepR w (okS W0 A Gv ν B w) r x cs) xs css ∧
      (0 < xs.length → ∃ ad, Ad = some ad ∧ ad.spot = none ∧ (okS W0 A Gv ν B w ad.block ∨ ∃ s, s ∈ v.rowSites ∧ ad = ⟨ad.block, 0, none⟩ ∧ ownB (ν s) = some ad.block) ∧ ∀ j u, css.flatten[j]? = some u → w.cell? (ad.add j) = some u) := by
  unfold dataOf at hd
  split at hd
  · rename_i r' xs'
    cases hd
    obtain ⟨Ad, c, css, h1, h2, h3, h4, h5⟩ := hv
    refine ⟨Ad, c, css, h1, h2, h3, h4, fun hp => ?_⟩
    obtain ⟨ad, e, h6, h7, h8⟩ := h5 hp
    exact ⟨ad, e, h7, .inl h6, h8⟩
  · rename_i s
    split at hd
    · rename_i e r' xs' fz hB
      cases hd
      obtain ⟨_, hv⟩ := hv
      obtain ⟨_, rfl⟩ := hv _ hB
      obtain ⟨css, h2, h3, h4⟩ := h.bl _ _ hB
      rcases h3.2 with ⟨h5, h6⟩ | ⟨q, cap, cur, h5, _, _, h6, h7, _⟩
      · exact ⟨none, 0, css, by rw [h5, h6], by omega, Nat.zero_le _, h2, fun hp => by omega⟩
      · refine ⟨_, cap, css, h5, h6, h7, h2, fun hp => ⟨_, rfl, rfl, .inr ⟨s, by simp [CV.rowSites], rfl, by rw [h5]; rfl⟩, fun j u hj => ?_⟩⟩
        rw [add_eq rfl, Nat.zero_add]
        exact own_cells h3 (by rw [h5]; rfl) j u hj
    · cases hd
  · rename_i s n
    split at hd
    · rename_i e r' xs' fz hB
      cases hd
      obtain ⟨_, hv⟩ := hv
      obtain ⟨_, r1, m, Ad, c', he, hn0, hnm, hν, rfl⟩ := hv _ hB
      simp only [Blk.elems, Option.some.injEq, Prod.mk.injEq] at he
      obtain ⟨rfl, rfl⟩ := he
      have hlen : (xs'.take n.toNat).length = n.toNat := by rw [List.length_take]; omega
      obtain ⟨css, h2, h3, h4⟩ := h.bl _ _ hB
      have hc : xs'.length ≤ c' ∧ c' ≤ maxLen := by
        rcases h3.2 with ⟨h5, h6⟩ | ⟨q, cap, cur, h5, _, _, h6, h7, _⟩
        · rw [h5] at hν
          simp only [Value.slice.injEq] at hν
          omega
        · rw [h5] at hν
          simp only [Value.slice.injEq] at hν
          omega
      refine ⟨Ad, c', css.take n.toNat, by rw [hlen], by omega, hc.2, h2.take _, fun hp => ?_⟩
      obtain ⟨q, c, h5, h6, h7⟩ := own_some h3 (by omega)
      rw [h5] at hν
      simp only [Value.slice.injEq] at hν
      refine ⟨⟨q, 0, none⟩, hν.1.symm, rfl, .inr ⟨s, by simp [CV.rowSites], rfl, by rw [h5]; rfl⟩, fun j u hj => ?_⟩
      rw [add_eq rfl, Nat.zero_add]
      refine own_cells h3 h6 j u ?_
      have e1 : css.flatten = (css.take n.toNat).flatten ++ (css.drop n.toNat).flatten := by rw [← List.flatten_append, List.take_append_drop]
      rw [e1, List.getElem?_append_left (List.getElem?_eq_some_iff.1 hj).1]
      exact hj
    · cases hd
  · cases hd

theorem op_len_str (h : Sim W0 A Gv N U g B ν a w) (x : Operand) (t : TypeId) (ho : o.op = .call { callee := .builtin .len, args := #[x], argTypes := #[t] }) (ht : P.underlying t = some .string) {s : CellD .str}
    (hx : opnd g x = .e (.one (.c .str s))) : Res P W0 A Gv N U g B (int1 .i64 (ByteArray.size s : Nat)) o a w := by
  have hv := rep_str (hx ▸ h.opnd x)
  refine Res.same h _ ?_ (int1_rep _ _) (int1_sites _ _)
  simp [execOp, ho, resolve, invoke, builtin, Builtin.len_, hv, run_underlying ht, goInt]
theorem run_len_sl {t e : TypeId} (ht : P.underlying t = some (.slice e)) (Ad : Option Addr) (n c : Nat) : (Builtin.len_ #[t] o.type #[.slice Ad n c]).run P w = .ok (.int .i64 n) w := by
  simp [Builtin.len_, run_underlying ht, goInt]
theorem op_len_sl (h : Sim W0 A Gv N U g B ν a w) (x : Operand) (t : TypeId) (ho : o.op = .call { callee := .builtin .len, args := #[x], argTypes := #[t] }) {e : TypeId} (ht : P.underlying t = some (.slice e)) {Ad : Option Addr} {n c : Nat}
    (hx : a.eval x = .slice Ad n c) : Res P W0 A Gv N U g B (int1 .i64 (n : Nat)) o a w := by
  refine Res.same h _ ?_ (int1_rep _ _) (int1_sites _ _)
  have := run_len_sl (P := P) (w := w) (o := o) ht Ad n c
  simp [execOp, ho, resolve, invoke, builtin, hx, this]

end
end Go.Pi
