/- Stores, appends, copies. -/
import Derived.Test.YtgofapkelhccgaaPi14
set_option linter.unusedVariables false
set_option linter.unusedSimpArgs false
namespace Go.Pi
open Go.RowKit

section
variable {P : Program} {W0 : World} {A Gv : Nat → Prop} {N : Nat} {U : Nat → Prop} {g : Nat → TV} {B : Nat → Option Blk} {ν : Nat → Value} {a : Act} {w : World} {o : Oper}

/-- A block of the call's own is written. -/
theorem Sim.write (h : Sim W0 A Gv N U g B ν a w) {s : Nat} {b b1 : Blk} (hb : B s = some b) (hm : b.mut = true) (hm1 : b1.mut = true) (hal : b.alike b1) {q : Nat} (hq : ownB (ν s) = some q) {w1 : World} (hg : w.grownBy w1 (some q)) (hsz : w1.heap.size = w.heap.size)
    (hb1 : ∀ x ∈ b1.cells, ∀ s' ∈ x.sites, U s')
    (hrep : ∀ (ok1 : Nat → Prop) (B1 : Nat → Option Blk), (∀ x, okS W0 A Gv ν B w x → ok1 x) → (∀ x, okS W0 A Gv ν B w x → w1.heap[x]? = w.heap[x]?) → (∀ s', U s' → GoesOn ν ν B B1 s') → RepB w1 ok1 (freshS W0 Gv) ν B1 s b1) :
    Sim W0 A Gv N U g (setB B s (some b1)) ν a w1 := by
  have hU := (h.ub s b hb).1
  refine h.step (Tc := fun i => i = s) (fun i hi => hi) hg.os hg.tape hg.output hg.size (fun x hx hne => hg.block x hx fun e => ?_) (fun i hi => ⟨setB_ne _ _ (Ne.symm hi), fun _ => rfl⟩) ?_ ?_ ?_ ?_ ?_ ?_
  · cases e
    exact hne s b rfl hb hm hq
  · rintro i rfl _
    exact .inr ⟨b, b1, hb, setB_eq _ _ _, hal, rfl⟩
  · rintro i b2 x rfl hb2 hm2 hx _
    exact ⟨i, b, rfl, hb, hm, hx⟩
  · rintro i b2 rfl hb2
    rw [setB_eq] at hb2
    cases hb2
    exact ⟨hU, hb1⟩
  · rintro hboth hgo i b2 rfl hb2
    rw [setB_eq] at hb2
    cases hb2
    exact hrep _ _ (fun x hx => (hboth x hx).1) (fun x hx => (hboth x hx).2) hgo
  · rintro i i' b2 b3 x rfl hb2 hb3 hx hx'
    by_cases hn : i = i'
    · exact hn
    · rw [setB_ne _ _ hn] at hb3
      exact h.inj i i' b b3 x hb hb3 hx hx'
  · intro i b2 b3 hi h1 h2
    rw [setB_ne _ _ (Ne.symm hi), h1] at h2
    exact (Option.some.inj h2).symm

theorem grown_setRow (w : World) (q : Nat) (cs : Array Value) : w.grownBy (w.setRow q cs) (some q) :=
  ⟨rfl, rfl, rfl, by simp [World.setRow], fun k _ hk => setRow_other w q k cs (fun e => hk (by rw [e]))⟩
theorem size_setRow (w : World) (q : Nat) (cs : Array Value) : (w.setRow q cs).heap.size = w.heap.size := by simp [World.setRow]

theorem run_storeVar {t : TypeId} {n : Nat} (hn : sizeT P t = some n) {q off : Nat} {bt : TypeId} {cur : List Value} (hq : w.heap[q]? = some (.cells cur.toArray bt (0, 0))) {v : Value} (hv : v.cells.size = n) (hfit : off + n ≤ cur.length)
    (h1 : ∀ u ∈ v.cells.toList, u.oneCell' = true) :
    (storeVar t ⟨q, off, none⟩ v).run P w = .ok () (w.setRow q (cur.take off ++ v.cells.toList ++ cur.drop (off + v.cells.toList.length)).toArray) := by
  have hs := run_size (P := P) (w := w) hn
  have hst := run_storeCells_at P q off bt v.cells.toList 0 cur.toArray w hq (by simp only [List.size_toArray, Array.length_toList, hv]; omega) h1
  simp only [Nat.add_zero] at hst
  unfold storeVar
  simp only [Sem.run_bind, hs, Result.andThen_ok]
  rw [if_neg (by simp [hv])]
  exact hst

theorem All2.ones {ok : Nat → Prop} : ∀ {l : List CV} {vs : List Value}, All2 (RepCV w ok ν B) l vs → ∀ u ∈ vs, u.oneCell' = true
  | [], [], _, u, hu => by cases hu
  | x :: l, v :: vs, h, u, hu => by
    rcases List.mem_cons.1 hu with rfl | hu
    · exact RepCV.one h.1
    · exact All2.ones h.2 u hu
  | [], _ :: _, h, _, _ => False.elim h
  | _ :: _, [], h, _, _ => False.elim h

theorem op_store_box (h : Sim W0 A Gv N U g B ν a w) (t : TypeId) (p x : Operand) (ho : o.op = .store t p x) {s off : Nat} (hp : opnd g p = .e (.one (.ptr s off))) {v : EV} (hx : opnd g x = .e v) {n : Nat} (hn : sizeT P t = some n) (hl : v.cells.length = n)
    {bt : TypeId} {cells : List CV} (hB : B s = some (.box bt cells)) (hfit : off + n ≤ cells.length) :
    Res P W0 A Gv N U g (setB B s (some (.box bt (setCells cells off v.cells)))) (.tup []) o a w := by
  obtain ⟨_, hpv⟩ := (hp ▸ h.opnd p : RepTV w (okS W0 A Gv ν B w) ν B (.e (.one (.ptr s off))) (a.eval p))
  obtain ⟨_, q, hν, hpv⟩ := hpv _ hB
  obtain ⟨q', vs, h1, h2, h3, h4⟩ := h.bl _ _ hB
  rw [hν] at h1
  simp only [Value.pointer.injEq, Option.some.injEq, Addr.mk.injEq, and_true] at h1
  subst h1
  have hv := (hx ▸ h.opnd x : RepTV w (okS W0 A Gv ν B w) ν B (.e v) (a.eval x))
  have hux := h.opnd_sites x
  rw [hx] at hux
  have hc := EV_cells hv
  have hcl : (a.eval x).cells.size = n := by rw [← Array.length_toList, ← hc.len, hl]
  have hrun := run_storeVar (P := P) hn h3 hcl (by rw [← h4.len]; exact hfit) (All2.ones hc)
  have hnew := setCells_rep h4 hc off
  have hsites : ∀ c ∈ setCells cells off v.cells, ∀ s' ∈ c.sites, U s' := by
    intro c hcm s' hs'
    unfold setCells at hcm
    simp only [List.mem_append] at hcm
    rcases hcm with (hcm | hcm) | hcm
    · exact (h.ub s _ hB).2 c (List.mem_of_mem_take hcm) s' hs'
    · exact hux s' (by simp only [TV.sites, EV.sites, List.mem_flatMap]; exact ⟨c, hcm, hs'⟩)
    · exact (h.ub s _ hB).2 c (List.mem_of_mem_drop hcm) s' hs'
  have hsim := h.write (b1 := .box bt (setCells cells off v.cells)) hB rfl rfl ⟨rfl, rfl⟩ (q := q) (by rw [hν]; rfl) (grown_setRow w q _) (size_setRow w q _) hsites (fun ok1 B1 hk1 hk2 hk3 => by
    refine ⟨q, _, hν, h2, setRow_heap w q _ _ bt (0, 0) h3, hnew.impMem fun y u hy hr => ?_⟩
    exact hr.evolve hk2 hk1 fun s' hs' => hk3 s' (hsites y hy s' hs'))
  refine ⟨_, undef, _, ν, ?_, .inr ⟨rfl, rfl⟩, hsim, ⟨[], rfl, trivial⟩, fun s' hs' => by simp [TV.sites] at hs'⟩
  simp only [execOp, ho, hpv, Instr.storeAt, Instr.sureAddr, Sem.run_bind, Sem.run_pure, Result.andThen_ok, hrun]

theorem op_store_row (h : Sim W0 A Gv N U g B ν a w) (t : TypeId) (p x : Operand) (ho : o.op = .store t p x) {s : Nat} {r : Shs} {i : Int} {off : Nat} (hp : opnd g p = .e (.one (.rptr s r i off))) {v : EV} (hx : opnd g x = .e v) {n : Nat} (hn : sizeT P t = some n) (hl : v.cells.length = n)
    {e : TypeId} {xs : List (RowD r)} (hB : B s = some (.row e r xs false)) (hfit : off + n ≤ r.size) {y : RowD r} (hy : packR B r (setCells (unpackR r (gd r.dflt xs i)) off v.cells) = some y)
    {ss : List Nat} (hss : ss = (v.cells.flatMap CV.rowSites).filter (· != s)) (hns : s ∉ v.cells.flatMap CV.rowSites) :
    Res P W0 A Gv N U g (setB (updB (frz B ss) B) s (some (.row e r (xs.set i.toNat y) false))) (.tup []) o a w := by
  obtain ⟨_, hpv⟩ := (hp ▸ h.opnd p : RepTV w (okS W0 A Gv ν B w) ν B (.e (.one (.rptr s r i off))) (a.eval p))
  obtain ⟨q, r', m, hν, he, hi0, him, hpv⟩ := hpv _ hB
  simp only [Blk.elems, Option.some.injEq, Prod.mk.injEq] at he
  obtain ⟨rfl, rfl⟩ := he
  have hv := (hx ▸ h.opnd x : RepTV w (okS W0 A Gv ν B w) ν B (.e v) (a.eval x))
  have hc := EV_cells hv
  obtain ⟨hf1, hf2, hf3, hf4⟩ := h.freeze ss
  have hB' : updB (frz B ss) B s = some (.row e r xs false) := by
    rw [frz_lk, hB]
    have : s ∉ ss := by rw [hss]; simp
    simp [this]
  obtain ⟨css, h1, h2, h3⟩ := h.bl _ _ hB
  obtain ⟨cs, h4, h5, h6⟩ := flat_at h1 i.toNat _ (gd_get (d := r.dflt) hi0 him)
  have hcl : (a.eval x).cells.size = n := by rw [← Array.length_toList, ← hc.len, hl]
  have hcs : cs.length = r.size := h5.len
  obtain ⟨hlen, hown⟩ := h2
  rcases hown with ⟨_, h0⟩ | ⟨q', cap, cur, h7, _, h8, h9, h10, h11, h12⟩
  · omega
  rw [h7] at hν
  simp only [baseG, Option.some.injEq] at hν
  subst hν
  have hit : i.toNat < xs.length := by omega
  have hrow : i.toNat * r.size + r.size ≤ xs.length * r.size := by
    rw [show i.toNat * r.size + r.size = (i.toNat + 1) * r.size by rw [Nat.add_mul]; omega]
    exact Nat.mul_le_mul_right _ hit
  have hcap : xs.length * r.size ≤ cap * r.size := Nat.mul_le_mul_right _ h9
  have hcurl : cur.toList.length = cap * r.size := by simpa using h11
  have hrun := run_storeVar (P := P) (w := w) (cur := cur.toList) (off := i.toNat * r.size + off) hn h8 hcl (by rw [hcurl]; omega) (All2.ones hc)
  -- the new row
  have hnewc : All2 (RepCV w (okS W0 A Gv ν B w) ν B) (setCells (unpackR r (gd r.dflt xs i)) off v.cells) (cs.take off ++ (a.eval x).cells.toList ++ cs.drop (off + (a.eval x).cells.toList.length)) := setCells_rep (unpack_rep h5) hc off
  have hrs : ∀ s' ∈ (setCells (unpackR r (gd r.dflt xs i)) off v.cells).flatMap CV.rowSites, s' ∈ ss := by
    intro s' hs'
    rw [List.mem_flatMap] at hs'
    obtain ⟨c, hcm, hs'⟩ := hs'
    unfold setCells at hcm
    simp only [List.mem_append] at hcm
    have hno : ∀ c, c ∈ unpackR r (gd r.dflt xs i) → c.rowSites = [] := by
      intro c hcm'
      have := unpack_sites hcm'
      cases c <;> simp_all [CV.sites, CV.rowSites]
    rcases hcm with (hcm | hcm) | hcm
    · rw [hno c (List.mem_of_mem_take hcm)] at hs'; cases hs'
    · rw [hss, List.mem_filter]
      have hm : s' ∈ v.cells.flatMap CV.rowSites := List.mem_flatMap.2 ⟨c, hcm, hs'⟩
      refine ⟨hm, ?_⟩
      simp only [bne_iff_ne, ne_eq]
      rintro rfl
      exact hns hm
    · rw [hno c (List.mem_of_mem_drop hcm)] at hs'; cases hs'
  have hrep := packR_rep h hf2 r _ _ (fun s' hs' => hf3 s' (hrs s' hs')) y hy hnewc
  have hvl : (a.eval x).cells.toList.length = n := by simpa using hcl
  have hnew : (cs.take off ++ (a.eval x).cells.toList ++ cs.drop (off + (a.eval x).cells.toList.length)).length = r.size := hrep.len
  generalize hnc : cs.take off ++ (a.eval x).cells.toList ++ cs.drop (off + (a.eval x).cells.toList.length) = nc at *
  -- in memory
  have hcss : css[i.toNat]? = some cs := h4
  have hpre : cur.toList = css.flatten ++ cur.toList.drop (xs.length * r.size) := by
    conv => lhs; rw [← List.take_append_drop (xs.length * r.size) cur.toList]
    rw [h12]
  have hmem : (cur.toList.take (i.toNat * r.size + off) ++ (a.eval x).cells.toList ++ cur.toList.drop (i.toNat * r.size + off + (a.eval x).cells.toList.length)) = (css.set i.toNat nc).flatten ++ cur.toList.drop (xs.length * r.size) := by
    have hlens : ∀ c ∈ css, c.length = r.size := by
      intro c hcm
      obtain ⟨j, hj⟩ := List.getElem?_of_mem hcm
      have hjl : j < xs.length := by rw [h1.len]; exact (List.getElem?_eq_some_iff.1 hj).1
      obtain ⟨c', hc', hr'⟩ := h1.get j _ (List.getElem?_eq_getElem hjl)
      rw [hj] at hc'
      cases hc'
      exact hr'.len
    rw [← flat_set i.toNat nc hlens hnew (by rw [← h1.len]; exact hit)]
    have hflen : css.flatten.length = xs.length * r.size := hlen
    rw [hpre]
    have e0 : i.toNat * r.size + off ≤ css.flatten.length := by omega
    have e1 : i.toNat * r.size + off + n ≤ css.flatten.length := by omega
    rw [hvl, List.take_append_of_le_length e0, List.drop_append_of_le_length e1]
    have e2 : css.flatten = css.flatten.take (i.toNat * r.size) ++ (cs ++ css.flatten.drop (i.toNat * r.size + r.size)) := by
      have e3 : (css.flatten.drop (i.toNat * r.size)).take r.size = cs := by
        apply List.ext_getElem?
        intro k
        rw [List.getElem?_take]
        split
        · rename_i hk
          rw [List.getElem?_drop]
          cases hck : cs[k]? with
          | none => rw [List.getElem?_eq_none_iff] at hck; omega
          | some u => exact h6 k u hck
        · rename_i hk
          rw [List.getElem?_eq_none_iff.2 (by omega)]
      conv => lhs; rw [← List.take_append_drop (i.toNat * r.size) css.flatten, ← List.take_append_drop r.size (css.flatten.drop (i.toNat * r.size)), e3, List.drop_drop]
    have hT : (css.flatten.take (i.toNat * r.size)).length = i.toNat * r.size := by rw [List.length_take]; omega
    have e4 : css.flatten.take (i.toNat * r.size + off) = css.flatten.take (i.toNat * r.size) ++ cs.take off := by
      conv => lhs; rw [e2]
      rw [List.take_append, hT, Nat.add_sub_cancel_left, List.take_of_length_le (by omega), List.take_append_of_le_length (by omega)]
    have e5 : css.flatten.drop (i.toNat * r.size + off + n) = cs.drop (off + n) ++ css.flatten.drop (i.toNat * r.size + r.size) := by
      conv => lhs; rw [e2]
      rw [List.drop_append, hT, List.drop_of_length_le (by omega), List.nil_append, show i.toNat * r.size + off + n - i.toNat * r.size = off + n by omega, List.drop_append_of_le_length (by omega)]
    have e6 : ∀ Z : List Value, List.drop (xs.length * r.size) (css.flatten ++ Z) = Z := fun Z => by rw [← hflen]; exact List.drop_left
    rw [e4, e5, ← hnc, hvl]
    simp only [List.append_assoc, e6]
  rw [hmem] at hrun
  have hsim := hf1.write (b1 := .row e r (xs.set i.toNat y) false) hB' rfl rfl ⟨rfl, by simp [Blk.elems]⟩ (q := q') (by rw [h7]; rfl) (grown_setRow w q' ((css.set i.toNat nc).flatten ++ cur.toList.drop (xs.length * r.size)).toArray) (size_setRow w q' _) (fun c hc => by cases hc) (fun ok1 B1 hk1 hk2 hk3 => by
    have hA : All2 (fun x cs => RepR (w.setRow q' ((css.set i.toNat nc).flatten ++ cur.toList.drop (xs.length * r.size)).toArray) ok1 r x cs) (xs.set i.toNat y) (css.set i.toNat nc) := by
      refine All2.set _ (h1.imp fun x cs hx => ?_) ?_
      · exact RepR.move hk2 hk1 r x cs (RepR.move (fun _ _ => rfl) hf2 r x cs hx)
      · exact RepR.move hk2 hk1 r y nc hrep
    refine ⟨css.set i.toNat nc, hA, ⟨by rw [flat_len hA, List.length_set], .inr ⟨q', cap, _, by rw [h7, List.length_set], Nat.zero_le _, setRow_heap w q' _ _ e (0, 0) h8, by rw [List.length_set]; exact h9, h10, ?_, ?_⟩⟩, h3⟩
    · simp only [List.size_toArray, List.length_append, List.length_drop, flat_len hA, List.length_set, hcurl]
      omega
    · simp only [List.length_set]
      rw [← show (css.set i.toNat nc).flatten.length = xs.length * r.size by rw [flat_len hA, List.length_set]]
      exact List.take_left)
  refine ⟨_, undef, _, ν, ?_, .inr ⟨rfl, rfl⟩, hsim, ⟨[], rfl, trivial⟩, fun s' hs' => by simp [TV.sites] at hs'⟩
  simp only [execOp, ho, hpv, Instr.storeAt, Instr.sureAddr, Sem.run_bind, Sem.run_pure, Result.andThen_ok, hrun]

end
end Go.Pi
