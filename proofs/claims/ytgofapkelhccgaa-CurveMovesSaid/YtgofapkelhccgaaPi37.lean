/- A state that is laid out as a loop's head wants it. -/
import Derived.Test.YtgofapkelhccgaaPi36
set_option linter.unusedVariables false
set_option linter.unusedSimpArgs false
namespace Go.Pi
open Go.RowKit

section
variable {W0 : World} {A Gv : Nat → Prop} {N : Nat} {U : Nat → Prop} {g : Nat → TV} {B : Nat → Option Blk} {ν : Nat → Value} {a : Act} {w : World}
theorem Sim.recast (h : Sim W0 A Gv N U g B ν a w) (t : Nat) (x : TV) (hx : RepTV w (okS W0 A Gv ν B w) ν B x (a.tmps.getD t undef)) (hs : ∀ s ∈ x.sites, U s) :
    Sim W0 A Gv N U (fun i => cond (Nat.beq t i) x (g i)) B ν a w := by
  refine ⟨h.old, h.kept, h.defs, h.size, fun i => ?_, fun i s hsi => ?_, h.ub, h.bl, h.inj⟩
  · by_cases hi : t = i
    · subst hi
      rw [Nat.beq_refl]
      exact hx
    · rw [beq_ne hi]
      exact h.tm i
  · by_cases hi : t = i
    · subst hi
      rw [Nat.beq_refl] at hsi
      exact hs s hsi
    · rw [beq_ne hi] at hsi
      exact h.us i s hsi

/-- The cells of a box, told otherwise. -/
theorem Sim.rebox (h : Sim W0 A Gv N U g B ν a w) {s : Nat} {t : TypeId} {m m' : List CV} (hB : B s = some (.box t m))
    (hm : ∀ (g0 : Nat) (vs : List Value), ν s = .pointer (some ⟨g0, 0, none⟩) → w.heap[g0]? = some (.cells vs.toArray t (0, 0)) → All2 (RepCV w (okS W0 A Gv ν B w) ν B) m' vs) (hs : ∀ x ∈ m', ∀ s' ∈ x.sites, U s') :
    Sim W0 A Gv N U g (setB B s (some (.box t m'))) ν a w := by
  have hgo : ∀ s', GoesOn ν ν B (setB B s (some (.box t m'))) s' := by
    intro s'
    by_cases e : s = s'
    · subst e
      exact .inr ⟨_, _, hB, setB_eq _ _ _, ⟨rfl, rfl⟩, rfl⟩
    · cases hb : B s' with
      | none => exact .inl (by rw [setB_ne _ _ e, hb])
      | some b => exact .inr ⟨b, b, hb, by rw [setB_ne _ _ e, hb], ⟨rfl, rfl⟩, rfl⟩
  have hok : ∀ x, okS W0 A Gv ν B w x → okS W0 A Gv ν (setB B s (some (.box t m'))) w x := by
    intro x hx
    rcases hx with hx | ⟨h1, h2, h3⟩
    · exact .inl hx
    · refine .inr ⟨h1, h2, fun s' b hb hmu => ?_⟩
      by_cases e : s = s'
      · subst e
        exact h3 s _ hB rfl
      · rw [setB_ne _ _ e] at hb
        exact h3 s' b hb hmu
  refine ⟨h.old, h.kept, h.defs, h.size, fun i => (h.tm i).evolve (fun _ _ => rfl) hok fun s' _ => hgo s', h.us, fun s' b hb => ?_, fun s' b hb => ?_, fun s1 s2 b1 b2 x h1 h2 => ?_⟩
  · by_cases e : s = s'
    · subst e
      rw [setB_eq] at hb
      cases hb
      exact ⟨(h.ub s _ hB).1, hs⟩
    · rw [setB_ne _ _ e] at hb
      exact h.ub s' b hb
  · by_cases e : s = s'
    · subst e
      rw [setB_eq] at hb
      cases hb
      obtain ⟨g0, vs, h1, h2, h3, h4⟩ := h.bl s _ hB
      refine ⟨g0, vs, h1, h2, h3, ?_⟩
      exact (hm g0 vs h1 h3).imp fun c v hc => hc.evolve (fun _ _ => rfl) hok fun s' _ => hgo s'
    · rw [setB_ne _ _ e] at hb
      exact (h.bl s' b hb).evolve (fun _ _ => rfl) hok rfl (fun x hx s'' hs'' => hgo s'') fun _ _ => rfl
  · have f : ∀ i b, setB B s (some (.box t m')) i = some b → ∃ b', B i = some b' := by
      intro i b hb
      by_cases e : s = i
      · subst e; exact ⟨_, hB⟩
      · rw [setB_ne _ _ e] at hb; exact ⟨_, hb⟩
    obtain ⟨b1', e1⟩ := f _ _ h1
    obtain ⟨b2', e2⟩ := f _ _ h2
    exact h.inj s1 s2 b1' b2' x e1 e2

theorem ownsRow_take {w : World} {e : TypeId} {size : Nat} {Ad : Option Addr} {m c n : Nat} {xs : List Value} (h : w.ownsRow 0 e size (.slice Ad m c) m xs) (hn : n ≤ m) : w.ownsRow 0 e size (.slice Ad n c) n (xs.take (n * size)) := by
  have hle : n * size ≤ m * size := Nat.mul_le_mul_right _ hn
  refine ⟨by rw [List.length_take, h.1]; omega, ?_⟩
  rcases h.2 with ⟨h1, h2⟩ | ⟨g, cap, cur, h1, h2, h3, h4, h5, h6, h7⟩
  · left
    simp only [Value.slice.injEq] at h1
    obtain ⟨rfl, rfl, rfl⟩ := h1
    have : n = 0 := by omega
    subst this
    exact ⟨rfl, rfl⟩
  · right
    simp only [Value.slice.injEq] at h1
    obtain ⟨rfl, _, rfl⟩ := h1
    refine ⟨g, c, cur, rfl, h2, h3, by omega, h5, h6, ?_⟩
    rw [← h7, List.take_take, Nat.min_eq_left hle]
theorem flatR_take {w : World} {ok : Nat → Prop} {r : Shs} : ∀ {xs : List (RowD r)} {css : List (List Value)}, All2 (fun x cs => RepR w ok r x cs) xs css → ∀ n, (css.take n).flatten = css.flatten.take (n * r.size)
  | [], [], _, n => by simp
  | x :: xs, c :: css, h, 0 => by simp
  | x :: xs, c :: css, h, n + 1 => by
    have := RepR.len h.1
    rw [List.take_succ_cons, List.flatten_cons, List.flatten_cons, flatR_take h.2 n, List.take_append, this, Nat.add_mul]
    have e1 : n * r.size + 1 * r.size - r.size = n * r.size := by omega
    rw [e1, List.take_of_length_le (l := c) (by rw [this]; omega)]
  | [], _ :: _, h, _ => h.elim
  | _ :: _, [], h, _ => h.elim

/-- The beginning of a row, as a row of its own; the row is given up. -/
theorem Sim.preOwn (h : Sim W0 A Gv N U g B ν a w) {t : Nat} {s' : Nat} {n : Int} (ht : g t = .e (.one (.pre s' n))) {e : TypeId} {r : Shs} {xs : List (RowD r)} (hB : B s' = some (.row e r xs false)) {s : Nat} (hs : ¬ U s) :
    ∃ ν', Sim W0 A Gv N (fun i => U i ∨ i = s) (fun i => cond (Nat.beq t i) (.e (.one (.own s))) (g i)) (setB (setB B s' none) s (some (.row e r (xs.take n.toNat) false))) ν' a w := by
  have hv := h.tm t
  rw [ht] at hv
  obtain ⟨hone, hv⟩ := hv
  obtain ⟨_, r0, m, Ad, c, he, hn0, hnm, hνs, hval⟩ := hv _ hB
  simp only [Blk.elems, Option.some.injEq, Prod.mk.injEq] at he
  obtain ⟨rfl, rfl⟩ := he
  obtain ⟨css, h1, h2, h3⟩ := h.bl _ _ hB
  have hu' := (h.ub _ _ hB).1
  have hne : s ≠ s' := fun e => hs (e ▸ hu')
  have hlen : n.toNat ≤ xs.length := by omega
  rw [hνs] at h2
  have hBs : ∀ i, i ≠ s → i ≠ s' → setB (setB B s' none) s (some (.row e r (xs.take n.toNat) false)) i = B i := by
    intro i h1 h2
    rw [setB_ne _ _ (Ne.symm h1), setB_ne _ _ (Ne.symm h2)]
  have hBn : setB (setB B s' none) s (some (Blk.row e r (xs.take n.toNat) false)) s' = none := by
    rw [setB_ne _ _ hne, setB_eq]
  have hob : ownB (.slice Ad n.toNat c) = ownB (ν s') := by rw [hνs]; cases Ad <;> rfl
  have step := h.step (w1 := w) (B1 := setB (setB B s' none) s (some (.row e r (xs.take n.toNat) false))) (ν1 := setν ν s (.slice Ad n.toNat c)) (U1 := fun i => U i ∨ i = s) (fun i => i = s ∨ i = s')
    (fun i hi => .inl hi) rfl rfl rfl (Nat.le_refl _) (fun _ _ _ => rfl)
    (fun i hi => ⟨hBs i (fun e => hi (.inl e)) (fun e => hi (.inr e)), fun hu => setν_ne _ _ (fun e => hi (.inl e.symm))⟩)
    (fun i hi hu => by
      rcases hi with rfl | rfl
      · exact absurd hu hs
      · exact .inl hBn)
    (fun i b1 x hi hb hm hx _ => by
      rcases hi with rfl | rfl
      · rw [setν_eq, hob] at hx
        exact ⟨s', _, .inr rfl, hB, rfl, hx⟩
      · rw [hBn] at hb; cases hb)
    (fun i b1 hi hb => by
      rcases hi with rfl | rfl
      · rw [setB_eq] at hb
        cases hb
        exact ⟨.inr rfl, fun x hx => nomatch hx⟩
      · rw [hBn] at hb; cases hb)
    (fun hboth hgo i b1 hi hb => by
      rcases hi with rfl | rfl
      · rw [setB_eq] at hb
        cases hb
        refine ⟨css.take n.toNat, (h1.take _).imp fun x cs hx => RepR.move (fun _ _ => rfl) (fun x hx => (hboth x hx).1) r x cs hx, ?_, fun y hy => ?_⟩
        · rw [setν_eq, flatR_take h1]
          have := ownsRow_take h2 hlen
          rw [List.length_take, Nat.min_eq_left hlen]
          exact this
        · rw [setν_eq, hob] at hy
          exact h3 y hy
      · rw [hBn] at hb; cases hb)
    (fun i j b b' x hi hb hb' hx hx' => by
      rcases hi with rfl | rfl
      · rw [setν_eq, hob] at hx
        by_cases e : j = i
        · exact e.symm
        · by_cases e2 : j = s'
          · subst e2; rw [hBn] at hb'; cases hb'
          · rw [hBs j e e2] at hb'
            rw [setν_ne _ _ (Ne.symm e)] at hx'
            exact absurd (h.inj s' j _ _ x hB hb' hx hx').symm e2
      · rw [hBn] at hb; cases hb)
    (fun i b b1 hi hb hb1 => by
      rw [hBs i (fun e => hi (.inl e)) (fun e => hi (.inr e)), hb] at hb1
      exact (Option.some.inj hb1).symm)
  refine ⟨_, step.recast t _ ⟨hone, fun b hb => ?_⟩ fun i hi => ?_⟩
  · rw [setB_eq] at hb
    cases hb
    exact ⟨rfl, by rw [setν_eq]; exact hval⟩
  · simp only [TV.sites, EV.sites, EV.cells, CV.sites, List.flatMap_cons, List.flatMap_nil, List.append_nil, List.mem_singleton] at hi
    exact .inr hi

/-! cells as data -/
theorem fitC_sites (k : CK) (v : CV) : ∀ s ∈ (fitC B k v).sites, s ∈ v.sites := by
  intro s hs
  unfold fitC at hs
  split at hs
  · split at hs
    · exact hs
    · split at hs
      · cases hs
      · exact hs
  · exact hs
theorem fitCs_sites : ∀ (l : List CK) (m : List CV), ∀ x ∈ fitCs B l m, ∀ s ∈ x.sites, ∃ y ∈ m, s ∈ y.sites
  | [], m, x, hx, s, hs => ⟨x, hx, hs⟩
  | k :: l, [], x, hx, s, hs => nomatch hx
  | k :: l, v :: m, x, hx, s, hs => by
    rcases List.mem_cons.1 hx with rfl | hx
    · exact ⟨v, by simp, fitC_sites k v s hs⟩
    · obtain ⟨y, h1, h2⟩ := fitCs_sites l m x hx s hs
      exact ⟨y, by simp [h1], h2⟩
theorem fitC_rep (h : Sim W0 A Gv N U g B ν a w) (ss : List Nat) {k : CK} {v : CV} {u : Value} (hss : ∀ s ∈ fitN k v, s ∈ ss) (hv : RepCV w (okS W0 A Gv ν B w) ν B v u) :
    RepCV w (okS W0 A Gv ν (updB (frz B ss) B) w) ν (updB (frz B ss) B) (fitC B k v) u := by
  obtain ⟨_, hf2, hf3, hf4⟩ := h.freeze ss
  have keep : RepCV w (okS W0 A Gv ν (updB (frz B ss) B) w) ν (updB (frz B ss) B) v u := hv.evolve (fun _ _ => rfl) hf2 fun s _ => hf4 s
  unfold fitC
  split
  · rename_i s
    split
    · exact keep
    · split
      · rename_i x hx
        exact toC_rep h hf2 (fun s' hs' e r xs fz y hb hy => hf3 s' (hss s' hs') e r xs fz y hb hy) hx hv
      · exact keep
  · exact keep
theorem fitCs_rep (h : Sim W0 A Gv N U g B ν a w) (ss : List Nat) : ∀ {l : List CK} {m : List CV} {us : List Value}, (∀ s ∈ fitNs l m, s ∈ ss) → All2 (RepCV w (okS W0 A Gv ν B w) ν B) m us →
    All2 (RepCV w (okS W0 A Gv ν (updB (frz B ss) B) w) ν (updB (frz B ss) B)) (fitCs B l m) us
  | [], m, us, _, hm => by
    obtain ⟨_, hf2, _, hf4⟩ := h.freeze ss
    exact hm.imp fun c v hc => hc.evolve (fun _ _ => rfl) hf2 fun s _ => hf4 s
  | _ :: _, [], [], _, _ => trivial
  | k :: l, v :: m, u :: us, hss, hm => ⟨fitC_rep h ss (fun s hs => hss s (by simp only [fitNs, List.mem_append]; exact .inl hs)) hm.1,
      fitCs_rep h ss (l := l) (fun s hs => hss s (by simp only [fitNs, List.mem_append]; exact .inr hs)) hm.2⟩
  | _ :: _, [], _ :: _, _, hm => hm.elim
  | _ :: _, _ :: _, [], _, hm => hm.elim
theorem fitE_rep (h : Sim W0 A Gv N U g B ν a w) (ss : List Nat) {k : EK} {x : TV} {u : Value} (hss : ∀ s ∈ fitEn k x, s ∈ ss) (hv : RepTV w (okS W0 A Gv ν B w) ν B x u) :
    RepTV w (okS W0 A Gv ν (updB (frz B ss) B) w) ν (updB (frz B ss) B) (fitE B k x) u := by
  obtain ⟨_, hf2, hf3, hf4⟩ := h.freeze ss
  have keep : RepTV w (okS W0 A Gv ν (updB (frz B ss) B) w) ν (updB (frz B ss) B) x u := hv.evolve (fun _ _ => rfl) hf2 fun s _ => hf4 s
  unfold fitE
  split
  · exact fitC_rep h ss (fun s hs => hss s hs) hv
  · obtain ⟨vs, e, hl⟩ := hv
    exact ⟨vs, e, fitCs_rep h ss (fun s hs => hss s hs) hl⟩
  · exact keep
theorem fitE_sites (k : EK) (x : TV) : ∀ s ∈ (fitE B k x).sites, s ∈ x.sites := by
  intro s hs
  unfold fitE at hs
  split at hs
  · simp only [TV.sites, EV.sites, EV.cells, List.flatMap_cons, List.flatMap_nil, List.append_nil] at hs ⊢
    exact fitC_sites _ _ s hs
  · simp only [TV.sites, EV.sites, EV.cells, List.mem_flatMap] at hs ⊢
    obtain ⟨c, h1, h2⟩ := hs
    exact fitCs_sites _ _ c h1 s h2
  · exact hs

theorem fitS_sound {S : St} {t : Nat} {k : EK} (hs : Sim W0 A Gv N (fun s => s < S.nx) (gOf S.g) (bOf S.b) ν a w) :
    Sim W0 A Gv N (fun s => s < (fitS S t k).nx) (gOf (fitS S t k).g) (bOf (fitS S t k).b) ν a w := by
  have h1 := (hs.freeze (fitEn k (gOf S.g t))).1
  have h2 := h1.recast t (fitE (bOf S.b) k (gOf S.g t)) (fitE_rep hs _ (fun _ h => h) (hs.tm t)) fun s hs' => hs.us t s (fitE_sites _ _ s hs')
  unfold fitS
  rw [gOf_cons, bOf_app]
  exact h2
theorem own1_sound {bs : List (Nat × BK)} {S : St} {t : Nat} {k : EK} (hs : Sim W0 A Gv N (fun s => s < S.nx) (gOf S.g) (bOf S.b) ν a w) :
    ∃ ν', Sim W0 A Gv N (fun s => s < (own1 bs S t k).nx) (gOf (own1 bs S t k).g) (bOf (own1 bs S t k).b) ν' a w := by
  unfold own1
  split
  · split
    · rename_i ht
      split
      · rename_i e r _
        obtain ⟨ν', h1⟩ := hs.nilOwn ht (s := S.nx) (Nat.lt_irrefl _) e r
        refine ⟨ν', ?_⟩
        have e1 : bOf ((S.nx, some (Blk.row e r [] false)) :: S.b) = setB (bOf S.b) S.nx (some (.row e r [] false)) := by
          rw [← updB_nil (bOf S.b), ← updB_cons]
          exact bOf_app [(S.nx, some (Blk.row e r [] false))] S.b
        rw [gOf_cons, e1]
        exact h1.mono fun i hi => by
          rcases hi with hi | hi
          · exact Nat.lt_succ_of_lt hi
          · rw [hi]; exact Nat.lt_succ_self _
      · exact ⟨ν, hs⟩
    · rename_i s' n ht
      split
      · rename_i e r xs hB
        obtain ⟨ν', h1⟩ := hs.preOwn ht hB (s := S.nx) (Nat.lt_irrefl _)
        refine ⟨ν', ?_⟩
        have e1 : bOf ((S.nx, some (Blk.row e r (xs.take n.toNat) false)) :: (s', none) :: S.b) = setB (setB (bOf S.b) s' none) S.nx (some (.row e r (xs.take n.toNat) false)) := by
          rw [← updB_nil (bOf S.b), ← updB_cons, ← updB_cons]
          exact bOf_app [(S.nx, some (Blk.row e r (xs.take n.toNat) false)), (s', none)] S.b
        rw [gOf_cons, e1]
        exact h1.mono fun i hi => by
          rcases hi with hi | hi
          · exact Nat.lt_succ_of_lt hi
          · rw [hi]; exact Nat.lt_succ_self _
      · exact ⟨ν, hs⟩
    · exact ⟨ν, hs⟩
  · exact ⟨ν, hs⟩
theorem fits1_sound {bs : List (Nat × BK)} : ∀ (l : List (Nat × EK)) {S : St} {ν : Nat → Value}, Sim W0 A Gv N (fun s => s < S.nx) (gOf S.g) (bOf S.b) ν a w →
    ∃ ν', Sim W0 A Gv N (fun s => s < (fits1 bs l S).nx) (gOf (fits1 bs l S).g) (bOf (fits1 bs l S).b) ν' a w
  | [], S, ν, hs => ⟨ν, hs⟩
  | p :: l, S, ν, hs => by
    obtain ⟨ν1, h1⟩ := own1_sound (bs := bs) (t := p.1) (k := p.2) hs
    exact fits1_sound l (fitS_sound (t := p.1) (k := p.2) h1)
theorem fitB1_sound {ρ : Nat → Nat} {S : St} {p : Nat × BK} (hs : Sim W0 A Gv N (fun s => s < S.nx) (gOf S.g) (bOf S.b) ν a w) :
    Sim W0 A Gv N (fun s => s < (fitB1 ρ S p).nx) (gOf (fitB1 ρ S p).g) (bOf (fitB1 ρ S p).b) ν a w := by
  unfold fitB1
  split
  · rename_i t0 l hp
    split
    · rename_i t m hB
      obtain ⟨h1, hf2, hf3, hf4⟩ := hs.freeze (fitNs l m)
      have hB' : updB (frz (bOf S.b) (fitNs l m)) (bOf S.b) (ρ p.1) = some (.box t m) := by
        rw [frz_lk, hB]
      have e1 : bOf ((ρ p.1, some (Blk.box t (fitCs (bOf S.b) l m))) :: (frz (bOf S.b) (fitNs l m) ++ S.b)) = setB (updB (frz (bOf S.b) (fitNs l m)) (bOf S.b)) (ρ p.1) (some (.box t (fitCs (bOf S.b) l m))) := by
        rw [← updB_cons]
        exact bOf_app ((ρ p.1, some (Blk.box t (fitCs (bOf S.b) l m))) :: frz (bOf S.b) (fitNs l m)) S.b
      rw [e1]
      obtain ⟨g0, vs0, k1, k2, k3, k4⟩ := hs.bl _ _ hB
      -- the box's values
      refine Sim.rebox h1 hB' (fun g1 vs q1 q3 => ?_) fun x hx s' hs' => ?_
      · rw [k1] at q1
        simp only [Value.pointer.injEq, Option.some.injEq, Addr.mk.injEq] at q1
        obtain ⟨rfl, _⟩ := q1
        rw [k3] at q3
        simp only [Option.some.injEq, Obj.cells.injEq] at q3
        have hl : vs0 = vs := by simpa using q3.1
        subst hl
        exact fitCs_rep hs _ (fun _ h => h) k4
      · obtain ⟨y, hy, hs''⟩ := fitCs_sites l m x hx s' hs'
        exact (hs.ub _ _ hB).2 y hy s' hs''
    · exact hs
  · exact hs
theorem fitBs_sound {ρ : Nat → Nat} : ∀ (l : List (Nat × BK)) {S : St}, Sim W0 A Gv N (fun s => s < S.nx) (gOf S.g) (bOf S.b) ν a w →
    Sim W0 A Gv N (fun s => s < (fitBs ρ l S).nx) (gOf (fitBs ρ l S).g) (bOf (fitBs ρ l S).b) ν a w
  | [], S, hs => hs
  | p :: l, S, hs => fitBs_sound l (fitB1_sound (p := p) hs)
theorem Sk.fit_sound {sk : Sk} {S : St} (hs : Sim W0 A Gv N (fun s => s < S.nx) (gOf S.g) (bOf S.b) ν a w) :
    ∃ ν', Sim W0 A Gv N (fun s => s < (sk.fit S).nx) (gOf (sk.fit S).g) (bOf (sk.fit S).b) ν' a w := by
  obtain ⟨ν1, h1⟩ := fits1_sound (bs := sk.bs) sk.ts hs
  exact ⟨ν1, fitBs_sound sk.bs h1⟩
end
end Go.Pi
