/- Code: sound. -/
import Derived.Test.YtgofapkelhccgaaPi29
import Derived.Scope
set_option linter.unusedVariables false
set_option linter.unusedSimpArgs false
namespace Go.Pi
open Go.RowKit

def exOf : Ex → Exit
  | .norm => .normal
  | .exit i => .exit i
  | .ret => .ret

theorem wp_loop_ind {P : Program} {Q : Exit → Act → World → Prop} {c : Code} (I : Nat → Act → World → Prop) {n : Nat} {a : Act} {w : World} (h₀ : I n a w)
    (round : ∀ n a w, I n a w → c.wp P (Exit.then (fun a' w' => ∃ m, m < n ∧ I m a' w') Q) a w) : (Code.loop c).wp P Q a w := by
  intro b k cs
  have key : ∀ n a w, I n a w → ∃ e a' w', Q e a' w' ∧ Arrives P (lone (b.at a (.code c :: .inLoop c :: k)) cs w) b k cs e a' w' := by
    intro n
    induction n using Nat.strongRecOn with
    | _ n ih =>
      intro a w hI
      obtain ⟨e, a₁, w₁, hq, harr⟩ := round n a w hI b (.inLoop c :: k) cs
      cases e with
      | normal =>
        obtain ⟨m, hlt, hI₁⟩ := hq
        obtain ⟨e₂, a₂, w₂, hq₂, harr₂⟩ := ih m hlt a₁ w₁ hI₁
        exact ⟨e₂, a₂, w₂, hq₂, .of_steps (Steps.trans harr (.one step_inLoop)) harr₂⟩
      | exit id => exact ⟨_, a₁, w₁, hq, .pass (x := .inLoop c) rfl (fun _ _ => .inl (by simp)) harr⟩
      | goto l => exact ⟨_, a₁, w₁, hq, .pass (x := .inLoop c) rfl (fun _ _ => .inl (by simp)) harr⟩
      | ret => exact ⟨_, a₁, w₁, hq, .pass (x := .inLoop c) rfl (fun _ _ => .inl (by simp)) harr⟩
      | panic ch => exact ⟨_, a₁, w₁, hq, .pass (x := .inLoop c) rfl (fun _ _ => .inl (by simp)) harr⟩
      | outgrown => exact ⟨_, a₁, w₁, hq, .pass (x := .inLoop c) rfl (fun _ _ => .inl (by simp)) harr⟩
  obtain ⟨e, a', w', hq, harr⟩ := key _ a w h₀
  exact ⟨e, a', w', hq, .of_steps (.one step_loop) harr⟩

section
variable {R : Type} {P : Program} {W0 : World} {A Gv : Nat → Prop} {N : Nat} {T : List (Nat × Ent)} {L : List (Nat × LoopE R)} {r : R}

abbrev SimS (W0 : World) (A Gv : Nat → Prop) (N : Nat) (S : St) (ν : Nat → Value) (a : Act) (w : World) : Prop := Sim W0 A Gv N (fun s => s < S.nx) (gOf S.g) (bOf S.b) ν a w

theorem region_sound (hm : P.follows .mixedOrders = true) (hT : ∀ p ∈ T, Holds P p.1 p.2) {k id : Nat} {ops : Array Oper} {draw : Bool} {S : St} {K : Nat → Ex → St → Option R} {ν : Nat → Value} {a : Act} {w : World} {Q : Exit → Act → World → Prop}
    (h : exec P T N L (.region id ops draw) k S K = some r) (hs : SimS W0 A Gv N S ν a w) (hK : ∀ S' ν' a' w', K k .norm S' = some r → SimS W0 A Gv N S' ν' a' w' → Q .normal a' w') :
    (Code.region id ops draw).wp P Q a w := by
  unfold exec at h
  cases draw with
  | false =>
    refine wp_region ?_
    have := opsK_text (W0 := W0) (A := A) (Gv := Gv) (Q := Q) hT ops.toList 0 S.nx S.g S.b [] ν a w (by simp) h hs (fun g' b' lg' ν' a' w' hk hs' => by
      have hk := (cond_none hk).2
      exact hK ⟨g', b', S.nx + 8 * ops.size⟩ ν' a' w' hk (by simpa using hs'))
    rw [List.range_eq_range']
    simpa using this
  | true =>
    obtain ⟨ls, g', b', h1, h2, h3, h4, h5⟩ := opsK_trace ops.toList 0 S.nx S.g S.b [] h
    obtain ⟨h6, h7⟩ := cond_none h1
    simp only [Bool.not_true, Bool.false_or, List.append_nil, List.reverse_reverse] at h6
    refine wp_region_any hm ?_
    have hlen : ls.length = ops.size := by simpa using h2
    refine draw_sound (W0 := W0) (A := A) (Gv := Gv) (N := N) (k := k) (G := gOf S.g) (B := bOf S.b) (nx := S.nx) hT hlen h6 (fun i o lo ho hlo => ?_) (fun ν' a' w' hs' => ?_) ops.size _ ν a _ (by simp) (by simp [List.count_replicate]) (fun i o ho hli => ?_) ?_
    · have := h5 i o lo (by simpa using ho) hlo
      rw [Nat.zero_add] at this
      exact this
    · rw [← h3, ← h4] at hs'
      exact hK ⟨g', b', S.nx + 8 * ops.size⟩ ν' a' w' h7 hs'
    · have : i < ops.size := (Array.getElem?_eq_some_iff.1 ho).1
      simp [this] at hli
    · have e1 : ∀ i : Nat, (Array.replicate ops.size false).getD i false = false := by
        intro i
        by_cases hi : i < ops.size <;> simp [hi]
      have e2 : (fun i => (Array.replicate ops.size false).getD i false) = fun _ => false := funext e1
      rw [e2, fG_none _ _ _ (fun _ => rfl), fB_none _ _ _ (fun _ => rfl)]
      exact (hs.mono fun s hs => .inl hs).drew _

theorem exec_sound (hm : P.follows .mixedOrders = true) (hT : ∀ p ∈ T, Holds P p.1 p.2) : ∀ (c : Code) (k : Nat) (S : St) (K : Nat → Ex → St → Option R) (ν : Nat → Value) (a : Act) (w : World) (Q : Exit → Act → World → Prop),
    obl P T N L c K → exec P T N L c k S K = some r → SimS W0 A Gv N S ν a w →
    (∀ k' e S' ν' a' w', k' ≤ k → K k' e S' = some r → SimS W0 A Gv N S' ν' a' w' → Q (exOf e) a' w') → c.wp P Q a w
  | .skip, k, S, K, ν, a, w, Q, _, h, hs, hK => wp_skip (hK k .norm S ν a w (Nat.le_refl _) h hs)
  | .region id ops draw, k, S, K, ν, a, w, Q, _, h, hs, hK => region_sound hm hT h hs fun S' ν' a' w' h1 h2 => hK k .norm S' ν' a' w' (Nat.le_refl _) h1 h2
  | .seq x y, k, S, K, ν, a, w, Q, ho, h, hs, hK => by
    refine wp_seq (exec_sound hm hT x k S _ ν a w _ ho.1 h hs fun k' e S' ν' a' w' hk h1 h2 => ?_)
    cases e with
    | norm => exact exec_sound hm hT y k' S' K ν' a' w' Q ho.2 h1 h2 fun k2 e2 S2 ν2 a2 w2 hk2 => hK k2 e2 S2 ν2 a2 w2 (Nat.le_trans hk2 hk)
    | exit i => exact hK k' (.exit i) S' ν' a' w' hk h1 h2
    | ret => exact hK k' .ret S' ν' a' w' hk h1 h2
  | .cond c x y, k, S, K, ν, a, w, Q, ho, h, hs, hK => by
    unfold exec at h
    split at h
    · rename_i t hc
      have hv := rep_bool (hc ▸ hs.opnd c)
      cases t with
      | true => exact wp_cond_true hv (exec_sound hm hT x k S K ν a w Q ho.1 h hs hK)
      | false => exact wp_cond_false hv (exec_sound hm hT y k S K ν a w Q ho.2 h hs hK)
    · cases h
  | .block id c, k, S, K, ν, a, w, Q, ho, h, hs, hK => by
    refine wp_block (exec_sound hm hT c k S _ ν a w _ ho h hs fun k' e S' ν' a' w' hk h1 h2 => ?_)
    cases e with
    | norm => exact hK k' .norm S' ν' a' w' hk h1 h2
    | ret => exact hK k' .ret S' ν' a' w' hk h1 h2
    | exit i =>
      simp only [exOf, Exit.inBlock]
      have h1' : cond (Nat.beq i id) (K k' .norm S') (K k' (.exit i) S') = some r := h1
      split
      · rename_i hi
        rw [hi, Nat.beq_refl] at h1'
        exact hK k' .norm S' ν' a' w' hk h1' h2
      · rename_i hi
        rw [beq_ne hi] at h1'
        exact hK k' (.exit i) S' ν' a' w' hk h1' h2
  | .scope c, k, S, K, ν, a, w, Q, ho, h, hs, hK => by
    refine wp_scope_straight (exec_sound hm hT c k S _ ν a w _ ho h hs fun k' e S' ν' a' w' hk h1 h2 => ?_)
    have := hK k' e S' ν' a' w' hk h1 h2
    cases e <;> exact this
  | .loop c, k, S, K, ν, a, w, Q, ho, h, hs, hK => by
    obtain ⟨ho1, ho2⟩ := ho
    unfold exec at h
    have enter : ∀ (k : Nat) (S : St) (ν : Nat → Value) (a : Act) (w : World), loopGo L (lid c) k S = some r → SimS W0 A Gv N S ν a w →
        ∃ le d ν', lk L (lid c) = some le ∧ le.fn k d = some r ∧ SimS W0 A Gv N (le.sk.mk' d) ν' a w := by
      intro k S ν a w h hs
      unfold loopGo at h
      split at h
      · rename_i le hl
        obtain ⟨d, h1, h2⟩ := bindO_some h
        obtain ⟨ν', h3⟩ := Sk.take_sound h1 hs
        exact ⟨le, d, ν', hl, h2, h3⟩
      · cases h
    obtain ⟨le, d, ν', hl, h1, h2⟩ := enter k S ν a w h hs
    refine wp_loop_ind (fun n a w => n ≤ k ∧ ∃ d ν, le.fn n d = some r ∧ SimS W0 A Gv N (le.sk.mk' d) ν a w) ⟨Nat.le_refl _, d, ν', h1, h2⟩ fun n a w hI => ?_
    obtain ⟨hn, d, ν, h3, h4⟩ := hI
    obtain ⟨ob1, ob2⟩ := ho1 le hl
    cases n with
    | zero => rw [ob1] at h3; cases h3
    | succ n =>
      rw [ob2] at h3
      refine exec_sound hm hT c n _ _ ν a w _ ho2 h3 h4 fun k' e S' ν' a' w' hk h5 h6 => ?_
      cases e with
      | norm =>
        obtain ⟨le', d', ν2, hl', h7, h8⟩ := enter k' S' ν' a' w' h5 h6
        rw [hl] at hl'
        cases hl'
        exact ⟨k', by omega, by omega, d', ν2, h7, h8⟩
      | exit i => exact hK k' (.exit i) S' ν' a' w' (by omega) h5 h6
      | ret => exact hK k' .ret S' ν' a' w' (by omega) h5 h6
  | .exit i, k, S, K, ν, a, w, Q, _, h, hs, hK => wp_exit (hK k (.exit i) S ν a w (Nat.le_refl _) h hs)
  | .ret, k, S, K, ν, a, w, Q, _, h, hs, hK => wp_ret (hK k .ret S ν a w (Nat.le_refl _) h hs)
  | .rangeFunc _ _ _ _, _, _, _, _, _, _, _, _, h, _, _ => nomatch h
  | .label _, _, _, _, _, _, _, _, _, h, _, _ => nomatch h
  | .goto _, _, _, _, _, _, _, _, _, h, _, _ => nomatch h
  | .refuse _, _, _, _, _, _, _, _, _, h, _, _ => nomatch h
end
end Go.Pi
