/- A state under new names; the state at a loop's head. -/
import Derived.Test.YtgofapkelhccgaaPi28
import Derived.Test.YtgofapkelhccgaaPi37
set_option linter.unusedVariables false
set_option linter.unusedSimpArgs false
namespace Go.Pi
open Go.RowKit

def CV.map (ρ : Nat → Nat) : CV → CV
  | .val v => .val v
  | .c s x => .c s x
  | .own s => .own (ρ s)
  | .pre s n => .pre (ρ s) n
  | .ptr s off => .ptr (ρ s) off
  | .rptr s r i off => .rptr (ρ s) r i off
  | .eptr r xs i off => .eptr r xs i off
def EV.map (ρ : Nat → Nat) : EV → EV
  | .one x => .one (x.map ρ)
  | .agg l => .agg (l.map (CV.map ρ))
def Blk.map (ρ : Nat → Nat) : Blk → Blk
  | .box t l => .box t (l.map (CV.map ρ))
  | .row e r xs fz => .row e r xs fz
  | .arr t r n xs => .arr t r n xs

section
variable {w : World} {ok ok' : Nat → Prop} {ν : Nat → Value} {B B' : Nat → Option Blk} {ρ : Nat → Nat}
theorem Blk.map_isRow (b : Blk) : (b.map ρ).isRow = b.isRow := by cases b <;> rfl
theorem Blk.map_elems (b : Blk) : (b.map ρ).elems = b.elems := by cases b <;> rfl
theorem Blk.map_mut (b : Blk) : (b.map ρ).mut = b.mut := by cases b <;> rfl

theorem RepCV.rename (ho : ∀ x, ok x → ok' x) (hB : ∀ i b', B' i = some b' → B (ρ i) = some (b'.map ρ)) {x : CV} {v : Value} (h : RepCV w ok ν B (x.map ρ) v) : RepCV w ok' (fun i => ν (ρ i)) B' x v := by
  cases x with
  | val u => exact h
  | c s x => exact RepC.move (fun _ _ => rfl) ho s x v h
  | own s =>
    refine ⟨h.1, fun b hb => ?_⟩
    have := h.2 _ (hB s b hb)
    rwa [Blk.map_isRow] at this
  | pre s n =>
    refine ⟨h.1, fun b hb => ?_⟩
    have := h.2 _ (hB s b hb)
    rwa [Blk.map_isRow, Blk.map_elems] at this
  | ptr s off =>
    refine ⟨h.1, fun b hb => ?_⟩
    have := h.2 _ (hB s b hb)
    rwa [Blk.map_isRow] at this
  | rptr s r i off =>
    refine ⟨h.1, fun b hb => ?_⟩
    have := h.2 _ (hB s b hb)
    rwa [Blk.map_elems] at this
  | eptr r xs i off =>
    obtain ⟨ad, css, h1, h2, h3, h4, h5⟩ := h
    exact ⟨ad, css, h1, h2, ho _ h3, h4.imp (fun x cs hx => RepR.move (fun _ _ => rfl) ho r x cs hx), h5⟩
theorem All2.of_map {α β γ : Type} {R : β → γ → Prop} {R' : α → γ → Prop} {f : α → β} (hf : ∀ a c, R (f a) c → R' a c) : ∀ {l : List α} {m : List γ}, All2 R (l.map f) m → All2 R' l m
  | [], [], _ => trivial
  | _ :: _, _ :: _, h => ⟨hf _ _ h.1, All2.of_map hf h.2⟩
  | [], _ :: _, h => h.elim
  | _ :: _, [], h => h.elim
theorem RepEV.rename (ho : ∀ x, ok x → ok' x) (hB : ∀ i b', B' i = some b' → B (ρ i) = some (b'.map ρ)) {x : EV} {v : Value} (h : RepEV w ok ν B (x.map ρ) v) : RepEV w ok' (fun i => ν (ρ i)) B' x v := by
  cases x with
  | one x => exact RepCV.rename ho hB h
  | agg l =>
    obtain ⟨vs, e, h⟩ := h
    exact ⟨vs, e, All2.of_map (fun a c => RepCV.rename ho hB) h⟩
end

section
variable {W0 : World} {A Gv : Nat → Prop} {N : Nat} {U U' : Nat → Prop} {g g' : Nat → TV} {B B' : Nat → Option Blk} {ν : Nat → Value} {a : Act} {w : World} {ρ : Nat → Nat}
theorem Sim.rename (h : Sim W0 A Gv N U g B ν a w) (hg : ∀ t, g' t = .dead ∨ ∃ x, g' t = .e x ∧ g t = .e (x.map ρ)) (hB : ∀ i b', B' i = some b' → B (ρ i) = some (b'.map ρ))
    (hinj : ∀ i j b b', B' i = some b → B' j = some b' → ρ i = ρ j → i = j) (hus : ∀ i s, s ∈ (g' i).sites → U' s) (hub : ∀ s b, B' s = some b → U' s ∧ ∀ x ∈ b.cells, ∀ s' ∈ x.sites, U' s') :
    Sim W0 A Gv N U' g' B' (fun i => ν (ρ i)) a w := by
  have ho : ∀ x, okS W0 A Gv ν B w x → okS W0 A Gv (fun i => ν (ρ i)) B' w x := by
    intro x hx
    rcases hx with hx | ⟨h1, h2, h3⟩
    · exact .inl hx
    · refine .inr ⟨h1, h2, fun s b hb hm => h3 (ρ s) _ (hB s b hb) (by rw [Blk.map_mut]; exact hm)⟩
  refine ⟨h.old, h.kept, h.defs, h.size, fun i => ?_, hus, hub, fun s b hb => ?_, fun s s' b b' x hb hb' hx hx' => ?_⟩
  · rcases hg i with h1 | ⟨x, h1, h2⟩
    · rw [h1]; trivial
    · rw [h1]
      have := h.tm i
      rw [h2] at this
      exact RepEV.rename ho hB this
  · have := h.bl _ _ (hB s b hb)
    cases b with
    | box t cells =>
      obtain ⟨q, vs, h1, h2, h3, h4⟩ := this
      exact ⟨q, vs, h1, h2, h3, All2.of_map (fun a c => RepCV.rename ho hB) h4⟩
    | row e r xs fz =>
      obtain ⟨css, h1, h2, h3⟩ := this
      exact ⟨css, h1.imp fun x cs hx => RepR.move (fun _ _ => rfl) ho r x cs hx, h2, h3⟩
    | arr t r n xs =>
      obtain ⟨q, css, h1, h2, h3, h4, h5⟩ := this
      exact ⟨q, css, h1, h2, h3, h4.imp fun x cs hx => RepR.move (fun _ _ => rfl) ho r x cs hx, h5⟩
  · exact hinj s s' b b' hb hb' (h.inj _ _ _ _ x (hB s b hb) (hB s' b' hb') hx hx')
end

/-! the skeleton -/
theorem cond_some {α : Type} {c : Bool} {x : Option α} {r : α} (h : cond c x none = some r) : c = true ∧ x = some r := cond_none h
theorem sameV_eq {v v' : Value} (h : sameV v v' = true) : v = v' := by
  unfold sameV at h
  split at h
  · rfl
  · simp only [Bool.and_eq_true, beq_iff_eq] at h
    obtain ⟨h0, h1, h2, h3, h4⟩ := h
    rw [Nat.eq_of_beq_eq_true h0, Array.eq_empty_of_size_eq_zero h1, Array.eq_empty_of_size_eq_zero h2, Array.eq_empty_of_size_eq_zero h3, Array.eq_empty_of_size_eq_zero h4]
  · cases h

section
variable {ρ : Nat → Nat}
theorem takeC_spec {k : CK} {v : CV} {x : k.D} (h : takeC ρ k v = some x) : (k.mk x).map ρ = v := by
  cases k with
  | val u =>
    cases v
    case val v' =>
      have h' : cond (sameV u v') (some ()) none = some x := h
      rw [sameV_eq (cond_none h').1]
      rfl
    all_goals exact nomatch h
  | c s =>
    cases v
    case c s' x' =>
      have h' : castD s' s x' = some x := h
      obtain ⟨rfl, rfl⟩ := castD_eq h'
      rfl
    all_goals exact nomatch h
  | own s =>
    cases v
    case own s' =>
      have h' : cond (Nat.beq (ρ s) s') (some ()) none = some x := h
      have := Nat.eq_of_beq_eq_true (cond_none h').1
      subst this
      rfl
    all_goals exact nomatch h
  | pre s =>
    cases v
    case pre s' n =>
      have h' : cond (Nat.beq (ρ s) s') (some n) none = some x := h
      obtain ⟨h1, h2⟩ := cond_none h'
      have := Nat.eq_of_beq_eq_true h1
      subst this
      cases h2
      rfl
    all_goals exact nomatch h
  | ptr s off =>
    cases v
    case ptr s' off' =>
      have h' : cond (Nat.beq (ρ s) s' && Nat.beq off off') (some ()) none = some x := h
      have := (cond_none h').1
      rw [Bool.and_eq_true] at this
      have e1 := Nat.eq_of_beq_eq_true this.1
      have e2 := Nat.eq_of_beq_eq_true this.2
      subst e1; subst e2
      rfl
    all_goals exact nomatch h
  | rptr s r off =>
    cases v
    case rptr s' r' i off' =>
      have h' : cond (Nat.beq (ρ s) s' && (Nat.beq off off' && decide (r = r'))) (some i) none = some x := h
      obtain ⟨h1, h2⟩ := cond_none h'
      rw [Bool.and_eq_true, Bool.and_eq_true] at h1
      have e1 := Nat.eq_of_beq_eq_true h1.1
      have e2 := Nat.eq_of_beq_eq_true h1.2.1
      have e3 := of_decide_eq_true h1.2.2
      subst e1; subst e2; subst e3
      cases h2
      rfl
    all_goals exact nomatch h
  | eptr r off =>
    cases v
    case eptr r' xs i off' =>
      have h' : cond (Nat.beq off off') (match castRows r' r xs with | some ys => some (ys, i) | none => none) none = some x := h
      obtain ⟨h1, h2⟩ := cond_none h'
      have e2 := Nat.eq_of_beq_eq_true h1
      subst e2
      split at h2
      · rename_i ys hy
        obtain ⟨rfl, rfl⟩ := castRows_eq hy
        cases h2
        rfl
      · cases h2
    all_goals exact nomatch h
theorem takeCs_spec : ∀ {l : List CK} {m : List CV} {x : CsD l}, takeCs ρ l m = some x → (csMk l x).map (CV.map ρ) = m
  | [], [], _, _ => rfl
  | [], _ :: _, _, h => nomatch h
  | _ :: _, [], _, h => nomatch h
  | k :: l, v :: m, x, h => by
    have h' : (match takeC ρ k v, takeCs ρ l m with
      | some x, some y => some (x, y)
      | _, _ => none : Option (k.D × CsD l)) = some x := h
    split at h'
    · rename_i x1 y1 h1 h2
      cases h'
      show (k.mk x1).map ρ :: (csMk l y1).map (CV.map ρ) = v :: m
      rw [takeC_spec h1, takeCs_spec h2]
    · cases h'
theorem takeE_spec {k : EK} {v : TV} {x : k.D} (h : takeE ρ k v = some x) : v = .e ((k.mk x).map ρ) := by
  cases k with
  | one c =>
    cases v with
    | e y =>
      cases y with
      | one v => exact congrArg (fun z => TV.e (EV.one z)) (takeC_spec (show takeC ρ c v = some x from h)).symm
      | agg l => exact nomatch h
    | dead => exact nomatch h
    | tup _ => exact nomatch h
  | agg l =>
    cases v with
    | e y =>
      cases y with
      | one v => exact nomatch h
      | agg m => exact congrArg (fun z => TV.e (EV.agg z)) (takeCs_spec (show takeCs ρ l m = some x from h)).symm
    | dead => exact nomatch h
    | tup _ => exact nomatch h
theorem takeB_spec {k : BK} {b : Option Blk} {x : k.D} (h : takeB ρ k b = some x) : b = some ((k.mk x).map ρ) := by
  cases b with
  | none => cases k <;> exact nomatch h
  | some b =>
    cases k with
    | box t l =>
      cases b
      case box t' m =>
        have h' : cond (Nat.beq t t') (takeCs ρ l m) none = some x := h
        obtain ⟨h1, h2⟩ := cond_none h'
        have := Nat.eq_of_beq_eq_true h1
        subst this
        rw [← takeCs_spec h2]
        rfl
      all_goals exact nomatch h
    | row e r fz =>
      cases b
      case row e' r' xs fz' =>
        have h' : cond (Nat.beq e e' && (fz == fz')) (castRows r' r xs) none = some x := h
        obtain ⟨h1, h2⟩ := cond_none h'
        rw [Bool.and_eq_true, beq_iff_eq] at h1
        have := Nat.eq_of_beq_eq_true h1.1
        obtain ⟨rfl, rfl⟩ := castRows_eq h2
        rw [this, ← h1.2]
        rfl
      all_goals exact nomatch h
    | arr t r n =>
      cases b
      case arr t' r' n' xs =>
        have h' : cond (Nat.beq t t' && Nat.beq n n') (castRows r' r xs) none = some x := h
        obtain ⟨h1, h2⟩ := cond_none h'
        rw [Bool.and_eq_true] at h1
        have e1 := Nat.eq_of_beq_eq_true h1.1
        have e2 := Nat.eq_of_beq_eq_true h1.2
        obtain ⟨rfl, rfl⟩ := castRows_eq h2
        rw [e1, e2]
        rfl
      all_goals exact nomatch h
theorem takeTs_spec {g : Nat → TV} : ∀ {l : List (Nat × EK)} {x : TsD l}, takeTs ρ g l = some x → ∀ t v, lk (tsMk l x) t = some v → ∃ k y, (t, k) ∈ l ∧ v = .e (EK.mk k y) ∧ g t = .e ((EK.mk k y).map ρ)
  | [], _, _, t, v, h => nomatch h
  | (t0, k) :: l, x, h, t, v, hl => by
    have h' : (match takeE ρ k (g t0), takeTs ρ g l with
      | some x, some y => some (x, y)
      | _, _ => none : Option (k.D × TsD l)) = some x := h
    split at h'
    · rename_i x1 y1 h1 h2
      cases h'
      have hl' : lk ((t0, TV.e (k.mk x1)) :: tsMk l y1) t = some v := hl
      by_cases ht : t0 = t
      · subst ht
        rw [lk_cons_eq] at hl'
        cases hl'
        exact ⟨k, x1, by simp, rfl, takeE_spec h1⟩
      · rw [lk_cons_ne ht] at hl'
        obtain ⟨k', y', h3, h4⟩ := takeTs_spec h2 t v hl'
        exact ⟨k', y', List.mem_cons_of_mem _ h3, h4⟩
    · cases h'
theorem takeBs_spec {b : Nat → Option Blk} : ∀ {l : List (Nat × BK)} {x : BsD l}, takeBs ρ b l = some x → ∀ s v, lk (bsMk l x) s = some v → ∃ k y, (s, k) ∈ l ∧ v = some (BK.mk k y) ∧ b (ρ s) = some ((BK.mk k y).map ρ)
  | [], _, _, t, v, h => nomatch h
  | (t0, k) :: l, x, h, t, v, hl => by
    have h' : (match takeB ρ k (b (ρ t0)), takeBs ρ b l with
      | some x, some y => some (x, y)
      | _, _ => none : Option (k.D × BsD l)) = some x := h
    split at h'
    · rename_i x1 y1 h1 h2
      cases h'
      have hl' : lk ((t0, some (k.mk x1)) :: bsMk l y1) t = some v := hl
      by_cases ht : t0 = t
      · subst ht
        rw [lk_cons_eq] at hl'
        cases hl'
        exact ⟨k, x1, by simp, rfl, takeB_spec h1⟩
      · rw [lk_cons_ne ht] at hl'
        obtain ⟨k', y', h3, h4⟩ := takeBs_spec h2 t v hl'
        exact ⟨k', y', List.mem_cons_of_mem _ h3, h4⟩
    · cases h'
end

theorem nodupN_inj {α : Type} {f : α → Nat} : ∀ {l : List α}, nodupN (l.map f) = true → ∀ x ∈ l, ∀ y ∈ l, f x = f y → x = y
  | [], _, x, hx, _, _, _ => nomatch hx
  | z :: l, h, x, hx, y, hy, e => by
    simp only [List.map_cons, nodupN, Bool.and_eq_true, List.all_eq_true] at h
    have hz : ∀ y ∈ l, f z ≠ f y := fun y hy e => by
      have := h.1 (f y) (List.mem_map.2 ⟨y, hy, rfl⟩)
      rw [e, Nat.beq_refl] at this
      cases this
    rcases List.mem_cons.1 hx with h1 | hx
    · rcases List.mem_cons.1 hy with h2 | hy
      · rw [h1, h2]
      · exact absurd (h1 ▸ e) (hz y hy)
    · rcases List.mem_cons.1 hy with h2 | hy
      · exact absurd (h2 ▸ e.symm) (hz x hx)
      · exact nodupN_inj h.2 x hx y hy e

theorem CK.mk_lt {n : Nat} {k : CK} (h : k.lt n = true) (x : k.D) : ∀ s ∈ (k.mk x).sites, s < n := by
  cases k <;> intro s hs <;> simp only [CK.mk, CV.sites, List.mem_singleton, List.not_mem_nil] at hs <;> (subst hs; exact blt_iff.1 h)
theorem csMk_lt {n : Nat} : ∀ {l : List CK}, l.all (CK.lt n) = true → ∀ (x : CsD l), ∀ c ∈ csMk l x, ∀ s ∈ c.sites, s < n
  | [], _, _, c, hc, _, _ => nomatch hc
  | k :: l, h, x, c, hc, s, hs => by
    rw [List.all_cons, Bool.and_eq_true] at h
    rcases List.mem_cons.1 (show c ∈ k.mk x.1 :: csMk l x.2 from hc) with h1 | h1
    · subst h1; exact CK.mk_lt h.1 _ s hs
    · exact csMk_lt h.2 x.2 c h1 s hs
theorem EK.mk_lt {n : Nat} {k : EK} (h : k.lt n = true) (x : k.D) : ∀ s ∈ (k.mk x).sites, s < n := by
  cases k with
  | one c =>
    intro s hs
    exact CK.mk_lt (k := c) h x s (by simpa [EK.mk, EV.sites, EV.cells] using hs)
  | agg l =>
    intro s hs
    simp only [EK.mk, EV.sites, EV.cells, List.mem_flatMap] at hs
    obtain ⟨c, hc, hs⟩ := hs
    exact csMk_lt (l := l) h x c hc s hs

section
variable {W0 : World} {A Gv : Nat → Prop} {N : Nat} {U : Nat → Prop} {ν : Nat → Value} {a : Act} {w : World}
theorem Sk.take0_sound {sk : Sk} {S : St} {d : sk.D} (h : sk.take0 S = some d) (hs : Sim W0 A Gv N U (gOf S.g) (bOf S.b) ν a w) :
    ∃ ν', Sim W0 A Gv N (fun s => s < sk.nx) (gOf (sk.mk' d).g) (bOf (sk.mk' d).b) ν' a w := by
  unfold Sk.take0 at h
  generalize rho (pairBs (bOf S.b) sk.bs (pairTs (gOf S.g) sk.ts)) = ρ at h
  have h' := cond_none h
  obtain ⟨hok, h2⟩ := h'
  rw [Bool.and_eq_true] at hok
  obtain ⟨hok, hnd⟩ := hok
  unfold Sk.ok at hok
  rw [Bool.and_eq_true, List.all_eq_true, List.all_eq_true] at hok
  split at h2
  · rename_i x y hx hy
    cases h2
    have hB : ∀ i b', bOf (bsMk sk.bs y) i = some b' → ∃ k z, (i, k) ∈ sk.bs ∧ b' = BK.mk k z ∧ bOf S.b (ρ i) = some (b'.map ρ) := by
      intro i b' hb
      unfold bOf at hb
      split at hb
      · rename_i v hv
        obtain ⟨k, z, h1, h2, h3⟩ := takeBs_spec hy i v hv
        rw [h2] at hb
        cases hb
        exact ⟨k, z, h1, rfl, h3⟩
      · cases hb
    have hG : ∀ t, gOf (tsMk sk.ts x) t = .dead ∨ ∃ k z, (t, k) ∈ sk.ts ∧ gOf (tsMk sk.ts x) t = .e (EK.mk k z) ∧ gOf S.g t = .e ((EK.mk k z).map ρ) := by
      intro t
      unfold gOf
      cases hl : lk (tsMk sk.ts x) t with
      | none => exact .inl rfl
      | some v =>
        obtain ⟨k, z, h1, h2, h3⟩ := takeTs_spec hx t v hl
        exact .inr ⟨k, z, h1, h2, h3⟩
    refine ⟨fun i => ν (ρ i), hs.rename (fun t => ?_) (fun i b' hb => ?_) (fun i j b b' hb hb' e => ?_) (fun i s hi => ?_) fun s b hb => ?_⟩
    · rcases hG t with h1 | ⟨k, z, h1, h2, h3⟩
      · exact .inl h1
      · exact .inr ⟨_, h2, h3⟩
    · obtain ⟨k, z, h1, h2, h3⟩ := hB i b' hb
      exact h3
    · obtain ⟨k, z, h1, h2, h3⟩ := hB i b hb
      obtain ⟨k', z', h1', h2', h3'⟩ := hB j b' hb'
      exact congrArg Prod.fst (nodupN_inj hnd _ h1 _ h1' e)
    · rcases hG i with h1 | ⟨k, z, h1, h2, h3⟩
      · have : s ∈ (gOf (tsMk sk.ts x) i).sites := hi
        rw [h1] at this; cases this
      · have : s ∈ (gOf (tsMk sk.ts x) i).sites := hi
        rw [h2] at this
        exact EK.mk_lt (hok.1 _ h1) z s this
    · obtain ⟨k, z, h1, h2, h3⟩ := hB s b hb
      have := hok.2 _ h1
      rw [Bool.and_eq_true] at this
      refine ⟨blt_iff.1 this.1, fun c hc s' hs' => ?_⟩
      subst h2
      cases k with
      | box t l => exact csMk_lt (l := l) this.2 z c hc s' hs'
      | row e r fz => cases hc
      | arr t r n => cases hc
  · cases h2
theorem Sk.take_sound {sk : Sk} {S : St} {d : sk.D} (h : sk.take S = some d) (hs : Sim W0 A Gv N (fun s => s < S.nx) (gOf S.g) (bOf S.b) ν a w) :
    ∃ ν', Sim W0 A Gv N (fun s => s < sk.nx) (gOf (sk.mk' d).g) (bOf (sk.mk' d).b) ν' a w := by
  obtain ⟨ν1, h1⟩ := Sk.fit_sound (sk := sk) hs
  exact Sk.take0_sound h h1
end
end Go.Pi
