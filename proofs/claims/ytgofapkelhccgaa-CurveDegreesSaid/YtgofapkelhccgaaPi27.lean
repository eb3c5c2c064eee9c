/- Drawn regions (2): whatever the order. -/
import Derived.Test.YtgofapkelhccgaaPi26
set_option linter.unusedVariables false
set_option linter.unusedSimpArgs false
namespace Go.Pi
open Go.RowKit

section fold
variable (D : Nat → Bool)
def fG : Nat → List Log → (Nat → TV) → Nat → TV
  | _, [], G => G
  | i, lo :: l, G => fG (i + 1) l (cond (D i) (putF lo.dst lo.v G) G)
def fB : Nat → List Log → (Nat → Option Blk) → Nat → Option Blk
  | _, [], B => B
  | i, lo :: l, B => fB (i + 1) l (cond (D i) (updB lo.w B) B)
end fold

theorem putF_ne {d : Option Nat} {v : TV} {G : Nat → TV} {t : Nat} (h : d ≠ some t) : putF d v G t = G t := by
  cases d with
  | none => rfl
  | some d =>
    have hne : ¬ d = t := fun e => h (by rw [e])
    simp [putF, beq_ne hne]
theorem putF_congr {d : Option Nat} {v : TV} {G G' : Nat → TV} {t : Nat} (h : G t = G' t) : putF d v G t = putF d v G' t := by
  cases d with
  | none => exact h
  | some d => simp only [putF, h]
theorem fG_congr {D D' : Nat → Bool} (t : Nat) : ∀ (ls : List Log) (i0 : Nat) (G G' : Nat → TV), (∀ j lo, ls[j]? = some lo → D (i0 + j) ≠ D' (i0 + j) → lo.dst ≠ some t) → G t = G' t → fG D i0 ls G t = fG D' i0 ls G' t
  | [], _, _, _, _, h => h
  | lo :: l, i0, G, G', hd, h => by
    refine fG_congr t l (i0 + 1) _ _ (fun j lo hj hn => hd (j + 1) lo (by simpa using hj) (by rwa [show i0 + (j + 1) = i0 + 1 + j by omega])) ?_
    have h0 := hd 0 lo rfl
    simp only [Nat.add_zero] at h0
    cases h1 : D i0 <;> cases h2 : D' i0 <;> simp only [cond]
    · exact h
    · rw [putF_ne (h0 (by simp [h1, h2]))]; exact h
    · rw [putF_ne (h0 (by simp [h1, h2]))]; exact h
    · exact putF_congr h
theorem fB_congr {D D' : Nat → Bool} : ∀ (ls : List Log) (i0 : Nat) (B : Nat → Option Blk), (∀ j lo, ls[j]? = some lo → D (i0 + j) ≠ D' (i0 + j) → lo.w = []) → fB D i0 ls B = fB D' i0 ls B
  | [], _, _, _ => rfl
  | lo :: l, i0, B, hd => by
    have h0 := hd 0 lo rfl
    simp only [Nat.add_zero] at h0
    have e : cond (D i0) (updB lo.w B) B = cond (D' i0) (updB lo.w B) B := by
      cases h1 : D i0 <;> cases h2 : D' i0 <;> simp only [cond]
      · rw [h0 (by simp [h1, h2])]; rfl
      · rw [h0 (by simp [h1, h2])]; rfl
    unfold fB
    rw [e]
    exact fB_congr l (i0 + 1) _ fun j lo hj hn => hd (j + 1) lo (by simpa using hj) (by rwa [show i0 + (j + 1) = i0 + 1 + j by omega])
theorem fG_none {D : Nat → Bool} : ∀ (ls : List Log) (i0 : Nat) (G : Nat → TV), (∀ j, D (i0 + j) = false) → fG D i0 ls G = G
  | [], _, _, _ => rfl
  | lo :: l, i0, G, h => by
    unfold fG
    have := h 0
    simp only [Nat.add_zero] at this
    rw [this]
    exact fG_none l (i0 + 1) G fun j => by have := h (j + 1); rwa [show i0 + (j + 1) = i0 + 1 + j by omega] at this
theorem fB_none {D : Nat → Bool} : ∀ (ls : List Log) (i0 : Nat) (B : Nat → Option Blk), (∀ j, D (i0 + j) = false) → fB D i0 ls B = B
  | [], _, _, _ => rfl
  | lo :: l, i0, B, h => by
    unfold fB
    have := h 0
    simp only [Nat.add_zero] at this
    rw [this]
    exact fB_none l (i0 + 1) B fun j => by have := h (j + 1); rwa [show i0 + (j + 1) = i0 + 1 + j by omega] at this

theorem putF_comm {d d' : Option Nat} {v v' : TV} {G : Nat → TV} (h : ∀ x, d = some x → d' ≠ some x) : putF d v (putF d' v' G) = putF d' v' (putF d v G) := by
  cases d with
  | none => rfl
  | some x =>
    cases d' with
    | none => rfl
    | some y =>
      funext i
      have hne : y ≠ x := fun e => h x rfl (by rw [e])
      by_cases h1 : x = i
      · subst h1
        simp [putF, beq_ne hne]
      · simp [putF, beq_ne h1]
theorem fG_comm {D : Nat → Bool} (li : Log) : ∀ (ls : List Log) (i0 : Nat) (G : Nat → TV), (∀ j lo, ls[j]? = some lo → D (i0 + j) = true → ∀ x, lo.dst = some x → li.dst ≠ some x) →
    fG D i0 ls (putF li.dst li.v G) = putF li.dst li.v (fG D i0 ls G)
  | [], _, _, _ => rfl
  | lo :: l, i0, G, h => by
    have ih := fun G' => fG_comm li l (i0 + 1) G' fun j lo hj hD => h (j + 1) lo (by simpa using hj) (by rwa [show i0 + (j + 1) = i0 + 1 + j by omega])
    unfold fG
    cases hD : D i0 with
    | false => exact ih G
    | true =>
      simp only [cond]
      rw [putF_comm (h 0 lo rfl hD)]
      exact ih _
theorem updB_comm {w1 w2 : List (Nat × Option Blk)} {B : Nat → Option Blk} (h : ∀ s ∈ keysW w1, s ∉ keysW w2) : updB w1 (updB w2 B) = updB w2 (updB w1 B) := by
  funext s
  unfold updB
  cases h1 : lk w1 s with
  | none => rfl
  | some b1 => cases h2 : lk w2 s with
    | none => rfl
    | some b2 => exact absurd (List.mem_map_of_mem (f := (·.1)) (lk_mem h2)) (h s (List.mem_map_of_mem (f := (·.1)) (lk_mem h1)))
theorem updB_ne {w : List (Nat × Option Blk)} {B : Nat → Option Blk} {s : Nat} (h : s ∉ keysW w) : updB w B s = B s := by
  unfold updB
  cases h1 : lk w s with
  | none => rfl
  | some b1 => exact absurd (List.mem_map_of_mem (f := (·.1)) (lk_mem h1)) h
theorem fB_at {D D' : Nat → Bool} (s : Nat) : ∀ (ls : List Log) (i0 : Nat) (B B' : Nat → Option Blk), (∀ j lo, ls[j]? = some lo → D (i0 + j) ≠ D' (i0 + j) → s ∉ keysW lo.w) → B s = B' s → fB D i0 ls B s = fB D' i0 ls B' s
  | [], _, _, _, _, h => h
  | lo :: l, i0, B, B', hd, h => by
    refine fB_at s l (i0 + 1) _ _ (fun j lo hj hn => hd (j + 1) lo (by simpa using hj) (by rwa [show i0 + (j + 1) = i0 + 1 + j by omega])) ?_
    have h0 := hd 0 lo rfl
    simp only [Nat.add_zero] at h0
    cases h1 : D i0 <;> cases h2 : D' i0 <;> simp only [cond]
    · exact h
    · rw [updB_ne (h0 (by simp [h1, h2]))]; exact h
    · rw [updB_ne (h0 (by simp [h1, h2]))]; exact h
    · unfold updB
      split
      · rfl
      · exact h
theorem fB_comm {D : Nat → Bool} (li : Log) : ∀ (ls : List Log) (i0 : Nat) (B : Nat → Option Blk), (∀ j lo, ls[j]? = some lo → D (i0 + j) = true → ∀ s ∈ keysW li.w, s ∉ keysW lo.w) →
    fB D i0 ls (updB li.w B) = updB li.w (fB D i0 ls B)
  | [], _, _, _ => rfl
  | lo :: l, i0, B, h => by
    have ih := fun B' => fB_comm li l (i0 + 1) B' fun j lo hj hD => h (j + 1) lo (by simpa using hj) (by rwa [show i0 + (j + 1) = i0 + 1 + j by omega])
    unfold fB
    cases hD : D i0 with
    | false => exact ih B
    | true =>
      simp only [cond]
      rw [← updB_comm (h 0 lo rfl hD)]
      exact ih _
theorem fG_insert {D D' : Nat → Bool} (i : Nat) (li : Log) (hDi : D i = false) (hD' : ∀ j, D' j = (D j || Nat.beq i j)) : ∀ (ls : List Log) (i0 : Nat) (G : Nat → TV), i0 ≤ i → ls[i - i0]? = some li →
    (∀ j lo, ls[j]? = some lo → i < i0 + j → D (i0 + j) = true → ∀ x, lo.dst = some x → li.dst ≠ some x) → fG D' i0 ls G = putF li.dst li.v (fG D i0 ls G)
  | [], _, _, _, hl, _ => by simp at hl
  | lo :: l, i0, G, hi, hl, h => by
    unfold fG
    by_cases he : i0 = i
    · subst he
      simp only [Nat.sub_self, List.getElem?_cons_zero, Option.some.injEq] at hl
      subst hl
      rw [hDi, hD' i0, Nat.beq_refl, Bool.or_true]
      simp only [cond]
      rw [← fG_comm lo l (i0 + 1) G fun j lo' hj hD => h (j + 1) lo' (by simpa using hj) (by omega) (by rwa [show i0 + (j + 1) = i0 + 1 + j by omega])]
      have : ∀ j, D' (i0 + 1 + j) = D (i0 + 1 + j) := fun j => by rw [hD', beq_ne (by omega), Bool.or_false]
      funext t
      exact fG_congr t l (i0 + 1) _ _ (fun j lo' _ hn => absurd (this j) hn) rfl
    · have : D' i0 = D i0 := by rw [hD', beq_ne (fun e => he e.symm), Bool.or_false]
      rw [this]
      refine fG_insert i li hDi hD' l (i0 + 1) _ (by omega) ?_ fun j lo' hj hlt hD => h (j + 1) lo' (by simpa using hj) (by omega) (by rwa [show i0 + (j + 1) = i0 + 1 + j by omega])
      rw [show i - i0 = (i - (i0 + 1)) + 1 by omega] at hl
      simpa using hl
theorem fB_insert {D D' : Nat → Bool} (i : Nat) (li : Log) (hDi : D i = false) (hD' : ∀ j, D' j = (D j || Nat.beq i j)) : ∀ (ls : List Log) (i0 : Nat) (B : Nat → Option Blk), i0 ≤ i → ls[i - i0]? = some li →
    (∀ j lo, ls[j]? = some lo → i < i0 + j → D (i0 + j) = true → ∀ s ∈ keysW li.w, s ∉ keysW lo.w) → fB D' i0 ls B = updB li.w (fB D i0 ls B)
  | [], _, _, _, hl, _ => by simp at hl
  | lo :: l, i0, B, hi, hl, h => by
    unfold fB
    by_cases he : i0 = i
    · subst he
      simp only [Nat.sub_self, List.getElem?_cons_zero, Option.some.injEq] at hl
      subst hl
      rw [hDi, hD' i0, Nat.beq_refl, Bool.or_true]
      simp only [cond]
      rw [← fB_comm lo l (i0 + 1) B fun j lo' hj hD => h (j + 1) lo' (by simpa using hj) (by omega) (by rwa [show i0 + (j + 1) = i0 + 1 + j by omega])]
      have : ∀ j, D' (i0 + 1 + j) = D (i0 + 1 + j) := fun j => by rw [hD', beq_ne (by omega), Bool.or_false]
      exact fB_congr l (i0 + 1) _ (fun j lo' _ hn => absurd (this j) hn)
    · have : D' i0 = D i0 := by rw [hD', beq_ne (fun e => he e.symm), Bool.or_false]
      rw [this]
      refine fB_insert i li hDi hD' l (i0 + 1) _ (by omega) ?_ fun j lo' hj hlt hD => h (j + 1) lo' (by simpa using hj) (by omega) (by rwa [show i0 + (j + 1) = i0 + 1 + j by omega])
      rw [show i - i0 = (i - (i0 + 1)) + 1 by omega] at hl
      simpa using hl

section
variable {R : Type} {P : Program} {N k : Nat} {T : List (Nat × Ent)} {ops : Array Oper} {r : R} {K : List (Nat × TV) → List (Nat × Option Blk) → List Log → Option R}

/-- What a region did, in text order. -/
theorem opsK_trace : ∀ (l : List Oper) (i0 nx : Nat) (g : List (Nat × TV)) (b : List (Nat × Option Blk)) (lg : List Log), opsK P T N k ops l (nx + 8 * i0) g b lg K = some r →
    ∃ ls g' b', K g' b' (ls.reverse ++ lg) = some r ∧ ls.length = l.length ∧ gOf g' = fG (fun _ => true) i0 ls (gOf g) ∧ bOf b' = fB (fun _ => true) i0 ls (bOf b) ∧
      ∀ i o lo, l[i]? = some o → ls[i]? = some lo → Step1 P T N k (nx + 8 * (i0 + i)) ops o (fG (fun j => Nat.blt j (i0 + i)) i0 ls (gOf g)) (fB (fun j => Nat.blt j (i0 + i)) i0 ls (bOf b)) lo
  | [], i0, nx, g, b, lg, h => ⟨[], g, b, h, rfl, rfl, rfl, fun i o lo hl => by simp at hl⟩
  | o :: l, i0, nx, g, b, lg, h => by
    obtain ⟨lo, g', b', h1, h2, h3, h4⟩ := opG_step h
    rw [show nx + 8 * i0 + 8 = nx + 8 * (i0 + 1) by omega] at h2
    obtain ⟨ls, g2, b2, h5, h6, h7, h8, h9⟩ := opsK_trace l (i0 + 1) nx g' b' (lo :: lg) h2
    refine ⟨lo :: ls, g2, b2, by simpa using h5, by simp [h6], by rw [h7, h3]; rfl, by rw [h8, h4]; rfl, fun i o' lo' hl hls => ?_⟩
    have hblt : ∀ a b : Nat, Nat.blt a b = decide (a < b) := fun a b => by
      rw [Bool.eq_iff_iff, decide_eq_true_iff]
      exact ⟨fun h => Nat.le_of_ble_eq_true h, fun h => Nat.ble_eq_true_of_le h⟩
    cases i with
    | zero =>
      simp at hl hls
      subst hl; subst hls
      rw [fG_none _ _ _ (fun j => by simp [hblt]), fB_none _ _ _ (fun j => by simp [hblt])]
      exact h1
    | succ i =>
      simp at hl hls
      have := h9 i o' lo' hl hls
      unfold fG fB
      have e : Nat.blt i0 (i0 + (i + 1)) = true := by simp [hblt]
      rw [e]
      simp only [cond]
      rw [← h3, ← h4, show i0 + (i + 1) = i0 + 1 + i by omega]
      exact this
end
end Go.Pi
