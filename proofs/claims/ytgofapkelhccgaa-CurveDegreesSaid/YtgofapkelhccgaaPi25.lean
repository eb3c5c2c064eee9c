/- Regions in text order. -/
import Derived.Test.YtgofapkelhccgaaPi24
set_option linter.unusedVariables false
set_option linter.unusedSimpArgs false
namespace Go.Pi
open Go.RowKit

def putF (d : Option Nat) (v : TV) (g : Nat → TV) : Nat → TV := match d with
  | some d => fun i => cond (Nat.beq d i) v (g i)
  | none => g
theorem gOf_cons (d : Nat) (v : TV) (g : List (Nat × TV)) : gOf ((d, v) :: g) = fun i => cond (Nat.beq d i) v (gOf g i) := by
  funext i
  unfold gOf
  by_cases h : d = i
  · subst h; simp [lk_cons_eq]
  · simp [lk_cons_ne h, beq_ne h]
theorem gOf_put (g : List (Nat × TV)) (d : Option Nat) (v : TV) : gOf (putG g d v) = putF d v (gOf g) := by
  cases d with
  | none => rfl
  | some d => exact gOf_cons d v g
theorem bOf_app (w b : List (Nat × Option Blk)) : bOf (w ++ b) = updB w (bOf b) := by
  funext s
  unfold bOf updB
  rw [lk_append]
  cases lk w s <;> rfl
/-- A slot is told anew what it holds already. -/
theorem gOf_same {g : List (Nat × TV)} {t : Nat} {v : TV} (h : gOf g t = v) : gOf ((t, v) :: g) = gOf g := by
  rw [gOf_cons]
  funext i
  by_cases hi : t = i
  · subst hi; simp [h]
  · simp [beq_ne hi]

section
variable (P : Program) (T : List (Nat × Ent)) (N k base : Nat) (ops : Array Oper) (o : Oper) (g : Nat → TV) (B : Nat → Option Blk)
def Ran (v : TV) (wl : List (Nat × Option Blk)) : Prop :=
  prep P T g B base o = .eff true { v := v, w := wl } ∨ ∃ n E x as wl0 r, prep P T g B base o = .call n E x as wl0 ∧ E.fn k x = some r ∧ v = (callEff base E wl0 r).v ∧ wl = (callEff base E wl0 r).w
def Wanted : Prop := o.guard = none ∨ ∃ j want t, o.guard = some (j, want) ∧ guardT ops j = some t ∧ g t = bool1 want
def NotWanted : Prop := ∃ j want t, o.guard = some (j, want) ∧ guardT ops j = some t ∧ (g t = bool1 (!want) ∨ g t = .tup [])
def Step1 (lg : Log) : Prop := (∀ d, o.dst = some d → d < N) ∧ lg.dst = o.dst ∧
  ((Wanted ops o g ∧ Ran P T k base o g B lg.v lg.w ∧ lg.rd = rdOf g o) ∨ (NotWanted ops o g ∧ lg.v = .tup [] ∧ lg.w = []))
end

theorem bindO_some {α β : Type} {x : Option α} {f : α → Option β} {r : β} (h : bindO x f = some r) : ∃ y, x = some y ∧ f y = some r := by
  cases x with
  | none => cases h
  | some y => exact ⟨y, rfl, h⟩
theorem cond_none {α : Type} {c : Bool} {x : Option α} {r : α} (h : cond c x none = some r) : c = true ∧ x = some r := by
  cases c with
  | true => exact ⟨rfl, h⟩
  | false => cases h

section
variable {R : Type} {P : Program} {T : List (Nat × Ent)} {N k base : Nat} {ops : Array Oper} {o : Oper} {g : List (Nat × TV)} {b : List (Nat × Option Blk)} {K : List (Nat × TV) → List (Nat × Option Blk) → Log → Option R} {r : R}

theorem go_step {d : Option Nat} (h : op1.go P T k base o g b K d = some r) : ∃ v wl, Ran P T k base o (gOf g) (bOf b) v wl ∧ K (putG g d v) (wl ++ b) ⟨d, v, wl, rdOf (gOf g) o⟩ = some r := by
  unfold op1.go at h
  split at h
  · cases h
  · rename_i gd e hp
    obtain ⟨rfl, h⟩ := cond_none h
    exact ⟨_, _, .inl hp, h⟩
  · rename_i n E x as wl hp
    obtain ⟨y, h1, h2⟩ := bindO_some h
    exact ⟨_, _, .inr ⟨_, _, _, _, _, _, hp, h1, rfl, rfl⟩, h2⟩
theorem op1_step (h : op1 P T N k base o g b K = some r) : ∃ v wl, (∀ d, o.dst = some d → d < N) ∧ Ran P T k base o (gOf g) (bOf b) v wl ∧ K (putG g o.dst v) (wl ++ b) ⟨o.dst, v, wl, rdOf (gOf g) o⟩ = some r := by
  unfold op1 at h
  split at h
  · rename_i d hd
    obtain ⟨hl, h⟩ := cond_none h
    obtain ⟨v, wl, h1, h2⟩ := go_step h
    rw [hd]
    exact ⟨v, wl, fun d' e => by cases e; exact Nat.le_of_ble_eq_true hl, h1, h2⟩
  · rename_i hd
    obtain ⟨v, wl, h1, h2⟩ := go_step h
    rw [hd]
    exact ⟨v, wl, (fun d' e => nomatch e), h1, h2⟩
theorem skip1_step (h : skip1 N o g b K = some r) : (∀ d, o.dst = some d → d < N) ∧ K (putG g o.dst (.tup [])) ([] ++ b) ⟨o.dst, .tup [], [], []⟩ = some r := by
  unfold skip1 at h
  split at h
  · rename_i d hd
    obtain ⟨hl, h⟩ := cond_none h
    rw [hd]
    exact ⟨fun d' e => by cases e; exact Nat.le_of_ble_eq_true hl, h⟩
  · rename_i hd
    rw [hd]
    exact ⟨(fun d' e => nomatch e), h⟩

theorem opG_step (h : opG P T N k base ops o g b K = some r) : ∃ lg g' b', Step1 P T N k base ops o (gOf g) (bOf b) lg ∧ K g' b' lg = some r ∧ gOf g' = putF lg.dst lg.v (gOf g) ∧ bOf b' = updB lg.w (bOf b) := by
  have fin : ∀ (g0 : List (Nat × TV)) (lg : Log), gOf g0 = gOf g → lg.dst = o.dst → Step1 P T N k base ops o (gOf g) (bOf b) lg → K (putG g0 o.dst lg.v) (lg.w ++ b) lg = some r →
      ∃ lg g' b', Step1 P T N k base ops o (gOf g) (bOf b) lg ∧ K g' b' lg = some r ∧ gOf g' = putF lg.dst lg.v (gOf g) ∧ bOf b' = updB lg.w (bOf b) := by
    intro g0 lg h0 hd h1 h2
    exact ⟨lg, _, _, h1, h2, by rw [gOf_put, h0, hd], bOf_app _ _⟩
  have run : ∀ (g0 : List (Nat × TV)), gOf g0 = gOf g → Wanted ops o (gOf g) → op1 P T N k base o g0 b K = some r → ∃ lg g' b', Step1 P T N k base ops o (gOf g) (bOf b) lg ∧ K g' b' lg = some r ∧ gOf g' = putF lg.dst lg.v (gOf g) ∧ bOf b' = updB lg.w (bOf b) := by
    intro g0 h0 hw h
    obtain ⟨v, wl, h1, h2, h3⟩ := op1_step h
    rw [h0] at h2 h3
    exact fin g0 ⟨o.dst, v, wl, rdOf (gOf g) o⟩ h0 rfl ⟨h1, rfl, .inl ⟨hw, h2, rfl⟩⟩ h3
  have skp : ∀ (g0 : List (Nat × TV)), gOf g0 = gOf g → NotWanted ops o (gOf g) → skip1 N o g0 b K = some r → ∃ lg g' b', Step1 P T N k base ops o (gOf g) (bOf b) lg ∧ K g' b' lg = some r ∧ gOf g' = putF lg.dst lg.v (gOf g) ∧ bOf b' = updB lg.w (bOf b) := by
    intro g0 h0 hw h
    obtain ⟨h1, h3⟩ := skip1_step h
    exact fin g0 ⟨o.dst, .tup [], [], []⟩ h0 rfl ⟨h1, rfl, .inr ⟨hw, rfl, rfl⟩⟩ h3
  unfold opG at h
  split at h
  · rename_i hg
    exact run g rfl (.inl hg) h
  · rename_i j want hg
    split at h
    · cases h
    · rename_i t ht
      split at h
      · rename_i x hx
        split at h
        · cases x with
          | true => exact run _ (gOf_same hx) (.inr ⟨j, _, t, hg, ht, hx⟩) h
          | false => exact skp _ (gOf_same hx) ⟨j, _, t, hg, ht, .inl hx⟩ h
        · cases x with
          | true => exact skp _ (gOf_same hx) ⟨j, _, t, hg, ht, .inl hx⟩ h
          | false => exact run _ (gOf_same hx) (.inr ⟨j, _, t, hg, ht, hx⟩) h
      · rename_i hx
        exact skp g rfl ⟨j, want, t, hg, ht, .inr hx⟩ h
      · cases h
end

section
variable {P : Program} {W0 : World} {A Gv : Nat → Prop} {N : Nat} {U : Nat → Prop} {g : Nat → TV} {B : Nat → Option Blk} {ν : Nat → Value} {a : Act} {w : World} {o : Oper} {base k : Nat} {T : List (Nat × Ent)} {ops : Array Oper} {lg : Log}

theorem Sim.at (h : Sim W0 A Gv N U g B ν a w) {t : Nat} {x : Bool} (ht : g t = bool1 x) : a.tmps[t]? = some (.bool x) := by
  have := h.tm t
  rw [ht] at this
  have hv := rep_bool this
  rcases Nat.lt_or_ge t a.tmps.size with hl | hl
  · simpa [hl] using hv
  · simp [Array.getElem?_eq_none hl, undef] at hv
theorem Sim.notBool (h : Sim W0 A Gv N U g B ν a w) {t : Nat} (ht : g t = .tup []) : ∀ x, a.tmps[t]? ≠ some (.bool x) := by
  intro x hx
  have := h.tm t
  rw [ht] at this
  obtain ⟨vs, hv, _⟩ := this
  simp [hx] at hv
theorem wanted_true (h : Sim W0 A Gv N U g B ν a w) (hw : Wanted ops o g) : Region.wanted o (yielded ops a.tmps) = true := by
  unfold Region.wanted
  rcases hw with hw | ⟨j, want, t, h1, h2, h3⟩
  · simp [hw]
  · have : yielded ops a.tmps j = some want := by
      unfold yielded
      rw [show (ops[j]?).bind (·.dst) = some t from h2]
      simp [h.at h3]
    simp [h1, this]
theorem wanted_false (h : Sim W0 A Gv N U g B ν a w) (hw : NotWanted ops o g) : Region.wanted o (yielded ops a.tmps) = false := by
  unfold Region.wanted
  obtain ⟨j, want, t, h1, h2, h3⟩ := hw
  rcases h3 with h3 | h3
  · have : yielded ops a.tmps j = some (!want) := by
      unfold yielded
      rw [show (ops[j]?).bind (·.dst) = some t from h2]
      simp [h.at h3]
    simp [h1, this]
  · have : yielded ops a.tmps j = none := by
      unfold yielded
      rw [show (ops[j]?).bind (·.dst) = some t from h2]
      have hn := h.notBool h3
      split
      · rename_i b hb
        exact absurd hb (hn b)
      · rfl
    simp [h1, this]

theorem Ran.did (h : Sim W0 A Gv N U g B ν a w) (hT : ∀ p ∈ T, Holds P p.1 p.2) (hfree : ∀ j, j < 8 → ¬ U (base + j)) {v : TV} {wl : List (Nat × Option Blk)} (hr : Ran P T k base o g B v wl) :
    Did P W0 A Gv N (U8 U base) g (updB wl B) v o a w := by
  have hp := prep_sound (o := o) h T hT hfree
  rcases hr with hr | ⟨n, E, x, as, wl0, r, h1, h2, rfl, rfl⟩
  · rw [hr] at hp
    exact hp rfl
  · rw [h1] at hp
    exact hp.2 k r h2

theorem Sim.putO (h : Sim W0 A Gv N U g B ν a w) (d : Option Nat) (hd : ∀ x, d = some x → x < N) (tv : TV) (v : Value) (hv : RepTV w (okS W0 A Gv ν B w) ν B tv v) (hs : ∀ s ∈ tv.sites, U s) :
    Sim W0 A Gv N U (putF d tv g) B ν (a.put d v) w := by
  cases d with
  | none => exact h
  | some d => exact h.put d (hd d rfl) tv v hv hs

theorem Step1.sound (h : Sim W0 A Gv N U g B ν a w) (hT : ∀ p ∈ T, Holds P p.1 p.2) (hfree : ∀ j, j < 8 → ¬ U (base + j)) (hs : Step1 P T N k base ops o g B lg)
    (next : Act → World → Prop) (Q : Exit → Act → World → Prop) (hk : ∀ ν' a' w', Sim W0 A Gv N (U8 U base) (putF lg.dst lg.v g) (updB lg.w B) ν' a' w' → next a' w') :
    if Region.wanted o (yielded ops a.tmps) then o.wp P a w next Q ∨ (o.asks P a w ∧ LetsOut Q) else next (a.put o.dst undef) w := by
  obtain ⟨hN, hd, hs⟩ := hs
  rcases hs with ⟨hw, hr, _⟩ | ⟨hw, hv, hwl⟩
  · rw [wanted_true h hw, if_pos rfl]
    obtain ⟨h1, h2⟩ := hr.did h hT hfree
    refine .inl (h2 next Q fun v w1 ν1 h3 h4 => hk ν1 _ w1 ?_)
    rw [hd]
    exact h3.putO o.dst hN lg.v v h4 h1
  · rw [wanted_false h hw, if_neg (by decide)]
    refine hk ν _ w ?_
    rw [hd, hv, hwl, updB_nil]
    exact (h.mono fun _ => .inl).putO o.dst hN _ undef ⟨[], rfl, trivial⟩ (fun s hs => by simp [TV.sites] at hs)
end

section
variable {R : Type} {P : Program} {W0 : World} {A Gv : Nat → Prop} {N k : Nat} {T : List (Nat × Ent)} {ops : Array Oper} {Q : Exit → Act → World → Prop} {r : R}
  {K : List (Nat × TV) → List (Nat × Option Blk) → List Log → Option R}

theorem U8_lt {base : Nat} {i : Nat} (h : U8 (fun s => s < base) base i) : i < base + 8 := by
  rcases h with h | ⟨j, hj, rfl⟩
  · exact Nat.lt_of_lt_of_le h (Nat.le_add_right _ _)
  · omega

theorem opsK_text (hT : ∀ p ∈ T, Holds P p.1 p.2) : ∀ (l : List Oper) (i0 base : Nat) (g : List (Nat × TV)) (b : List (Nat × Option Blk)) (lg : List Log) (ν : Nat → Value) (a : Act) (w : World),
    l = ops.toList.drop i0 → opsK P T N k ops l base g b lg K = some r → Sim W0 A Gv N (fun s => s < base) (gOf g) (bOf b) ν a w →
    (∀ g' b' lg' ν' a' w', K g' b' lg' = some r → Sim W0 A Gv N (fun s => s < base + 8 * l.length) (gOf g') (bOf b') ν' a' w' → Q .normal a' w') →
    wpOps P ops Q (List.range' i0 l.length) a w
  | [], i0, base, g, b, lg, ν, a, w, hl, h, hs, hK => hK g b lg ν a w h hs
  | o :: l, i0, base, g, b, lg, ν, a, w, hl, h, hs, hK => by
    have hlt : i0 < ops.toList.length := by
      rcases Nat.lt_or_ge i0 ops.toList.length with h1 | h1
      · exact h1
      · rw [List.drop_eq_nil_iff.2 h1] at hl; cases hl
    rw [List.drop_eq_getElem_cons hlt] at hl
    injection hl with ho hl
    have ho' : ops[i0]? = some o := by
      rw [ho, ← Array.getElem?_toList, List.getElem?_eq_getElem hlt]
    obtain ⟨lo, g', b', h1, h2, h3, h4⟩ := opG_step h
    rw [List.length_cons, List.range'_succ]
    simp only [wpOps, ho']
    refine h1.sound hs hT (fun j _ hj => by omega) _ Q fun ν' a' w' hs' => ?_
    rw [← h3, ← h4] at hs'
    refine opsK_text hT l (i0 + 1) (base + 8) g' b' (lo :: lg) ν' a' w' hl h2 (hs'.mono fun i hi => U8_lt hi) fun g1 b1 lg1 ν1 a1 w1 h5 h6 => hK g1 b1 lg1 ν1 a1 w1 h5 (h6.mono fun s hs => by simp only [List.length_cons]; omega)
end
end Go.Pi
