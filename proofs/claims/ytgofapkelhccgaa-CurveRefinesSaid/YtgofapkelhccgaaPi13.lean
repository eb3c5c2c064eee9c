/- New rows: literals, make. -/
import Derived.Test.YtgofapkelhccgaaPi12
set_option linter.unusedVariables false
set_option linter.unusedSimpArgs false
namespace Go.Pi
open Go.RowKit

theorem All2.ofGet {α β : Type} {R : α → β → Prop} : ∀ {l : List α} {m : List β}, l.length = m.length → (∀ (j : Nat) a b, l[j]? = some a → m[j]? = some b → R a b) → All2 R l m
  | [], [], _, _ => trivial
  | a :: l, b :: m, h, f => ⟨f 0 a b rfl rfl, All2.ofGet (by simpa using h) fun j x y hx hy => f (j + 1) x y (by simpa using hx) (by simpa using hy)⟩
  | [], _ :: _, h, _ => by simp at h
  | _ :: _, [], h, _ => by simp at h

section
variable {P : Program} {W0 : World} {A Gv : Nat → Prop} {N : Nat} {U : Nat → Prop} {g : Nat → TV} {B : Nat → Option Blk} {ν : Nat → Value} {a : Act} {w : World} {o : Oper}

theorem toC_rep (h : Sim W0 A Gv N U g B ν a w) {ok1 : Nat → Prop} (hok : ∀ x, okS W0 A Gv ν B w x → ok1 x) {s : Sh} {v : CV} {u : Value}
    (hs : ∀ s ∈ v.rowSites, ∀ e r xs fz x, B s = some (.row e r xs fz) → ownB (ν s) = some x → ok1 x) {x : CellD s} (hx : v.toC B s = some x) (hv : RepCV w (okS W0 A Gv ν B w) ν B v u) : RepC w ok1 s x u := by
  have sl : ∀ {r : Shs} {xs : CellD (.sl r)}, v.toC B (.sl r) = some xs → RepC w ok1 (.sl r) xs u := by
    intro r xs hxs
    rcases toC_sl hxs with ⟨rfl, rfl⟩ | hd
    · obtain ⟨rfl, _⟩ := hv
      exact ⟨none, 0, [], rfl, Nat.le_refl _, Nat.zero_le _, trivial, fun hp => by simp at hp⟩
    · obtain ⟨Ad, c, css, h1, h2, h3, h4, h5⟩ := dataOf_rep h hv hd
      refine ⟨Ad, c, css, h1, h2, h3, h4.imp fun x cs hx => RepR.move (fun _ _ => rfl) hok r x cs hx, fun hp => ?_⟩
      obtain ⟨ad, rfl, h6, h7, h8⟩ := h5 hp
      refine ⟨ad, rfl, ?_, h6, h8⟩
      rcases h7 with h7 | ⟨s', hs', _, ho⟩
      · exact hok _ h7
      · unfold dataOf at hd
        split at hd
        · cases hs'
        · split at hd
          · rename_i e' r' xs' fz hB
            simp only [CV.rowSites, List.mem_singleton] at hs'
            subst hs'
            exact hs _ (by simp [CV.rowSites]) _ _ _ _ _ hB ho
          · cases hd
        · split at hd
          · rename_i e' r' xs' fz hB
            simp only [CV.rowSites, List.mem_singleton] at hs'
            subst hs'
            exact hs _ (by simp [CV.rowSites]) _ _ _ _ _ hB ho
          · cases hd
        · cases hd
  cases s with
  | sl r => exact sl hx
  | int k =>
    unfold CV.toC at hx
    split at hx
    · obtain ⟨e, rfl⟩ := castD_eq hx
      subst e
      exact hv
    · simp at hx
    · split at hx
      · obtain ⟨e, _⟩ := castD_eq hx; cases e
      · cases hx
    · split at hx
      · obtain ⟨e, _⟩ := castD_eq hx; cases e
      · cases hx
    · cases hx
  | bool =>
    unfold CV.toC at hx
    split at hx
    · obtain ⟨e, rfl⟩ := castD_eq hx
      subst e
      exact hv
    · simp at hx
    · split at hx
      · obtain ⟨e, _⟩ := castD_eq hx; cases e
      · cases hx
    · split at hx
      · obtain ⟨e, _⟩ := castD_eq hx; cases e
      · cases hx
    · cases hx
  | str =>
    unfold CV.toC at hx
    split at hx
    · obtain ⟨e, rfl⟩ := castD_eq hx
      subst e
      exact hv
    · simp at hx
    · split at hx
      · obtain ⟨e, _⟩ := castD_eq hx; cases e
      · cases hx
    · split at hx
      · obtain ⟨e, _⟩ := castD_eq hx; cases e
      · cases hx
    · cases hx

theorem packR_rep (h : Sim W0 A Gv N U g B ν a w) {ok1 : Nat → Prop} (hok : ∀ x, okS W0 A Gv ν B w x → ok1 x) (r : Shs) : ∀ (l : List CV) (vs : List Value)
    (_ : ∀ s ∈ l.flatMap CV.rowSites, ∀ e r xs fz x, B s = some (.row e r xs fz) → ownB (ν s) = some x → ok1 x) (y : RowD r) (_ : packR B r l = some y) (_ : All2 (RepCV w (okS W0 A Gv ν B w) ν B) l vs), RepR w ok1 r y vs := by
  refine Shs.rec (motive_1 := fun _ => True) (motive_2 := fun r => ∀ (l : List CV) (vs : List Value)
    (_ : ∀ s ∈ l.flatMap CV.rowSites, ∀ e r xs fz x, B s = some (.row e r xs fz) → ownB (ν s) = some x → ok1 x) (y : RowD r) (_ : packR B r l = some y) (_ : All2 (RepCV w (okS W0 A Gv ν B w) ν B) l vs), RepR w ok1 r y vs)
    (fun _ => trivial) trivial trivial (fun _ _ => trivial) ?_ ?_ r
  · intro s _ l vs hs y hy hl
    rw [packR_one] at hy
    rcases l with _ | ⟨v, _ | ⟨v', l⟩⟩
    · cases hy
    · rcases vs with _ | ⟨u, _ | ⟨u', vs⟩⟩
      · exact False.elim hl
      · exact ⟨u, rfl, toC_rep h hok (fun s' hs' => hs s' (by simpa using hs')) hy hl.1⟩
      · exact False.elim hl.2
    · cases hy
  · intro s r _ ih l vs hs y hy hl
    rw [packR_cons] at hy
    rcases l with _ | ⟨v, l⟩
    · cases hy
    · rcases vs with _ | ⟨u, vs⟩
      · exact False.elim hl
      · simp only [] at hy
        cases hx : v.toC B s with
        | none => rw [hx] at hy; cases hy
        | some x =>
          cases hz : packR B r l with
          | none => rw [hx, hz] at hy; cases hy
          | some z =>
            rw [hx, hz] at hy
            cases hy
            exact ⟨u, vs, rfl, toC_rep h hok (fun s' hs' => hs s' (by rw [List.flatMap_cons, List.mem_append]; exact .inl hs')) hx hl.1, ih l vs (fun s' hs' => hs s' (by rw [List.flatMap_cons, List.mem_append]; exact .inr hs')) z hz hl.2⟩

theorem flat_size {n : Nat} : ∀ {cs : List (List Value)}, (∀ c ∈ cs, c.length = n) → cs.flatten.length = cs.length * n
  | [], _ => by simp
  | c :: cs, h => by
    rw [List.flatten_cons, List.length_append, h c (by simp), flat_size fun c' hc' => h c' (by simp [hc']), List.length_cons, Nat.add_mul]
    omega
theorem flat_set {n : Nat} : ∀ {cs : List (List Value)} (i : Nat) (v : List Value), (∀ c ∈ cs, c.length = n) → v.length = n → i < cs.length → cs.flatten.take (i * n) ++ v ++ cs.flatten.drop (i * n + n) = (cs.set i v).flatten
  | [], i, v, _, _, hi => by simp at hi
  | c :: cs, 0, v, h, hv, _ => by
    have := h c (by simp)
    simp [← this]
  | c :: cs, i + 1, v, h, hv, hi => by
    have hc := h c (by simp)
    have ih := flat_set (cs := cs) i v (fun c' hc' => h c' (by simp [hc'])) hv (by simpa using hi)
    rw [List.flatten_cons, List.set_cons_succ, List.flatten_cons, ← ih]
    have e1 : (i + 1) * n = c.length + i * n := by rw [hc, Nat.add_mul]; omega
    rw [e1, List.take_length_add_append, Nat.add_assoc, List.drop_length_add_append]
    simp

theorem fill_rows {n : Nat} : ∀ (parts : List (Nat × Value)) (cs : List (List Value)), (∀ c ∈ cs, c.length = n) → (∀ p ∈ parts, p.2.cells.size = n ∧ p.1 < cs.length) →
    Instr.fill (fun i => some (i * n, n)) cs.flatten.toArray parts = some (parts.foldl (fun cs p => cs.set p.1 p.2.cells.toList) cs).flatten.toArray
  | [], cs, _, _ => rfl
  | (i, v) :: parts, cs, h, hp => by
    have hpi := hp (i, v) (by simp)
    simp only at hpi
    have hb : i * n + n ≤ cs.flatten.length := by
      rw [flat_size h, show i * n + n = (i + 1) * n by rw [Nat.add_mul]; omega]
      exact Nat.mul_le_mul_right _ hpi.2
    simp only [Instr.fill]
    rw [if_neg (by simp only [List.size_toArray, hpi.1, ne_eq, not_true_eq_false, decide_false, Bool.false_or, decide_eq_true_eq]; omega)]
    have hz := zip_set v.cells.toList (i * n) 0 cs.flatten (by simp only [Array.length_toList, hpi.1]; omega)
    rw [Nat.add_zero] at hz
    have e1 : v.cells.zipIdx.foldl (fun cs (x : Value × Nat) => cs.setIfInBounds (i * n + x.2) x.1) cs.flatten.toArray = (cs.set i v.cells.toList).flatten.toArray := by
      have : v.cells.zipIdx.foldl (fun cs (x : Value × Nat) => cs.setIfInBounds (i * n + x.2) x.1) cs.flatten.toArray = (cs.flatten.take (i * n) ++ v.cells.toList ++ cs.flatten.drop (i * n + v.cells.toList.length)).toArray := by
        show Array.foldl _ _ _ 0 v.cells.zipIdx.size = _
        rw [← Array.foldl_toList, Array.toList_zipIdx]
        exact hz
      rw [this]
      congr 1
      have hv : v.cells.toList.length = n := by simpa using hpi.1
      rw [hv]
      exact flat_set i _ h hv hpi.2
    have e2 := fill_rows parts (cs.set i v.cells.toList) (fun c hc => by
      rcases List.mem_or_eq_of_mem_set hc with h1 | h1
      · exact h c h1
      · rw [h1]; simpa using hpi.1) (fun p hpm => by
        have := hp p (by simp [hpm])
        simpa using this)
    rw [List.foldl_cons, ← e2, ← e1]

theorem set_fold_get (j : Nat) : ∀ (parts : List (Nat × Value)) (cs : List (List Value)), (parts.map (·.1)).Nodup → (∀ p ∈ parts, p.1 < cs.length) → j < cs.length →
    (parts.foldl (fun cs p => cs.set p.1 p.2.cells.toList) cs)[j]? = match parts.find? (fun p => p.1 == j) with
      | some p => some p.2.cells.toList
      | none => cs[j]?
  | [], cs, _, _, _ => rfl
  | (i, v) :: parts, cs, hn, hp, hj => by
    simp only [List.map_cons, List.nodup_cons] at hn
    have ih := set_fold_get j parts (cs.set i v.cells.toList) hn.2 (fun p hpm => by simpa using hp p (by simp [hpm])) (by simpa using hj)
    rw [List.foldl_cons, ih]
    by_cases hij : i = j
    · subst hij
      have : parts.find? (fun p => p.1 == i) = none := by
        rw [List.find?_eq_none]
        intro p hpm
        simp only [beq_iff_eq]
        rintro rfl
        exact hn.1 (List.mem_map_of_mem hpm)
      rw [this]
      simp [List.find?_cons, hj]
    · have : ((i, v) :: parts).find? (fun p => p.1 == j) = parts.find? (fun p => p.1 == j) := by simp [List.find?_cons, hij]
      rw [this, List.getElem?_set_ne hij]

theorem litRows_get {r : Shs} {parts : List (Nat × TV)} : ∀ (n j : Nat) {xs : List (RowD r)}, litRows B r parts j n = some xs → xs.length = n ∧ ∀ i, i < n → ∃ y, xs[i]? = some y ∧
    match parts.find? (fun p => p.1 == j + i) with
    | none => y = r.dflt
    | some (_, .e x) => packR B r x.cells = some y
    | some _ => False
  | 0, j, xs, h => by
    simp only [litRows, Option.some.injEq] at h
    subst h
    exact ⟨rfl, fun i hi => by omega⟩
  | n + 1, j, xs, h => by
    simp only [litRows] at h
    have rest : ∀ ys, litRows B r parts (j + 1) n = some ys → ∀ y, xs = y :: ys → (match parts.find? (fun p => p.1 == j) with
        | none => y = r.dflt
        | some (_, .e x) => packR B r x.cells = some y
        | some _ => False) → xs.length = n + 1 ∧ ∀ i, i < n + 1 → ∃ y, xs[i]? = some y ∧
      match parts.find? (fun p => p.1 == j + i) with
      | none => y = r.dflt
      | some (_, .e x) => packR B r x.cells = some y
      | some _ => False := by
      rintro ys hys y rfl hy
      obtain ⟨h1, h2⟩ := litRows_get n (j + 1) hys
      refine ⟨by simp [h1], fun i hi => ?_⟩
      cases i with
      | zero => exact ⟨y, rfl, hy⟩
      | succ i =>
        obtain ⟨z, hz, hz'⟩ := h2 i (by omega)
        refine ⟨z, by simpa using hz, ?_⟩
        rw [show j + (i + 1) = j + 1 + i by omega]
        exact hz'
    split at h
    · rename_i hf
      cases hr : litRows B r parts (j + 1) n with
      | none => simp [hr] at h
      | some ys =>
        simp [hr] at h
        exact rest ys hr _ h.symm (by rw [hf])
    · rename_i q x hf
      split at h
      · rename_i y l hy hr
        cases h
        exact rest l hr y rfl (by rw [hf]; exact hy)
      · cases h
    · cases h

end
end Go.Pi
