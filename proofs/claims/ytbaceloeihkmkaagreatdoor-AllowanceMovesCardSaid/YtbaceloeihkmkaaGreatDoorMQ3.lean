/- Merged from small texts. -/
import Derived.Test.YtbaceloeihkmkaaGreatDoorDQ1
import Derived.Test.YtbaceloeihkmkaaGreatDoorDQ2
import Derived.Test.YtbaceloeihkmkaaGreatDoorMQ2
/- Outlines: the checks of the program. -/
set_option linter.unusedVariables false
set_option linter.unusedSimpArgs false
namespace Go.Gm
open Go.Pi

abbrev ED := ByteArray × List Spot
def e0 : ED := (⟨#[]⟩, [])
theorem gd_one {α : Type} (d x : α) : gd d [x] 0 = x := rfl
open Classical in
noncomputable def edgeE (l : List ED) (i : Nat) : Int :=
  if nameB (l.getD i e0).1 = false then 1 else if ∃ j, j < i ∧ (l.getD j e0).1 = (l.getD i e0).1 then 7 else lineE (l.getD i e0).2
def firstE (f : Nat → Int) : Nat → Nat → Int
  | _, 0 => 0
  | i, n + 1 => if f i = 0 then firstE f (i + 1) n else f i
theorem firstE_ok {f : Nat → Int} : ∀ (n i : Nat), firstE f i n = 0 ↔ ∀ j, i ≤ j → j < i + n → f j = 0
  | 0, i => ⟨fun _ j h1 h2 => by omega, fun _ => rfl⟩
  | n + 1, i => by
    unfold firstE
    by_cases h : f i = 0
    · rw [if_pos h, firstE_ok n (i + 1)]
      constructor
      · intro h2 j h3 h4
        by_cases e : j = i
        · rw [e]; exact h
        · exact h2 j (by omega) (by omega)
      · intro h2 j h3 h4
        exact h2 j (by omega) (by omega)
    · rw [if_neg h]
      exact ⟨fun e => absurd e h, fun h2 => h2 i (by omega) (by omega)⟩
theorem firstE_step (f : Nat → Int) {i n : Nat} (h : i < n) : firstE f i (n - i) = if f i = 0 then firstE f (i + 1) (n - (i + 1)) else f i := by
  rw [show n - i = (n - (i + 1)) + 1 by omega]
  rfl
noncomputable def edgesE (l : List ED) : Int := firstE (edgeE l) 0 l.length
def lastS (l : List Spot) : Spot := l.getD (l.length - 1) (0, 0)
/-- The edge before the edge i ends where this one begins. -/
def joint (l : List ED) (i : Nat) : Prop := lastS (l.getD ((i + l.length - 1) % l.length) e0).2 = (l.getD i e0).2.getD 0 (0, 0)
def verts (l : List ED) : List Spot := l.flatMap fun x => x.2.take (x.2.length - 1)
open Classical in
/-- The first error of an outline. -/
noncomputable def outE (l : List ED) : Int :=
  if 16 < l.length then 5 else if l.length < 2 then 11 else if edgesE l = 0 then (if ∀ i, i < l.length → joint l i then checkP (verts l) else 11) else edgesE l
theorem edgesE_ok {l : List ED} : edgesE l = 0 ↔ ∀ i, i < l.length → nameB (l.getD i e0).1 = true ∧ (∀ j, j < i → (l.getD j e0).1 ≠ (l.getD i e0).1) ∧ lineE (l.getD i e0).2 = 0 := by
  unfold edgesE
  rw [firstE_ok]
  have key : ∀ i, edgeE l i = 0 ↔ nameB (l.getD i e0).1 = true ∧ (∀ j, j < i → (l.getD j e0).1 ≠ (l.getD i e0).1) ∧ lineE (l.getD i e0).2 = 0 := by
    intro i
    unfold edgeE
    by_cases h1 : nameB (l.getD i e0).1 = false
    · rw [if_pos h1]
      exact ⟨fun h => absurd h (by decide), fun h => by rw [h.1] at h1; cases h1⟩
    rw [if_neg h1]
    by_cases h2 : ∃ j, j < i ∧ (l.getD j e0).1 = (l.getD i e0).1
    · rw [if_pos h2]
      obtain ⟨j, a, b⟩ := h2
      exact ⟨fun h => absurd h (by decide), fun h => absurd b (h.2.1 j a)⟩
    rw [if_neg h2]
    exact ⟨fun h => ⟨by simpa using h1, fun j a b => h2 ⟨j, a, b⟩, h⟩, fun h => h.2.2⟩
  constructor
  · intro h i hi
    exact (key i).1 (h i (Nat.zero_le i) (by omega))
  · intro h j _ hj
    exact (key j).2 (h j (by omega))
/-- What a right outline is. -/
structure Out (l : List ED) : Prop where
  most : l.length ≤ 16
  least : 2 ≤ l.length
  name : ∀ i, i < l.length → nameB (l.getD i e0).1 = true
  other : ∀ i, i < l.length → ∀ j, j < i → (l.getD j e0).1 ≠ (l.getD i e0).1
  line : ∀ i, i < l.length → lineE (l.getD i e0).2 = 0
  joint : ∀ i, i < l.length → joint l i
  poly : checkP (verts l) = 0
theorem outE_ok {l : List ED} : outE l = 0 ↔ Out l := by
  unfold outE
  constructor
  · intro h
    split at h
    · cases h
    split at h
    · cases h
    split at h
    · rename_i h1 h2 h3
      split at h
      · rename_i h4
        rw [edgesE_ok] at h3
        exact ⟨by omega, by omega, fun i hi => (h3 i hi).1, fun i hi => (h3 i hi).2.1, fun i hi => (h3 i hi).2.2, h4, h⟩
      · cases h
    · contradiction
  · intro h
    have h1 := h.most
    have h2 := h.least
    rw [if_neg (by omega), if_neg (by omega), if_pos (edgesE_ok.2 fun i hi => ⟨h.name i hi, h.other i hi, h.line i hi⟩), if_pos h.joint]
    exact h.poly

theorem find_ev (a : List ED) (x : ED) (ha : a.length ≤ 1000000) : ∃ r : Int, Ev (fun k => slices_IndexFunc_api_Edge_api_Edge.f k a x) r ∧ (0 ≤ r ↔ ∃ j, j < a.length ∧ (a.getD j e0).1 = x.1) := by
  unfold slices_IndexFunc_api_Edge_api_Edge.f
  refine search (Q := fun i => ∃ r : Int, Ev (fun k => slices_IndexFunc_api_Edge_api_Edge.l0 k a x (a.length : Int) (i : Int)) r ∧ (0 ≤ r ↔ ∃ j, j < a.length ∧ (a.getD j e0).1 = x.1)) (bad := fun i => (a.getD i e0).1 = x.1) (n := a.length) (fun hn => ?_) (fun i hi _ hb => ?_) (fun i hi _ hb q => ?_)
  · refine ⟨-1, ?_, ?_⟩
    · refine Ev.step ?_
      simp only [slices_IndexFunc_api_Edge_api_Edge.l0]
      exact Ev.cf dge (Ev.pure _)
    · exact ⟨fun h => absurd h (by decide), fun ⟨j, h1, h2⟩ => absurd h2 (hn j h1)⟩
  all_goals
    have hs : outline_edges_1.f (gd ((⟨#[]⟩ : ByteArray), []) a (i : Int)) (gd ((⟨#[]⟩ : ByteArray), []) [x] 0) = some (decide ((a.getD i e0).1 = x.1)) := by
      unfold outline_edges_1.f
      rw [eqS_dec]
      rfl
  · refine ⟨(i : Int), ?_, fun _ => ⟨i, hi, hb⟩, fun _ => Int.natCast_nonneg i⟩
    refine Ev.step ?_
    simp only [slices_IndexFunc_api_Edge_api_Edge.l0]
    refine Ev.ct (dlt hi) (Ev.ct (inbN hi) (Ev.bs hs ?_))
    rw [decide_eq_true hb]
    exact Ev.ct rfl (Ev.pure _)
  · obtain ⟨r, h1, h2⟩ := q
    refine ⟨r, ?_, h2⟩
    refine Ev.step ?_
    simp only [slices_IndexFunc_api_Edge_api_Edge.l0]
    refine Ev.ct (dlt hi) (Ev.ct (inbN hi) (Ev.bs hs ?_))
    rw [decide_eq_false hb, wadd1 (by omega)]
    exact Ev.cf rfl h1
theorem contains_ev (l : List ED) (i : Nat) (hi : i ≤ l.length) (hl : l.length ≤ 1000000) (x : ED) :
    Ev (fun k => slices_ContainsFunc_api_Edge_api_Edge.f k (cutL none (some (i : Int)) l) x) (dec (∃ j, j < i ∧ (l.getD j e0).1 = x.1)) := by
  unfold slices_ContainsFunc_api_Edge_api_Edge.f
  have hlen : (l.take i).length = i := by rw [List.length_take]; omega
  obtain ⟨r, h1, h2⟩ := find_ev (l.take i) x (by omega)
  refine Ev.bind h1 (Ev.some ?_)
  rw [← dec_decide]
  refine dec_iff ?_
  show 0 ≤ r ↔ _
  rw [h2, hlen]
  have e : ∀ j, j < i → (l.take i).getD j e0 = l.getD j e0 := fun j hj => by
    rw [List.getD_eq_getElem?_getD, List.getD_eq_getElem?_getD, List.getElem?_take, if_pos hj]
  constructor
  · rintro ⟨j, a, b⟩; rw [e j a] at b; exact ⟨j, a, b⟩
  · rintro ⟨j, a, b⟩; exact ⟨j, a, by rw [e j a]; exact b⟩

/-- The sizes of what a law takes. -/
def Few (l : List ED) : Prop := l.length ≤ 1000 ∧ ∀ i, i < l.length → (l.getD i e0).2.length ≤ 1000 ∧ (l.getD i e0).1.size ≤ 1000
theorem edges_ev (l : List ED) (hf : Few l) : Ev (fun k => outline_edges.f k l) (edgesE l) := by
  unfold outline_edges.f edgesE
  refine down (Q := fun i => Ev (fun k => outline_edges.l0 k l l (l.length : Int) (i : Int)) (firstE (edgeE l) i (l.length - i))) (n := l.length) ?_ ?_
  · rw [Nat.sub_self]
    refine Ev.step ?_
    simp only [outline_edges.l0]
    exact Ev.cf dge (Ev.pure _)
  · intro i hi ih
    rw [firstE_step _ hi]
    refine Ev.step ?_
    simp only [outline_edges.l0]
    rw [wadd1 (by have := hf.1; omega)]
    refine Ev.ct (dlt hi) (Ev.ct (inbN hi) (Ev.bind (named_ev _) ?_))
    have hx : gd ((⟨#[]⟩ : ByteArray), []) l (i : Int) = l.getD i e0 := rfl
    rw [hx]
    have hd : edgeE l i = (open Classical in if nameB (l.getD i e0).1 = false then 1 else if ∃ j, j < i ∧ (l.getD j e0).1 = (l.getD i e0).1 then 7 else lineE (l.getD i e0).2) := rfl
    cases h1 : nameB (l.getD i e0).1
    · rw [if_pos h1] at hd
      rw [if_neg (by rw [hd]; decide), hd]
      exact Ev.ct rfl (Ev.pure _)
    rw [if_neg (by rw [h1]; decide)] at hd
    refine Ev.cf rfl (Ev.ct (by show (decide (0 ≤ (i : Int)) && decide ((i : Int) ≤ (l.length : Int))) = true; rw [decide_eq_true (by omega), decide_eq_true (by omega)]; rfl) (Ev.bind (contains_ev l i (by omega) (by have := hf.1; omega) _) ?_))
    by_cases h2 : ∃ j, j < i ∧ (l.getD j e0).1 = (l.getD i e0).1
    · rw [if_pos h2] at hd
      rw [dec_t h2, if_neg (by rw [hd]; decide), hd]
      exact Ev.ct rfl (Ev.pure _)
    rw [if_neg h2] at hd
    rw [dec_f h2]
    refine Ev.cf rfl (Ev.bind (line1_ev _ (by have := (hf.2 i hi).1; omega)) ?_)
    by_cases h3 : lineE (l.getD i e0).2 = 0
    · rw [if_pos (by rw [hd]; exact h3)]
      exact Ev.cf (by rw [h3]; rfl) ih
    · rw [if_neg (by rw [hd]; exact h3), hd]
      exact Ev.ct (bne_iff_ne.2 h3) (Ev.pure _)
theorem verts_take_succ (l : List ED) (i : Nat) (h : i < l.length) : verts (l.take (i + 1)) = verts (l.take i) ++ (l.getD i e0).2.take ((l.getD i e0).2.length - 1) := by
  unfold verts
  rw [take_succ' l i h, List.flatMap_append, getD_lt e0 l h]
  simp
theorem verts_len {l : List ED} (h : ∀ i, i < l.length → (l.getD i e0).2.length ≤ 1000) : ∀ i, i ≤ l.length → (verts (l.take i)).length ≤ i * 1000
  | 0, _ => by simp [verts]
  | i + 1, hi => by
    rw [verts_take_succ l i (by omega), List.length_append, List.length_take]
    have := verts_len h i (by omega)
    have := h i (by omega)
    omega
theorem cut_last (a : List Spot) (h : 0 < a.length) (ha : a.length ≤ 1000000) : cutG none (some (IntKind.wrap .i64 ((a.length : Int) - 1))) a.length = true ∧ cutL none (some (IntKind.wrap .i64 ((a.length : Int) - 1))) a = a.take (a.length - 1) := by
  have e : IntKind.wrap .i64 ((a.length : Int) - 1) = ((a.length - 1 : Nat) : Int) := wsub (j := 1) h (by omega)
  rw [e]
  refine ⟨?_, rfl⟩
  show (decide (0 ≤ ((a.length - 1 : Nat) : Int)) && decide (((a.length - 1 : Nat) : Int) ≤ (a.length : Int))) = true
  rw [decide_eq_true (by omega), decide_eq_true (by omega)]
  rfl
theorem verts_ev (l : List ED) (hf : Few l) (h1 : ∀ i, i < l.length → 0 < (l.getD i e0).2.length) : Ev (fun k => outline_vertices.f k l) (verts l) := by
  unfold outline_vertices.f
  have h := down (Q := fun i => Ev (fun k => outline_vertices.l0 k l (l.length : Int) (i : Int) (verts (l.take i))) (verts l)) (n := l.length) ?_ ?_
  · simpa [verts] using h
  · refine Ev.step ?_
    simp only [outline_vertices.l0]
    refine Ev.cf dge (Ev.some ?_)
    rw [List.take_length]
  · intro i hi ih
    refine Ev.step ?_
    simp only [outline_vertices.l0]
    have hx : gd ((⟨#[]⟩ : ByteArray), []) l (i : Int) = l.getD i e0 := rfl
    rw [hx, wadd1 (by have := hf.1; omega)]
    have hl := (hf.2 i hi).1
    have hc := cut_last (l.getD i e0).2 (h1 i hi) (by omega)
    rw [hc.2, ← verts_take_succ l i hi]
    refine Ev.ct (dlt hi) (Ev.ct (inbN hi) (Ev.ct hc.1 (Ev.ct (fits_ok ?_) ih)))
    have := verts_len (fun i hi => (hf.2 i hi).1) i (by omega)
    rw [List.length_take]
    have := hf.1
    omega
theorem pred_mod {i n : Nat} (h : i < n) : (i + n - 1) % n = if i = 0 then n - 1 else i - 1 := by
  by_cases e : i = 0
  · subst e
    rw [if_pos rfl, Nat.zero_add, Nat.mod_eq_of_lt (by omega)]
  · rw [if_neg e, show i + n - 1 = (i - 1) + n by omega, Nat.add_mod_right, Nat.mod_eq_of_lt (by omega)]
theorem Out_ev (l : List ED) (hf : Few l) : Ev (fun k => outline_Check.f k l) (outE l) := by
  unfold outline_Check.f outE
  by_cases c1 : 16 < l.length
  · rw [if_pos c1]
    exact Ev.ct (decide_eq_true (by omega)) (Ev.pure _)
  rw [if_neg c1]
  refine Ev.cf (decide_eq_false (by omega)) ?_
  by_cases c2 : l.length < 2
  · rw [if_pos c2]
    exact Ev.ct (decide_eq_true (by omega)) (Ev.pure _)
  rw [if_neg c2]
  refine Ev.cf (decide_eq_false (by omega)) (Ev.bind (edges_ev l hf) ?_)
  by_cases c3 : ¬ edgesE l = 0
  · rw [if_neg c3]
    exact Ev.ct (bne_iff_ne.2 c3) (Ev.pure _)
  have c3 := Classical.not_not.1 c3
  rw [if_pos c3]
  have hE := edgesE_ok.1 c3
  have h2 : ∀ i, i < l.length → 2 ≤ (l.getD i e0).2.length := fun i hi => (lineE_ok.1 (hE i hi).2.2).2.1
  have w : IntKind.i64.wrap ((l.length : Int) - 1) = ((l.length - 1 : Nat) : Int) := wsub (j := 1) (by omega) (by omega)
  rw [w]
  refine Ev.cf (by rw [c3]; rfl) (Ev.ct (inbN (by omega)) ?_)
  have hm : ∀ i, (i + l.length - 1) % l.length < l.length := fun i => Nat.mod_lt _ (by omega)
  have h := search (Q := fun i => Ev (fun k => outline_Check.l0 k l (l.getD ((i + l.length - 1) % l.length) e0).2 l (l.length : Int) (i : Int)) (open Classical in if ∀ i, i < l.length → joint l i then checkP (verts l) else 11)) (bad := fun i => ¬ joint l i) (n := l.length) ?_ ?_ ?_
  · rw [pred_mod (i := 0) (by omega), if_pos rfl] at h
    exact h
  · intro hn
    rw [if_pos (fun i hi => Classical.not_not.1 (hn i hi))]
    refine Ev.step ?_
    simp only [outline_Check.l0]
    refine Ev.cf dge (Ev.bind (verts_ev l hf fun i hi => by have := h2 i hi; omega) (Ev.bind (Check_ev _) (Ev.pure _)))
  all_goals
    intro i hi _ hb
  · rw [if_neg (fun h => hb (h i hi))]
    refine Ev.step ?_
    have g1 := h2 _ (hm i)
    have g2 := (hf.2 _ (hm i)).1
    have g3 := h2 i hi
    have w1 : IntKind.i64.wrap (((l.getD ((i + l.length - 1) % l.length) e0).2.length : Int) - 1) = (((l.getD ((i + l.length - 1) % l.length) e0).2.length - 1 : Nat) : Int) := wsub (j := 1) (by omega) (by omega)
    have hx : gd ((⟨#[]⟩ : ByteArray), []) l (i : Int) = l.getD i e0 := rfl
    simp only [outline_Check.l0, w1, hx, spotEq]
    refine Ev.ct (dlt hi) (Ev.ct (inbN hi) (Ev.ct (inbN (by omega)) (Ev.ct (inb_t' (by omega) (by omega)) (Ev.ct ?_ (Ev.pure _)))))
    rw [decide_eq_false]
    · rfl
    · exact hb
  · intro q
    have hb := Classical.not_not.1 hb
    refine Ev.step ?_
    have g1 := h2 _ (hm i)
    have g2 := (hf.2 _ (hm i)).1
    have g3 := h2 i hi
    have w1 : IntKind.i64.wrap (((l.getD ((i + l.length - 1) % l.length) e0).2.length : Int) - 1) = (((l.getD ((i + l.length - 1) % l.length) e0).2.length - 1 : Nat) : Int) := wsub (j := 1) (by omega) (by omega)
    have hx : gd ((⟨#[]⟩ : ByteArray), []) l (i : Int) = l.getD i e0 := rfl
    simp only [outline_Check.l0, w1, hx, spotEq]
    rw [wadd1 (by omega)]
    rw [show (i + 1 + l.length - 1) % l.length = i from by rw [show i + 1 + l.length - 1 = i + l.length by omega, Nat.add_mod_right, Nat.mod_eq_of_lt hi]] at q
    refine Ev.ct (dlt hi) (Ev.ct (inbN hi) (Ev.ct (inbN (by omega)) (Ev.ct (inb_t' (by omega) (by omega)) (Ev.cf ?_ q))))
    rw [decide_eq_true]
    · rfl
    · exact hb
theorem Poly_ev (l : List ED) (hf : Few l) : Ev (fun k => outline_Polygon.f k l) (if outE l = 0 then (verts l, 0) else ([], outE l)) := by
  unfold outline_Polygon.f
  refine Ev.bind (Out_ev l hf) ?_
  by_cases h : outE l = 0
  · rw [if_pos h]
    have ho := outE_ok.1 h
    refine Ev.cf (by rw [h]; rfl) (Ev.bind (verts_ev l hf fun i hi => by have := (lineE_ok.1 (ho.line i hi)).2.1; omega) (Ev.pure _))
  · rw [if_neg h]
    exact Ev.ct (bne_iff_ne.2 h) (Ev.pure _)
end Go.Gm

/- Outlines: the checks of the reference. -/
set_option linter.unusedVariables false
set_option linter.unusedSimpArgs false
namespace Go.Gm
open Go.Pi

theorem named20_ev (l : List ED) (i : Nat) (hi : i ≤ l.length) (hl : l.length ≤ 1000) (s : ByteArray) : Ev (fun k => ref20_named.f k l (i : Int) s) (dec (∃ j, j < i ∧ (l.getD j e0).1 = s)) := by
  unfold ref20_named.f
  refine search (Q := fun j => Ev (fun k => ref20_named.l0 k l (i : Int) s (j : Int)) _) (bad := fun j => (l.getD j e0).1 = s) (n := i) (fun hn => ?_) (fun j hj _ hb => ?_) (fun j hj _ hb q => ?_)
  · rw [dec_f fun ⟨j, a, b⟩ => hn j a b]
    refine Ev.step ?_
    simp only [ref20_named.l0]
    exact Ev.cf dge (Ev.pure _)
  all_goals
    have hx : gd ((⟨#[]⟩ : ByteArray), []) l (j : Int) = l.getD j e0 := rfl
    refine Ev.step ?_
    simp only [ref20_named.l0, hx, eqS_dec]
    rw [wadd1 (by omega)]
    refine Ev.ct (dlt hj) (Ev.ct (inbN (by omega)) ?_)
  · rw [decide_eq_true hb, dec_t ⟨j, hj, hb⟩]
    exact Ev.ct rfl (Ev.pure _)
  · rw [decide_eq_false hb]
    exact Ev.cf rfl q
theorem verts2_ev (l : List ED) (hf : Few l) : Ev (fun k => ref20_Vertices.f k l) (verts l) := by
  unfold ref20_Vertices.f
  have h := down (Q := fun i => Ev (fun k => ref20_Vertices.l0 k l (i : Int) (verts (l.take i))) (verts l)) (n := l.length) ?_ ?_
  · simpa [verts] using h
  · refine Ev.step ?_
    simp only [ref20_Vertices.l0]
    refine Ev.cf dge (Ev.some ?_)
    rw [List.take_length]
  · intro i hi ih
    refine Ev.step ?_
    simp only [ref20_Vertices.l0]
    have hx : gd ((⟨#[]⟩ : ByteArray), []) l (i : Int) = l.getD i e0 := rfl
    rw [hx, wadd1 (by have := hf.1; omega)]
    have hl := (hf.2 i hi).1
    refine Ev.ct (dlt hi) (Ev.ct (inbN hi) ?_)
    by_cases h1 : 0 < (l.getD i e0).2.length
    · have hc := cut_last (l.getD i e0).2 h1 (by omega)
      rw [hc.2, ← verts_take_succ l i hi]
      refine Ev.ct (decide_eq_true (by omega)) (Ev.ct (inbN hi) (Ev.ct hc.1 (Ev.ct (fits_ok ?_) ih)))
      have := verts_len (fun i hi => (hf.2 i hi).1) i (by omega)
      rw [List.length_take]
      have := hf.1
      omega
    · refine Ev.cf (decide_eq_false (by omega)) ?_
      rw [verts_take_succ l i hi, List.eq_nil_of_length_eq_zero (by omega : (l.getD i e0).2.length = 0)] at ih
      simpa using ih
theorem joint_all (l : List ED) : (∀ i, i < l.length → joint l i) ↔ ∀ i, i < l.length → lastS (l.getD i e0).2 = (l.getD ((i + 1) % l.length) e0).2.getD 0 (0, 0) := by
  unfold joint
  constructor
  · intro h i hi
    have h1 := h ((i + 1) % l.length) (Nat.mod_lt _ (by omega))
    rw [pred_mod (Nat.mod_lt _ (by omega))] at h1
    have e : (if (i + 1) % l.length = 0 then l.length - 1 else (i + 1) % l.length - 1) = i := by
      by_cases c : i + 1 = l.length
      · rw [c, Nat.mod_self, if_pos rfl]; omega
      · rw [Nat.mod_eq_of_lt (by omega), if_neg (by omega)]; omega
    rw [e] at h1
    exact h1
  · intro h i hi
    have h1 := h ((i + l.length - 1) % l.length) (Nat.mod_lt _ (by omega))
    rw [pred_mod hi] at h1 ⊢
    have e : ((if i = 0 then l.length - 1 else i - 1) + 1) % l.length = i := by
      by_cases c : i = 0
      · rw [if_pos c, show l.length - 1 + 1 = l.length by omega, Nat.mod_self, c]
      · rw [if_neg c, show i - 1 + 1 = i by omega, Nat.mod_eq_of_lt hi]
    rw [e] at h1
    exact h1
theorem firstE_first {f : Nat → Int} {i : Nat} (h : ∀ j, j < i → f j = 0) (hb : f i ≠ 0) : ∀ n, i < n → firstE f 0 n = f i := by
  intro n hn
  have key : ∀ m a, a + m = i → firstE f a (n - a) = f i := by
    intro m
    induction m with
    | zero =>
      intro a ha
      have : a = i := by omega
      subst this
      rw [firstE_step f hn, if_neg hb]
    | succ m ih =>
      intro a ha
      rw [firstE_step f (by omega), if_pos (h a (by omega))]
      exact ih (a + 1) (by omega)
  exact key i 0 (by omega)
theorem Out2_ev (l : List ED) (hf : Few l) : Ev (fun k => ref20_Check.f k l) (outE l) := by
  unfold ref20_Check.f outE
  by_cases c1 : 16 < l.length
  · rw [if_pos c1]
    exact Ev.ct (decide_eq_true (by omega)) (Ev.pure _)
  rw [if_neg c1]
  refine Ev.cf (decide_eq_false (by omega)) ?_
  by_cases c2 : l.length < 2
  · rw [if_pos c2]
    exact Ev.ct (decide_eq_true (by omega)) (Ev.pure _)
  rw [if_neg c2]
  refine Ev.cf (decide_eq_false (by omega)) ?_
  -- the joints
  have tail : edgesE l = 0 → Ev (fun k => ref20_Check.l1 k l ((0 : Nat) : Int)) (open Classical in if ∀ i, i < l.length → joint l i then checkP (verts l) else 11) := by
    intro c3
    have hE := edgesE_ok.1 c3
    have h2 : ∀ i, i < l.length → 2 ≤ (l.getD i e0).2.length := fun i hi => (lineE_ok.1 (hE i hi).2.2).2.1
    have hm : ∀ i, (i + 1) % l.length < l.length := fun i => Nat.mod_lt _ (by omega)
    refine search (Q := fun i => Ev (fun k => ref20_Check.l1 k l (i : Int)) _) (bad := fun i => ¬ lastS (l.getD i e0).2 = (l.getD ((i + 1) % l.length) e0).2.getD 0 (0, 0)) (n := l.length) ?_ ?_ ?_
    · intro hn
      rw [if_pos ((joint_all l).2 fun i hi => Classical.not_not.1 (hn i hi))]
      refine Ev.step ?_
      simp only [ref20_Check.l1]
      exact Ev.cf dge (Ev.bind (verts2_ev l hf) (Ev.bind (Check2_ev _) (Ev.pure _)))
    all_goals
      intro i hi _ hb
      have g1 := h2 i hi
      have g2 := (hf.2 i hi).1
      have g3 := h2 _ (hm i)
      have w1 : IntKind.i64.wrap (((l.getD i e0).2.length : Int) - 1) = (((l.getD i e0).2.length - 1 : Nat) : Int) := wsub (j := 1) (by omega) (by omega)
      have w2 : IntKind.i64.wrap ((i : Int) + 1) = ((i + 1 : Nat) : Int) := wadd1 (by omega)
      have hx : ∀ j : Nat, gd ((⟨#[]⟩ : ByteArray), []) l (j : Int) = l.getD j e0 := fun j => rfl
    · rw [if_neg (fun h => hb ((joint_all l).1 h i hi))]
      refine Ev.step ?_
      simp only [ref20_Check.l1, w2, tmod_nat, hx, w1, spotEq]
      refine Ev.ct (dlt hi) (Ev.ct (inbN hi) (Ev.ct (ne0 (by omega)) (Ev.ct (inbN (hm i)) (Ev.ct (inbN (by omega)) (Ev.ct (inb_t' (by omega) (by omega)) (Ev.ct ?_ (Ev.pure _)))))))
      rw [decide_eq_false]
      · rfl
      · exact hb
    · intro q
      have hb := Classical.not_not.1 hb
      refine Ev.step ?_
      simp only [ref20_Check.l1, w2, tmod_nat, hx, w1, spotEq]
      refine Ev.ct (dlt hi) (Ev.ct (inbN hi) (Ev.ct (ne0 (by omega)) (Ev.ct (inbN (hm i)) (Ev.ct (inbN (by omega)) (Ev.ct (inb_t' (by omega) (by omega)) (Ev.cf ?_ q))))))
      rw [decide_eq_true]
      · rfl
      · exact hb
  -- the edges themselves
  refine search (Q := fun i => Ev (fun k => ref20_Check.l0 k l (i : Int)) _) (bad := fun i => edgeE l i ≠ 0) (n := l.length) ?_ ?_ ?_
  · intro hn
    have c3 : edgesE l = 0 := (firstE_ok _ _).2 fun j _ hj => Classical.not_not.1 (hn j (by omega))
    rw [if_pos c3]
    refine Ev.step ?_
    simp only [ref20_Check.l0]
    exact Ev.cf dge (tail c3)
  all_goals
    intro i hi hp hb
    have w2 : IntKind.i64.wrap ((i : Int) + 1) = ((i + 1 : Nat) : Int) := wadd1 (by omega)
    have hx : ∀ j : Nat, gd ((⟨#[]⟩ : ByteArray), []) l (j : Int) = l.getD j e0 := fun j => rfl
    have hd : edgeE l i = (open Classical in if nameB (l.getD i e0).1 = false then 1 else if ∃ j, j < i ∧ (l.getD j e0).1 = (l.getD i e0).1 then 7 else lineE (l.getD i e0).2) := rfl
  · have he : edgesE l = edgeE l i := firstE_first (fun j hj => Classical.not_not.1 (hp j hj)) hb l.length hi
    rw [if_neg (by rw [he]; exact hb), he]
    refine Ev.step ?_
    simp only [ref20_Check.l0, hx, w2]
    refine Ev.ct (dlt hi) (Ev.ct (inbN hi) (Ev.bind (Name17_ev _ (by have := (hf.2 i hi).2; omega)) ?_))
    cases h1 : nameB (l.getD i e0).1
    · rw [if_pos h1] at hd
      rw [hd]
      exact Ev.ct rfl (Ev.pure _)
    rw [if_neg (by rw [h1]; decide)] at hd
    refine Ev.cf rfl (Ev.ct (inbN hi) (Ev.bind (named20_ev l i (by omega) hf.1 _) ?_))
    by_cases h2 : ∃ j, j < i ∧ (l.getD j e0).1 = (l.getD i e0).1
    · rw [if_pos h2] at hd
      rw [dec_t h2, hd]
      exact Ev.ct rfl (Ev.pure _)
    rw [if_neg h2] at hd
    rw [dec_f h2]
    refine Ev.cf rfl (Ev.ct (inbN hi) (Ev.bind (line2_ev _ (by have := (hf.2 i hi).1; omega)) ?_))
    rw [hd] at hb ⊢
    exact Ev.ct (bne_iff_ne.2 hb) (Ev.pure _)
  · intro q
    have hb := Classical.not_not.1 hb
    rw [hd] at hb
    refine Ev.step ?_
    simp only [ref20_Check.l0, hx, w2]
    refine Ev.ct (dlt hi) (Ev.ct (inbN hi) (Ev.bind (Name17_ev _ (by have := (hf.2 i hi).2; omega)) ?_))
    cases h1 : nameB (l.getD i e0).1
    · rw [if_pos h1] at hb
      cases hb
    rw [if_neg (by rw [h1]; decide)] at hb
    refine Ev.cf rfl (Ev.ct (inbN hi) (Ev.bind (named20_ev l i (by omega) hf.1 _) ?_))
    by_cases h2 : ∃ j, j < i ∧ (l.getD j e0).1 = (l.getD i e0).1
    · rw [if_pos h2] at hb
      cases hb
    rw [if_neg h2] at hb
    rw [dec_f h2]
    refine Ev.cf rfl (Ev.ct (inbN hi) (Ev.bind (line2_ev _ (by have := (hf.2 i hi).1; omega)) ?_))
    exact Ev.cf (by rw [hb]; rfl) q
theorem Poly2_ev (l : List ED) (hf : Few l) : Ev (fun k => ref20_Polygon.f k l) (if outE l = 0 then (verts l, 0) else ([], outE l)) := by
  unfold ref20_Polygon.f
  refine Ev.bind (Out2_ev l hf) ?_
  by_cases h : outE l = 0
  · rw [if_pos h]
    exact Ev.cf (by rw [h]; rfl) (Ev.bind (verts2_ev l hf) (Ev.pure _))
  · rw [if_neg h]
    exact Ev.ct (bne_iff_ne.2 h) (Ev.pure _)
end Go.Gm

/- Allowances: roots and shares. -/
set_option linter.unusedVariables false
set_option linter.unusedSimpArgs false
namespace Go.Gm
open Go.Pi

/-- The root of n, rounded down. -/
def IsRoot (n r : Int) : Prop := 0 ≤ r ∧ r * r ≤ n ∧ n < (r + 1) * (r + 1)
theorem IsRoot.uniq {n r s : Int} (hr : IsRoot n r) (hs : IsRoot n s) : r = s := by
  obtain ⟨a1, a2, a3⟩ := hr
  obtain ⟨b1, b2, b3⟩ := hs
  have h1 : r < s + 1 := by
    refine Int.not_le.1 fun h => ?_
    have := Int.mul_le_mul h h (by omega) (by omega)
    omega
  have h2 : s < r + 1 := by
    refine Int.not_le.1 fun h => ?_
    have := Int.mul_le_mul h h (by omega) (by omega)
    omega
  omega
open Classical in
noncomputable def rt (n : Int) : Int := if h : ∃ r, IsRoot n r then h.choose else 0
theorem rt_of {n r : Int} (h : IsRoot n r) : rt n = r := by
  unfold rt
  rw [dif_pos ⟨r, h⟩]
  exact IsRoot.uniq (Exists.choose_spec (⟨r, h⟩ : ∃ r, IsRoot n r)) h
theorem sq_bd {x b : Int} (h0 : 0 ≤ x) (h1 : x ≤ b) : 0 ≤ x * x ∧ x * x ≤ b * b := ⟨Int.mul_nonneg h0 h0, Int.mul_le_mul h1 h1 h0 (by omega)⟩
theorem root1_go (n : Int) (hn : 0 ≤ n) (hn' : n < 4611686018427387904) : ∀ (m : Nat) (lo hi : Int), (hi - lo).toNat ≤ m → 0 ≤ lo → lo < hi → hi ≤ 2147483648 → lo * lo ≤ n → n < hi * hi →
    ∃ r, IsRoot n r ∧ Ev (fun k => allowance_root.l0 k n lo hi) r
  | 0, lo, hi, h, h0, h1, h2, h3, h4 => by omega
  | m + 1, lo, hi, h, h0, h1, h2, h3, h4 => by
    have w1 : IntKind.i64.wrap (hi - lo) = hi - lo := i64_in (by omega) (by omega)
    by_cases c : hi - lo > 1
    · have w2 : IntKind.i64.wrap (lo + hi) = lo + hi := i64_in (by omega) (by omega)
      have e : Int.tdiv (lo + hi) 2 = (lo + hi) / 2 := tdiv_nn (by omega)
      have w3 : IntKind.i64.wrap ((lo + hi) / 2) = (lo + hi) / 2 := i64_in (by omega) (by omega)
      have hm0 : 0 < (lo + hi) / 2 := by omega
      have hm1 : lo < (lo + hi) / 2 := by omega
      have hm2 : (lo + hi) / 2 < hi := by omega
      generalize hmm : (lo + hi) / 2 = M at *
      have e2 : Int.tdiv n M = n / M := tdiv_nn hn
      have hq : 0 ≤ n / M ∧ n / M ≤ n := ⟨Int.ediv_nonneg hn (by omega), Int.ediv_le_self _ hn⟩
      have w4 : IntKind.i64.wrap (n / M) = n / M := i64_in (by omega) (by omega)
      have hd : M ≤ n / M ↔ M * M ≤ n := Int.le_ediv_iff_mul_le hm0
      by_cases c2 : M * M ≤ n
      · obtain ⟨r, hr, hv⟩ := root1_go n hn hn' m M hi (by omega) (by omega) hm2 h2 c2 h4
        refine ⟨r, hr, ?_⟩
        refine Ev.step ?_
        simp only [allowance_root.l0, w1, w2, e, hmm, w3, e2, w4]
        exact Ev.ct (decide_eq_true c) (Ev.ct (by rw [decide_eq_false (by omega)]; rfl) (Ev.ct (decide_eq_true (hd.2 c2)) hv))
      · obtain ⟨r, hr, hv⟩ := root1_go n hn hn' m lo M (by omega) h0 hm1 (by omega) h3 (by omega)
        refine ⟨r, hr, ?_⟩
        refine Ev.step ?_
        simp only [allowance_root.l0, w1, w2, e, hmm, w3, e2, w4]
        exact Ev.ct (decide_eq_true c) (Ev.ct (by rw [decide_eq_false (by omega)]; rfl) (Ev.cf (decide_eq_false fun h => c2 (hd.1 h)) hv))
    · have : hi = lo + 1 := by omega
      subst this
      refine ⟨lo, ⟨h0, h3, h4⟩, ?_⟩
      refine Ev.step ?_
      simp only [allowance_root.l0, w1]
      exact Ev.cf (decide_eq_false c) (Ev.pure _)
theorem root1_ex (n : Int) (hn : 0 ≤ n) (hn' : n < 4611686018427387904) : ∃ r, IsRoot n r ∧ Ev (fun k => allowance_root.f k n) r := by
  unfold allowance_root.f
  exact root1_go n hn hn' 2147483648 0 2147483648 (by decide) (by decide) (by decide) (by decide) (by omega) (by omega)
theorem rt_spec {n : Int} (hn : 0 ≤ n) (hn' : n < 4611686018427387904) : IsRoot n (rt n) := by
  obtain ⟨r, hr, _⟩ := root1_ex n hn hn'
  rw [rt_of hr]
  exact hr
theorem root1_ev (n : Int) (hn : 0 ≤ n) (hn' : n < 4611686018427387904) : Ev (fun k => allowance_root.f k n) (rt n) := by
  obtain ⟨r, hr, hv⟩ := root1_ex n hn hn'
  rw [rt_of hr]
  exact hv
theorem root2_go (n : Int) (hn : 0 ≤ n) : ∀ (m : Nat) (lo hi : Int), (hi - lo).toNat ≤ m → 0 ≤ lo → lo ≤ hi → hi ≤ 4194304 → lo * lo ≤ n → n < (hi + 1) * (hi + 1) →
    ∃ r, IsRoot n r ∧ Ev (fun k => ref24_root.l0 k n lo hi) r := by
  intro m
  induction m with
  | zero =>
    intro lo hi h h0 h1 h2 h3 h4
    have : hi = lo := by omega
    subst this
    refine ⟨hi, ⟨h0, h3, h4⟩, ?_⟩
    refine Ev.step ?_
    simp only [ref24_root.l0]
    exact Ev.cf (decide_eq_false (by omega)) (Ev.pure _)
  | succ m ih =>
    intro lo hi h h0 h1 h2 h3 h4
    by_cases c : lo < hi
    · have w2 : IntKind.i64.wrap (lo + hi) = lo + hi := i64_in (by omega) (by omega)
      have w2' : IntKind.i64.wrap (lo + hi + 1) = lo + hi + 1 := i64_in (by omega) (by omega)
      have e : Int.tdiv (lo + hi + 1) 2 = (lo + hi + 1) / 2 := tdiv_nn (by omega)
      have w3 : IntKind.i64.wrap ((lo + hi + 1) / 2) = (lo + hi + 1) / 2 := i64_in (by omega) (by omega)
      have hm1 : lo < (lo + hi + 1) / 2 := by omega
      have hm2 : (lo + hi + 1) / 2 ≤ hi := by omega
      generalize hmm : (lo + hi + 1) / 2 = M at *
      have hb := sq_bd (x := M) (b := 4194304) (by omega) (by omega)
      have w4 : IntKind.i64.wrap (M * M) = M * M := i64_in (by omega) (by omega)
      have w5 : IntKind.i64.wrap (M - 1) = M - 1 := i64_in (by omega) (by omega)
      by_cases c2 : M * M ≤ n
      · obtain ⟨r, hr, hv⟩ := ih M hi (by omega) (by omega) hm2 h2 c2 h4
        refine ⟨r, hr, ?_⟩
        refine Ev.step ?_
        simp only [ref24_root.l0, w2, w2', e, hmm, w3, w4]
        exact Ev.ct (decide_eq_true c) (Ev.ct (decide_eq_true c2) hv)
      · obtain ⟨r, hr, hv⟩ := ih lo (M - 1) (by omega) h0 (by omega) (by omega) h3 (by rw [show M - 1 + 1 = M by omega]; omega)
        refine ⟨r, hr, ?_⟩
        refine Ev.step ?_
        simp only [ref24_root.l0, w2, w2', e, hmm, w3, w4, w5]
        exact Ev.ct (decide_eq_true c) (Ev.cf (decide_eq_false c2) hv)
    · have : hi = lo := by omega
      subst this
      refine ⟨hi, ⟨h0, h3, h4⟩, ?_⟩
      refine Ev.step ?_
      simp only [ref24_root.l0]
      exact Ev.cf (decide_eq_false (by omega)) (Ev.pure _)
theorem root2_ev (n : Int) (hn : 0 ≤ n) (hn' : n < 17592194433025) : Ev (fun k => ref24_root.f k n) (rt n) := by
  unfold ref24_root.f
  obtain ⟨r, hr, hv⟩ := root2_go n hn 4194304 0 4194304 (by decide) (by decide) (by decide) (by decide) (by omega) (by omega)
  rw [rt_of hr]
  exact hv

/-- The rounded quotient, halves away from 0. -/
def dv (a n : Int) : Int := if a < 0 then -((2 * -a + n) / (2 * n)) else (2 * a + n) / (2 * n)
theorem dv_zero {n : Int} (hn : 0 < n) : dv 0 n = 0 := by
  unfold dv
  rw [if_neg (by decide)]
  exact Int.ediv_eq_zero_of_lt (by omega) (by omega)
theorem dv_neg {a n : Int} (hn : 0 < n) : dv (-a) n = - dv a n := by
  by_cases h0 : a = 0
  · subst h0; rw [Int.neg_zero, dv_zero hn]; rfl
  unfold dv
  by_cases h : a < 0
  · rw [if_neg (by omega), if_pos h, Int.neg_neg]
  · rw [if_pos (by omega), if_neg h, Int.neg_neg]
theorem dv_bd {a n A : Int} (hn : 0 < n) (h : -A ≤ a ∧ a ≤ A) : -(A + 1) ≤ dv a n ∧ dv a n ≤ A + 1 := by
  have key : ∀ b : Int, 0 ≤ b → b ≤ A → 0 ≤ (2 * b + n) / (2 * n) ∧ (2 * b + n) / (2 * n) ≤ A + 1 := fun b h0 h1 => by
    refine ⟨Int.ediv_nonneg (by omega) (by omega), ?_⟩
    have : (2 * b + n) / (2 * n) < A + 2 := Int.ediv_lt_of_lt_mul (by omega) (by
      have h2 : (A + 2) * 1 ≤ (A + 2) * n := Int.mul_le_mul_of_nonneg_left (by omega) (by omega)
      have h3 : (A + 2) * (2 * n) = 2 * ((A + 2) * n) := by rw [← Int.mul_assoc, Int.mul_comm (A + 2) 2, Int.mul_assoc]
      have h4 : (A + 2) * n = A * n + 2 * n := Int.add_mul _ _ _
      have h5 : A * 1 ≤ A * n := Int.mul_le_mul_of_nonneg_left (by omega) (by omega)
      omega)
    omega
  unfold dv
  by_cases c : a < 0
  · rw [if_pos c]
    have := key (-a) (by omega) (by omega)
    omega
  · rw [if_neg c]
    have := key a (by omega) (by omega)
    omega
theorem share_eq {a n : Int} (hn : 0 < n) (hn' : n ≤ 1099511627776) (ha : -1099511627776 ≤ a ∧ a ≤ 1099511627776) : allowance_share.f a n = some (dv a n) := by
  have key : ∀ b : Int, 0 ≤ b → b ≤ 1099511627776 → (bif (!(decide ((IntKind.wrap .i64 ((2 : Int) * n)) = (0 : Int)))) then (some (IntKind.wrap .i64 (Int.tdiv (IntKind.wrap .i64 ((IntKind.wrap .i64 ((2 : Int) * b)) + n)) (IntKind.wrap .i64 ((2 : Int) * n))))) else none) = some ((2 * b + n) / (2 * n)) := fun b h0 h1 => by
    have hb := dv_bd (a := b) (A := 1099511627776) hn (by omega)
    unfold dv at hb
    rw [if_neg (by omega)] at hb
    rw [i64_in (x := 2 * n) (by omega) (by omega), i64_in (x := 2 * b) (by omega) (by omega), i64_in (x := 2 * b + n) (by omega) (by omega), decide_eq_false (by omega), tdiv_nn (by omega), i64_in (by omega) (by omega)]
    rfl
  unfold allowance_share.f dv
  by_cases c : a < 0
  · have e : negI .i64 a = -a := by unfold negI; rw [i64_in (by omega) (by omega)]; omega
    rw [decide_eq_true c, condT, if_pos c, e]
    unfold allowance_share_in.f
    have hb := dv_bd (a := -a) (A := 1099511627776) hn (by omega)
    unfold dv at hb
    rw [if_neg (by omega)] at hb
    rw [decide_eq_false (by omega), condF, key (-a) (by omega) (by omega), bindO_s]
    unfold negI
    rw [i64_in (by omega) (by omega)]
    congr 1
    omega
  · rw [decide_eq_false c, condF, if_neg c, key a (by omega) (by omega)]
theorem round_eq {a n : Int} (hn : 0 < n) (hn' : n ≤ 1099511627776) (ha : -1099511627776 ≤ a ∧ a ≤ 1099511627776) : ref24_round.f a n = some (dv a n) := by
  unfold ref24_round.f dv
  by_cases c : a < 0
  · have hb := dv_bd (a := -a) (A := 1099511627776) hn (by omega)
    unfold dv at hb
    rw [if_neg (by omega)] at hb
    rw [decide_eq_true c, condT, if_pos c, i64_in (x := 2 * n) (by omega) (by omega), i64_in (x := -2 * a) (by omega) (by omega), i64_in (x := -2 * a + n) (by omega) (by omega), decide_eq_false (by omega), tdiv_nn (by omega)]
    show some _ = _
    rw [show -2 * a + n = 2 * -a + n by omega]
    unfold negI
    rw [i64_in (x := (2 * -a + n) / (2 * n)) (by omega) (by omega), i64_in (by omega) (by omega)]
    congr 1
    omega
  · have hb := dv_bd (a := a) (A := 1099511627776) hn (by omega)
    unfold dv at hb
    rw [if_neg c] at hb
    rw [decide_eq_false c, condF, if_neg c, i64_in (x := 2 * n) (by omega) (by omega), i64_in (x := 2 * a) (by omega) (by omega), i64_in (x := 2 * a + n) (by omega) (by omega), decide_eq_false (by omega), tdiv_nn (by omega), i64_in (by omega) (by omega)]
    rfl
end Go.Gm

/- Allowances: the sides of an outline with their shifts. -/
set_option linter.unusedVariables false
set_option linter.unusedSimpArgs false
namespace Go.Gm
open Go.Pi

abbrev SideT := Int × Int × Int × Int × Int × Int × Int
noncomputable def lenS (a b : Spot) : Int := rt ((b.1 - a.1) * (b.1 - a.1) + (b.2 - a.2) * (b.2 - a.2))
/-- The shift of a side. -/
noncomputable def shiftS (a b : Spot) (w s : Int) : Spot := (dv (s * w * (b.2 - a.2)) (lenS a b), dv (-(s * w) * (b.1 - a.1)) (lenS a b))
noncomputable def sideS (a b : Spot) (w s : Int) : SideT := (a.1, a.2, b.1, b.2, w, shiftS a b w s)
noncomputable def segsN (p : List Spot) (w s : Int) (m : Nat) : List SideT := (List.range m).map fun k => sideS (p.getD k (0, 0)) (p.getD (k + 1) (0, 0)) w s
noncomputable def segsTo (l : List ED) (ws : List Int) (s : Int) (i : Nat) : List SideT := (List.range i).flatMap fun j => segsN (l.getD j e0).2 (ws.getD j 0) s ((l.getD j e0).2.length - 1)
noncomputable def segs (l : List ED) (ws : List Int) (s : Int) : List SideT := segsTo l ws s l.length
theorem segsTo_succ (l : List ED) (ws : List Int) (s : Int) (i : Nat) : segsTo l ws s (i + 1) = segsTo l ws s i ++ segsN (l.getD i e0).2 (ws.getD i 0) s ((l.getD i e0).2.length - 1) := by
  unfold segsTo
  rw [List.range_succ, List.flatMap_append]
  simp
theorem segsN_succ (p : List Spot) (w s : Int) (m : Nat) : segsN p w s (m + 1) = segsN p w s m ++ [sideS (p.getD m (0, 0)) (p.getD (m + 1) (0, 0)) w s] := map_range_succ _ m
theorem segsN_len (p : List Spot) (w s : Int) (m : Nat) : (segsN p w s m).length = m := by unfold segsN; simp
theorem segsTo_len {l : List ED} (hf : Few l) (ws : List Int) (s : Int) : ∀ i, i ≤ l.length → (segsTo l ws s i).length ≤ i * 1000
  | 0, _ => by simp [segsTo]
  | i + 1, hi => by
    rw [segsTo_succ, List.length_append, segsN_len]
    have := segsTo_len hf ws s i (by omega)
    have := (hf.2 i (by omega)).1
    omega
/-- A side that the limits let in. -/
theorem side_nums {a b : Spot} (ha : Ins a) (hb : Ins b) (hab : a ≠ b) {w s : Int} (hw : 0 ≤ w ∧ w ≤ 500) (hs : s = 1 ∨ s = -1) :
    (-2097152 ≤ b.1 - a.1 ∧ b.1 - a.1 ≤ 2097152) ∧ (-2097152 ≤ b.2 - a.2 ∧ b.2 - a.2 ≤ 2097152) ∧ (0 < (b.1 - a.1) * (b.1 - a.1) + (b.2 - a.2) * (b.2 - a.2) ∧ (b.1 - a.1) * (b.1 - a.1) + (b.2 - a.2) * (b.2 - a.2) ≤ 8796093022208) ∧ (0 < lenS a b ∧ lenS a b ≤ 2965821) := by
  obtain ⟨⟨a1, a2⟩, a3, a4⟩ := ha
  obtain ⟨⟨b1, b2⟩, b3, b4⟩ := hb
  have h1 : -2097152 ≤ b.1 - a.1 ∧ b.1 - a.1 ≤ 2097152 := by omega
  have h2 : -2097152 ≤ b.2 - a.2 ∧ b.2 - a.2 ≤ 2097152 := by omega
  have m1 := mul_bd21 h1 h1
  have m2 := mul_bd21 h2 h2
  have p1 : 0 ≤ (b.1 - a.1) * (b.1 - a.1) := by
    rcases Int.le_total 0 (b.1 - a.1) with h | h
    · exact Int.mul_nonneg h h
    · exact Int.mul_nonneg_of_nonpos_of_nonpos h h
  have p2 : 0 ≤ (b.2 - a.2) * (b.2 - a.2) := by
    rcases Int.le_total 0 (b.2 - a.2) with h | h
    · exact Int.mul_nonneg h h
    · exact Int.mul_nonneg_of_nonpos_of_nonpos h h
  have hpos : 0 < (b.1 - a.1) * (b.1 - a.1) + (b.2 - a.2) * (b.2 - a.2) := by
    refine Int.not_le.1 fun h => hab ?_
    have e1 : (b.1 - a.1) * (b.1 - a.1) = 0 := by omega
    have e2 : (b.2 - a.2) * (b.2 - a.2) = 0 := by omega
    rcases Int.mul_eq_zero.1 e1 with e1 | e1 <;> rcases Int.mul_eq_zero.1 e2 with e2 | e2 <;> exact Prod.ext (by omega) (by omega)
  refine ⟨h1, h2, ⟨hpos, by omega⟩, ?_⟩
  have hr := rt_spec (n := (b.1 - a.1) * (b.1 - a.1) + (b.2 - a.2) * (b.2 - a.2)) (by omega) (by omega)
  unfold lenS
  obtain ⟨r0, r1, r2⟩ := hr
  constructor
  · refine Int.not_le.1 fun h => ?_
    have : rt ((b.1 - a.1) * (b.1 - a.1) + (b.2 - a.2) * (b.2 - a.2)) = 0 := by omega
    rw [this] at r2
    omega
  · refine Int.not_lt.1 fun h => ?_
    have := Int.mul_le_mul (show (2965822 : Int) ≤ _ from h) h (by decide) r0
    omega
theorem sw_bd {w s d : Int} (hw : 0 ≤ w ∧ w ≤ 500) (hs : s = 1 ∨ s = -1) (hd : -2097152 ≤ d ∧ d ≤ 2097152) : (-500 ≤ s * w ∧ s * w ≤ 500) ∧ (-1048576000 ≤ s * w * d ∧ s * w * d ≤ 1048576000) ∧ (-1048576000 ≤ -(s * w) * d ∧ -(s * w) * d ≤ 1048576000) ∧ (-1048576000 ≤ w * d ∧ w * d ≤ 1048576000) := by
  have h1 : -500 ≤ s * w ∧ s * w ≤ 500 := by rcases hs with rfl | rfl <;> omega
  have m1 := mul_bd (A := 500) (B := 2097152) h1 hd
  have m2 := mul_bd (x := -(s * w)) (A := 500) (B := 2097152) (by omega) hd
  have m3 := mul_bd (x := w) (A := 500) (B := 2097152) (by omega) hd
  omega
/-- The widths are within the limits. -/
def wOk (ws : List Int) : Prop := ∀ w ∈ ws, 0 ≤ w ∧ w ≤ 500
theorem wOk_get {ws : List Int} (h : wOk ws) (i : Nat) : 0 ≤ ws.getD i 0 ∧ ws.getD i 0 ≤ 500 := by
  by_cases hi : i < ws.length
  · rw [getD_lt 0 ws hi]
    exact h _ (List.getElem_mem hi)
  · rw [List.getD_eq_getElem?_getD, List.getElem?_eq_none (by omega)]
    decide
section
variable {l : List ED} {ws : List Int} (hf : Few l) (hws : ws.length = l.length) (hok : wOk ws) {s : Int} (hs : s = 1 ∨ s = -1) (hline : ∀ i, i < l.length → lineE (l.getD i e0).2 = 0)
include hf hws hok hs hline
theorem sides_in {R : (List SideT) × Int × Int} (i : Nat) (hi : i < l.length) (nm : ByteArray) (ih : Ev (fun k => allowance_sides.l1 k ws s l (l.length : Int) ((i + 1 : Nat) : Int) (segsTo l ws s (i + 1))) R) :
    Ev (fun k => allowance_sides.l2 k ws s (i : Int) 1 l (l.length : Int) (i : Int) (segsTo l ws s i) nm (l.getD i e0).2) R := by
  obtain ⟨h40, h2, hin, hne⟩ := lineE_ok.1 (hline i hi)
  have hl := hf.1
  have h := down (Q := fun m => Ev (fun k => allowance_sides.l2 k ws s (i : Int) ((m + 1 : Nat) : Int) l (l.length : Int) (i : Int) (segsTo l ws s i ++ segsN (l.getD i e0).2 (ws.getD i 0) s m) nm (l.getD i e0).2) R) (n := (l.getD i e0).2.length - 1) ?_ ?_
  · have e : segsN (l.getD i e0).2 (ws.getD i 0) s 0 = [] := rfl
    rw [e, List.append_nil] at h
    exact h
  · refine Ev.step ?_
    simp only [allowance_sides.l2]
    rw [wadd1 (i := i) (by omega), ← segsTo_succ]
    exact Ev.cf (decide_eq_false (by omega)) ih
  · intro m hm q
    refine Ev.step ?_
    simp only [allowance_sides.l2]
    have w1 : IntKind.i64.wrap (((m + 1 : Nat) : Int) - 1) = (m : Int) := by rw [i64_in (by omega) (by omega)]; omega
    have w2 : IntKind.i64.wrap (((m + 1 : Nat) : Int) + 1) = ((m + 1 + 1 : Nat) : Int) := wadd1 (by omega)
    have ga : gd ((0 : Int), (0 : Int)) (l.getD i e0).2 (m : Int) = (l.getD i e0).2.getD m (0, 0) := rfl
    have gb : gd ((0 : Int), (0 : Int)) (l.getD i e0).2 ((m + 1 : Nat) : Int) = (l.getD i e0).2.getD (m + 1) (0, 0) := rfl
    have gw : gd (0 : Int) ws (i : Int) = ws.getD i 0 := rfl
    rw [w1, w2, ga, gb, gw]
    have ha : Ins ((l.getD i e0).2.getD m (0, 0)) := (all_getD (0, 0) _ Ins).1 hin m (by omega)
    have hb : Ins ((l.getD i e0).2.getD (m + 1) (0, 0)) := (all_getD (0, 0) _ Ins).1 hin (m + 1) (by omega)
    have hab : (l.getD i e0).2.getD m (0, 0) ≠ (l.getD i e0).2.getD (m + 1) (0, 0) := fun e => hne (m + 1) (by omega) (by omega) e.symm
    have hw := wOk_get hok i
    rw [segsN_succ, ← List.append_assoc] at q
    generalize (l.getD i e0).2.getD m (0, 0) = a at ha hab q ⊢
    generalize (l.getD i e0).2.getD (m + 1) (0, 0) = b at hb hab q ⊢
    generalize ws.getD i 0 = w at hw q ⊢
    obtain ⟨d1, d2, dn, dl⟩ := side_nums ha hb hab hw hs
    obtain ⟨s1, s2, s3, s4⟩ := sw_bd hw hs d1
    obtain ⟨_, t2, t3, t4⟩ := sw_bd hw hs d2
    have m1 := mul_bd21 d1 d1
    have m2 := mul_bd21 d2 d2
    have v1 : IntKind.i64.wrap (b.1 - a.1) = b.1 - a.1 := i64_in (by omega) (by omega)
    have v2 : IntKind.i64.wrap (b.2 - a.2) = b.2 - a.2 := i64_in (by omega) (by omega)
    have v3 : IntKind.i64.wrap ((b.1 - a.1) * (b.1 - a.1)) = (b.1 - a.1) * (b.1 - a.1) := i64_in (by omega) (by omega)
    have v4 : IntKind.i64.wrap ((b.2 - a.2) * (b.2 - a.2)) = (b.2 - a.2) * (b.2 - a.2) := i64_in (by omega) (by omega)
    have v5 : IntKind.i64.wrap ((b.1 - a.1) * (b.1 - a.1) + (b.2 - a.2) * (b.2 - a.2)) = (b.1 - a.1) * (b.1 - a.1) + (b.2 - a.2) * (b.2 - a.2) := i64_in (by omega) (by omega)
    have v6 : IntKind.i64.wrap (s * w) = s * w := i64_in (by omega) (by omega)
    have v7 : IntKind.i64.wrap (s * w * (b.2 - a.2)) = s * w * (b.2 - a.2) := i64_in (by omega) (by omega)
    have v8 : negI .i64 (s * w) = -(s * w) := by unfold negI; rw [i64_in (by omega) (by omega)]; omega
    have v9 : IntKind.i64.wrap (-(s * w) * (b.1 - a.1)) = -(s * w) * (b.1 - a.1) := i64_in (by omega) (by omega)
    rw [v1, v2, v3, v4, v5, v6, v7, v8, v9]
    refine Ev.ct (dlt (by omega)) (Ev.ct (inbN (by omega)) (Ev.ct (inbN (by omega)) (Ev.bind (root1_ev _ (by omega) (by omega)) (Ev.ct (inbN (by omega)) (Ev.ct (inbN (by omega)) (Ev.bs (share_eq dl.1 (by have := dl.2; unfold lenS at this; omega) (by omega)) (Ev.bs (share_eq dl.1 (by have := dl.2; unfold lenS at this; omega) (by omega)) (Ev.ct (fits_ok ?_) q))))))))
    rw [List.length_append, segsN_len]
    have := segsTo_len hf ws s i (by omega)
    show ((segsTo l ws s i).length + m + 1) * 56 ≤ _
    omega
theorem sides_out : Ev (fun k => allowance_sides.l1 k ws s l (l.length : Int) 0 []) (segs l ws s, s, 0) := by
  have hl := hf.1
  refine down (Q := fun i => Ev (fun k => allowance_sides.l1 k ws s l (l.length : Int) (i : Int) (segsTo l ws s i)) (segs l ws s, s, 0)) (n := l.length) ?_ ?_
  · refine Ev.step ?_
    simp only [allowance_sides.l1]
    exact Ev.cf dge (Ev.pure _)
  · intro i hi q
    refine Ev.step ?_
    simp only [allowance_sides.l1]
    exact Ev.ct (dlt hi) (Ev.ct (inbN hi) (sides_in hf hws hok hs hline i hi _ q))
end
/-- The side on which the outside lies. -/
noncomputable def signO (l : List ED) : Int := if area2 (verts l) < 0 then -1 else 1
theorem signO_or (l : List ED) : signO l = 1 ∨ signO l = -1 := by unfold signO; split <;> omega
open Classical in
/-- The first error of an outline with widths. -/
noncomputable def sidesE (l : List ED) (ws : List Int) : Int := if outE l = 0 then (if ws.length = l.length then (if wOk ws then 0 else 3) else 1) else outE l
theorem sidesE_ok {l : List ED} {ws : List Int} : sidesE l ws = 0 ↔ Out l ∧ ws.length = l.length ∧ wOk ws := by
  unfold sidesE
  by_cases h1 : outE l = 0
  · rw [if_pos h1]
    by_cases h2 : ws.length = l.length
    · rw [if_pos h2]
      by_cases h3 : wOk ws
      · rw [if_pos h3]
        exact ⟨fun _ => ⟨outE_ok.1 h1, h2, h3⟩, fun _ => rfl⟩
      · rw [if_neg h3]
        exact ⟨fun h => absurd h (by decide), fun h => absurd h.2.2 h3⟩
    · rw [if_neg h2]
      exact ⟨fun h => absurd h (by decide), fun h => absurd h.2.1 h2⟩
  · rw [if_neg h1]
    exact ⟨fun h => absurd h h1, fun h => absurd (outE_ok.2 h.1) h1⟩
theorem sides24_ev (l : List ED) (ws : List Int) (hf : Few l) (hw : ws.length ≤ 1000000) : Ev (fun k => allowance_sides.f k l ws) (if sidesE l ws = 0 then (segs l ws (signO l), signO l, 0) else ([], 0, sidesE l ws)) := by
  unfold allowance_sides.f
  refine Ev.bind (Out_ev l hf) ?_
  by_cases h1 : ¬ outE l = 0
  · have e : sidesE l ws = outE l := by unfold sidesE; rw [if_neg h1]
    rw [e, if_neg h1]
    exact Ev.ct (bne_iff_ne.2 h1) (Ev.pure _)
  have h1 := Classical.not_not.1 h1
  refine Ev.cf (by rw [h1]; rfl) ?_
  by_cases h2 : ¬ ws.length = l.length
  · have e : sidesE l ws = 1 := by unfold sidesE; rw [if_pos h1, if_neg h2]
    rw [e]
    exact Ev.ct (bne_iff_ne.2 (by omega)) (Ev.pure _)
  have h2 := Classical.not_not.1 h2
  refine Ev.cf (by rw [bne_eq_false_iff_eq]; omega) ?_
  have ho := outE_ok.1 h1
  refine search (Q := fun i => Ev (fun k => allowance_sides.l0 k l ws ws (ws.length : Int) (i : Int)) _) (bad := fun i => ¬ (0 ≤ ws.getD i 0 ∧ ws.getD i 0 ≤ 500)) (n := ws.length) ?_ ?_ ?_
  · intro hn
    have h3 : wOk ws := (all_getD 0 ws fun w => 0 ≤ w ∧ w ≤ 500).2 fun i hi => Classical.not_not.1 (hn i hi)
    have e : sidesE l ws = 0 := sidesE_ok.2 ⟨ho, h2, h3⟩
    rw [if_pos e]
    refine Ev.step ?_
    simp only [allowance_sides.l0]
    have hp := Poly_ev l hf
    rw [if_pos h1] at hp
    refine Ev.cf dge (Ev.bind hp (Ev.cf rfl ?_))
    have ha := Area2_ev (verts l)
    rw [if_pos ho.poly] at ha
    refine Ev.bind ha ?_
    have go := fun s hs => sides_out (s := s) hf h2 h3 hs ho.line
    by_cases c : area2 (verts l) < 0
    · have es : signO l = -1 := by unfold signO; rw [if_pos c]
      rw [es]
      exact Ev.ct (decide_eq_true c) (go _ (.inr rfl))
    · have es : signO l = 1 := by unfold signO; rw [if_neg c]
      rw [es]
      exact Ev.cf (decide_eq_false c) (go _ (.inl rfl))
  all_goals
    intro i hi _ hb
    have gw : gd (0 : Int) ws (i : Int) = ws.getD i 0 := rfl
  · have h3 : ¬ wOk ws := fun h => hb (wOk_get h i)
    have e : sidesE l ws = 3 := by unfold sidesE; rw [if_pos h1, if_pos h2, if_neg h3]
    rw [e]
    refine Ev.step ?_
    simp only [allowance_sides.l0, gw]
    refine Ev.ct (dlt hi) (Ev.ct (inbN hi) ?_)
    by_cases c : ws.getD i 0 < 0
    · exact Ev.ct (decide_eq_true c) (Ev.pure _)
    · exact Ev.cf (decide_eq_false c) (Ev.ct (decide_eq_true (by omega)) (Ev.pure _))
  · intro q
    have hb := Classical.not_not.1 hb
    refine Ev.step ?_
    simp only [allowance_sides.l0, gw]
    rw [wadd1 (by omega)]
    exact Ev.ct (dlt hi) (Ev.ct (inbN hi) (Ev.cf (decide_eq_false (by omega)) (Ev.cf (decide_eq_false (by omega)) q)))
theorem Shifts_ev (l : List ED) (ws : List Int) (hf : Few l) (hw : ws.length ≤ 1000000) : Ev (fun k => allowance_Shifts.f k l ws) (if sidesE l ws = 0 then ((segs l ws (signO l)).map fun x => x.2.2.2.2.2, 0) else ([], sidesE l ws)) := by
  unfold allowance_Shifts.f
  refine Ev.bind (sides24_ev l ws hf hw) ?_
  by_cases h : sidesE l ws = 0
  · rw [if_pos h, if_pos h]
    refine Ev.cf rfl ?_
    have hlen : (segs l ws (signO l)).length ≤ 1000000 := by
      have := segsTo_len hf ws (signO l) l.length (Nat.le_refl _)
      have := hf.1
      unfold segs
      omega
    generalize segs l ws (signO l) = S at hlen ⊢
    have := down (Q := fun i => Ev (fun k => allowance_Shifts.l0 k (S.length : Int) (i : Int) ((S.take i).map fun x => x.2.2.2.2.2) S) (S.map fun x => x.2.2.2.2.2, 0)) (n := S.length) ?_ ?_
    · exact this
    · refine Ev.step ?_
      simp only [allowance_Shifts.l0]
      refine Ev.cf dge (Ev.some ?_)
      rw [List.take_length]
    · intro i hi q
      refine Ev.step ?_
      simp only [allowance_Shifts.l0]
      rw [take_succ' S i hi, List.map_append] at q
      rw [wadd1 (by omega), gd_get' _ S i hi]
      refine Ev.ct (dlt hi) (Ev.ct (inbN hi) (Ev.ct (fits_ok ?_) q))
      rw [List.length_map, List.length_take]
      show (_ + 1) * 16 ≤ _
      omega
  · rw [if_neg h, if_neg h]
    exact Ev.ct (bne_iff_ne.2 h) (Ev.pure _)
end Go.Gm

/- Allowances: the reference's sides. -/
set_option linter.unusedVariables false
set_option linter.unusedSimpArgs false
namespace Go.Gm
open Go.Pi

theorem shift_ev {a b : Spot} (ha : Ins a) (hb : Ins b) (hab : a ≠ b) {w s : Int} (hw : 0 ≤ w ∧ w ≤ 500) (hs : s = 1 ∨ s = -1) : Ev (fun k => ref24_shift.f k a b w s) (shiftS a b w s) := by
  unfold ref24_shift.f
  obtain ⟨d1, d2, dn, dl⟩ := side_nums ha hb hab hw hs
  obtain ⟨s1, s2, s3, s4⟩ := sw_bd hw hs d1
  obtain ⟨_, t2, t3, t4⟩ := sw_bd hw hs d2
  have m1 := mul_bd21 d1 d1
  have m2 := mul_bd21 d2 d2
  have v1 : IntKind.i64.wrap (b.1 - a.1) = b.1 - a.1 := i64_in (by omega) (by omega)
  have v2 : IntKind.i64.wrap (b.2 - a.2) = b.2 - a.2 := i64_in (by omega) (by omega)
  have v3 : IntKind.i64.wrap ((b.1 - a.1) * (b.1 - a.1)) = (b.1 - a.1) * (b.1 - a.1) := i64_in (by omega) (by omega)
  have v4 : IntKind.i64.wrap ((b.2 - a.2) * (b.2 - a.2)) = (b.2 - a.2) * (b.2 - a.2) := i64_in (by omega) (by omega)
  have v5 : IntKind.i64.wrap ((b.1 - a.1) * (b.1 - a.1) + (b.2 - a.2) * (b.2 - a.2)) = (b.1 - a.1) * (b.1 - a.1) + (b.2 - a.2) * (b.2 - a.2) := i64_in (by omega) (by omega)
  have v6 : IntKind.i64.wrap (w * (b.2 - a.2)) = w * (b.2 - a.2) := i64_in (by omega) (by omega)
  have v7 : IntKind.i64.wrap (w * (b.1 - a.1)) = w * (b.1 - a.1) := i64_in (by omega) (by omega)
  have v8 : negI .i64 s = -s := by unfold negI; rw [i64_in (by omega) (by omega)]; omega
  simp only [v1, v2, v3, v4, v5, v6, v7, v8]
  have hl : lenS a b ≤ 1099511627776 := by omega
  have hp := dl.1
  refine Ev.bind (root2_ev _ (by omega) (by omega)) (Ev.bs (round_eq hp hl (by omega)) (Ev.bs (round_eq hp hl (by omega)) (Ev.some ?_)))
  have b1 := dv_bd (A := 1048576000) hp t4
  have b2 := dv_bd (A := 1048576000) hp s4
  show (IntKind.i64.wrap (s * dv (w * (b.2 - a.2)) (lenS a b)), IntKind.i64.wrap (-s * dv (w * (b.1 - a.1)) (lenS a b))) = _
  unfold shiftS
  have e1 : IntKind.i64.wrap (s * dv (w * (b.2 - a.2)) (lenS a b)) = dv (s * w * (b.2 - a.2)) (lenS a b) := by
    rcases hs with rfl | rfl
    · rw [Int.one_mul, Int.one_mul, i64_in (by omega) (by omega)]
    · rw [show (-1 : Int) * w * (b.2 - a.2) = -(w * (b.2 - a.2)) by rw [Int.mul_assoc, Int.neg_mul, Int.one_mul], dv_neg hp, i64_in (by omega) (by omega)]
      omega
  have e2 : IntKind.i64.wrap (-s * dv (w * (b.1 - a.1)) (lenS a b)) = dv (-(s * w) * (b.1 - a.1)) (lenS a b) := by
    rcases hs with rfl | rfl
    · rw [Int.one_mul, show -w * (b.1 - a.1) = -(w * (b.1 - a.1)) by rw [Int.neg_mul], dv_neg hp, i64_in (by omega) (by omega)]
      omega
    · rw [show -(-1 * w) * (b.1 - a.1) = w * (b.1 - a.1) by rw [show -(-1 * w) = w by omega], i64_in (by omega) (by omega)]
      omega
  rw [e1, e2]
section
variable {l : List ED} {ws : List Int} (hf : Few l) (hws : ws.length = l.length) (hok : wOk ws) {s : Int} (hs : s = 1 ∨ s = -1) (hline : ∀ i, i < l.length → lineE (l.getD i e0).2 = 0)
include hf hws hok hs hline
theorem sides2_in {R : (List SideT) × Int} (i : Nat) (hi : i < l.length) (ih : Ev (fun k => ref24_Segments.l1 k l ws s ((i + 1 : Nat) : Int) (segsTo l ws s (i + 1))) R) :
    Ev (fun k => ref24_Segments.l2 k l ws s (i : Int) 0 (segsTo l ws s i)) R := by
  obtain ⟨h40, h2, hin, hne⟩ := lineE_ok.1 (hline i hi)
  have hl := hf.1
  have hx : gd ((⟨#[]⟩ : ByteArray), []) l (i : Int) = l.getD i e0 := rfl
  have h := down (Q := fun m => Ev (fun k => ref24_Segments.l2 k l ws s (i : Int) ((m : Nat) : Int) (segsTo l ws s i ++ segsN (l.getD i e0).2 (ws.getD i 0) s m)) R) (n := (l.getD i e0).2.length - 1) ?_ ?_
  · have e : segsN (l.getD i e0).2 (ws.getD i 0) s 0 = [] := rfl
    rw [e, List.append_nil] at h
    exact h
  · refine Ev.step ?_
    simp only [ref24_Segments.l2]
    rw [wadd1 (i := i) (by omega), ← segsTo_succ, hx, wadd1 (by omega)]
    exact Ev.ct (inbN hi) (Ev.cf (decide_eq_false (by omega)) ih)
  · intro m hm q
    refine Ev.step ?_
    simp only [ref24_Segments.l2]
    have w2 : IntKind.i64.wrap ((m : Int) + 1) = ((m + 1 : Nat) : Int) := wadd1 (by omega)
    have ga : gd ((0 : Int), (0 : Int)) (l.getD i e0).2 (m : Int) = (l.getD i e0).2.getD m (0, 0) := rfl
    have gb : gd ((0 : Int), (0 : Int)) (l.getD i e0).2 ((m + 1 : Nat) : Int) = (l.getD i e0).2.getD (m + 1) (0, 0) := rfl
    have gw : gd (0 : Int) ws (i : Int) = ws.getD i 0 := rfl
    rw [hx, w2, ga, gb, gw]
    have ha : Ins ((l.getD i e0).2.getD m (0, 0)) := (all_getD (0, 0) _ Ins).1 hin m (by omega)
    have hb : Ins ((l.getD i e0).2.getD (m + 1) (0, 0)) := (all_getD (0, 0) _ Ins).1 hin (m + 1) (by omega)
    have hab : (l.getD i e0).2.getD m (0, 0) ≠ (l.getD i e0).2.getD (m + 1) (0, 0) := fun e => hne (m + 1) (by omega) (by omega) e.symm
    have hw := wOk_get hok i
    rw [segsN_succ, ← List.append_assoc] at q
    have i1 : inb (i : Int) l.length = true := inbN hi
    have i2 : inb (i : Int) ws.length = true := inbN (by omega)
    have i3 : inb (m : Int) (l.getD i e0).2.length = true := inbN (by omega)
    have i4 : inb ((m + 1 : Nat) : Int) (l.getD i e0).2.length = true := inbN (by omega)
    refine Ev.ct i1 (Ev.ct (dlt (by omega)) (Ev.ct i1 (Ev.ct i3 (Ev.ct i1 (Ev.ct i4 (Ev.ct i2 (Ev.ct i2 (Ev.bind (shift_ev ha hb hab hw hs) (Ev.ct (fits_ok ?_) q)))))))))
    rw [List.length_append, segsN_len]
    have := segsTo_len hf ws s i (by omega)
    show ((segsTo l ws s i).length + m + 1) * 56 ≤ _
    omega
theorem sides2_out : Ev (fun k => ref24_Segments.l1 k l ws s 0 []) (segs l ws s, 0) := by
  have hl := hf.1
  refine down (Q := fun i => Ev (fun k => ref24_Segments.l1 k l ws s (i : Int) (segsTo l ws s i)) (segs l ws s, 0)) (n := l.length) ?_ ?_
  · refine Ev.step ?_
    simp only [ref24_Segments.l1]
    exact Ev.cf dge (Ev.pure _)
  · intro i hi q
    refine Ev.step ?_
    simp only [ref24_Segments.l1]
    exact Ev.ct (dlt hi) (sides2_in hf hws hok hs hline i hi q)
end
theorem Segments_ev (l : List ED) (ws : List Int) (hf : Few l) (hw : ws.length ≤ 1000000) : Ev (fun k => ref24_Segments.f k l ws) (if sidesE l ws = 0 then (segs l ws (signO l), 0) else ([], sidesE l ws)) := by
  unfold ref24_Segments.f
  refine Ev.bind (Out2_ev l hf) ?_
  by_cases h1 : ¬ outE l = 0
  · have e : sidesE l ws = outE l := by unfold sidesE; rw [if_neg h1]
    rw [e, if_neg h1]
    exact Ev.ct (bne_iff_ne.2 h1) (Ev.pure _)
  have h1 := Classical.not_not.1 h1
  refine Ev.cf (by rw [h1]; rfl) ?_
  by_cases h2 : ¬ ws.length = l.length
  · have e : sidesE l ws = 1 := by unfold sidesE; rw [if_pos h1, if_neg h2]
    rw [e]
    exact Ev.ct (bne_iff_ne.2 (by omega)) (Ev.pure _)
  have h2 := Classical.not_not.1 h2
  refine Ev.cf (by rw [bne_eq_false_iff_eq]; omega) ?_
  have ho := outE_ok.1 h1
  refine search (Q := fun i => Ev (fun k => ref24_Segments.l0 k l ws (i : Int)) _) (bad := fun i => ¬ (0 ≤ ws.getD i 0 ∧ ws.getD i 0 ≤ 500)) (n := ws.length) ?_ ?_ ?_
  · intro hn
    have h3 : wOk ws := (all_getD 0 ws fun w => 0 ≤ w ∧ w ≤ 500).2 fun i hi => Classical.not_not.1 (hn i hi)
    have e : sidesE l ws = 0 := sidesE_ok.2 ⟨ho, h2, h3⟩
    rw [if_pos e]
    refine Ev.step ?_
    simp only [ref24_Segments.l0]
    have hp := Poly2_ev l hf
    rw [if_pos h1] at hp
    have hor : Ev (fun k => ref24_orientation.f k (verts l)) (signO l) := by
      unfold ref24_orientation.f
      have ha := Area22_ev (verts l)
      rw [if_pos ho.poly] at ha
      refine Ev.bind ha ?_
      by_cases c : area2 (verts l) < 0
      · have es : signO l = -1 := by unfold signO; rw [if_pos c]
        rw [es]
        exact Ev.ct (decide_eq_true c) (Ev.pure _)
      · have es : signO l = 1 := by unfold signO; rw [if_neg c]
        rw [es]
        exact Ev.cf (decide_eq_false c) (Ev.pure _)
    exact Ev.cf dge (Ev.bind hp (Ev.bind hor (sides2_out hf h2 h3 (signO_or l) ho.line)))
  all_goals
    intro i hi _ hb
    have gw : gd (0 : Int) ws (i : Int) = ws.getD i 0 := rfl
  · have h3 : ¬ wOk ws := fun h => hb (wOk_get h i)
    have e : sidesE l ws = 3 := by unfold sidesE; rw [if_pos h1, if_pos h2, if_neg h3]
    rw [e]
    refine Ev.step ?_
    simp only [ref24_Segments.l0, gw]
    refine Ev.ct (dlt hi) (Ev.ct (inbN hi) ?_)
    by_cases c : ws.getD i 0 < 0
    · exact Ev.ct (decide_eq_true c) (Ev.pure _)
    · exact Ev.cf (decide_eq_false c) (Ev.ct (inbN hi) (Ev.ct (decide_eq_true (by omega)) (Ev.pure _)))
  · intro q
    have hb := Classical.not_not.1 hb
    refine Ev.step ?_
    simp only [ref24_Segments.l0, gw]
    rw [wadd1 (by omega)]
    exact Ev.ct (dlt hi) (Ev.ct (inbN hi) (Ev.cf (decide_eq_false (by omega)) (Ev.ct (inbN hi) (Ev.cf (decide_eq_false (by omega)) q))))
theorem Shifts2_ev (l : List ED) (ws : List Int) (hf : Few l) (hw : ws.length ≤ 1000000) : Ev (fun k => ref24_Shifts.f k l ws) (if sidesE l ws = 0 then ((segs l ws (signO l)).map fun x => x.2.2.2.2.2, 0) else ([], sidesE l ws)) := by
  unfold ref24_Shifts.f
  refine Ev.bind (Segments_ev l ws hf hw) ?_
  by_cases h : sidesE l ws = 0
  · rw [if_pos h, if_pos h]
    refine Ev.cf rfl ?_
    have hlen : (segs l ws (signO l)).length ≤ 1000000 := by
      have := segsTo_len hf ws (signO l) l.length (Nat.le_refl _)
      have := hf.1
      unfold segs
      omega
    generalize segs l ws (signO l) = S at hlen ⊢
    have := down (Q := fun i => Ev (fun k => ref24_Shifts.l0 k (i : Int) S ((S.take i).map fun x => x.2.2.2.2.2)) (S.map fun x => x.2.2.2.2.2, 0)) (n := S.length) ?_ ?_
    · exact this
    · refine Ev.step ?_
      simp only [ref24_Shifts.l0]
      refine Ev.cf dge (Ev.some ?_)
      rw [List.take_length]
    · intro i hi q
      refine Ev.step ?_
      simp only [ref24_Shifts.l0]
      rw [take_succ' S i hi, List.map_append] at q
      rw [wadd1 (by omega), gd_get' _ S i hi]
      refine Ev.ct (dlt hi) (Ev.ct (inbN hi) (Ev.ct (fits_ok ?_) q))
      rw [List.length_map, List.length_take]
      show (_ + 1) * 16 ≤ _
      omega
  · rw [if_neg h, if_neg h]
    exact Ev.ct (bne_iff_ne.2 h) (Ev.pure _)
end Go.Gm

/- Allowances: what a law takes in, and the example. -/
set_option linter.unusedVariables false
set_option linter.unusedSimpArgs false
namespace Go.Gm
open Go.Pi

theorem min_eq (a b : Int) : List.foldl zmin a [b] = min a b := by show zmin a b = _; unfold zmin; split <;> omega
theorem max_eq (a b : Int) : List.foldl zmax a [b] = max a b := by show zmax a b = _; unfold zmax; split <;> omega
theorem Vertices_ev (l : List ED) (hl : l.length ≤ 1000) (hz : ∀ i, i < l.length → (l.getD i e0).2.length ≤ 140737488351232) : ∃ r : Int, Ev (fun k => ref24_Vertices.f k l 60) r ∧ (r ≤ 60 → ∀ i, i < l.length → (l.getD i e0).2.length ≤ 60) := by
  unfold ref24_Vertices.f
  have key := down (Q := fun i => ∀ n : Int, 0 ≤ n → n ≤ 61 → ∃ r : Int, Ev (fun k => ref24_Vertices.l0 k l 60 n (i : Int)) r ∧ n ≤ r ∧ (r ≤ 60 → ∀ j, i ≤ j → j < l.length → (l.getD j e0).2.length ≤ 60)) (n := l.length) ?_ ?_
  · obtain ⟨r, h1, h2, h3⟩ := key 0 (by decide) (by decide)
    exact ⟨r, h1, fun h i hi => h3 h i (Nat.zero_le i) hi⟩
  · intro n h0 h1
    refine ⟨n, ?_, Int.le_refl _, fun _ j h2 h3 => by omega⟩
    refine Ev.step ?_
    simp only [ref24_Vertices.l0]
    exact Ev.cf dge (Ev.pure _)
  · intro i hi ih n h0 h1
    by_cases c : n ≤ 60
    · have hx : gd ((⟨#[]⟩ : ByteArray), []) l (i : Int) = l.getD i e0 := rfl
      have hL := hz i hi
      obtain ⟨r, g1, g2, g3⟩ := ih (min (n + ((l.getD i e0).2.length : Int) + 1) 61) (by omega) (by omega)
      refine ⟨r, ?_, by omega, fun hr j h2 h3 => ?_⟩
      · refine Ev.step ?_
        simp only [ref24_Vertices.l0, hx]
        rw [wadd1 (by omega), i64_in (x := n + ((l.getD i e0).2.length : Int)) (by omega) (by omega), i64_in (x := n + ((l.getD i e0).2.length : Int) + 1) (by omega) (by omega), show IntKind.i64.wrap (60 + 1) = 61 by decide, min_eq]
        exact Ev.ct (dlt hi) (Ev.ct (decide_eq_true c) (Ev.ct (inbN hi) g1))
      · by_cases e : j = i
        · subst e; omega
        · exact g3 hr j (by omega) h3
    · refine ⟨n, ?_, Int.le_refl _, fun hr => by omega⟩
      refine Ev.step ?_
      simp only [ref24_Vertices.l0]
      exact Ev.ct (dlt hi) (Ev.cf (decide_eq_false c) (Ev.pure _))
/-- What the guard of the laws of the chapter says. -/
structure Small24 (l : List ED) (ws : List Int) : Prop where
  few : Few l
  most : l.length ≤ 30
  ws : ws.length ≤ 20
  line : ∀ i, i < l.length → (l.getD i e0).2.length ≤ 60
theorem small24_ev (l : List ED) (ws : List Int) (hz : ∀ i, i < l.length → (l.getD i e0).2.length ≤ 140737488351232) : ∃ b : Bool, Ev (fun k => law24_small.f k l ws) b ∧ (b = true → Small24 l ws) := by
  unfold law24_small.f
  by_cases c1 : l.length > 30
  · exact ⟨false, Ev.ct (decide_eq_true (by omega)) (Ev.pure _), fun h => by cases h⟩
  by_cases c2 : ws.length > 20
  · exact ⟨false, Ev.cf (decide_eq_false (by omega)) (Ev.ct (decide_eq_true (by omega)) (Ev.pure _)), fun h => by cases h⟩
  obtain ⟨r, h1, h2⟩ := Vertices_ev l (by omega) hz
  by_cases c3 : r > 60
  · exact ⟨false, Ev.cf (decide_eq_false (by omega)) (Ev.cf (decide_eq_false (by omega)) (Ev.bind h1 (Ev.ct (decide_eq_true c3) (Ev.pure _)))), fun h => by cases h⟩
  have h3 := h2 (by omega)
  by_cases c4 : ∃ i, i < l.length ∧ 100 < (l.getD i e0).1.size
  · refine ⟨false, Ev.cf (decide_eq_false (by omega)) (Ev.cf (decide_eq_false (by omega)) (Ev.bind h1 (Ev.cf (decide_eq_false c3) ?_))), fun h => by cases h⟩
    obtain ⟨i0, hi0, hb0⟩ := c4
    refine search (Q := fun i => Ev (fun k => law24_small.l0 k l (l.length : Int) (i : Int)) false) (bad := fun i => 100 < (l.getD i e0).1.size) (n := l.length) (fun hn => absurd hb0 (hn i0 hi0)) (fun i hi _ hb => ?_) (fun i hi _ hb q => ?_)
    all_goals
      have hx : gd ((⟨#[]⟩ : ByteArray), []) l (i : Int) = l.getD i e0 := rfl
      refine Ev.step ?_
      simp only [law24_small.l0, hx]
      rw [wadd1 (by omega)]
      refine Ev.ct (dlt hi) (Ev.ct (inbN hi) ?_)
    · exact Ev.ct (decide_eq_true (by omega)) (Ev.pure _)
    · exact Ev.cf (decide_eq_false (by omega)) q
  · have h4 : ∀ i, i < l.length → (l.getD i e0).1.size ≤ 100 := fun i hi => Nat.not_lt.1 fun h => c4 ⟨i, hi, h⟩
    refine ⟨true, Ev.cf (decide_eq_false (by omega)) (Ev.cf (decide_eq_false (by omega)) (Ev.bind h1 (Ev.cf (decide_eq_false c3) ?_))), fun _ => ⟨⟨by omega, fun i hi => ⟨by have := h3 i hi; omega, by have := h4 i hi; omega⟩⟩, by omega, by omega, h3⟩⟩
    refine down (Q := fun i => Ev (fun k => law24_small.l0 k l (l.length : Int) (i : Int)) true) (n := l.length) ?_ ?_
    · refine Ev.step ?_
      simp only [law24_small.l0]
      exact Ev.cf dge (Ev.pure _)
    · intro i hi q
      have hx : gd ((⟨#[]⟩ : ByteArray), []) l (i : Int) = l.getD i e0 := rfl
      refine Ev.step ?_
      simp only [law24_small.l0, hx]
      rw [wadd1 (by omega)]
      have := h4 i hi
      exact Ev.ct (dlt hi) (Ev.ct (inbN hi) (Ev.cf (decide_eq_false (by omega)) q))
/-- The sizes that the machine lets in. -/
theorem lines_of {l : List ED} (h : ∀ x ∈ l, x.2.length ≤ 140737488351232) : ∀ i, i < l.length → (l.getD i e0).2.length ≤ 140737488351232 := fun i hi => by
  rw [getD_lt e0 l hi]
  exact h _ (List.getElem_mem hi)
end Go.Gm

/- Allowances: a shift points to the outside. -/
set_option linter.unusedVariables false
set_option linter.unusedSimpArgs false
namespace Go.Gm
open Go.Pi

theorem dv_nonneg {a n : Int} (hn : 0 < n) (ha : 0 ≤ a) : 0 ≤ dv a n := by
  unfold dv
  rw [if_neg (by omega)]
  exact Int.ediv_nonneg (by omega) (by omega)
theorem dv_pos {a n : Int} (hn : 0 < n) (ha : n ≤ 2 * a) : 1 ≤ dv a n := by
  unfold dv
  rw [if_neg (by omega)]
  exact (Int.le_ediv_iff_mul_le (by omega)).2 (by omega)
theorem lean_nonneg {d w n : Int} (hn : 0 < n) (hw : 0 ≤ w) : 0 ≤ d * dv (w * d) n := by
  rcases Int.le_total 0 d with h | h
  · exact Int.mul_nonneg h (dv_nonneg hn (Int.mul_nonneg hw h))
  · have e : w * d = -(w * -d) := by rw [Int.mul_neg, Int.neg_neg]
    rw [e, dv_neg hn]
    have := dv_nonneg hn (Int.mul_nonneg hw (show 0 ≤ -d by omega))
    exact Int.mul_nonneg_of_nonpos_of_nonpos h (by omega)
theorem lean_pos {d w n : Int} (hn : 0 < n) (hw : 1 ≤ w) (hd : n ≤ 2 * d ∨ n ≤ 2 * -d) : 0 < d * dv (w * d) n := by
  have key : ∀ d : Int, 0 ≤ d → n ≤ 2 * d → 0 < d * dv (w * d) n := fun d h0 h => by
    have h1 : 1 * d ≤ w * d := Int.mul_le_mul_of_nonneg_right hw h0
    have h2 := dv_pos (a := w * d) hn (by omega)
    exact Int.mul_pos (by omega) (by omega)
  rcases hd with h | h
  · exact key d (by omega) h
  · have e : d * dv (w * d) n = -d * dv (w * -d) n := by
      rw [Int.mul_neg, dv_neg hn, Int.neg_mul_neg]
    rw [e]
    exact key (-d) (by omega) h
/-- Twice the root of a sum of two squares is not above four times the greater number. -/
theorem root_near {x y n : Int} (hn : 0 < n) (h : n * n ≤ x * x + y * y) : (n ≤ 2 * x ∨ n ≤ 2 * -x) ∨ (n ≤ 2 * y ∨ n ≤ 2 * -y) := by
  refine Classical.byContradiction fun hc => ?_
  have hx : -(n - 1) ≤ 2 * x ∧ 2 * x ≤ n - 1 := by omega
  have hy : -(n - 1) ≤ 2 * y ∧ 2 * y ≤ n - 1 := by omega
  have h1 := (mul_bd hx hx).2
  have h2 := (mul_bd hy hy).2
  have e1 : 2 * x * (2 * x) = 4 * (x * x) := by rw [Int.mul_assoc, Int.mul_left_comm x 2 x, ← Int.mul_assoc]; rfl
  have e2 : 2 * y * (2 * y) = 4 * (y * y) := by rw [Int.mul_assoc, Int.mul_left_comm y 2 y, ← Int.mul_assoc]; rfl
  have e3 : (n - 1) * (n - 1) = n * n - 2 * n + 1 := by rw [Int.sub_mul, Int.mul_sub, Int.mul_one, Int.one_mul]; omega
  have h5 : n * 1 ≤ n * n := Int.mul_le_mul_of_nonneg_left (by omega) (by omega)
  omega
/-- How far a side's shift leads to its right. -/
def rightS (a b sh : Spot) : Int := (b.2 - a.2) * sh.1 - (b.1 - a.1) * sh.2
theorem right_eq (a b : Spot) {w s : Int} (hs : s = 1 ∨ s = -1) (hn : 0 < lenS a b) : rightS a b (shiftS a b w s) = s * ((b.2 - a.2) * dv (w * (b.2 - a.2)) (lenS a b) + (b.1 - a.1) * dv (w * (b.1 - a.1)) (lenS a b)) := by
  unfold rightS shiftS
  rcases hs with rfl | rfl
  · show (b.2 - a.2) * dv (1 * w * (b.2 - a.2)) (lenS a b) - (b.1 - a.1) * dv (-(1 * w) * (b.1 - a.1)) (lenS a b) = _
    rw [Int.one_mul, Int.one_mul, Int.neg_mul, dv_neg hn, Int.mul_neg]
    omega
  · show (b.2 - a.2) * dv (-1 * w * (b.2 - a.2)) (lenS a b) - (b.1 - a.1) * dv (-(-1 * w) * (b.1 - a.1)) (lenS a b) = _
    rw [show (-1 : Int) * w = -w by omega, Int.neg_mul, dv_neg hn, Int.mul_neg, Int.neg_neg]
    omega
theorem right_pos {a b : Spot} (ha : Ins a) (hb : Ins b) (hab : a ≠ b) {w s : Int} (hw : 1 ≤ w ∧ w ≤ 500) (hs : s = 1 ∨ s = -1) : 0 < s * rightS a b (shiftS a b w s) := by
  obtain ⟨d1, d2, dn, dl⟩ := side_nums ha hb hab (w := w) (by omega) hs
  have hr := rt_spec (n := (b.1 - a.1) * (b.1 - a.1) + (b.2 - a.2) * (b.2 - a.2)) (by omega) (by omega)
  have near := root_near (x := b.1 - a.1) (y := b.2 - a.2) dl.1 hr.2.1
  have n1 := lean_nonneg (d := b.1 - a.1) (w := w) dl.1 (by omega)
  have n2 := lean_nonneg (d := b.2 - a.2) (w := w) dl.1 (by omega)
  have hT : 0 < (b.2 - a.2) * dv (w * (b.2 - a.2)) (lenS a b) + (b.1 - a.1) * dv (w * (b.1 - a.1)) (lenS a b) := by
    rcases near with h | h
    · have := lean_pos (w := w) dl.1 hw.1 h
      omega
    · have := lean_pos (w := w) dl.1 hw.1 h
      omega
  rw [right_eq a b hs dl.1]
  rcases hs with rfl | rfl <;> omega
theorem shift_zero {a b : Spot} {s : Int} (hn : 0 < lenS a b) : shiftS a b 0 s = (0, 0) := by
  unfold shiftS
  rw [Int.mul_zero, Int.neg_zero, Int.zero_mul, Int.zero_mul, dv_zero hn]
theorem shift_bd {a b : Spot} (ha : Ins a) (hb : Ins b) (hab : a ≠ b) {w s : Int} (hw : 0 ≤ w ∧ w ≤ 500) (hs : s = 1 ∨ s = -1) : (-1048576001 ≤ (shiftS a b w s).1 ∧ (shiftS a b w s).1 ≤ 1048576001) ∧ (-1048576001 ≤ (shiftS a b w s).2 ∧ (shiftS a b w s).2 ≤ 1048576001) := by
  obtain ⟨d1, d2, dn, dl⟩ := side_nums ha hb hab hw hs
  obtain ⟨s1, s2, s3, s4⟩ := sw_bd hw hs d1
  obtain ⟨_, t2, t3, t4⟩ := sw_bd hw hs d2
  exact ⟨dv_bd (A := 1048576000) dl.1 t2, dv_bd (A := 1048576000) dl.1 s3⟩

/-! where a side stands in the list -/
theorem segsTo_pre (l : List ED) (ws : List Int) (s : Int) (i : Nat) : ∀ d, ∃ r, segsTo l ws s (i + d) = segsTo l ws s i ++ r
  | 0 => ⟨[], by simp⟩
  | d + 1 => by
    obtain ⟨r, h⟩ := segsTo_pre l ws s i d
    exact ⟨r ++ _, by rw [← Nat.add_assoc, segsTo_succ, h, List.append_assoc]⟩
theorem segs_at (l : List ED) (ws : List Int) (s : Int) {i m : Nat} (hi : i < l.length) (hm : m < (l.getD i e0).2.length - 1) :
    (segs l ws s)[(segsTo l ws s i).length + m]? = some (sideS ((l.getD i e0).2.getD m (0, 0)) ((l.getD i e0).2.getD (m + 1) (0, 0)) (ws.getD i 0) s) := by
  obtain ⟨r, h⟩ := segsTo_pre l ws s (i + 1) (l.length - (i + 1))
  rw [show i + 1 + (l.length - (i + 1)) = l.length by omega] at h
  unfold segs
  rw [h, segsTo_succ, List.append_assoc, List.getElem?_append_right (by omega), Nat.add_sub_cancel_left, List.getElem?_append_left (by rw [segsN_len]; exact hm)]
  unfold segsN
  rw [List.getElem?_map, List.getElem?_range hm]
  rfl
theorem segs_verts (l : List ED) (ws : List Int) (s : Int) : ∀ i, i ≤ l.length → (segsTo l ws s i).length = (verts (l.take i)).length
  | 0, _ => by simp [segsTo, verts]
  | i + 1, hi => by
    rw [segsTo_succ, verts_take_succ l i (by omega), List.length_append, List.length_append, segsN_len, segs_verts l ws s i (by omega), List.length_take]
    omega
theorem segs_vlen (l : List ED) (ws : List Int) (s : Int) : (segs l ws s).length = (verts l).length := by
  unfold segs
  rw [segs_verts l ws s l.length (Nat.le_refl _), List.take_length]
end Go.Gm

/- Ratios and points: what is alike. -/
set_option linter.unusedVariables false
set_option linter.unusedSimpArgs false
namespace Go.Gm
open Go.Pi

abbrev PT := Bool × List Int × List Int × Bool × List Int × List Int
def p1 (p : PT) : RT := (p.1, p.2.1, p.2.2.1)
def p2 (p : PT) : RT := p.2.2.2
def mkP (x y : RT) : PT := (x.1, x.2.1, x.2.2, y)
def nfP (x y : Rat) : PT := mkP (nfQ x) (nfQ y)
theorem limbs_l0 (a : List Int) (hl : a.length ≤ 100000000) : ∀ (n i : Nat), n = a.length - i → i ≤ a.length → Ev (fun k => ref03_limbs.l0 k a a (i : Int)) true := by
  intro n
  induction n with
  | zero =>
    intro i hn hi
    have t0 : ¬ ((i : Int) < (a.length : Int)) := by omega
    refine Ev.step ?_
    simp only [ref03_limbs.l0, decide_eq_false t0, condF]
    exact Ev.pure _
  | succ n ih =>
    intro i hn hi
    have t0 : ((i : Int) < (a.length : Int)) := by omega
    have t1 : inb (i : Int) a.length = true := inb_t' (by omega) t0
    have t2 : (gd (0 : Int) a (i : Int) != gd (0 : Int) a (i : Int)) = false := by simp
    refine Ev.step ?_
    simp only [ref03_limbs.l0, decide_eq_true t0, condT, t1, t2, condF, add1 (i := i) (by omega)]
    exact ih (i + 1) (by omega) (by omega)
theorem limbs_refl (a : List Int) (hl : a.length ≤ 100000000) : Ev (fun k => ref03_limbs.f k a a) true := by
  unfold ref03_limbs.f
  have t2 : ((a.length : Int) != (a.length : Int)) = false := by simp
  simp only [t2, condF]
  exact limbs_l0 a hl a.length 0 (by omega) (by omega)
theorem eqB_refl (b : Bool) : eqB b b = true := by cases b <;> rfl
theorem Same_refl {n : Nat} (hn : n ≤ 10000000) (x : RT) (h : WQ n x) : Ev (fun k => ref03_Same.f k x x) true := by
  have l1 := h.1.2
  have l2 := h.2.2
  have s : Ev (fun k => ref03_SameInt.f k (x.1, x.2.1) (x.1, x.2.1)) true := by
    unfold ref03_SameInt.f
    simp only [eqB_refl, condT]
    exact Ev.bind (limbs_refl x.2.1 (by omega)) (Ev.pure _)
  unfold ref03_Same.f
  refine Ev.bind s ?_
  simp only [condT]
  exact Ev.bind (limbs_refl x.2.2 (by omega)) (Ev.pure _)
/-- Few limbs. -/
def fewB (n : Nat) (x : RT) : Bool := decide (x.2.1.length ≤ n ∧ x.2.2.length ≤ n)
theorem few_cond (a b n : Nat) : (bif (decide (((a : Nat) : Int) ≤ (n : Int))) then (some (decide (((b : Nat) : Int) ≤ (n : Int)))) else (some false)) = some (decide (a ≤ n ∧ b ≤ n)) := by
  by_cases h1 : a ≤ n
  · rw [decide_eq_true (by omega), condT]
    congr 1
    rw [Bool.eq_iff_iff, decide_eq_true_iff, decide_eq_true_iff]
    omega
  · rw [decide_eq_false (by omega), condF, decide_eq_false (by omega)]
theorem Light_eq (x : RT) (n : Nat) : ref03_Light.f x (n : Int) = some (fewB n x) := few_cond _ _ _
theorem limbs_of {l : List Int} (h : ∀ x : Int, List.Mem x l → (Lit.int IntKind.u32 x).wf = true) : Limbs l := fun x hx => wf_u32 (h x hx)
theorem notB_t : notB true = false := rfl
theorem notB_f : notB false = true := rfl
theorem WQ_few {n : Nat} {x : RT} (h1 : Limbs x.2.1) (h2 : Limbs x.2.2) (h : fewB n x = true) : WQ n x := by
  have := of_decide_eq_true h
  exact ⟨⟨h1, this.1⟩, ⟨h2, this.2⟩⟩
theorem cmpQ_zero (p q : Rat) : (cmpQ p q == 0) = decide (p = q) := by
  unfold cmpQ
  by_cases h : p < q
  · rw [if_pos h, decide_eq_false (fun e => by rw [e] at h; exact absurd h (Rat.lt_irrefl))]; rfl
  · rw [if_neg h]
    by_cases h2 : p = q
    · rw [if_pos h2, decide_eq_true h2]; rfl
    · rw [if_neg h2, decide_eq_false h2]; rfl
theorem div_one (a : Int) : (a : Rat) / ((1 : Int) : Rat) = (a : Rat) := by
  have : ((1 : Int) : Rat) = 1 := rfl
  rw [this]; grind
end Go.Gm

/- Points: the program's (1). -/
set_option linter.unusedVariables false
set_option linter.unusedSimpArgs false
namespace Go.Gm
open Go.Pi

theorem whole1_ev (a : Int) (h0 : -9223372036854775808 ≤ a) (h1 : a ≤ 9223372036854775807) : Ev (fun k => point_whole.f k a) (nfQ (a : Rat)) := by
  unfold point_whole.f
  have o := Of1Q_ev a 1 h0 h1 (by decide) (by decide) (by decide)
  rw [div_one] at o
  exact Ev.bind o (Ev.pure _)
theorem POf1_ev (a b : Int) (h0 : -9223372036854775808 ≤ a) (h1 : a ≤ 9223372036854775807) (h2 : -9223372036854775808 ≤ b) (h3 : b ≤ 9223372036854775807) : Ev (fun k => point_Of.f k a b) (nfP (a : Rat) (b : Rat)) := by
  unfold point_Of.f
  exact Ev.bind (whole1_ev a h0 h1) (Ev.bind (whole1_ev b h2 h3) (Ev.pure _))
theorem RS_i64 {a : Int} (h0 : -9223372036854775808 ≤ a) (h1 : a ≤ 9223372036854775807) : RS 2 (a : Rat) :=
  RS_int (by decide) (by rw [show (4294967296 : Int) ^ 2 = 18446744073709551616 by decide]; unfold ab; split <;> omega)
theorem PSame1_ev {n : Nat} (h1 : 1 ≤ n) (hn : n ≤ 10000000) (a b : PT) (ha1 : WQ n (p1 a)) (ha2 : WQ n (p2 a)) (hb1 : WQ n (p1 b)) (hb2 : WQ n (p2 b)) :
    Ev (fun k => point_Same.f k a b) (decide (qv (p1 a) = qv (p1 b) ∧ qv (p2 a) = qv (p2 b))) := by
  unfold point_Same.f
  refine Ev.bind (Cmp1Q_ev h1 hn (p1 a) (p1 b) ha1 hb1) ?_
  rw [cmpQ_zero]
  by_cases h : qv (p1 a) = qv (p1 b)
  · simp only [decide_eq_true h, condT]
    refine Ev.bind (Cmp1Q_ev h1 hn (p2 a) (p2 b) ha2 hb2) (Ev.eq (Ev.pure _) ?_)
    rw [cmpQ_zero]
    congr 1
    exact propext ⟨fun e => ⟨h, e⟩, fun e => e.2⟩
  · simp only [decide_eq_false h, condF]
    refine Ev.eq (Ev.pure _) ?_
    rw [decide_eq_false (fun e => h e.1)]
theorem p1_mkP (x y : RT) : p1 (mkP x y) = x := rfl
theorem p2_mkP (x y : RT) : p2 (mkP x y) = y := rfl
theorem p1_nfP (x y : Rat) : p1 (nfP x y) = nfQ x := rfl
theorem p2_nfP (x y : Rat) : p2 (nfP x y) = nfQ y := rfl
end Go.Gm

/- Points: the program's (2). -/
set_option linter.unusedVariables false
set_option linter.unusedSimpArgs false
namespace Go.Gm
open Go.Pi

/-- Both coordinates have at most n limbs. -/
def WP (n : Nat) (p : PT) : Prop := WQ n (p1 p) ∧ WQ n (p2 p)
def px (p : PT) : Rat := qv (p1 p)
def py (p : PT) : Rat := qv (p2 p)
theorem px_nf (x y : Rat) : px (nfP x y) = x := qv_nfQ x
theorem py_nf (x y : Rat) : py (nfP x y) = y := qv_nfQ y
theorem WP_nf {n : Nat} {x y : Rat} (hx : RS n x) (hy : RS n y) : WP n (nfP x y) := ⟨WQ_nf hx, WQ_nf hy⟩
theorem WP.mono {m n : Nat} {p : PT} (h : WP m p) (hl : m ≤ n) : WP n p := ⟨h.1.mono hl, h.2.mono hl⟩
theorem WP.x {n : Nat} {p : PT} (h : WP n p) (h1 : 1 ≤ n) : RS n (px p) := qv_RS h1 h.1
theorem WP.y {n : Nat} {p : PT} (h : WP n p) (h1 : 1 ≤ n) : RS n (py p) := qv_RS h1 h.2
section
variable {n : Nat} (h1 : 1 ≤ n) (hn : n ≤ 1000000)
include h1 hn
theorem PAdd1_ev (a b : PT) (ha : WP n a) (hb : WP n b) : Ev (fun k => point_Add.f k a b) (nfP (px a + px b) (py a + py b)) := by
  have e : Ev (fun k => point_each_add.f k a b) (nfP (px a + px b) (py a + py b)) := by
    unfold point_each_add.f
    exact Ev.bind (Add1Q_ev h1 (by omega) (p1 a) (p1 b) ha.1 hb.1) (Ev.bind (Add1Q_ev h1 (by omega) (p2 a) (p2 b) ha.2 hb.2) (Ev.pure _))
  unfold point_Add.f
  exact Ev.bind e (Ev.pure _)
theorem PSub1_ev (a b : PT) (ha : WP n a) (hb : WP n b) : Ev (fun k => point_Sub.f k a b) (nfP (px a - px b) (py a - py b)) := by
  have e : Ev (fun k => point_each_sub.f k a b) (nfP (px a - px b) (py a - py b)) := by
    unfold point_each_sub.f
    exact Ev.bind (Sub1Q_ev h1 (by omega) (p1 a) (p1 b) ha.1 hb.1) (Ev.bind (Sub1Q_ev h1 (by omega) (p2 a) (p2 b) ha.2 hb.2) (Ev.pure _))
  unfold point_Sub.f
  exact Ev.bind e (Ev.pure _)
theorem PScale1_ev (a : PT) (r : RT) (ha : WP n a) (hr : WQ n r) : Ev (fun k => point_Scale.f k a r) (nfP (px a * qv r) (py a * qv r)) := by
  have e : Ev (fun k => point_each_mul.f k a (r.1, r.2.1, r.2.2, r)) (nfP (px a * qv r) (py a * qv r)) := by
    unfold point_each_mul.f
    exact Ev.bind (Mul1Q_ev h1 (by omega) (p1 a) r ha.1 hr) (Ev.bind (Mul1Q_ev h1 (by omega) (p2 a) r ha.2 hr) (Ev.pure _))
  unfold point_Scale.f
  exact Ev.bind e (Ev.pure _)
theorem PCross1_ev (a b : PT) (ha : WP n a) (hb : WP n b) : Ev (fun k => point_Cross.f k a b) (nfQ (px a * py b - py a * px b)) := by
  unfold point_Cross.f
  refine Ev.bind (Mul1Q_ev h1 (by omega) (p1 a) (p2 b) ha.1 hb.2) (Ev.bind (Mul1Q_ev h1 (by omega) (p2 a) (p1 b) ha.2 hb.1) ?_)
  have m1 := (ha.x h1).mul (hb.y h1)
  have m2 := (ha.y h1).mul (hb.x h1)
  have s := Sub1Q_ev (n := n + n) (by omega) (by omega) (nfQ (px a * py b)) (nfQ (py a * px b)) (WQ_nf m1) (WQ_nf m2)
  rw [qv_nfQ, qv_nfQ] at s
  exact Ev.bind s (Ev.pure _)
theorem PDot1_ev (a b : PT) (ha : WP n a) (hb : WP n b) : Ev (fun k => point_Dot.f k a b) (nfQ (px a * px b + py a * py b)) := by
  unfold point_Dot.f
  refine Ev.bind (Mul1Q_ev h1 (by omega) (p1 a) (p1 b) ha.1 hb.1) (Ev.bind (Mul1Q_ev h1 (by omega) (p2 a) (p2 b) ha.2 hb.2) ?_)
  have m1 := (ha.x h1).mul (hb.x h1)
  have m2 := (ha.y h1).mul (hb.y h1)
  have s := Add1Q_ev (n := n + n) (by omega) (by omega) (nfQ (px a * px b)) (nfQ (py a * py b)) (WQ_nf m1) (WQ_nf m2)
  rw [qv_nfQ, qv_nfQ] at s
  exact Ev.bind s (Ev.pure _)
end
theorem RS_dot {n : Nat} (h1 : 1 ≤ n) {a b : PT} (ha : WP n a) (hb : WP n b) : RS (4 * n + 1) (px a * px b + py a * py b) :=
  (((ha.x h1).mul (hb.x h1)).add ((ha.y h1).mul (hb.y h1))).mono (by omega)
theorem RS_cross {n : Nat} (h1 : 1 ≤ n) {a b : PT} (ha : WP n a) (hb : WP n b) : RS (4 * n + 1) (px a * py b - py a * px b) :=
  (((ha.x h1).mul (hb.y h1)).sub ((ha.y h1).mul (hb.x h1))).mono (by omega)
theorem WP_sub {n : Nat} (h1 : 1 ≤ n) {a b : PT} (ha : WP n a) (hb : WP n b) : WP (2 * n + 1) (nfP (px a - px b) (py a - py b)) :=
  WP_nf (((ha.x h1).sub (hb.x h1)).mono (by omega)) (((ha.y h1).sub (hb.y h1)).mono (by omega))
theorem WP_add {n : Nat} (h1 : 1 ≤ n) {a b : PT} (ha : WP n a) (hb : WP n b) : WP (2 * n + 1) (nfP (px a + px b) (py a + py b)) :=
  WP_nf (((ha.x h1).add (hb.x h1)).mono (by omega)) (((ha.y h1).add (hb.y h1)).mono (by omega))
/-- The point of a line. -/
def onQ (ax ay bx b_y t : Rat) : Rat × Rat := (ax + (bx - ax) * t, ay + (b_y - ay) * t)
theorem WP_on {n : Nat} (h1 : 1 ≤ n) {a b : PT} {t : Rat} (ha : WP n a) (hb : WP n b) (ht : RS n t) : WP (4 * n + 2) (nfP (onQ (px a) (py a) (px b) (py b) t).1 (onQ (px a) (py a) (px b) (py b) t).2) :=
  WP_nf (((ha.x h1).add (((hb.x h1).sub (ha.x h1)).mul ht)).mono (by omega)) (((ha.y h1).add (((hb.y h1).sub (ha.y h1)).mul ht)).mono (by omega))
section
variable {n : Nat} (h1 : 1 ≤ n) (hn : n ≤ 10000)
include h1 hn
theorem POn1_ev (a b : PT) (t : RT) (ha : WP n a) (hb : WP n b) (ht : WQ n t) : Ev (fun k => point_On.f k a b t) (nfP (onQ (px a) (py a) (px b) (py b) (qv t)).1 (onQ (px a) (py a) (px b) (py b) (qv t)).2) := by
  unfold point_On.f
  refine Ev.bind (PSub1_ev h1 (by omega) b a hb ha) ?_
  have w := WP_sub h1 hb ha
  have s := PScale1_ev (n := 2 * n + 1) (by omega) (by omega) _ t w (ht.mono (by omega))
  rw [px_nf, py_nf] at s
  refine Ev.bind s ?_
  have w2 : WP (3 * n + 1) (nfP ((px b - px a) * qv t) ((py b - py a) * qv t)) :=
    WP_nf ((((hb.x h1).sub (ha.x h1)).mul (qv_RS h1 ht)).mono (by omega)) ((((hb.y h1).sub (ha.y h1)).mul (qv_RS h1 ht)).mono (by omega))
  have a2 := PAdd1_ev (n := 3 * n + 1) (by omega) (by omega) a _ (ha.mono (by omega)) w2
  rw [px_nf, py_nf] at a2
  exact Ev.bind a2 (Ev.pure _)
/-- On which side: the sign of the cross product. -/
def crossQ (ax ay bx b_y x y : Rat) : Rat := (bx - ax) * (y - ay) - (b_y - ay) * (x - ax)
theorem PSide1_ev (a b p : PT) (ha : WP n a) (hb : WP n b) (hp : WP n p) : Ev (fun k => point_Side.f k a b p) (cmpQ (crossQ (px a) (py a) (px b) (py b) (px p) (py p)) 0) := by
  unfold point_Side.f
  refine Ev.bind (PSub1_ev h1 (by omega) b a hb ha) (Ev.bind (PSub1_ev h1 (by omega) p a hp ha) ?_)
  have w1 := WP_sub h1 hb ha
  have w2 := WP_sub h1 hp ha
  have c := PCross1_ev (n := 2 * n + 1) (by omega) (by omega) _ _ w1 w2
  have rc := RS_cross (n := 2 * n + 1) (by omega) w1 w2
  simp only [px_nf, py_nf] at c rc
  refine Ev.bind c (Ev.bind (whole1_ev 0 (by decide) (by decide)) ?_)
  have z : RS 1 ((0 : Int) : Rat) := RS_int (by decide) (by decide)
  have m := Cmp1Q_ev (n := 4 * (2 * n + 1) + 1) (by omega) (by omega) (nfQ _) (nfQ ((0 : Int) : Rat)) (WQ_nf rc) (WQ_nf (z.mono (by omega)))
  rw [qv_nfQ, qv_nfQ] at m
  exact Ev.bind m (Ev.pure _)
end
end Go.Gm

/- Points: the program's (3): feet, meeting points, mirror images. -/
set_option linter.unusedVariables false
set_option linter.unusedSimpArgs false
namespace Go.Gm
open Go.Pi

def zeroP : PT := (false, [], [], false, [], [])
theorem onQ_eq (ax ay bx b_y t : Rat) : onQ ax ay bx b_y t = (ax + (bx - ax) * t, ay + (b_y - ay) * t) := rfl
/-- Where the foot lies: numerator and denominator. -/
def footN (x y ax ay bx b_y : Rat) : Rat := (x - ax) * (bx - ax) + (y - ay) * (b_y - ay)
def footD (ax ay bx b_y : Rat) : Rat := (bx - ax) * (bx - ax) + (b_y - ay) * (b_y - ay)
def footP (p a b : PT) : Rat × Rat := onQ (px a) (py a) (px b) (py b) (footN (px p) (py p) (px a) (py a) (px b) (py b) / footD (px a) (py a) (px b) (py b))
def meetN (ax ay cx cy dx dy : Rat) : Rat := (cx - ax) * (dy - cy) - (cy - ay) * (dx - cx)
def meetD (ax ay bx b_y cx cy dx dy : Rat) : Rat := (bx - ax) * (dy - cy) - (b_y - ay) * (dx - cx)
def meetP (a b c d : PT) : Rat × Rat := onQ (px a) (py a) (px b) (py b) (meetN (px a) (py a) (px c) (py c) (px d) (py d) / meetD (px a) (py a) (px b) (py b) (px c) (py c) (px d) (py d))
theorem WP_foot {n : Nat} (h1 : 1 ≤ n) {p a b : PT} (hp : WP n p) (ha : WP n a) (hb : WP n b) : WP (19 * n + 12) (nfP (footP p a b).1 (footP p a b).2) := by
  have w1 := WP_sub h1 hb ha
  have w2 := WP_sub h1 hp ha
  have d1 := RS_dot (by omega) w2 w1
  have d2 := RS_dot (by omega) w1 w1
  simp only [px_nf, py_nf] at d1 d2
  exact WP_nf (((ha.x h1).add (((hb.x h1).sub (ha.x h1)).mul (d1.div d2))).mono (by omega)) (((ha.y h1).add (((hb.y h1).sub (ha.y h1)).mul (d1.div d2))).mono (by omega))
theorem WP_meet {n : Nat} (h1 : 1 ≤ n) {a b c d : PT} (ha : WP n a) (hb : WP n b) (hc : WP n c) (hd : WP n d) : WP (19 * n + 12) (nfP (meetP a b c d).1 (meetP a b c d).2) := by
  have w1 := WP_sub h1 hc ha
  have w2 := WP_sub h1 hd hc
  have w3 := WP_sub h1 hb ha
  have d1 := RS_cross (by omega) w1 w2
  have d2 := RS_cross (by omega) w3 w2
  simp only [px_nf, py_nf] at d1 d2
  exact WP_nf (((ha.x h1).add (((hb.x h1).sub (ha.x h1)).mul (d1.div d2))).mono (by omega)) (((ha.y h1).add (((hb.y h1).sub (ha.y h1)).mul (d1.div d2))).mono (by omega))
theorem nfP_one (x y : Rat) (r : PT) (h : r = nfP x y) : px r = x ∧ py r = y := by rw [h]; exact ⟨px_nf x y, py_nf x y⟩
section
variable {n : Nat} (h1 : 1 ≤ n) (hn : n ≤ 500)
include h1 hn
theorem PFoot1_ev (p a b : PT) (hp : WP n p) (ha : WP n a) (hb : WP n b) : Ev (fun k => point_Foot.f k p a b) (if footD (px a) (py a) (px b) (py b) = 0 then (zeroP, 10) else (nfP (footP p a b).1 (footP p a b).2, 0)) := by
  unfold point_Foot.f
  have w1 := WP_sub h1 hb ha
  have w2 := WP_sub h1 hp ha
  refine Ev.bind (PSub1_ev h1 (by omega) b a hb ha) (Ev.bind (PSub1_ev h1 (by omega) p a hp ha) ?_)
  have e1 := PDot1_ev (n := 2 * n + 1) (by omega) (by omega) _ _ w2 w1
  have e2 := PDot1_ev (n := 2 * n + 1) (by omega) (by omega) _ _ w1 w1
  have d1 := RS_dot (by omega) w2 w1
  have d2 := RS_dot (by omega) w1 w1
  simp only [px_nf, py_nf] at e1 e2 d1 d2
  refine Ev.bind e1 (Ev.bind e2 ?_)
  have q := Div1Q_ev (n := 4 * (2 * n + 1) + 1) (by omega) (by omega) (nfQ _) (nfQ _) (WQ_nf d1) (WQ_nf d2)
  rw [qv_nfQ, qv_nfQ] at q
  refine Ev.bind q ?_
  by_cases h0 : (px b - px a) * (px b - px a) + (py b - py a) * (py b - py a) = 0
  · rw [if_pos h0, if_pos (show footD _ _ _ _ = 0 from h0)]
    exact Ev.pure _
  · rw [if_neg h0, if_neg (show ¬ footD _ _ _ _ = 0 from h0)]
    simp only [notB_t, condF]
    have rt := d1.div d2
    have s := PScale1_ev (n := 2 * (4 * (2 * n + 1) + 1)) (by omega) (by omega) _ (nfQ _) (w1.mono (by omega)) ((WQ_nf rt).mono (by omega))
    rw [px_nf, py_nf, qv_nfQ] at s
    refine Ev.bind s ?_
    have w5 : WP (18 * n + 11) (nfP _ _) := WP_nf ((((hb.x h1).sub (ha.x h1)).mul rt).mono (by omega)) ((((hb.y h1).sub (ha.y h1)).mul rt).mono (by omega))
    have t := PAdd1_ev (n := 18 * n + 11) (by omega) (by omega) a _ (ha.mono (by omega)) w5
    rw [px_nf, py_nf] at t
    exact Ev.bind t (Ev.pure _)
theorem PMeet1_ev (a b c d : PT) (ha : WP n a) (hb : WP n b) (hc : WP n c) (hd : WP n d) : Ev (fun k => point_Meet.f k a b c d) (if meetD (px a) (py a) (px b) (py b) (px c) (py c) (px d) (py d) = 0 then (zeroP, 10) else (nfP (meetP a b c d).1 (meetP a b c d).2, 0)) := by
  unfold point_Meet.f
  have w1 := WP_sub h1 hb ha
  have w2 := WP_sub h1 hd hc
  have w3 := WP_sub h1 hc ha
  refine Ev.bind (PSub1_ev h1 (by omega) b a hb ha) (Ev.bind (PSub1_ev h1 (by omega) d c hd hc) (Ev.bind (PSub1_ev h1 (by omega) c a hc ha) ?_))
  have e1 := PCross1_ev (n := 2 * n + 1) (by omega) (by omega) _ _ w3 w2
  have e2 := PCross1_ev (n := 2 * n + 1) (by omega) (by omega) _ _ w1 w2
  have d1 := RS_cross (by omega) w3 w2
  have d2 := RS_cross (by omega) w1 w2
  simp only [px_nf, py_nf] at e1 e2 d1 d2
  refine Ev.bind e1 (Ev.bind e2 ?_)
  have q := Div1Q_ev (n := 4 * (2 * n + 1) + 1) (by omega) (by omega) (nfQ _) (nfQ _) (WQ_nf d1) (WQ_nf d2)
  rw [qv_nfQ, qv_nfQ] at q
  refine Ev.bind q ?_
  by_cases h0 : (px b - px a) * (py d - py c) - (py b - py a) * (px d - px c) = 0
  · rw [if_pos h0, if_pos (show meetD _ _ _ _ _ _ _ _ = 0 from h0)]
    exact Ev.pure _
  · rw [if_neg h0, if_neg (show ¬ meetD _ _ _ _ _ _ _ _ = 0 from h0)]
    simp only [notB_t, condF]
    have rt := d1.div d2
    have s := PScale1_ev (n := 2 * (4 * (2 * n + 1) + 1)) (by omega) (by omega) _ (nfQ _) (w1.mono (by omega)) ((WQ_nf rt).mono (by omega))
    rw [px_nf, py_nf, qv_nfQ] at s
    refine Ev.bind s ?_
    have w5 : WP (18 * n + 11) (nfP _ _) := WP_nf ((((hb.x h1).sub (ha.x h1)).mul rt).mono (by omega)) ((((hb.y h1).sub (ha.y h1)).mul rt).mono (by omega))
    have t := PAdd1_ev (n := 18 * n + 11) (by omega) (by omega) a _ (ha.mono (by omega)) w5
    rw [px_nf, py_nf] at t
    exact Ev.bind t (Ev.pure _)
def mirX (x f : Rat) : Rat := f + f - x
theorem PMirror1_ev (p a b : PT) (hp : WP n p) (ha : WP n a) (hb : WP n b) : Ev (fun k => point_Mirror.f k p a b) (if footD (px a) (py a) (px b) (py b) = 0 then (zeroP, 10) else (nfP (mirX (px p) (footP p a b).1) (mirX (py p) (footP p a b).2), 0)) := by
  unfold point_Mirror.f
  refine Ev.bind (PFoot1_ev h1 hn p a b hp ha hb) ?_
  by_cases h0 : footD (px a) (py a) (px b) (py b) = 0
  · rw [if_pos h0, if_pos h0]
    exact Ev.pure _
  · rw [if_neg h0, if_neg h0]
    have t0 : ((0 : Int) != 0) = false := rfl
    simp only [t0, condF]
    refine Ev.bind (whole1_ev 2 (by decide) (by decide)) ?_
    have wf := WP_foot h1 hp ha hb
    have r2 : RS 1 ((2 : Int) : Rat) := RS_int (by decide) (by decide)
    have o := POn1_ev (n := 19 * n + 12) (by omega) (by omega) p _ (nfQ ((2 : Int) : Rat)) (hp.mono (by omega)) wf ((WQ_nf r2).mono (by omega))
    rw [px_nf, py_nf, qv_nfQ] at o
    refine Ev.bind o (Ev.eq (Ev.pure _) ?_)
    have c2 : ((2 : Int) : Rat) = 2 := rfl
    have ex : ∀ u v : Rat, u + (v - u) * ((2 : Int) : Rat) = mirX u v := fun u v => by rw [c2]; unfold mirX; grind
    rw [onQ_eq, ex, ex]
theorem PSame1W_ev (a b : PT) (ha : WP n a) (hb : WP n b) : Ev (fun k => point_Same.f k a b) (decide (px a = px b ∧ py a = py b)) :=
  PSame1_ev h1 (by omega) a b ha.1 ha.2 hb.1 hb.2
end
theorem RS_mir {m n : Nat} {x f : Rat} (hx : RS m x) (hf : RS n f) : RS (2 * n + m + 2) (mirX x f) := ((hf.add hf).sub hx).mono (by omega)
end Go.Gm

/- Points: the reference's. -/
set_option linter.unusedVariables false
set_option linter.unusedSimpArgs false
namespace Go.Gm
open Go.Pi

theorem whole2_ev (a : Int) (h0 : -9223372036854775808 ≤ a) (h1 : a ≤ 9223372036854775807) : Ev (fun k => ref08_whole.f k a) (nfQ (a : Rat)) := by
  unfold ref08_whole.f
  have o := Of2Q_ev a 1 h0 h1 (by decide) (by decide) (by decide)
  rw [div_one] at o
  exact Ev.bind o (Ev.pure _)
theorem POf2_ev (a b : Int) (h0 : -9223372036854775808 ≤ a) (h1 : a ≤ 9223372036854775807) (h2 : -9223372036854775808 ≤ b) (h3 : b ≤ 9223372036854775807) : Ev (fun k => ref08_Of.f k a b) (nfP (a : Rat) (b : Rat)) := by
  unfold ref08_Of.f
  exact Ev.bind (whole2_ev a h0 h1) (Ev.bind (whole2_ev b h2 h3) (Ev.pure _))
theorem PSame2_ev {n : Nat} (h1 : 1 ≤ n) (hn : n ≤ 10000000) (a b : PT) (ha1 : WQ n (p1 a)) (ha2 : WQ n (p2 a)) (hb1 : WQ n (p1 b)) (hb2 : WQ n (p2 b)) :
    Ev (fun k => ref08_Same.f k a b) (decide (qv (p1 a) = qv (p1 b) ∧ qv (p2 a) = qv (p2 b))) := by
  unfold ref08_Same.f
  refine Ev.bind (Cmp2Q_ev h1 hn (p1 a) (p1 b) ha1 hb1) ?_
  rw [cmpQ_zero]
  by_cases h : qv (p1 a) = qv (p1 b)
  · simp only [decide_eq_true h, condT]
    refine Ev.bind (Cmp2Q_ev h1 hn (p2 a) (p2 b) ha2 hb2) (Ev.eq (Ev.pure _) ?_)
    rw [cmpQ_zero]
    congr 1
    exact propext ⟨fun e => ⟨h, e⟩, fun e => e.2⟩
  · simp only [decide_eq_false h, condF]
    refine Ev.eq (Ev.pure _) ?_
    rw [decide_eq_false (fun e => h e.1)]
section
variable {n : Nat} (h1 : 1 ≤ n) (hn : n ≤ 1000000)
include h1 hn
theorem PAdd2_ev (a b : PT) (ha : WP n a) (hb : WP n b) : Ev (fun k => ref08_Add.f k a b) (nfP (px a + px b) (py a + py b)) := by
  unfold ref08_Add.f
  exact Ev.bind (Add2Q_ev h1 (by omega) (p1 a) (p1 b) ha.1 hb.1) (Ev.bind (Add2Q_ev h1 (by omega) (p2 a) (p2 b) ha.2 hb.2) (Ev.pure _))
theorem PSub2_ev (a b : PT) (ha : WP n a) (hb : WP n b) : Ev (fun k => ref08_Sub.f k a b) (nfP (px a - px b) (py a - py b)) := by
  unfold ref08_Sub.f
  exact Ev.bind (Sub2Q_ev h1 (by omega) (p1 a) (p1 b) ha.1 hb.1) (Ev.bind (Sub2Q_ev h1 (by omega) (p2 a) (p2 b) ha.2 hb.2) (Ev.pure _))
theorem PScale2_ev (a : PT) (r : RT) (ha : WP n a) (hr : WQ n r) : Ev (fun k => ref08_Scale.f k a r) (nfP (px a * qv r) (py a * qv r)) := by
  unfold ref08_Scale.f
  exact Ev.bind (Mul2Q_ev h1 (by omega) (p1 a) r ha.1 hr) (Ev.bind (Mul2Q_ev h1 (by omega) (p2 a) r ha.2 hr) (Ev.pure _))
theorem PCross2_ev (a b : PT) (ha : WP n a) (hb : WP n b) : Ev (fun k => ref08_Cross.f k a b) (nfQ (px a * py b - py a * px b)) := by
  unfold ref08_Cross.f
  refine Ev.bind (Mul2Q_ev h1 (by omega) (p1 a) (p2 b) ha.1 hb.2) (Ev.bind (Mul2Q_ev h1 (by omega) (p2 a) (p1 b) ha.2 hb.1) ?_)
  have m1 := (ha.x h1).mul (hb.y h1)
  have m2 := (ha.y h1).mul (hb.x h1)
  have s := Sub2Q_ev (n := n + n) (by omega) (by omega) (nfQ (px a * py b)) (nfQ (py a * px b)) (WQ_nf m1) (WQ_nf m2)
  rw [qv_nfQ, qv_nfQ] at s
  exact Ev.bind s (Ev.pure _)
theorem PDot2_ev (a b : PT) (ha : WP n a) (hb : WP n b) : Ev (fun k => ref08_Dot.f k a b) (nfQ (px a * px b + py a * py b)) := by
  unfold ref08_Dot.f
  refine Ev.bind (Mul2Q_ev h1 (by omega) (p1 a) (p1 b) ha.1 hb.1) (Ev.bind (Mul2Q_ev h1 (by omega) (p2 a) (p2 b) ha.2 hb.2) ?_)
  have m1 := (ha.x h1).mul (hb.x h1)
  have m2 := (ha.y h1).mul (hb.y h1)
  have s := Add2Q_ev (n := n + n) (by omega) (by omega) (nfQ (px a * px b)) (nfQ (py a * py b)) (WQ_nf m1) (WQ_nf m2)
  rw [qv_nfQ, qv_nfQ] at s
  exact Ev.bind s (Ev.pure _)
end
section
variable {n : Nat} (h1 : 1 ≤ n) (hn : n ≤ 10000)
include h1 hn
theorem POn2_ev (a b : PT) (t : RT) (ha : WP n a) (hb : WP n b) (ht : WQ n t) : Ev (fun k => ref08_On.f k a b t) (nfP (onQ (px a) (py a) (px b) (py b) (qv t)).1 (onQ (px a) (py a) (px b) (py b) (qv t)).2) := by
  unfold ref08_On.f
  refine Ev.bind (PSub2_ev h1 (by omega) b a hb ha) ?_
  have w := WP_sub h1 hb ha
  have s := PScale2_ev (n := 2 * n + 1) (by omega) (by omega) _ t w (ht.mono (by omega))
  rw [px_nf, py_nf] at s
  refine Ev.bind s ?_
  have w2 : WP (3 * n + 1) (nfP ((px b - px a) * qv t) ((py b - py a) * qv t)) :=
    WP_nf ((((hb.x h1).sub (ha.x h1)).mul (qv_RS h1 ht)).mono (by omega)) ((((hb.y h1).sub (ha.y h1)).mul (qv_RS h1 ht)).mono (by omega))
  have a2 := PAdd2_ev (n := 3 * n + 1) (by omega) (by omega) a _ (ha.mono (by omega)) w2
  rw [px_nf, py_nf] at a2
  exact Ev.bind a2 (Ev.pure _)
theorem PSide2_ev (a b p : PT) (ha : WP n a) (hb : WP n b) (hp : WP n p) : Ev (fun k => ref08_Side.f k a b p) (cmpQ (crossQ (px a) (py a) (px b) (py b) (px p) (py p)) 0) := by
  unfold ref08_Side.f
  refine Ev.bind (PSub2_ev h1 (by omega) b a hb ha) (Ev.bind (PSub2_ev h1 (by omega) p a hp ha) ?_)
  have w1 := WP_sub h1 hb ha
  have w2 := WP_sub h1 hp ha
  have c := PCross2_ev (n := 2 * n + 1) (by omega) (by omega) _ _ w1 w2
  have rc := RS_cross (n := 2 * n + 1) (by omega) w1 w2
  simp only [px_nf, py_nf] at c rc
  refine Ev.bind c (Ev.bind (whole2_ev 0 (by decide) (by decide)) ?_)
  have z : RS 1 ((0 : Int) : Rat) := RS_int (by decide) (by decide)
  have m := Cmp2Q_ev (n := 4 * (2 * n + 1) + 1) (by omega) (by omega) (nfQ _) (nfQ ((0 : Int) : Rat)) (WQ_nf rc) (WQ_nf (z.mono (by omega)))
  rw [qv_nfQ, qv_nfQ] at m
  exact Ev.bind m (Ev.pure _)
end
section
variable {n : Nat} (h1 : 1 ≤ n) (hn : n ≤ 500)
include h1 hn
theorem PFoot2_ev (p a b : PT) (hp : WP n p) (ha : WP n a) (hb : WP n b) : Ev (fun k => ref08_Foot.f k p a b) (if footD (px a) (py a) (px b) (py b) = 0 then (zeroP, 10) else (nfP (footP p a b).1 (footP p a b).2, 0)) := by
  unfold ref08_Foot.f
  have w1 := WP_sub h1 hb ha
  have w2 := WP_sub h1 hp ha
  refine Ev.bind (PSub2_ev h1 (by omega) b a hb ha) (Ev.bind (PSub2_ev h1 (by omega) p a hp ha) ?_)
  have e1 := PDot2_ev (n := 2 * n + 1) (by omega) (by omega) _ _ w2 w1
  have e2 := PDot2_ev (n := 2 * n + 1) (by omega) (by omega) _ _ w1 w1
  have d1 := RS_dot (by omega) w2 w1
  have d2 := RS_dot (by omega) w1 w1
  simp only [px_nf, py_nf] at e1 e2 d1 d2
  refine Ev.bind e1 (Ev.bind e2 ?_)
  have q := Div2Q_ev (n := 4 * (2 * n + 1) + 1) (by omega) (by omega) (nfQ _) (nfQ _) (WQ_nf d1) (WQ_nf d2)
  rw [qv_nfQ, qv_nfQ] at q
  refine Ev.bind q ?_
  by_cases h0 : (px b - px a) * (px b - px a) + (py b - py a) * (py b - py a) = 0
  · rw [if_pos h0, if_pos (show footD _ _ _ _ = 0 from h0)]
    exact Ev.pure _
  · rw [if_neg h0, if_neg (show ¬ footD _ _ _ _ = 0 from h0)]
    simp only [notB_t, condF]
    have rt := d1.div d2
    have o := POn2_ev (n := 16 * n + 10) (by omega) (by omega) a b (nfQ _) (ha.mono (by omega)) (hb.mono (by omega)) ((WQ_nf rt).mono (by omega))
    rw [qv_nfQ] at o
    exact Ev.bind o (Ev.pure _)
theorem PMeet2_ev (a b c d : PT) (ha : WP n a) (hb : WP n b) (hc : WP n c) (hd : WP n d) : Ev (fun k => ref08_Meet.f k a b c d) (if meetD (px a) (py a) (px b) (py b) (px c) (py c) (px d) (py d) = 0 then (zeroP, 10) else (nfP (meetP a b c d).1 (meetP a b c d).2, 0)) := by
  unfold ref08_Meet.f
  have w1 := WP_sub h1 hb ha
  have w2 := WP_sub h1 hd hc
  have w3 := WP_sub h1 hc ha
  have e1 := PCross2_ev (n := 2 * n + 1) (by omega) (by omega) _ _ w3 w2
  have e2 := PCross2_ev (n := 2 * n + 1) (by omega) (by omega) _ _ w1 w2
  have d1 := RS_cross (by omega) w3 w2
  have d2 := RS_cross (by omega) w1 w2
  simp only [px_nf, py_nf] at e1 e2 d1 d2
  refine Ev.bind (PSub2_ev h1 (by omega) c a hc ha) (Ev.bind (PSub2_ev h1 (by omega) d c hd hc) (Ev.bind e1 (Ev.bind (PSub2_ev h1 (by omega) b a hb ha) (Ev.bind (PSub2_ev h1 (by omega) d c hd hc) (Ev.bind e2 ?_)))))
  have q := Div2Q_ev (n := 4 * (2 * n + 1) + 1) (by omega) (by omega) (nfQ _) (nfQ _) (WQ_nf d1) (WQ_nf d2)
  rw [qv_nfQ, qv_nfQ] at q
  refine Ev.bind q ?_
  by_cases h0 : (px b - px a) * (py d - py c) - (py b - py a) * (px d - px c) = 0
  · rw [if_pos h0, if_pos (show meetD _ _ _ _ _ _ _ _ = 0 from h0)]
    exact Ev.pure _
  · rw [if_neg h0, if_neg (show ¬ meetD _ _ _ _ _ _ _ _ = 0 from h0)]
    simp only [notB_t, condF]
    have rt := d1.div d2
    have o := POn2_ev (n := 16 * n + 10) (by omega) (by omega) a b (nfQ _) (ha.mono (by omega)) (hb.mono (by omega)) ((WQ_nf rt).mono (by omega))
    rw [qv_nfQ] at o
    exact Ev.bind o (Ev.pure _)
theorem PMirror2_ev (p a b : PT) (hp : WP n p) (ha : WP n a) (hb : WP n b) : Ev (fun k => ref08_Mirror.f k p a b) (if footD (px a) (py a) (px b) (py b) = 0 then (zeroP, 10) else (nfP (mirX (px p) (footP p a b).1) (mirX (py p) (footP p a b).2), 0)) := by
  unfold ref08_Mirror.f
  refine Ev.bind (PFoot2_ev h1 hn p a b hp ha hb) ?_
  by_cases h0 : footD (px a) (py a) (px b) (py b) = 0
  · rw [if_pos h0, if_pos h0]
    exact Ev.pure _
  · rw [if_neg h0, if_neg h0]
    have t0 : ((0 : Int) != 0) = false := rfl
    simp only [t0, condF]
    have wf := WP_foot h1 hp ha hb
    have s1 := PAdd2_ev (n := 19 * n + 12) (by omega) (by omega) _ _ wf wf
    have w2 := WP_add (by omega) wf wf
    have s2 := PSub2_ev (n := 2 * (19 * n + 12) + 1) (by omega) (by omega) _ p w2 (hp.mono (by omega))
    simp only [px_nf, py_nf] at s1 s2
    exact Ev.bind s1 (Ev.bind s2 (Ev.pure _))
theorem PSame2W_ev (a b : PT) (ha : WP n a) (hb : WP n b) : Ev (fun k => ref08_Same.f k a b) (decide (px a = px b ∧ py a = py b)) :=
  PSame2_ev h1 (by omega) a b ha.1 ha.2 hb.1 hb.2
end
end Go.Gm

/- Points: equality of forms, sizes. -/
set_option linter.unusedVariables false
set_option linter.unusedSimpArgs false
namespace Go.Gm
open Go.Pi

theorem same2_l0 (b : Bool) (a : List Int) (hl : a.length ≤ 100000000) : ∀ (n i : Nat), n = a.length - i → i ≤ a.length → Ev (fun k => ref02_Same.l0 k (i : Int) b a b a) true := by
  intro n
  induction n with
  | zero =>
    intro i hn hi
    have t0 : ¬ ((i : Int) < (a.length : Int)) := by omega
    refine Ev.step ?_
    simp only [ref02_Same.l0, decide_eq_false t0, condF]
    exact Ev.pure _
  | succ n ih =>
    intro i hn hi
    have t0 : ((i : Int) < (a.length : Int)) := by omega
    have t1 : inb (i : Int) a.length = true := inb_t' (by omega) t0
    have t2 : (gd (0 : Int) a (i : Int) != gd (0 : Int) a (i : Int)) = false := by simp
    refine Ev.step ?_
    simp only [ref02_Same.l0, decide_eq_true t0, condT, t1, t2, condF, add1 (i := i) (by omega)]
    exact ih (i + 1) (by omega) (by omega)
theorem same8_l0 (a : List Int) (hl : a.length ≤ 100000000) : ∀ (n i : Nat), n = a.length - i → i ≤ a.length → Ev (fun k => ref08_sameNat.l0 k a a (i : Int)) true := by
  intro n
  induction n with
  | zero =>
    intro i hn hi
    have t0 : ¬ ((i : Int) < (a.length : Int)) := by omega
    refine Ev.step ?_
    simp only [ref08_sameNat.l0, decide_eq_false t0, condF]
    exact Ev.pure _
  | succ n ih =>
    intro i hn hi
    have t0 : ((i : Int) < (a.length : Int)) := by omega
    have t1 : inb (i : Int) a.length = true := inb_t' (by omega) t0
    have t2 : (gd (0 : Int) a (i : Int) != gd (0 : Int) a (i : Int)) = false := by simp
    refine Ev.step ?_
    simp only [ref08_sameNat.l0, decide_eq_true t0, condT, t1, t2, condF, add1 (i := i) (by omega)]
    exact ih (i + 1) (by omega) (by omega)
theorem SameR_refl (x : RT) (h : x.2.1.length ≤ 10000000 ∧ x.2.2.length ≤ 10000000) : Ev (fun k => ref08_SameRatio.f k x x) true := by
  have t2 : ∀ a : List Int, ((a.length : Int) != (a.length : Int)) = false := fun a => by simp
  have s : Ev (fun k => ref02_Same.f k (x.1, x.2.1) (x.1, x.2.1)) true := by
    unfold ref02_Same.f
    simp only [eqB_refl, notB_t, t2, condF]
    exact same2_l0 x.1 x.2.1 (by omega) x.2.1.length 0 (by omega) (by omega)
  have n : Ev (fun k => ref08_sameNat.f k x.2.2 x.2.2) true := by
    unfold ref08_sameNat.f
    simp only [t2, condF]
    exact same8_l0 x.2.2 (by omega) x.2.2.length 0 (by omega) (by omega)
  unfold ref08_SameRatio.f
  refine Ev.bind s ?_
  simp only [condT]
  exact Ev.bind n (Ev.pure _)
theorem SameQ_refl {n : Nat} {q : Rat} (h : RS n q) (hn : n ≤ 10000000) : Ev (fun k => ref08_SameRatio.f k (nfQ q) (nfQ q)) true := by
  have w := WQ_nf h
  exact SameR_refl _ ⟨Nat.le_trans w.1.2 hn, Nat.le_trans w.2.2 hn⟩
theorem Exact_refl (p : PT) (h1 : (p1 p).2.1.length ≤ 10000000 ∧ (p1 p).2.2.length ≤ 10000000) (h2 : (p2 p).2.1.length ≤ 10000000 ∧ (p2 p).2.2.length ≤ 10000000) : Ev (fun k => ref08_Exact.f k p p) true := by
  unfold ref08_Exact.f
  refine Ev.bind (SameR_refl (p1 p) h1) ?_
  simp only [condT]
  exact Ev.bind (SameR_refl (p2 p) h2) (Ev.pure _)
theorem Exact_nf {n : Nat} {p : PT} (w : WP n p) (hn : n ≤ 10000000) : Ev (fun k => ref08_Exact.f k p p) true :=
  Exact_refl _ ⟨Nat.le_trans w.1.1.2 hn, Nat.le_trans w.1.2.2 hn⟩ ⟨Nat.le_trans w.2.1.2 hn, Nat.le_trans w.2.2.2 hn⟩
theorem Exact_zero : Ev (fun k => ref08_Exact.f k zeroP zeroP) true := Exact_refl _ (by decide) (by decide)
theorem Few_eq (x : RT) (n : Nat) : ref08_Few.f x (n : Int) = some (fewB n x) := few_cond _ _ _
def shortB (n : Nat) (p : PT) : Bool := fewB n (p1 p) && fewB n (p2 p)
theorem Short_eq (p : PT) (n : Nat) : ref08_Short.f p (n : Int) = some (shortB n p) := by
  have e1 : ref08_Few.f (p.1, p.2.1, p.2.2.1) (n : Int) = some (fewB n (p1 p)) := Few_eq (p1 p) n
  have e2 : ref08_Few.f p.2.2.2 (n : Int) = some (fewB n (p2 p)) := Few_eq (p2 p) n
  unfold ref08_Short.f shortB
  rw [e1, bindO_s, e2]
  cases fewB n (p1 p)
  · rfl
  · rw [condT, bindO_s]; rfl
def LimbsP (p : PT) : Prop := (Limbs (p1 p).2.1 ∧ Limbs (p1 p).2.2) ∧ (Limbs (p2 p).2.1 ∧ Limbs (p2 p).2.2)
theorem WP_short {n : Nat} {p : PT} (h : LimbsP p) (hs : shortB n p = true) : WP n p := by
  unfold shortB at hs
  rw [Bool.and_eq_true] at hs
  exact ⟨WQ_few h.1.1 h.1.2 hs.1, WQ_few h.2.1 h.2.2 hs.2⟩
end Go.Gm

/- Integers of the machine out of integers. -/
set_option linter.unusedVariables false
set_option linter.unusedSimpArgs false
namespace Go.Gm
open Go.Pi

def smallZ (z : Int) : Int × Bool := if -9223372036854775808 ≤ z ∧ z ≤ 9223372036854775807 then (z, true) else (0, false)
theorem zor_comm (k : IntKind) (a b : Int) : zbits .or k a b = zbits .or k b a := by
  unfold zbits
  simp only [BitVec.or_comm]
theorem small_end (n : Bool) (v : Int) (h0 : 0 ≤ v) (h1 : v < 18446744073709551616) :
    (bif n then (bif (decide (v ≤ (9223372036854775808 : Int))) then (some ((IntKind.wrap .i64 (IntKind.wrap .u64 ((zbits .xor .u64 (18446744073709551615 : Int) v) + (1 : Int)))), true)) else (bif (notB n) then (bif (decide (v < (9223372036854775808 : Int))) then (some ((IntKind.wrap .i64 v), true)) else (some ((0 : Int), false))) else (some ((0 : Int), false)))) else (bif (notB n) then (bif (decide (v < (9223372036854775808 : Int))) then (some ((IntKind.wrap .i64 v), true)) else (some ((0 : Int), false))) else (some ((0 : Int), false)))) = some (smallZ (sg n v)) := by
  unfold smallZ
  cases n
  · rw [condF, notB_f, condT, sg_f]
    by_cases h : v < 9223372036854775808
    · rw [decide_eq_true h, condT, if_pos (by omega), i64_in (by omega) (by omega)]
    · rw [decide_eq_false h, condF, if_neg (by omega)]
  · rw [condT, notB_t, condF, sg_t]
    by_cases h : v ≤ 9223372036854775808
    · rw [decide_eq_true h, condT, if_pos (by omega), xor_ones v h0 h1]
      congr 2
      rw [wrap_u64, wrap_i64]
      omega
    · rw [decide_eq_false h, condF, if_neg (by omega)]
theorem zshl32 (y : Int) (h0 : 0 ≤ y) (h1 : y < 4294967296) : zshl .u64 y 32 = y * 4294967296 := by
  have := zshl_u64 y 32 (by decide)
  rw [show (2 : Int) ^ 32 = 4294967296 by decide] at this
  rw [show (32 : Int) = ((32 : Nat) : Int) by rfl, this]; omega
theorem zshl0 (y : Int) (h0 : 0 ≤ y) (h1 : y < 4294967296) : zshl .u64 y 0 = y := by
  have := zshl_u64 y 0 (by decide)
  rw [show (0 : Int) = ((0 : Nat) : Int) by rfl, this]; omega
theorem Small1_l0 (n : Bool) (o l : List Int) (hl : Limbs l) (h2 : l.length ≤ 2) : Ev (fun k => integer_Small.l0 k 0 (l.length : Int) 0 n o l) (smallZ (sg n (val l))) := by
  have w32 : IntKind.i64.wrap (32 * 1) = 32 := by decide
  have w0 : IntKind.i64.wrap (32 * 0) = 0 := by decide
  have a0 : IntKind.i64.wrap (0 + 1) = 1 := by decide
  have a1 : IntKind.i64.wrap (1 + 1) = 2 := by decide
  match l, hl, h2 with
  | [], hl, _ =>
    refine Ev.step ?_
    have t0 : decide ((0 : Int) < (([] : List Int).length : Int)) = false := by decide
    simp only [integer_Small.l0, t0, condF]
    exact Ev.const (small_end n 0 (by decide) (by decide))
  | [x], hl, _ =>
    have hx := hl.head
    have e1 : zbits .or .u64 0 (zshl .u64 (IntKind.u64.wrap x) 0) = x := by
      rw [u64_in (by omega) (by omega), zshl0 x hx.1 hx.2, zor_parts 0 x 32 (by decide) (by decide) (by decide) (by decide) hx.1 (by rw [show (2 : Int) ^ 32 = 4294967296 by decide]; exact hx.2)]
      omega
    refine Ev.step ?_
    have t0 : decide ((0 : Int) < (([x] : List Int).length : Int)) = true := rfl
    have t1 : inb 0 ([x] : List Int).length = true := rfl
    have g0 : gd (0 : Int) [x] 0 = x := rfl
    have nn : nonneg 0 = true := rfl
    simp only [integer_Small.l0, t0, t1, g0, w0, nn, condT, e1, a0]
    refine Ev.step ?_
    have t2 : decide ((1 : Int) < (([x] : List Int).length : Int)) = false := rfl
    simp only [integer_Small.l0, t2, condF]
    have ev : val [x] = x := by simp [val]
    rw [ev]
    exact Ev.const (small_end n x hx.1 (by omega))
  | [x, y], hl, _ =>
    have hx := hl.head
    have hy := hl.tail.head
    have e1 : zbits .or .u64 0 (zshl .u64 (IntKind.u64.wrap x) 0) = x := by
      rw [u64_in (by omega) (by omega), zshl0 x hx.1 hx.2, zor_parts 0 x 32 (by decide) (by decide) (by decide) (by decide) hx.1 (by rw [show (2 : Int) ^ 32 = 4294967296 by decide]; exact hx.2)]
      omega
    have e2 : zbits .or .u64 x (zshl .u64 (IntKind.u64.wrap y) 32) = x + y * 4294967296 := by
      rw [u64_in (by omega) (by omega), zshl32 y hy.1 hy.2, zor_comm, zor_parts _ x 32 (by decide) (by omega) (by omega) (by rw [show (2 : Int) ^ 32 = 4294967296 by decide]; omega) hx.1 (by rw [show (2 : Int) ^ 32 = 4294967296 by decide]; exact hx.2)]
      omega
    refine Ev.step ?_
    have t0 : decide ((0 : Int) < (([x, y] : List Int).length : Int)) = true := rfl
    have t1 : inb 0 ([x, y] : List Int).length = true := rfl
    have g0 : gd (0 : Int) [x, y] 0 = x := rfl
    have nn : nonneg 0 = true := rfl
    simp only [integer_Small.l0, t0, t1, g0, w0, nn, condT, e1, a0]
    refine Ev.step ?_
    have t2 : decide ((1 : Int) < (([x, y] : List Int).length : Int)) = true := rfl
    have t3 : inb 1 ([x, y] : List Int).length = true := rfl
    have g1 : gd (0 : Int) [x, y] 1 = y := rfl
    have nn2 : nonneg 32 = true := rfl
    simp only [integer_Small.l0, t2, t3, g1, w32, nn2, condT, e2, a1]
    refine Ev.step ?_
    have t4 : decide ((2 : Int) < (([x, y] : List Int).length : Int)) = false := rfl
    simp only [integer_Small.l0, t4, condF]
    have ev : val [x, y] = x + y * 4294967296 := by simp [val]; omega
    rw [ev]
    exact Ev.const (small_end n _ (by omega) (by omega))
  | _ :: _ :: _ :: _, _, h => simp at h
theorem small_big (n : Bool) (v : Int) (h0 : 0 ≤ v) (h : 2 < (lm v).length) : smallZ (sg n v) = (0, false) := by
  have h1 : 18446744073709551616 ≤ v := by
    apply Int.not_lt.mp
    intro hc
    have := lm_len_le (n := 2) h0 (by rw [show (4294967296 : Int) ^ 2 = 18446744073709551616 by decide]; exact hc)
    omega
  unfold smallZ
  cases n
  · rw [sg_f, if_neg (by omega)]
  · rw [sg_t, if_neg (by omega)]
theorem Small1_ev (x : Bool × List Int) (h : WZ 90000000 x) : Ev (fun k => integer_Small.f k x) (smallZ (zv x)) := by
  have v0 := val_nonneg h.1
  unfold integer_Small.f zv
  refine Ev.bind (Norm1_ev x.2 h.1 (by have := h.2; omega)) ?_
  by_cases c : 2 < (lm (val x.2)).length
  · rw [decide_eq_true (show (((lm (val x.2)).length : Nat) : Int) > 2 by omega), small_big _ _ v0 c]
    simp only [condT]; exact Ev.pure _
  · rw [decide_eq_false (show ¬ (((lm (val x.2)).length : Nat) : Int) > 2 by omega)]
    simp only [condF]
    have := Small1_l0 x.1 x.2 (lm (val x.2)) (lm_limbs _) (by omega)
    rw [val_lm v0] at this
    exact this
end Go.Gm

/- Integers of the machine out of the reference's integers; the grid. -/
set_option linter.unusedVariables false
set_option linter.unusedSimpArgs false
namespace Go.Gm
open Go.Pi

theorem small_end2 (n : Bool) (v : Int) (h0 : 0 ≤ v) (h1 : v < 18446744073709551616) (hn : n = true → v ≠ 0) :
    (bif n then (bif (decide (v ≤ (9223372036854775808 : Int))) then (some ((IntKind.wrap .i64 ((negI .i64 (IntKind.wrap .i64 (IntKind.wrap .u64 (v - (1 : Int))))) - (1 : Int))), true)) else (bif (notB n) then (bif (decide (v ≤ (9223372036854775807 : Int))) then (some ((IntKind.wrap .i64 v), true)) else (some ((0 : Int), false))) else (some ((0 : Int), false)))) else (bif (notB n) then (bif (decide (v ≤ (9223372036854775807 : Int))) then (some ((IntKind.wrap .i64 v), true)) else (some ((0 : Int), false))) else (some ((0 : Int), false)))) = some (smallZ (sg n v)) := by
  unfold smallZ
  cases n
  · rw [condF, notB_f, condT, sg_f]
    by_cases h : v ≤ 9223372036854775807
    · rw [decide_eq_true h, condT, if_pos (by omega), i64_in (by omega) (by omega)]
    · rw [decide_eq_false h, condF, if_neg (by omega)]
  · have := hn rfl
    rw [condT, notB_t, condF, sg_t]
    by_cases h : v ≤ 9223372036854775808
    · rw [decide_eq_true h, condT, if_pos (by omega), u64_in (by omega) (by omega), i64_in (x := v - 1) (by omega) (by omega)]
      unfold negI
      rw [i64_in (x := 0 - (v - 1)) (by omega) (by omega), i64_in (by omega) (by omega)]
      congr 2; omega
    · rw [decide_eq_false h, condF, if_neg (by omega)]
theorem Small2_l0 (n : Bool) (l : List Int) (hl : Limbs l) (h2 : l.length ≤ 2) (hn : n = true → val l ≠ 0) : Ev (fun k => ref02_Small.l0 k 0 (IntKind.wrap .i64 ((l.length : Int) - 1)) n l) (smallZ (sg n (val l))) := by
  match l, hl, h2, hn with
  | [], hl, _, hn =>
    refine Ev.step ?_
    have e : IntKind.i64.wrap ((([] : List Int).length : Int) - 1) = -1 := by decide
    have t0 : decide ((-1 : Int) ≥ 0) = false := by decide
    simp only [e, ref02_Small.l0, t0, condF]
    exact Ev.const (small_end2 n 0 (by decide) (by decide) hn)
  | [x], hl, _, hn =>
    have hx := hl.head
    have e : IntKind.i64.wrap ((([x] : List Int).length : Int) - 1) = 0 := rfl
    have e0 : IntKind.i64.wrap (0 - 1) = -1 := by decide
    have t0 : decide ((0 : Int) ≥ 0) = true := by decide
    have t9 : decide ((-1 : Int) ≥ 0) = false := by decide
    have t1 : inb 0 ([x] : List Int).length = true := rfl
    have g0 : gd (0 : Int) [x] 0 = x := rfl
    have z : IntKind.u64.wrap (0 * 4294967296) = 0 := by decide
    have e1 : IntKind.u64.wrap (0 + IntKind.u64.wrap x) = x := by rw [u64_in (x := x) (by omega) (by omega), u64_in (by omega) (by omega)]; omega
    have ev : val [x] = x := by simp [val]
    refine Ev.step ?_
    simp only [e, ref02_Small.l0, t0, t1, g0, z, e1, e0, condT]
    refine Ev.step ?_
    simp only [ref02_Small.l0, t9, condF]
    rw [ev] at hn ⊢
    exact Ev.const (small_end2 n x hx.1 (by omega) hn)
  | [x, y], hl, _, hn =>
    have hx := hl.head
    have hy := hl.tail.head
    have e : IntKind.i64.wrap ((([x, y] : List Int).length : Int) - 1) = 1 := rfl
    have e0 : IntKind.i64.wrap (0 - 1) = -1 := by decide
    have e9 : IntKind.i64.wrap (1 - 1) = 0 := by decide
    have t0 : decide ((0 : Int) ≥ 0) = true := by decide
    have t8 : decide ((1 : Int) ≥ 0) = true := by decide
    have t9 : decide ((-1 : Int) ≥ 0) = false := by decide
    have t1 : inb 0 ([x, y] : List Int).length = true := rfl
    have t2 : inb 1 ([x, y] : List Int).length = true := rfl
    have g0 : gd (0 : Int) [x, y] 0 = x := rfl
    have g1 : gd (0 : Int) [x, y] 1 = y := rfl
    have z : IntKind.u64.wrap (0 * 4294967296) = 0 := by decide
    have e1 : IntKind.u64.wrap (0 + IntKind.u64.wrap y) = y := by rw [u64_in (x := y) (by omega) (by omega), u64_in (by omega) (by omega)]; omega
    have e2 : IntKind.u64.wrap (IntKind.u64.wrap (y * 4294967296) + IntKind.u64.wrap x) = x + y * 4294967296 := by rw [u64_in (x := x) (by omega) (by omega), u64_in (x := y * 4294967296) (by omega) (by omega), u64_in (by omega) (by omega)]; omega
    have ev : val [x, y] = x + y * 4294967296 := by simp [val]; omega
    refine Ev.step ?_
    simp only [e, ref02_Small.l0, t8, t2, g1, z, e1, e9, condT]
    refine Ev.step ?_
    simp only [ref02_Small.l0, t0, t1, g0, e2, e0, condT]
    refine Ev.step ?_
    simp only [ref02_Small.l0, t9, condF]
    rw [ev] at hn ⊢
    exact Ev.const (small_end2 n _ (by omega) (by omega) hn)
  | _ :: _ :: _ :: _, _, h, _ => simp at h
theorem Small2_ev (x : Bool × List Int) (h : WZ 90000000 x) : Ev (fun k => ref02_Small.f k x) (smallZ (zv x)) := by
  unfold ref02_Small.f
  refine Ev.bind (Norm2Z_ev x h) ?_
  rw [(nfZ_one _).1, (nfZ_one _).2]
  generalize zv x = z
  have e : sg (decide (z < 0)) (ab z) = z := by
    have := zv_nfZ z
    unfold zv nfZ at this
    simp only [val_lm (ab_nn z)] at this
    exact this
  by_cases c : 2 < (lm (ab z)).length
  · have sb := small_big (decide (z < 0)) (ab z) (ab_nn z) c
    rw [e] at sb
    rw [decide_eq_true (show (((lm (ab z)).length : Nat) : Int) > 2 by omega), sb]
    simp only [condT]; exact Ev.pure _
  · rw [decide_eq_false (show ¬ (((lm (ab z)).length : Nat) : Int) > 2 by omega)]
    simp only [condF]
    have := Small2_l0 (decide (z < 0)) (lm (ab z)) (lm_limbs _) (by omega) (by
      intro hd
      have := of_decide_eq_true hd
      rw [val_lm (ab_nn z)]; unfold ab; rw [if_pos this]; omega)
    rw [val_lm (ab_nn z), e] at this
    exact this
/-! the grid -/
def inG (z : Int) : Prop := -1048576 ≤ z ∧ z ≤ 1048576
instance (z : Int) : Decidable (inG z) := inferInstanceAs (Decidable (_ ∧ _))
def gridD (x y : Rat) : (Int × Int) × Int := if inG (rnd x) ∧ inG (rnd y) then ((rnd x, rnd y), 0) else ((0, 0), 3)
theorem coord_ev {n : Nat} (h1 : 1 ≤ n) (hn : n ≤ 1000000) (x : RT) (h : WQ n x) : ∃ v : Int, Ev (fun k => point_coordinate.f k x) (v, decide (inG (rnd (qv x)))) ∧ (inG (rnd (qv x)) → v = rnd (qv x)) := by
  have rl := rnd_len (qv_RS h1 h)
  have s := Small1_ev _ (rl.mono (by omega))
  rw [zv_nfZ] at s
  generalize hz : rnd (qv x) = z at *
  refine ⟨(smallZ z).1, ?_, ?_⟩
  · unfold point_coordinate.f
    refine Ev.bind (Round1Q_ev h1 (by omega) x h) ?_
    rw [hz]
    refine Ev.bind s ?_
    unfold smallZ
    by_cases c : -9223372036854775808 ≤ z ∧ z ≤ 9223372036854775807
    · rw [if_pos c]
      simp only [condT]
      by_cases c2 : z ≥ -1048576
      · simp only [decide_eq_true c2, condT]
        refine Ev.eq (Ev.pure _) ?_
        congr 1
        rw [Bool.eq_iff_iff, decide_eq_true_iff, decide_eq_true_iff]
        unfold inG; omega
      · simp only [decide_eq_false c2, condF]
        refine Ev.eq (Ev.pure _) ?_
        congr 1
        rw [decide_eq_false (by unfold inG; omega)]
    · rw [if_neg c]
      simp only [condF]
      refine Ev.eq (Ev.pure _) ?_
      congr 1
      rw [decide_eq_false (by unfold inG; omega)]
  · intro hi
    unfold inG at hi
    unfold smallZ
    rw [if_pos (by omega)]
theorem PGrid1_ev {n : Nat} (h1 : 1 ≤ n) (hn : n ≤ 1000000) (p : PT) (h : WP n p) : Ev (fun k => point_Grid.f k p) (gridD (px p) (py p)) := by
  obtain ⟨u, e1, g1⟩ := coord_ev h1 hn (p1 p) h.1
  obtain ⟨v, e2, g2⟩ := coord_ev h1 hn (p2 p) h.2
  unfold point_Grid.f gridD px py
  refine Ev.bind e1 (Ev.bind e2 ?_)
  by_cases c1 : inG (rnd (qv (p1 p)))
  · by_cases c2 : inG (rnd (qv (p2 p)))
    · rw [decide_eq_true c1, decide_eq_true c2, if_pos ⟨c1, c2⟩, g1 c1, g2 c2]
      simp only [notB_t, condF]; exact Ev.pure _
    · rw [decide_eq_true c1, decide_eq_false c2, if_neg (fun h => c2 h.2)]
      simp only [notB_t, notB_f, condF, condT]; exact Ev.pure _
  · rw [decide_eq_false c1, if_neg (fun h => c1 h.1)]
    simp only [notB_f, condT]; exact Ev.pure _
theorem PGrid2_ev {n : Nat} (h1 : 1 ≤ n) (hn : n ≤ 1000000) (p : PT) (h : WP n p) : Ev (fun k => ref08_Grid.f k p) (gridD (px p) (py p)) := by
  have rx := rnd_len (qv_RS h1 h.1)
  have ry := rnd_len (qv_RS h1 h.2)
  have sx := Small2_ev _ (rx.mono (by omega))
  have sy := Small2_ev _ (ry.mono (by omega))
  rw [zv_nfZ] at sx sy
  unfold ref08_Grid.f gridD px py
  refine Ev.bind (Round2Q_ev h1 (by omega) (p1 p) h.1) (Ev.bind sx (Ev.bind (Round2Q_ev h1 (by omega) (p2 p) h.2) (Ev.bind sy ?_)))
  generalize rnd (qv (p1 p)) = x
  generalize rnd (qv (p2 p)) = y
  unfold smallZ inG
  by_cases c1 : -9223372036854775808 ≤ x ∧ x ≤ 9223372036854775807
  · rw [if_pos c1]
    by_cases c2 : -9223372036854775808 ≤ y ∧ y ≤ 9223372036854775807
    · rw [if_pos c2]
      simp only [notB_t, condF]
      by_cases d1 : x < -1048576
      · simp only [decide_eq_true d1, condT]; rw [if_neg (by omega)]; exact Ev.pure _
      · by_cases d2 : x > 1048576
        · simp only [decide_eq_false d1, decide_eq_true d2, condT, condF]; rw [if_neg (by omega)]; exact Ev.pure _
        · by_cases d3 : y < -1048576
          · simp only [decide_eq_false d1, decide_eq_false d2, decide_eq_true d3, condT, condF]; rw [if_neg (by omega)]; exact Ev.pure _
          · by_cases d4 : y > 1048576
            · simp only [decide_eq_false d1, decide_eq_false d2, decide_eq_false d3, decide_eq_true d4, condT, condF]; rw [if_neg (by omega)]; exact Ev.pure _
            · simp only [decide_eq_false d1, decide_eq_false d2, decide_eq_false d3, decide_eq_false d4, condF]; rw [if_pos (by omega)]; exact Ev.pure _
    · rw [if_neg c2, if_neg (by omega)]
      simp only [notB_t, notB_f, condF, condT]; exact Ev.pure _
  · rw [if_neg c1]
    simp only [notB_f, condT]
    rw [if_neg (by omega)]; exact Ev.pure _
end Go.Gm

/- Allowances: corners. -/
set_option linter.unusedVariables false
set_option linter.unusedSimpArgs false
namespace Go.Gm
open Go.Pi

def addS (a b : Spot) : Spot := (a.1 + b.1, a.2 + b.2)
def fromS (x : SideT) : Spot := (x.1, x.2.1)
def toS (x : SideT) : Spot := (x.2.2.1, x.2.2.2.1)
def widS (x : SideT) : Int := x.2.2.2.2.1
def shS (x : SideT) : Spot := x.2.2.2.2.2
def mFrom (x : SideT) : Spot := addS (fromS x) (shS x)
def mTo (x : SideT) : Spot := addS (toS x) (shS x)
def meetDI (a b c d : Spot) : Rat := meetD a.1 a.2 b.1 b.2 c.1 c.2 d.1 d.2
def ptI (a : Spot) : PT := nfP (a.1 : Rat) (a.2 : Rat)
def meetI (a b c d : Spot) : Rat × Rat := meetP (ptI a) (ptI b) (ptI c) (ptI d)
def absI (n : Int) : Int := max n (-n)
def mostS (a b : SideT) : Int := 4 * max (widS a) (widS b) + 4
def cornD (a b : SideT) : (Int × Int) × Int := gridD ((meetI (mFrom a) (mTo a) (mFrom b) (mTo b)).1 - (fromS b).1) ((meetI (mFrom a) (mTo a) (mFrom b) (mTo b)).2 - (fromS b).2)
/-- The points between two sides. -/
def cornerS (a b : SideT) : List Spot :=
  if meetDI (mFrom a) (mTo a) (mFrom b) (mTo b) ≠ 0 ∧ (cornD a b).2 = 0 ∧ absI (cornD a b).1.1 ≤ mostS a b ∧ absI (cornD a b).1.2 ≤ mostS a b then [addS (fromS b) (cornD a b).1] else [mTo a, mFrom b]
structure SideOk (x : SideT) : Prop where
  f : Ins (fromS x)
  t : Ins (toS x)
  w : 0 ≤ widS x ∧ widS x ≤ 500
  s1 : -1048576001 ≤ (shS x).1 ∧ (shS x).1 ≤ 1048576001
  s2 : -1048576001 ≤ (shS x).2 ∧ (shS x).2 ≤ 1048576001
theorem add_eq {a b : Spot} (h1 : -2000000000 ≤ a.1 ∧ a.1 ≤ 2000000000) (h2 : -2000000000 ≤ a.2 ∧ a.2 ≤ 2000000000) (h3 : -2000000000 ≤ b.1 ∧ b.1 ≤ 2000000000) (h4 : -2000000000 ≤ b.2 ∧ b.2 ≤ 2000000000) : allowance_add.f a b = some (addS a b) := by
  unfold allowance_add.f addS
  rw [i64_in (by omega) (by omega), i64_in (by omega) (by omega)]
theorem moved_eq {x : SideT} (h : SideOk x) : allowance_side_moved.f x = some (mFrom x, mTo x) := by
  unfold allowance_side_moved.f
  obtain ⟨⟨f1, f2⟩, f3, f4⟩ := h.f
  obtain ⟨⟨t1, t2⟩, t3, t4⟩ := h.t
  have s1 := h.s1
  have s2 := h.s2
  have e1 : allowance_add.f (x.1, x.2.1) x.2.2.2.2.2 = some (mFrom x) := add_eq (a := fromS x) (b := shS x) (by omega) (by omega) (by omega) (by omega)
  have e2 : allowance_add.f (x.2.2.1, x.2.2.2.1) x.2.2.2.2.2 = some (mTo x) := add_eq (a := toS x) (b := shS x) (by omega) (by omega) (by omega) (by omega)
  rw [e1, bindO_s, e2, bindO_s]
/-- Not beyond what an int holds. -/
def I64 (a : Spot) : Prop := (-9223372036854775808 ≤ a.1 ∧ a.1 ≤ 9223372036854775807) ∧ (-9223372036854775808 ≤ a.2 ∧ a.2 ≤ 9223372036854775807)
theorem of_ev {a : Spot} (h : I64 a) : Ev (fun k => allowance_of.f k a) (ptI a) := by
  unfold allowance_of.f
  exact Ev.bind (POf1_ev a.1 a.2 h.1.1 h.1.2 h.2.1 h.2.2) (Ev.pure _)
theorem WP_I {a : Spot} (h : I64 a) : WP 2 (ptI a) := WP_nf (RS_i64 h.1.1 h.1.2) (RS_i64 h.2.1 h.2.2)
theorem mBd {x : SideT} (h : SideOk x) : ((-1049624577 ≤ (mFrom x).1 ∧ (mFrom x).1 ≤ 1049624577) ∧ (-1049624577 ≤ (mFrom x).2 ∧ (mFrom x).2 ≤ 1049624577)) ∧ ((-1049624577 ≤ (mTo x).1 ∧ (mTo x).1 ≤ 1049624577) ∧ (-1049624577 ≤ (mTo x).2 ∧ (mTo x).2 ≤ 1049624577)) := by
  obtain ⟨⟨f1, f2⟩, f3, f4⟩ := h.f
  obtain ⟨⟨t1, t2⟩, t3, t4⟩ := h.t
  have s1 := h.s1
  have s2 := h.s2
  unfold mFrom mTo addS
  omega
theorem I64_of {a : Spot} (h : (-1049624577 ≤ a.1 ∧ a.1 ≤ 1049624577) ∧ (-1049624577 ≤ a.2 ∧ a.2 ≤ 1049624577)) : I64 a := by unfold I64; omega
theorem I64_ins {a : Spot} (h : Ins a) : I64 a := by obtain ⟨⟨a1, a2⟩, a3, a4⟩ := h; unfold I64; omega
theorem grid_bd (x y : Rat) : (-1048576 ≤ (gridD x y).1.1 ∧ (gridD x y).1.1 ≤ 1048576) ∧ (-1048576 ≤ (gridD x y).1.2 ∧ (gridD x y).1.2 ≤ 1048576) := by
  unfold gridD
  split
  · rename_i h
    have h1 := h.1
    have h2 := h.2
    unfold inG at h1 h2
    exact ⟨by simpa using h1, by simpa using h2⟩
  · decide
theorem corner_ev {a b : SideT} (ha : SideOk a) (hb : SideOk b) : Ev (fun k => allowance_corner.f k a b) (cornerS a b) := by
  unfold allowance_corner.f
  obtain ⟨a1, a2⟩ := mBd ha
  obtain ⟨b1, b2⟩ := mBd hb
  have wa1 := WP_I (I64_of a1)
  have wa2 := WP_I (I64_of a2)
  have wb1 := WP_I (I64_of b1)
  have wb2 := WP_I (I64_of b2)
  refine Ev.bs (moved_eq ha) (Ev.bs (moved_eq hb) (Ev.bind (of_ev (I64_of a1)) (Ev.bind (of_ev (I64_of a2)) (Ev.bind (of_ev (I64_of b1)) (Ev.bind (of_ev (I64_of b2)) (Ev.bind (PMeet1_ev (n := 2) (by decide) (by decide) _ _ _ _ wa1 wa2 wb1 wb2) ?_))))))
  have hD : meetD (px (ptI (mFrom a))) (py (ptI (mFrom a))) (px (ptI (mTo a))) (py (ptI (mTo a))) (px (ptI (mFrom b))) (py (ptI (mFrom b))) (px (ptI (mTo b))) (py (ptI (mTo b))) = meetDI (mFrom a) (mTo a) (mFrom b) (mTo b) := by
    unfold ptI meetDI
    simp only [px_nf, py_nf]
  rw [hD]
  unfold cornerS
  by_cases c : meetDI (mFrom a) (mTo a) (mFrom b) (mTo b) = 0
  · rw [if_pos c, if_neg (fun h => h.1 c)]
    exact Ev.cf rfl (Ev.pure _)
  rw [if_neg c]
  have wf := I64_ins hb.f
  have hm := WP_meet (n := 2) (by decide) wa1 wa2 wb1 wb2
  have wfn : WP 50 (ptI (fromS b)) := (WP_I wf).mono (by decide)
  refine Ev.ct rfl (Ev.bind (of_ev wf) (Ev.bind (PSub1_ev (n := 50) (by decide) (by decide) _ _ hm wfn) ?_))
  have hs := WP_sub (n := 50) (by decide) hm wfn
  refine Ev.bind (x := cornD a b) (Ev.eq (PGrid1_ev (n := 101) (by decide) (by decide) _ hs) ?_) ?_
  · unfold cornD meetI ptI
    simp only [px_nf, py_nf]
    rfl
  have gb := grid_bd ((meetI (mFrom a) (mTo a) (mFrom b) (mTo b)).1 - (fromS b).1) ((meetI (mFrom a) (mTo a) (mFrom b) (mTo b)).2 - (fromS b).2)
  have gb : (-1048576 ≤ (cornD a b).1.1 ∧ (cornD a b).1.1 ≤ 1048576) ∧ (-1048576 ≤ (cornD a b).1.2 ∧ (cornD a b).1.2 ≤ 1048576) := gb
  by_cases c1 : ¬ (cornD a b).2 = 0
  · rw [if_neg (fun h => c1 h.2.1)]
    exact Ev.cf (beq_eq_false_iff_ne.2 c1) (Ev.pure _)
  have c1 := Classical.not_not.1 c1
  have n1 : negI .i64 (cornD a b).1.1 = -(cornD a b).1.1 := by unfold negI; rw [i64_in (by omega) (by omega)]; omega
  have n2 : negI .i64 (cornD a b).1.2 = -(cornD a b).1.2 := by unfold negI; rw [i64_in (by omega) (by omega)]; omega
  have hwa := ha.w
  have hwb := hb.w
  have wm : IntKind.i64.wrap (IntKind.i64.wrap (4 * List.foldl zmax a.2.2.2.2.1 [b.2.2.2.2.1]) + 4) = mostS a b := by
    rw [max_eq]
    unfold mostS
    unfold widS at *
    rw [i64_in (x := 4 * _) (by omega) (by omega), i64_in (by omega) (by omega)]
  rw [n1, n2, wm, max_eq, max_eq]
  refine Ev.ct (beq_iff_eq.2 c1) ?_
  by_cases c2 : absI (cornD a b).1.1 ≤ mostS a b
  · refine Ev.ct (decide_eq_true c2) ?_
    by_cases c3 : absI (cornD a b).1.2 ≤ mostS a b
    · rw [if_pos ⟨c, c1, c2, c3⟩]
      obtain ⟨⟨f1, f2⟩, f3, f4⟩ := hb.f
      have e : allowance_add.f (b.1, b.2.1) (cornD a b).1 = some (addS (fromS b) (cornD a b).1) := add_eq (a := fromS b) (by omega) (by omega) (by omega) (by omega)
      exact Ev.ct (decide_eq_true c3) (Ev.bs e (Ev.pure _))
    · rw [if_neg (fun h => c3 h.2.2.2)]
      exact Ev.cf (decide_eq_false c3) (Ev.pure _)
  · rw [if_neg (fun h => c2 h.2.2.1)]
    exact Ev.cf (decide_eq_false c2) (Ev.pure _)
theorem corner_len (a b : SideT) : (cornerS a b).length ≤ 2 := by
  unfold cornerS
  split
  · exact Nat.le_succ 1
  · exact Nat.le_refl 2
end Go.Gm

/- Allowances: the moved outline. -/
set_option linter.unusedVariables false
set_option linter.unusedSimpArgs false
namespace Go.Gm
open Go.Pi

def d0 : SideT := (0, 0, 0, 0, 0, 0, 0)
/-- A point is added if it is not the last one. -/
def push (l : List Spot) (p : Spot) : List Spot := if l.length = 0 ∨ lastS l ≠ p then l ++ [p] else l
theorem push_len (l : List Spot) (p : Spot) : (push l p).length ≤ l.length + 1 := by
  unfold push
  split
  · simp
  · omega
def prevI (S : List SideT) (i : Nat) : SideT := S.getD ((i + S.length - 1) % S.length) d0
def cornersTo (S : List SideT) (i : Nat) : List Spot := (List.range i).foldl (fun out j => (cornerS (prevI S j) (S.getD j d0)).foldl push out) []
theorem cornersTo_succ (S : List SideT) (i : Nat) : cornersTo S (i + 1) = (cornerS (prevI S i) (S.getD i d0)).foldl push (cornersTo S i) := by
  unfold cornersTo
  rw [List.range_succ, List.foldl_append]
  rfl
theorem foldl_push_len : ∀ (ps l : List Spot), (ps.foldl push l).length ≤ l.length + ps.length
  | [], l => by simp
  | p :: ps, l => by
    rw [List.foldl_cons, List.length_cons]
    have := foldl_push_len ps (push l p)
    have := push_len l p
    omega
theorem cornersTo_len (S : List SideT) : ∀ i, (cornersTo S i).length ≤ 2 * i
  | 0 => by simp [cornersTo]
  | i + 1 => by
    rw [cornersTo_succ]
    have := foldl_push_len (cornerS (prevI S i) (S.getD i d0)) (cornersTo S i)
    have := corner_len (prevI S i) (S.getD i d0)
    have := cornersTo_len S i
    omega
def trimN : Nat → List Spot → List Spot
  | 0, l => l
  | n + 1, l => if 2 ≤ l.length ∧ lastS l = l.getD 0 (0, 0) then trimN n (l.take (l.length - 1)) else l
def trimE (l : List Spot) : List Spot := trimN l.length l
/-- The moved outline. -/
def movedO (S : List SideT) : List Spot := trimE (cornersTo S S.length)
open Classical in
/-- Its error. -/
noncomputable def movedE (p : List Spot) (s : Int) : Int := if ∀ q ∈ p, Ins q then (if checkP p = 0 then (if area2 p * s < 0 then 11 else 0) else checkP p) else 3
/-- What is handed back for a moved outline. -/
noncomputable def movedR (p : List Spot) (s : Int) : List Spot × Int := if movedE p s = 0 then (p, 0) else ([], movedE p s)
theorem trimN_len : ∀ n l, (trimN n l).length ≤ l.length
  | 0, l => Nat.le_refl _
  | n + 1, l => by
    unfold trimN
    split
    · have := trimN_len n (l.take (l.length - 1))
      rw [List.length_take] at this
      omega
    · exact Nat.le_refl _

theorem area2_bd {p : List Spot} (hin : ∀ q ∈ p, Ins q) (h3 : 0 < p.length) (hp : p.length ≤ 1000) : -4398046511104000 ≤ area2 p ∧ area2 p ≤ 4398046511104000 := by
  have I := insI h3 hin
  have := sumN_bound (n := p.length) (f := fun i => (atI p i).1 * (atI p (i + 1)).2 - (atI p i).2 * (atI p (i + 1)).1) (B := 2 * 1099511627776) (by decide) (fun j _ => by
    obtain ⟨⟨a1, a2⟩, a3, a4⟩ := I j
    obtain ⟨⟨b1, b2⟩, b3, b4⟩ := I ((j : Int) + 1)
    have m1 := mul_bd (x := (atI p j).1) (y := (atI p ((j : Int) + 1)).2) (A := 1048576) (B := 1048576) (by omega) (by omega)
    have m2 := mul_bd (x := (atI p j).2) (y := (atI p ((j : Int) + 1)).1) (A := 1048576) (B := 1048576) (by omega) (by omega)
    omega)
  unfold area2
  omega
section
variable {s : Int} (hs : s = 1 ∨ s = -1)
include hs
theorem moved3 (p : List Spot) (hp : p.length ≤ 1000000) : Ev (fun k => allowance_Allow.l3 k s (p.length : Int) ((0 : Nat) : Int) p) (movedR p s) := by
  unfold movedR
  refine search (Q := fun i => Ev (fun k => allowance_Allow.l3 k s (p.length : Int) (i : Int) p) _) (bad := fun i => ¬ Ins (p.getD i (0, 0))) (n := p.length) ?_ ?_ ?_
  · intro hn
    have hi : ∀ q ∈ p, Ins q := (all_getD (0, 0) p Ins).2 fun i hi => Classical.not_not.1 (hn i hi)
    have hm : movedE p s = if checkP p = 0 then (if area2 p * s < 0 then 11 else 0) else checkP p := by
      unfold movedE
      rw [if_pos hi]
    refine Ev.step ?_
    simp only [allowance_Allow.l3]
    refine Ev.cf dge (Ev.bind (Check_ev p) ?_)
    by_cases c : checkP p = 0
    · rw [if_pos c] at hm
      obtain ⟨k1, k2, k3, k4⟩ := checkP_ok.1 c
      have ha := Area2_ev p
      rw [if_pos c] at ha
      refine Ev.cf (by rw [c]; rfl) (Ev.bind ha ?_)
      have hb := area2_bd k3 (by omega) (by omega)
      have hw : IntKind.i64.wrap (area2 p * s) = area2 p * s := by rcases hs with rfl | rfl <;> exact i64_in (by omega) (by omega)
      rw [hw]
      by_cases c2 : area2 p * s < 0
      · rw [if_pos c2] at hm
        rw [hm]
        exact Ev.ct (decide_eq_true c2) (Ev.pure _)
      · rw [if_neg c2] at hm
        rw [hm]
        exact Ev.cf (decide_eq_false c2) (Ev.pure _)
    · rw [if_neg c] at hm
      rw [hm, if_neg c]
      exact Ev.ct (bne_iff_ne.2 c) (Ev.pure _)
  all_goals
    intro i hi _ hb
    have gp : gd ((0 : Int), (0 : Int)) p (i : Int) = p.getD i (0, 0) := rfl
    have wi : IntKind.i64.wrap ((i : Int) + 1) = ((i + 1 : Nat) : Int) := wadd1 (by omega)
  · have hm : movedE p s = 3 := by
      unfold movedE
      rw [if_neg]
      intro h
      exact hb ((all_getD (0, 0) p Ins).1 h i hi)
    rw [hm]
    refine Ev.step ?_
    simp only [allowance_Allow.l3, gp]
    refine Ev.ct (dlt hi) (Ev.ct (inbN hi) ?_)
    refine Ev.cd (fun _ => Ev.pure _) fun h1 => Ev.cd (fun _ => Ev.pure _) fun h2 => Ev.cd (fun _ => Ev.pure _) fun h3 => Ev.cd (fun _ => Ev.pure _) fun h4 => ?_
    exact absurd (show Ins (p.getD i (0, 0)) from ⟨⟨by omega, by omega⟩, by omega, by omega⟩) hb
  · intro q
    obtain ⟨⟨k1, k2⟩, k3, k4⟩ := Classical.not_not.1 hb
    refine Ev.step ?_
    simp only [allowance_Allow.l3, gp, wi]
    exact Ev.ct (dlt hi) (Ev.ct (inbN hi) (Ev.cf (decide_eq_false (by omega)) (Ev.cf (decide_eq_false (by omega)) (Ev.cf (decide_eq_false (by omega)) (Ev.cf (decide_eq_false (by omega)) q)))))
theorem moved2 : ∀ (n : Nat) (p : List Spot), p.length ≤ n → p.length ≤ 1000000 → Ev (fun k => allowance_Allow.l2 k s p) (movedR (trimN n p) s)
  | 0, p, hn, hp => by
    have h0 : p.length = 0 := by omega
    refine Ev.step ?_
    simp only [allowance_Allow.l2]
    exact Ev.cf (decide_eq_false (by omega)) (moved3 hs p hp)
  | n + 1, p, hn, hp => by
    unfold trimN
    refine Ev.step ?_
    simp only [allowance_Allow.l2]
    by_cases c : 2 ≤ p.length
    · have w1 : IntKind.i64.wrap ((p.length : Int) - 1) = ((p.length - 1 : Nat) : Int) := wsub (j := 1) (by omega) (by omega)
      simp only [w1, spotEq]
      refine Ev.ct (decide_eq_true (by omega)) (Ev.ct (inbN (by omega)) (Ev.ct (inb_t' (by omega) (by omega)) ?_))
      by_cases c2 : lastS p = p.getD 0 (0, 0)
      · rw [if_pos ⟨c, c2⟩]
        refine Ev.ct (decide_eq_true c2) (Ev.ct ?_ ?_)
        · rw [decide_eq_true (by omega), decide_eq_true (by omega)]; rfl
        · exact moved2 n (p.take (p.length - 1)) (by rw [List.length_take]; omega) (by rw [List.length_take]; omega)
      · rw [if_neg (fun h => c2 h.2)]
        exact Ev.cf (decide_eq_false c2) (moved3 hs p hp)
    · rw [if_neg (fun h => c h.1)]
      exact Ev.cf (decide_eq_false (by omega)) (moved3 hs p hp)
variable {S : List SideT} (hS : S.length ≤ 100000) (hok : ∀ i, i < S.length → SideOk (S.getD i d0))
include hS hok
omit hs hok in
theorem moved1 {R : List Spot × Int} (i : Nat) (hi : i < S.length) (ps : List Spot) (hps : ps.length ≤ 2) (A : List Spot) (hA : A.length ≤ 2 * i) (ih : Ev (fun k => allowance_Allow.l0 k s (S.length : Int) ((i + 1 : Nat) : Int) S (ps.foldl push A)) R) :
    Ev (fun k => allowance_Allow.l1 k s (S.length : Int) (i : Int) (ps.length : Int) 0 S A ps) R := by
  refine down (Q := fun j => Ev (fun k => allowance_Allow.l1 k s (S.length : Int) (i : Int) (ps.length : Int) (j : Int) S ((ps.take j).foldl push A) ps) R) (n := ps.length) ?_ ?_
  · refine Ev.step ?_
    simp only [allowance_Allow.l1]
    rw [List.take_length, wadd1 (i := i) (by omega)]
    exact Ev.cf dge ih
  · intro j hj q
    rw [take_succ' ps j hj, List.foldl_append, List.foldl_cons, List.foldl_nil] at q
    have hl := foldl_push_len (ps.take j) A
    rw [List.length_take] at hl
    generalize (ps.take j).foldl push A = B at hl q ⊢
    refine Ev.step ?_
    simp only [allowance_Allow.l1]
    rw [wadd1 (i := j) (by omega), gd_get' _ ps j hj]
    unfold push at q
    refine Ev.ct (dlt hj) (Ev.ct (inbN hj) ?_)
    by_cases c : B.length = 0
    · rw [if_pos (.inl c)] at q
      exact Ev.ct (beq_iff_eq.2 (by omega)) (Ev.ct (fits_ok (by show (B.length + 1) * 16 ≤ _; omega)) q)
    · have w1 : IntKind.i64.wrap ((B.length : Int) - 1) = ((B.length - 1 : Nat) : Int) := wsub (j := 1) (by omega) (by omega)
      simp only [w1, spotEq]
      refine Ev.cf (beq_eq_false_iff_ne.2 (by omega)) (Ev.ct (inbN (by omega)) ?_)
      by_cases c2 : lastS B = ps[j]
      · rw [if_neg (fun h => h.elim c fun h => h c2)] at q
        exact Ev.cf (by show notB (decide (lastS B = ps[j])) = false; rw [decide_eq_true c2]; rfl) q
      · rw [if_pos (.inr c2)] at q
        exact Ev.ct (by show notB (decide (lastS B = ps[j])) = true; rw [decide_eq_false c2]; rfl) (Ev.ct (fits_ok (by show (B.length + 1) * 16 ≤ _; omega)) q)
theorem moved0 : Ev (fun k => allowance_Allow.l0 k s (S.length : Int) 0 S []) (movedR (movedO S) s) := by
  refine down (Q := fun i => Ev (fun k => allowance_Allow.l0 k s (S.length : Int) (i : Int) S (cornersTo S i)) _) (n := S.length) ?_ ?_
  · refine Ev.step ?_
    simp only [allowance_Allow.l0]
    have hl := cornersTo_len S S.length
    exact Ev.cf dge (moved2 hs _ _ (Nat.le_refl _) (by omega))
  · intro i hi q
    refine Ev.step ?_
    simp only [allowance_Allow.l0]
    have w1 : IntKind.i64.wrap ((i : Int) + (S.length : Int)) = ((i + S.length : Nat) : Int) := wadd S.length (by omega)
    have w2 : IntKind.i64.wrap (((i + S.length : Nat) : Int) - 1) = ((i + S.length - 1 : Nat) : Int) := wsub (j := 1) (by omega) (by omega)
    have hm : (i + S.length - 1) % S.length < S.length := Nat.mod_lt _ (by omega)
    have ga : gd ((0 : Int), (0 : Int), (0 : Int), (0 : Int), (0 : Int), (0 : Int), (0 : Int)) S ((((i + S.length - 1) % S.length : Nat) : Int)) = prevI S i := rfl
    have gb : gd ((0 : Int), (0 : Int), (0 : Int), (0 : Int), (0 : Int), (0 : Int), (0 : Int)) S (i : Int) = S.getD i d0 := rfl
    rw [w1, w2, tmod_nat, ga, gb]
    rw [cornersTo_succ] at q
    refine Ev.ct (dlt hi) (Ev.ct (inbN hi) (Ev.ct (ne0 (by omega)) (Ev.ct (inbN hm) (Ev.bind (corner_ev (hok _ hm) (hok i hi)) (moved1 hS i hi _ (corner_len _ _) _ (cornersTo_len S i) q)))))
end
/-- All sides of an outline are within the limits. -/
theorem segs_ok {l : List ED} {ws : List Int} (ho : Out l) (hok : wOk ws) {s : Int} (hs : s = 1 ∨ s = -1) : ∀ x ∈ segs l ws s, SideOk x := by
  intro x hx
  unfold segs segsTo at hx
  obtain ⟨i, hi, hx⟩ := List.mem_flatMap.1 hx
  have hi := List.mem_range.1 hi
  unfold segsN at hx
  obtain ⟨m, hm, rfl⟩ := List.mem_map.1 hx
  have hm := List.mem_range.1 hm
  obtain ⟨h40, h2, hin, hne⟩ := lineE_ok.1 (ho.line i hi)
  have ha : Ins ((l.getD i e0).2.getD m (0, 0)) := (all_getD (0, 0) _ Ins).1 hin m (by omega)
  have hb : Ins ((l.getD i e0).2.getD (m + 1) (0, 0)) := (all_getD (0, 0) _ Ins).1 hin (m + 1) (by omega)
  have hab : (l.getD i e0).2.getD m (0, 0) ≠ (l.getD i e0).2.getD (m + 1) (0, 0) := fun e => hne (m + 1) (by omega) (by omega) e.symm
  have hw := wOk_get hok i
  have hb2 := shift_bd ha hb hab hw hs
  exact ⟨ha, hb, hw, hb2.1, hb2.2⟩
theorem Allow_ev (l : List ED) (ws : List Int) (hf : Few l) (hl : l.length ≤ 50) (hw : ws.length ≤ 1000000) : Ev (fun k => allowance_Allow.f k l ws) (if sidesE l ws = 0 then movedR (movedO (segs l ws (signO l))) (signO l) else ([], sidesE l ws)) := by
  unfold allowance_Allow.f
  refine Ev.bind (sides24_ev l ws hf hw) ?_
  by_cases h : sidesE l ws = 0
  · rw [if_pos h, if_pos h]
    obtain ⟨ho, h1, h2⟩ := sidesE_ok.1 h
    have hS : (segs l ws (signO l)).length ≤ 100000 := by
      have := segsTo_len hf ws (signO l) l.length (Nat.le_refl _)
      unfold segs
      omega
    exact Ev.cf rfl (moved0 (signO_or l) hS fun i hi => by rw [getD_lt d0 _ hi]; exact segs_ok ho h2 (signO_or l) _ (List.getElem_mem hi))
  · rw [if_neg h, if_neg h]
    exact Ev.ct (bne_iff_ne.2 h) (Ev.pure _)
end Go.Gm
