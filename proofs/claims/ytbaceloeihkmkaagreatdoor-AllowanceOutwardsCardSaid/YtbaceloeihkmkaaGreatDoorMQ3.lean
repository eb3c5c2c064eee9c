/- Merged from small texts. -/
import Derived.Test.YtbaceloeihkmkaaGreatDoorDQ1
import Derived.Test.YtbaceloeihkmkaaGreatDoorDQ2
import Derived.Test.YtbaceloeihkmkaaGreatDoorMQ2
/- Outlines: the checks of the program. -/
set_option linter.unusedVariables false
set_option linter.unusedSimpArgs false
namespace Go.Gm
open Go.Pi

abbrev ED := ByteArray × List Spot
def e0 : ED := (⟨#[]⟩, [])
theorem gd_one {α : Type} (d x : α) : gd d [x] 0 = x := rfl
open Classical in
noncomputable def edgeE (l : List ED) (i : Nat) : Int :=
  if nameB (l.getD i e0).1 = false then 1 else if ∃ j, j < i ∧ (l.getD j e0).1 = (l.getD i e0).1 then 7 else lineE (l.getD i e0).2
def firstE (f : Nat → Int) : Nat → Nat → Int
  | _, 0 => 0
  | i, n + 1 => if f i = 0 then firstE f (i + 1) n else f i
theorem firstE_ok {f : Nat → Int} : ∀ (n i : Nat), firstE f i n = 0 ↔ ∀ j, i ≤ j → j < i + n → f j = 0
  | 0, i => ⟨fun _ j h1 h2 => by omega, fun _ => rfl⟩
  | n + 1, i => by
    unfold firstE
    by_cases h : f i = 0
    · rw [if_pos h, firstE_ok n (i + 1)]
      constructor
      · intro h2 j h3 h4
        by_cases e : j = i
        · rw [e]; exact h
        · exact h2 j (by omega) (by omega)
      · intro h2 j h3 h4
        exact h2 j (by omega) (by omega)
    · rw [if_neg h]
      exact ⟨fun e => absurd e h, fun h2 => h2 i (by omega) (by omega)⟩
theorem firstE_step (f : Nat → Int) {i n : Nat} (h : i < n) : firstE f i (n - i) = if f i = 0 then firstE f (i + 1) (n - (i + 1)) else f i := by
  rw [show n - i = (n - (i + 1)) + 1 by omega]
  rfl
noncomputable def edgesE (l : List ED) : Int := firstE (edgeE l) 0 l.length
def lastS (l : List Spot) : Spot := l.getD (l.length - 1) (0, 0)
/-- The edge before the edge i ends where this one begins. -/
def joint (l : List ED) (i : Nat) : Prop := lastS (l.getD ((i + l.length - 1) % l.length) e0).2 = (l.getD i e0).2.getD 0 (0, 0)
def verts (l : List ED) : List Spot := l.flatMap fun x => x.2.take (x.2.length - 1)
open Classical in
/-- The first error of an outline. -/
noncomputable def outE (l : List ED) : Int :=
  if 16 < l.length then 5 else if l.length < 2 then 11 else if edgesE l = 0 then (if ∀ i, i < l.length → joint l i then checkP (verts l) else 11) else edgesE l
theorem edgesE_ok {l : List ED} : edgesE l = 0 ↔ ∀ i, i < l.length → nameB (l.getD i e0).1 = true ∧ (∀ j, j < i → (l.getD j e0).1 ≠ (l.getD i e0).1) ∧ lineE (l.getD i e0).2 = 0 := by
  unfold edgesE
  rw [firstE_ok]
  have key : ∀ i, edgeE l i = 0 ↔ nameB (l.getD i e0).1 = true ∧ (∀ j, j < i → (l.getD j e0).1 ≠ (l.getD i e0).1) ∧ lineE (l.getD i e0).2 = 0 := by
    intro i
    unfold edgeE
    by_cases h1 : nameB (l.getD i e0).1 = false
    · rw [if_pos h1]
      exact ⟨fun h => absurd h (by decide), fun h => by rw [h.1] at h1; cases h1⟩
    rw [if_neg h1]
    by_cases h2 : ∃ j, j < i ∧ (l.getD j e0).1 = (l.getD i e0).1
    · rw [if_pos h2]
      obtain ⟨j, a, b⟩ := h2
      exact ⟨fun h => absurd h (by decide), fun h => absurd b (h.2.1 j a)⟩
    rw [if_neg h2]
    exact ⟨fun h => ⟨by simpa using h1, fun j a b => h2 ⟨j, a, b⟩, h⟩, fun h => h.2.2⟩
  constructor
  · intro h i hi
    exact (key i).1 (h i (Nat.zero_le i) (by omega))
  · intro h j _ hj
    exact (key j).2 (h j (by omega))
/-- What a right outline is. -/
structure Out (l : List ED) : Prop where
  most : l.length ≤ 16
  least : 2 ≤ l.length
  name : ∀ i, i < l.length → nameB (l.getD i e0).1 = true
  other : ∀ i, i < l.length → ∀ j, j < i → (l.getD j e0).1 ≠ (l.getD i e0).1
  line : ∀ i, i < l.length → lineE (l.getD i e0).2 = 0
  joint : ∀ i, i < l.length → joint l i
  poly : checkP (verts l) = 0
theorem outE_ok {l : List ED} : outE l = 0 ↔ Out l := by
  unfold outE
  constructor
  · intro h
    split at h
    · cases h
    split at h
    · cases h
    split at h
    · rename_i h1 h2 h3
      split at h
      · rename_i h4
        rw [edgesE_ok] at h3
        exact ⟨by omega, by omega, fun i hi => (h3 i hi).1, fun i hi => (h3 i hi).2.1, fun i hi => (h3 i hi).2.2, h4, h⟩
      · cases h
    · contradiction
  · intro h
    have h1 := h.most
    have h2 := h.least
    rw [if_neg (by omega), if_neg (by omega), if_pos (edgesE_ok.2 fun i hi => ⟨h.name i hi, h.other i hi, h.line i hi⟩), if_pos h.joint]
    exact h.poly

theorem find_ev (a : List ED) (x : ED) (ha : a.length ≤ 1000000) : ∃ r : Int, Ev (fun k => slices_IndexFunc_api_Edge_api_Edge.f k a x) r ∧ (0 ≤ r ↔ ∃ j, j < a.length ∧ (a.getD j e0).1 = x.1) := by
  unfold slices_IndexFunc_api_Edge_api_Edge.f
  refine search (Q := fun i => ∃ r : Int, Ev (fun k => slices_IndexFunc_api_Edge_api_Edge.l0 k a x (a.length : Int) (i : Int)) r ∧ (0 ≤ r ↔ ∃ j, j < a.length ∧ (a.getD j e0).1 = x.1)) (bad := fun i => (a.getD i e0).1 = x.1) (n := a.length) (fun hn => ?_) (fun i hi _ hb => ?_) (fun i hi _ hb q => ?_)
  · refine ⟨-1, ?_, ?_⟩
    · refine Ev.step ?_
      simp only [slices_IndexFunc_api_Edge_api_Edge.l0]
      exact Ev.cf dge (Ev.pure _)
    · exact ⟨fun h => absurd h (by decide), fun ⟨j, h1, h2⟩ => absurd h2 (hn j h1)⟩
  all_goals
    have hs : outline_edges_1.f (gd ((⟨#[]⟩ : ByteArray), []) a (i : Int)) (gd ((⟨#[]⟩ : ByteArray), []) [x] 0) = some (decide ((a.getD i e0).1 = x.1)) := by
      unfold outline_edges_1.f
      rw [eqS_dec]
      rfl
  · refine ⟨(i : Int), ?_, fun _ => ⟨i, hi, hb⟩, fun _ => Int.natCast_nonneg i⟩
    refine Ev.step ?_
    simp only [slices_IndexFunc_api_Edge_api_Edge.l0]
    refine Ev.ct (dlt hi) (Ev.ct (inbN hi) (Ev.bs hs ?_))
    rw [decide_eq_true hb]
    exact Ev.ct rfl (Ev.pure _)
  · obtain ⟨r, h1, h2⟩ := q
    refine ⟨r, ?_, h2⟩
    refine Ev.step ?_
    simp only [slices_IndexFunc_api_Edge_api_Edge.l0]
    refine Ev.ct (dlt hi) (Ev.ct (inbN hi) (Ev.bs hs ?_))
    rw [decide_eq_false hb, wadd1 (by omega)]
    exact Ev.cf rfl h1
theorem contains_ev (l : List ED) (i : Nat) (hi : i ≤ l.length) (hl : l.length ≤ 1000000) (x : ED) :
    Ev (fun k => slices_ContainsFunc_api_Edge_api_Edge.f k (cutL none (some (i : Int)) l) x) (dec (∃ j, j < i ∧ (l.getD j e0).1 = x.1)) := by
  unfold slices_ContainsFunc_api_Edge_api_Edge.f
  have hlen : (l.take i).length = i := by rw [List.length_take]; omega
  obtain ⟨r, h1, h2⟩ := find_ev (l.take i) x (by omega)
  refine Ev.bind h1 (Ev.some ?_)
  rw [← dec_decide]
  refine dec_iff ?_
  show 0 ≤ r ↔ _
  rw [h2, hlen]
  have e : ∀ j, j < i → (l.take i).getD j e0 = l.getD j e0 := fun j hj => by
    rw [List.getD_eq_getElem?_getD, List.getD_eq_getElem?_getD, List.getElem?_take, if_pos hj]
  constructor
  · rintro ⟨j, a, b⟩; rw [e j a] at b; exact ⟨j, a, b⟩
  · rintro ⟨j, a, b⟩; exact ⟨j, a, by rw [e j a]; exact b⟩

/-- The sizes of what a law takes. -/
def Few (l : List ED) : Prop := l.length ≤ 1000 ∧ ∀ i, i < l.length → (l.getD i e0).2.length ≤ 1000 ∧ (l.getD i e0).1.size ≤ 1000
theorem edges_ev (l : List ED) (hf : Few l) : Ev (fun k => outline_edges.f k l) (edgesE l) := by
  unfold outline_edges.f edgesE
  refine down (Q := fun i => Ev (fun k => outline_edges.l0 k l l (l.length : Int) (i : Int)) (firstE (edgeE l) i (l.length - i))) (n := l.length) ?_ ?_
  · rw [Nat.sub_self]
    refine Ev.step ?_
    simp only [outline_edges.l0]
    exact Ev.cf dge (Ev.pure _)
  · intro i hi ih
    rw [firstE_step _ hi]
    refine Ev.step ?_
    simp only [outline_edges.l0]
    rw [wadd1 (by have := hf.1; omega)]
    refine Ev.ct (dlt hi) (Ev.ct (inbN hi) (Ev.bind (named_ev _) ?_))
    have hx : gd ((⟨#[]⟩ : ByteArray), []) l (i : Int) = l.getD i e0 := rfl
    rw [hx]
    have hd : edgeE l i = (open Classical in if nameB (l.getD i e0).1 = false then 1 else if ∃ j, j < i ∧ (l.getD j e0).1 = (l.getD i e0).1 then 7 else lineE (l.getD i e0).2) := rfl
    cases h1 : nameB (l.getD i e0).1
    · rw [if_pos h1] at hd
      rw [if_neg (by rw [hd]; decide), hd]
      exact Ev.ct rfl (Ev.pure _)
    rw [if_neg (by rw [h1]; decide)] at hd
    refine Ev.cf rfl (Ev.ct (by show (decide (0 ≤ (i : Int)) && decide ((i : Int) ≤ (l.length : Int))) = true; rw [decide_eq_true (by omega), decide_eq_true (by omega)]; rfl) (Ev.bind (contains_ev l i (by omega) (by have := hf.1; omega) _) ?_))
    by_cases h2 : ∃ j, j < i ∧ (l.getD j e0).1 = (l.getD i e0).1
    · rw [if_pos h2] at hd
      rw [dec_t h2, if_neg (by rw [hd]; decide), hd]
      exact Ev.ct rfl (Ev.pure _)
    rw [if_neg h2] at hd
    rw [dec_f h2]
    refine Ev.cf rfl (Ev.bind (line1_ev _ (by have := (hf.2 i hi).1; omega)) ?_)
    by_cases h3 : lineE (l.getD i e0).2 = 0
    · rw [if_pos (by rw [hd]; exact h3)]
      exact Ev.cf (by rw [h3]; rfl) ih
    · rw [if_neg (by rw [hd]; exact h3), hd]
      exact Ev.ct (bne_iff_ne.2 h3) (Ev.pure _)
theorem verts_take_succ (l : List ED) (i : Nat) (h : i < l.length) : verts (l.take (i + 1)) = verts (l.take i) ++ (l.getD i e0).2.take ((l.getD i e0).2.length - 1) := by
  unfold verts
  rw [take_succ' l i h, List.flatMap_append, getD_lt e0 l h]
  simp
theorem verts_len {l : List ED} (h : ∀ i, i < l.length → (l.getD i e0).2.length ≤ 1000) : ∀ i, i ≤ l.length → (verts (l.take i)).length ≤ i * 1000
  | 0, _ => by simp [verts]
  | i + 1, hi => by
    rw [verts_take_succ l i (by omega), List.length_append, List.length_take]
    have := verts_len h i (by omega)
    have := h i (by omega)
    omega
theorem cut_last (a : List Spot) (h : 0 < a.length) (ha : a.length ≤ 1000000) : cutG none (some (IntKind.wrap .i64 ((a.length : Int) - 1))) a.length = true ∧ cutL none (some (IntKind.wrap .i64 ((a.length : Int) - 1))) a = a.take (a.length - 1) := by
  have e : IntKind.wrap .i64 ((a.length : Int) - 1) = ((a.length - 1 : Nat) : Int) := wsub (j := 1) h (by omega)
  rw [e]
  refine ⟨?_, rfl⟩
  show (decide (0 ≤ ((a.length - 1 : Nat) : Int)) && decide (((a.length - 1 : Nat) : Int) ≤ (a.length : Int))) = true
  rw [decide_eq_true (by omega), decide_eq_true (by omega)]
  rfl
theorem verts_ev (l : List ED) (hf : Few l) (h1 : ∀ i, i < l.length → 0 < (l.getD i e0).2.length) : Ev (fun k => outline_vertices.f k l) (verts l) := by
  unfold outline_vertices.f
  have h := down (Q := fun i => Ev (fun k => outline_vertices.l0 k l (l.length : Int) (i : Int) (verts (l.take i))) (verts l)) (n := l.length) ?_ ?_
  · simpa [verts] using h
  · refine Ev.step ?_
    simp only [outline_vertices.l0]
    refine Ev.cf dge (Ev.some ?_)
    rw [List.take_length]
  · intro i hi ih
    refine Ev.step ?_
    simp only [outline_vertices.l0]
    have hx : gd ((⟨#[]⟩ : ByteArray), []) l (i : Int) = l.getD i e0 := rfl
    rw [hx, wadd1 (by have := hf.1; omega)]
    have hl := (hf.2 i hi).1
    have hc := cut_last (l.getD i e0).2 (h1 i hi) (by omega)
    rw [hc.2, ← verts_take_succ l i hi]
    refine Ev.ct (dlt hi) (Ev.ct (inbN hi) (Ev.ct hc.1 (Ev.ct (fits_ok ?_) ih)))
    have := verts_len (fun i hi => (hf.2 i hi).1) i (by omega)
    rw [List.length_take]
    have := hf.1
    omega
theorem pred_mod {i n : Nat} (h : i < n) : (i + n - 1) % n = if i = 0 then n - 1 else i - 1 := by
  by_cases e : i = 0
  · subst e
    rw [if_pos rfl, Nat.zero_add, Nat.mod_eq_of_lt (by omega)]
  · rw [if_neg e, show i + n - 1 = (i - 1) + n by omega, Nat.add_mod_right, Nat.mod_eq_of_lt (by omega)]
theorem Out_ev (l : List ED) (hf : Few l) : Ev (fun k => outline_Check.f k l) (outE l) := by
  unfold outline_Check.f outE
  by_cases c1 : 16 < l.length
  · rw [if_pos c1]
    exact Ev.ct (decide_eq_true (by omega)) (Ev.pure _)
  rw [if_neg c1]
  refine Ev.cf (decide_eq_false (by omega)) ?_
  by_cases c2 : l.length < 2
  · rw [if_pos c2]
    exact Ev.ct (decide_eq_true (by omega)) (Ev.pure _)
  rw [if_neg c2]
  refine Ev.cf (decide_eq_false (by omega)) (Ev.bind (edges_ev l hf) ?_)
  by_cases c3 : ¬ edgesE l = 0
  · rw [if_neg c3]
    exact Ev.ct (bne_iff_ne.2 c3) (Ev.pure _)
  have c3 := Classical.not_not.1 c3
  rw [if_pos c3]
  have hE := edgesE_ok.1 c3
  have h2 : ∀ i, i < l.length → 2 ≤ (l.getD i e0).2.length := fun i hi => (lineE_ok.1 (hE i hi).2.2).2.1
  have w : IntKind.i64.wrap ((l.length : Int) - 1) = ((l.length - 1 : Nat) : Int) := wsub (j := 1) (by omega) (by omega)
  rw [w]
  refine Ev.cf (by rw [c3]; rfl) (Ev.ct (inbN (by omega)) ?_)
  have hm : ∀ i, (i + l.length - 1) % l.length < l.length := fun i => Nat.mod_lt _ (by omega)
  have h := search (Q := fun i => Ev (fun k => outline_Check.l0 k l (l.getD ((i + l.length - 1) % l.length) e0).2 l (l.length : Int) (i : Int)) (open Classical in if ∀ i, i < l.length → joint l i then checkP (verts l) else 11)) (bad := fun i => ¬ joint l i) (n := l.length) ?_ ?_ ?_
  · rw [pred_mod (i := 0) (by omega), if_pos rfl] at h
    exact h
  · intro hn
    rw [if_pos (fun i hi => Classical.not_not.1 (hn i hi))]
    refine Ev.step ?_
    simp only [outline_Check.l0]
    refine Ev.cf dge (Ev.bind (verts_ev l hf fun i hi => by have := h2 i hi; omega) (Ev.bind (Check_ev _) (Ev.pure _)))
  all_goals
    intro i hi _ hb
  · rw [if_neg (fun h => hb (h i hi))]
    refine Ev.step ?_
    have g1 := h2 _ (hm i)
    have g2 := (hf.2 _ (hm i)).1
    have g3 := h2 i hi
    have w1 : IntKind.i64.wrap (((l.getD ((i + l.length - 1) % l.length) e0).2.length : Int) - 1) = (((l.getD ((i + l.length - 1) % l.length) e0).2.length - 1 : Nat) : Int) := wsub (j := 1) (by omega) (by omega)
    have hx : gd ((⟨#[]⟩ : ByteArray), []) l (i : Int) = l.getD i e0 := rfl
    simp only [outline_Check.l0, w1, hx, spotEq]
    refine Ev.ct (dlt hi) (Ev.ct (inbN hi) (Ev.ct (inbN (by omega)) (Ev.ct (inb_t' (by omega) (by omega)) (Ev.ct ?_ (Ev.pure _)))))
    rw [decide_eq_false]
    · rfl
    · exact hb
  · intro q
    have hb := Classical.not_not.1 hb
    refine Ev.step ?_
    have g1 := h2 _ (hm i)
    have g2 := (hf.2 _ (hm i)).1
    have g3 := h2 i hi
    have w1 : IntKind.i64.wrap (((l.getD ((i + l.length - 1) % l.length) e0).2.length : Int) - 1) = (((l.getD ((i + l.length - 1) % l.length) e0).2.length - 1 : Nat) : Int) := wsub (j := 1) (by omega) (by omega)
    have hx : gd ((⟨#[]⟩ : ByteArray), []) l (i : Int) = l.getD i e0 := rfl
    simp only [outline_Check.l0, w1, hx, spotEq]
    rw [wadd1 (by omega)]
    rw [show (i + 1 + l.length - 1) % l.length = i from by rw [show i + 1 + l.length - 1 = i + l.length by omega, Nat.add_mod_right, Nat.mod_eq_of_lt hi]] at q
    refine Ev.ct (dlt hi) (Ev.ct (inbN hi) (Ev.ct (inbN (by omega)) (Ev.ct (inb_t' (by omega) (by omega)) (Ev.cf ?_ q))))
    rw [decide_eq_true]
    · rfl
    · exact hb
theorem Poly_ev (l : List ED) (hf : Few l) : Ev (fun k => outline_Polygon.f k l) (if outE l = 0 then (verts l, 0) else ([], outE l)) := by
  unfold outline_Polygon.f
  refine Ev.bind (Out_ev l hf) ?_
  by_cases h : outE l = 0
  · rw [if_pos h]
    have ho := outE_ok.1 h
    refine Ev.cf (by rw [h]; rfl) (Ev.bind (verts_ev l hf fun i hi => by have := (lineE_ok.1 (ho.line i hi)).2.1; omega) (Ev.pure _))
  · rw [if_neg h]
    exact Ev.ct (bne_iff_ne.2 h) (Ev.pure _)
end Go.Gm

/- Outlines: the checks of the reference. -/
set_option linter.unusedVariables false
set_option linter.unusedSimpArgs false
namespace Go.Gm
open Go.Pi

theorem named20_ev (l : List ED) (i : Nat) (hi : i ≤ l.length) (hl : l.length ≤ 1000) (s : ByteArray) : Ev (fun k => ref20_named.f k l (i : Int) s) (dec (∃ j, j < i ∧ (l.getD j e0).1 = s)) := by
  unfold ref20_named.f
  refine search (Q := fun j => Ev (fun k => ref20_named.l0 k l (i : Int) s (j : Int)) _) (bad := fun j => (l.getD j e0).1 = s) (n := i) (fun hn => ?_) (fun j hj _ hb => ?_) (fun j hj _ hb q => ?_)
  · rw [dec_f fun ⟨j, a, b⟩ => hn j a b]
    refine Ev.step ?_
    simp only [ref20_named.l0]
    exact Ev.cf dge (Ev.pure _)
  all_goals
    have hx : gd ((⟨#[]⟩ : ByteArray), []) l (j : Int) = l.getD j e0 := rfl
    refine Ev.step ?_
    simp only [ref20_named.l0, hx, eqS_dec]
    rw [wadd1 (by omega)]
    refine Ev.ct (dlt hj) (Ev.ct (inbN (by omega)) ?_)
  · rw [decide_eq_true hb, dec_t ⟨j, hj, hb⟩]
    exact Ev.ct rfl (Ev.pure _)
  · rw [decide_eq_false hb]
    exact Ev.cf rfl q
theorem verts2_ev (l : List ED) (hf : Few l) : Ev (fun k => ref20_Vertices.f k l) (verts l) := by
  unfold ref20_Vertices.f
  have h := down (Q := fun i => Ev (fun k => ref20_Vertices.l0 k l (i : Int) (verts (l.take i))) (verts l)) (n := l.length) ?_ ?_
  · simpa [verts] using h
  · refine Ev.step ?_
    simp only [ref20_Vertices.l0]
    refine Ev.cf dge (Ev.some ?_)
    rw [List.take_length]
  · intro i hi ih
    refine Ev.step ?_
    simp only [ref20_Vertices.l0]
    have hx : gd ((⟨#[]⟩ : ByteArray), []) l (i : Int) = l.getD i e0 := rfl
    rw [hx, wadd1 (by have := hf.1; omega)]
    have hl := (hf.2 i hi).1
    refine Ev.ct (dlt hi) (Ev.ct (inbN hi) ?_)
    by_cases h1 : 0 < (l.getD i e0).2.length
    · have hc := cut_last (l.getD i e0).2 h1 (by omega)
      rw [hc.2, ← verts_take_succ l i hi]
      refine Ev.ct (decide_eq_true (by omega)) (Ev.ct (inbN hi) (Ev.ct hc.1 (Ev.ct (fits_ok ?_) ih)))
      have := verts_len (fun i hi => (hf.2 i hi).1) i (by omega)
      rw [List.length_take]
      have := hf.1
      omega
    · refine Ev.cf (decide_eq_false (by omega)) ?_
      rw [verts_take_succ l i hi, List.eq_nil_of_length_eq_zero (by omega : (l.getD i e0).2.length = 0)] at ih
      simpa using ih
theorem joint_all (l : List ED) : (∀ i, i < l.length → joint l i) ↔ ∀ i, i < l.length → lastS (l.getD i e0).2 = (l.getD ((i + 1) % l.length) e0).2.getD 0 (0, 0) := by
  unfold joint
  constructor
  · intro h i hi
    have h1 := h ((i + 1) % l.length) (Nat.mod_lt _ (by omega))
    rw [pred_mod (Nat.mod_lt _ (by omega))] at h1
    have e : (if (i + 1) % l.length = 0 then l.length - 1 else (i + 1) % l.length - 1) = i := by
      by_cases c : i + 1 = l.length
      · rw [c, Nat.mod_self, if_pos rfl]; omega
      · rw [Nat.mod_eq_of_lt (by omega), if_neg (by omega)]; omega
    rw [e] at h1
    exact h1
  · intro h i hi
    have h1 := h ((i + l.length - 1) % l.length) (Nat.mod_lt _ (by omega))
    rw [pred_mod hi] at h1 ⊢
    have e : ((if i = 0 then l.length - 1 else i - 1) + 1) % l.length = i := by
      by_cases c : i = 0
      · rw [if_pos c, show l.length - 1 + 1 = l.length by omega, Nat.mod_self, c]
      · rw [if_neg c, show i - 1 + 1 = i by omega, Nat.mod_eq_of_lt hi]
    rw [e] at h1
    exact h1
theorem firstE_first {f : Nat → Int} {i : Nat} (h : ∀ j, j < i → f j = 0) (hb : f i ≠ 0) : ∀ n, i < n → firstE f 0 n = f i := by
  intro n hn
  have key : ∀ m a, a + m = i → firstE f a (n - a) = f i := by
    intro m
    induction m with
    | zero =>
      intro a ha
      have : a = i := by omega
      subst this
      rw [firstE_step f hn, if_neg hb]
    | succ m ih =>
      intro a ha
      rw [firstE_step f (by omega), if_pos (h a (by omega))]
      exact ih (a + 1) (by omega)
  exact key i 0 (by omega)
theorem Out2_ev (l : List ED) (hf : Few l) : Ev (fun k => ref20_Check.f k l) (outE l) := by
  unfold ref20_Check.f outE
  by_cases c1 : 16 < l.length
  · rw [if_pos c1]
    exact Ev.ct (decide_eq_true (by omega)) (Ev.pure _)
  rw [if_neg c1]
  refine Ev.cf (decide_eq_false (by omega)) ?_
  by_cases c2 : l.length < 2
  · rw [if_pos c2]
    exact Ev.ct (decide_eq_true (by omega)) (Ev.pure _)
  rw [if_neg c2]
  refine Ev.cf (decide_eq_false (by omega)) ?_
  -- the joints
  have tail : edgesE l = 0 → Ev (fun k => ref20_Check.l1 k l ((0 : Nat) : Int)) (open Classical in if ∀ i, i < l.length → joint l i then checkP (verts l) else 11) := by
    intro c3
    have hE := edgesE_ok.1 c3
    have h2 : ∀ i, i < l.length → 2 ≤ (l.getD i e0).2.length := fun i hi => (lineE_ok.1 (hE i hi).2.2).2.1
    have hm : ∀ i, (i + 1) % l.length < l.length := fun i => Nat.mod_lt _ (by omega)
    refine search (Q := fun i => Ev (fun k => ref20_Check.l1 k l (i : Int)) _) (bad := fun i => ¬ lastS (l.getD i e0).2 = (l.getD ((i + 1) % l.length) e0).2.getD 0 (0, 0)) (n := l.length) ?_ ?_ ?_
    · intro hn
      rw [if_pos ((joint_all l).2 fun i hi => Classical.not_not.1 (hn i hi))]
      refine Ev.step ?_
      simp only [ref20_Check.l1]
      exact Ev.cf dge (Ev.bind (verts2_ev l hf) (Ev.bind (Check2_ev _) (Ev.pure _)))
    all_goals
      intro i hi _ hb
      have g1 := h2 i hi
      have g2 := (hf.2 i hi).1
      have g3 := h2 _ (hm i)
      have w1 : IntKind.i64.wrap (((l.getD i e0).2.length : Int) - 1) = (((l.getD i e0).2.length - 1 : Nat) : Int) := wsub (j := 1) (by omega) (by omega)
      have w2 : IntKind.i64.wrap ((i : Int) + 1) = ((i + 1 : Nat) : Int) := wadd1 (by omega)
      have hx : ∀ j : Nat, gd ((⟨#[]⟩ : ByteArray), []) l (j : Int) = l.getD j e0 := fun j => rfl
    · rw [if_neg (fun h => hb ((joint_all l).1 h i hi))]
      refine Ev.step ?_
      simp only [ref20_Check.l1, w2, tmod_nat, hx, w1, spotEq]
      refine Ev.ct (dlt hi) (Ev.ct (inbN hi) (Ev.ct (ne0 (by omega)) (Ev.ct (inbN (hm i)) (Ev.ct (inbN (by omega)) (Ev.ct (inb_t' (by omega) (by omega)) (Ev.ct ?_ (Ev.pure _)))))))
      rw [decide_eq_false]
      · rfl
      · exact hb
    · intro q
      have hb := Classical.not_not.1 hb
      refine Ev.step ?_
      simp only [ref20_Check.l1, w2, tmod_nat, hx, w1, spotEq]
      refine Ev.ct (dlt hi) (Ev.ct (inbN hi) (Ev.ct (ne0 (by omega)) (Ev.ct (inbN (hm i)) (Ev.ct (inbN (by omega)) (Ev.ct (inb_t' (by omega) (by omega)) (Ev.cf ?_ q))))))
      rw [decide_eq_true]
      · rfl
      · exact hb
  -- the edges themselves
  refine search (Q := fun i => Ev (fun k => ref20_Check.l0 k l (i : Int)) _) (bad := fun i => edgeE l i ≠ 0) (n := l.length) ?_ ?_ ?_
  · intro hn
    have c3 : edgesE l = 0 := (firstE_ok _ _).2 fun j _ hj => Classical.not_not.1 (hn j (by omega))
    rw [if_pos c3]
    refine Ev.step ?_
    simp only [ref20_Check.l0]
    exact Ev.cf dge (tail c3)
  all_goals
    intro i hi hp hb
    have w2 : IntKind.i64.wrap ((i : Int) + 1) = ((i + 1 : Nat) : Int) := wadd1 (by omega)
    have hx : ∀ j : Nat, gd ((⟨#[]⟩ : ByteArray), []) l (j : Int) = l.getD j e0 := fun j => rfl
    have hd : edgeE l i = (open Classical in if nameB (l.getD i e0).1 = false then 1 else if ∃ j, j < i ∧ (l.getD j e0).1 = (l.getD i e0).1 then 7 else lineE (l.getD i e0).2) := rfl
  · have he : edgesE l = edgeE l i := firstE_first (fun j hj => Classical.not_not.1 (hp j hj)) hb l.length hi
    rw [if_neg (by rw [he]; exact hb), he]
    refine Ev.step ?_
    simp only [ref20_Check.l0, hx, w2]
    refine Ev.ct (dlt hi) (Ev.ct (inbN hi) (Ev.bind (Name17_ev _ (by have := (hf.2 i hi).2; omega)) ?_))
    cases h1 : nameB (l.getD i e0).1
    · rw [if_pos h1] at hd
      rw [hd]
      exact Ev.ct rfl (Ev.pure _)
    rw [if_neg (by rw [h1]; decide)] at hd
    refine Ev.cf rfl (Ev.ct (inbN hi) (Ev.bind (named20_ev l i (by omega) hf.1 _) ?_))
    by_cases h2 : ∃ j, j < i ∧ (l.getD j e0).1 = (l.getD i e0).1
    · rw [if_pos h2] at hd
      rw [dec_t h2, hd]
      exact Ev.ct rfl (Ev.pure _)
    rw [if_neg h2] at hd
    rw [dec_f h2]
    refine Ev.cf rfl (Ev.ct (inbN hi) (Ev.bind (line2_ev _ (by have := (hf.2 i hi).1; omega)) ?_))
    rw [hd] at hb ⊢
    exact Ev.ct (bne_iff_ne.2 hb) (Ev.pure _)
  · intro q
    have hb := Classical.not_not.1 hb
    rw [hd] at hb
    refine Ev.step ?_
    simp only [ref20_Check.l0, hx, w2]
    refine Ev.ct (dlt hi) (Ev.ct (inbN hi) (Ev.bind (Name17_ev _ (by have := (hf.2 i hi).2; omega)) ?_))
    cases h1 : nameB (l.getD i e0).1
    · rw [if_pos h1] at hb
      cases hb
    rw [if_neg (by rw [h1]; decide)] at hb
    refine Ev.cf rfl (Ev.ct (inbN hi) (Ev.bind (named20_ev l i (by omega) hf.1 _) ?_))
    by_cases h2 : ∃ j, j < i ∧ (l.getD j e0).1 = (l.getD i e0).1
    · rw [if_pos h2] at hb
      cases hb
    rw [if_neg h2] at hb
    rw [dec_f h2]
    refine Ev.cf rfl (Ev.ct (inbN hi) (Ev.bind (line2_ev _ (by have := (hf.2 i hi).1; omega)) ?_))
    exact Ev.cf (by rw [hb]; rfl) q
theorem Poly2_ev (l : List ED) (hf : Few l) : Ev (fun k => ref20_Polygon.f k l) (if outE l = 0 then (verts l, 0) else ([], outE l)) := by
  unfold ref20_Polygon.f
  refine Ev.bind (Out2_ev l hf) ?_
  by_cases h : outE l = 0
  · rw [if_pos h]
    exact Ev.cf (by rw [h]; rfl) (Ev.bind (verts2_ev l hf) (Ev.pure _))
  · rw [if_neg h]
    exact Ev.ct (bne_iff_ne.2 h) (Ev.pure _)
end Go.Gm

/- Allowances: roots and shares. -/
set_option linter.unusedVariables false
set_option linter.unusedSimpArgs false
namespace Go.Gm
open Go.Pi

/-- The root of n, rounded down. -/
def IsRoot (n r : Int) : Prop := 0 ≤ r ∧ r * r ≤ n ∧ n < (r + 1) * (r + 1)
theorem IsRoot.uniq {n r s : Int} (hr : IsRoot n r) (hs : IsRoot n s) : r = s := by
  obtain ⟨a1, a2, a3⟩ := hr
  obtain ⟨b1, b2, b3⟩ := hs
  have h1 : r < s + 1 := by
    refine Int.not_le.1 fun h => ?_
    have := Int.mul_le_mul h h (by omega) (by omega)
    omega
  have h2 : s < r + 1 := by
    refine Int.not_le.1 fun h => ?_
    have := Int.mul_le_mul h h (by omega) (by omega)
    omega
  omega
open Classical in
noncomputable def rt (n : Int) : Int := if h : ∃ r, IsRoot n r then h.choose else 0
theorem rt_of {n r : Int} (h : IsRoot n r) : rt n = r := by
  unfold rt
  rw [dif_pos ⟨r, h⟩]
  exact IsRoot.uniq (Exists.choose_spec (⟨r, h⟩ : ∃ r, IsRoot n r)) h
theorem sq_bd {x b : Int} (h0 : 0 ≤ x) (h1 : x ≤ b) : 0 ≤ x * x ∧ x * x ≤ b * b := ⟨Int.mul_nonneg h0 h0, Int.mul_le_mul h1 h1 h0 (by omega)⟩
theorem root1_go (n : Int) (hn : 0 ≤ n) (hn' : n < 4611686018427387904) : ∀ (m : Nat) (lo hi : Int), (hi - lo).toNat ≤ m → 0 ≤ lo → lo < hi → hi ≤ 2147483648 → lo * lo ≤ n → n < hi * hi →
    ∃ r, IsRoot n r ∧ Ev (fun k => allowance_root.l0 k n lo hi) r
  | 0, lo, hi, h, h0, h1, h2, h3, h4 => by omega
  | m + 1, lo, hi, h, h0, h1, h2, h3, h4 => by
    have w1 : IntKind.i64.wrap (hi - lo) = hi - lo := i64_in (by omega) (by omega)
    by_cases c : hi - lo > 1
    · have w2 : IntKind.i64.wrap (lo + hi) = lo + hi := i64_in (by omega) (by omega)
      have e : Int.tdiv (lo + hi) 2 = (lo + hi) / 2 := tdiv_nn (by omega)
      have w3 : IntKind.i64.wrap ((lo + hi) / 2) = (lo + hi) / 2 := i64_in (by omega) (by omega)
      have hm0 : 0 < (lo + hi) / 2 := by omega
      have hm1 : lo < (lo + hi) / 2 := by omega
      have hm2 : (lo + hi) / 2 < hi := by omega
      generalize hmm : (lo + hi) / 2 = M at *
      have e2 : Int.tdiv n M = n / M := tdiv_nn hn
      have hq : 0 ≤ n / M ∧ n / M ≤ n := ⟨Int.ediv_nonneg hn (by omega), Int.ediv_le_self _ hn⟩
      have w4 : IntKind.i64.wrap (n / M) = n / M := i64_in (by omega) (by omega)
      have hd : M ≤ n / M ↔ M * M ≤ n := Int.le_ediv_iff_mul_le hm0
      by_cases c2 : M * M ≤ n
      · obtain ⟨r, hr, hv⟩ := root1_go n hn hn' m M hi (by omega) (by omega) hm2 h2 c2 h4
        refine ⟨r, hr, ?_⟩
        refine Ev.step ?_
        simp only [allowance_root.l0, w1, w2, e, hmm, w3, e2, w4]
        exact Ev.ct (decide_eq_true c) (Ev.ct (by rw [decide_eq_false (by omega)]; rfl) (Ev.ct (decide_eq_true (hd.2 c2)) hv))
      · obtain ⟨r, hr, hv⟩ := root1_go n hn hn' m lo M (by omega) h0 hm1 (by omega) h3 (by omega)
        refine ⟨r, hr, ?_⟩
        refine Ev.step ?_
        simp only [allowance_root.l0, w1, w2, e, hmm, w3, e2, w4]
        exact Ev.ct (decide_eq_true c) (Ev.ct (by rw [decide_eq_false (by omega)]; rfl) (Ev.cf (decide_eq_false fun h => c2 (hd.1 h)) hv))
    · have : hi = lo + 1 := by omega
      subst this
      refine ⟨lo, ⟨h0, h3, h4⟩, ?_⟩
      refine Ev.step ?_
      simp only [allowance_root.l0, w1]
      exact Ev.cf (decide_eq_false c) (Ev.pure _)
theorem root1_ex (n : Int) (hn : 0 ≤ n) (hn' : n < 4611686018427387904) : ∃ r, IsRoot n r ∧ Ev (fun k => allowance_root.f k n) r := by
  unfold allowance_root.f
  exact root1_go n hn hn' 2147483648 0 2147483648 (by decide) (by decide) (by decide) (by decide) (by omega) (by omega)
theorem rt_spec {n : Int} (hn : 0 ≤ n) (hn' : n < 4611686018427387904) : IsRoot n (rt n) := by
  obtain ⟨r, hr, _⟩ := root1_ex n hn hn'
  rw [rt_of hr]
  exact hr
theorem root1_ev (n : Int) (hn : 0 ≤ n) (hn' : n < 4611686018427387904) : Ev (fun k => allowance_root.f k n) (rt n) := by
  obtain ⟨r, hr, hv⟩ := root1_ex n hn hn'
  rw [rt_of hr]
  exact hv
theorem root2_go (n : Int) (hn : 0 ≤ n) : ∀ (m : Nat) (lo hi : Int), (hi - lo).toNat ≤ m → 0 ≤ lo → lo ≤ hi → hi ≤ 4194304 → lo * lo ≤ n → n < (hi + 1) * (hi + 1) →
    ∃ r, IsRoot n r ∧ Ev (fun k => ref24_root.l0 k n lo hi) r := by
  intro m
  induction m with
  | zero =>
    intro lo hi h h0 h1 h2 h3 h4
    have : hi = lo := by omega
    subst this
    refine ⟨hi, ⟨h0, h3, h4⟩, ?_⟩
    refine Ev.step ?_
    simp only [ref24_root.l0]
    exact Ev.cf (decide_eq_false (by omega)) (Ev.pure _)
  | succ m ih =>
    intro lo hi h h0 h1 h2 h3 h4
    by_cases c : lo < hi
    · have w2 : IntKind.i64.wrap (lo + hi) = lo + hi := i64_in (by omega) (by omega)
      have w2' : IntKind.i64.wrap (lo + hi + 1) = lo + hi + 1 := i64_in (by omega) (by omega)
      have e : Int.tdiv (lo + hi + 1) 2 = (lo + hi + 1) / 2 := tdiv_nn (by omega)
      have w3 : IntKind.i64.wrap ((lo + hi + 1) / 2) = (lo + hi + 1) / 2 := i64_in (by omega) (by omega)
      have hm1 : lo < (lo + hi + 1) / 2 := by omega
      have hm2 : (lo + hi + 1) / 2 ≤ hi := by omega
      generalize hmm : (lo + hi + 1) / 2 = M at *
      have hb := sq_bd (x := M) (b := 4194304) (by omega) (by omega)
      have w4 : IntKind.i64.wrap (M * M) = M * M := i64_in (by omega) (by omega)
      have w5 : IntKind.i64.wrap (M - 1) = M - 1 := i64_in (by omega) (by omega)
      by_cases c2 : M * M ≤ n
      · obtain ⟨r, hr, hv⟩ := ih M hi (by omega) (by omega) hm2 h2 c2 h4
        refine ⟨r, hr, ?_⟩
        refine Ev.step ?_
        simp only [ref24_root.l0, w2, w2', e, hmm, w3, w4]
        exact Ev.ct (decide_eq_true c) (Ev.ct (decide_eq_true c2) hv)
      · obtain ⟨r, hr, hv⟩ := ih lo (M - 1) (by omega) h0 (by omega) (by omega) h3 (by rw [show M - 1 + 1 = M by omega]; omega)
        refine ⟨r, hr, ?_⟩
        refine Ev.step ?_
        simp only [ref24_root.l0, w2, w2', e, hmm, w3, w4, w5]
        exact Ev.ct (decide_eq_true c) (Ev.cf (decide_eq_false c2) hv)
    · have : hi = lo := by omega
      subst this
      refine ⟨hi, ⟨h0, h3, h4⟩, ?_⟩
      refine Ev.step ?_
      simp only [ref24_root.l0]
      exact Ev.cf (decide_eq_false (by omega)) (Ev.pure _)
theorem root2_ev (n : Int) (hn : 0 ≤ n) (hn' : n < 17592194433025) : Ev (fun k => ref24_root.f k n) (rt n) := by
  unfold ref24_root.f
  obtain ⟨r, hr, hv⟩ := root2_go n hn 4194304 0 4194304 (by decide) (by decide) (by decide) (by decide) (by omega) (by omega)
  rw [rt_of hr]
  exact hv

/-- The rounded quotient, halves away from 0. -/
def dv (a n : Int) : Int := if a < 0 then -((2 * -a + n) / (2 * n)) else (2 * a + n) / (2 * n)
theorem dv_zero {n : Int} (hn : 0 < n) : dv 0 n = 0 := by
  unfold dv
  rw [if_neg (by decide)]
  exact Int.ediv_eq_zero_of_lt (by omega) (by omega)
theorem dv_neg {a n : Int} (hn : 0 < n) : dv (-a) n = - dv a n := by
  by_cases h0 : a = 0
  · subst h0; rw [Int.neg_zero, dv_zero hn]; rfl
  unfold dv
  by_cases h : a < 0
  · rw [if_neg (by omega), if_pos h, Int.neg_neg]
  · rw [if_pos (by omega), if_neg h, Int.neg_neg]
theorem dv_bd {a n A : Int} (hn : 0 < n) (h : -A ≤ a ∧ a ≤ A) : -(A + 1) ≤ dv a n ∧ dv a n ≤ A + 1 := by
  have key : ∀ b : Int, 0 ≤ b → b ≤ A → 0 ≤ (2 * b + n) / (2 * n) ∧ (2 * b + n) / (2 * n) ≤ A + 1 := fun b h0 h1 => by
    refine ⟨Int.ediv_nonneg (by omega) (by omega), ?_⟩
    have : (2 * b + n) / (2 * n) < A + 2 := Int.ediv_lt_of_lt_mul (by omega) (by
      have h2 : (A + 2) * 1 ≤ (A + 2) * n := Int.mul_le_mul_of_nonneg_left (by omega) (by omega)
      have h3 : (A + 2) * (2 * n) = 2 * ((A + 2) * n) := by rw [← Int.mul_assoc, Int.mul_comm (A + 2) 2, Int.mul_assoc]
      have h4 : (A + 2) * n = A * n + 2 * n := Int.add_mul _ _ _
      have h5 : A * 1 ≤ A * n := Int.mul_le_mul_of_nonneg_left (by omega) (by omega)
      omega)
    omega
  unfold dv
  by_cases c : a < 0
  · rw [if_pos c]
    have := key (-a) (by omega) (by omega)
    omega
  · rw [if_neg c]
    have := key a (by omega) (by omega)
    omega
theorem share_eq {a n : Int} (hn : 0 < n) (hn' : n ≤ 1099511627776) (ha : -1099511627776 ≤ a ∧ a ≤ 1099511627776) : allowance_share.f a n = some (dv a n) := by
  have key : ∀ b : Int, 0 ≤ b → b ≤ 1099511627776 → (bif (!(decide ((IntKind.wrap .i64 ((2 : Int) * n)) = (0 : Int)))) then (some (IntKind.wrap .i64 (Int.tdiv (IntKind.wrap .i64 ((IntKind.wrap .i64 ((2 : Int) * b)) + n)) (IntKind.wrap .i64 ((2 : Int) * n))))) else none) = some ((2 * b + n) / (2 * n)) := fun b h0 h1 => by
    have hb := dv_bd (a := b) (A := 1099511627776) hn (by omega)
    unfold dv at hb
    rw [if_neg (by omega)] at hb
    rw [i64_in (x := 2 * n) (by omega) (by omega), i64_in (x := 2 * b) (by omega) (by omega), i64_in (x := 2 * b + n) (by omega) (by omega), decide_eq_false (by omega), tdiv_nn (by omega), i64_in (by omega) (by omega)]
    rfl
  unfold allowance_share.f dv
  by_cases c : a < 0
  · have e : negI .i64 a = -a := by unfold negI; rw [i64_in (by omega) (by omega)]; omega
    rw [decide_eq_true c, condT, if_pos c, e]
    unfold allowance_share_in.f
    have hb := dv_bd (a := -a) (A := 1099511627776) hn (by omega)
    unfold dv at hb
    rw [if_neg (by omega)] at hb
    rw [decide_eq_false (by omega), condF, key (-a) (by omega) (by omega), bindO_s]
    unfold negI
    rw [i64_in (by omega) (by omega)]
    congr 1
    omega
  · rw [decide_eq_false c, condF, if_neg c, key a (by omega) (by omega)]
theorem round_eq {a n : Int} (hn : 0 < n) (hn' : n ≤ 1099511627776) (ha : -1099511627776 ≤ a ∧ a ≤ 1099511627776) : ref24_round.f a n = some (dv a n) := by
  unfold ref24_round.f dv
  by_cases c : a < 0
  · have hb := dv_bd (a := -a) (A := 1099511627776) hn (by omega)
    unfold dv at hb
    rw [if_neg (by omega)] at hb
    rw [decide_eq_true c, condT, if_pos c, i64_in (x := 2 * n) (by omega) (by omega), i64_in (x := -2 * a) (by omega) (by omega), i64_in (x := -2 * a + n) (by omega) (by omega), decide_eq_false (by omega), tdiv_nn (by omega)]
    show some _ = _
    rw [show -2 * a + n = 2 * -a + n by omega]
    unfold negI
    rw [i64_in (x := (2 * -a + n) / (2 * n)) (by omega) (by omega), i64_in (by omega) (by omega)]
    congr 1
    omega
  · have hb := dv_bd (a := a) (A := 1099511627776) hn (by omega)
    unfold dv at hb
    rw [if_neg c] at hb
    rw [decide_eq_false c, condF, if_neg c, i64_in (x := 2 * n) (by omega) (by omega), i64_in (x := 2 * a) (by omega) (by omega), i64_in (x := 2 * a + n) (by omega) (by omega), decide_eq_false (by omega), tdiv_nn (by omega), i64_in (by omega) (by omega)]
    rfl
end Go.Gm

/- Allowances: the sides of an outline with their shifts. -/
set_option linter.unusedVariables false
set_option linter.unusedSimpArgs false
namespace Go.Gm
open Go.Pi

abbrev SideT := Int × Int × Int × Int × Int × Int × Int
noncomputable def lenS (a b : Spot) : Int := rt ((b.1 - a.1) * (b.1 - a.1) + (b.2 - a.2) * (b.2 - a.2))
/-- The shift of a side. -/
noncomputable def shiftS (a b : Spot) (w s : Int) : Spot := (dv (s * w * (b.2 - a.2)) (lenS a b), dv (-(s * w) * (b.1 - a.1)) (lenS a b))
noncomputable def sideS (a b : Spot) (w s : Int) : SideT := (a.1, a.2, b.1, b.2, w, shiftS a b w s)
noncomputable def segsN (p : List Spot) (w s : Int) (m : Nat) : List SideT := (List.range m).map fun k => sideS (p.getD k (0, 0)) (p.getD (k + 1) (0, 0)) w s
noncomputable def segsTo (l : List ED) (ws : List Int) (s : Int) (i : Nat) : List SideT := (List.range i).flatMap fun j => segsN (l.getD j e0).2 (ws.getD j 0) s ((l.getD j e0).2.length - 1)
noncomputable def segs (l : List ED) (ws : List Int) (s : Int) : List SideT := segsTo l ws s l.length
theorem segsTo_succ (l : List ED) (ws : List Int) (s : Int) (i : Nat) : segsTo l ws s (i + 1) = segsTo l ws s i ++ segsN (l.getD i e0).2 (ws.getD i 0) s ((l.getD i e0).2.length - 1) := by
  unfold segsTo
  rw [List.range_succ, List.flatMap_append]
  simp
theorem segsN_succ (p : List Spot) (w s : Int) (m : Nat) : segsN p w s (m + 1) = segsN p w s m ++ [sideS (p.getD m (0, 0)) (p.getD (m + 1) (0, 0)) w s] := map_range_succ _ m
theorem segsN_len (p : List Spot) (w s : Int) (m : Nat) : (segsN p w s m).length = m := by unfold segsN; simp
theorem segsTo_len {l : List ED} (hf : Few l) (ws : List Int) (s : Int) : ∀ i, i ≤ l.length → (segsTo l ws s i).length ≤ i * 1000
  | 0, _ => by simp [segsTo]
  | i + 1, hi => by
    rw [segsTo_succ, List.length_append, segsN_len]
    have := segsTo_len hf ws s i (by omega)
    have := (hf.2 i (by omega)).1
    omega
/-- A side that the limits let in. -/
theorem side_nums {a b : Spot} (ha : Ins a) (hb : Ins b) (hab : a ≠ b) {w s : Int} (hw : 0 ≤ w ∧ w ≤ 500) (hs : s = 1 ∨ s = -1) :
    (-2097152 ≤ b.1 - a.1 ∧ b.1 - a.1 ≤ 2097152) ∧ (-2097152 ≤ b.2 - a.2 ∧ b.2 - a.2 ≤ 2097152) ∧ (0 < (b.1 - a.1) * (b.1 - a.1) + (b.2 - a.2) * (b.2 - a.2) ∧ (b.1 - a.1) * (b.1 - a.1) + (b.2 - a.2) * (b.2 - a.2) ≤ 8796093022208) ∧ (0 < lenS a b ∧ lenS a b ≤ 2965821) := by
  obtain ⟨⟨a1, a2⟩, a3, a4⟩ := ha
  obtain ⟨⟨b1, b2⟩, b3, b4⟩ := hb
  have h1 : -2097152 ≤ b.1 - a.1 ∧ b.1 - a.1 ≤ 2097152 := by omega
  have h2 : -2097152 ≤ b.2 - a.2 ∧ b.2 - a.2 ≤ 2097152 := by omega
  have m1 := mul_bd21 h1 h1
  have m2 := mul_bd21 h2 h2
  have p1 : 0 ≤ (b.1 - a.1) * (b.1 - a.1) := by
    rcases Int.le_total 0 (b.1 - a.1) with h | h
    · exact Int.mul_nonneg h h
    · exact Int.mul_nonneg_of_nonpos_of_nonpos h h
  have p2 : 0 ≤ (b.2 - a.2) * (b.2 - a.2) := by
    rcases Int.le_total 0 (b.2 - a.2) with h | h
    · exact Int.mul_nonneg h h
    · exact Int.mul_nonneg_of_nonpos_of_nonpos h h
  have hpos : 0 < (b.1 - a.1) * (b.1 - a.1) + (b.2 - a.2) * (b.2 - a.2) := by
    refine Int.not_le.1 fun h => hab ?_
    have e1 : (b.1 - a.1) * (b.1 - a.1) = 0 := by omega
    have e2 : (b.2 - a.2) * (b.2 - a.2) = 0 := by omega
    rcases Int.mul_eq_zero.1 e1 with e1 | e1 <;> rcases Int.mul_eq_zero.1 e2 with e2 | e2 <;> exact Prod.ext (by omega) (by omega)
  refine ⟨h1, h2, ⟨hpos, by omega⟩, ?_⟩
  have hr := rt_spec (n := (b.1 - a.1) * (b.1 - a.1) + (b.2 - a.2) * (b.2 - a.2)) (by omega) (by omega)
  unfold lenS
  obtain ⟨r0, r1, r2⟩ := hr
  constructor
  · refine Int.not_le.1 fun h => ?_
    have : rt ((b.1 - a.1) * (b.1 - a.1) + (b.2 - a.2) * (b.2 - a.2)) = 0 := by omega
    rw [this] at r2
    omega
  · refine Int.not_lt.1 fun h => ?_
    have := Int.mul_le_mul (show (2965822 : Int) ≤ _ from h) h (by decide) r0
    omega
theorem sw_bd {w s d : Int} (hw : 0 ≤ w ∧ w ≤ 500) (hs : s = 1 ∨ s = -1) (hd : -2097152 ≤ d ∧ d ≤ 2097152) : (-500 ≤ s * w ∧ s * w ≤ 500) ∧ (-1048576000 ≤ s * w * d ∧ s * w * d ≤ 1048576000) ∧ (-1048576000 ≤ -(s * w) * d ∧ -(s * w) * d ≤ 1048576000) ∧ (-1048576000 ≤ w * d ∧ w * d ≤ 1048576000) := by
  have h1 : -500 ≤ s * w ∧ s * w ≤ 500 := by rcases hs with rfl | rfl <;> omega
  have m1 := mul_bd (A := 500) (B := 2097152) h1 hd
  have m2 := mul_bd (x := -(s * w)) (A := 500) (B := 2097152) (by omega) hd
  have m3 := mul_bd (x := w) (A := 500) (B := 2097152) (by omega) hd
  omega
/-- The widths are within the limits. -/
def wOk (ws : List Int) : Prop := ∀ w ∈ ws, 0 ≤ w ∧ w ≤ 500
theorem wOk_get {ws : List Int} (h : wOk ws) (i : Nat) : 0 ≤ ws.getD i 0 ∧ ws.getD i 0 ≤ 500 := by
  by_cases hi : i < ws.length
  · rw [getD_lt 0 ws hi]
    exact h _ (List.getElem_mem hi)
  · rw [List.getD_eq_getElem?_getD, List.getElem?_eq_none (by omega)]
    decide
section
variable {l : List ED} {ws : List Int} (hf : Few l) (hws : ws.length = l.length) (hok : wOk ws) {s : Int} (hs : s = 1 ∨ s = -1) (hline : ∀ i, i < l.length → lineE (l.getD i e0).2 = 0)
include hf hws hok hs hline
theorem sides_in {R : (List SideT) × Int × Int} (i : Nat) (hi : i < l.length) (nm : ByteArray) (ih : Ev (fun k => allowance_sides.l1 k ws s l (l.length : Int) ((i + 1 : Nat) : Int) (segsTo l ws s (i + 1))) R) :
    Ev (fun k => allowance_sides.l2 k ws s (i : Int) 1 l (l.length : Int) (i : Int) (segsTo l ws s i) nm (l.getD i e0).2) R := by
  obtain ⟨h40, h2, hin, hne⟩ := lineE_ok.1 (hline i hi)
  have hl := hf.1
  have h := down (Q := fun m => Ev (fun k => allowance_sides.l2 k ws s (i : Int) ((m + 1 : Nat) : Int) l (l.length : Int) (i : Int) (segsTo l ws s i ++ segsN (l.getD i e0).2 (ws.getD i 0) s m) nm (l.getD i e0).2) R) (n := (l.getD i e0).2.length - 1) ?_ ?_
  · have e : segsN (l.getD i e0).2 (ws.getD i 0) s 0 = [] := rfl
    rw [e, List.append_nil] at h
    exact h
  · refine Ev.step ?_
    simp only [allowance_sides.l2]
    rw [wadd1 (i := i) (by omega), ← segsTo_succ]
    exact Ev.cf (decide_eq_false (by omega)) ih
  · intro m hm q
    refine Ev.step ?_
    simp only [allowance_sides.l2]
    have w1 : IntKind.i64.wrap (((m + 1 : Nat) : Int) - 1) = (m : Int) := by rw [i64_in (by omega) (by omega)]; omega
    have w2 : IntKind.i64.wrap (((m + 1 : Nat) : Int) + 1) = ((m + 1 + 1 : Nat) : Int) := wadd1 (by omega)
    have ga : gd ((0 : Int), (0 : Int)) (l.getD i e0).2 (m : Int) = (l.getD i e0).2.getD m (0, 0) := rfl
    have gb : gd ((0 : Int), (0 : Int)) (l.getD i e0).2 ((m + 1 : Nat) : Int) = (l.getD i e0).2.getD (m + 1) (0, 0) := rfl
    have gw : gd (0 : Int) ws (i : Int) = ws.getD i 0 := rfl
    rw [w1, w2, ga, gb, gw]
    have ha : Ins ((l.getD i e0).2.getD m (0, 0)) := (all_getD (0, 0) _ Ins).1 hin m (by omega)
    have hb : Ins ((l.getD i e0).2.getD (m + 1) (0, 0)) := (all_getD (0, 0) _ Ins).1 hin (m + 1) (by omega)
    have hab : (l.getD i e0).2.getD m (0, 0) ≠ (l.getD i e0).2.getD (m + 1) (0, 0) := fun e => hne (m + 1) (by omega) (by omega) e.symm
    have hw := wOk_get hok i
    rw [segsN_succ, ← List.append_assoc] at q
    generalize (l.getD i e0).2.getD m (0, 0) = a at ha hab q ⊢
    generalize (l.getD i e0).2.getD (m + 1) (0, 0) = b at hb hab q ⊢
    generalize ws.getD i 0 = w at hw q ⊢
    obtain ⟨d1, d2, dn, dl⟩ := side_nums ha hb hab hw hs
    obtain ⟨s1, s2, s3, s4⟩ := sw_bd hw hs d1
    obtain ⟨_, t2, t3, t4⟩ := sw_bd hw hs d2
    have m1 := mul_bd21 d1 d1
    have m2 := mul_bd21 d2 d2
    have v1 : IntKind.i64.wrap (b.1 - a.1) = b.1 - a.1 := i64_in (by omega) (by omega)
    have v2 : IntKind.i64.wrap (b.2 - a.2) = b.2 - a.2 := i64_in (by omega) (by omega)
    have v3 : IntKind.i64.wrap ((b.1 - a.1) * (b.1 - a.1)) = (b.1 - a.1) * (b.1 - a.1) := i64_in (by omega) (by omega)
    have v4 : IntKind.i64.wrap ((b.2 - a.2) * (b.2 - a.2)) = (b.2 - a.2) * (b.2 - a.2) := i64_in (by omega) (by omega)
    have v5 : IntKind.i64.wrap ((b.1 - a.1) * (b.1 - a.1) + (b.2 - a.2) * (b.2 - a.2)) = (b.1 - a.1) * (b.1 - a.1) + (b.2 - a.2) * (b.2 - a.2) := i64_in (by omega) (by omega)
    have v6 : IntKind.i64.wrap (s * w) = s * w := i64_in (by omega) (by omega)
    have v7 : IntKind.i64.wrap (s * w * (b.2 - a.2)) = s * w * (b.2 - a.2) := i64_in (by omega) (by omega)
    have v8 : negI .i64 (s * w) = -(s * w) := by unfold negI; rw [i64_in (by omega) (by omega)]; omega
    have v9 : IntKind.i64.wrap (-(s * w) * (b.1 - a.1)) = -(s * w) * (b.1 - a.1) := i64_in (by omega) (by omega)
    rw [v1, v2, v3, v4, v5, v6, v7, v8, v9]
    refine Ev.ct (dlt (by omega)) (Ev.ct (inbN (by omega)) (Ev.ct (inbN (by omega)) (Ev.bind (root1_ev _ (by omega) (by omega)) (Ev.ct (inbN (by omega)) (Ev.ct (inbN (by omega)) (Ev.bs (share_eq dl.1 (by have := dl.2; unfold lenS at this; omega) (by omega)) (Ev.bs (share_eq dl.1 (by have := dl.2; unfold lenS at this; omega) (by omega)) (Ev.ct (fits_ok ?_) q))))))))
    rw [List.length_append, segsN_len]
    have := segsTo_len hf ws s i (by omega)
    show ((segsTo l ws s i).length + m + 1) * 56 ≤ _
    omega
theorem sides_out : Ev (fun k => allowance_sides.l1 k ws s l (l.length : Int) 0 []) (segs l ws s, s, 0) := by
  have hl := hf.1
  refine down (Q := fun i => Ev (fun k => allowance_sides.l1 k ws s l (l.length : Int) (i : Int) (segsTo l ws s i)) (segs l ws s, s, 0)) (n := l.length) ?_ ?_
  · refine Ev.step ?_
    simp only [allowance_sides.l1]
    exact Ev.cf dge (Ev.pure _)
  · intro i hi q
    refine Ev.step ?_
    simp only [allowance_sides.l1]
    exact Ev.ct (dlt hi) (Ev.ct (inbN hi) (sides_in hf hws hok hs hline i hi _ q))
end
/-- The side on which the outside lies. -/
noncomputable def signO (l : List ED) : Int := if area2 (verts l) < 0 then -1 else 1
theorem signO_or (l : List ED) : signO l = 1 ∨ signO l = -1 := by unfold signO; split <;> omega
open Classical in
/-- The first error of an outline with widths. -/
noncomputable def sidesE (l : List ED) (ws : List Int) : Int := if outE l = 0 then (if ws.length = l.length then (if wOk ws then 0 else 3) else 1) else outE l
theorem sidesE_ok {l : List ED} {ws : List Int} : sidesE l ws = 0 ↔ Out l ∧ ws.length = l.length ∧ wOk ws := by
  unfold sidesE
  by_cases h1 : outE l = 0
  · rw [if_pos h1]
    by_cases h2 : ws.length = l.length
    · rw [if_pos h2]
      by_cases h3 : wOk ws
      · rw [if_pos h3]
        exact ⟨fun _ => ⟨outE_ok.1 h1, h2, h3⟩, fun _ => rfl⟩
      · rw [if_neg h3]
        exact ⟨fun h => absurd h (by decide), fun h => absurd h.2.2 h3⟩
    · rw [if_neg h2]
      exact ⟨fun h => absurd h (by decide), fun h => absurd h.2.1 h2⟩
  · rw [if_neg h1]
    exact ⟨fun h => absurd h h1, fun h => absurd (outE_ok.2 h.1) h1⟩
theorem sides24_ev (l : List ED) (ws : List Int) (hf : Few l) (hw : ws.length ≤ 1000000) : Ev (fun k => allowance_sides.f k l ws) (if sidesE l ws = 0 then (segs l ws (signO l), signO l, 0) else ([], 0, sidesE l ws)) := by
  unfold allowance_sides.f
  refine Ev.bind (Out_ev l hf) ?_
  by_cases h1 : ¬ outE l = 0
  · have e : sidesE l ws = outE l := by unfold sidesE; rw [if_neg h1]
    rw [e, if_neg h1]
    exact Ev.ct (bne_iff_ne.2 h1) (Ev.pure _)
  have h1 := Classical.not_not.1 h1
  refine Ev.cf (by rw [h1]; rfl) ?_
  by_cases h2 : ¬ ws.length = l.length
  · have e : sidesE l ws = 1 := by unfold sidesE; rw [if_pos h1, if_neg h2]
    rw [e]
    exact Ev.ct (bne_iff_ne.2 (by omega)) (Ev.pure _)
  have h2 := Classical.not_not.1 h2
  refine Ev.cf (by rw [bne_eq_false_iff_eq]; omega) ?_
  have ho := outE_ok.1 h1
  refine search (Q := fun i => Ev (fun k => allowance_sides.l0 k l ws ws (ws.length : Int) (i : Int)) _) (bad := fun i => ¬ (0 ≤ ws.getD i 0 ∧ ws.getD i 0 ≤ 500)) (n := ws.length) ?_ ?_ ?_
  · intro hn
    have h3 : wOk ws := (all_getD 0 ws fun w => 0 ≤ w ∧ w ≤ 500).2 fun i hi => Classical.not_not.1 (hn i hi)
    have e : sidesE l ws = 0 := sidesE_ok.2 ⟨ho, h2, h3⟩
    rw [if_pos e]
    refine Ev.step ?_
    simp only [allowance_sides.l0]
    have hp := Poly_ev l hf
    rw [if_pos h1] at hp
    refine Ev.cf dge (Ev.bind hp (Ev.cf rfl ?_))
    have ha := Area2_ev (verts l)
    rw [if_pos ho.poly] at ha
    refine Ev.bind ha ?_
    have go := fun s hs => sides_out (s := s) hf h2 h3 hs ho.line
    by_cases c : area2 (verts l) < 0
    · have es : signO l = -1 := by unfold signO; rw [if_pos c]
      rw [es]
      exact Ev.ct (decide_eq_true c) (go _ (.inr rfl))
    · have es : signO l = 1 := by unfold signO; rw [if_neg c]
      rw [es]
      exact Ev.cf (decide_eq_false c) (go _ (.inl rfl))
  all_goals
    intro i hi _ hb
    have gw : gd (0 : Int) ws (i : Int) = ws.getD i 0 := rfl
  · have h3 : ¬ wOk ws := fun h => hb (wOk_get h i)
    have e : sidesE l ws = 3 := by unfold sidesE; rw [if_pos h1, if_pos h2, if_neg h3]
    rw [e]
    refine Ev.step ?_
    simp only [allowance_sides.l0, gw]
    refine Ev.ct (dlt hi) (Ev.ct (inbN hi) ?_)
    by_cases c : ws.getD i 0 < 0
    · exact Ev.ct (decide_eq_true c) (Ev.pure _)
    · exact Ev.cf (decide_eq_false c) (Ev.ct (decide_eq_true (by omega)) (Ev.pure _))
  · intro q
    have hb := Classical.not_not.1 hb
    refine Ev.step ?_
    simp only [allowance_sides.l0, gw]
    rw [wadd1 (by omega)]
    exact Ev.ct (dlt hi) (Ev.ct (inbN hi) (Ev.cf (decide_eq_false (by omega)) (Ev.cf (decide_eq_false (by omega)) q)))
theorem Shifts_ev (l : List ED) (ws : List Int) (hf : Few l) (hw : ws.length ≤ 1000000) : Ev (fun k => allowance_Shifts.f k l ws) (if sidesE l ws = 0 then ((segs l ws (signO l)).map fun x => x.2.2.2.2.2, 0) else ([], sidesE l ws)) := by
  unfold allowance_Shifts.f
  refine Ev.bind (sides24_ev l ws hf hw) ?_
  by_cases h : sidesE l ws = 0
  · rw [if_pos h, if_pos h]
    refine Ev.cf rfl ?_
    have hlen : (segs l ws (signO l)).length ≤ 1000000 := by
      have := segsTo_len hf ws (signO l) l.length (Nat.le_refl _)
      have := hf.1
      unfold segs
      omega
    generalize segs l ws (signO l) = S at hlen ⊢
    have := down (Q := fun i => Ev (fun k => allowance_Shifts.l0 k (S.length : Int) (i : Int) ((S.take i).map fun x => x.2.2.2.2.2) S) (S.map fun x => x.2.2.2.2.2, 0)) (n := S.length) ?_ ?_
    · exact this
    · refine Ev.step ?_
      simp only [allowance_Shifts.l0]
      refine Ev.cf dge (Ev.some ?_)
      rw [List.take_length]
    · intro i hi q
      refine Ev.step ?_
      simp only [allowance_Shifts.l0]
      rw [take_succ' S i hi, List.map_append] at q
      rw [wadd1 (by omega), gd_get' _ S i hi]
      refine Ev.ct (dlt hi) (Ev.ct (inbN hi) (Ev.ct (fits_ok ?_) q))
      rw [List.length_map, List.length_take]
      show (_ + 1) * 16 ≤ _
      omega
  · rw [if_neg h, if_neg h]
    exact Ev.ct (bne_iff_ne.2 h) (Ev.pure _)
end Go.Gm

/- Allowances: the reference's sides. -/
set_option linter.unusedVariables false
set_option linter.unusedSimpArgs false
namespace Go.Gm
open Go.Pi

theorem shift_ev {a b : Spot} (ha : Ins a) (hb : Ins b) (hab : a ≠ b) {w s : Int} (hw : 0 ≤ w ∧ w ≤ 500) (hs : s = 1 ∨ s = -1) : Ev (fun k => ref24_shift.f k a b w s) (shiftS a b w s) := by
  unfold ref24_shift.f
  obtain ⟨d1, d2, dn, dl⟩ := side_nums ha hb hab hw hs
  obtain ⟨s1, s2, s3, s4⟩ := sw_bd hw hs d1
  obtain ⟨_, t2, t3, t4⟩ := sw_bd hw hs d2
  have m1 := mul_bd21 d1 d1
  have m2 := mul_bd21 d2 d2
  have v1 : IntKind.i64.wrap (b.1 - a.1) = b.1 - a.1 := i64_in (by omega) (by omega)
  have v2 : IntKind.i64.wrap (b.2 - a.2) = b.2 - a.2 := i64_in (by omega) (by omega)
  have v3 : IntKind.i64.wrap ((b.1 - a.1) * (b.1 - a.1)) = (b.1 - a.1) * (b.1 - a.1) := i64_in (by omega) (by omega)
  have v4 : IntKind.i64.wrap ((b.2 - a.2) * (b.2 - a.2)) = (b.2 - a.2) * (b.2 - a.2) := i64_in (by omega) (by omega)
  have v5 : IntKind.i64.wrap ((b.1 - a.1) * (b.1 - a.1) + (b.2 - a.2) * (b.2 - a.2)) = (b.1 - a.1) * (b.1 - a.1) + (b.2 - a.2) * (b.2 - a.2) := i64_in (by omega) (by omega)
  have v6 : IntKind.i64.wrap (w * (b.2 - a.2)) = w * (b.2 - a.2) := i64_in (by omega) (by omega)
  have v7 : IntKind.i64.wrap (w * (b.1 - a.1)) = w * (b.1 - a.1) := i64_in (by omega) (by omega)
  have v8 : negI .i64 s = -s := by unfold negI; rw [i64_in (by omega) (by omega)]; omega
  simp only [v1, v2, v3, v4, v5, v6, v7, v8]
  have hl : lenS a b ≤ 1099511627776 := by omega
  have hp := dl.1
  refine Ev.bind (root2_ev _ (by omega) (by omega)) (Ev.bs (round_eq hp hl (by omega)) (Ev.bs (round_eq hp hl (by omega)) (Ev.some ?_)))
  have b1 := dv_bd (A := 1048576000) hp t4
  have b2 := dv_bd (A := 1048576000) hp s4
  show (IntKind.i64.wrap (s * dv (w * (b.2 - a.2)) (lenS a b)), IntKind.i64.wrap (-s * dv (w * (b.1 - a.1)) (lenS a b))) = _
  unfold shiftS
  have e1 : IntKind.i64.wrap (s * dv (w * (b.2 - a.2)) (lenS a b)) = dv (s * w * (b.2 - a.2)) (lenS a b) := by
    rcases hs with rfl | rfl
    · rw [Int.one_mul, Int.one_mul, i64_in (by omega) (by omega)]
    · rw [show (-1 : Int) * w * (b.2 - a.2) = -(w * (b.2 - a.2)) by rw [Int.mul_assoc, Int.neg_mul, Int.one_mul], dv_neg hp, i64_in (by omega) (by omega)]
      omega
  have e2 : IntKind.i64.wrap (-s * dv (w * (b.1 - a.1)) (lenS a b)) = dv (-(s * w) * (b.1 - a.1)) (lenS a b) := by
    rcases hs with rfl | rfl
    · rw [Int.one_mul, show -w * (b.1 - a.1) = -(w * (b.1 - a.1)) by rw [Int.neg_mul], dv_neg hp, i64_in (by omega) (by omega)]
      omega
    · rw [show -(-1 * w) * (b.1 - a.1) = w * (b.1 - a.1) by rw [show -(-1 * w) = w by omega], i64_in (by omega) (by omega)]
      omega
  rw [e1, e2]
section
variable {l : List ED} {ws : List Int} (hf : Few l) (hws : ws.length = l.length) (hok : wOk ws) {s : Int} (hs : s = 1 ∨ s = -1) (hline : ∀ i, i < l.length → lineE (l.getD i e0).2 = 0)
include hf hws hok hs hline
theorem sides2_in {R : (List SideT) × Int} (i : Nat) (hi : i < l.length) (ih : Ev (fun k => ref24_Segments.l1 k l ws s ((i + 1 : Nat) : Int) (segsTo l ws s (i + 1))) R) :
    Ev (fun k => ref24_Segments.l2 k l ws s (i : Int) 0 (segsTo l ws s i)) R := by
  obtain ⟨h40, h2, hin, hne⟩ := lineE_ok.1 (hline i hi)
  have hl := hf.1
  have hx : gd ((⟨#[]⟩ : ByteArray), []) l (i : Int) = l.getD i e0 := rfl
  have h := down (Q := fun m => Ev (fun k => ref24_Segments.l2 k l ws s (i : Int) ((m : Nat) : Int) (segsTo l ws s i ++ segsN (l.getD i e0).2 (ws.getD i 0) s m)) R) (n := (l.getD i e0).2.length - 1) ?_ ?_
  · have e : segsN (l.getD i e0).2 (ws.getD i 0) s 0 = [] := rfl
    rw [e, List.append_nil] at h
    exact h
  · refine Ev.step ?_
    simp only [ref24_Segments.l2]
    rw [wadd1 (i := i) (by omega), ← segsTo_succ, hx, wadd1 (by omega)]
    exact Ev.ct (inbN hi) (Ev.cf (decide_eq_false (by omega)) ih)
  · intro m hm q
    refine Ev.step ?_
    simp only [ref24_Segments.l2]
    have w2 : IntKind.i64.wrap ((m : Int) + 1) = ((m + 1 : Nat) : Int) := wadd1 (by omega)
    have ga : gd ((0 : Int), (0 : Int)) (l.getD i e0).2 (m : Int) = (l.getD i e0).2.getD m (0, 0) := rfl
    have gb : gd ((0 : Int), (0 : Int)) (l.getD i e0).2 ((m + 1 : Nat) : Int) = (l.getD i e0).2.getD (m + 1) (0, 0) := rfl
    have gw : gd (0 : Int) ws (i : Int) = ws.getD i 0 := rfl
    rw [hx, w2, ga, gb, gw]
    have ha : Ins ((l.getD i e0).2.getD m (0, 0)) := (all_getD (0, 0) _ Ins).1 hin m (by omega)
    have hb : Ins ((l.getD i e0).2.getD (m + 1) (0, 0)) := (all_getD (0, 0) _ Ins).1 hin (m + 1) (by omega)
    have hab : (l.getD i e0).2.getD m (0, 0) ≠ (l.getD i e0).2.getD (m + 1) (0, 0) := fun e => hne (m + 1) (by omega) (by omega) e.symm
    have hw := wOk_get hok i
    rw [segsN_succ, ← List.append_assoc] at q
    have i1 : inb (i : Int) l.length = true := inbN hi
    have i2 : inb (i : Int) ws.length = true := inbN (by omega)
    have i3 : inb (m : Int) (l.getD i e0).2.length = true := inbN (by omega)
    have i4 : inb ((m + 1 : Nat) : Int) (l.getD i e0).2.length = true := inbN (by omega)
    refine Ev.ct i1 (Ev.ct (dlt (by omega)) (Ev.ct i1 (Ev.ct i3 (Ev.ct i1 (Ev.ct i4 (Ev.ct i2 (Ev.ct i2 (Ev.bind (shift_ev ha hb hab hw hs) (Ev.ct (fits_ok ?_) q)))))))))
    rw [List.length_append, segsN_len]
    have := segsTo_len hf ws s i (by omega)
    show ((segsTo l ws s i).length + m + 1) * 56 ≤ _
    omega
theorem sides2_out : Ev (fun k => ref24_Segments.l1 k l ws s 0 []) (segs l ws s, 0) := by
  have hl := hf.1
  refine down (Q := fun i => Ev (fun k => ref24_Segments.l1 k l ws s (i : Int) (segsTo l ws s i)) (segs l ws s, 0)) (n := l.length) ?_ ?_
  · refine Ev.step ?_
    simp only [ref24_Segments.l1]
    exact Ev.cf dge (Ev.pure _)
  · intro i hi q
    refine Ev.step ?_
    simp only [ref24_Segments.l1]
    exact Ev.ct (dlt hi) (sides2_in hf hws hok hs hline i hi q)
end
theorem Segments_ev (l : List ED) (ws : List Int) (hf : Few l) (hw : ws.length ≤ 1000000) : Ev (fun k => ref24_Segments.f k l ws) (if sidesE l ws = 0 then (segs l ws (signO l), 0) else ([], sidesE l ws)) := by
  unfold ref24_Segments.f
  refine Ev.bind (Out2_ev l hf) ?_
  by_cases h1 : ¬ outE l = 0
  · have e : sidesE l ws = outE l := by unfold sidesE; rw [if_neg h1]
    rw [e, if_neg h1]
    exact Ev.ct (bne_iff_ne.2 h1) (Ev.pure _)
  have h1 := Classical.not_not.1 h1
  refine Ev.cf (by rw [h1]; rfl) ?_
  by_cases h2 : ¬ ws.length = l.length
  · have e : sidesE l ws = 1 := by unfold sidesE; rw [if_pos h1, if_neg h2]
    rw [e]
    exact Ev.ct (bne_iff_ne.2 (by omega)) (Ev.pure _)
  have h2 := Classical.not_not.1 h2
  refine Ev.cf (by rw [bne_eq_false_iff_eq]; omega) ?_
  have ho := outE_ok.1 h1
  refine search (Q := fun i => Ev (fun k => ref24_Segments.l0 k l ws (i : Int)) _) (bad := fun i => ¬ (0 ≤ ws.getD i 0 ∧ ws.getD i 0 ≤ 500)) (n := ws.length) ?_ ?_ ?_
  · intro hn
    have h3 : wOk ws := (all_getD 0 ws fun w => 0 ≤ w ∧ w ≤ 500).2 fun i hi => Classical.not_not.1 (hn i hi)
    have e : sidesE l ws = 0 := sidesE_ok.2 ⟨ho, h2, h3⟩
    rw [if_pos e]
    refine Ev.step ?_
    simp only [ref24_Segments.l0]
    have hp := Poly2_ev l hf
    rw [if_pos h1] at hp
    have hor : Ev (fun k => ref24_orientation.f k (verts l)) (signO l) := by
      unfold ref24_orientation.f
      have ha := Area22_ev (verts l)
      rw [if_pos ho.poly] at ha
      refine Ev.bind ha ?_
      by_cases c : area2 (verts l) < 0
      · have es : signO l = -1 := by unfold signO; rw [if_pos c]
        rw [es]
        exact Ev.ct (decide_eq_true c) (Ev.pure _)
      · have es : signO l = 1 := by unfold signO; rw [if_neg c]
        rw [es]
        exact Ev.cf (decide_eq_false c) (Ev.pure _)
    exact Ev.cf dge (Ev.bind hp (Ev.bind hor (sides2_out hf h2 h3 (signO_or l) ho.line)))
  all_goals
    intro i hi _ hb
    have gw : gd (0 : Int) ws (i : Int) = ws.getD i 0 := rfl
  · have h3 : ¬ wOk ws := fun h => hb (wOk_get h i)
    have e : sidesE l ws = 3 := by unfold sidesE; rw [if_pos h1, if_pos h2, if_neg h3]
    rw [e]
    refine Ev.step ?_
    simp only [ref24_Segments.l0, gw]
    refine Ev.ct (dlt hi) (Ev.ct (inbN hi) ?_)
    by_cases c : ws.getD i 0 < 0
    · exact Ev.ct (decide_eq_true c) (Ev.pure _)
    · exact Ev.cf (decide_eq_false c) (Ev.ct (inbN hi) (Ev.ct (decide_eq_true (by omega)) (Ev.pure _)))
  · intro q
    have hb := Classical.not_not.1 hb
    refine Ev.step ?_
    simp only [ref24_Segments.l0, gw]
    rw [wadd1 (by omega)]
    exact Ev.ct (dlt hi) (Ev.ct (inbN hi) (Ev.cf (decide_eq_false (by omega)) (Ev.ct (inbN hi) (Ev.cf (decide_eq_false (by omega)) q))))
theorem Shifts2_ev (l : List ED) (ws : List Int) (hf : Few l) (hw : ws.length ≤ 1000000) : Ev (fun k => ref24_Shifts.f k l ws) (if sidesE l ws = 0 then ((segs l ws (signO l)).map fun x => x.2.2.2.2.2, 0) else ([], sidesE l ws)) := by
  unfold ref24_Shifts.f
  refine Ev.bind (Segments_ev l ws hf hw) ?_
  by_cases h : sidesE l ws = 0
  · rw [if_pos h, if_pos h]
    refine Ev.cf rfl ?_
    have hlen : (segs l ws (signO l)).length ≤ 1000000 := by
      have := segsTo_len hf ws (signO l) l.length (Nat.le_refl _)
      have := hf.1
      unfold segs
      omega
    generalize segs l ws (signO l) = S at hlen ⊢
    have := down (Q := fun i => Ev (fun k => ref24_Shifts.l0 k (i : Int) S ((S.take i).map fun x => x.2.2.2.2.2)) (S.map fun x => x.2.2.2.2.2, 0)) (n := S.length) ?_ ?_
    · exact this
    · refine Ev.step ?_
      simp only [ref24_Shifts.l0]
      refine Ev.cf dge (Ev.some ?_)
      rw [List.take_length]
    · intro i hi q
      refine Ev.step ?_
      simp only [ref24_Shifts.l0]
      rw [take_succ' S i hi, List.map_append] at q
      rw [wadd1 (by omega), gd_get' _ S i hi]
      refine Ev.ct (dlt hi) (Ev.ct (inbN hi) (Ev.ct (fits_ok ?_) q))
      rw [List.length_map, List.length_take]
      show (_ + 1) * 16 ≤ _
      omega
  · rw [if_neg h, if_neg h]
    exact Ev.ct (bne_iff_ne.2 h) (Ev.pure _)
end Go.Gm

/- Allowances: what a law takes in, and the example. -/
set_option linter.unusedVariables false
set_option linter.unusedSimpArgs false
namespace Go.Gm
open Go.Pi

theorem min_eq (a b : Int) : List.foldl zmin a [b] = min a b := by show zmin a b = _; unfold zmin; split <;> omega
theorem max_eq (a b : Int) : List.foldl zmax a [b] = max a b := by show zmax a b = _; unfold zmax; split <;> omega
theorem Vertices_ev (l : List ED) (hl : l.length ≤ 1000) (hz : ∀ i, i < l.length → (l.getD i e0).2.length ≤ 140737488351232) : ∃ r : Int, Ev (fun k => ref24_Vertices.f k l 60) r ∧ (r ≤ 60 → ∀ i, i < l.length → (l.getD i e0).2.length ≤ 60) := by
  unfold ref24_Vertices.f
  have key := down (Q := fun i => ∀ n : Int, 0 ≤ n → n ≤ 61 → ∃ r : Int, Ev (fun k => ref24_Vertices.l0 k l 60 n (i : Int)) r ∧ n ≤ r ∧ (r ≤ 60 → ∀ j, i ≤ j → j < l.length → (l.getD j e0).2.length ≤ 60)) (n := l.length) ?_ ?_
  · obtain ⟨r, h1, h2, h3⟩ := key 0 (by decide) (by decide)
    exact ⟨r, h1, fun h i hi => h3 h i (Nat.zero_le i) hi⟩
  · intro n h0 h1
    refine ⟨n, ?_, Int.le_refl _, fun _ j h2 h3 => by omega⟩
    refine Ev.step ?_
    simp only [ref24_Vertices.l0]
    exact Ev.cf dge (Ev.pure _)
  · intro i hi ih n h0 h1
    by_cases c : n ≤ 60
    · have hx : gd ((⟨#[]⟩ : ByteArray), []) l (i : Int) = l.getD i e0 := rfl
      have hL := hz i hi
      obtain ⟨r, g1, g2, g3⟩ := ih (min (n + ((l.getD i e0).2.length : Int) + 1) 61) (by omega) (by omega)
      refine ⟨r, ?_, by omega, fun hr j h2 h3 => ?_⟩
      · refine Ev.step ?_
        simp only [ref24_Vertices.l0, hx]
        rw [wadd1 (by omega), i64_in (x := n + ((l.getD i e0).2.length : Int)) (by omega) (by omega), i64_in (x := n + ((l.getD i e0).2.length : Int) + 1) (by omega) (by omega), show IntKind.i64.wrap (60 + 1) = 61 by decide, min_eq]
        exact Ev.ct (dlt hi) (Ev.ct (decide_eq_true c) (Ev.ct (inbN hi) g1))
      · by_cases e : j = i
        · subst e; omega
        · exact g3 hr j (by omega) h3
    · refine ⟨n, ?_, Int.le_refl _, fun hr => by omega⟩
      refine Ev.step ?_
      simp only [ref24_Vertices.l0]
      exact Ev.ct (dlt hi) (Ev.cf (decide_eq_false c) (Ev.pure _))
/-- What the guard of the laws of the chapter says. -/
structure Small24 (l : List ED) (ws : List Int) : Prop where
  few : Few l
  most : l.length ≤ 30
  ws : ws.length ≤ 20
  line : ∀ i, i < l.length → (l.getD i e0).2.length ≤ 60
theorem small24_ev (l : List ED) (ws : List Int) (hz : ∀ i, i < l.length → (l.getD i e0).2.length ≤ 140737488351232) : ∃ b : Bool, Ev (fun k => law24_small.f k l ws) b ∧ (b = true → Small24 l ws) := by
  unfold law24_small.f
  by_cases c1 : l.length > 30
  · exact ⟨false, Ev.ct (decide_eq_true (by omega)) (Ev.pure _), fun h => by cases h⟩
  by_cases c2 : ws.length > 20
  · exact ⟨false, Ev.cf (decide_eq_false (by omega)) (Ev.ct (decide_eq_true (by omega)) (Ev.pure _)), fun h => by cases h⟩
  obtain ⟨r, h1, h2⟩ := Vertices_ev l (by omega) hz
  by_cases c3 : r > 60
  · exact ⟨false, Ev.cf (decide_eq_false (by omega)) (Ev.cf (decide_eq_false (by omega)) (Ev.bind h1 (Ev.ct (decide_eq_true c3) (Ev.pure _)))), fun h => by cases h⟩
  have h3 := h2 (by omega)
  by_cases c4 : ∃ i, i < l.length ∧ 100 < (l.getD i e0).1.size
  · refine ⟨false, Ev.cf (decide_eq_false (by omega)) (Ev.cf (decide_eq_false (by omega)) (Ev.bind h1 (Ev.cf (decide_eq_false c3) ?_))), fun h => by cases h⟩
    obtain ⟨i0, hi0, hb0⟩ := c4
    refine search (Q := fun i => Ev (fun k => law24_small.l0 k l (l.length : Int) (i : Int)) false) (bad := fun i => 100 < (l.getD i e0).1.size) (n := l.length) (fun hn => absurd hb0 (hn i0 hi0)) (fun i hi _ hb => ?_) (fun i hi _ hb q => ?_)
    all_goals
      have hx : gd ((⟨#[]⟩ : ByteArray), []) l (i : Int) = l.getD i e0 := rfl
      refine Ev.step ?_
      simp only [law24_small.l0, hx]
      rw [wadd1 (by omega)]
      refine Ev.ct (dlt hi) (Ev.ct (inbN hi) ?_)
    · exact Ev.ct (decide_eq_true (by omega)) (Ev.pure _)
    · exact Ev.cf (decide_eq_false (by omega)) q
  · have h4 : ∀ i, i < l.length → (l.getD i e0).1.size ≤ 100 := fun i hi => Nat.not_lt.1 fun h => c4 ⟨i, hi, h⟩
    refine ⟨true, Ev.cf (decide_eq_false (by omega)) (Ev.cf (decide_eq_false (by omega)) (Ev.bind h1 (Ev.cf (decide_eq_false c3) ?_))), fun _ => ⟨⟨by omega, fun i hi => ⟨by have := h3 i hi; omega, by have := h4 i hi; omega⟩⟩, by omega, by omega, h3⟩⟩
    refine down (Q := fun i => Ev (fun k => law24_small.l0 k l (l.length : Int) (i : Int)) true) (n := l.length) ?_ ?_
    · refine Ev.step ?_
      simp only [law24_small.l0]
      exact Ev.cf dge (Ev.pure _)
    · intro i hi q
      have hx : gd ((⟨#[]⟩ : ByteArray), []) l (i : Int) = l.getD i e0 := rfl
      refine Ev.step ?_
      simp only [law24_small.l0, hx]
      rw [wadd1 (by omega)]
      have := h4 i hi
      exact Ev.ct (dlt hi) (Ev.ct (inbN hi) (Ev.cf (decide_eq_false (by omega)) q))
/-- The sizes that the machine lets in. -/
theorem lines_of {l : List ED} (h : ∀ x ∈ l, x.2.length ≤ 140737488351232) : ∀ i, i < l.length → (l.getD i e0).2.length ≤ 140737488351232 := fun i hi => by
  rw [getD_lt e0 l hi]
  exact h _ (List.getElem_mem hi)
end Go.Gm

/- Allowances: a shift points to the outside. -/
set_option linter.unusedVariables false
set_option linter.unusedSimpArgs false
namespace Go.Gm
open Go.Pi

theorem dv_nonneg {a n : Int} (hn : 0 < n) (ha : 0 ≤ a) : 0 ≤ dv a n := by
  unfold dv
  rw [if_neg (by omega)]
  exact Int.ediv_nonneg (by omega) (by omega)
theorem dv_pos {a n : Int} (hn : 0 < n) (ha : n ≤ 2 * a) : 1 ≤ dv a n := by
  unfold dv
  rw [if_neg (by omega)]
  exact (Int.le_ediv_iff_mul_le (by omega)).2 (by omega)
theorem lean_nonneg {d w n : Int} (hn : 0 < n) (hw : 0 ≤ w) : 0 ≤ d * dv (w * d) n := by
  rcases Int.le_total 0 d with h | h
  · exact Int.mul_nonneg h (dv_nonneg hn (Int.mul_nonneg hw h))
  · have e : w * d = -(w * -d) := by rw [Int.mul_neg, Int.neg_neg]
    rw [e, dv_neg hn]
    have := dv_nonneg hn (Int.mul_nonneg hw (show 0 ≤ -d by omega))
    exact Int.mul_nonneg_of_nonpos_of_nonpos h (by omega)
theorem lean_pos {d w n : Int} (hn : 0 < n) (hw : 1 ≤ w) (hd : n ≤ 2 * d ∨ n ≤ 2 * -d) : 0 < d * dv (w * d) n := by
  have key : ∀ d : Int, 0 ≤ d → n ≤ 2 * d → 0 < d * dv (w * d) n := fun d h0 h => by
    have h1 : 1 * d ≤ w * d := Int.mul_le_mul_of_nonneg_right hw h0
    have h2 := dv_pos (a := w * d) hn (by omega)
    exact Int.mul_pos (by omega) (by omega)
  rcases hd with h | h
  · exact key d (by omega) h
  · have e : d * dv (w * d) n = -d * dv (w * -d) n := by
      rw [Int.mul_neg, dv_neg hn, Int.neg_mul_neg]
    rw [e]
    exact key (-d) (by omega) h
/-- Twice the root of a sum of two squares is not above four times the greater number. -/
theorem root_near {x y n : Int} (hn : 0 < n) (h : n * n ≤ x * x + y * y) : (n ≤ 2 * x ∨ n ≤ 2 * -x) ∨ (n ≤ 2 * y ∨ n ≤ 2 * -y) := by
  refine Classical.byContradiction fun hc => ?_
  have hx : -(n - 1) ≤ 2 * x ∧ 2 * x ≤ n - 1 := by omega
  have hy : -(n - 1) ≤ 2 * y ∧ 2 * y ≤ n - 1 := by omega
  have h1 := (mul_bd hx hx).2
  have h2 := (mul_bd hy hy).2
  have e1 : 2 * x * (2 * x) = 4 * (x * x) := by rw [Int.mul_assoc, Int.mul_left_comm x 2 x, ← Int.mul_assoc]; rfl
  have e2 : 2 * y * (2 * y) = 4 * (y * y) := by rw [Int.mul_assoc, Int.mul_left_comm y 2 y, ← Int.mul_assoc]; rfl
  have e3 : (n - 1) * (n - 1) = n * n - 2 * n + 1 := by rw [Int.sub_mul, Int.mul_sub, Int.mul_one, Int.one_mul]; omega
  have h5 : n * 1 ≤ n * n := Int.mul_le_mul_of_nonneg_left (by omega) (by omega)
  omega
/-- How far a side's shift leads to its right. -/
def rightS (a b sh : Spot) : Int := (b.2 - a.2) * sh.1 - (b.1 - a.1) * sh.2
theorem right_eq (a b : Spot) {w s : Int} (hs : s = 1 ∨ s = -1) (hn : 0 < lenS a b) : rightS a b (shiftS a b w s) = s * ((b.2 - a.2) * dv (w * (b.2 - a.2)) (lenS a b) + (b.1 - a.1) * dv (w * (b.1 - a.1)) (lenS a b)) := by
  unfold rightS shiftS
  rcases hs with rfl | rfl
  · show (b.2 - a.2) * dv (1 * w * (b.2 - a.2)) (lenS a b) - (b.1 - a.1) * dv (-(1 * w) * (b.1 - a.1)) (lenS a b) = _
    rw [Int.one_mul, Int.one_mul, Int.neg_mul, dv_neg hn, Int.mul_neg]
    omega
  · show (b.2 - a.2) * dv (-1 * w * (b.2 - a.2)) (lenS a b) - (b.1 - a.1) * dv (-(-1 * w) * (b.1 - a.1)) (lenS a b) = _
    rw [show (-1 : Int) * w = -w by omega, Int.neg_mul, dv_neg hn, Int.mul_neg, Int.neg_neg]
    omega
theorem right_pos {a b : Spot} (ha : Ins a) (hb : Ins b) (hab : a ≠ b) {w s : Int} (hw : 1 ≤ w ∧ w ≤ 500) (hs : s = 1 ∨ s = -1) : 0 < s * rightS a b (shiftS a b w s) := by
  obtain ⟨d1, d2, dn, dl⟩ := side_nums ha hb hab (w := w) (by omega) hs
  have hr := rt_spec (n := (b.1 - a.1) * (b.1 - a.1) + (b.2 - a.2) * (b.2 - a.2)) (by omega) (by omega)
  have near := root_near (x := b.1 - a.1) (y := b.2 - a.2) dl.1 hr.2.1
  have n1 := lean_nonneg (d := b.1 - a.1) (w := w) dl.1 (by omega)
  have n2 := lean_nonneg (d := b.2 - a.2) (w := w) dl.1 (by omega)
  have hT : 0 < (b.2 - a.2) * dv (w * (b.2 - a.2)) (lenS a b) + (b.1 - a.1) * dv (w * (b.1 - a.1)) (lenS a b) := by
    rcases near with h | h
    · have := lean_pos (w := w) dl.1 hw.1 h
      omega
    · have := lean_pos (w := w) dl.1 hw.1 h
      omega
  rw [right_eq a b hs dl.1]
  rcases hs with rfl | rfl <;> omega
theorem shift_zero {a b : Spot} {s : Int} (hn : 0 < lenS a b) : shiftS a b 0 s = (0, 0) := by
  unfold shiftS
  rw [Int.mul_zero, Int.neg_zero, Int.zero_mul, Int.zero_mul, dv_zero hn]
theorem shift_bd {a b : Spot} (ha : Ins a) (hb : Ins b) (hab : a ≠ b) {w s : Int} (hw : 0 ≤ w ∧ w ≤ 500) (hs : s = 1 ∨ s = -1) : (-1048576001 ≤ (shiftS a b w s).1 ∧ (shiftS a b w s).1 ≤ 1048576001) ∧ (-1048576001 ≤ (shiftS a b w s).2 ∧ (shiftS a b w s).2 ≤ 1048576001) := by
  obtain ⟨d1, d2, dn, dl⟩ := side_nums ha hb hab hw hs
  obtain ⟨s1, s2, s3, s4⟩ := sw_bd hw hs d1
  obtain ⟨_, t2, t3, t4⟩ := sw_bd hw hs d2
  exact ⟨dv_bd (A := 1048576000) dl.1 t2, dv_bd (A := 1048576000) dl.1 s3⟩

/-! where a side stands in the list -/
theorem segsTo_pre (l : List ED) (ws : List Int) (s : Int) (i : Nat) : ∀ d, ∃ r, segsTo l ws s (i + d) = segsTo l ws s i ++ r
  | 0 => ⟨[], by simp⟩
  | d + 1 => by
    obtain ⟨r, h⟩ := segsTo_pre l ws s i d
    exact ⟨r ++ _, by rw [← Nat.add_assoc, segsTo_succ, h, List.append_assoc]⟩
theorem segs_at (l : List ED) (ws : List Int) (s : Int) {i m : Nat} (hi : i < l.length) (hm : m < (l.getD i e0).2.length - 1) :
    (segs l ws s)[(segsTo l ws s i).length + m]? = some (sideS ((l.getD i e0).2.getD m (0, 0)) ((l.getD i e0).2.getD (m + 1) (0, 0)) (ws.getD i 0) s) := by
  obtain ⟨r, h⟩ := segsTo_pre l ws s (i + 1) (l.length - (i + 1))
  rw [show i + 1 + (l.length - (i + 1)) = l.length by omega] at h
  unfold segs
  rw [h, segsTo_succ, List.append_assoc, List.getElem?_append_right (by omega), Nat.add_sub_cancel_left, List.getElem?_append_left (by rw [segsN_len]; exact hm)]
  unfold segsN
  rw [List.getElem?_map, List.getElem?_range hm]
  rfl
theorem segs_verts (l : List ED) (ws : List Int) (s : Int) : ∀ i, i ≤ l.length → (segsTo l ws s i).length = (verts (l.take i)).length
  | 0, _ => by simp [segsTo, verts]
  | i + 1, hi => by
    rw [segsTo_succ, verts_take_succ l i (by omega), List.length_append, List.length_append, segsN_len, segs_verts l ws s i (by omega), List.length_take]
    omega
theorem segs_vlen (l : List ED) (ws : List Int) (s : Int) : (segs l ws s).length = (verts l).length := by
  unfold segs
  rw [segs_verts l ws s l.length (Nat.le_refl _), List.take_length]
end Go.Gm
