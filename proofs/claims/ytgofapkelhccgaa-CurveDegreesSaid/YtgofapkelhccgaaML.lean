/- Loops, from their ends to their beginnings. -/
import Derived.Test.YtgofapkelhccgaaMQ
set_option linter.unusedVariables false
set_option linter.unusedSimpArgs false
namespace Go.Gm
open Go.Pi

theorem down {Q : Nat → Prop} {n : Nat} (he : Q n) (hs : ∀ i, i < n → Q (i + 1) → Q i) : Q 0 := by
  have : ∀ m i, m = n - i → i ≤ n → Q i := by
    intro m
    induction m with
    | zero =>
      intro i h1 h2
      have : i = n := by omega
      subst this
      exact he
    | succ m ih => intro i h1 h2; exact hs i (by omega) (ih (i + 1) (by omega) (by omega))
  exact this n 0 (by omega) (by omega)
/-- From a beginning a on. -/
theorem downFrom {Q : Nat → Prop} {n a : Nat} (ha : a ≤ n) (he : Q n) (hs : ∀ i, a ≤ i → i < n → Q (i + 1) → Q i) : Q a := by
  have := down (Q := fun j => Q (a + j)) (n := n - a) (by show Q (a + (n - a)); rw [Nat.add_sub_cancel' ha]; exact he) (fun i hi h => hs (a + i) (by omega) (by omega) h)
  exact this
/-- A search: the first one that is bad ends it. -/
theorem searchFrom {Q : Nat → Prop} {bad : Nat → Prop} {n a : Nat} (ha : a ≤ n) (he : (∀ j, a ≤ j → j < n → ¬ bad j) → Q n) (hb : ∀ i, a ≤ i → i < n → (∀ j, a ≤ j → j < i → ¬ bad j) → bad i → Q i)
    (hs : ∀ i, a ≤ i → i < n → (∀ j, a ≤ j → j < i → ¬ bad j) → ¬ bad i → Q (i + 1) → Q i) : Q a := by
  have : (∀ j, a ≤ j → j < a → ¬ bad j) → Q a := downFrom (Q := fun i => (∀ j, a ≤ j → j < i → ¬ bad j) → Q i) ha he (fun i h1 hi h hj => by
    by_cases hb' : bad i
    · exact hb i h1 hi hj hb'
    · refine hs i h1 hi hj hb' (h fun j h2 hj' => ?_)
      by_cases e : j = i
      · subst e; exact hb'
      · exact hj j h2 (by omega))
  exact this (by omega)
theorem search {Q : Nat → Prop} {bad : Nat → Prop} {n : Nat} (he : (∀ j, j < n → ¬ bad j) → Q n) (hb : ∀ i, i < n → (∀ j, j < i → ¬ bad j) → bad i → Q i)
    (hs : ∀ i, i < n → (∀ j, j < i → ¬ bad j) → ¬ bad i → Q (i + 1) → Q i) : Q 0 :=
  searchFrom (Nat.zero_le n) (fun h => he fun j hj => h j (Nat.zero_le j) hj) (fun i _ hi h hb' => hb i hi (fun j hj => h j (Nat.zero_le j) hj) hb') (fun i _ hi h hb' hq => hs i hi (fun j hj => h j (Nat.zero_le j) hj) hb' hq)

/-! steps of runs -/
theorem Ev.ct {α : Type} {c : Bool} {g g' : Nat → Option α} {r : α} (hc : c = true) (h : Ev g r) : Ev (fun k => cond c (g k) (g' k)) r := by subst hc; exact h
theorem Ev.cf {α : Type} {c : Bool} {g g' : Nat → Option α} {r : α} (hc : c = false) (h : Ev g' r) : Ev (fun k => cond c (g k) (g' k)) r := by subst hc; exact h
theorem Ev.cd {α : Type} {p : Prop} [Decidable p] {g g' : Nat → Option α} {r : α} (h : p → Ev g r) (h' : ¬ p → Ev g' r) : Ev (fun k => cond (decide p) (g k) (g' k)) r := by
  by_cases hp : p
  · exact Ev.ct (decide_eq_true hp) (h hp)
  · exact Ev.cf (decide_eq_false hp) (h' hp)
theorem Ev.cb {α : Type} {c : Bool} {g g' : Nat → Option α} {r : α} (h : c = true → Ev g r) (h' : c = false → Ev g' r) : Ev (fun k => cond c (g k) (g' k)) r := by
  cases c
  · exact h' rfl
  · exact h rfl
theorem Ev.bs {α β : Type} {x : Option α} {h : Nat → α → Option β} {y : α} {r : β} (h1 : x = some y) (h2 : Ev (fun k => h k y) r) : Ev (fun k => bindO x (h k)) r := by subst h1; exact h2
theorem Ev.some {α : Type} {x r : α} (h : x = r) : Ev (fun _ => Option.some x) r := h ▸ Ev.pure _

/-! numbers of loops -/
theorem wadd {i : Nat} (c : Nat) (h : i + c < 9223372036854775808) : IntKind.i64.wrap ((i : Int) + (c : Int)) = ((i + c : Nat) : Int) := by
  rw [i64_in (by omega) (by omega)]; omega
theorem wadd1 {i : Nat} (h : i < 9223372036854775807) : IntKind.i64.wrap ((i : Int) + 1) = ((i + 1 : Nat) : Int) := by
  rw [i64_in (by omega) (by omega)]; omega
theorem wsub {i j : Nat} (h : j ≤ i) (h' : i < 9223372036854775808) : IntKind.i64.wrap ((i : Int) - (j : Int)) = ((i - j : Nat) : Int) := by
  rw [i64_in (by omega) (by omega)]; omega
theorem dlt {i n : Nat} (h : i < n) : decide ((i : Int) < (n : Int)) = true := decide_eq_true (by omega)
theorem dge {n : Nat} : decide ((n : Int) < (n : Int)) = false := decide_eq_false (by omega)
theorem inbN {i n : Nat} (h : i < n) : inb (i : Int) n = true := inb_t' (by omega) (by omega)
theorem fits_ok {b n m : Nat} (h : (n + m) * b ≤ 140737488355328) : fits b n m = true := decide_eq_true h
theorem map_range_succ {α : Type} (f : Nat → α) (i : Nat) : (List.range (i + 1)).map f = (List.range i).map f ++ [f i] := by
  rw [List.range_succ, List.map_append]; rfl
theorem take_succ' {α : Type} (xs : List α) (i : Nat) (h : i < xs.length) : xs.take (i + 1) = xs.take i ++ [xs[i]] := List.take_succ_eq_append_getElem h
theorem tmod_nat (a b : Nat) : Int.tmod (a : Int) (b : Int) = ((a % b : Nat) : Int) := by
  rw [tmod_nn (by omega)]; rfl
theorem ne0 {n : Nat} (h : 0 < n) : (!decide ((n : Int) = 0)) = true := by
  rw [decide_eq_false (by omega)]; rfl
end Go.Gm
