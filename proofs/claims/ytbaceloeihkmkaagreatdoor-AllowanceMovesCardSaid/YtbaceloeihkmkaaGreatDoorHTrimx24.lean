/- What strings.Trim does at a set of letters of ASCII. -/
import Derived.Test.YtbaceloeihkmkaaGreatDoorChecked
import Derived.WalkKit
import Derived.Shelf.Strings.AsciiSet
import Derived.Laws.Strings2
import Derived.Deep.WholeRow
import Derived.Test.YtbaceloeihkmkaaGreatDoorQQ4
import Derived.Test.YtbaceloeihkmkaaGreatDoorDQ1
import Derived.KernelRfl
set_option linter.unusedVariables false
set_option linter.unusedSimpArgs false
set_option maxRecDepth 1000000
namespace Go.Gm
open Go.Pi Go.Proofs Go.RowKit Go.Shelf Go.Lib

def rhoT : Ren := ⟨fun n => if n = 227 then 136 else if n = 228 then 141 else 0, fun n => match n with | 3 => 3 | 4 => 4 | 5 => 5 | 9 => 9 | 116 => 170 | 124 => 174 | _ => 0, fun x => x⟩
theorem laysMk : Lays.n227 Tryz.prog rhoT where
  mixed := by kernel_rfl
  f227 := by kernel_rfl
  t0 := by kernel_rfl
  a0 := fun w => by kernel_rfl
  z0 := fun w => by kernel_rfl
  v0 := fun w => by kernel_rfl
  t3 := by kernel_rfl
  a3 := fun w => by kernel_rfl
  z3 := fun w => by kernel_rfl
  v3 := fun w => by kernel_rfl
  t4 := by kernel_rfl
  a4 := fun w => by kernel_rfl
  z4 := fun w => by kernel_rfl
  v4 := fun w => by kernel_rfl
  t5 := by kernel_rfl
  a5 := fun w => by kernel_rfl
  z5 := fun w => by kernel_rfl
  v5 := fun w => by kernel_rfl
  t9 := by kernel_rfl
  a9 := fun w => by kernel_rfl
  z9 := fun w => by kernel_rfl
  v9 := fun w => by kernel_rfl
  t116 := by kernel_rfl
  a116 := fun w => by kernel_rfl
  z116 := fun w => by kernel_rfl
theorem laysIn : Lays.n228 Tryz.prog rhoT where
  mixed := by kernel_rfl
  f228 := by kernel_rfl
  t0 := by kernel_rfl
  a0 := fun w => by kernel_rfl
  z0 := fun w => by kernel_rfl
  v0 := fun w => by kernel_rfl
  t4 := by kernel_rfl
  a4 := fun w => by kernel_rfl
  z4 := fun w => by kernel_rfl
  v4 := fun w => by kernel_rfl
  t5 := by kernel_rfl
  a5 := fun w => by kernel_rfl
  z5 := fun w => by kernel_rfl
  v5 := fun w => by kernel_rfl
  t116 := by kernel_rfl
  a116 := fun w => by kernel_rfl
  z116 := fun w => by kernel_rfl
  t124 := by kernel_rfl
  a124 := fun w => by kernel_rfl
  z124 := fun w => by kernel_rfl
  v124 := fun w => by kernel_rfl

def sLen : Value → Nat
  | .string s => s.size
  | _ => 0
theorem sLen_s (s : ByteArray) : sLen (.string s) = s.size := rfl
theorem sizeMk (l : List UInt8) : (⟨l.toArray⟩ : ByteArray).size = l.length := by simp [ByteArray.size]
theorem cut1 (x : UInt8) (l : List UInt8) (n : Nat) (hn : n = l.length + 1) : (⟨(x :: l).toArray⟩ : ByteArray).extract 1 n = ⟨l.toArray⟩ := by
  rw [ByteArray.extract_mk, hn]
  simp


theorem inSet {p : UInt8 → Bool} (b : Nat) : ∀ (x : UInt8) (v : Bool) (W : World), W.cell? ⟨b, x.toNat, none⟩ = some (.bool v) → Calls Tryz.prog 141 #[.pointer (some ⟨b, 0, none⟩), .int .u8 x.toNat] W fun e w' => e = .returned (.bool v) ∧ w' = W := fun x v W h => Any.asciiSet_contains laysIn b x v W h

set_option maxHeartbeats 2000000 in
/-- The letters of a set at the beginning go. -/
theorem trimL (s : ByteArray) (b : Nat) (p : UInt8 → Bool) (w : World) (R : ByteArray) (hR : (⟨(s.data.toList.dropWhile p).toArray⟩ : ByteArray) = R) (hset : ∀ x : UInt8, w.cell? ⟨b, x.toNat, none⟩ = some (.bool (p x))) :
    Calls Tryz.prog 137 #[.string s, .pointer (some ⟨b, 0, none⟩)] w fun e w' => e = .returned (.string R) ∧ w' = w := by
  have HS : Aside _ := hset
  clear hset
  have hin := inSet (p := p) b
  have HR : Aside _ := hR
  clear hR
  go_enter Tryz.func137, Tryz.ntmps137
  go_wp2
  go_loop [0] (fun v => ∃ l : List UInt8, v = .string ⟨l.toArray⟩ ∧ Aside ((⟨(l.dropWhile p).toArray⟩ : ByteArray) = R)) (fun v => sLen v)
  case atStart => exact ⟨s.data.toList, by simp, HR.out⟩
  case round =>
    obtain ⟨l, rfl, HL⟩ := hrel
    clear HR
    cases l with
    | nil =>
      have hz : (⟨([] : List UInt8).toArray⟩ : ByteArray).size = 0 := rfl
      generalize ht : (⟨([] : List UInt8).toArray⟩ : ByteArray) = t at hz ⊢
      have HT : Aside (t = R) := by rw [← ht]; exact HL.out
      clear ht HL
      go_wp2
      go_ret
      exact ⟨by show Ending.returned (.string t) = _; rw [HT.out], rfl⟩
    | cons x l =>
      have hz := sizeMk (x :: l)
      rw [List.length_cons] at hz
      have hx : ∀ h, (⟨(x :: l).toArray⟩ : ByteArray)[0]'h = x := fun h => rfl
      have hc := cut1 x l _ rfl
      generalize ht : (⟨(x :: l).toArray⟩ : ByteArray) = t at hz hx hc ⊢
      have h0 : 0 < t.size := by omega
      have hx' := hx h0
      clear hx
      have hcx := HS.out x
      cases hi : p x <;> rw [hi] at hcx
      · have HT : Aside (t = R) := by rw [← ht, ← HL.out, List.dropWhile_cons, hi]; rfl
        clear hi ht HL
        go_wp2_with (go_at_call 141; refine (hin x _ _ hcx).mono ?_; rintro e w' ⟨rfl, hw⟩; rw [hw])
        go_ret
        exact ⟨by show Ending.returned (.string t) = _; rw [HT.out], rfl⟩
      · have HT : Aside ((⟨(l.dropWhile p).toArray⟩ : ByteArray) = R) := by rw [← HL.out, List.dropWhile_cons, hi]; rfl
        clear hi ht HL
        go_wp2_with (go_at_call 141; refine (hin x _ _ hcx).mono ?_; rintro e w' ⟨rfl, hw⟩; rw [hw])
        exact ⟨⟨l, rfl, HT⟩, by rw [sLen_s, sLen_s, sizeMk, hz]; omega⟩

theorem cutR (x : UInt8) (l : List UInt8) : (⟨((x :: l).reverse).toArray⟩ : ByteArray).extract 0 l.length = ⟨l.reverse.toArray⟩ := by
  rw [ByteArray.extract_mk]
  simp
theorem lastR (x : UInt8) (l : List UInt8) (h : l.length < (⟨((x :: l).reverse).toArray⟩ : ByteArray).size) : (⟨((x :: l).reverse).toArray⟩ : ByteArray)[l.length]'h = x := by
  show ((x :: l).reverse.toArray)[l.length]'(by simp) = x
  simp

set_option maxHeartbeats 2000000 in
/-- The letters of a set at the end go. -/
theorem trimR (s : ByteArray) (b : Nat) (p : UInt8 → Bool) (w : World) (R : ByteArray) (hs : s.size ≤ 9223372036854775807) (hR : (⟨((s.data.toList.reverse.dropWhile p).reverse).toArray⟩ : ByteArray) = R) (hset : ∀ x : UInt8, w.cell? ⟨b, x.toNat, none⟩ = some (.bool (p x))) :
    Calls Tryz.prog 138 #[.string s, .pointer (some ⟨b, 0, none⟩)] w fun e w' => e = .returned (.string R) ∧ w' = w := by
  have HS : Aside _ := hset
  clear hset
  have hin := inSet (p := p) b
  have HR : Aside _ := hR
  clear hR
  go_enter Tryz.func138, Tryz.ntmps138
  go_wp2
  go_loop [0] (fun v => ∃ l : List UInt8, v = .string ⟨l.reverse.toArray⟩ ∧ l.length ≤ 9223372036854775807 ∧ Aside ((⟨((l.dropWhile p).reverse).toArray⟩ : ByteArray) = R)) (fun v => sLen v)
  case atStart => exact ⟨s.data.toList.reverse, by simp, by rw [List.length_reverse]; exact hs, HR.out⟩
  case round =>
    obtain ⟨l, rfl, hb, HL⟩ := hrel
    clear HR
    cases l with
    | nil =>
      have hz : (⟨([] : List UInt8).reverse.toArray⟩ : ByteArray).size = 0 := rfl
      generalize ht : (⟨([] : List UInt8).reverse.toArray⟩ : ByteArray) = t at hz ⊢
      have HT : Aside (t = R) := by rw [← ht]; exact HL.out
      clear ht HL
      go_wp2
      go_ret
      exact ⟨by show Ending.returned (.string t) = _; rw [HT.out], rfl⟩
    | cons x l =>
      have hz := sizeMk (x :: l).reverse
      rw [List.length_reverse, List.length_cons] at hz
      rw [List.length_cons] at hb
      have hx := lastR x l
      have hc := cutR x l
      generalize ht : (⟨(x :: l).reverse.toArray⟩ : ByteArray) = t at hz hx hc ⊢
      have h0 : l.length < t.size := by omega
      have hx' := hx h0
      clear hx
      have hwr : ((l.length : Int) + 1 - 1 + 9223372036854775808) % 18446744073709551616 - 9223372036854775808 = (l.length : Int) := by omega
      have hcx := HS.out x
      cases hi : p x <;> rw [hi] at hcx
      · have HT : Aside (t = R) := by rw [← ht, ← HL.out, List.dropWhile_cons, hi]; rfl
        clear hi ht HL
        go_wp2_with (go_at_call 141; refine (hin x _ _ hcx).mono ?_; rintro e w' ⟨rfl, hw⟩; rw [hw])
        go_ret
        exact ⟨by show Ending.returned (.string t) = _; rw [HT.out], rfl⟩
      · have HT : Aside ((⟨((l.dropWhile p).reverse).toArray⟩ : ByteArray) = R) := by rw [← HL.out, List.dropWhile_cons, hi]; rfl
        clear hi ht HL
        go_wp2_with (go_at_call 141; refine (hin x _ _ hcx).mono ?_; rintro e w' ⟨rfl, hw⟩; rw [hw])
        exact ⟨⟨l, rfl, by omega, HT⟩, by rw [sLen_s, sLen_s, sizeMk, hz, List.length_reverse]; omega⟩

theorem zeroSet : ∀ w, (zeroValue (rhoT.t 116)).run Tryz.prog w = .ok (.agg (Array.replicate 256 (.bool false))) w := fun w => by kernel_rfl
theorem sizeSet : (Tryz.prog.info? (rhoT.t 116)).map (·.size) = some 256 := by kernel_rfl

theorem nonE {s : ByteArray} (h : 0 < s.size) : s.toList.isEmpty = false := by
  rw [Lib.toList_data]
  cases h' : s.data.toList with
  | nil => have := Lib.size_eq s; rw [h', List.length_nil] at this; omega
  | cons _ _ => rfl

set_option maxHeartbeats 8000000 in
/-- The letters of a set at both ends go; two new variables are left behind. -/
theorem trimB (s cutset : ByteArray) (w : World) (R1 R : ByteArray) (h2 : 2 ≤ cutset.size) (h0 : 0 < s.size) (hs : s.size ≤ 9223372036854775807) (hcs : cutset.size < 4294967281) (hascii : ∀ (j : Nat) b, cutset.data.toList[j]? = some b → b.toNat < 128)
    (hR1 : (⟨((s.data.toList.reverse.dropWhile (cutset.data.toList.contains ·)).reverse).toArray⟩ : ByteArray) = R1) (hR1s : R1.size ≤ 9223372036854775807) (hR : (⟨(R1.data.toList.dropWhile (cutset.data.toList.contains ·)).toArray⟩ : ByteArray) = R) :
    Calls Tryz.prog 133 #[.string s, .string cutset] w fun e w' => e = .returned (.string R) ∧ ∃ C1 C2 q, w' = ((w.alloc (.cells C1 170)).alloc (.cells C2 170)).drewN q := by
  have hM : Calls Tryz.prog 136 #[.string cutset] w fun e w' => e = .returned (.tuple #[.agg (Lib.setCells cutset.data.toList), .bool true]) ∧ w' = w.alloc (.cells (Lib.setCells cutset.data.toList) 170) := Any.strings_makeASCIISet laysMk zeroSet sizeSet cutset w hcs hascii
  clear hascii
  have hsz := Lib.setCells_size cutset.data.toList
  have hsc : (storeCells ⟨w.heap.size + 1, 0, none⟩ (Lib.setCells cutset.data.toList).toList 0).run Tryz.prog ((w.alloc (.cells (Lib.setCells cutset.data.toList) 170)).alloc (.cells Tryz.zeroCells170 170)) = .ok () ((w.alloc (.cells (Lib.setCells cutset.data.toList) 170)).alloc (.cells (Lib.setCells cutset.data.toList) 170)) := by
    have := run_storeCells_new (P := Tryz.prog) (w.alloc (.cells (Lib.setCells cutset.data.toList) 170)) 170 Tryz.zeroCells170 (Lib.setCells cutset.data.toList) (by rw [hsz]; exact sizeSet) (by rw [hsz]; kernel_rfl) (Lib.setCells_one _)
    simpa using this
  have HC : Aside (∀ (q : Nat) (x : UInt8), (((w.alloc (.cells (Lib.setCells cutset.data.toList) 170)).alloc (.cells (Lib.setCells cutset.data.toList) 170)).drewN q).cell? ⟨w.heap.size + 1, x.toNat, none⟩ = some (.bool (cutset.data.toList.contains x))) := fun q x => by
    have : ((w.alloc (.cells (Lib.setCells cutset.data.toList) 170)).alloc (.cells (Lib.setCells cutset.data.toList) 170)).cell? ⟨w.heap.size + 1, x.toNat, none⟩ = some (.bool (cutset.data.toList.contains x)) := by
      rw [World.cell?_alloc_at _ _ _ _ (by simp), Lib.setCells_at]
    simpa using this
  have he1 : s.toList.isEmpty = false := nonE h0
  have he2 : cutset.toList.isEmpty = false := nonE (by omega)
  have hn1 : ((cutset.size : Int) == 1) = false := beq_eq_false_iff_ne.2 (by omega)
  generalize Lib.setCells cutset.data.toList = C at hM hsz hsc HC
  have HR1 : Aside _ := hR1
  have HR : Aside _ := hR
  clear hR1 hR
  go_enter Tryz.func133, Tryz.ntmps133
  go_wp2_with (first
    | (go_at_call 136; refine hM.mono ?_; rintro e w' ⟨rfl, hw⟩; rw [hw])
    | (go_at_call 138; refine (trimR s (w.heap.size + 1) _ _ R1 hs HR1.out (HC.out 0)).mono ?_; rintro e w' ⟨rfl, hw⟩; rw [hw])
    | (go_at_call 137; refine (trimL R1 (w.heap.size + 1) _ _ R HR.out (HC.out 0)).mono ?_; rintro e w' ⟨rfl, hw⟩; rw [hw]))
  go_ret
  exact ⟨rfl, C, C, 0, rfl⟩

def strings_Trim.E : Ent := ⟨[.data false (.one .str), .data false (.one .str)], [⟨false, .one .str, none⟩], fun _ x => strings_Trim.f x.1 x.2.1⟩
theorem Below.kept {n : Nat} {w w' : World} (hn : w.heap.size = n) (h : Below n w w') {Gv : Nat → Prop} : Kept w Gv w' := by
  subst hn
  exact ⟨h.os, h.tape, h.output, h.size, fun k hk _ => h.block k hk⟩
theorem strings_Trim.H : HM Tryz.prog 133 strings_Trim.E where
  m := fun k k' x r _ h => h
  h := by
    refine ⟨fun e r h => (nomatch h), ⟨Tryz.f133, Tryz.func133, by kernel_rfl, by kernel_rfl⟩, fun k x r vs w A hr hA hp hrep => ?_⟩
    obtain ⟨s, c, u⟩ := x
    cases u
    obtain ⟨v, rest, rfl, h1, v2, rest2, rfl, h2, h3⟩ := hrep
    have h3 : rest2 = [] := h3
    subst h3
    have e1 : v = .string s := by
      have h1 : RepP w A false (.one .str) s v := h1
      unfold RepP at h1
      rw [if_neg (by decide)] at h1
      simp only [RepR] at h1
      obtain ⟨u, e, hu⟩ := h1
      cases e
      simpa only [RepC] using hu
    have e2 : v2 = .string c := by
      have h2 : RepP w A false (.one .str) c v2 := h2
      unfold RepP at h2
      rw [if_neg (by decide)] at h2
      simp only [RepR] at h2
      obtain ⟨u, e, hu⟩ := h2
      cases e
      simpa only [RepC] using hu
    subst e1 e2
    have hr : strings_Trim.f s c = some r := hr
    unfold strings_Trim.f at hr
    cases hc : (decide (2 ≤ c.size) && (decide (0 < s.size) && (decide (s.size ≤ 9223372036854775807) && (decide (c.size < 4294967281) && (c.data.toList.all fun b => decide (b.toNat < 128)))))) with
    | false => rw [hc] at hr; exact (nomatch hr)
    | true =>
      rw [hc] at hr
      have hr : some (⟨(trimS s.data.toList c.data.toList).toArray⟩ : ByteArray) = some r := hr
      cases hr
      simp only [Bool.and_eq_true, decide_eq_true_eq, List.all_eq_true] at hc
      obtain ⟨c1, c2, c3, c4, c5⟩ := hc
      have hl : (s.data.toList.reverse.dropWhile (c.data.toList.contains ·)).length ≤ s.size := by
        have h := (List.dropWhile_suffix (p := (c.data.toList.contains ·)) (l := s.data.toList.reverse)).length_le
        rw [List.length_reverse] at h
        exact h
      refine (trimB s c w ⟨((s.data.toList.reverse.dropWhile (c.data.toList.contains ·)).reverse).toArray⟩ ⟨(trimS s.data.toList c.data.toList).toArray⟩ c1 c2 c3 c4 (fun j b hb => c5 b (List.mem_of_getElem? hb)) rfl (by rw [sizeMk, List.length_reverse]; omega) rfl).mono fun e w' he => ?_
      obtain ⟨rfl, C1, C2, q, rfl⟩ := he
      have hb : Below w.heap.size w (((w.alloc (.cells C1 170)).alloc (.cells C2 170)).drewN q) := (((Below.refl _ _).alloc (Nat.le_refl _) _).alloc (by simp) _).trans ⟨rfl, rfl, rfl, Nat.le_refl _, fun _ _ => rfl⟩
      refine ⟨[.string ⟨(trimS s.data.toList c.data.toList).toArray⟩], rfl, Below.kept rfl hb, List.Pairwise.nil, ⟨_, rfl, ?_⟩⟩
      show RepP _ _ false (.one .str) _ _
      unfold RepP
      rw [if_neg (by decide)]
      simp only [RepR]
      exact ⟨_, rfl, by simp only [RepC]⟩
end Go.Gm
