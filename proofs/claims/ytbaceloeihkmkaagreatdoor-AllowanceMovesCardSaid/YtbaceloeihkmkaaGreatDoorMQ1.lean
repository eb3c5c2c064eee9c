/- Merged from small texts. -/
import Derived.Lib.Strings
import Derived.Test.YtbaceloeihkmkaaGreatDoorDQ1
import Derived.Test.YtbaceloeihkmkaaGreatDoorQQ3
/- Words about numbers: what wraps, shifts and masks come to. -/
set_option linter.unusedVariables false
set_option linter.unusedSimpArgs false
namespace Go.Gm
open Go.Pi

/- (not by rfl: so that simp leaves a proof) -/
theorem condT {α : Type} (a b : α) : cond true a b = a := Eq.trans rfl rfl
theorem condF {α : Type} (a b : α) : cond false a b = b := Eq.trans rfl rfl
theorem bindO_s {α β : Type} (x : α) (f : α → Option β) : bindO (some x) f = f x := Eq.trans rfl rfl
theorem wrap_u64 (x : Int) : IntKind.u64.wrap x = x % 18446744073709551616 := by simp [IntKind.wrap, IntKind.bits, IntKind.signed]
theorem wrap_u32 (x : Int) : IntKind.u32.wrap x = x % 4294967296 := by simp [IntKind.wrap, IntKind.bits, IntKind.signed]
theorem wrap_u16 (x : Int) : IntKind.u16.wrap x = x % 65536 := by simp [IntKind.wrap, IntKind.bits, IntKind.signed]
theorem wrap_u8 (x : Int) : IntKind.u8.wrap x = x % 256 := by simp [IntKind.wrap, IntKind.bits, IntKind.signed]
theorem wrap_i64 (x : Int) : IntKind.i64.wrap x = if 9223372036854775808 ≤ x % 18446744073709551616 then x % 18446744073709551616 - 18446744073709551616 else x % 18446744073709551616 := by
  simp [IntKind.wrap, IntKind.bits, IntKind.signed]
theorem i64_in {x : Int} (h1 : -9223372036854775808 ≤ x) (h2 : x ≤ 9223372036854775807) : IntKind.i64.wrap x = x := by rw [wrap_i64]; omega
theorem i64_bd (x : Int) : -9223372036854775808 ≤ IntKind.i64.wrap x ∧ IntKind.i64.wrap x ≤ 9223372036854775807 := by rw [wrap_i64]; omega
theorem u64_in {x : Int} (h1 : 0 ≤ x) (h2 : x < 18446744073709551616) : IntKind.u64.wrap x = x := by rw [wrap_u64]; omega
theorem u64_bd (x : Int) : 0 ≤ IntKind.u64.wrap x ∧ IntKind.u64.wrap x < 18446744073709551616 := by rw [wrap_u64]; omega
theorem u32_in {x : Int} (h1 : 0 ≤ x) (h2 : x < 4294967296) : IntKind.u32.wrap x = x := by rw [wrap_u32]; omega
theorem u8_in {x : Int} (h1 : 0 ≤ x) (h2 : x < 256) : IntKind.u8.wrap x = x := by rw [wrap_u8]; omega
theorem wf_u64 {x : Int} (h : (Lit.int .u64 x).wf = true) : 0 ≤ x ∧ x < 18446744073709551616 := by
  simp [Lit.wf, IntKind.min, IntKind.max, IntKind.signed, IntKind.bits] at h; omega
theorem wf_u32 {x : Int} (h : (Lit.int .u32 x).wf = true) : 0 ≤ x ∧ x < 4294967296 := by
  simp [Lit.wf, IntKind.min, IntKind.max, IntKind.signed, IntKind.bits] at h; omega
theorem wf_u16 {x : Int} (h : (Lit.int .u16 x).wf = true) : 0 ≤ x ∧ x < 65536 := by
  simp [Lit.wf, IntKind.min, IntKind.max, IntKind.signed, IntKind.bits] at h; omega
theorem wf_u8 {x : Int} (h : (Lit.int .u8 x).wf = true) : 0 ≤ x ∧ x < 256 := by
  simp [Lit.wf, IntKind.min, IntKind.max, IntKind.signed, IntKind.bits] at h; omega
theorem wf_i64 {x : Int} (h : (Lit.int .i64 x).wf = true) : -9223372036854775808 ≤ x ∧ x ≤ 9223372036854775807 := by
  simp [Lit.wf, IntKind.min, IntKind.max, IntKind.signed, IntKind.bits] at h; omega

theorem tmod_nn {a b : Int} (h : 0 ≤ a) : Int.tmod a b = a % b := Int.tmod_eq_emod_of_nonneg h
theorem tdiv_nn {a b : Int} (h : 0 ≤ a) : Int.tdiv a b = a / b := Int.tdiv_eq_ediv_of_nonneg h

theorem zshr_u64 (a : Int) (n : Nat) (h : n ≤ 64) : zshr .u64 a (n : Int) = a / 2 ^ n := by
  have : min n 64 = n := Nat.min_eq_left h
  simp only [zshr, IntKind.bits, Int.toNat_natCast, this]
  exact Int.fdiv_eq_ediv_of_nonneg _ (Int.le_of_lt (Int.pow_pos (by decide)))
theorem zshl_u64 (a : Int) (n : Nat) (h : n ≤ 64) : zshl .u64 a (n : Int) = (a * 2 ^ n) % 18446744073709551616 := by
  have : min n 64 = n := Nat.min_eq_left h
  simp only [zshl, IntKind.bits, Int.toNat_natCast, this, wrap_u64]

theorem ofInt_nat (w : Nat) (a : Int) : ((BitVec.ofInt w a).toNat : Int) = a % 2 ^ w := by
  rw [BitVec.toNat_ofInt]
  have hp : (0 : Int) < 2 ^ w := Int.pow_pos (by decide)
  rw [Int.toNat_of_nonneg (Int.emod_nonneg _ (by simpa using Int.ne_of_gt hp))]
  simp
theorem zbits_nat (op : BinOp) (k : IntKind) (a b : Int) (r : Nat) (hr : (match op with | .and => BitVec.ofInt k.bits a &&& BitVec.ofInt k.bits b | .or => BitVec.ofInt k.bits a ||| BitVec.ofInt k.bits b | .xor => BitVec.ofInt k.bits a ^^^ BitVec.ofInt k.bits b | _ => BitVec.ofInt k.bits a &&& ~~~(BitVec.ofInt k.bits b) : BitVec k.bits).toNat = r) :
    zbits op k a b = k.wrap (r : Int) := by rw [← hr]; rfl

/-- A mask of n ones. -/
theorem zand_mask (k : IntKind) (a : Int) (n : Nat) (h : n ≤ k.bits) : zbits .and k a (2 ^ n - 1) = k.wrap (a % 2 ^ n) := by
  have hp : (1 : Nat) ≤ 2 ^ n := Nat.one_le_two_pow
  have hle : 2 ^ n ≤ 2 ^ k.bits := Nat.pow_le_pow_right (by decide) h
  rw [zbits_nat .and k a (2 ^ n - 1) ((a % 2 ^ n).toNat)]
  · rw [Int.toNat_of_nonneg (Int.emod_nonneg _ (Int.ne_of_gt (Int.pow_pos (by decide))))]
  · simp only [BitVec.toNat_and]
    have e2 : (BitVec.ofInt k.bits (2 ^ n - 1)).toNat = 2 ^ n - 1 := by
      have : ((BitVec.ofInt k.bits (2 ^ n - 1)).toNat : Int) = ((2 ^ n - 1 : Nat) : Int) := by
        rw [ofInt_nat]
        have e : ((2 ^ n - 1 : Nat) : Int) = (2 : Int) ^ n - 1 := by
          rw [Int.natCast_sub hp]; simp
        rw [← e]
        have : ((2 : Int) ^ k.bits) = ((2 ^ k.bits : Nat) : Int) := by simp
        rw [this, ← Int.natCast_emod, Nat.mod_eq_of_lt (by omega)]
      exact_mod_cast this
    rw [e2, Nat.and_two_pow_sub_one_eq_mod]
    have : (((BitVec.ofInt k.bits a).toNat % 2 ^ n : Nat) : Int) = ((a % 2 ^ n).toNat : Int) := by
      rw [Int.natCast_emod, ofInt_nat, Int.toNat_of_nonneg (Int.emod_nonneg _ (Int.ne_of_gt (Int.pow_pos (by decide))))]
      have hd : ((2 ^ n : Nat) : Int) ∣ (2 : Int) ^ k.bits := by
        have := Nat.pow_dvd_pow 2 h
        have h2 : (((2 ^ n : Nat)) : Int) ∣ ((2 ^ k.bits : Nat) : Int) := Int.natCast_dvd_natCast.2 this
        simpa using h2
      rw [Int.emod_emod_of_dvd _ hd]
      simp
    exact_mod_cast this
/-- Parts that do not overlap. -/
theorem zor_parts (a b : Int) (n : Nat) (hn : n ≤ 64) (ha : 0 ≤ a) (ha' : a < 18446744073709551616) (hd : a % 2 ^ n = 0) (hb : 0 ≤ b) (hb' : b < 2 ^ n) : zbits .or .u64 a b = a + b := by
  obtain ⟨m, rfl⟩ := Int.eq_ofNat_of_zero_le ha
  obtain ⟨c, rfl⟩ := Int.eq_ofNat_of_zero_le hb
  have hc : c < 2 ^ n := by exact_mod_cast hb'
  have hc64 : c < 18446744073709551616 := Nat.lt_of_lt_of_le hc (Nat.le_trans (Nat.pow_le_pow_right (by decide) hn) (by decide))
  have hm : m % 2 ^ n = 0 := by exact_mod_cast hd
  obtain ⟨q, rfl⟩ : ∃ q, m = q * 2 ^ n := ⟨m / 2 ^ n, by have := Nat.div_add_mod m (2 ^ n); rw [hm, Nat.add_zero, Nat.mul_comm] at this; exact this.symm⟩
  have h1 : (BitVec.ofInt 64 ((q * 2 ^ n : Nat) : Int)).toNat = q * 2 ^ n := by
    have := ofInt_nat 64 ((q * 2 ^ n : Nat) : Int)
    have h64 : ((q * 2 ^ n : Nat) : Int) % 2 ^ 64 = ((q * 2 ^ n : Nat) : Int) := by
      have : q * 2 ^ n < 18446744073709551616 := by omega
      omega
    rw [h64] at this
    exact_mod_cast this
  have h2 : (BitVec.ofInt 64 (c : Int)).toNat = c := by
    have := ofInt_nat 64 (c : Int)
    have h64 : (c : Int) % 2 ^ 64 = (c : Int) := by omega
    rw [h64] at this
    exact_mod_cast this
  have hor : q * 2 ^ n ||| c = q * 2 ^ n + c := by
    rw [Nat.mul_comm]
    exact (Nat.two_pow_add_eq_or_of_lt hc q).symm
  have hsum : q * 2 ^ n + c < 18446744073709551616 := by
    have hq : q * 2 ^ n < 18446744073709551616 := by omega
    have : (2 : Nat) ^ 64 = 18446744073709551616 := by decide
    rw [← this] at hq ⊢
    have e : (2 : Nat) ^ 64 = 2 ^ (64 - n) * 2 ^ n := by rw [← Nat.pow_add]; congr 1; omega
    rw [e] at hq ⊢
    have hq' := Nat.lt_of_mul_lt_mul_right hq
    have : (q + 1) * 2 ^ n ≤ 2 ^ (64 - n) * 2 ^ n := Nat.mul_le_mul_right _ hq'
    rw [Nat.add_mul, Nat.one_mul] at this
    omega
  rw [zbits_nat .or .u64 _ _ (q * 2 ^ n + c) (by
    show (BitVec.ofInt 64 ((q * 2 ^ n : Nat) : Int) ||| BitVec.ofInt 64 (c : Int)).toNat = _
    rw [BitVec.toNat_or, h1, h2, hor])]
  rw [u64_in (by omega) (by omega)]
  simp
theorem zand32 (x : Int) : zbits .and .u64 x 4294967295 = x % 4294967296 := by
  have := zand_mask .u64 x 32 (by decide)
  rw [show (2 : Int) ^ 32 - 1 = 4294967295 by decide, show (2 : Int) ^ 32 = 4294967296 by decide] at this
  rw [this, wrap_u64]; omega
theorem zshr32 (x : Int) : zshr .u64 x 32 = x / 4294967296 := by
  have := zshr_u64 x 32 (by decide)
  rwa [show (2 : Int) ^ 32 = 4294967296 by decide] at this
theorem zshl4 (x : Int) : zshl .u64 x 4 = x * 16 % 18446744073709551616 := by
  have := zshl_u64 x 4 (by decide)
  rwa [show (2 : Int) ^ 4 = 16 by decide] at this
theorem inb_t' {i : Int} {n : Nat} (h0 : 0 ≤ i) (h1 : i < (n : Int)) : inb i n = true := by
  unfold inb
  rw [decide_eq_true h0, decide_eq_true h1]; rfl
theorem gd_get' {α : Type} (d : α) (l : List α) (i : Nat) (h : i < l.length) : gd d l (i : Int) = l[i] := by
  unfold gd
  simp [List.getD, List.getElem?_eq_getElem h]
/-- With rounds enough. -/
def Ev {α : Type} (g : Nat → Option α) (r : α) : Prop := ∃ N, ∀ k, N ≤ k → g k = some r
theorem Ev.of {α : Type} {g : Nat → Option α} {r : α} (N : Nat) (h : ∀ k, N ≤ k → g k = some r) : Ev g r := ⟨N, h⟩
theorem Ev.pure {α : Type} (r : α) : Ev (fun _ => some r) r := ⟨0, fun _ _ => rfl⟩
theorem Ev.const {α : Type} {x : Option α} {r : α} (h : x = some r) : Ev (fun _ => x) r := ⟨0, fun _ _ => h⟩
theorem Ev.bind {α β : Type} {g : Nat → Option α} {h : Nat → α → Option β} {x : α} {r : β} (h1 : Ev g x) (h2 : Ev (fun k => h k x) r) : Ev (fun k => bindO (g k) (h k)) r := by
  obtain ⟨N, hN⟩ := h1
  obtain ⟨M, hM⟩ := h2
  refine ⟨max N M, fun k hk => ?_⟩
  show bindO (g k) (h k) = some r
  rw [hN k (by omega), bindO_s]
  exact hM k (by omega)
theorem Ev.step {α : Type} {g : Nat → Option α} {r : α} (h : Ev (fun k => g (k + 1)) r) : Ev g r := by
  obtain ⟨N, hN⟩ := h
  refine ⟨N + 1, fun k hk => ?_⟩
  obtain ⟨m, rfl⟩ : ∃ m, k = m + 1 := ⟨k - 1, by omega⟩
  exact hN m (by omega)
theorem Ev.ex {α : Type} {g : Nat → Option α} {r : α} (h : Ev g r) : ∃ k, g k = some r := h.elim fun N hN => ⟨N, hN N (Nat.le_refl _)⟩
theorem Ev.eq {α : Type} {g : Nat → Option α} {r r' : α} (h : Ev g r) (e : r = r') : Ev g r' := e ▸ h
theorem Ev.congr {α : Type} {g g' : Nat → Option α} {r : α} (h : Ev g r) (e : ∀ k, g' k = g k) : Ev g' r := h.elim fun N hN => ⟨N, fun k hk => (e k).trans (hN k hk)⟩
end Go.Gm

/- Loops, from their ends to their beginnings. -/
set_option linter.unusedVariables false
set_option linter.unusedSimpArgs false
namespace Go.Gm
open Go.Pi

theorem down {Q : Nat → Prop} {n : Nat} (he : Q n) (hs : ∀ i, i < n → Q (i + 1) → Q i) : Q 0 := by
  have : ∀ m i, m = n - i → i ≤ n → Q i := by
    intro m
    induction m with
    | zero =>
      intro i h1 h2
      have : i = n := by omega
      subst this
      exact he
    | succ m ih => intro i h1 h2; exact hs i (by omega) (ih (i + 1) (by omega) (by omega))
  exact this n 0 (by omega) (by omega)
/-- From a beginning a on. -/
theorem downFrom {Q : Nat → Prop} {n a : Nat} (ha : a ≤ n) (he : Q n) (hs : ∀ i, a ≤ i → i < n → Q (i + 1) → Q i) : Q a := by
  have := down (Q := fun j => Q (a + j)) (n := n - a) (by show Q (a + (n - a)); rw [Nat.add_sub_cancel' ha]; exact he) (fun i hi h => hs (a + i) (by omega) (by omega) h)
  exact this
/-- A search: the first one that is bad ends it. -/
theorem searchFrom {Q : Nat → Prop} {bad : Nat → Prop} {n a : Nat} (ha : a ≤ n) (he : (∀ j, a ≤ j → j < n → ¬ bad j) → Q n) (hb : ∀ i, a ≤ i → i < n → (∀ j, a ≤ j → j < i → ¬ bad j) → bad i → Q i)
    (hs : ∀ i, a ≤ i → i < n → (∀ j, a ≤ j → j < i → ¬ bad j) → ¬ bad i → Q (i + 1) → Q i) : Q a := by
  have : (∀ j, a ≤ j → j < a → ¬ bad j) → Q a := downFrom (Q := fun i => (∀ j, a ≤ j → j < i → ¬ bad j) → Q i) ha he (fun i h1 hi h hj => by
    by_cases hb' : bad i
    · exact hb i h1 hi hj hb'
    · refine hs i h1 hi hj hb' (h fun j h2 hj' => ?_)
      by_cases e : j = i
      · subst e; exact hb'
      · exact hj j h2 (by omega))
  exact this (by omega)
theorem search {Q : Nat → Prop} {bad : Nat → Prop} {n : Nat} (he : (∀ j, j < n → ¬ bad j) → Q n) (hb : ∀ i, i < n → (∀ j, j < i → ¬ bad j) → bad i → Q i)
    (hs : ∀ i, i < n → (∀ j, j < i → ¬ bad j) → ¬ bad i → Q (i + 1) → Q i) : Q 0 :=
  searchFrom (Nat.zero_le n) (fun h => he fun j hj => h j (Nat.zero_le j) hj) (fun i _ hi h hb' => hb i hi (fun j hj => h j (Nat.zero_le j) hj) hb') (fun i _ hi h hb' hq => hs i hi (fun j hj => h j (Nat.zero_le j) hj) hb' hq)

/-! steps of runs -/
theorem Ev.ct {α : Type} {c : Bool} {g g' : Nat → Option α} {r : α} (hc : c = true) (h : Ev g r) : Ev (fun k => cond c (g k) (g' k)) r := by subst hc; exact h
theorem Ev.cf {α : Type} {c : Bool} {g g' : Nat → Option α} {r : α} (hc : c = false) (h : Ev g' r) : Ev (fun k => cond c (g k) (g' k)) r := by subst hc; exact h
theorem Ev.cd {α : Type} {p : Prop} [Decidable p] {g g' : Nat → Option α} {r : α} (h : p → Ev g r) (h' : ¬ p → Ev g' r) : Ev (fun k => cond (decide p) (g k) (g' k)) r := by
  by_cases hp : p
  · exact Ev.ct (decide_eq_true hp) (h hp)
  · exact Ev.cf (decide_eq_false hp) (h' hp)
theorem Ev.cb {α : Type} {c : Bool} {g g' : Nat → Option α} {r : α} (h : c = true → Ev g r) (h' : c = false → Ev g' r) : Ev (fun k => cond c (g k) (g' k)) r := by
  cases c
  · exact h' rfl
  · exact h rfl
theorem Ev.bs {α β : Type} {x : Option α} {h : Nat → α → Option β} {y : α} {r : β} (h1 : x = some y) (h2 : Ev (fun k => h k y) r) : Ev (fun k => bindO x (h k)) r := by subst h1; exact h2
theorem Ev.some {α : Type} {x r : α} (h : x = r) : Ev (fun _ => Option.some x) r := h ▸ Ev.pure _

/-! numbers of loops -/
theorem wadd {i : Nat} (c : Nat) (h : i + c < 9223372036854775808) : IntKind.i64.wrap ((i : Int) + (c : Int)) = ((i + c : Nat) : Int) := by
  rw [i64_in (by omega) (by omega)]; omega
theorem wadd1 {i : Nat} (h : i < 9223372036854775807) : IntKind.i64.wrap ((i : Int) + 1) = ((i + 1 : Nat) : Int) := by
  rw [i64_in (by omega) (by omega)]; omega
theorem wsub {i j : Nat} (h : j ≤ i) (h' : i < 9223372036854775808) : IntKind.i64.wrap ((i : Int) - (j : Int)) = ((i - j : Nat) : Int) := by
  rw [i64_in (by omega) (by omega)]; omega
theorem dlt {i n : Nat} (h : i < n) : decide ((i : Int) < (n : Int)) = true := decide_eq_true (by omega)
theorem dge {n : Nat} : decide ((n : Int) < (n : Int)) = false := decide_eq_false (by omega)
theorem inbN {i n : Nat} (h : i < n) : inb (i : Int) n = true := inb_t' (by omega) (by omega)
theorem fits_ok {b n m : Nat} (h : (n + m) * b ≤ 140737488355328) : fits b n m = true := decide_eq_true h
theorem map_range_succ {α : Type} (f : Nat → α) (i : Nat) : (List.range (i + 1)).map f = (List.range i).map f ++ [f i] := by
  rw [List.range_succ, List.map_append]; rfl
theorem take_succ' {α : Type} (xs : List α) (i : Nat) (h : i < xs.length) : xs.take (i + 1) = xs.take i ++ [xs[i]] := List.take_succ_eq_append_getElem h
theorem tmod_nat (a b : Nat) : Int.tmod (a : Int) (b : Int) = ((a % b : Nat) : Int) := by
  rw [tmod_nn (by omega)]; rfl
theorem ne0 {n : Nat} (h : 0 < n) : (!decide ((n : Int) = 0)) = true := by
  rw [decide_eq_false (by omega)]; rfl
end Go.Gm

/- Names: what the program and the reference take for a name. -/
set_option linter.unusedVariables false
set_option linter.unusedSimpArgs false
namespace Go.Gm
open Go.Pi

theorem eqS_dec (a b : ByteArray) : eqS a b = decide (a = b) := by
  unfold eqS
  rw [Lib.toList_data, Lib.toList_data]
  by_cases h : a = b
  · subst h; simp
  · rw [decide_eq_false h]
    have : ¬ a.data.toList = b.data.toList := fun e => h (by
      cases a; cases b
      simp only [ByteArray.mk.injEq]
      exact Array.toList_inj.1 e)
    simpa using this
theorem bt_at (s : ByteArray) (i : Nat) (h : i < s.data.toList.length) : bt s (i : Int) = ((s.data.toList[i]).toNat : Int) := by
  unfold bt
  have hs : (i : Int).toNat < s.size := h
  rw [dif_pos hs]
  rfl
theorem size_len (s : ByteArray) : s.size = s.data.toList.length := rfl
theorem ba_nil (s : ByteArray) : s = (⟨#[]⟩ : ByteArray) ↔ s.data.toList = [] := by
  constructor
  · rintro rfl; rfl
  · intro h
    cases s with
    | mk d => simp only [ByteArray.mk.injEq]; exact Array.toList_inj.1 h

/-- A letter, a digit or a line of a name. -/
def okc (b : UInt8) : Bool := (decide (97 ≤ b.toNat) && decide (b.toNat ≤ 122)) || ((decide (48 ≤ b.toNat) && decide (b.toNat ≤ 57)) || decide (b.toNat = 95))
/-- A name. -/
def nameB (s : ByteArray) : Bool :=
  !decide (s = ⟨#[]⟩) && (decide (s.size ≤ 24) && (!decide (s = ⟨#[109, 105, 110]⟩) && (!decide (s = ⟨#[109, 97, 120]⟩) && (decide (97 ≤ bt s 0) && (decide (bt s 0 ≤ 122) && s.data.toList.all okc)))))
def alphabet : ByteArray := ⟨#[97, 98, 99, 100, 101, 102, 103, 104, 105, 106, 107, 108, 109, 110, 111, 112, 113, 114, 115, 116, 117, 118, 119, 120, 121, 122, 48, 49, 50, 51, 52, 53, 54, 55, 56, 57, 95]⟩
theorem okc_mem (b : UInt8) : alphabet.data.toList.contains b = okc b := by
  have key : ∀ n : Fin 256, alphabet.data.toList.contains (UInt8.ofNat n.val) = okc (UInt8.ofNat n.val) := by decide +kernel
  have := key ⟨b.toNat, UInt8.toNat_lt b⟩
  simpa using this
theorem dropWhile_nil {α : Type} (p : α → Bool) : ∀ l : List α, l.dropWhile p = [] ↔ l.all p = true
  | [] => by simp
  | x :: l => by
    rw [List.dropWhile_cons, List.all_cons]
    cases h : p x
    · simp
    · simpa using dropWhile_nil p l
theorem dropWhile_head {α : Type} (p : α → Bool) : ∀ (l : List α) (x : α) (m : List α), l.dropWhile p = x :: m → p x = false
  | [], x, m, h => by simp at h
  | y :: l, x, m, h => by
    rw [List.dropWhile_cons] at h
    cases hy : p y
    · rw [hy] at h
      simp at h
      rw [← h.1]
      exact hy
    · rw [hy] at h
      exact dropWhile_head p l x m (by simpa using h)
theorem trimS_nil (l c : List UInt8) : trimS l c = [] ↔ l.all (c.contains ·) = true := by
  unfold trimS
  rw [dropWhile_nil]
  constructor
  · intro h
    -- what is left at the right has a last letter that is not of the set, or is nothing
    have h2 : (l.reverse.dropWhile (c.contains ·)) = [] := by
      cases h3 : l.reverse.dropWhile (c.contains ·) with
      | nil => rfl
      | cons x m =>
        exfalso
        rw [h3] at h
        have hx : (c.contains x) = false := dropWhile_head (c.contains ·) _ x m h3
        rw [List.all_eq_true] at h
        have := h x (by simp)
        rw [hx] at this
        cases this
    rw [dropWhile_nil] at h2
    rwa [List.all_reverse] at h2
  · intro h
    have h2 : l.reverse.dropWhile (c.contains ·) = [] := by rw [dropWhile_nil, List.all_reverse]; exact h
    rw [h2]
    rfl

theorem Trim_some (s : ByteArray) (h0 : s.size ≠ 0) (h1 : s.size ≤ 24) : strings_Trim.f s alphabet = some ⟨(trimS s.data.toList alphabet.data.toList).toArray⟩ := by
  unfold strings_Trim.f
  have c1 : decide (2 ≤ alphabet.size) = true := by decide +kernel
  have c2 : decide (0 < s.size) = true := decide_eq_true (by omega)
  have c3 : decide (s.size ≤ 9223372036854775807) = true := decide_eq_true (by omega)
  have c4 : decide (alphabet.size < 4294967281) = true := by decide +kernel
  have c5 : (alphabet.data.toList.all fun b => decide (b.toNat < 128)) = true := by decide +kernel
  rw [c1, c2, c3, c4, c5]
  rfl

theorem name_eq (s : ByteArray) : formula_name.f s = some (nameB s) := by
  unfold formula_name.f nameB
  rw [eqS_dec, eqS_dec, eqS_dec]
  by_cases h0 : s = ⟨#[]⟩
  · rw [decide_eq_true h0]; rfl
  rw [decide_eq_false h0, condF]
  by_cases h1 : s.size ≤ 24
  · have hz : s.size ≠ 0 := fun h => h0 ((ba_nil s).2 (List.eq_nil_of_length_eq_zero h))
    rw [decide_eq_false (by omega), condF, decide_eq_true h1]
    by_cases h2 : s = ⟨#[109, 105, 110]⟩
    · rw [decide_eq_true h2, condT]; rfl
    rw [decide_eq_false h2, condF]
    by_cases h3 : s = ⟨#[109, 97, 120]⟩
    · rw [decide_eq_true h3, condT]; rfl
    have hi : inb 0 s.size = true := inb_t' (by omega) (by omega)
    rw [decide_eq_false h3, condF, hi, condT, condT]
    by_cases h4 : bt s 0 < 97
    · rw [decide_eq_true h4, condT, decide_eq_false (show ¬ 97 ≤ bt s 0 by omega)]; rfl
    rw [decide_eq_false h4, condF, decide_eq_true (show 97 ≤ bt s 0 by omega)]
    by_cases h5 : bt s 0 > 122
    · rw [decide_eq_true h5, condT, decide_eq_false (show ¬ bt s 0 ≤ 122 by omega)]; rfl
    rw [decide_eq_false h5, condF, decide_eq_true (show bt s 0 ≤ 122 by omega)]
    have ht := Trim_some s hz h1
    unfold alphabet at ht
    rw [ht, bindO_s, eqS_dec]
    show some _ = some (s.data.toList.all okc)
    congr 1
    have e : ((⟨(trimS s.data.toList alphabet.data.toList).toArray⟩ : ByteArray) = ⟨#[]⟩) ↔ s.data.toList.all okc = true := by
      rw [ba_nil]
      show trimS s.data.toList alphabet.data.toList = [] ↔ _
      rw [trimS_nil, show (alphabet.data.toList.contains ·) = okc from funext okc_mem]
    unfold alphabet at e
    cases h6 : s.data.toList.all okc
    · exact decide_eq_false fun h => by rw [e.1 h] at h6; cases h6
    · exact decide_eq_true (e.2 h6)
  · rw [decide_eq_true (show (s.size : Int) > 24 by omega), condT, decide_eq_false h1]
    rfl
end Go.Gm

/- Numbers as lists of limbs of 32 bits. -/
set_option linter.unusedVariables false
set_option linter.unusedSimpArgs false
namespace Go.Gm
open Go.Pi

def Limbs (a : List Int) : Prop := ∀ x ∈ a, 0 ≤ x ∧ x < 4294967296
def val : List Int → Int
  | [] => 0
  | x :: l => x + 4294967296 * val l
def lmN (n : Nat) : List Int := if h : n = 0 then [] else ((n % 4294967296 : Nat) : Int) :: lmN (n / 4294967296)
termination_by n
decreasing_by omega
def lm (v : Int) : List Int := lmN v.toNat

theorem Limbs.tail {x : Int} {l : List Int} (h : Limbs (x :: l)) : Limbs l := fun y hy => h y (List.mem_cons_of_mem _ hy)
theorem Limbs.head {x : Int} {l : List Int} (h : Limbs (x :: l)) : 0 ≤ x ∧ x < 4294967296 := h x List.mem_cons_self
theorem Limbs.nil : Limbs [] := fun x hx => by cases hx
theorem Limbs.cons {x : Int} {l : List Int} (h1 : 0 ≤ x ∧ x < 4294967296) (h2 : Limbs l) : Limbs (x :: l) := fun y hy => by
  rcases List.mem_cons.1 hy with rfl | hy
  · exact h1
  · exact h2 y hy
theorem Limbs.append {a b : List Int} (h1 : Limbs a) (h2 : Limbs b) : Limbs (a ++ b) := fun y hy => by
  rcases List.mem_append.1 hy with hy | hy
  · exact h1 y hy
  · exact h2 y hy
theorem Limbs.take {a : List Int} (h : Limbs a) (n : Nat) : Limbs (a.take n) := fun y hy => h y (List.mem_of_mem_take hy)
theorem Limbs.drop {a : List Int} (h : Limbs a) (n : Nat) : Limbs (a.drop n) := fun y hy => h y (List.mem_of_mem_drop hy)
theorem Limbs.set {a : List Int} (h : Limbs a) (n : Nat) {x : Int} (hx : 0 ≤ x ∧ x < 4294967296) : Limbs (a.set n x) := fun y hy => by
  rcases List.mem_or_eq_of_mem_set hy with hy | rfl
  · exact h y hy
  · exact hx
theorem Limbs.zeros (n : Nat) : Limbs (List.replicate n (0 : Int)) := fun y hy => by
  rw [List.eq_of_mem_replicate hy]; decide
theorem Limbs.at {a : List Int} (h : Limbs a) (i : Nat) (hi : i < a.length) : 0 ≤ a[i] ∧ a[i] < 4294967296 := h _ (List.getElem_mem hi)
theorem val_nonneg : ∀ {a : List Int}, Limbs a → 0 ≤ val a
  | [], _ => Int.le_refl _
  | x :: l, h => by have := h.head; have := val_nonneg h.tail; unfold val; omega
theorem val_append (a b : List Int) : val (a ++ b) = val a + 4294967296 ^ a.length * val b := by
  induction a with
  | nil => simp [val]
  | cons x a ih => simp only [List.cons_append, val, ih, List.length_cons, Int.pow_succ]; grind
theorem val_lt : ∀ {a : List Int}, Limbs a → val a < 4294967296 ^ a.length
  | [], _ => by simp [val]
  | x :: l, h => by
    have h1 := h.head
    have h2 := val_lt h.tail
    simp only [val, List.length_cons, Int.pow_succ]
    omega
theorem val_zeros (n : Nat) : val (List.replicate n (0 : Int)) = 0 := by
  induction n with
  | zero => rfl
  | succ n ih => simp [List.replicate_succ, val, ih]
theorem val_take_succ {a : List Int} {i : Nat} (h : i < a.length) : val (a.take (i + 1)) = val (a.take i) + 4294967296 ^ i * a[i] := by
  rw [List.take_succ_eq_append_getElem h, val_append]
  simp only [val, List.length_take, Nat.min_eq_left (Nat.le_of_lt h)]
  grind
theorem val_split (a : List Int) (i : Nat) (h : i ≤ a.length) : val a = val (a.take i) + 4294967296 ^ i * val (a.drop i) := by
  conv => lhs; rw [← List.take_append_drop i a]
  rw [val_append, List.length_take, Nat.min_eq_left h]
theorem val_drop {a : List Int} {i : Nat} (h : i < a.length) : val (a.drop i) = a[i] + 4294967296 * val (a.drop (i + 1)) := by
  rw [List.drop_eq_getElem_cons h]; rfl
theorem val_set {a : List Int} {i : Nat} (h : i < a.length) (x : Int) : val (a.set i x) = val a + 4294967296 ^ i * (x - a[i]) := by
  have h1 := val_split a i (Nat.le_of_lt h)
  have h2 := val_split (a.set i x) i (by simp; omega)
  rw [List.take_set_of_le (Nat.le_refl i)] at h2
  have h3 : val ((a.set i x).drop i) = x + 4294967296 * val (a.drop (i + 1)) := by
    rw [val_drop (by simpa using h), List.getElem_set_self, List.drop_set_of_lt (by omega)]
  rw [h2, h3, h1, val_drop h]
  grind

/-! the normal form -/
theorem lmN_zero : lmN 0 = [] := by unfold lmN; rfl
theorem lmN_pos {n : Nat} (h : n ≠ 0) : lmN n = ((n % 4294967296 : Nat) : Int) :: lmN (n / 4294967296) := by
  conv => lhs; unfold lmN
  rw [dif_neg h]
theorem lm_zero : lm 0 = [] := lmN_zero
theorem lm_limbs (v : Int) : Limbs (lm v) := by
  unfold lm
  generalize v.toNat = n
  induction n using Nat.strongRecOn with
  | ind n ih =>
    by_cases h : n = 0
    · subst h; rw [lmN_zero]; exact Limbs.nil
    · rw [lmN_pos h]
      exact Limbs.cons (by omega) (ih _ (by omega))
theorem val_lm {v : Int} (h : 0 ≤ v) : val (lm v) = v := by
  unfold lm
  obtain ⟨n, rfl⟩ := Int.eq_ofNat_of_zero_le h
  rw [Int.toNat_natCast]
  clear h
  induction n using Nat.strongRecOn with
  | ind n ih =>
    by_cases h : n = 0
    · subst h; rw [lmN_zero]; rfl
    · rw [lmN_pos h, val, ih _ (by omega)]
      omega
theorem lm_step {x v : Int} (hx : 0 ≤ x ∧ x < 4294967296) (hv : 0 ≤ v) (h : 0 < x + 4294967296 * v) : lm (x + 4294967296 * v) = x :: lm v := by
  unfold lm
  rw [lmN_pos (by omega)]
  have e1 : ((((x + 4294967296 * v).toNat % 4294967296 : Nat)) : Int) = x := by omega
  have e2 : (x + 4294967296 * v).toNat / 4294967296 = v.toNat := by omega
  rw [e1, e2]
/-- A list whose last limb is not 0 is a normal form. -/
theorem lm_val : ∀ {a : List Int}, Limbs a → (∀ h : a ≠ [], a.getLast h ≠ 0) → lm (val a) = a
  | [], _, _ => lm_zero
  | [x], h, hl => by
    have h1 := h.head
    have h2 : x ≠ 0 := hl (by simp)
    show lm (x + 4294967296 * 0) = [x]
    rw [lm_step h1 (Int.le_refl _) (by omega), lm_zero]
  | x :: y :: l, h, hl => by
    have ih := lm_val h.tail (fun hn => by have := hl (by simp); rwa [List.getLast_cons hn] at this)
    have h1 := h.head
    have hv := val_nonneg h.tail
    have hp : val (y :: l) ≠ 0 := fun e => by rw [e, lm_zero] at ih; cases ih
    show lm (x + 4294967296 * val (y :: l)) = _
    rw [lm_step h1 hv (by omega), ih]
theorem lm_last {v : Int} : ∀ h : lm v ≠ [], (lm v).getLast h ≠ 0 := by
  unfold lm
  generalize v.toNat = n
  induction n using Nat.strongRecOn with
  | ind n ih =>
    intro hne
    have h0 : n ≠ 0 := fun e => by subst e; rw [lmN_zero] at hne; exact hne rfl
    have e := lmN_pos h0
    by_cases hq : n / 4294967296 = 0
    · have e2 : lmN n = [((n % 4294967296 : Nat) : Int)] := by rw [e, hq, lmN_zero]
      simp only [e2, List.getLast_singleton]
      omega
    · have hne2 : lmN (n / 4294967296) ≠ [] := fun e3 => by rw [lmN_pos hq] at e3; cases e3
      have := ih (n / 4294967296) (by omega) hne2
      simp only [e, List.getLast_cons hne2]
      exact this
theorem lm_len_le {v : Int} {n : Nat} (h : 0 ≤ v) (hv : v < 4294967296 ^ n) : (lm v).length ≤ n := by
  unfold lm
  obtain ⟨m, rfl⟩ := Int.eq_ofNat_of_zero_le h
  rw [Int.toNat_natCast]
  have hv' : m < 4294967296 ^ n := by
    have e : ((4294967296 : Int) ^ n) = ((4294967296 ^ n : Nat) : Int) := by rw [Int.natCast_pow]; rfl
    rw [e] at hv
    exact Int.ofNat_lt.1 hv
  clear hv h
  induction n generalizing m with
  | zero =>
    rw [Nat.pow_zero] at hv'
    have : m = 0 := by omega
    subst this; rw [lmN_zero]; exact Nat.le_refl _
  | succ n ih =>
    by_cases h : m = 0
    · subst h; rw [lmN_zero]; simp
    · rw [lmN_pos h, List.length_cons]
      have : m / 4294967296 < 4294967296 ^ n := Nat.div_lt_of_lt_mul (by rw [Nat.pow_succ, Nat.mul_comm] at hv'; exact hv')
      have := ih (m / 4294967296) this
      omega
theorem lm_len_val {a : List Int} (h : Limbs a) : (lm (val a)).length ≤ a.length := lm_len_le (val_nonneg h) (val_lt h)
theorem lm_nil_iff {v : Int} (h : 0 ≤ v) : lm v = [] ↔ v = 0 := by
  constructor
  · intro e
    have := val_lm h
    rw [e] at this
    exact this.symm
  · intro e; rw [e, lm_zero]
theorem pow_pos32 (n : Nat) : (0 : Int) < 4294967296 ^ n := Int.pow_pos (by decide)
theorem pow_le32 {m n : Nat} (h : m ≤ n) : (4294967296 : Int) ^ m ≤ 4294967296 ^ n := by
  obtain ⟨d, rfl⟩ : ∃ d, n = m + d := ⟨n - m, by omega⟩
  rw [Int.pow_add]
  have h1 := pow_pos32 d
  have := Int.mul_le_mul_of_nonneg_left (show (1 : Int) ≤ 4294967296 ^ d by omega) (Int.le_of_lt (pow_pos32 m))
  rwa [Int.mul_one] at this
/-- The lowest value of a normal form's length. -/
theorem lm_len_ge {v : Int} (h : 0 < v) : 4294967296 ^ ((lm v).length - 1) ≤ v := by
  have hne : lm v ≠ [] := fun e => by rw [lm_nil_iff (by omega)] at e; omega
  have hl := lm_last hne
  have hL := lm_limbs v
  have e : val (lm v) = v := val_lm (by omega)
  have hs : val (lm v) = val (lm v).dropLast + 4294967296 ^ ((lm v).length - 1) * (lm v).getLast hne := by
    conv => lhs; rw [← List.dropLast_concat_getLast hne]
    rw [val_append, List.length_dropLast]
    simp only [val]
    grind
  rw [e] at hs
  have h1 : 0 ≤ val (lm v).dropLast := val_nonneg fun x hx => hL x (List.dropLast_subset _ hx)
  have h2 := hL _ (List.getLast_mem hne)
  have h3 : (1 : Int) ≤ (lm v).getLast hne := by omega
  have := Int.mul_le_mul_of_nonneg_left h3 (Int.le_of_lt (pow_pos32 ((lm v).length - 1)))
  rw [Int.mul_one] at this
  omega
theorem lm_len_mono {u v : Int} (h0 : 0 ≤ u) (h : u ≤ v) : (lm u).length ≤ (lm v).length := by
  refine lm_len_le h0 ?_
  have := val_lt (lm_limbs v)
  rw [val_lm (by omega)] at this
  omega
theorem lm_inj {u v : Int} (hu : 0 ≤ u) (hv : 0 ≤ v) (h : lm u = lm v) : u = v := by
  rw [← val_lm hu, ← val_lm hv, h]
end Go.Gm

/- Naturals: the program's (1). -/
set_option linter.unusedVariables false
set_option linter.unusedSimpArgs false
namespace Go.Gm
open Go.Pi

theorem cutG_hi' {n : Nat} {j : Int} (h0 : 0 ≤ j) (h1 : j ≤ (n : Int)) : cutG none (some j) n = true := by show (decide (0 ≤ j) && decide (j ≤ (n : Int))) = true; rw [decide_eq_true h0, decide_eq_true h1]; rfl
theorem cutL_hi {α : Type} (l : List α) (i : Nat) : cutL none (some (i : Int)) l = l.take i := rfl
theorem sub1 {i : Nat} (h : i + 1 ≤ 1000000000000) : IntKind.i64.wrap (((i + 1 : Nat) : Int) - 1) = (i : Int) := by rw [i64_in (by omega) (by omega)]; omega
theorem add1 {i : Nat} (h : i ≤ 1000000000000) : IntKind.i64.wrap ((i : Int) + 1) = ((i + 1 : Nat) : Int) := by rw [i64_in (by omega) (by omega)]; omega

theorem trim_l0 (a : List Int) (ha : Limbs a) (hl : a.length ≤ 100000000) : ∀ (i k : Nat), i ≤ a.length → i + 1 ≤ k → natural_trim.l0 k a (i : Int) = some (lm (val (a.take i))) := by
  intro i
  induction i with
  | zero =>
    intro k hi hk
    obtain ⟨k, rfl⟩ : ∃ m, k = m + 1 := ⟨k - 1, by omega⟩
    rw [natural_trim.l0, show decide (((0 : Nat) : Int) > 0) = false from rfl, condF, cutG_hi' (by omega) (by omega), condT, cutL_hi]
    simp [val, lm_zero]
  | succ i ih =>
    intro k hi hk
    obtain ⟨k, rfl⟩ : ∃ m, k = m + 1 := ⟨k - 1, by omega⟩
    have c : ((i + 1 : Nat) : Int) > 0 := by omega
    rw [natural_trim.l0, decide_eq_true c, condT, sub1 (by omega), inb_t' (by omega) (by omega), condT, gd_get' _ a i (by omega)]
    by_cases h : a[i] = 0
    · rw [beq_iff_eq.2 h, condT, ih k (by omega) (by omega), val_take_succ (by omega), h, Int.mul_zero, Int.add_zero]
    · rw [beq_eq_false_iff_ne.2 h, condF, cutG_hi' (by omega) (by omega), condT, cutL_hi]
      congr 1
      refine (lm_val (ha.take _) fun hne => ?_).symm
      have e : a.take (i + 1) = a.take i ++ [a[i]] := List.take_succ_eq_append_getElem (by omega)
      simp only [e, List.getLast_append, List.getLast_singleton]
      simpa using h
theorem trim_eq (a : List Int) (ha : Limbs a) (hl : a.length ≤ 100000000) (k : Nat) (hk : a.length + 1 ≤ k) : natural_trim.f k a = some (lm (val a)) := by
  unfold natural_trim.f
  rw [trim_l0 a ha hl a.length k (Nat.le_refl _) hk, List.take_length]
theorem trimt_l0 (a : List Int) (ha : Limbs a) (hl : a.length ≤ 100000000) : ∀ (i k : Nat), i ≤ a.length → i + 1 ≤ k → natural_trim_t.l0 k (i : Int) a = some (lm (val (a.take i))) := by
  intro i
  induction i with
  | zero =>
    intro k hi hk
    obtain ⟨k, rfl⟩ : ∃ m, k = m + 1 := ⟨k - 1, by omega⟩
    rw [natural_trim_t.l0, show decide (((0 : Nat) : Int) > 0) = false from rfl, condF, decide_eq_true (by omega), decide_eq_true (by omega)]
    simp [val, lm_zero]
  | succ i ih =>
    intro k hi hk
    obtain ⟨k, rfl⟩ : ∃ m, k = m + 1 := ⟨k - 1, by omega⟩
    have c : ((i + 1 : Nat) : Int) > 0 := by omega
    rw [natural_trim_t.l0, decide_eq_true c, condT, sub1 (by omega), inb_t' (by omega) (by omega), condT, gd_get' _ a i (by omega)]
    by_cases h : a[i] = 0
    · rw [beq_iff_eq.2 h, condT, ih k (by omega) (by omega), val_take_succ (by omega), h, Int.mul_zero, Int.add_zero]
    · rw [beq_eq_false_iff_ne.2 h, condF, decide_eq_true (by omega), decide_eq_true (by omega), Bool.and_self, condT, Int.toNat_natCast]
      congr 1
      refine (lm_val (ha.take _) fun hne => ?_).symm
      have e : a.take (i + 1) = a.take i ++ [a[i]] := List.take_succ_eq_append_getElem (by omega)
      simp only [e, List.getLast_append, List.getLast_singleton]
      simpa using h
theorem trimt_eq (a : List Int) (ha : Limbs a) (hl : a.length ≤ 100000000) (k : Nat) (hk : a.length + 1 ≤ k) : natural_trim_t.f k a = some (lm (val a)) := by
  unfold natural_trim_t.f
  rw [trimt_l0 a ha hl a.length k (Nat.le_refl _) hk, List.take_length]
theorem Norm1_eq (a : List Int) (ha : Limbs a) (hl : a.length ≤ 100000000) (k : Nat) (hk : a.length + 1 ≤ k) : natural_Norm.f k a = some (lm (val a)) := by
  unfold natural_Norm.f
  have h1 := lm_len_val ha
  rw [trim_eq a ha hl k hk, bindO_s, decide_eq_true (by omega), decide_eq_true (by omega), decide_eq_true (by omega)]
  simp only [Bool.and_self, condT, Int.toNat_natCast, List.length_replicate, List.take_length]
  rw [List.drop_of_length_le (by simp), List.append_nil]
theorem val_two (n : Int) (h0 : 0 ≤ n) (h1 : n < 18446744073709551616) : Limbs [IntKind.u32.wrap n, IntKind.u32.wrap (zshr .u64 n 32)] ∧ val [IntKind.u32.wrap n, IntKind.u32.wrap (zshr .u64 n 32)] = n := by
  rw [wrap_u32, wrap_u32, zshr32]
  refine ⟨Limbs.cons (by omega) (Limbs.cons (by omega) Limbs.nil), ?_⟩
  simp only [val]
  omega
theorem Of1_eq (n : Int) (h0 : 0 ≤ n) (h1 : n < 18446744073709551616) (k : Nat) (hk : 3 ≤ k) : natural_Of.f k n = some (lm n) := by
  unfold natural_Of.f
  obtain ⟨h2, h3⟩ := val_two n h0 h1
  rw [Norm1_eq _ h2 (by simp) k (by simpa using hk), bindO_s, h3]

/-! comparing -/
def cmpZ (u v : Int) : Int := if u < v then -1 else if u = v then 0 else 1
theorem val_lt_of_top {a b : List Int} (ha : Limbs a) (hb : Limbs b) {i : Nat} (h1 : i < a.length) (h2 : i < b.length) (h : a[i] < b[i]) : val (a.take (i + 1)) < val (b.take (i + 1)) := by
  rw [val_take_succ h1, val_take_succ h2]
  have g1 := val_lt (ha.take i)
  rw [List.length_take, Nat.min_eq_left (by omega)] at g1
  have g2 := val_nonneg (hb.take i)
  have := Int.mul_le_mul_of_nonneg_left (show a[i] + 1 ≤ b[i] by omega) (Int.le_of_lt (pow_pos32 i))
  rw [Int.mul_add, Int.mul_one] at this
  omega
theorem Cmp_l0 (a b : List Int) (ha : Limbs a) (hb : Limbs b) (hl : a.length = b.length) (hs : a.length ≤ 100000000) : ∀ (i k : Nat), i ≤ a.length → i + 1 ≤ k → natural_Cmp.l0 k a b ((i : Int) - 1) = some (cmpZ (val (a.take i)) (val (b.take i))) := by
  intro i
  induction i with
  | zero =>
    intro k hi hk
    obtain ⟨k, rfl⟩ : ∃ m, k = m + 1 := ⟨k - 1, by omega⟩
    rw [natural_Cmp.l0, show decide ((((0 : Nat) : Int) - 1) ≥ 0) = false from rfl, condF]
    simp [cmpZ]
  | succ i ih =>
    intro k hi hk
    obtain ⟨k, rfl⟩ : ∃ m, k = m + 1 := ⟨k - 1, by omega⟩
    have e : ((i + 1 : Nat) : Int) - 1 = (i : Int) := by omega
    have w : IntKind.i64.wrap ((i : Int) - 1) = (i : Int) - 1 := i64_in (by omega) (by omega)
    rw [e, natural_Cmp.l0, decide_eq_true (by omega), condT, inb_t' (by omega) (by omega), condT, inb_t' (by omega) (by omega), condT, gd_get' _ a i (by omega), gd_get' _ b i (by omega), w]
    by_cases h : a[i]'(by omega) = b[i]'(by omega)
    · rw [h, bne_self_eq_false, condF, ih k (by omega) (by omega)]
      congr 1
      unfold cmpZ
      rw [val_take_succ (a := a) (by omega), val_take_succ (a := b) (by omega), h]
      generalize 4294967296 ^ i * b[i]'(by omega) = q
      have e1 : (val (a.take i) + q < val (b.take i) + q) ↔ val (a.take i) < val (b.take i) := by omega
      have e2 : (val (a.take i) + q = val (b.take i) + q) ↔ val (a.take i) = val (b.take i) := by omega
      simp only [e1, e2]
    · have hne : (a[i]'(by omega) != b[i]'(by omega)) = true := by rw [bne_iff_ne]; exact h
      rw [hne, condT, condT, condT]
      by_cases hlt : a[i]'(by omega) < b[i]'(by omega)
      · rw [decide_eq_true hlt, condT]
        have := val_lt_of_top ha hb (by omega) (by omega) hlt
        unfold cmpZ
        rw [if_pos this]
      · rw [decide_eq_false hlt, condF]
        have := val_lt_of_top hb ha (i := i) (by omega) (by omega) (by omega)
        unfold cmpZ
        rw [if_neg (by omega), if_neg (by omega)]
theorem Cmp1_eq (a b : List Int) (ha : Limbs a) (hb : Limbs b) (hl : a.length ≤ 100000000) (hl2 : b.length ≤ 100000000) (k : Nat) (hk : a.length + b.length + 2 ≤ k) : natural_Cmp.f k a b = some (cmpZ (val a) (val b)) := by
  unfold natural_Cmp.f
  have h1 := lm_len_val ha
  have h2 := lm_len_val hb
  have na := val_nonneg ha
  have nb := val_nonneg hb
  rw [trim_eq a ha hl k (by omega), bindO_s, trim_eq b hb hl2 k (by omega), bindO_s]
  by_cases h : (lm (val a)).length = (lm (val b)).length
  · rw [h, bne_self_eq_false, condF, i64_in (by omega) (by omega), ← h]
    rw [Cmp_l0 _ _ (lm_limbs _) (lm_limbs _) h (by omega) _ k (Nat.le_refl _) (by omega), List.take_length]
    conv => lhs; rw [h, List.take_length]
    rw [val_lm na, val_lm nb]
  · have hne : ((((lm (val a)).length : Nat) : Int) != (((lm (val b)).length : Nat) : Int)) = true := by rw [bne_iff_ne]; omega
    rw [hne, condT]
    by_cases hlt : (lm (val a)).length < (lm (val b)).length
    · rw [decide_eq_true (by omega), condT]
      have : val a < val b := by
        rcases Int.lt_or_le (val a) (val b) with h | h
        · exact h
        · have := lm_len_mono nb h; omega
      unfold cmpZ
      rw [if_pos this]
    · rw [decide_eq_false (by omega), condF]
      have : val b < val a := by
        rcases Int.lt_or_le (val b) (val a) with h | h
        · exact h
        · have := lm_len_mono na h; omega
      unfold cmpZ
      rw [if_neg (by omega), if_neg (by omega)]
end Go.Gm

/- Naturals: the program's (2): differences, products. -/
set_option linter.unusedVariables false
set_option linter.unusedSimpArgs false
namespace Go.Gm
open Go.Pi

theorem trim_ev (a : List Int) (ha : Limbs a) (hl : a.length ≤ 100000000) : Ev (fun k => natural_trim.f k a) (lm (val a)) := Ev.of _ (trim_eq a ha hl)
theorem trimt_ev (a : List Int) (ha : Limbs a) (hl : a.length ≤ 100000000) : Ev (fun k => natural_trim_t.f k a) (lm (val a)) := Ev.of _ (trimt_eq a ha hl)
theorem Norm1_ev (a : List Int) (ha : Limbs a) (hl : a.length ≤ 100000000) : Ev (fun k => natural_Norm.f k a) (lm (val a)) := Ev.of _ (Norm1_eq a ha hl)
theorem Of1_ev (n : Int) (h0 : 0 ≤ n) (h1 : n < 18446744073709551616) : Ev (fun k => natural_Of.f k n) (lm n) := Ev.of _ (Of1_eq n h0 h1)
theorem Cmp1_ev (a b : List Int) (ha : Limbs a) (hb : Limbs b) (hl : a.length ≤ 100000000) (hl2 : b.length ≤ 100000000) : Ev (fun k => natural_Cmp.f k a b) (cmpZ (val a) (val b)) := Ev.of _ (Cmp1_eq a b ha hb hl hl2)

/-- A limb, 0 behind the end. -/
def lb (b : List Int) (i : Nat) : Int := b.getD i 0
theorem lb_lt {b : List Int} {i : Nat} (h : i < b.length) : lb b i = b[i] := by unfold lb; simp [h]
theorem lb_ge {b : List Int} {i : Nat} (h : b.length ≤ i) : lb b i = 0 := by unfold lb; simp [h]
theorem lb_bd {b : List Int} (hb : Limbs b) (i : Nat) : 0 ≤ lb b i ∧ lb b i < 4294967296 := by
  by_cases h : i < b.length
  · rw [lb_lt h]; exact hb.at i h
  · rw [lb_ge (by omega)]; decide
theorem val_take_lb (b : List Int) (i : Nat) : val (b.take (i + 1)) = val (b.take i) + 4294967296 ^ i * lb b i := by
  by_cases h : i < b.length
  · rw [val_take_succ h, lb_lt h]
  · rw [lb_ge (by omega), List.take_of_length_le (by omega), List.take_of_length_le (by omega), Int.mul_zero, Int.add_zero]

theorem zshr63 (x : Int) : zshr .u64 x 63 = x / 9223372036854775808 := by
  have := zshr_u64 x 63 (by decide)
  rwa [show (2 : Int) ^ 63 = 9223372036854775808 by decide] at this
theorem sub_limb (x bo y : Int) (hx : 0 ≤ x ∧ x < 4294967296) (hb : 0 ≤ bo ∧ bo ≤ 1) (hy : 0 ≤ y ∧ y < 4294967296) :
    ∃ v bo' : Int, IntKind.u32.wrap (IntKind.u64.wrap (IntKind.u64.wrap (IntKind.u64.wrap x - bo) - IntKind.u64.wrap y)) = v ∧ zshr .u64 (IntKind.u64.wrap (IntKind.u64.wrap (IntKind.u64.wrap x - bo) - IntKind.u64.wrap y)) 63 = bo' ∧
      (0 ≤ v ∧ v < 4294967296) ∧ (0 ≤ bo' ∧ bo' ≤ 1) ∧ v + y = x - bo + 4294967296 * bo' := by
  refine ⟨_, _, rfl, rfl, ?_⟩
  rw [zshr63, u64_in (x := x) (by omega) (by omega), u64_in (x := y) (by omega) (by omega)]
  simp only [wrap_u64, wrap_u32]
  omega
theorem sub_limb0 (x bo : Int) (hx : 0 ≤ x ∧ x < 4294967296) (hb : 0 ≤ bo ∧ bo ≤ 1) :
    ∃ v bo' : Int, IntKind.u32.wrap (IntKind.u64.wrap (IntKind.u64.wrap x - bo)) = v ∧ zshr .u64 (IntKind.u64.wrap (IntKind.u64.wrap x - bo)) 63 = bo' ∧
      (0 ≤ v ∧ v < 4294967296) ∧ (0 ≤ bo' ∧ bo' ≤ 1) ∧ v + 0 = x - bo + 4294967296 * bo' := by
  refine ⟨_, _, rfl, rfl, ?_⟩
  rw [zshr63, u64_in (x := x) (by omega) (by omega)]
  simp only [wrap_u64, wrap_u32]
  omega
theorem get_of_drop {a c : List Int} {i : Nat} (hi : i < a.length) (hl : c.length = a.length) (h : c.drop i = a.drop i) : c[i]'(by omega) = a[i] := by
  have h1 := List.drop_eq_getElem_cons hi
  have h2 := List.drop_eq_getElem_cons (l := c) (i := i) (by omega)
  rw [h, h1] at h2
  injection h2 with h3 h4
  exact h3.symm
theorem drop_set_succ (c : List Int) (i : Nat) (x : Int) (a : List Int) (hl : c.length = a.length) (hi : i < a.length) (h : c.drop i = a.drop i) : (c.set i x).drop (i + 1) = a.drop (i + 1) := by
  rw [List.drop_set_of_lt (by omega)]
  have h1 := List.drop_eq_getElem_cons hi
  have h2 := List.drop_eq_getElem_cons (l := c) (i := i) (by omega)
  rw [h, h1] at h2
  injection h2 with h3 h4
  exact h4.symm
theorem val_take_set (c : List Int) (i : Nat) (x : Int) (hi : i < c.length) : val ((c.set i x).take (i + 1)) = val (c.take i) + 4294967296 ^ i * x := by
  rw [val_take_succ (by simpa using hi), List.take_set_of_le (Nat.le_refl i), List.getElem_set_self]

theorem less_l0 (a b : List Int) (ha : Limbs a) (hb : Limbs b) (hl : a.length ≤ 100000000) : ∀ (n i : Nat) (bo : Int) (c : List Int), n = a.length - i → i ≤ a.length → (0 ≤ bo ∧ bo ≤ 1) → Limbs c → c.length = a.length → c.drop i = a.drop i →
    val (c.take i) + val (b.take i) = val (a.take i) + bo * 4294967296 ^ i →
    ∃ c' bo', Limbs c' ∧ c'.length = a.length ∧ (0 ≤ bo' ∧ bo' ≤ 1) ∧ val c' + val (b.take a.length) = val a + bo' * 4294967296 ^ a.length ∧ Ev (fun k => natural_less.l0 k b bo (a.length : Int) (i : Int) c) (lm (val c')) := by
  intro n
  induction n with
  | zero =>
    intro i bo c hn hi hbo hc hlc hd hv
    have hi' : i = a.length := by omega
    subst hi'
    have : ¬ ((a.length : Int) < (a.length : Int)) := by omega
    refine ⟨c, bo, hc, hlc, hbo, ?_, Ev.step ?_⟩
    · rw [List.take_of_length_le (l := c) (by omega), List.take_length] at hv
      exact hv
    · simp only [natural_less.l0, decide_eq_false this, condF]
      exact Ev.bind (trimt_ev c hc (by omega)) (Ev.pure _)
  | succ n ih =>
    intro i bo c hn hi hbo hc hlc hd hv
    have hlt : i < a.length := by omega
    have cc : (i : Int) < (a.length : Int) := by omega
    have hg : c[i]'(by omega) = a[i] := get_of_drop hlt hlc hd
    have hx := ha.at i hlt
    have hy := lb_bd hb i
    have nxt : ∀ v bo' : Int, (0 ≤ v ∧ v < 4294967296) → (0 ≤ bo' ∧ bo' ≤ 1) → v + lb b i = a[i] - bo + 4294967296 * bo' →
        ∃ c' bo'', Limbs c' ∧ c'.length = a.length ∧ (0 ≤ bo'' ∧ bo'' ≤ 1) ∧ val c' + val (b.take a.length) = val a + bo'' * 4294967296 ^ a.length ∧ Ev (fun k => natural_less.l0 k b bo' (a.length : Int) ((i + 1 : Nat) : Int) (c.set i v)) (lm (val c')) := by
      intro v bo' h1 h2 h3
      refine ih (i + 1) bo' _ (by omega) (by omega) h2 (hc.set i h1) (by simpa using hlc) (drop_set_succ c i v a hlc hlt hd) ?_
      rw [val_take_set c i v (by omega), val_take_lb, val_take_succ hlt, Int.pow_succ]
      have e : v = a[i] - bo + 4294967296 * bo' - lb b i := by omega
      rw [e]
      grind
    by_cases hb2 : i < b.length
    · obtain ⟨v, bo', e1, e2, h1, h2, h3⟩ := sub_limb a[i] bo (lb b i) hx hbo hy
      obtain ⟨c', bo'', g1, g2, g3, g4, g5⟩ := nxt v bo' h1 h2 h3
      refine ⟨c', bo'', g1, g2, g3, g4, Ev.step ?_⟩
      rw [lb_lt hb2] at e1 e2
      have t1 : inb (i : Int) c.length = true := inb_t' (by omega) (by omega)
      have t2 : inb (i : Int) b.length = true := inb_t' (by omega) (by omega)
      have t3 : decide ((i : Int) < (b.length : Int)) = true := decide_eq_true (by omega)
      simp only [natural_less.l0, decide_eq_true cc, condT, t1, t2, t3, gd_get' (0 : Int) c i (by omega), gd_get' (0 : Int) b i hb2, hg, e1, e2, Int.toNat_natCast, add1 (i := i) (by omega)]
      exact g5
    · rw [lb_ge (by omega)] at nxt
      obtain ⟨v, bo', e1, e2, h1, h2, h3⟩ := sub_limb0 a[i] bo hx hbo
      obtain ⟨c', bo'', g1, g2, g3, g4, g5⟩ := nxt v bo' h1 h2 h3
      refine ⟨c', bo'', g1, g2, g3, g4, Ev.step ?_⟩
      have t1 : inb (i : Int) c.length = true := inb_t' (by omega) (by omega)
      have t3 : decide ((i : Int) < (b.length : Int)) = false := decide_eq_false (by omega)
      simp only [natural_less.l0, decide_eq_true cc, condT, condF, t1, t3, gd_get' (0 : Int) c i (by omega), hg, e1, e2, Int.toNat_natCast, add1 (i := i) (by omega)]
      exact g5
theorem less_ev (a b : List Int) (ha : Limbs a) (hb : Limbs b) (hl : a.length ≤ 100000000) (hlb : b.length ≤ a.length) (hv : val b ≤ val a) : Ev (fun k => natural_less.f k a b) (lm (val a - val b)) := by
  obtain ⟨c', bo', h1, h2, h3, h4, h5⟩ := less_l0 a b ha hb hl a.length 0 0 a (by omega) (by omega) (by decide) ha rfl rfl (by simp [val])
  unfold natural_less.f
  refine Ev.eq h5 ?_
  rw [List.take_of_length_le hlb] at h4
  have g1 := val_lt h1
  rw [h2] at g1
  have g2 := val_nonneg h1
  have g3 := val_lt ha
  have g4 := val_nonneg hb
  have hbo : bo' = 0 := by
    obtain h | h : bo' = 0 ∨ bo' = 1 := by omega
    · exact h
    · subst h; rw [Int.one_mul] at h4; omega
  subst hbo
  congr 1
  omega

/-! products -/
theorem mul_step (c x y o : Int) (hc : 0 ≤ c ∧ c < 4294967296) (hx : 0 ≤ x ∧ x < 4294967296) (hy : 0 ≤ y ∧ y < 4294967296) (ho : 0 ≤ o ∧ o < 4294967296) :
    ∃ v c' : Int, IntKind.u32.wrap (IntKind.u64.wrap (c + IntKind.u64.wrap (IntKind.u64.wrap (IntKind.u64.wrap x * IntKind.u64.wrap y) + IntKind.u64.wrap o))) = v ∧
      zshr .u64 (IntKind.u64.wrap (c + IntKind.u64.wrap (IntKind.u64.wrap (IntKind.u64.wrap x * IntKind.u64.wrap y) + IntKind.u64.wrap o))) 32 = c' ∧ (0 ≤ v ∧ v < 4294967296) ∧ (0 ≤ c' ∧ c' < 4294967296) ∧ v + 4294967296 * c' = c + x * y + o := by
  refine ⟨_, _, rfl, rfl, ?_⟩
  have b0 : 0 ≤ x * y := Int.mul_nonneg hx.1 hy.1
  have b1 : x * y ≤ 4294967295 * 4294967295 := Int.mul_le_mul (by omega) (by omega) hy.1 (by omega)
  rw [zshr32, u64_in (x := x) (by omega) (by omega), u64_in (x := y) (by omega) (by omega), u64_in (x := o) (by omega) (by omega)]
  generalize x * y = p at *
  rw [u64_in (x := p) (by omega) (by omega), u64_in (x := p + o) (by omega) (by omega), u64_in (x := c + (p + o)) (by omega) (by omega), wrap_u32]
  omega
end Go.Gm

/- Naturals: the program's (3): products. -/
set_option linter.unusedVariables false
set_option linter.unusedSimpArgs false
namespace Go.Gm
open Go.Pi

theorem getd_of_drop {c o : List Int} {i : Nat} (hi : i < o.length) (hl : c.length = o.length) (h : c.drop i = o.drop i) : gd (0 : Int) c (i : Int) = o[i] := by
  rw [gd_get' 0 c i (by omega)]; exact get_of_drop hi hl h
theorem mul_l1 (a b : List Int) (ha : Limbs a) (hb : Limbs b) (hl : a.length + b.length ≤ 100000000) (i : Nat) (hi : i < a.length) (o : List Int) (hol : o.length = a.length + b.length) (ho : Limbs o)
    (hov : val (o.take (i + b.length)) = val (a.take i) * val b) :
    ∀ (n j : Nat) (c : Int) (out : List Int), n = b.length - j → j ≤ b.length → (0 ≤ c ∧ c < 4294967296) → Limbs out → out.length = o.length → out.drop (i + j) = o.drop (i + j) →
      val (out.take (i + j)) + c * 4294967296 ^ (i + j) = val (o.take (i + j)) + 4294967296 ^ i * a[i] * val (b.take j) →
      ∃ out', Limbs out' ∧ out'.length = o.length ∧ val (out'.take (i + 1 + b.length)) = val (a.take (i + 1)) * val b ∧
        ∀ r, Ev (fun k => natural_Mul.l0 k a b (a.length : Int) ((i + 1 : Nat) : Int) out') r → Ev (fun k => natural_Mul.l1 k a b (i : Int) c (a.length : Int) (i : Int) (b.length : Int) (j : Int) out) r := by
  intro n
  induction n with
  | zero =>
    intro j c out hn hj hc hout hlo hd hv
    have hj' : j = b.length := by omega
    subst hj'
    have t0 : ¬ ((b.length : Int) < (b.length : Int)) := by omega
    have e1 : IntKind.i64.wrap ((i : Int) + (b.length : Int)) = ((i + b.length : Nat) : Int) := by rw [i64_in (by omega) (by omega)]; omega
    have t1 : inb (((i + b.length : Nat) : Int)) out.length = true := inb_t' (by omega) (by omega)
    have e2 : IntKind.u32.wrap c = c := u32_in hc.1 hc.2
    refine ⟨out.set (i + b.length) c, hout.set _ hc, by simpa using hlo, ?_, ?_⟩
    · rw [show i + 1 + b.length = i + b.length + 1 by omega, val_take_set out (i + b.length) c (by omega)]
      rw [hov, List.take_length] at hv
      rw [val_take_succ hi]
      grind
    · intro r hr
      refine Ev.step ?_
      simp only [natural_Mul.l1, decide_eq_false t0, condF, e1, t1, condT, e2, Int.toNat_natCast, add1 (i := i) (by omega)]
      exact hr
  | succ n ih =>
    intro j c out hn hj hc hout hlo hd hv
    have hlt : j < b.length := by omega
    have cc : (j : Int) < (b.length : Int) := by omega
    have e1 : IntKind.i64.wrap ((i : Int) + (j : Int)) = ((i + j : Nat) : Int) := by rw [i64_in (by omega) (by omega)]; omega
    have hio : i + j < o.length := by omega
    obtain ⟨v, c', w1, w2, h1, h2, h3⟩ := mul_step c a[i] b[j] o[i + j] hc (ha.at i hi) (hb.at j hlt) (ho.at _ hio)
    have t1 : inb (i : Int) a.length = true := inb_t' (by omega) (by omega)
    have t2 : inb (j : Int) b.length = true := inb_t' (by omega) (by omega)
    have t3 : inb (((i + j : Nat) : Int)) out.length = true := inb_t' (by omega) (by omega)
    obtain ⟨out', g1, g2, g3, g4⟩ := ih (j + 1) c' (out.set (i + j) v) (by omega) (by omega) h2 (hout.set _ h1) (by simpa using hlo) (drop_set_succ out (i + j) v o hlo hio hd) (by
      rw [show i + (j + 1) = i + j + 1 by omega, val_take_set out (i + j) v (by omega), val_take_succ hio, val_take_succ hlt, Int.pow_succ]
      have e : v = c + a[i] * b[j] + o[i + j] - 4294967296 * c' := by omega
      rw [e]
      have p : (4294967296 : Int) ^ (i + j) = 4294967296 ^ i * 4294967296 ^ j := Int.pow_add ..
      rw [p] at hv ⊢
      grind)
    refine ⟨out', g1, g2, g3, fun r hr => Ev.step ?_⟩
    simp only [natural_Mul.l1, decide_eq_true cc, condT, e1, t1, t2, t3, gd_get' (0 : Int) a i hi, gd_get' (0 : Int) b j hlt, getd_of_drop hio hlo hd, w1, w2, Int.toNat_natCast, add1 (i := j) (by omega)]
    exact g4 r hr
theorem mul_l0 (a b : List Int) (ha : Limbs a) (hb : Limbs b) (hl : a.length + b.length ≤ 100000000) :
    ∀ (n i : Nat) (o : List Int), n = a.length - i → i ≤ a.length → o.length = a.length + b.length → Limbs o → val (o.take (i + b.length)) = val (a.take i) * val b →
      Ev (fun k => natural_Mul.l0 k a b (a.length : Int) (i : Int) o) (lm (val a * val b)) := by
  intro n
  induction n with
  | zero =>
    intro i o hn hi hol ho hv
    have hi' : i = a.length := by omega
    subst hi'
    have t0 : ¬ ((a.length : Int) < (a.length : Int)) := by omega
    rw [List.take_of_length_le (by omega), List.take_length] at hv
    refine Ev.step ?_
    simp only [natural_Mul.l0, decide_eq_false t0, condF]
    exact Ev.bind (trimt_ev o ho (by omega)) (by rw [hv]; exact Ev.pure _)
  | succ n ih =>
    intro i o hn hi hol ho hv
    have hlt : i < a.length := by omega
    have cc : (i : Int) < (a.length : Int) := by omega
    obtain ⟨out', g1, g2, g3, g4⟩ := mul_l1 a b ha hb hl i hlt o hol ho hv b.length 0 0 o (by omega) (by omega) (by decide) ho rfl rfl (by simp [val])
    refine Ev.step ?_
    simp only [natural_Mul.l0, decide_eq_true cc, condT]
    exact g4 _ (ih (i + 1) out' (by omega) (by omega) (by omega) g1 g3)
theorem Mul1_ev (a b : List Int) (ha : Limbs a) (hb : Limbs b) (hl : a.length + b.length ≤ 100000000) : Ev (fun k => natural_Mul.f k a b) (lm (val a * val b)) := by
  have l1 := lm_len_val ha
  have l2 := lm_len_val hb
  generalize hA : lm (val a) = A at *
  generalize hB : lm (val b) = B at *
  have e1 : IntKind.i64.wrap (((A.length : Nat) : Int) + ((B.length : Nat) : Int)) = ((A.length + B.length : Nat) : Int) := by rw [i64_in (by omega) (by omega)]; omega
  have LA : Limbs A := hA ▸ lm_limbs _
  have LB : Limbs B := hB ▸ lm_limbs _
  have VA : val A = val a := by rw [← hA]; exact val_lm (val_nonneg ha)
  have VB : val B = val b := by rw [← hB]; exact val_lm (val_nonneg hb)
  unfold natural_Mul.f
  refine Ev.bind (trim_ev a ha (by omega)) (Ev.bind (trim_ev b hb (by omega)) ?_)
  rw [hA, hB]
  simp only [e1, Int.toNat_natCast, decide_eq_true (show (0 : Int) ≤ ((A.length + B.length : Nat) : Int) by omega), decide_eq_true (Int.le_refl ((A.length + B.length : Nat) : Int)), decide_eq_true (show ((A.length + B.length : Nat) : Int) * 4 ≤ 140737488355328 by omega), Bool.and_self, condT]
  refine Ev.eq (mul_l0 A B LA LB (by omega) A.length 0 _ (by omega) (by omega) (by simp) (Limbs.zeros _) ?_) (by rw [VA, VB])
  simp [val_zeros, val]
end Go.Gm

/- Naturals: the program's (4): counts of bits, divisors of one limb. -/
set_option linter.unusedVariables false
set_option linter.unusedSimpArgs false
namespace Go.Gm
open Go.Pi

/-- v has s bits. -/
def HasBits (v : Int) (s : Nat) : Prop := v < 2 ^ s ∧ (s = 0 ∨ 2 ^ (s - 1) ≤ v)
def lenTbl : ByteArray := ⟨#[0, 1, 2, 2, 3, 3, 3, 3, 4, 4, 4, 4, 4, 4, 4, 4, 5, 5, 5, 5, 5, 5, 5, 5, 5, 5, 5, 5, 5, 5, 5, 5, 6, 6, 6, 6, 6, 6, 6, 6, 6, 6, 6, 6, 6, 6, 6, 6, 6, 6, 6, 6, 6, 6, 6, 6, 6, 6, 6, 6, 6, 6, 6, 6, 7, 7, 7, 7, 7, 7, 7, 7, 7, 7, 7, 7, 7, 7, 7, 7, 7, 7, 7, 7, 7, 7, 7, 7, 7, 7, 7, 7, 7, 7, 7, 7, 7, 7, 7, 7, 7, 7, 7, 7, 7, 7, 7, 7, 7, 7, 7, 7, 7, 7, 7, 7, 7, 7, 7, 7, 7, 7, 7, 7, 7, 7, 7, 7, 8, 8, 8, 8, 8, 8, 8, 8, 8, 8, 8, 8, 8, 8, 8, 8, 8, 8, 8, 8, 8, 8, 8, 8, 8, 8, 8, 8, 8, 8, 8, 8, 8, 8, 8, 8, 8, 8, 8, 8, 8, 8, 8, 8, 8, 8, 8, 8, 8, 8, 8, 8, 8, 8, 8, 8, 8, 8, 8, 8, 8, 8, 8, 8, 8, 8, 8, 8, 8, 8, 8, 8, 8, 8, 8, 8, 8, 8, 8, 8, 8, 8, 8, 8, 8, 8, 8, 8, 8, 8, 8, 8, 8, 8, 8, 8, 8, 8, 8, 8, 8, 8, 8, 8, 8, 8, 8, 8, 8, 8, 8, 8, 8, 8, 8, 8, 8, 8, 8, 8, 8, 8, 8, 8, 8, 8, 8, 8]⟩
theorem lenTbl_all : (List.range 256).all (fun y => decide ((0 : Int) ≤ bt lenTbl (y : Int)) && decide (bt lenTbl (y : Int) ≤ 8) && decide ((y : Int) < 2 ^ (bt lenTbl (y : Int)).toNat) && ((y == 0) || decide (2 ^ ((bt lenTbl (y : Int)).toNat - 1) ≤ (y : Int))) && ((y == 0) || decide (0 < bt lenTbl (y : Int)))) = true := by kernel_rfl
theorem lenTbl_at (y : Int) (h0 : 0 ≤ y) (h1 : y < 256) : ∃ s : Nat, bt lenTbl y = (s : Int) ∧ s ≤ 8 ∧ y < 2 ^ s ∧ (y = 0 ∨ (2 ^ (s - 1) ≤ y ∧ 0 < s)) := by
  obtain ⟨n, rfl⟩ := Int.eq_ofNat_of_zero_le h0
  have h := lenTbl_all
  rw [List.all_eq_true] at h
  have := h n (List.mem_range.mpr (by omega))
  simp only [Bool.and_eq_true, Bool.or_eq_true, decide_eq_true_eq, beq_iff_eq] at this
  obtain ⟨⟨⟨⟨a1, a2⟩, a3⟩, a4⟩, a5⟩ := this
  obtain ⟨s, hs⟩ := Int.eq_ofNat_of_zero_le a1
  refine ⟨s, hs, by omega, ?_, ?_⟩
  · rw [hs] at a3; exact a3
  · rw [hs] at a4 a5
    obtain h | h := a4
    · left; omega
    · obtain h' | h' := a5
      · left; omega
      · right; exact ⟨h, by omega⟩
theorem bits_up (x : Int) (m s : Nat) (hs : x / 2 ^ m < 2 ^ s) (hs2 : 2 ^ (s - 1) ≤ x / 2 ^ m) (h : 0 < s) : HasBits x (m + s) := by
  have hp : (0 : Int) < 2 ^ m := Int.pow_pos (by decide)
  constructor
  · rw [Int.ediv_lt_iff_lt_mul hp] at hs
    rw [Int.pow_add, Int.mul_comm]; exact hs
  · right
    rw [Int.le_ediv_iff_mul_le hp] at hs2
    rw [show m + s - 1 = m + (s - 1) by omega, Int.pow_add, Int.mul_comm]; exact hs2
theorem zshr_k (k : IntKind) (a : Int) (n : Nat) (h : n ≤ k.bits) : zshr k a (n : Int) = a / 2 ^ n := by
  have : min n k.bits = n := Nat.min_eq_left h
  simp only [zshr, Int.toNat_natCast, this]
  exact Int.fdiv_eq_ediv_of_nonneg _ (Int.le_of_lt (Int.pow_pos (by decide)))
theorem len32_def (a0 : Int) : bits_Len32.f a0 = (bif (decide (a0 ≥ (65536 : Int))) then (bif (decide ((zshr .u32 a0 (16 : Int)) ≥ (256 : Int))) then (bif (inb (IntKind.wrap .u8 (zshr .u32 (zshr .u32 a0 (16 : Int)) (8 : Int))) 256) then (some (IntKind.wrap .i64 ((24 : Int) + (IntKind.wrap .i64 (bt lenTbl (IntKind.wrap .u8 (zshr .u32 (zshr .u32 a0 (16 : Int)) (8 : Int)))))))) else none) else (bif (inb (IntKind.wrap .u8 (zshr .u32 a0 (16 : Int))) 256) then (some (IntKind.wrap .i64 ((16 : Int) + (IntKind.wrap .i64 (bt lenTbl (IntKind.wrap .u8 (zshr .u32 a0 (16 : Int)))))))) else none)) else (bif (decide (a0 ≥ (256 : Int))) then (bif (inb (IntKind.wrap .u8 (zshr .u32 a0 (8 : Int))) 256) then (some (IntKind.wrap .i64 ((8 : Int) + (IntKind.wrap .i64 (bt lenTbl (IntKind.wrap .u8 (zshr .u32 a0 (8 : Int)))))))) else none) else (bif (inb (IntKind.wrap .u8 a0) 256) then (some (IntKind.wrap .i64 ((0 : Int) + (IntKind.wrap .i64 (bt lenTbl (IntKind.wrap .u8 a0)))))) else none))) := Eq.trans rfl rfl
theorem len32_eq (x : Int) (h0 : 0 ≤ x) (h1 : x < 4294967296) : ∃ s : Nat, bits_Len32.f x = some (s : Int) ∧ HasBits x s ∧ s ≤ 32 := by
  have e8 : ∀ y, zshr .u32 y 8 = y / 256 := fun y => zshr_k .u32 y 8 (by decide)
  have e16 : ∀ y, zshr .u32 y 16 = y / 65536 := fun y => zshr_k .u32 y 16 (by decide)
  have key : ∀ (m : Nat) (y : Int), m ≤ 24 → y = x / 2 ^ m → 0 < y → y < 256 → ∃ s : Nat, IntKind.i64.wrap ((m : Int) + IntKind.i64.wrap (bt lenTbl (IntKind.u8.wrap y))) = (s : Int) ∧ HasBits x s ∧ s ≤ 32 := by
    intro m y hm hy hy0 hy1
    obtain ⟨s, a1, a2, a3, a4⟩ := lenTbl_at y (by omega) hy1
    refine ⟨m + s, ?_, ?_, by omega⟩
    · rw [u8_in (by omega) (by omega), a1, i64_in (x := (s : Int)) (by omega) (by omega), i64_in (by omega) (by omega)]; omega
    · obtain h | h := a4
      · omega
      · exact bits_up x m s (hy ▸ a3) (hy ▸ h.1) h.2
  have ib : ∀ y : Int, 0 ≤ y → y < 256 → inb (IntKind.u8.wrap y) 256 = true := fun y a b => by rw [u8_in a b]; exact inb_t' a (by omega)
  by_cases c1 : x ≥ 65536
  · by_cases c2 : x / 65536 ≥ 256
    · obtain ⟨s, b1, b2, b3⟩ := key 24 (x / 65536 / 256) (by decide) (by omega) (by omega) (by omega)
      refine ⟨s, ?_, b2, b3⟩
      rw [len32_def]
      simp only [e16, e8, decide_eq_true c1, decide_eq_true c2, condT, ib (x / 65536 / 256) (by omega) (by omega)]
      exact congrArg some b1
    · obtain ⟨s, b1, b2, b3⟩ := key 16 (x / 65536) (by decide) (by omega) (by omega) (by omega)
      refine ⟨s, ?_, b2, b3⟩
      rw [len32_def]
      simp only [e16, e8, decide_eq_true c1, decide_eq_false c2, condT, condF, ib (x / 65536) (by omega) (by omega)]
      exact congrArg some b1
  · by_cases c2 : x ≥ 256
    · obtain ⟨s, b1, b2, b3⟩ := key 8 (x / 256) (by decide) (by omega) (by omega) (by omega)
      refine ⟨s, ?_, b2, b3⟩
      rw [len32_def]
      simp only [e16, e8, decide_eq_false c1, decide_eq_true c2, condT, condF, ib (x / 256) (by omega) (by omega)]
      exact congrArg some b1
    · by_cases c3 : x = 0
      · subst c3
        exact ⟨0, by kernel_rfl, ⟨by decide, .inl rfl⟩, by decide⟩
      · obtain ⟨s, b1, b2, b3⟩ := key 0 x (by decide) (by simp) (by omega) (by omega)
        refine ⟨s, ?_, b2, b3⟩
        rw [len32_def]
        simp only [e16, e8, decide_eq_false c1, decide_eq_false c2, condT, condF, ib x (by omega) (by omega)]
        exact congrArg some b1
theorem pow_2_32 (n : Nat) : (4294967296 : Int) ^ n = 2 ^ (32 * n) := by
  rw [Int.pow_mul]; rfl
theorem bits_top (x v : Int) (n s : Nat) (hx : HasBits x s) (hx0 : 0 < x) (h1 : x * 4294967296 ^ n ≤ v) (h2 : v < (x + 1) * 4294967296 ^ n) : HasBits v (32 * n + s) := by
  obtain ⟨a, b⟩ := hx
  rw [pow_2_32] at h1 h2
  have hp : (0 : Int) < 2 ^ (32 * n) := Int.pow_pos (by decide)
  have hs : 0 < s := by
    apply Nat.pos_of_ne_zero; intro h; subst h; simp at a; omega
  constructor
  · rw [Int.pow_add, Int.mul_comm]
    exact Int.lt_of_lt_of_le h2 (Int.mul_le_mul_of_nonneg_right (by omega) (Int.le_of_lt hp))
  · right
    obtain h | h := b
    · omega
    rw [show 32 * n + s - 1 = 32 * n + (s - 1) by omega, Int.pow_add, Int.mul_comm]
    exact Int.le_trans (Int.mul_le_mul_of_nonneg_right h (Int.le_of_lt hp)) h1
/-- The top limb. -/
theorem top_limb {v : Int} (hv : 0 < v) : ∃ n, (lm v).length = n + 1 ∧ ∀ h : n < (lm v).length, 0 < (lm v)[n] ∧ (lm v)[n] < 4294967296 ∧ (lm v)[n] * 4294967296 ^ n ≤ v ∧ v < ((lm v)[n] + 1) * 4294967296 ^ n := by
  have hL := lm_limbs v
  have hne : lm v ≠ [] := fun h => by have := (lm_nil_iff (Int.le_of_lt hv)).mp h; omega
  have hpos : 0 < (lm v).length := List.length_pos_iff.mpr hne
  refine ⟨(lm v).length - 1, by omega, fun h => ?_⟩
  have hl := lm_last hne
  rw [List.getLast_eq_getElem] at hl
  have hb := hL.at _ h
  have hs := val_split (lm v) ((lm v).length - 1) (by omega)
  rw [val_lm (Int.le_of_lt hv), val_drop h, show (lm v).length - 1 + 1 = (lm v).length by omega, List.drop_length] at hs
  have h1 := val_nonneg (hL.take ((lm v).length - 1))
  have h2 := val_lt (hL.take ((lm v).length - 1))
  rw [List.length_take_of_le (by omega)] at h2
  generalize (lm v)[(lm v).length - 1] = x at *
  generalize val ((lm v).take ((lm v).length - 1)) = y at *
  generalize (4294967296 : Int) ^ ((lm v).length - 1) = p at *
  simp only [val, Int.mul_zero, Int.add_zero] at hs
  have e : (x + 1) * p = p * x + p := by grind
  have e2 : x * p = p * x := Int.mul_comm ..
  refine ⟨by omega, hb.2, by omega, by omega⟩
theorem size_ev (a : List Int) (ha : Limbs a) (hl : a.length ≤ 100000000) : ∃ s : Nat, Ev (fun k => natural_size.f k a) (s : Int) ∧ HasBits (val a) s ∧ s ≤ 32 * a.length := by
  have v0 := val_nonneg ha
  have l1 := lm_len_val ha
  by_cases h0 : val a = 0
  · refine ⟨0, ?_, ⟨by omega, .inl rfl⟩, by omega⟩
    unfold natural_size.f
    refine Ev.bind (trim_ev a ha hl) ?_
    rw [h0, lm_zero]
    exact Ev.pure _
  · obtain ⟨n, e1, e2⟩ := top_limb (show 0 < val a by omega)
    obtain ⟨p0, p1, p2, p3⟩ := e2 (by omega)
    obtain ⟨s, q1, q2, q3⟩ := len32_eq (lm (val a))[n] (by omega) p1
    refine ⟨32 * n + s, ?_, bits_top _ _ n s q2 p0 p2 p3, by omega⟩
    unfold natural_size.f
    refine Ev.bind (trim_ev a ha hl) ?_
    have t1 : (((lm (val a)).length : Int) == 0) = false := by rw [beq_eq_false_iff_ne]; omega
    have t2 : IntKind.i64.wrap (((lm (val a)).length : Int) - 1) = (n : Int) := by rw [i64_in (by omega) (by omega)]; omega
    have t3 : inb (n : Int) (lm (val a)).length = true := inb_t' (by omega) (by omega)
    simp only [t1, condF, t2, t3, condT, gd_get' (0 : Int) (lm (val a)) n (by omega), q1, bindO_s]
    refine Ev.eq (Ev.pure _) ?_
    rw [i64_in (x := 32 * (n : Int)) (by omega) (by omega), i64_in (by omega) (by omega)]; omega

/-! divisors of one limb -/
theorem zor32 (x y : Int) (hx : 0 ≤ x) (hx1 : x < 4294967296) (hy : 0 ≤ y ∧ y < 4294967296) : zbits .or .u64 (zshl .u64 x 32) y = x * 4294967296 + y := by
  have := zshl_u64 x 32 (by decide)
  rw [show (2 : Int) ^ 32 = 4294967296 by decide] at this
  rw [show (32 : Int) = ((32 : Nat) : Int) by rfl, this]
  have e : x * 4294967296 % 18446744073709551616 = x * 4294967296 := by omega
  rw [e]
  exact zor_parts _ y 32 (by decide) (by omega) (by omega) (by omega) hy.1 (by omega)
theorem small_step (r d x : Int) (hd : 0 < d) (hd1 : d < 4294967296) (hr : 0 ≤ r ∧ r < d) (hx : 0 ≤ x ∧ x < 4294967296) :
    ∃ q r' : Int, IntKind.u32.wrap (IntKind.u64.wrap (Int.tdiv (zbits .or .u64 (zshl .u64 r 32) (IntKind.u64.wrap x)) (IntKind.u64.wrap d))) = q ∧ Int.tmod (zbits .or .u64 (zshl .u64 r 32) (IntKind.u64.wrap x)) (IntKind.u64.wrap d) = r' ∧
      (0 ≤ q ∧ q < 4294967296) ∧ (0 ≤ r' ∧ r' < d) ∧ d * q + r' = r * 4294967296 + x := by
  rw [u64_in (x := x) (by omega) (by omega), u64_in (x := d) (by omega) (by omega), zor32 r x hr.1 (by omega) hx, tdiv_nn (by omega), tmod_nn (by omega)]
  have m1 := Int.emod_nonneg (r * 4294967296 + x) (show d ≠ 0 by omega)
  have m2 := Int.emod_lt_of_pos (r * 4294967296 + x) hd
  have m3 := Int.mul_ediv_add_emod (r * 4294967296 + x) d
  have m4 : 0 ≤ (r * 4294967296 + x) / d := Int.ediv_nonneg (by omega) (by omega)
  have m5 : (r * 4294967296 + x) / d < 4294967296 := by
    rw [Int.ediv_lt_iff_lt_mul hd]
    omega
  refine ⟨(r * 4294967296 + x) / d, _, ?_, rfl, ⟨m4, m5⟩, ⟨m1, m2⟩, m3⟩
  rw [u64_in (by omega) (by omega), u32_in (by omega) (by omega)]
theorem small_l0 (a : List Int) (ha : Limbs a) (hl : a.length ≤ 100000000) (d : Int) (hd : 0 < d) (hd1 : d < 4294967296) : ∀ (i : Nat) (r : Int) (out : List Int), i ≤ a.length → (0 ≤ r ∧ r < d) → Limbs out → out.length = a.length →
    val (a.drop i) = d * val (out.drop i) + r → ∃ out' r', Ev (fun k => natural_small.l0 k a d r ((i : Int) - 1) out) (lm (val out'), r') ∧ Limbs out' ∧ out'.length = a.length ∧ (0 ≤ r' ∧ r' < d) ∧ val a = d * val out' + r' := by
  intro i
  induction i with
  | zero =>
    intro r out hi hr ho hol hv
    have t0 : ¬ (((0 : Nat) : Int) - 1 ≥ 0) := by omega
    refine ⟨out, r, Ev.step ?_, ho, hol, hr, hv⟩
    simp only [natural_small.l0, decide_eq_false t0, condF, u32_in (x := r) (by omega) (by omega)]
    exact Ev.bind (trimt_ev out ho (by omega)) (Ev.pure _)
  | succ i ih =>
    intro r out hi hr ho hol hv
    have cc : ((i + 1 : Nat) : Int) - 1 ≥ 0 := by omega
    have ei : ((i + 1 : Nat) : Int) - 1 = (i : Int) := by omega
    obtain ⟨q, r', w1, w2, h1, h2, h3⟩ := small_step r d a[i] hd hd1 hr (ha.at i (by omega))
    have t1 : inb (i : Int) a.length = true := inb_t' (by omega) (by omega)
    have t2 : inb (i : Int) out.length = true := inb_t' (by omega) (by omega)
    have t3 : decide (IntKind.u64.wrap d = 0) = false := decide_eq_false (by rw [u64_in (by omega) (by omega)]; omega)
    have t4 : IntKind.i64.wrap ((i : Int) - 1) = (i : Int) - 1 := i64_in (by omega) (by omega)
    obtain ⟨out', r'', g1, g2, g3, g4, g5⟩ := ih r' (out.set i q) (by omega) h2 (ho.set i h1) (by simpa using hol) (by
      rw [val_drop (a := a) (i := i) (by omega), val_drop (a := out.set i q) (i := i) (by simp; omega), List.getElem_set_self, List.drop_set_of_lt (by omega), hv]
      grind)
    refine ⟨out', r'', Ev.step ?_, g2, g3, g4, g5⟩
    rw [ei] at cc ⊢
    simp only [natural_small.l0, decide_eq_true cc, t1, t2, t3, condT, Bool.not_false, gd_get' (0 : Int) a i (by omega), w1, w2, t4, Int.toNat_natCast]
    exact g1
theorem divmod_uniq {a d q r : Int} (hr : 0 ≤ r ∧ r < d) (h : a = d * q + r) : q = a / d ∧ r = a % d := by
  have hd : 0 < d := by omega
  have h1 : a / d = q := by
    rw [h, Int.add_comm, Int.add_mul_ediv_left _ _ (by omega), Int.ediv_eq_zero_of_lt hr.1 hr.2, Int.zero_add]
  have h2 : a % d = r := by
    rw [h, Int.add_comm, Int.add_mul_emod_self_left, Int.emod_eq_of_lt hr.1 hr.2]
  exact ⟨h1.symm, h2.symm⟩
theorem small_ev (a : List Int) (ha : Limbs a) (hl : a.length ≤ 100000000) (d : Int) (hd : 0 < d) (hd1 : d < 4294967296) : Ev (fun k => natural_small.f k a d) (lm (val a / d), val a % d) := by
  have e := small_l0 a ha hl d hd hd1 a.length 0 (List.replicate a.length 0) (by omega) (by omega) (Limbs.zeros _) (by simp) (by
    rw [List.drop_of_length_le (by omega), List.drop_of_length_le (by simp)]; simp [val])
  obtain ⟨out', r', g1, g2, g3, g4, g5⟩ := e
  obtain ⟨u1, u2⟩ := divmod_uniq g4 g5
  unfold natural_small.f
  simp only [Int.toNat_natCast, decide_eq_true (show (0 : Int) ≤ ((a.length : Nat) : Int) by omega), decide_eq_true (Int.le_refl ((a.length : Nat) : Int)), decide_eq_true (show ((a.length : Nat) : Int) * 4 ≤ 140737488355328 by omega), Bool.and_self, condT]
  rw [i64_in (by omega) (by omega)]
  exact Ev.eq g1 (by rw [← u1, ← u2])
end Go.Gm

/- Naturals: the program's (5): division bit by bit, greatest common divisors. -/
set_option linter.unusedVariables false
set_option linter.unusedSimpArgs false
namespace Go.Gm
open Go.Pi

theorem ofInt32 (m : Nat) (h : m < 4294967296) : (BitVec.ofInt 32 (m : Int)).toNat = m := by
  have := ofInt_nat 32 (m : Int)
  have h32 : (m : Int) % 2 ^ 32 = (m : Int) := by omega
  rw [h32] at this
  exact_mod_cast this
theorem zor_u32 (a b : Int) (n : Nat) (hn : n ≤ 32) (ha : 0 ≤ a) (ha' : a < 4294967296) (hd : a % 2 ^ n = 0) (hb : 0 ≤ b) (hb' : b < 2 ^ n) : zbits .or .u32 a b = a + b ∧ a + b < 4294967296 := by
  obtain ⟨m, rfl⟩ := Int.eq_ofNat_of_zero_le ha
  obtain ⟨c, rfl⟩ := Int.eq_ofNat_of_zero_le hb
  have hc : c < 2 ^ n := by exact_mod_cast hb'
  have hc32 : c < 4294967296 := Nat.lt_of_lt_of_le hc (Nat.le_trans (Nat.pow_le_pow_right (by decide) hn) (by decide))
  have hm : m % 2 ^ n = 0 := by exact_mod_cast hd
  obtain ⟨q, rfl⟩ : ∃ q, m = q * 2 ^ n := ⟨m / 2 ^ n, by have := Nat.div_add_mod m (2 ^ n); rw [hm, Nat.add_zero, Nat.mul_comm] at this; exact this.symm⟩
  have h1 := ofInt32 (q * 2 ^ n) (by omega)
  have h2 := ofInt32 c hc32
  have hor : q * 2 ^ n ||| c = q * 2 ^ n + c := by
    rw [Nat.mul_comm]
    exact (Nat.two_pow_add_eq_or_of_lt hc q).symm
  have hsum : q * 2 ^ n + c < 4294967296 := by
    have hq : q * 2 ^ n < 4294967296 := by omega
    have : (2 : Nat) ^ 32 = 4294967296 := by decide
    rw [← this] at hq ⊢
    have e : (2 : Nat) ^ 32 = 2 ^ (32 - n) * 2 ^ n := by rw [← Nat.pow_add]; congr 1; omega
    rw [e] at hq ⊢
    have hq' := Nat.lt_of_mul_lt_mul_right hq
    have : (q + 1) * 2 ^ n ≤ 2 ^ (32 - n) * 2 ^ n := Nat.mul_le_mul_right _ hq'
    rw [Nat.add_mul, Nat.one_mul] at this
    omega
  have hsum' : ((q * 2 ^ n + c : Nat) : Int) < ((4294967296 : Nat) : Int) := Int.ofNat_lt.mpr hsum
  refine ⟨?_, by rw [← Int.natCast_add]; exact hsum'⟩
  rw [zbits_nat .or .u32 _ _ (q * 2 ^ n + c) (by
    show (BitVec.ofInt 32 ((q * 2 ^ n : Nat) : Int) ||| BitVec.ofInt 32 (c : Int)).toNat = _
    rw [BitVec.toNat_or, h1, h2, hor])]
  rw [u32_in (by omega) (by omega)]
  simp
theorem zand1 (x : Int) : zbits .and .u32 x 1 = x % 2 := by
  have := zand_mask .u32 x 1 (by decide)
  rw [show (2 : Int) ^ 1 - 1 = 1 by decide, show (2 : Int) ^ 1 = 2 by decide] at this
  rw [this, wrap_u32]; omega
/-- Equal lengths, equal values. -/
theorem val_inj : ∀ {a b : List Int}, Limbs a → Limbs b → a.length = b.length → val a = val b → a = b
  | [], [], _, _, _, _ => rfl
  | x :: a, y :: b, ha, hb, hl, hv => by
    have h1 := ha.head
    have h2 := hb.head
    simp only [val] at hv
    have e1 : x = y := by omega
    have e2 : val a = val b := by omega
    rw [e1, val_inj ha.tail hb.tail (by simpa using hl) e2]
theorem lm_of_len {l : List Int} (hl : Limbs l) {v : Int} (hv : val l = v) (h : l.length ≤ (lm v).length) : l = lm v := by
  have h1 := lm_len_val hl
  rw [hv] at h1
  have h0 := val_nonneg hl
  exact val_inj hl (lm_limbs v) (by omega) (by rw [val_lm (by omega)]; exact hv)
/-! one bit to the left -/
theorem shl_limb (x c : Int) (hx : 0 ≤ x ∧ x < 4294967296) (hc : 0 ≤ c ∧ c ≤ 1) :
    ∃ v c' : Int, zbits .or .u32 (zshl .u32 x 1) c = v ∧ zshr .u32 x 31 = c' ∧ (0 ≤ v ∧ v < 4294967296) ∧ (0 ≤ c' ∧ c' ≤ 1) ∧ v + 4294967296 * c' = 2 * x + c := by
  have e1 : zshl .u32 x 1 = 2 * x % 4294967296 := by
    simp only [zshl, wrap_u32]
    congr 1
    show x * 2 ^ (min (1 : Int).toNat 32) = _
    rw [show min (1 : Int).toNat 32 = 1 by decide]; omega
  have e2 : zshr .u32 x 31 = x / 2147483648 := zshr_k .u32 x 31 (by decide)
  obtain ⟨z1, z2⟩ := zor_u32 (2 * x % 4294967296) c 1 (by decide) (by omega) (by omega) (by rw [show (2 : Int) ^ 1 = 2 by decide]; omega) hc.1 (by rw [show (2 : Int) ^ 1 = 2 by decide]; omega)
  rw [e1, e2, z1]
  exact ⟨_, _, rfl, rfl, by omega, by omega, by omega⟩
theorem div_l1 (a b q : List Int) (i : Int) (r : List Int) (hr : Limbs r) (hl : r.length ≤ 100000000) (c0 : Int) :
    ∀ (n j : Nat) (c : Int) (out : List Int), n = r.length - j → j ≤ r.length → (0 ≤ c ∧ c ≤ 1) → Limbs out → out.length = r.length → out.drop j = r.drop j →
      val (out.take j) + c * 4294967296 ^ j = 2 * val (r.take j) + c0 →
      ∃ c' out', (0 ≤ c' ∧ c' ≤ 1) ∧ Limbs out' ∧ out'.length = r.length ∧ val out' + c' * 4294967296 ^ r.length = 2 * val r + c0 ∧
        ∀ z, Ev (fun k => natural_DivMod.l1 k a b i c' (r.length : Int) (r.length : Int) q out') z → Ev (fun k => natural_DivMod.l1 k a b i c (r.length : Int) (j : Int) q out) z := by
  intro n
  induction n with
  | zero =>
    intro j c out hn hj hc hout hlo hd hv
    have hj' : j = r.length := by omega
    subst hj'
    rw [List.take_of_length_le (by omega), List.take_length] at hv
    exact ⟨c, out, hc, hout, hlo, hv, fun z h => h⟩
  | succ n ih =>
    intro j c out hn hj hc hout hlo hd hv
    have hlt : j < r.length := by omega
    have cc : (j : Int) < (r.length : Int) := by omega
    obtain ⟨v, c', w1, w2, h1, h2, h3⟩ := shl_limb r[j] c (hr.at j hlt) hc
    have t1 : inb (j : Int) out.length = true := inb_t' (by omega) (by omega)
    obtain ⟨c'', out', g1, g2, g3, g4, g5⟩ := ih (j + 1) c' (out.set j v) (by omega) (by omega) h2 (hout.set _ h1) (by simpa using hlo) (drop_set_succ out j v r hlo hlt hd) (by
      rw [val_take_set out j v (by omega), val_take_succ hlt, Int.pow_succ]
      have e : v = 2 * r[j] + c - 4294967296 * c' := by omega
      rw [e]
      grind)
    refine ⟨c'', out', g1, g2, g3, g4, fun z hz => Ev.step ?_⟩
    simp only [natural_DivMod.l1, decide_eq_true cc, condT, t1, getd_of_drop hlt hlo hd, w1, w2, Int.toNat_natCast, add1 (i := j) (by omega)]
    exact g5 z hz

theorem two_dvd_W (t : Nat) (h : t ≤ 32) : (2 : Int) ^ t ∣ 4294967296 := ⟨2 ^ (32 - t), by rw [← Int.pow_add, show t + (32 - t) = 32 by omega]; rfl⟩
/-- The bit t of the limb j. -/
theorem bit_at (a : List Int) (j t : Nat) (ha : Limbs a) (hj : j < a.length) (ht : t ≤ 31) : a[j] / 2 ^ t % 2 = val a / 2 ^ (32 * j + t) % 2 := by
  have hs := val_split a j (by omega)
  rw [val_drop hj] at hs
  have h1 := val_nonneg (ha.take j)
  have h2 := val_lt (ha.take j)
  rw [List.length_take_of_le (by omega)] at h2
  have e1 : val a / 4294967296 ^ j = a[j] + 4294967296 * val (a.drop (j + 1)) := by
    rw [hs, Int.add_mul_ediv_left _ _ (Int.ne_of_gt (pow_pos32 j)), Int.ediv_eq_zero_of_lt h1 h2, Int.zero_add]
  rw [Int.pow_add, ← pow_2_32, ← Int.ediv_ediv_of_nonneg (Int.le_of_lt (pow_pos32 j)), e1]
  obtain ⟨m, hm⟩ : ∃ m : Int, 4294967296 = 2 ^ t * (2 * m) := ⟨2 ^ (31 - t), by rw [show (2 : Int) * 2 ^ (31 - t) = 2 ^ (32 - t) by rw [show 32 - t = (31 - t) + 1 by omega, Int.pow_succ, Int.mul_comm], ← Int.pow_add, show t + (32 - t) = 32 by omega]; rfl⟩
  have hp : (2 : Int) ^ t ≠ 0 := Int.ne_of_gt (Int.pow_pos (by decide))
  have e2 : a[j] + 4294967296 * val (a.drop (j + 1)) = a[j] + 2 ^ t * (2 * (m * val (a.drop (j + 1)))) := by
    rw [show (4294967296 : Int) * val (a.drop (j + 1)) = 2 ^ t * (2 * m) * val (a.drop (j + 1)) by rw [← hm]]
    simp only [Int.mul_assoc]
  rw [e2, Int.add_mul_ediv_left _ _ hp]
  omega
/-- A limb of a multiple of a power of two. -/
theorem limb_free (q : List Int) (j t : Nat) (hq : Limbs q) (hj : j < q.length) (ht : t ≤ 31) (h : val q % 2 ^ (32 * j + t + 1) = 0) : q[j] % 2 ^ (t + 1) = 0 := by
  have hs := val_split q j (by omega)
  rw [val_drop hj] at hs
  have h1 := val_nonneg (hq.take j)
  have h2 := val_lt (hq.take j)
  rw [List.length_take_of_le (by omega)] at h2
  have hp := pow_pos32 j
  obtain ⟨m, hm⟩ := Int.dvd_of_emod_eq_zero h
  rw [show 32 * j + t + 1 = 32 * j + (t + 1) by omega, Int.pow_add, ← pow_2_32, Int.mul_assoc] at hm
  rw [hm] at hs
  have e0 : val (q.take j) = 0 := by
    have : val (q.take j) = 4294967296 ^ j * (2 ^ (t + 1) * m - (q[j] + 4294967296 * val (q.drop (j + 1)))) := by grind
    generalize 2 ^ (t + 1) * m - (q[j] + 4294967296 * val (q.drop (j + 1))) = z at this
    have hz : z = 0 := by
      have z1 : ¬ z < 0 := by
        intro hz
        have := Int.mul_neg_of_pos_of_neg hp hz
        omega
      have z2 : ¬ z > 0 := by
        intro hz
        have := Int.mul_le_mul_of_nonneg_left (show (1 : Int) ≤ z by omega) (Int.le_of_lt hp)
        omega
      omega
    rw [this, hz, Int.mul_zero]
  rw [e0, Int.zero_add] at hs
  have e1 : 2 ^ (t + 1) * m = q[j] + 4294967296 * val (q.drop (j + 1)) := Int.eq_of_mul_eq_mul_left (Int.ne_of_gt hp) hs
  obtain ⟨w, hw⟩ := two_dvd_W (t + 1) (by omega)
  apply Int.emod_eq_zero_of_dvd
  refine ⟨m - w * val (q.drop (j + 1)), ?_⟩
  have : q[j] = 2 ^ (t + 1) * m - 4294967296 * val (q.drop (j + 1)) := by omega
  rw [this, Int.mul_sub, ← Int.mul_assoc, ← hw]
theorem cmpZ_ge (u v : Int) : decide (cmpZ u v ≥ 0) = decide (v ≤ u) := by
  unfold cmpZ
  by_cases h : u < v
  · rw [if_pos h]; exact (decide_eq_false (by omega)).trans (decide_eq_false (by omega)).symm
  · rw [if_neg h]
    by_cases h2 : u = v
    · rw [if_pos h2]; exact (decide_eq_true (by omega)).trans (decide_eq_true (by omega)).symm
    · rw [if_neg h2]; exact (decide_eq_true (by omega)).trans (decide_eq_true (by omega)).symm
theorem shl1 (t : Nat) (h : t ≤ 31) : zshl .u32 1 (t : Int) = 2 ^ t := by
  simp only [zshl, Int.toNat_natCast, wrap_u32]
  rw [show min t IntKind.u32.bits = t from Nat.min_eq_left (by show t ≤ 32; omega), Int.one_mul]
  have : (2 : Int) ^ t < 4294967296 := by
    have h1 : (2 : Nat) ^ t ≤ 2 ^ 31 := Nat.pow_le_pow_right (by decide) h
    have h2 : (2 : Nat) ^ t < 4294967296 := Nat.lt_of_le_of_lt h1 (by decide)
    have h3 : ((2 ^ t : Nat) : Int) < ((4294967296 : Nat) : Int) := Int.ofNat_lt.mpr h2
    rw [Int.natCast_pow] at h3
    exact h3
  have p : (0 : Int) < 2 ^ t := Int.pow_pos (by decide)
  omega
theorem bit_step (A B R Q : Int) (n : Nat) (hB : 0 < B) (hR : 0 ≤ R ∧ R < B) (h : A / 2 ^ (n + 1) = B * (Q / 2 ^ (n + 1)) + R) (hQ : Q % 2 ^ (n + 1) = 0) :
    (2 * R + A / 2 ^ n % 2 < B → (A / 2 ^ n = B * (Q / 2 ^ n) + (2 * R + A / 2 ^ n % 2)) ∧ Q % 2 ^ n = 0) ∧
    (B ≤ 2 * R + A / 2 ^ n % 2 → (A / 2 ^ n = B * ((Q + 2 ^ n) / 2 ^ n) + (2 * R + A / 2 ^ n % 2 - B)) ∧ (Q + 2 ^ n) % 2 ^ n = 0 ∧ 2 * R + A / 2 ^ n % 2 - B < B) := by
  have hp : (0 : Int) < 2 ^ n := Int.pow_pos (by decide)
  obtain ⟨m, hm⟩ := Int.dvd_of_emod_eq_zero hQ
  have e0 : (2 : Int) ^ (n + 1) = 2 ^ n * 2 := Int.pow_succ ..
  have e1 : A / 2 ^ (n + 1) = A / 2 ^ n / 2 := by rw [e0, ← Int.ediv_ediv_of_nonneg (Int.le_of_lt hp)]
  have e2 : Q / 2 ^ (n + 1) = m := by rw [hm]; exact Int.mul_ediv_cancel_left _ (Int.ne_of_gt (Int.pow_pos (by decide)))
  have e3 : Q = 2 ^ n * (2 * m) := by rw [hm, e0, Int.mul_assoc]
  have e4 : Q / 2 ^ n = 2 * m := by rw [e3]; exact Int.mul_ediv_cancel_left _ (Int.ne_of_gt hp)
  have e5 : (Q + 2 ^ n) / 2 ^ n = 2 * m + 1 := by
    rw [e3, show (2 : Int) ^ n * (2 * m) + 2 ^ n = 2 ^ n * (2 * m + 1) by grind]; exact Int.mul_ediv_cancel_left _ (Int.ne_of_gt hp)
  rw [e1, e2] at h
  have key : A / 2 ^ n = B * (2 * m) + (2 * R + A / 2 ^ n % 2) := by
    have : A / 2 ^ n = 2 * (A / 2 ^ n / 2) + A / 2 ^ n % 2 := by omega
    have e : B * (2 * m) = 2 * (B * m) := by grind
    rw [e]; omega
  refine ⟨fun _ => ⟨by rw [e4]; exact key, ?_⟩, fun _ => ⟨?_, ?_, by omega⟩⟩
  · rw [e3]; exact Int.mul_emod_right ..
  · rw [e5]
    have e : B * (2 * m + 1) = B * (2 * m) + B := by grind
    rw [e]; omega
  · rw [e3, show (2 : Int) ^ n * (2 * m) + 2 ^ n = 2 ^ n * (2 * m + 1) by grind]; exact Int.mul_emod_right ..
end Go.Gm

/- Naturals: the program's (6): division and greatest common divisors. -/
set_option linter.unusedVariables false
set_option linter.unusedSimpArgs false
namespace Go.Gm
open Go.Pi

theorem fits_t {b n m : Nat} (h : (n + m) * b ≤ 140737488355328) : fits b n m = true := decide_eq_true h
theorem lm_len_lt {u : Int} {n : Nat} (h0 : 0 ≤ u) (h : 4294967296 ^ n ≤ u) : n + 1 ≤ (lm u).length := by
  have h1 := val_lt (lm_limbs u)
  rw [val_lm h0] at h1
  apply Nat.lt_of_not_le
  intro hc
  have := pow_le32 hc
  omega
theorem div_l0 (a : List Int) (ha : Limbs a) (hl : a.length ≤ 100000000) (B : Int) (hB : 0 < B) (hlb : (lm B).length ≤ 99999999) :
    ∀ (n : Nat) (q : List Int) (R : Int), n ≤ 32 * a.length → Limbs q → q.length = a.length → (0 ≤ R ∧ R < B) → val a / 2 ^ n = B * (val q / 2 ^ n) + R → val q % 2 ^ n = 0 →
      Ev (fun k => natural_DivMod.l0 k a (lm B) ((n : Int) - 1) q (lm R)) (lm (val a / B), lm (val a % B), true) := by
  intro n
  induction n with
  | zero =>
    intro q R hn hq hql hR h1 h2
    have t0 : ¬ (((0 : Nat) : Int) - 1 ≥ 0) := by omega
    refine Ev.step ?_
    simp only [natural_DivMod.l0, decide_eq_false t0, condF]
    refine Ev.bind (trimt_ev q hq (by omega)) ?_
    simp only [Int.pow_zero, Int.ediv_one] at h1
    obtain ⟨u1, u2⟩ := divmod_uniq hR h1
    rw [← u1, ← u2]
    exact Ev.pure _
  | succ n ih =>
    intro q R hn hq hql hR h1 h2
    have ei : ((n + 1 : Nat) : Int) - 1 = (n : Int) := by omega
    have cc : (n : Int) ≥ 0 := by omega
    have ej : IntKind.i64.wrap (Int.tdiv (n : Int) 32) = ((n / 32 : Nat) : Int) := by
      rw [tdiv_nn (by omega), i64_in (by omega) (by omega)]; omega
    have et : Int.tmod (n : Int) 32 = ((n % 32 : Nat) : Int) := by rw [tmod_nn (by omega)]; omega
    have hj : n / 32 < a.length := by omega
    have ht : n % 32 ≤ 31 := by omega
    have hnt : 32 * (n / 32) + n % 32 = n := by omega
    have t1 : inb (((n / 32 : Nat) : Int)) a.length = true := inb_t' (by omega) (by omega)
    have t2 : nonneg (((n % 32 : Nat) : Int)) = true := decide_eq_true (by omega)
    have t3 : inb (((n / 32 : Nat) : Int)) q.length = true := inb_t' (by omega) (by omega)
    have ebit : zbits .and .u32 (zshr .u32 a[n / 32] ((n % 32 : Nat) : Int)) 1 = val a / 2 ^ n % 2 := by
      rw [zand1, zshr_k .u32 _ _ (by show n % 32 ≤ 32; omega), bit_at a (n / 32) (n % 32) ha hj ht, hnt]
    obtain ⟨s1, s2⟩ := bit_step (val a) B R (val q) n hB hR h1 h2
    generalize hbit : val a / 2 ^ n % 2 = bit at *
    have hb01 : 0 ≤ bit ∧ bit ≤ 1 := by omega
    have hLr := lm_limbs R
    have hlr : (lm R).length ≤ (lm B).length := lm_len_mono hR.1 (by omega)
    obtain ⟨c', out', g1, g2, g3, g4, g5⟩ := div_l1 a (lm B) q (n : Int) (lm R) hLr (by omega) bit (lm R).length 0 bit (lm R) (by omega) (by omega) hb01 hLr rfl rfl (by simp [val])
    rw [val_lm hR.1] at g4
    refine Ev.step ?_
    rw [ei]
    simp only [natural_DivMod.l0, decide_eq_true cc, condT, ej, et, t1, t2, gd_get' (0 : Int) a (n / 32) hj, ebit]
    refine g5 _ (Ev.step ?_)
    have t0 : ¬ (((lm R).length : Int) < ((lm R).length : Int)) := by omega
    have hV0 : 0 ≤ 2 * R + bit := by omega
    have hLB := lm_limbs B
    have hvB := val_lm (Int.le_of_lt hB)
    -- what follows the shift
    have e4 : IntKind.i64.wrap ((n : Int) - 1) = (n : Int) - 1 := i64_in (by omega) (by omega)
    have hfree := limb_free q (n / 32) (n % 32) hq (by omega) ht (by rw [hnt]; exact h2)
    have hq1 := hq.at (n / 32) (by omega)
    obtain ⟨z1, z2⟩ := zor_u32 (q[n / 32]'(by omega)) (2 ^ (n % 32)) (n % 32 + 1) (by omega) hq1.1 hq1.2 hfree (Int.le_of_lt (Int.pow_pos (by decide))) (by rw [Int.pow_succ]; have : (0 : Int) < 2 ^ (n % 32) := Int.pow_pos (by decide); omega)
    have hset : Limbs (q.set (n / 32) (q[n / 32]'(by omega) + 2 ^ (n % 32))) := hq.set _ ⟨by have : (0 : Int) < 2 ^ (n % 32) := Int.pow_pos (by decide); omega, z2⟩
    have hvs : val (q.set (n / 32) (q[n / 32]'(by omega) + 2 ^ (n % 32))) = val q + 2 ^ n := by
      rw [val_set (by omega), pow_2_32]
      have : (2 : Int) ^ n = 2 ^ (32 * (n / 32)) * 2 ^ (n % 32) := by rw [← Int.pow_add, hnt]
      rw [this]; grind
    have low : 2 * R + bit < B → Ev (fun k => natural_DivMod.l0 k a (lm B) ((n : Int) - 1) q (lm (2 * R + bit))) (lm (val a / B), lm (val a % B), true) := by
      intro h
      obtain ⟨w1, w2⟩ := s1 h
      exact ih q (2 * R + bit) (by omega) hq hql ⟨hV0, h⟩ w1 w2
    have high : B ≤ 2 * R + bit → Ev (fun k => natural_DivMod.l0 k a (lm B) ((n : Int) - 1) (q.set (n / 32) (q[n / 32]'(by omega) + 2 ^ (n % 32))) (lm (2 * R + bit - B))) (lm (val a / B), lm (val a % B), true) := by
      intro h
      obtain ⟨w1, w2, w3⟩ := s2 h
      exact ih _ (2 * R + bit - B) (by omega) hset (by simpa using hql) ⟨by omega, w3⟩ (by rw [hvs]; exact w1) (by rw [hvs]; exact w2)
    have hlV : (lm (2 * R + bit)).length ≤ (lm R).length + 1 := by
      have := lm_len_val (Limbs.append g2 (Limbs.cons (x := c') ⟨g1.1, by omega⟩ Limbs.nil))
      rw [val_append] at this
      simp only [val, List.length_append, List.length_cons, List.length_nil] at this
      rw [g3, show val out' + 4294967296 ^ (lm R).length * (c' + 4294967296 * 0) = 2 * R + bit by rw [← g4]; grind] at this
      omega
    have cmp := Cmp1_ev (lm (2 * R + bit)) (lm B) (lm_limbs _) hLB (by omega) (by omega)
    have les := fun (h : B ≤ 2 * R + bit) => less_ev (lm (2 * R + bit)) (lm B) (lm_limbs _) hLB (by omega) (lm_len_mono (Int.le_of_lt hB) h) (by rw [hvB, val_lm hV0]; exact h)
    rw [val_lm hV0, hvB] at cmp
    rw [val_lm hV0, hvB] at les
    obtain hc | hc : c' = 0 ∨ c' = 1 := by omega
    · subst hc
      have eL : out' = lm (2 * R + bit) := lm_of_len g2 (by omega) (by rw [g3]; exact lm_len_mono hR.1 (by omega))
      rw [eL]
      have f0 : ¬ ((0 : Int) > 0) := by decide
      simp only [natural_DivMod.l1, decide_eq_false t0, condF, decide_eq_false f0]
      refine Ev.bind cmp ?_
      rw [cmpZ_ge]
      by_cases h : B ≤ 2 * R + bit
      · simp only [decide_eq_true h, condT]
        refine Ev.bind (les h) ?_
        simp only [ej, et, t2, t3, condT, gd_get' (0 : Int) q (n / 32) (by omega), Int.toNat_natCast, e4, shl1 _ ht, z1]
        exact high h
      · simp only [decide_eq_false h, condF, e4]
        exact low (by omega)
    · subst hc
      have eL : out' ++ [1] = lm (2 * R + bit) := by
        refine lm_of_len (Limbs.append g2 (Limbs.cons ⟨by decide, by decide⟩ Limbs.nil)) ?_ ?_
        · rw [val_append, g3, ← g4]; simp only [val]; grind
        · simp only [List.length_append, List.length_cons, List.length_nil]
          rw [g3]
          refine lm_len_lt hV0 ?_
          have := val_nonneg g2
          omega
      have f0 : ((1 : Int) > 0) := by decide
      have ff : fits 4 out'.length [(1 : Int)].length = true := fits_t (by simp only [List.length_cons, List.length_nil]; omega)
      simp only [natural_DivMod.l1, decide_eq_false t0, condF, decide_eq_true f0, condT, ff, eL]
      refine Ev.bind cmp ?_
      rw [cmpZ_ge]
      by_cases h : B ≤ 2 * R + bit
      · simp only [decide_eq_true h, condT]
        refine Ev.bind (les h) ?_
        simp only [ej, et, t2, t3, condT, gd_get' (0 : Int) q (n / 32) (by omega), Int.toNat_natCast, e4, shl1 _ ht, z1]
        exact high h
      · simp only [decide_eq_false h, condF, e4]
        exact low (by omega)
theorem cmpZ_lt0 (u v : Int) : decide (cmpZ u v < 0) = decide (u < v) := by
  unfold cmpZ
  by_cases h : u < v
  · rw [if_pos h]; exact (decide_eq_true (by omega)).trans (decide_eq_true h).symm
  · rw [if_neg h, decide_eq_false h]
    by_cases h2 : u = v
    · rw [if_pos h2]; exact (decide_eq_false (by omega))
    · rw [if_neg h2]; exact (decide_eq_false (by omega))
theorem len1_val {v : Int} (h : (lm v).length = 1) (hv : 0 ≤ v) : 0 < v ∧ v < 4294967296 ∧ ∀ h' : 0 < (lm v).length, (lm v)[0] = v := by
  obtain ⟨x, hx⟩ := List.length_eq_one_iff.mp h
  have e := val_lm hv
  have hb := lm_limbs v
  rw [hx] at e hb
  have := hb.head
  simp only [val] at e
  have hne : v ≠ 0 := by
    intro h0; rw [h0, lm_zero] at h; simp at h
  refine ⟨by omega, by omega, fun h' => ?_⟩
  simp only [hx, List.getElem_cons_zero]
  omega
theorem DivMod1_ev (a b : List Int) (ha : Limbs a) (hb : Limbs b) (hl : a.length ≤ 99999999) (hlb : b.length ≤ 99999999) (h0 : 0 < val b) : Ev (fun k => natural_DivMod.f k a b) (lm (val a / val b), lm (val a % val b), true) := by
  have va := val_nonneg ha
  have l1 := lm_len_val ha
  have l2 := lm_len_val hb
  have v1 := val_lm va
  have v2 := val_lm (Int.le_of_lt h0)
  unfold natural_DivMod.f
  refine Ev.bind (trim_ev a ha (by omega)) (Ev.bind (trim_ev b hb (by omega)) ?_)
  have hne : (lm (val b)).length ≠ 0 := fun h => by
    have := (lm_nil_iff (Int.le_of_lt h0)).mp (List.length_eq_zero_iff.mp h); omega
  have t1 : (((lm (val b)).length : Int) == 0) = false := by rw [beq_eq_false_iff_ne]; omega
  simp only [t1, condF]
  have cmp := Cmp1_ev (lm (val a)) (lm (val b)) (lm_limbs _) (lm_limbs _) (by omega) (by omega)
  rw [v1, v2] at cmp
  refine Ev.bind cmp ?_
  rw [cmpZ_lt0]
  by_cases hlt : val a < val b
  · simp only [decide_eq_true hlt, condT]
    have nm := Norm1_ev (lm (val a)) (lm_limbs _) (by omega)
    rw [v1] at nm
    refine Ev.bind nm ?_
    rw [Int.ediv_eq_zero_of_lt va hlt, Int.emod_eq_of_lt va hlt, lm_zero]
    exact Ev.pure _
  · simp only [decide_eq_false hlt, condF]
    by_cases h1 : (lm (val b)).length = 1
    · obtain ⟨p1, p2, p3⟩ := len1_val h1 (Int.le_of_lt h0)
      have t2 : (((lm (val b)).length : Int) == 1) = true := by rw [beq_iff_eq]; omega
      have t3 : inb 0 (lm (val b)).length = true := inb_t' (by omega) (by omega)
      have e0 : gd (0 : Int) (lm (val b)) 0 = val b := by
        have := gd_get' (0 : Int) (lm (val b)) 0 (by omega)
        rw [p3 (by omega)] at this
        exact this
      simp only [t2, condT, t3, e0]
      have sm := small_ev (lm (val a)) (lm_limbs _) (by omega) (val b) h0 p2
      rw [v1] at sm
      refine Ev.bind sm ?_
      have m1 := Int.emod_nonneg (val a) (show val b ≠ 0 by omega)
      have m2 := Int.emod_lt_of_pos (val a) h0
      simp only []
      rw [u64_in (by omega) (by omega)]
      exact Ev.bind (Of1_ev (val a % val b) m1 (by omega)) (Ev.pure _)
    · have t2 : (((lm (val b)).length : Int) == 1) = false := by rw [beq_eq_false_iff_ne]; omega
      have e1 : IntKind.i64.wrap (((lm (val b)).length : Int) + 1) = (((lm (val b)).length + 1 : Nat) : Int) := add1 (by omega)
      simp only [t2, condF, Int.toNat_natCast, e1, decide_eq_true (show (0 : Int) ≤ (((lm (val a)).length : Nat) : Int) by omega), decide_eq_true (Int.le_refl (((lm (val a)).length : Nat) : Int)), decide_eq_true (show (((lm (val a)).length : Nat) : Int) * 4 ≤ 140737488355328 by omega), Bool.and_self, condT,
        decide_eq_true (show (0 : Int) ≤ (((lm (val b)).length + 1 : Nat) : Int) by omega), decide_eq_true (show (((lm (val b)).length + 1 : Nat) : Int) * 4 ≤ 140737488355328 by omega)]
      obtain ⟨s, sz1, sz2, sz3⟩ := size_ev (lm (val a)) (lm_limbs _) (by omega)
      rw [v1] at sz2
      refine Ev.bind sz1 ?_
      rw [i64_in (by omega) (by omega)]
      have hq0 : val (List.replicate (lm (val a)).length (0 : Int)) = 0 := val_zeros _
      have d := div_l0 (lm (val a)) (lm_limbs _) (by omega) (val b) h0 (by omega) s (List.replicate (lm (val a)).length 0) 0 sz3 (Limbs.zeros _) (by simp) ⟨by omega, h0⟩ (by
        rw [v1, hq0, Int.zero_ediv, Int.mul_zero, Int.zero_add]
        exact Int.ediv_eq_zero_of_lt va sz2.1) (by rw [hq0]; exact Int.zero_emod _)
      rw [lm_zero, v1] at d
      exact d
/-- Greatest common divisors. -/
theorem gcd_l0 : ∀ (m : Nat) (u v : Int), v.toNat ≤ m → 0 ≤ u → 0 ≤ v → (lm u).length ≤ 99999999 → (lm v).length ≤ 99999999 → Ev (fun k => natural_Gcd.l0 k (lm u) (lm v)) (lm (Int.gcd u v)) := by
  intro m
  induction m with
  | zero =>
    intro u v hm hu hv h1 h2
    have : v = 0 := by omega
    subst this
    refine Ev.step ?_
    have t0 : ¬ (((lm 0).length : Int) > 0) := by rw [lm_zero]; simp
    simp only [natural_Gcd.l0, decide_eq_false t0, condF]
    refine Ev.eq (Ev.pure _) ?_
    rw [Int.gcd_zero_right, Int.natAbs_of_nonneg hu]
  | succ m ih =>
    intro u v hm hu hv h1 h2
    by_cases h0 : v = 0
    · subst h0
      refine Ev.step ?_
      have t0 : ¬ (((lm 0).length : Int) > 0) := by rw [lm_zero]; simp
      simp only [natural_Gcd.l0, decide_eq_false t0, condF]
      refine Ev.eq (Ev.pure _) ?_
      rw [Int.gcd_zero_right, Int.natAbs_of_nonneg hu]
    · have hv0 : 0 < v := by omega
      have t0 : (((lm v).length : Int) > 0) := by
        have : lm v ≠ [] := fun h => h0 ((lm_nil_iff hv).mp h)
        have := List.length_pos_iff.mpr this
        omega
      refine Ev.step ?_
      simp only [natural_Gcd.l0, decide_eq_true t0, condT]
      have d := DivMod1_ev (lm u) (lm v) (lm_limbs _) (lm_limbs _) h1 h2 (by rw [val_lm hv]; exact hv0)
      rw [val_lm hu, val_lm hv] at d
      refine Ev.bind d ?_
      have m1 := Int.emod_nonneg u h0
      have m2 := Int.emod_lt_of_pos u hv0
      refine Ev.eq (ih v (u % v) (by omega) hv m1 h2 (Nat.le_trans (lm_len_mono m1 (Int.le_of_lt m2)) h2)) ?_
      rw [Int.gcd_comm v, Int.emod_def, Int.gcd_sub_right_left_of_dvd _ (Int.dvd_mul_right v (u / v))]
theorem Gcd1_ev (a b : List Int) (ha : Limbs a) (hb : Limbs b) (hl : a.length ≤ 99999999) (hlb : b.length ≤ 99999999) : Ev (fun k => natural_Gcd.f k a b) (lm (Int.gcd (val a) (val b))) := by
  have l1 := lm_len_val ha
  have l2 := lm_len_val hb
  unfold natural_Gcd.f
  exact Ev.bind (Norm1_ev a ha (by omega)) (Ev.bind (Norm1_ev b hb (by omega)) (gcd_l0 _ _ _ (Nat.le_refl _) (val_nonneg ha) (val_nonneg hb) (by omega) (by omega)))
end Go.Gm

/- Naturals: the program's (7): sums and differences. -/
set_option linter.unusedVariables false
set_option linter.unusedSimpArgs false
namespace Go.Gm
open Go.Pi

theorem add_limb (c x y : Int) (hc : 0 ≤ c ∧ c ≤ 1) (hx : 0 ≤ x ∧ x < 4294967296) (hy : 0 ≤ y ∧ y < 4294967296) :
    ∃ v c' : Int, IntKind.u32.wrap (IntKind.u64.wrap (IntKind.u64.wrap (c + IntKind.u64.wrap x) + IntKind.u64.wrap y)) = v ∧ zshr .u64 (IntKind.u64.wrap (IntKind.u64.wrap (c + IntKind.u64.wrap x) + IntKind.u64.wrap y)) 32 = c' ∧
      (0 ≤ v ∧ v < 4294967296) ∧ (0 ≤ c' ∧ c' ≤ 1) ∧ v + 4294967296 * c' = c + x + y := by
  refine ⟨_, _, rfl, rfl, ?_⟩
  rw [zshr32, u64_in (x := x) (by omega) (by omega), u64_in (x := y) (by omega) (by omega)]
  simp only [wrap_u64, wrap_u32]
  omega
theorem add_limb0 (c x : Int) (hc : 0 ≤ c ∧ c ≤ 1) (hx : 0 ≤ x ∧ x < 4294967296) :
    ∃ v c' : Int, IntKind.u32.wrap (IntKind.u64.wrap (c + IntKind.u64.wrap x)) = v ∧ zshr .u64 (IntKind.u64.wrap (c + IntKind.u64.wrap x)) 32 = c' ∧
      (0 ≤ v ∧ v < 4294967296) ∧ (0 ≤ c' ∧ c' ≤ 1) ∧ v + 4294967296 * c' = c + x + 0 := by
  refine ⟨_, _, rfl, rfl, ?_⟩
  rw [zshr32, u64_in (x := x) (by omega) (by omega)]
  simp only [wrap_u64, wrap_u32]
  omega
theorem limbs_one {v : Int} (h : 0 ≤ v ∧ v < 4294967296) : Limbs [v] := Limbs.cons h Limbs.nil
theorem val_snoc (o : List Int) (v : Int) : val (o ++ [v]) = val o + 4294967296 ^ o.length * v := by
  rw [val_append]; simp only [val]; grind
theorem add_l0 (A B : Int) (hA : 0 ≤ A) (hB : 0 ≤ B) (hl : (lm A).length ≤ 99999999) (hlb : (lm B).length ≤ (lm A).length) :
    ∀ (n i : Nat) (c : Int) (o : List Int), n = (lm A).length - i → i ≤ (lm A).length → (0 ≤ c ∧ c ≤ 1) → Limbs o → o.length = i → val o + c * 4294967296 ^ i = val ((lm A).take i) + val ((lm B).take i) →
      Ev (fun k => natural_Add.l0 k (lm A) (lm B) c ((lm A).length : Int) (i : Int) o) (lm (A + B)) := by
  intro n
  induction n with
  | zero =>
    intro i c o hn hi hc ho hol hv
    have hi' : i = (lm A).length := by omega
    subst hi'
    have t0 : ¬ (((lm A).length : Int) < ((lm A).length : Int)) := by omega
    rw [List.take_length, List.take_of_length_le hlb, val_lm hA, val_lm hB] at hv
    refine Ev.step ?_
    obtain h | h : c = 0 ∨ c = 1 := by omega
    · subst h
      have f0 : ¬ ((0 : Int) > 0) := by decide
      simp only [natural_Add.l0, decide_eq_false t0, decide_eq_false f0, condF]
      refine Ev.eq (Ev.pure _) ?_
      exact lm_of_len ho (by omega) (by rw [hol]; exact lm_len_mono hA (by omega))
    · subst h
      have f0 : ((1 : Int) > 0) := by decide
      have e1 : IntKind.u32.wrap 1 = 1 := by decide
      have ff : fits 4 o.length [(1 : Int)].length = true := fits_t (by simp only [List.length_cons, List.length_nil]; omega)
      simp only [natural_Add.l0, decide_eq_false t0, decide_eq_true f0, condF, condT, e1, ff]
      refine Ev.eq (Ev.pure _) ?_
      have := val_nonneg ho
      refine lm_of_len (Limbs.append ho (limbs_one ⟨by decide, by decide⟩)) ?_ ?_
      · rw [val_snoc, hol]; omega
      · simp only [List.length_append, List.length_cons, List.length_nil]
        rw [hol]
        exact lm_len_lt (by omega) (by omega)
  | succ n ih =>
    intro i c o hn hi hc ho hol hv
    have hlt : i < (lm A).length := by omega
    have cc : (i : Int) < ((lm A).length : Int) := by omega
    have hx := (lm_limbs A).at i hlt
    have t1 : inb (i : Int) (lm A).length = true := inb_t' (by omega) (by omega)
    have nxt : ∀ v c' : Int, (0 ≤ v ∧ v < 4294967296) → (0 ≤ c' ∧ c' ≤ 1) → v + 4294967296 * c' = c + (lm A)[i] + lb (lm B) i →
        Ev (fun k => natural_Add.l0 k (lm A) (lm B) c' ((lm A).length : Int) ((i + 1 : Nat) : Int) (o ++ [v])) (lm (A + B)) := by
      intro v c' h1 h2 h3
      refine ih (i + 1) c' _ (by omega) (by omega) h2 (Limbs.append ho (limbs_one h1)) (by simp [hol]) ?_
      rw [val_snoc, val_take_succ hlt, val_take_lb, hol, Int.pow_succ]
      have e : v = c + (lm A)[i] + lb (lm B) i - 4294967296 * c' := by omega
      rw [e]
      grind
    by_cases h2 : i < (lm B).length
    · obtain ⟨v, c', w1, w2, p1, p2, p3⟩ := add_limb c (lm A)[i] (lm B)[i] hc hx ((lm_limbs B).at i h2)
      have e := nxt v c' p1 p2 (by rw [lb_lt h2]; exact p3)
      have t2 : inb (i : Int) (lm B).length = true := inb_t' (by omega) (by omega)
      have t3 : decide ((i : Int) < ((lm B).length : Int)) = true := decide_eq_true (by omega)
      have ff : fits 4 o.length [v].length = true := fits_t (by simp only [List.length_cons, List.length_nil]; omega)
      refine Ev.step ?_
      simp only [natural_Add.l0, decide_eq_true cc, condT, t1, t2, t3, gd_get' (0 : Int) (lm A) i hlt, gd_get' (0 : Int) (lm B) i h2, w1, w2, ff, add1 (i := i) (by omega)]
      exact e
    · obtain ⟨v, c', w1, w2, p1, p2, p3⟩ := add_limb0 c (lm A)[i] hc hx
      have e := nxt v c' p1 p2 (by rw [lb_ge (by omega)]; exact p3)
      have t3 : decide ((i : Int) < ((lm B).length : Int)) = false := decide_eq_false (by omega)
      have ff : fits 4 o.length [v].length = true := fits_t (by simp only [List.length_cons, List.length_nil]; omega)
      refine Ev.step ?_
      simp only [natural_Add.l0, decide_eq_true cc, condT, condF, t1, t3, gd_get' (0 : Int) (lm A) i hlt, w1, w2, ff, add1 (i := i) (by omega)]
      exact e
theorem Add1_ev (a b : List Int) (ha : Limbs a) (hb : Limbs b) (hl : a.length ≤ 99999999) (hlb : b.length ≤ 99999999) : Ev (fun k => natural_Add.f k a b) (lm (val a + val b)) := by
  have l1 := lm_len_val ha
  have l2 := lm_len_val hb
  have va := val_nonneg ha
  have vb := val_nonneg hb
  have e1 : IntKind.i64.wrap (((lm (val a)).length : Int) + 1) = (((lm (val a)).length + 1 : Nat) : Int) := add1 (by omega)
  have e2 : IntKind.i64.wrap (((lm (val b)).length : Int) + 1) = (((lm (val b)).length + 1 : Nat) : Int) := add1 (by omega)
  unfold natural_Add.f
  refine Ev.bind (trim_ev a ha (by omega)) (Ev.bind (trim_ev b hb (by omega)) ?_)
  by_cases h : (lm (val a)).length < (lm (val b)).length
  · simp only [decide_eq_true (show ((lm (val a)).length : Int) < ((lm (val b)).length : Int) by omega), condT, e2, decide_eq_true (show (0 : Int) ≤ (((lm (val b)).length + 1 : Nat) : Int) by omega), decide_eq_true (show (((lm (val b)).length + 1 : Nat) : Int) * 4 ≤ 140737488355328 by omega), Bool.and_self]
    rw [Int.add_comm]
    exact add_l0 _ _ vb va (by omega) (by omega) (lm (val b)).length 0 0 [] (by omega) (by omega) (by decide) Limbs.nil rfl (by simp [val])
  · simp only [decide_eq_false (show ¬ ((lm (val a)).length : Int) < ((lm (val b)).length : Int) by omega), condF, condT, e1, decide_eq_true (show (0 : Int) ≤ (((lm (val a)).length + 1 : Nat) : Int) by omega), decide_eq_true (show (((lm (val a)).length + 1 : Nat) : Int) * 4 ≤ 140737488355328 by omega), Bool.and_self]
    exact add_l0 _ _ va vb (by omega) (by omega) (lm (val a)).length 0 0 [] (by omega) (by omega) (by decide) Limbs.nil rfl (by simp [val])
theorem Sub1_ev (a b : List Int) (ha : Limbs a) (hb : Limbs b) (hl : a.length ≤ 99999999) (hlb : b.length ≤ 99999999) (hv : val b ≤ val a) : Ev (fun k => natural_Sub.f k a b) (lm (val a - val b), true) := by
  have l1 := lm_len_val ha
  have l2 := lm_len_val hb
  have va := val_nonneg ha
  have vb := val_nonneg hb
  unfold natural_Sub.f
  refine Ev.bind (Cmp1_ev a b ha hb (by omega) (by omega)) ?_
  rw [cmpZ_lt0, decide_eq_false (by omega)]
  simp only [condF]
  have ls := less_ev (lm (val a)) (lm (val b)) (lm_limbs _) (lm_limbs _) (by omega) (lm_len_mono vb hv) (by rw [val_lm va, val_lm vb]; exact hv)
  rw [val_lm va, val_lm vb] at ls
  exact Ev.bind (Norm1_ev a ha (by omega)) (Ev.bind (trim_ev b hb (by omega)) (Ev.bind ls (Ev.pure _)))
end Go.Gm

/- Integers: the program's. -/
set_option linter.unusedVariables false
set_option linter.unusedSimpArgs false
namespace Go.Gm
open Go.Pi

def sg (n : Bool) (v : Int) : Int := bif n then 0 - v else v
def zv (x : Bool × List Int) : Int := sg x.1 (val x.2)
def ab (z : Int) : Int := if z < 0 then 0 - z else z
def nfZ (z : Int) : Bool × List Int := (decide (z < 0), lm (ab z))
/-- Limbs, and at most n. -/
def WZ (n : Nat) (x : Bool × List Int) : Prop := Limbs x.2 ∧ x.2.length ≤ n
theorem ab_nn (z : Int) : 0 ≤ ab z := by unfold ab; split <;> omega
theorem ab_natAbs (z : Int) : ab z = (z.natAbs : Int) := by unfold ab; split <;> omega
theorem sg_t (v : Int) : sg true v = 0 - v := Eq.trans rfl rfl
theorem sg_f (v : Int) : sg false v = v := Eq.trans rfl rfl
theorem ab_sg (n : Bool) {v : Int} (h : 0 ≤ v) : ab (sg n v) = v := by
  cases n
  · rw [sg_f]; unfold ab; rw [if_neg (by omega)]
  · rw [sg_t]; unfold ab; split <;> omega
theorem zv_nfZ (z : Int) : zv (nfZ z) = z := by
  unfold zv nfZ
  simp only [val_lm (ab_nn z)]
  unfold ab
  by_cases h : z < 0
  · rw [decide_eq_true h, sg_t, if_pos h]; omega
  · rw [decide_eq_false h, sg_f, if_neg h]
theorem WZ.mono {m n : Nat} {x : Bool × List Int} (h : WZ m x) (hl : m ≤ n) : WZ n x := ⟨h.1, Nat.le_trans h.2 hl⟩
theorem zv_lt {n : Nat} {x : Bool × List Int} (h : WZ n x) : ab (zv x) < 4294967296 ^ n := by
  unfold zv
  rw [ab_sg _ (val_nonneg h.1)]
  exact Int.lt_of_lt_of_le (val_lt h.1) (pow_le32 h.2)
theorem WZ_nf {n : Nat} {z : Int} (h : ab z < 4294967296 ^ n) : WZ n (nfZ z) := ⟨lm_limbs _, lm_len_le (ab_nn z) h⟩
theorem lm_len_pos {v : Int} (h : 0 ≤ v) : decide (((lm v).length : Int) > 0) = decide (0 < v) := by
  by_cases h0 : v = 0
  · subst h0; rw [lm_zero]; rfl
  · have h1 : lm v ≠ [] := fun e => h0 ((lm_nil_iff h).mp e)
    have h2 := List.length_pos_iff.mpr h1
    rw [decide_eq_true (by omega), decide_eq_true (by omega)]
theorem lm_len_zero {v : Int} (h : 0 ≤ v) : (((lm v).length : Int) == 0) = decide (v = 0) := by
  by_cases h0 : v = 0
  · subst h0; rw [lm_zero]; rfl
  · have h1 : lm v ≠ [] := fun e => h0 ((lm_nil_iff h).mp e)
    have h2 := List.length_pos_iff.mpr h1
    rw [decide_eq_false h0, beq_eq_false_iff_ne]; omega
/-- What signs come to. -/
theorem nfZ_sg (n : Bool) {v : Int} (h : 0 ≤ v) : nfZ (sg n v) = (bif n then decide (((lm v).length : Int) > 0) else false, lm v) := by
  unfold nfZ
  rw [ab_sg n h]
  cases n
  · rw [sg_f, decide_eq_false (by omega), condF]
  · rw [sg_t, condT, lm_len_pos h]
    congr 1
    by_cases h0 : 0 < v
    · rw [decide_eq_true h0, decide_eq_true (by omega)]
    · rw [decide_eq_false h0, decide_eq_false (by omega)]
theorem sign_cond (n : Bool) {v : Int} (h : 0 ≤ v) : (bif n then (some ((decide ((((List.length (lm v)) : Nat) : Int) > (0 : Int))), lm v)) else (some (false, lm v))) = some (nfZ (sg n v)) := by
  rw [nfZ_sg n h]
  cases n
  · rw [condF, condF]
  · rw [condT, condT]
theorem signed1_ev (n : Bool) (l : List Int) (h : Limbs l) (hl : l.length ≤ 100000000) : Ev (fun k => integer_signed.f k n l) (nfZ (sg n (val l))) := by
  unfold integer_signed.f
  refine Ev.bind (Norm1_ev l h hl) ?_
  rw [sign_cond n (val_nonneg h)]
  exact Ev.pure _
theorem Norm1Z_ev (x : Bool × List Int) (h : WZ 90000000 x) : Ev (fun k => integer_Norm.f k x) (nfZ (zv x)) := by
  unfold integer_Norm.f
  exact Ev.bind (signed1_ev x.1 x.2 h.1 (by have := h.2; omega)) (Ev.pure _)
theorem zv_not (x : Bool × List Int) : sg (notB x.1) (val x.2) = - zv x := by
  unfold zv
  cases x.1
  · show sg true _ = _; rw [sg_t, sg_f]; omega
  · show sg false _ = _; rw [sg_t, sg_f]; omega
theorem Neg1Z_ev (x : Bool × List Int) (h : WZ 90000000 x) : Ev (fun k => integer_Neg.f k x) (nfZ (- zv x)) := by
  unfold integer_Neg.f
  rw [← zv_not]
  exact Ev.bind (signed1_ev (notB x.1) x.2 h.1 (by have := h.2; omega)) (Ev.pure _)
theorem zv_mul (x y : Bool × List Int) : sg (notB (eqB x.1 y.1)) (val x.2 * val y.2) = zv x * zv y := by
  unfold zv
  cases x.1 <;> cases y.1
  · show sg false _ = _; simp only [sg_f]
  · show sg true _ = _; simp only [sg_f, sg_t]; grind
  · show sg true _ = _; simp only [sg_f, sg_t]; grind
  · show sg false _ = _; simp only [sg_f, sg_t]; grind
theorem Mul1Z_ev (x y : Bool × List Int) (h : WZ 40000000 x) (h' : WZ 40000000 y) : Ev (fun k => integer_Mul.f k x y) (nfZ (zv x * zv y)) := by
  have l1 := h.2
  have l2 := h'.2
  unfold integer_Mul.f
  refine Ev.bind (Mul1_ev x.2 y.2 h.1 h'.1 (by omega)) ?_
  have hp : 0 ≤ val x.2 * val y.2 := Int.mul_nonneg (val_nonneg h.1) (val_nonneg h'.1)
  have hb : (lm (val x.2 * val y.2)).length ≤ x.2.length + y.2.length := by
    refine lm_len_le hp ?_
    rw [Int.pow_add]
    have h1 := val_lt h.1
    have h2 := val_lt h'.1
    have h3 := val_nonneg h.1
    have h4 := val_nonneg h'.1
    have a1 : val x.2 * val y.2 ≤ val x.2 * 4294967296 ^ y.2.length := Int.mul_le_mul_of_nonneg_left (by omega) h3
    have a2 : val x.2 * 4294967296 ^ y.2.length < 4294967296 ^ x.2.length * 4294967296 ^ y.2.length := Int.mul_lt_mul_of_pos_right h1 (pow_pos32 _)
    omega
  have s := signed1_ev (notB (eqB x.1 y.1)) (lm (val x.2 * val y.2)) (lm_limbs _) (by omega)
  rw [val_lm hp, zv_mul] at s
  exact Ev.bind s (Ev.pure _)
theorem eqB_iff (a b : Bool) : eqB a b = true ↔ a = b := by cases a <;> cases b <;> decide
theorem lm_add_len {a b : List Int} (ha : Limbs a) (hb : Limbs b) {n : Nat} (h1 : a.length ≤ n) (h2 : b.length ≤ n) : (lm (val a + val b)).length ≤ n + 1 := by
  refine lm_len_le (by have := val_nonneg ha; have := val_nonneg hb; omega) ?_
  have h3 := Int.lt_of_lt_of_le (val_lt ha) (pow_le32 h1)
  have h4 := Int.lt_of_lt_of_le (val_lt hb) (pow_le32 h2)
  have h5 := val_nonneg ha
  rw [Int.pow_succ]; omega
theorem Add1Z_ev (x y : Bool × List Int) (h : WZ 90000000 x) (h' : WZ 90000000 y) : Ev (fun k => integer_Add.f k x y) (nfZ (zv x + zv y)) := by
  have l1 := h.2
  have l2 := h'.2
  have v1 := val_nonneg h.1
  have v2 := val_nonneg h'.1
  unfold integer_Add.f
  by_cases he : x.1 = y.1
  · rw [(eqB_iff _ _).mpr he]
    simp only [condT]
    refine Ev.bind (Add1_ev x.2 y.2 h.1 h'.1 (by omega) (by omega)) ?_
    have s := signed1_ev x.1 (lm (val x.2 + val y.2)) (lm_limbs _) (Nat.le_trans (lm_add_len h.1 h'.1 l1 l2) (by omega))
    rw [val_lm (by omega)] at s
    refine Ev.bind s (Ev.eq (Ev.pure _) ?_)
    congr 1
    unfold zv
    rw [← he]
    cases x.1
    · simp only [sg_f]
    · simp only [sg_t]; omega
  · have hf : eqB x.1 y.1 = false := by
      cases hq : eqB x.1 y.1
      · rfl
      · exact absurd ((eqB_iff _ _).mp hq) he
    rw [hf]
    simp only [condF]
    refine Ev.bind (Cmp1_ev x.2 y.2 h.1 h'.1 (by omega) (by omega)) ?_
    rw [cmpZ_lt0]
    by_cases hlt : val x.2 < val y.2
    · simp only [decide_eq_true hlt, condT]
      refine Ev.bind (Sub1_ev y.2 x.2 h'.1 h.1 (by omega) (by omega) (by omega)) ?_
      have s := signed1_ev y.1 (lm (val y.2 - val x.2)) (lm_limbs _) (Nat.le_trans (lm_len_mono (v := val y.2) (by omega) (by omega)) (Nat.le_trans (lm_len_val h'.1) (by omega)))
      rw [val_lm (by omega)] at s
      refine Ev.bind s (Ev.eq (Ev.pure _) ?_)
      congr 1
      unfold zv
      cases hx : x.1 <;> cases hy : y.1
      · rw [hx, hy] at he; exact absurd rfl he
      · simp only [sg_f, sg_t]; omega
      · simp only [sg_f, sg_t]; omega
      · rw [hx, hy] at he; exact absurd rfl he
    · simp only [decide_eq_false hlt, condF]
      refine Ev.bind (Sub1_ev x.2 y.2 h.1 h'.1 (by omega) (by omega) (by omega)) ?_
      have s := signed1_ev x.1 (lm (val x.2 - val y.2)) (lm_limbs _) (Nat.le_trans (lm_len_mono (v := val x.2) (by omega) (by omega)) (Nat.le_trans (lm_len_val h.1) (by omega)))
      rw [val_lm (by omega)] at s
      refine Ev.bind s (Ev.eq (Ev.pure _) ?_)
      congr 1
      unfold zv
      cases hx : x.1 <;> cases hy : y.1
      · rw [hx, hy] at he; exact absurd rfl he
      · simp only [sg_f, sg_t]; omega
      · simp only [sg_f, sg_t]; omega
      · rw [hx, hy] at he; exact absurd rfl he
/-! comparison -/
def sgnZ (z : Int) : Int := if z < 0 then -1 else if z = 0 then 0 else 1
theorem sign1_ev (x : Bool × List Int) (h : WZ 90000000 x) : Ev (fun k => integer_sign.f k x) (sgnZ (zv x)) := by
  have l1 := h.2
  have v1 := val_nonneg h.1
  unfold integer_sign.f
  refine Ev.bind (Norm1_ev x.2 h.1 (by omega)) ?_
  rw [lm_len_zero v1]
  unfold zv sgnZ
  by_cases h0 : val x.2 = 0
  · rw [decide_eq_true h0, condT, h0]
    refine Ev.eq (Ev.pure _) ?_
    cases x.1 <;> decide
  · rw [decide_eq_false h0, condF]
    cases x.1
    · rw [condF, sg_f, if_neg (by omega), if_neg h0]; exact Ev.pure _
    · rw [condT, sg_t, if_pos (by omega)]; exact Ev.pure _
theorem cmp_sign (m n : Bool) (u v : Int) (hu : 0 ≤ u) (hv : 0 ≤ v) (h : sgnZ (sg m u) = sgnZ (sg n v)) : sgnZ (sg m u) * cmpZ u v = cmpZ (sg m u) (sg n v) := by
  unfold sgnZ at h ⊢
  unfold cmpZ
  cases m <;> cases n <;> simp only [sg_t, sg_f] at h ⊢
  all_goals (repeat' split at h) <;> (repeat' split) <;> omega
theorem cmp_sign2 (a b : Int) (h : sgnZ a ≠ sgnZ b) : cmpZ a b = if sgnZ a < sgnZ b then -1 else 1 := by
  unfold sgnZ at h ⊢
  unfold cmpZ
  (repeat' split at h) <;> (repeat' split) <;> omega
theorem cmpZ_bd (u v : Int) : -1 ≤ cmpZ u v ∧ cmpZ u v ≤ 1 := by
  unfold cmpZ; (repeat' split) <;> omega
theorem Cmp1Z_ev (x y : Bool × List Int) (h : WZ 90000000 x) (h' : WZ 90000000 y) : Ev (fun k => integer_Cmp.f k x y) (cmpZ (zv x) (zv y)) := by
  have l1 := h.2
  have l2 := h'.2
  have v1 := val_nonneg h.1
  have v2 := val_nonneg h'.1
  unfold integer_Cmp.f
  refine Ev.bind (sign1_ev x h) (Ev.bind (sign1_ev y h') ?_)
  by_cases he : sgnZ (zv x) = sgnZ (zv y)
  · rw [show (sgnZ (zv x) != sgnZ (zv y)) = false by rw [he]; simp]
    simp only [condF]
    refine Ev.bind (Cmp1_ev x.2 y.2 h.1 h'.1 (by omega) (by omega)) (Ev.eq (Ev.pure _) ?_)
    have e := cmp_sign x.1 y.1 (val x.2) (val y.2) v1 v2 he
    show IntKind.i64.wrap (sgnZ (sg x.1 (val x.2)) * cmpZ (val x.2) (val y.2)) = _
    rw [e]
    have := cmpZ_bd (sg x.1 (val x.2)) (sg y.1 (val y.2))
    exact i64_in (by omega) (by omega)
  · rw [show (sgnZ (zv x) != sgnZ (zv y)) = true by rw [bne_iff_ne]; exact he]
    simp only [condT]
    rw [cmp_sign2 _ _ he]
    by_cases hlt : sgnZ (zv x) < sgnZ (zv y)
    · rw [decide_eq_true hlt, condT, if_pos hlt]; exact Ev.pure _
    · rw [decide_eq_false hlt, condF, if_neg hlt]; exact Ev.pure _
/-! from the machine's integers -/
theorem xor_ones (a : Int) (h0 : 0 ≤ a) (h1 : a < 18446744073709551616) : zbits .xor .u64 18446744073709551615 a = 18446744073709551615 - a := by
  obtain ⟨m, rfl⟩ := Int.eq_ofNat_of_zero_le h0
  have hm : (BitVec.ofInt 64 (m : Int)).toNat = m := by
    have := ofInt_nat 64 (m : Int)
    have h64 : (m : Int) % 2 ^ 64 = (m : Int) := by omega
    rw [h64] at this
    exact_mod_cast this
  have e : BitVec.ofInt 64 18446744073709551615 = BitVec.allOnes 64 := by decide
  rw [zbits_nat .xor .u64 _ _ (18446744073709551615 - m) (by
    show (BitVec.ofInt 64 18446744073709551615 ^^^ BitVec.ofInt 64 (m : Int)).toNat = _
    rw [e, BitVec.allOnes_xor, BitVec.toNat_not, hm])]
  rw [u64_in (by omega) (by omega)]
  omega
theorem Of1Z_ev (n : Int) (h0 : -9223372036854775808 ≤ n) (h1 : n ≤ 9223372036854775807) : Ev (fun k => integer_Of.f k n) (nfZ n) := by
  unfold integer_Of.f
  by_cases h : n < 0
  · simp only [decide_eq_true h, condT]
    have e : IntKind.u64.wrap (zbits .xor .u64 18446744073709551615 (IntKind.u64.wrap n) + 1) = 0 - n := by
      have hw : IntKind.u64.wrap n = 18446744073709551616 + n := by rw [wrap_u64]; omega
      rw [hw, xor_ones _ (by omega) (by omega), wrap_u64]; omega
    rw [e]
    refine Ev.bind (Of1_ev (0 - n) (by omega) (by omega)) ?_
    have s := signed1_ev true (lm (0 - n)) (lm_limbs _) (Nat.le_trans (lm_len_le (n := 2) (by omega) (by rw [show (4294967296 : Int) ^ 2 = 18446744073709551616 by decide]; omega)) (by decide))
    rw [val_lm (by omega), sg_t, show 0 - (0 - n) = n by omega] at s
    exact Ev.bind s (Ev.pure _)
  · simp only [decide_eq_false h, condF]
    rw [u64_in (by omega) (by omega)]
    refine Ev.bind (Of1_ev n (by omega) (by omega)) ?_
    have s := signed1_ev false (lm n) (lm_limbs _) (Nat.le_trans (lm_len_le (n := 2) (by omega) (by rw [show (4294967296 : Int) ^ 2 = 18446744073709551616 by decide]; omega)) (by decide))
    rw [val_lm (by omega), sg_f] at s
    exact Ev.bind s (Ev.pure _)
end Go.Gm

/- Naturals: the reference's (1): normal form, comparison, differences, sums. -/
set_option linter.unusedVariables false
set_option linter.unusedSimpArgs false
namespace Go.Gm
open Go.Pi

theorem zmax_nat (m n : Nat) : List.foldl zmax ((m : Nat) : Int) [((n : Nat) : Int)] = ((max m n : Nat) : Int) := by
  simp only [List.foldl_cons, List.foldl_nil, zmax]
  split <;> omega
theorem rlimb_eq (a : List Int) (ha : Limbs a) (i : Nat) : ref01_limb.f a (i : Int) = some (lb a i) := by
  unfold ref01_limb.f
  have t0 : ¬ ((i : Int) < 0) := by omega
  by_cases h : i < a.length
  · have t1 : ¬ ((i : Int) ≥ (a.length : Int)) := by omega
    have hb := ha.at i h
    simp only [decide_eq_false t0, decide_eq_false t1, condF, inb_t' (i := (i : Int)) (n := a.length) (by omega) (by omega), condT, gd_get' (0 : Int) a i h, lb_lt h]
    rw [u64_in (by omega) (by omega)]
  · have t1 : ((i : Int) ≥ (a.length : Int)) := by omega
    simp only [decide_eq_false t0, decide_eq_true t1, condF, condT, lb_ge (show a.length ≤ i by omega)]
theorem rNorm_l0 (a : List Int) (ha : Limbs a) (hl : a.length ≤ 100000000) : ∀ (i : Nat), i ≤ a.length → Ev (fun k => ref01_Norm.l0 k a (i : Int)) (lm (val (a.take i))) := by
  intro i
  induction i with
  | zero =>
    intro hi
    have t0 : ¬ (((0 : Nat) : Int) > 0) := by omega
    refine Ev.step ?_
    have ff : fits 4 0 (List.length (List.take 0 a)) = true := fits_t (by simp)
    simp only [ref01_Norm.l0, decide_eq_false t0, condF, cutG_hi' (n := a.length) (j := ((0 : Nat) : Int)) (by omega) (by omega), cutL_hi, ff, condT]
    refine Ev.eq (Ev.pure _) ?_
    simp [val, lm_zero]
  | succ i ih =>
    intro hi
    have t0 : (((i + 1 : Nat) : Int) > 0) := by omega
    have hx := ha.at i (by omega)
    refine Ev.step ?_
    simp only [ref01_Norm.l0, decide_eq_true t0, condT, sub1 (i := i) (by omega), inb_t' (i := (i : Int)) (n := a.length) (by omega) (by omega), gd_get' (0 : Int) a i (by omega)]
    by_cases h0 : a[i] = 0
    · rw [show (a[i] == 0) = true by rw [beq_iff_eq]; exact h0]
      simp only [condT]
      refine Ev.eq (ih (by omega)) ?_
      rw [val_take_succ (by omega), h0, Int.mul_zero, Int.add_zero]
    · rw [show (a[i] == 0) = false by rw [beq_eq_false_iff_ne]; exact h0]
      have ff : fits 4 0 (List.length (List.take (i + 1) a)) = true := fits_t (by simp only [List.length_take]; omega)
      simp only [condF, cutG_hi' (n := a.length) (j := ((i + 1 : Nat) : Int)) (by omega) (by omega), cutL_hi, ff, condT]
      refine Ev.eq (Ev.pure _) ?_
      refine lm_of_len (ha.take _) rfl ?_
      rw [List.length_take_of_le (by omega)]
      have h1 := val_nonneg (ha.take i)
      have h2 : (4294967296 : Int) ^ i * 1 ≤ 4294967296 ^ i * a[i] := Int.mul_le_mul_of_nonneg_left (by omega) (Int.le_of_lt (pow_pos32 i))
      refine lm_len_lt (val_nonneg (ha.take _)) ?_
      rw [val_take_succ (by omega)]
      omega
theorem Norm2_ev (a : List Int) (ha : Limbs a) (hl : a.length ≤ 100000000) : Ev (fun k => ref01_Norm.f k a) (lm (val a)) := by
  have := rNorm_l0 a ha hl a.length (Nat.le_refl _)
  rw [List.take_length] at this
  exact this
theorem rOf_l0 : ∀ (j : Nat) (n : Int) (o : List Int), 0 ≤ n → n < 18446744073709551616 → n < 4294967296 ^ j → o.length + j ≤ 1000 → Ev (fun k => ref01_Of.l0 k n o) (o ++ lm n) := by
  intro j
  induction j with
  | zero =>
    intro n o h0 h1 hm hol
    have hn : n = 0 := by omega
    subst hn
    refine Ev.step ?_
    have f0 : ¬ ((0 : Int) > 0) := by decide
    simp only [ref01_Of.l0, decide_eq_false f0, condF, lm_zero, List.append_nil]
    exact Ev.pure _
  | succ j ih =>
    intro n o h0 h1 hm hol
    by_cases hn : n = 0
    · subst hn
      refine Ev.step ?_
      have f0 : ¬ ((0 : Int) > 0) := by decide
      simp only [ref01_Of.l0, decide_eq_false f0, condF, lm_zero, List.append_nil]
      exact Ev.pure _
    · have f0 : n > 0 := by omega
      have e1 : IntKind.u32.wrap (Int.tmod n 4294967296) = n % 4294967296 := by rw [tmod_nn h0, wrap_u32]; omega
      have e2 : IntKind.u64.wrap (Int.tdiv n 4294967296) = n / 4294967296 := by rw [tdiv_nn h0, u64_in (by omega) (by omega)]
      have ff : fits 4 o.length [n % 4294967296].length = true := fits_t (by simp only [List.length_cons, List.length_nil]; omega)
      refine Ev.step ?_
      simp only [ref01_Of.l0, decide_eq_true f0, condT, e1, e2, ff]
      have hlm : lm n = n % 4294967296 :: lm (n / 4294967296) := by
        have := lm_step (x := n % 4294967296) (v := n / 4294967296) (by omega) (by omega) (by omega)
        rw [show n % 4294967296 + 4294967296 * (n / 4294967296) = n by omega] at this
        exact this
      refine Ev.eq (ih (n / 4294967296) (o ++ [n % 4294967296]) (by omega) (by omega) ?_ ?_) ?_
      · rw [Int.ediv_lt_iff_lt_mul (by decide), ← Int.pow_succ]; exact hm
      · simp only [List.length_append, List.length_cons, List.length_nil]; omega
      · rw [hlm, List.append_assoc]; rfl
theorem Of2_ev (n : Int) (h0 : 0 ≤ n) (h1 : n < 18446744073709551616) : Ev (fun k => ref01_Of.f k n) (lm n) :=
  rOf_l0 2 n [] h0 h1 (by rw [show (4294967296 : Int) ^ 2 = 18446744073709551616 by decide]; exact h1) (by simp)

/-! comparison -/
theorem val_lt_lb {a b : List Int} (ha : Limbs a) (hb : Limbs b) {i : Nat} (h : lb a i < lb b i) : val (a.take (i + 1)) < val (b.take (i + 1)) := by
  rw [val_take_lb, val_take_lb]
  have h1 := val_lt (ha.take i)
  have h2 := val_nonneg (hb.take i)
  have h3 : (4294967296 : Int) ^ (a.take i).length ≤ 4294967296 ^ i := pow_le32 (by rw [List.length_take]; omega)
  have h4 : (4294967296 : Int) ^ i * (lb a i + 1) ≤ 4294967296 ^ i * lb b i := Int.mul_le_mul_of_nonneg_left (by omega) (Int.le_of_lt (pow_pos32 i))
  rw [Int.mul_add, Int.mul_one] at h4
  omega
theorem cmpZ_add (u v c : Int) : cmpZ (u + c) (v + c) = cmpZ u v := by
  unfold cmpZ
  by_cases h : u < v
  · rw [if_pos h, if_pos (by omega)]
  · rw [if_neg h, if_neg (by omega)]
    by_cases h2 : u = v
    · rw [if_pos h2, if_pos (by omega)]
    · rw [if_neg h2, if_neg (by omega)]
theorem rCmp_l0 (a b : List Int) (ha : Limbs a) (hb : Limbs b) : ∀ (i : Nat), i ≤ 200000000 → Ev (fun k => ref01_Cmp.l0 k a b ((i : Int) - 1)) (cmpZ (val (a.take i)) (val (b.take i))) := by
  intro i
  induction i with
  | zero =>
    intro hi
    have t0 : ¬ (((0 : Nat) : Int) - 1 ≥ 0) := by omega
    refine Ev.step ?_
    simp only [ref01_Cmp.l0, decide_eq_false t0, condF]
    exact Ev.pure _
  | succ i ih =>
    intro hi
    have ei : ((i + 1 : Nat) : Int) - 1 = (i : Int) := by omega
    have t0 : (i : Int) ≥ 0 := by omega
    have e4 : IntKind.i64.wrap ((i : Int) - 1) = (i : Int) - 1 := i64_in (by omega) (by omega)
    refine Ev.step ?_
    rw [ei]
    simp only [ref01_Cmp.l0, decide_eq_true t0, condT, rlimb_eq a ha i, rlimb_eq b hb i, bindO_s, e4]
    by_cases h1 : lb a i < lb b i
    · have := val_lt_lb ha hb h1
      simp only [decide_eq_true h1, condT]
      refine Ev.eq (Ev.pure _) ?_
      unfold cmpZ; rw [if_pos this]
    · by_cases h2 : lb a i > lb b i
      · have := val_lt_lb hb ha h2
        simp only [decide_eq_false h1, decide_eq_true h2, condF, condT]
        refine Ev.eq (Ev.pure _) ?_
        unfold cmpZ; rw [if_neg (by omega), if_neg (by omega)]
      · have he : lb a i = lb b i := by omega
        simp only [decide_eq_false h1, decide_eq_false h2, condF]
        refine Ev.eq (ih (by omega)) ?_
        rw [val_take_lb, val_take_lb, he, cmpZ_add]
theorem Cmp2_ev (a b : List Int) (ha : Limbs a) (hb : Limbs b) (hl : a.length ≤ 100000000) (hlb : b.length ≤ 100000000) : Ev (fun k => ref01_Cmp.f k a b) (cmpZ (val a) (val b)) := by
  unfold ref01_Cmp.f
  rw [zmax_nat, i64_in (by omega) (by omega)]
  have := rCmp_l0 a b ha hb (max a.length b.length) (by omega)
  rw [List.take_of_length_le (l := a) (by omega), List.take_of_length_le (l := b) (by omega)] at this
  exact this

/-! differences -/
theorem rsub_limb (bo x y : Int) (hb : 0 ≤ bo ∧ bo ≤ 1) (hx : 0 ≤ x ∧ x < 4294967296) (hy : 0 ≤ y ∧ y < 4294967296) :
    ∃ v bo' : Int, IntKind.u32.wrap (Int.tmod (IntKind.u64.wrap (IntKind.u64.wrap (IntKind.u64.wrap (4294967296 + x) - y) - bo)) 4294967296) = v ∧ IntKind.u64.wrap (1 - IntKind.u64.wrap (Int.tdiv (IntKind.u64.wrap (IntKind.u64.wrap (IntKind.u64.wrap (4294967296 + x) - y) - bo)) 4294967296)) = bo' ∧
      (0 ≤ v ∧ v < 4294967296) ∧ (0 ≤ bo' ∧ bo' ≤ 1) ∧ v + y = x - bo + 4294967296 * bo' := by
  refine ⟨_, _, rfl, rfl, ?_⟩
  rw [u64_in (x := 4294967296 + x) (by omega) (by omega), u64_in (x := 4294967296 + x - y) (by omega) (by omega), u64_in (x := 4294967296 + x - y - bo) (by omega) (by omega), tmod_nn (by omega), tdiv_nn (by omega), u64_in (x := (4294967296 + x - y - bo) / 4294967296) (by omega) (by omega), wrap_u32, wrap_u64]
  omega
theorem rSub_l0 (a b : List Int) (ha : Limbs a) (hb : Limbs b) (hl : a.length ≤ 99999999) (hlb : b.length ≤ 99999999) (hv0 : val b ≤ val a) :
    ∀ (n i : Nat) (bo : Int) (o : List Int), n = max a.length b.length - i → i ≤ max a.length b.length → (0 ≤ bo ∧ bo ≤ 1) → Limbs o → o.length = i → val o + val (b.take i) = val (a.take i) + bo * 4294967296 ^ i →
      Ev (fun k => ref01_Sub.l0 k a b bo (i : Int) o) (lm (val a - val b), true) := by
  intro n
  induction n with
  | zero =>
    intro i bo o hn hi hbo ho hol hv
    have hi' : i = max a.length b.length := by omega
    subst hi'
    have t0 : ¬ (((max a.length b.length : Nat) : Int) < ((max a.length b.length : Nat) : Int)) := by omega
    refine Ev.step ?_
    simp only [ref01_Sub.l0, zmax_nat, decide_eq_false t0, condF]
    refine Ev.bind (Norm2_ev o ho (by omega)) (Ev.eq (Ev.pure _) ?_)
    rw [List.take_of_length_le (l := a) (by omega), List.take_of_length_le (l := b) (by omega)] at hv
    have g1 := val_lt ho
    have g2 := val_nonneg ho
    rw [hol] at g1
    have hbo : bo = 0 := by
      obtain h | h : bo = 0 ∨ bo = 1 := by omega
      · exact h
      · subst h; rw [Int.one_mul] at hv; omega
    subst hbo
    rw [show val o = val a - val b by omega]
  | succ n ih =>
    intro i bo o hn hi hbo ho hol hv
    have cc : (i : Int) < ((max a.length b.length : Nat) : Int) := by omega
    obtain ⟨v, bo', w1, w2, p1, p2, p3⟩ := rsub_limb bo (lb a i) (lb b i) hbo (lb_bd ha i) (lb_bd hb i)
    have ff : fits 4 o.length [v].length = true := fits_t (by simp only [List.length_cons, List.length_nil]; omega)
    refine Ev.step ?_
    simp only [ref01_Sub.l0, zmax_nat, decide_eq_true cc, condT, rlimb_eq a ha i, rlimb_eq b hb i, bindO_s, w1, w2, ff, add1 (i := i) (by omega)]
    refine ih (i + 1) bo' (o ++ [v]) (by omega) (by omega) p2 (Limbs.append ho (limbs_one p1)) (by simp [hol]) ?_
    rw [val_snoc, val_take_lb, val_take_lb, hol, Int.pow_succ]
    have e : v = lb a i - bo + 4294967296 * bo' - lb b i := by omega
    rw [e]
    grind
theorem Sub2_ev (a b : List Int) (ha : Limbs a) (hb : Limbs b) (hl : a.length ≤ 99999999) (hlb : b.length ≤ 99999999) : Ev (fun k => ref01_Sub.f k a b) (if val a < val b then ([], false) else (lm (val a - val b), true)) := by
  unfold ref01_Sub.f
  refine Ev.bind (Cmp2_ev a b ha hb (by omega) (by omega)) ?_
  rw [cmpZ_lt0]
  by_cases h : val a < val b
  · rw [decide_eq_true h, if_pos h]; exact Ev.pure _
  · rw [decide_eq_false h, if_neg h]
    exact rSub_l0 a b ha hb hl hlb (by omega) (max a.length b.length) 0 0 [] (by omega) (by omega) (by decide) Limbs.nil rfl (by simp [val])

/-! sums -/
theorem radd_limb (c x y : Int) (hc : 0 ≤ c ∧ c ≤ 1) (hx : 0 ≤ x ∧ x < 4294967296) (hy : 0 ≤ y ∧ y < 4294967296) :
    ∃ v c' : Int, IntKind.u32.wrap (Int.tmod (IntKind.u64.wrap (IntKind.u64.wrap (x + y) + c)) 4294967296) = v ∧ IntKind.u64.wrap (Int.tdiv (IntKind.u64.wrap (IntKind.u64.wrap (x + y) + c)) 4294967296) = c' ∧
      (0 ≤ v ∧ v < 4294967296) ∧ (0 ≤ c' ∧ c' ≤ 1) ∧ v + 4294967296 * c' = c + x + y := by
  refine ⟨_, _, rfl, rfl, ?_⟩
  rw [u64_in (x := x + y) (by omega) (by omega), u64_in (x := x + y + c) (by omega) (by omega), tmod_nn (by omega), tdiv_nn (by omega), wrap_u32, wrap_u64]
  omega
theorem rAdd_end (a b o : List Int) (ho : Limbs o) (i : Nat) (hi1 : a.length ≤ i) (hi2 : b.length ≤ i) (hl : o.length ≤ 100000000) : Ev (fun k => ref01_Add.l0 k a b 0 (i : Int) o) (lm (val o)) := by
  have t0 : ¬ ((i : Int) < ((max a.length b.length : Nat) : Int)) := by omega
  have f0 : ¬ ((0 : Int) > 0) := by decide
  refine Ev.step ?_
  simp only [ref01_Add.l0, zmax_nat, decide_eq_false t0, decide_eq_false f0, condF]
  exact Ev.bind (Norm2_ev o ho hl) (Ev.pure _)
theorem rAdd_l0 (a b : List Int) (ha : Limbs a) (hb : Limbs b) (hl : a.length ≤ 99999999) (hlb : b.length ≤ 99999999) :
    ∀ (n i : Nat) (c : Int) (o : List Int), n = max a.length b.length - i → i ≤ max a.length b.length → (0 ≤ c ∧ c ≤ 1) → Limbs o → o.length = i → val o + c * 4294967296 ^ i = val (a.take i) + val (b.take i) →
      Ev (fun k => ref01_Add.l0 k a b c (i : Int) o) (lm (val a + val b)) := by
  intro n
  induction n with
  | zero =>
    intro i c o hn hi hc ho hol hv
    have hi' : i = max a.length b.length := by omega
    rw [List.take_of_length_le (l := a) (by omega), List.take_of_length_le (l := b) (by omega)] at hv
    obtain h | h : c = 0 ∨ c = 1 := by omega
    · subst h
      refine Ev.eq (rAdd_end a b o ho i (by omega) (by omega) (by omega)) ?_
      congr 1; omega
    · subst h
      have t0 : ¬ ((i : Int) < ((max a.length b.length : Nat) : Int)) := by omega
      have f0 : ((1 : Int) > 0) := by decide
      have ff : fits 4 o.length [(1 : Int)].length = true := fits_t (by simp only [List.length_cons, List.length_nil]; omega)
      have w1 : IntKind.u32.wrap (Int.tmod (IntKind.u64.wrap (IntKind.u64.wrap (0 + 0) + 1)) 4294967296) = 1 := by decide
      have w2 : IntKind.u64.wrap (Int.tdiv (IntKind.u64.wrap (IntKind.u64.wrap (0 + 0) + 1)) 4294967296) = 0 := by decide
      refine Ev.step ?_
      simp only [ref01_Add.l0, zmax_nat, decide_eq_false t0, decide_eq_true f0, condF, condT, rlimb_eq a ha i, rlimb_eq b hb i, bindO_s, lb_ge (show a.length ≤ i by omega), lb_ge (show b.length ≤ i by omega), w1, w2, ff, add1 (i := i) (by omega)]
      refine Ev.eq (rAdd_end a b (o ++ [1]) (Limbs.append ho (limbs_one ⟨by decide, by decide⟩)) (i + 1) (by omega) (by omega) (by simp; omega)) ?_
      congr 1
      rw [val_snoc, hol]; omega
  | succ n ih =>
    intro i c o hn hi hc ho hol hv
    have cc : (i : Int) < ((max a.length b.length : Nat) : Int) := by omega
    obtain ⟨v, c', w1, w2, p1, p2, p3⟩ := radd_limb c (lb a i) (lb b i) hc (lb_bd ha i) (lb_bd hb i)
    have ff : fits 4 o.length [v].length = true := fits_t (by simp only [List.length_cons, List.length_nil]; omega)
    refine Ev.step ?_
    simp only [ref01_Add.l0, zmax_nat, decide_eq_true cc, condT, rlimb_eq a ha i, rlimb_eq b hb i, bindO_s, w1, w2, ff, add1 (i := i) (by omega)]
    refine ih (i + 1) c' (o ++ [v]) (by omega) (by omega) p2 (Limbs.append ho (limbs_one p1)) (by simp [hol]) ?_
    rw [val_snoc, val_take_lb, val_take_lb, hol, Int.pow_succ]
    have e : v = c + lb a i + lb b i - 4294967296 * c' := by omega
    rw [e]
    grind
theorem Add2_ev (a b : List Int) (ha : Limbs a) (hb : Limbs b) (hl : a.length ≤ 99999999) (hlb : b.length ≤ 99999999) : Ev (fun k => ref01_Add.f k a b) (lm (val a + val b)) :=
  rAdd_l0 a b ha hb hl hlb (max a.length b.length) 0 0 [] (by omega) (by omega) (by decide) Limbs.nil rfl (by simp [val])
end Go.Gm

/- Naturals: the reference's (2): products, halves, shifts, counts of bits, division, greatest common divisors. -/
set_option linter.unusedVariables false
set_option linter.unusedSimpArgs false
namespace Go.Gm
open Go.Pi

theorem rmul_step (c x y o : Int) (hc : 0 ≤ c ∧ c < 4294967296) (hx : 0 ≤ x ∧ x < 4294967296) (hy : 0 ≤ y ∧ y < 4294967296) (ho : 0 ≤ o ∧ o < 4294967296) :
    ∃ v c' : Int, IntKind.u32.wrap (Int.tmod (IntKind.u64.wrap (IntKind.u64.wrap (IntKind.u64.wrap (x * y) + o) + c)) 4294967296) = v ∧
      IntKind.u64.wrap (Int.tdiv (IntKind.u64.wrap (IntKind.u64.wrap (IntKind.u64.wrap (x * y) + o) + c)) 4294967296) = c' ∧ (0 ≤ v ∧ v < 4294967296) ∧ (0 ≤ c' ∧ c' < 4294967296) ∧ v + 4294967296 * c' = c + x * y + o := by
  refine ⟨_, _, rfl, rfl, ?_⟩
  have b0 : 0 ≤ x * y := Int.mul_nonneg hx.1 hy.1
  have b1 : x * y ≤ 4294967295 * 4294967295 := Int.mul_le_mul (by omega) (by omega) hy.1 (by omega)
  generalize x * y = p at *
  rw [u64_in (x := p) (by omega) (by omega), u64_in (x := p + o) (by omega) (by omega), u64_in (x := p + o + c) (by omega) (by omega), tmod_nn (by omega), tdiv_nn (by omega), wrap_u32, u64_in (by omega) (by omega)]
  omega
theorem lb_of_drop {c o : List Int} {i : Nat} (hi : i < o.length) (hl : c.length = o.length) (h : c.drop i = o.drop i) : lb c i = o[i] := by
  rw [lb_lt (by omega)]; exact get_of_drop hi hl h
theorem rmul_l1 (a b : List Int) (ha : Limbs a) (hb : Limbs b) (hl : a.length + b.length ≤ 100000000) (i : Nat) (hi : i < a.length) (o : List Int) (hol : o.length = a.length + b.length) (ho : Limbs o)
    (hov : val (o.take (i + b.length)) = val (a.take i) * val b) :
    ∀ (n j : Nat) (c : Int) (out : List Int), n = b.length - j → j ≤ b.length → (0 ≤ c ∧ c < 4294967296) → Limbs out → out.length = o.length → out.drop (i + j) = o.drop (i + j) →
      val (out.take (i + j)) + c * 4294967296 ^ (i + j) = val (o.take (i + j)) + 4294967296 ^ i * a[i] * val (b.take j) →
      ∃ out', Limbs out' ∧ out'.length = o.length ∧ val (out'.take (i + 1 + b.length)) = val (a.take (i + 1)) * val b ∧
        ∀ r, Ev (fun k => ref01_Mul.l0 k a b ((i + 1 : Nat) : Int) out') r → Ev (fun k => ref01_Mul.l1 k a b (i : Int) c (j : Int) out) r := by
  intro n
  induction n with
  | zero =>
    intro j c out hn hj hc hout hlo hd hv
    have hj' : j = b.length := by omega
    subst hj'
    have t0 : ¬ ((b.length : Int) < (b.length : Int)) := by omega
    have e1 : IntKind.i64.wrap ((i : Int) + (b.length : Int)) = ((i + b.length : Nat) : Int) := by rw [i64_in (by omega) (by omega)]; omega
    have t1 : inb (((i + b.length : Nat) : Int)) out.length = true := inb_t' (by omega) (by omega)
    have e2 : IntKind.u32.wrap c = c := u32_in hc.1 hc.2
    refine ⟨out.set (i + b.length) c, hout.set _ hc, by simpa using hlo, ?_, ?_⟩
    · rw [show i + 1 + b.length = i + b.length + 1 by omega, val_take_set out (i + b.length) c (by omega)]
      rw [hov, List.take_length] at hv
      rw [val_take_succ hi]
      grind
    · intro r hr
      refine Ev.step ?_
      simp only [ref01_Mul.l1, decide_eq_false t0, condF, e1, t1, condT, e2, Int.toNat_natCast, add1 (i := i) (by omega)]
      exact hr
  | succ n ih =>
    intro j c out hn hj hc hout hlo hd hv
    have hlt : j < b.length := by omega
    have cc : (j : Int) < (b.length : Int) := by omega
    have e1 : IntKind.i64.wrap ((i : Int) + (j : Int)) = ((i + j : Nat) : Int) := by rw [i64_in (by omega) (by omega)]; omega
    have hio : i + j < o.length := by omega
    obtain ⟨v, c', w1, w2, h1, h2, h3⟩ := rmul_step c a[i] b[j] o[i + j] hc (ha.at i hi) (hb.at j hlt) (ho.at _ hio)
    have t3 : inb (((i + j : Nat) : Int)) out.length = true := inb_t' (by omega) (by omega)
    obtain ⟨out', g1, g2, g3, g4⟩ := ih (j + 1) c' (out.set (i + j) v) (by omega) (by omega) h2 (hout.set _ h1) (by simpa using hlo) (drop_set_succ out (i + j) v o hlo hio hd) (by
      rw [show i + (j + 1) = i + j + 1 by omega, val_take_set out (i + j) v (by omega), val_take_succ hio, val_take_succ hlt, Int.pow_succ]
      have e : v = c + a[i] * b[j] + o[i + j] - 4294967296 * c' := by omega
      rw [e]
      have p : (4294967296 : Int) ^ (i + j) = 4294967296 ^ i * 4294967296 ^ j := Int.pow_add ..
      rw [p] at hv ⊢
      grind)
    refine ⟨out', g1, g2, g3, fun r hr => Ev.step ?_⟩
    simp only [ref01_Mul.l1, decide_eq_true cc, condT, e1, t3, rlimb_eq a ha i, rlimb_eq b hb j, rlimb_eq out hout (i + j), bindO_s, lb_lt hi, lb_lt hlt, lb_of_drop hio hlo hd, w1, w2, Int.toNat_natCast, add1 (i := j) (by omega)]
    exact g4 r hr
theorem rmul_l0 (a b : List Int) (ha : Limbs a) (hb : Limbs b) (hl : a.length + b.length ≤ 100000000) :
    ∀ (n i : Nat) (o : List Int), n = a.length - i → i ≤ a.length → o.length = a.length + b.length → Limbs o → val (o.take (i + b.length)) = val (a.take i) * val b →
      Ev (fun k => ref01_Mul.l0 k a b (i : Int) o) (lm (val a * val b)) := by
  intro n
  induction n with
  | zero =>
    intro i o hn hi hol ho hv
    have hi' : i = a.length := by omega
    subst hi'
    have t0 : ¬ ((a.length : Int) < (a.length : Int)) := by omega
    rw [List.take_of_length_le (by omega), List.take_length] at hv
    refine Ev.step ?_
    simp only [ref01_Mul.l0, decide_eq_false t0, condF]
    exact Ev.bind (Norm2_ev o ho (by omega)) (by rw [hv]; exact Ev.pure _)
  | succ n ih =>
    intro i o hn hi hol ho hv
    have hlt : i < a.length := by omega
    have cc : (i : Int) < (a.length : Int) := by omega
    obtain ⟨out', g1, g2, g3, g4⟩ := rmul_l1 a b ha hb hl i hlt o hol ho hv b.length 0 0 o (by omega) (by omega) (by decide) ho rfl rfl (by simp [val])
    refine Ev.step ?_
    simp only [ref01_Mul.l0, decide_eq_true cc, condT]
    exact g4 _ (ih (i + 1) out' (by omega) (by omega) (by omega) g1 g3)
theorem Mul2_ev (a b : List Int) (ha : Limbs a) (hb : Limbs b) (hl : a.length + b.length ≤ 100000000) : Ev (fun k => ref01_Mul.f k a b) (lm (val a * val b)) := by
  have e1 : IntKind.i64.wrap (((a.length : Nat) : Int) + ((b.length : Nat) : Int)) = ((a.length + b.length : Nat) : Int) := by rw [i64_in (by omega) (by omega)]; omega
  unfold ref01_Mul.f
  simp only [e1, Int.toNat_natCast, decide_eq_true (show (0 : Int) ≤ ((a.length + b.length : Nat) : Int) by omega), decide_eq_true (Int.le_refl ((a.length + b.length : Nat) : Int)), decide_eq_true (show ((a.length + b.length : Nat) : Int) * 4 ≤ 140737488355328 by omega), Bool.and_self, condT]
  exact rmul_l0 a b ha hb (by omega) a.length 0 _ (by omega) (by omega) (by simp) (Limbs.zeros _) (by simp [val_zeros, val])

/-! halves -/
theorem half_limb (x y : Int) (hx : 0 ≤ x ∧ x < 4294967296) (hy : 0 ≤ y ∧ y < 4294967296) :
    ∃ v : Int, IntKind.u32.wrap (IntKind.u64.wrap (IntKind.u64.wrap (Int.tdiv x 2) + IntKind.u64.wrap (Int.tmod y 2 * 2147483648))) = v ∧ (0 ≤ v ∧ v < 4294967296) ∧ v = x / 2 + y % 2 * 2147483648 := by
  refine ⟨_, rfl, ?_⟩
  rw [tdiv_nn hx.1, tmod_nn hy.1, wrap_u32, u64_in (x := x / 2) (by omega) (by omega), u64_in (x := y % 2 * 2147483648) (by omega) (by omega), u64_in (by omega) (by omega)]
  omega
theorem rHalf_l0 (a : List Int) (ha : Limbs a) (hl : a.length ≤ 99999999) :
    ∀ (n i : Nat) (o : List Int), n = a.length - i → i ≤ a.length → Limbs o → o.length = i → val (a.take i) + 4294967296 ^ i * (lb a i % 2) = 2 * val o + lb a 0 % 2 →
      Ev (fun k => ref01_Half.l0 k a (i : Int) o) (lm (val a / 2)) := by
  intro n
  induction n with
  | zero =>
    intro i o hn hi ho hol hv
    have hi' : i = a.length := by omega
    subst hi'
    have t0 : ¬ ((a.length : Int) < (a.length : Int)) := by omega
    rw [List.take_length, lb_ge (i := a.length) (by omega)] at hv
    refine Ev.step ?_
    simp only [ref01_Half.l0, decide_eq_false t0, condF]
    refine Ev.bind (Norm2_ev o ho (by omega)) ?_
    rw [show val o = val a / 2 by omega]
    exact Ev.pure _
  | succ n ih =>
    intro i o hn hi ho hol hv
    have hlt : i < a.length := by omega
    have cc : (i : Int) < (a.length : Int) := by omega
    obtain ⟨v, w1, p1, p2⟩ := half_limb (lb a i) (lb a (i + 1)) (lb_bd ha i) (lb_bd ha _)
    have ff : fits 4 o.length [v].length = true := fits_t (by simp only [List.length_cons, List.length_nil]; omega)
    refine Ev.step ?_
    simp only [ref01_Half.l0, decide_eq_true cc, condT, rlimb_eq a ha i, rlimb_eq a ha (i + 1), bindO_s, w1, ff, add1 (i := i) (by omega)]
    refine ih (i + 1) (o ++ [v]) (by omega) (by omega) (Limbs.append ho (limbs_one p1)) (by simp [hol]) ?_
    rw [val_snoc, val_take_lb, hol, Int.pow_succ, p2]
    have e : lb a i = 2 * (lb a i / 2) + lb a i % 2 := by omega
    have e2 : val (a.take i) + 4294967296 ^ i * lb a i = val (a.take i) + 4294967296 ^ i * (lb a i % 2) + 2 * (4294967296 ^ i * (lb a i / 2)) := by
      conv => lhs; rw [e]
      grind
    rw [e2, hv]
    grind
theorem Half2_ev (a : List Int) (ha : Limbs a) (hl : a.length ≤ 99999999) : Ev (fun k => ref01_Half.f k a) (lm (val a / 2)) :=
  rHalf_l0 a ha hl a.length 0 [] (by omega) (by omega) Limbs.nil rfl (by simp [val])

/-! shifts -/
theorem pow2_le31 {s : Nat} (h : s ≤ 31) : (1 : Int) ≤ 2 ^ s ∧ (2 : Int) ^ s ≤ 2147483648 := by
  have h1 : (2 : Nat) ^ s ≤ 2 ^ 31 := Nat.pow_le_pow_right (by decide) h
  have h2 : ((2 ^ s : Nat) : Int) ≤ ((2 ^ 31 : Nat) : Int) := Int.ofNat_le.mpr h1
  rw [Int.natCast_pow] at h2
  have p : (0 : Int) < 2 ^ s := Int.pow_pos (by decide)
  exact ⟨by omega, h2⟩
theorem shift_limb (c x : Int) (s : Nat) (hs : s ≤ 31) (hc : 0 ≤ c ∧ c < 4294967296) (hx : 0 ≤ x ∧ x < 4294967296) :
    ∃ v c' : Int, IntKind.u32.wrap (Int.tmod (IntKind.u64.wrap (zshl .u64 x (s : Int) + c)) 4294967296) = v ∧ IntKind.u64.wrap (Int.tdiv (IntKind.u64.wrap (zshl .u64 x (s : Int) + c)) 4294967296) = c' ∧
      (0 ≤ v ∧ v < 4294967296) ∧ (0 ≤ c' ∧ c' < 4294967296) ∧ v + 4294967296 * c' = c + x * 2 ^ s := by
  refine ⟨_, _, rfl, rfl, ?_⟩
  obtain ⟨q1, q2⟩ := pow2_le31 hs
  have b0 : 0 ≤ x * 2 ^ s := Int.mul_nonneg hx.1 (by omega)
  have b1 : x * 2 ^ s ≤ 4294967295 * 2147483648 := Int.mul_le_mul (by omega) q2 (by omega) (by omega)
  rw [zshl_u64 x s (by omega)]
  generalize x * 2 ^ s = p at *
  have e : p % 18446744073709551616 = p := by omega
  rw [e, u64_in (x := p + c) (by omega) (by omega), tmod_nn (by omega), tdiv_nn (by omega), wrap_u32, u64_in (by omega) (by omega)]
  omega
theorem rShift_l0 (a : List Int) (ha : Limbs a) (hl : a.length ≤ 40000000) (w : Int) (s q : Nat) (hs : s ≤ 31) (hw : IntKind.u64.wrap (Int.tmod w 32) = (s : Int)) (hq : q ≤ 40000000) :
    ∀ (n i : Nat) (c : Int) (o : List Int), n = a.length - i → i ≤ a.length → (0 ≤ c ∧ c < 4294967296) → Limbs o → o.length = q + i → val o + c * 4294967296 ^ (q + i) = 4294967296 ^ q * 2 ^ s * val (a.take i) →
      Ev (fun k => ref01_Shift.l0 k a w c (i : Int) o) (lm (4294967296 ^ q * 2 ^ s * val a)) := by
  have hnn : nonneg ((s : Nat) : Int) = true := decide_eq_true (by omega)
  intro n
  induction n with
  | zero =>
    intro i c o hn hi hc ho hol hv
    have hi' : i = a.length := by omega
    subst hi'
    have cc : (a.length : Int) ≤ (a.length : Int) := by omega
    obtain ⟨v, c', w1, w2, p1, p2, p3⟩ := shift_limb c 0 s hs hc (by decide)
    have hv0 : v = c ∧ c' = 0 := by rw [Int.zero_mul] at p3; omega
    obtain ⟨rfl, rfl⟩ := hv0
    have ff : fits 4 o.length [v].length = true := fits_t (by simp only [List.length_cons, List.length_nil]; omega)
    rw [List.take_length] at hv
    refine Ev.step ?_
    simp only [ref01_Shift.l0, decide_eq_true cc, condT, rlimb_eq a ha a.length, lb_ge (Nat.le_refl a.length), bindO_s, hw, hnn, w1, w2, ff, add1 (i := a.length) (by omega)]
    refine Ev.step ?_
    have t0 : ¬ (((a.length + 1 : Nat) : Int) ≤ (a.length : Int)) := by omega
    simp only [ref01_Shift.l0, decide_eq_false t0, condF]
    refine Ev.bind (Norm2_ev (o ++ [v]) (Limbs.append ho (limbs_one p1)) (by simp; omega)) ?_
    rw [val_snoc, hol, show val o + 4294967296 ^ (q + a.length) * v = val o + v * 4294967296 ^ (q + a.length) by rw [Int.mul_comm], hv]
    exact Ev.pure _
  | succ n ih =>
    intro i c o hn hi hc ho hol hv
    have cc : (i : Int) ≤ (a.length : Int) := by omega
    obtain ⟨v, c', w1, w2, p1, p2, p3⟩ := shift_limb c (lb a i) s hs hc (lb_bd ha i)
    have ff : fits 4 o.length [v].length = true := fits_t (by simp only [List.length_cons, List.length_nil]; omega)
    refine Ev.step ?_
    simp only [ref01_Shift.l0, decide_eq_true cc, condT, rlimb_eq a ha i, bindO_s, hw, hnn, w1, w2, ff, add1 (i := i) (by omega)]
    refine ih (i + 1) c' (o ++ [v]) (by omega) (by omega) p2 (Limbs.append ho (limbs_one p1)) (by simp [hol]; omega) ?_
    rw [val_snoc, val_take_lb, hol, show q + (i + 1) = q + i + 1 by omega, Int.pow_succ]
    have e : v = c + lb a i * 2 ^ s - 4294967296 * c' := by omega
    rw [e]
    have p : (4294967296 : Int) ^ (q + i) = 4294967296 ^ q * 4294967296 ^ i := Int.pow_add ..
    rw [p] at hv ⊢
    grind
theorem Shift2_ev (a : List Int) (ha : Limbs a) (hl : a.length ≤ 40000000) (n : Nat) (hn : n ≤ 1200000000) : Ev (fun k => ref01_Shift.f k a (n : Int)) (lm (val a * 2 ^ n)) := by
  have e1 : IntKind.i64.wrap (Int.tdiv (n : Int) 32) = ((n / 32 : Nat) : Int) := by rw [tdiv_nn (by omega), i64_in (by omega) (by omega)]; omega
  have e2 : IntKind.u64.wrap (Int.tmod (n : Int) 32) = ((n % 32 : Nat) : Int) := by rw [tmod_nn (by omega), u64_in (by omega) (by omega)]; omega
  unfold ref01_Shift.f
  simp only [e1, Int.toNat_natCast, decide_eq_true (show (0 : Int) ≤ ((n / 32 : Nat) : Int) by omega), decide_eq_true (Int.le_refl ((n / 32 : Nat) : Int)), decide_eq_true (show ((n / 32 : Nat) : Int) * 4 ≤ 140737488355328 by omega), Bool.and_self, condT]
  refine Ev.eq (rShift_l0 a ha hl (n : Int) (n % 32) (n / 32) (by omega) e2 (by omega) a.length 0 0 _ (by omega) (by omega) (by decide) (Limbs.zeros _) (by simp) (by simp [val, val_zeros])) ?_
  congr 1
  rw [pow_2_32, ← Int.pow_add, show 32 * (n / 32) + n % 32 = n by omega, Int.mul_comm]

/-! counts of bits -/
theorem rBits_l0 : ∀ (j : Nat) (n : Nat) (x : Int), j ≤ 32 → n ≤ 10000000000 - j → 0 ≤ x → x < 2 ^ j → ∃ s : Nat, Ev (fun k => ref01_Bits.l0 k (n : Int) x) ((n + s : Nat) : Int) ∧ HasBits x s ∧ s ≤ j := by
  intro j
  induction j with
  | zero =>
    intro n x hj hn h0 h1
    have hx : x = 0 := by simp at h1; omega
    subst hx
    refine ⟨0, Ev.step ?_, ⟨by decide, .inl rfl⟩, by omega⟩
    have f0 : ¬ ((0 : Int) > 0) := by decide
    simp only [ref01_Bits.l0, decide_eq_false f0, condF]
    exact Ev.pure _
  | succ j ih =>
    intro n x hj hn h0 h1
    by_cases hx : x = 0
    · subst hx
      refine ⟨0, Ev.step ?_, ⟨by decide, .inl rfl⟩, by omega⟩
      have f0 : ¬ ((0 : Int) > 0) := by decide
      simp only [ref01_Bits.l0, decide_eq_false f0, condF]
      exact Ev.pure _
    · have hx32 : x < 4294967296 := by
        have h1' : (2 : Nat) ^ (j + 1) ≤ 2 ^ 32 := Nat.pow_le_pow_right (by decide) hj
        have h2 : ((2 ^ (j + 1) : Nat) : Int) ≤ ((2 ^ 32 : Nat) : Int) := Int.ofNat_le.mpr h1'
        rw [Int.natCast_pow] at h2
        exact Int.lt_of_lt_of_le h1 h2
      have e1 : IntKind.u32.wrap (Int.tdiv x 2) = x / 2 := by rw [tdiv_nn h0, u32_in (by omega) (by omega)]
      have e2 : IntKind.i64.wrap ((n : Int) + 1) = ((n + 1 : Nat) : Int) := add1 (by omega)
      rw [Int.pow_succ] at h1
      obtain ⟨s, g1, g2, g3⟩ := ih (n + 1) (x / 2) (by omega) (by omega) (by omega) (by omega)
      refine ⟨s + 1, Ev.step ?_, ?_, by omega⟩
      · have f0 : x > 0 := by omega
        simp only [ref01_Bits.l0, decide_eq_true f0, condT, e1, e2]
        exact Ev.eq g1 (by congr 1; omega)
      · obtain ⟨g4, g5⟩ := g2
        refine ⟨by rw [Int.pow_succ]; omega, .inr ?_⟩
        obtain h | h := g5
        · subst h; simp; omega
        · have hs : s ≠ 0 := by
            intro h'; subst h'; simp at h g4; omega
          rw [show s + 1 - 1 = (s - 1) + 1 by omega, Int.pow_succ]; omega
theorem Bits2_ev (a : List Int) (ha : Limbs a) (hl : a.length ≤ 100000000) : ∃ s : Nat, Ev (fun k => ref01_Bits.f k a) (s : Int) ∧ HasBits (val a) s ∧ s ≤ 32 * a.length := by
  have v0 := val_nonneg ha
  have l1 := lm_len_val ha
  by_cases h0 : val a = 0
  · refine ⟨0, ?_, ⟨by omega, .inl rfl⟩, by omega⟩
    unfold ref01_Bits.f
    refine Ev.bind (Norm2_ev a ha hl) ?_
    rw [h0, lm_zero]
    exact Ev.pure _
  · obtain ⟨n, e1, e2⟩ := top_limb (show 0 < val a by omega)
    obtain ⟨p0, p1, p2, p3⟩ := e2 (by omega)
    obtain ⟨s, q1, q2, q3⟩ := rBits_l0 32 (32 * n) (lm (val a))[n] (by omega) (by omega) (by omega) (by rw [show (2 : Int) ^ 32 = 4294967296 by decide]; exact p1)
    refine ⟨32 * n + s, ?_, bits_top _ _ n s q2 p0 p2 p3, by omega⟩
    unfold ref01_Bits.f
    refine Ev.bind (Norm2_ev a ha hl) ?_
    have t1 : (((lm (val a)).length : Int) == 0) = false := by rw [beq_eq_false_iff_ne]; omega
    have t2 : IntKind.i64.wrap (((lm (val a)).length : Int) - 1) = (n : Int) := by rw [i64_in (by omega) (by omega)]; omega
    have t3 : inb (n : Int) (lm (val a)).length = true := inb_t' (by omega) (by omega)
    have t4 : IntKind.i64.wrap (32 * (n : Int)) = ((32 * n : Nat) : Int) := by rw [i64_in (by omega) (by omega)]; omega
    simp only [t1, condF, t2, t3, condT, gd_get' (0 : Int) (lm (val a)) n (by omega), t4]
    exact q1
end Go.Gm
