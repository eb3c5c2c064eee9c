/- The laws of chapter 7, as plain statements (3). -/
import Derived.Test.YtclmkhbdnidhpaaP07b
set_option linter.unusedVariables false
set_option linter.unusedSimpArgs false
set_option maxRecDepth 100000
namespace Go.Gm
open Go.Pi

/-! chains -/
/-- The digest behind the first texts of a list. -/
def lastD : List ByteArray → Int → Int
  | [], d => d
  | s :: l, d => lastD l (chainD d s)
theorem linksD_get : ∀ (l : List ByteArray) (d : Int) (i : Nat) (h : i < l.length), (linksD l d)[i]'(by rw [linksD_len]; exact h) = chainD (lastD (l.take i) d) l[i]
  | s :: l, d, 0, h => rfl
  | s :: l, d, i + 1, h => by
    simp only [linksD, List.getElem_cons_succ, List.take_succ_cons, lastD]
    exact linksD_get l (chainD d s) i (by simpa using h)
theorem lastD_take (l : List ByteArray) (d : Int) (i : Nat) (h : i < l.length) : lastD (l.take (i + 1)) d = chainD (lastD (l.take i) d) l[i] := by
  induction l generalizing d i with
  | nil => simp at h
  | cons s l ih =>
    cases i with
    | zero => simp [lastD]
    | succ i =>
      simp only [List.take_succ_cons, lastD, List.getElem_cons_succ]
      exact ih (chainD d s) i (by simpa using h)
theorem lastD_bd : ∀ (l : List ByteArray) (d : Int), 0 ≤ d → 0 ≤ lastD l d
  | [], d, h => h
  | s :: l, d, h => lastD_bd l _ (chainD_bd _ _).1
theorem dig_chain (w s : ByteArray) : dig (catS (catS w nl) s) = chainD (dig w) s := by
  have e : catS (catS w nl) s = catS w (catS nl s) := bytes_ext (by simp [catS_data])
  rw [e, dig_cat]
  unfold chainD
  have : (catS nl s).size = s.size + 1 := by rw [catS_size]; show 1 + s.size = _; omega
  rw [this]

theorem chains_l0 (l : List ByteArray) (s : ByteArray) (hl : l.length ≤ 30) (hs : ∀ x ∈ l, x.size ≤ 200) (hs' : s.size ≤ 200) : ∀ (n k i : Nat) (w : ByteArray), n = l.length - i → i ≤ l.length → 50000 ≤ k → w.size ≤ 201 * i → dig w = lastD (l.take i) 0 →
    law07_DigestChains.l0 (k + n + 1) l s (dig w) w (i : Int) (linksD l 0) (linksD (l ++ [s]) 0) = some true := by
  intro n
  induction n with
  | zero =>
    intro k i w hn hi hk hw hd
    have hi' : i = l.length := by omega
    subst hi'
    have : ¬ ((l.length : Int) < (l.length : Int)) := by omega
    have hlen : (linksD (l ++ [s]) 0).length = l.length + 1 := by rw [linksD_len]; simp
    have hget := linksD_get (l ++ [s]) 0 l.length (by simp)
    rw [law07_DigestChains.l0]
    simp only [Nat.add_zero, decide_eq_false this, condF]
    rw [inb_t (Int.natCast_nonneg _) (by rw [hlen]; omega), condT, Chain_eq k (dig w) s (dig_bd w).1 (by omega) (by omega), bindO_s, gd_get _ _ l.length (by rw [hlen]; omega), hget]
    have e : lastD ((l ++ [s]).take l.length) 0 = dig w := by rw [hd]; simp
    rw [e]
    have e2 : (l ++ [s])[l.length]'(by simp) = s := by simp
    rw [e2, beq_self_eq_true, condT, alive_k k (by omega), bindO_s]
  | succ n ih =>
    intro k i w hn hi hk hw hd
    have hlt : i < l.length := by omega
    have c : (i : Int) < (l.length : Int) := by omega
    have hsz := hs _ (List.getElem_mem hlt)
    have hlen1 : (linksD l 0).length = l.length := linksD_len _ _
    have hlen2 : (linksD (l ++ [s]) 0).length = l.length + 1 := by rw [linksD_len]; simp
    have hw2 : (catS (catS w nl) l[i]).size ≤ 201 * (i + 1) := by rw [catS_size, catS_size]; show w.size + 1 + _ ≤ _; omega
    have g1 : (linksD l 0)[i]'(by rw [hlen1]; exact hlt) = chainD (dig w) l[i] := by rw [linksD_get l 0 i hlt, hd]
    have g2 : (linksD (l ++ [s]) 0)[i]'(by rw [hlen2]; omega) = chainD (dig w) l[i] := by
      rw [linksD_get (l ++ [s]) 0 i (by simp; omega)]
      have e1 : (l ++ [s]).take i = l.take i := by rw [List.take_append_of_le_length (by omega)]
      have e2 : (l ++ [s])[i]'(by simp; omega) = l[i] := List.getElem_append_left hlt
      rw [e1, e2, hd]
    have hnl : (⟨#[10]⟩ : ByteArray) = nl := rfl
    have nl1 : nl.size = 1 := rfl
    have ok1 : catOk w nl = true := catOk_t (by rw [nl1]; omega)
    have ok2 : catOk (catS w nl) l[i] = true := catOk_t (by rw [catS_size, nl1]; omega)
    have w3 : IntKind.i64.wrap ((i : Int) + 1) = ((i + 1 : Nat) : Int) := by rw [i64_in (by omega) (by omega)]; omega
    have hO : digest_Of.f (k + n + 1) (catS (catS w nl) l[i]) = some (chainD (dig w) l[i]) := by
      rw [Of_eq _ (by omega) _ (by omega), dig_chain]
    rw [show k + (n + 1) + 1 = (k + n + 1) + 1 by omega, law07_DigestChains.l0]
    rw [decide_eq_true c, condT, inb_t (Int.natCast_nonneg i) c, condT, gd_get _ l i hlt, Chain_eq _ (dig w) l[i] (dig_bd w).1 (by omega) (by omega), bindO_s, hnl, ok1, condT, condT, ok2, condT,
      inb_t (Int.natCast_nonneg i) (by rw [hlen1]; omega), condT, gd_get _ _ i (by rw [hlen1]; omega), g1, bne_self_eq_false, condF, inb_t (Int.natCast_nonneg i) (by rw [hlen2]; omega), condT, gd_get _ _ i (by rw [hlen2]; omega), g2, bne_self_eq_false, condF,
      hO, bindO_s, bne_self_eq_false, condF, w3, ← dig_chain]
    refine ih k (i + 1) _ (by omega) (by omega) hk hw2 ?_
    rw [dig_chain, hd, lastD_take l 0 i hlt]
theorem law_DigestChains (l : List ByteArray) (s : ByteArray) : law07_DigestChains.f 2000000 l s = some true := by
  unfold law07_DigestChains.f
  obtain ⟨b, h1, h2⟩ := light_eq l 2000000 (by omega)
  rw [h1, bindO_s]
  cases b with
  | false => simp only [notB, Bool.not_false, condT, alive_k 2000000 (by omega), bindO_s]
  | true =>
    obtain ⟨g1, g2⟩ := h2 rfl
    simp only [notB, Bool.not_true, condF]
    by_cases c : ((s.size : Nat) : Int) > 200
    · rw [decide_eq_true c, condT, alive_k _ (by omega), bindO_s]
    · have hsz : ∀ x ∈ [] ++ l ++ [s], x.size ≤ 1000000 := fun x hx => by
        simp only [List.nil_append, List.mem_append, List.mem_singleton] at hx
        rcases hx with hx | rfl
        · have := g2 x hx; omega
        · omega
      rw [decide_eq_false c, condF, Links_eq l (by omega) (fun s hs => by have := g2 s hs; omega) _ (by omega), bindO_s, fits_t (by omega), condT, fits_t (by simp; omega), condT, Links_eq ([] ++ l ++ [s]) (by simp; omega) hsz _ (by omega), bindO_s,
        linksD_len, bne_self_eq_false, condF, linksD_len, i64_in (by omega) (by omega)]
      have e : ((([] ++ l ++ [s]).length : Nat) : Int) = (l.length : Int) + 1 := by simp
      rw [e, bne_self_eq_false, condF, List.nil_append]
      have := chains_l0 l s g1 g2 (by omega) l.length (2000000 - l.length - 1) 0 (⟨#[]⟩ : ByteArray) (by omega) (by omega) (by omega) (by decide) rfl
      have hz : dig (⟨#[]⟩ : ByteArray) = 0 := rfl
      rw [show 2000000 - l.length - 1 + l.length + 1 = 2000000 by omega, hz] at this
      exact this
theorem DigestChains_plain : ∀ x : ArgsD law07_DigestChains.E.ps, WFA law07_DigestChains.E.ps x → ∃ k, law07_DigestChains.E.fn k x = some true := by
  intro x h
  obtain ⟨a0, a1, u⟩ := x
  exact ⟨2000000, law_DigestChains a0 a1⟩

/-! one byte replaced -/
theorem inv_any (z q B P i m : Int) (h1 : B * i - P * m = 1) (h2 : z * B = P * q) : z = P * (q * i - z * m) := by
  calc z = z * (B * i - P * m) := by rw [h1, Int.mul_one]
    _ = z * B * i - P * (z * m) := by grind
    _ = P * q * i - P * (z * m) := by rw [h2]
    _ = P * (q * i - z * m) := by grind
theorem small_mul {z P t : Int} (hP : 0 < P) (h : z = P * t) (h1 : -P < z) (h2 : z < P) : z = 0 := by
  rcases Int.lt_trichotomy t 0 with ht | ht | ht
  · have : P * t ≤ P * (-1) := Int.mul_le_mul_of_nonneg_left (by omega) (Int.le_of_lt hP)
    omega
  · rw [h, ht, Int.mul_zero]
  · have : P * 1 ≤ P * t := Int.mul_le_mul_of_nonneg_left (by omega) (Int.le_of_lt hP)
    omega
theorem step_any (x y e B P i m : Int) (hP : 0 < P) (h1 : B * i - P * m = 1) (hx : 0 ≤ x) (hx' : x < P) (hy : 0 ≤ y) (hy' : y < P) (h : (x * B + e) % P = (y * B + e) % P) : x = y := by
  have g1 := Int.mul_ediv_add_emod (x * B + e) P
  have g2 := Int.mul_ediv_add_emod (y * B + e) P
  have g3 : (x - y) * B = P * ((x * B + e) / P - (y * B + e) / P) := by
    rw [h] at g1
    grind
  have := small_mul hP (inv_any (x - y) _ B P i m h1 g3) (by omega) (by omega)
  omega
theorem step_inj {x y e : Int} (hx : 0 ≤ x) (hx' : x < 2305843009213693951) (hy : 0 ≤ y) (hy' : y < 2305843009213693951) (h : (x * 1099511628211 + e) % 2305843009213693951 = (y * 1099511628211 + e) % 2305843009213693951) : x = y :=
  step_any x y e 1099511628211 2305843009213693951 1886636988539514303 899618620532 (by decide) (by decide) hx hx' hy hy' h
theorem pow_inj : ∀ (n : Nat) {x y e : Int}, 0 ≤ x → x < 2305843009213693951 → 0 ≤ y → y < 2305843009213693951 → (x * 1099511628211 ^ n + e) % 2305843009213693951 = (y * 1099511628211 ^ n + e) % 2305843009213693951 → x = y
  | 0, x, y, e, hx, hx', hy, hy', h => by simp only [Int.pow_zero, Int.mul_one] at h; omega
  | n + 1, x, y, e, hx, hx', hy, hy', h => by
    have e1 : ∀ z : Int, (z * 1099511628211 ^ (n + 1) + e) % 2305843009213693951 = ((z * 1099511628211 % 2305843009213693951) * 1099511628211 ^ n + e) % 2305843009213693951 := fun z => by
      rw [Int.pow_succ, Int.add_emod ((z * 1099511628211 % 2305843009213693951) * 1099511628211 ^ n), Int.mul_emod (z * 1099511628211 % 2305843009213693951), Int.emod_emod, ← Int.mul_emod, ← Int.add_emod]
      congr 1
      grind
    rw [e1, e1] at h
    have := pow_inj n (by omega) (by omega) (by omega) (by omega) h
    exact step_inj (e := 0) hx hx' hy hy' (by simpa using this)
theorem chainD_inj {x y : Int} (s : ByteArray) (hx : 0 ≤ x) (hx' : x < 2305843009213693951) (hy : 0 ≤ y) (hy' : y < 2305843009213693951) (h : chainD x s = chainD y s) : x = y := by
  unfold chainD joinD at h
  exact pow_inj _ hx hx' hy hy' h
/-- Two texts that differ in one byte. -/
theorem dgs_inj (p q : List UInt8) (a b : UInt8) (d : Int) (h0 : 0 ≤ d) (h1 : d < 2305843009213693951) (h : dgs (p ++ a :: q) d = dgs (p ++ b :: q) d) : a = b := by
  rw [dgs_append, dgs_append] at h
  have hp := dgs_bd p d h0 h1
  generalize dgs p d = x at *
  have h' : dgs q ((x * 1099511628211 + (a.toNat : Int) + 1) % 2305843009213693951) = dgs q ((x * 1099511628211 + (b.toNat : Int) + 1) % 2305843009213693951) := h
  rw [dgs_mul q _ (by omega) (by omega), dgs_mul q ((x * 1099511628211 + (b.toNat : Int) + 1) % 2305843009213693951) (by omega) (by omega)] at h'
  have := pow_inj _ (by omega) (by omega) (by omega) (by omega) h'
  have ha := a.toNat_lt
  have hb := b.toNat_lt
  have : a.toNat = b.toNat := by omega
  exact UInt8.toNat_inj.1 this
theorem dig_eq_iff (p q : List UInt8) (a b : UInt8) (s t : ByteArray) (hs : s.data.toList = p ++ a :: q) (ht : t.data.toList = p ++ b :: q) : (dig s = dig t) ↔ t = s := by
  constructor
  · intro h
    unfold dig at h
    rw [hs, ht] at h
    have := dgs_inj p q a b 0 (by decide) (by decide) h
    subst this
    exact bytes_ext (by rw [hs, ht])
  · intro h; rw [h]
theorem chain_eq_iff (p q : List UInt8) (a b : UInt8) (s t : ByteArray) (d : Int) (hs : s.data.toList = p ++ a :: q) (ht : t.data.toList = p ++ b :: q) : (chainD d s = chainD d t) ↔ t = s := by
  constructor
  · intro h
    have hsz : s.size = t.size := by
      have e1 : s.data.toList.length = s.size := by simp
      have e2 : t.data.toList.length = t.size := by simp
      rw [← e1, ← e2, hs, ht]; simp
    unfold chainD joinD at h
    rw [hsz] at h
    have d1 := dig_bd (catS nl s)
    have d2 := dig_bd (catS nl t)
    have h2 : dig (catS nl s) = dig (catS nl t) := by omega
    unfold dig at h2
    rw [catS_data, catS_data, hs, ht, ← List.append_assoc, ← List.append_assoc] at h2
    have := dgs_inj (nl.data.toList ++ p) q a b 0 (by decide) (by decide) h2
    subst this
    exact bytes_ext (by rw [hs, ht])
  · intro h; rw [h]

theorem cutG_hi {n : Nat} {j : Int} (h0 : 0 ≤ j) (h1 : j ≤ (n : Int)) : cutG none (some j) n = true := by show (decide (0 ≤ j) && decide (j ≤ (n : Int))) = true; rw [decide_eq_true h0, decide_eq_true h1]; rfl
theorem cutG_lo {n : Nat} {j : Int} (h0 : 0 ≤ j) (h1 : j ≤ (n : Int)) : cutG (some j) none n = true := by show (decide (0 ≤ j) && decide (j ≤ (n : Int))) = true; rw [decide_eq_true h0, decide_eq_true h1]; rfl
theorem cutS_hi (s : ByteArray) (j : Nat) : (cutS none (some (j : Int)) s).data.toList = s.data.toList.take j := by
  unfold cutS
  simp [ByteArray.data_extract, List.extract_eq_take_drop]
theorem cutS_lo (s : ByteArray) (j : Nat) : (cutS (some (j : Int)) none s).data.toList = s.data.toList.drop j := by
  unfold cutS
  simp [ByteArray.data_extract, List.extract_eq_take_drop, List.take_of_length_le]
theorem data_size (s : ByteArray) : s.data.toList.length = s.size := by simp

theorem law_DigestNotices (s : ByteArray) (at' by' : Int) (h0 : 0 ≤ at') (h1 : at' < 65536) (b0 : 0 ≤ by') (b1 : by' < 256) : law07_DigestNotices.f 2000000 s at' by' = some true := by
  unfold law07_DigestNotices.f
  by_cases cz : s.size = 0
  · have e : ((((s.size) : Nat) : Int) == (0 : Int)) = true := by rw [cz]; rfl
    rw [e, condT, alive_k _ (by omega), bindO_s]
  have e : ((((s.size) : Nat) : Int) == (0 : Int)) = false := by rw [beq_eq_false_iff_ne]; omega
  by_cases c1 : ((s.size : Nat) : Int) > 2000
  · rw [e, condF, decide_eq_true c1, condT, alive_k _ (by omega), bindO_s]
  have nz : ¬ (((s.size : Nat) : Int) = 0) := by omega
  rw [e, condF, decide_eq_false c1, condF, decide_eq_false nz, Bool.not_false, condT, i64_in (by omega) (by omega), tmod_nn h0]
  obtain ⟨i, hi, hlt⟩ : ∃ i : Nat, at' % ((s.size : Nat) : Int) = (i : Int) ∧ i < s.size := by
    have g1 := Int.emod_nonneg at' (show ((s.size : Nat) : Int) ≠ 0 by omega)
    have g2 := Int.emod_lt_of_pos at' (show (0 : Int) < ((s.size : Nat) : Int) by omega)
    exact ⟨(at' % ((s.size : Nat) : Int)).toNat, by omega, by omega⟩
  have hl : i < s.data.toList.length := by rw [data_size]; exact hlt
  rw [hi, i64_in (by omega) (by omega), show ((i : Int) + 1) = ((i + 1 : Nat) : Int) by omega, cutG_hi (by omega) (by omega), condT]
  -- the changed text
  generalize ht : catS (catS (cutS none (some (i : Int)) s) (strOf [by'])) (cutS (some ((i + 1 : Nat) : Int)) none s) = t
  have td : t.data.toList = s.data.toList.take i ++ UInt8.ofNat by'.toNat :: s.data.toList.drop (i + 1) := by
    rw [← ht, catS_data, catS_data, cutS_hi, strOf_data, cutS_lo]
    simp
  have sd : s.data.toList = s.data.toList.take i ++ s.data.toList[i] :: s.data.toList.drop (i + 1) := by
    rw [← List.drop_eq_getElem_cons hl, List.take_append_drop]
  have tsz : t.size = s.size := by
    rw [← data_size t, td]
    simp only [List.length_append, List.length_cons, List.length_take, List.length_drop]
    rw [data_size]; omega
  have z1 : (cutS none (some (i : Int)) s).size = i := by rw [← data_size, cutS_hi, List.length_take, data_size]; omega
  have z2 : (strOf [by']).size = 1 := by rw [strOf_size]; rfl
  have z3 : (cutS (some ((i + 1 : Nat) : Int)) none s).size = s.size - (i + 1) := by rw [← data_size, cutS_lo, List.length_drop, data_size]
  rw [catOk_t (by rw [z1, z2]; omega), condT, cutG_lo (by omega) (by omega), condT, catOk_t (by rw [catS_size, z1, z2, z3]; omega), condT]
  have hX : ∀ x ∈ [(⟨#[120]⟩ : ByteArray), s, (⟨#[121]⟩ : ByteArray)], x.size ≤ 1000000 := by
    intro x hx
    simp only [List.mem_cons, List.not_mem_nil, or_false] at hx
    rcases hx with rfl | rfl | rfl
    · decide
    · omega
    · decide
  have hY : ∀ x ∈ [(⟨#[120]⟩ : ByteArray), t, (⟨#[121]⟩ : ByteArray)], x.size ≤ 1000000 := by
    intro x hx
    simp only [List.mem_cons, List.not_mem_nil, or_false] at hx
    rcases hx with rfl | rfl | rfl
    · decide
    · omega
    · decide
  rw [Links_eq _ (by simp) hX _ (by omega), bindO_s, Links_eq _ (by simp) hY _ (by omega), bindO_s]
  simp only [linksD]
  generalize hd : chainD 0 (⟨#[120]⟩ : ByteArray) = d
  have db : 0 ≤ d ∧ d < 2305843009213693951 := by rw [← hd]; exact chainD_bd _ _
  have cs := chainD_bd d s
  have ct := chainD_bd d t
  have iff1 := dig_eq_iff _ _ _ _ s t sd td
  have iff2 := chain_eq_iff _ _ _ _ s t d sd td
  have iff3 : (chainD (chainD d s) (⟨#[121]⟩ : ByteArray) = chainD (chainD d t) (⟨#[121]⟩ : ByteArray)) ↔ t = s :=
    ⟨fun h => iff2.1 (chainD_inj _ cs.1 cs.2 ct.1 ct.2 h), fun h => by rw [h]⟩
  have bq : ∀ (x y : Int), (x = y ↔ t = s) → eqB (x == y) (eqS t s) = true := fun x y h => by
    unfold eqB
    rw [eqS_iff]
    by_cases hq : t = s
    · rw [decide_eq_true hq, beq_iff_eq.2 (h.2 hq)]; rfl
    · have : ¬ (x = y) := fun e => hq (h.1 e)
      rw [decide_eq_false hq, beq_eq_false_iff_ne.2 this]; rfl
  have l3 : ∀ a b c : Int, (((List.length [a, b, c]) : Nat) : Int) = 3 := fun _ _ _ => rfl
  have i0 : ∀ a b c : Int, inb (0 : Int) (List.length [a, b, c]) = true := fun _ _ _ => rfl
  have i1 : ∀ a b c : Int, inb (1 : Int) (List.length [a, b, c]) = true := fun _ _ _ => rfl
  have i2 : ∀ a b c : Int, inb (2 : Int) (List.length [a, b, c]) = true := fun _ _ _ => rfl
  have g0 : ∀ a b c : Int, gd (0 : Int) [a, b, c] 0 = a := fun _ _ _ => rfl
  have g1 : ∀ a b c : Int, gd (0 : Int) [a, b, c] 1 = b := fun _ _ _ => rfl
  have g2 : ∀ a b c : Int, gd (0 : Int) [a, b, c] 2 = c := fun _ _ _ => rfl
  rw [l3, l3, bne_self_eq_false, condF, condF, i0, i0, condT, condT, g0, g0, beq_self_eq_true, condT, Of_eq s (by omega) _ (by omega), bindO_s, Of_eq t (by omega) _ (by omega), bindO_s, bq _ _ iff1, condT,
    i1, i1, condT, condT, g1, g1, bq _ _ iff2, condT, i2, i2, condT, condT, g2, g2, bq _ _ iff3, condT, alive_k _ (by omega), bindO_s]
theorem DigestNotices_plain : ∀ x : ArgsD law07_DigestNotices.E.ps, WFA law07_DigestNotices.E.ps x → ∃ k, law07_DigestNotices.E.fn k x = some true := by
  intro x h
  obtain ⟨a0, a1, a2, u⟩ := x
  obtain ⟨_, h2, h3, _⟩ := h
  simp only [WFr, WFc] at h2 h3
  exact ⟨2000000, law_DigestNotices a0 a1 a2 (wf_u16 h2).1 (wf_u16 h2).2 (wf_u8 h3).1 (wf_u8 h3).2⟩
end Go.Gm
