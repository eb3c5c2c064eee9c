/- The laws of chapter 7, as plain statements (2). -/
import Derived.Test.YtclmkhbdnidhpaaM07e
import Derived.Test.YtclmkhbdnidhpaaB07x0
set_option linter.unusedVariables false
set_option linter.unusedSimpArgs false
set_option maxRecDepth 100000
namespace Go.Gm
open Go.Pi

theorem alive_E : law07_alive.E.fn 2000 () = some true := by kernel_rfl
theorem alive_k (k : Nat) (hk : 2000 ≤ k) : law07_alive.f k = some true := law07_alive.H.m 2000 k () _ hk alive_E
theorem aliveAt : law07_alive.f 2000 = some true := alive_k 2000 (Nat.le_refl _)

/-! lists -/
theorem light_l0 (l : List ByteArray) (hl : l.length ≤ 30) : ∀ (n k i : Nat), n = l.length - i → i ≤ l.length → n + 1 ≤ k → ∃ b, law07_light.l0 k l (i : Int) = some b ∧ (b = true → ∀ s ∈ l.drop i, s.size ≤ 200) := by
  intro n
  induction n with
  | zero =>
    intro k i hn hi hk
    obtain ⟨k, rfl⟩ : ∃ m, k = m + 1 := ⟨k - 1, by omega⟩
    have : ¬ ((i : Int) < (l.length : Int)) := by omega
    refine ⟨true, by simp only [law07_light.l0, decide_eq_false this, condF], fun _ s hs => ?_⟩
    rw [List.drop_of_length_le (by omega)] at hs
    cases hs
  | succ n ih =>
    intro k i hn hi hk
    obtain ⟨k, rfl⟩ : ∃ m, k = m + 1 := ⟨k - 1, by omega⟩
    have hlt : i < l.length := by omega
    have c : (i : Int) < (l.length : Int) := by omega
    have w3 : IntKind.i64.wrap ((i : Int) + 1) = ((i + 1 : Nat) : Int) := by rw [i64_in (by omega) (by omega)]; omega
    simp only [law07_light.l0, decide_eq_true c, condT, inb_t (Int.natCast_nonneg i) c, gd_get _ l i hlt, w3]
    by_cases hb : (((l[i]).size : Nat) : Int) > 200
    · rw [decide_eq_true hb, condT]
      exact ⟨false, rfl, fun h => by cases h⟩
    · rw [decide_eq_false hb, condF]
      obtain ⟨b, h1, h2⟩ := ih k (i + 1) (by omega) (by omega) (by omega)
      refine ⟨b, h1, fun h s hs => ?_⟩
      rw [List.drop_eq_getElem_cons hlt] at hs
      rcases List.mem_cons.1 hs with rfl | hs
      · omega
      · exact h2 h s hs
theorem light_eq (l : List ByteArray) (k : Nat) (hk : 40 ≤ k) : ∃ b, law07_light.f k l = some b ∧ (b = true → l.length ≤ 30 ∧ ∀ s ∈ l, s.size ≤ 200) := by
  unfold law07_light.f
  by_cases h : ((l.length : Nat) : Int) > 30
  · rw [decide_eq_true h, condT]
    exact ⟨false, rfl, fun h => by cases h⟩
  · rw [decide_eq_false h, condF]
    obtain ⟨b, h1, h2⟩ := light_l0 l (by omega) l.length k 0 (by omega) (by omega) (by omega)
    exact ⟨b, h1, fun hb => ⟨by omega, by simpa using h2 hb⟩⟩

theorem lists_l0' (l : List Int) (hl : l.length ≤ 1000) : ∀ (n k i : Nat), n = l.length - i → i ≤ l.length → 2000 ≤ k → law07_DigestLists.l0 (k + n + 1) (i : Int) l l = some true := by
  intro n
  induction n with
  | zero =>
    intro k i hn hi hk
    have : ¬ ((i : Int) < (l.length : Int)) := by omega
    rw [law07_DigestLists.l0]
    simp only [Nat.add_zero, decide_eq_false this, condF, alive_k k hk, bindO_s]
  | succ n ih =>
    intro k i hn hi hk
    have hlt : i < l.length := by omega
    have c : (i : Int) < (l.length : Int) := by omega
    rw [show k + (n + 1) + 1 = (k + n + 1) + 1 by omega, law07_DigestLists.l0]
    simp only [decide_eq_true c, condT, inb_t (Int.natCast_nonneg i) c, bne_self_eq_false, condF]
    rw [i64_in (by omega) (by omega), show ((i : Int) + 1) = ((i + 1 : Nat) : Int) by omega]
    exact ih k (i + 1) (by omega) (by omega) hk
theorem law_DigestLists (l : List ByteArray) : law07_DigestLists.f 2000000 l = some true := by
  unfold law07_DigestLists.f
  obtain ⟨b, h1, h2⟩ := light_eq l 2000000 (by omega)
  rw [h1, bindO_s]
  cases b with
  | false => simp only [notB, Bool.not_false, condT, alive_k 2000000 (by omega), bindO_s]
  | true =>
    obtain ⟨g1, g2⟩ := h2 rfl
    simp only [notB, Bool.not_true, condF]
    rw [Links_eq l (by omega) (fun s hs => by have := g2 s hs; omega) _ (by omega), bindO_s, rLinks_eq l (by omega) (fun s hs => by have := g2 s hs; omega) _ (by omega), bindO_s, bne_self_eq_false, condF]
    have := lists_l0' (linksD l 0) (by rw [linksD_len]; omega) l.length (2000000 - l.length - 1) 0 (by rw [linksD_len]; omega) (by omega) (by omega)
    rw [show 2000000 - l.length - 1 + l.length + 1 = 2000000 by omega] at this
    exact this
theorem DigestLists_plain : ∀ x : ArgsD law07_DigestLists.E.ps, WFA law07_DigestLists.E.ps x → ∃ k, law07_DigestLists.E.fn k x = some true := by
  intro x h
  obtain ⟨a0, u⟩ := x
  exact ⟨2000000, law_DigestLists a0⟩

/-! texts -/
theorem law_DigestTexts (d : Int) (s : ByteArray) (h0 : 0 ≤ d) (h1 : d < 18446744073709551616) : law07_DigestTexts.f 2000 d s = some true := by
  unfold law07_DigestTexts.f
  by_cases c : ((s.size : Nat) : Int) > 100
  · rw [decide_eq_true c, condT, aliveAt, bindO_s]
  · rw [decide_eq_false c, condF, Parse_eq s _ (by omega), bindO_s, rParse_eq s _ (by omega), bindO_s, Hex_eq d h0 h1 _ (by omega), bindO_s, rHex_eq d h0 h1 _ (by omega), bindO_s, eqS_iff, decide_eq_true rfl, condT,
      beq_self_eq_true, condT, beq_self_eq_true, condT, aliveAt, bindO_s]
theorem DigestTexts_plain : ∀ x : ArgsD law07_DigestTexts.E.ps, WFA law07_DigestTexts.E.ps x → ∃ k, law07_DigestTexts.E.fn k x = some true := by
  intro x h
  obtain ⟨a0, a1, u⟩ := x
  obtain ⟨h2, _⟩ := h
  simp only [WFr, WFc] at h2
  exact ⟨2000, law_DigestTexts a0 a1 (wf_u64 h2).1 (wf_u64 h2).2⟩

theorem reads_tail (s : ByteArray) (X : Int × Int → Option Bool) : (bindO (digest_Parse.f 2000 s) fun r => (bif (r.2 != (0 : Int)) then (bif (r.1 == (0 : Int)) then (bindO (law07_alive.f 2000) fun r10 => (some r10)) else X r) else
    (bif (r.2 == (0 : Int)) then (bif (decide (r.1 < (2305843009213693951 : Int))) then (bindO (digest_Hex.f 2000 r.1) fun r13 => (bif (eqS r13 s) then (bindO (law07_alive.f 2000) fun r14 => (some r14)) else (some false))) else (some false)) else (some false)))) = some true := by
  rw [Parse_eq s _ (by omega), bindO_s]
  by_cases h : (parseR s).2 = 0
  · have e : ((parseR s).2 != (0 : Int)) = false := by rw [h]; rfl
    have e2 : ((parseR s).2 == (0 : Int)) = true := by rw [h]; rfl
    obtain ⟨g1, g2, g3⟩ := hexS_parse s (parseR s).1 (by rw [← h])
    rw [e, condF, e2, condT, decide_eq_true g2, condT, Hex_eq _ g1 (by omega) _ (by omega), bindO_s, eqS_iff, g3, decide_eq_true rfl, condT, aliveAt, bindO_s]
  · have e : ((parseR s).2 != (0 : Int)) = true := by simpa using h
    rw [e, condT, parseR_no s h, beq_self_eq_true, condT, aliveAt, bindO_s]
theorem law_DigestReads (d : Int) (s : ByteArray) (h0 : 0 ≤ d) (h1 : d < 18446744073709551616) : law07_DigestReads.f 2000 d s = some true := by
  unfold law07_DigestReads.f
  by_cases c : ((s.size : Nat) : Int) > 100
  · rw [decide_eq_true c, condT, aliveAt, bindO_s]
  · rw [decide_eq_false c, condF, Hex_eq d h0 h1 _ (by omega), bindO_s, Parse_eq (hexS d) _ (by omega), bindO_s, parse_hexS d h0 h1, hexS_size]
    have e : (((16 : Nat) : Int) != (16 : Int)) = false := rfl
    rw [e, condF]
    by_cases hd : d < 2305843009213693951
    · have hd' : ¬ (d ≥ 2305843009213693951) := by omega
      rw [decide_eq_true hd, condT, if_neg hd']
      have e1 : ((0 : Int) != 0) = false := rfl
      simp only [e1, condF, bne_self_eq_false, decide_eq_false hd']
      exact reads_tail s _
    · have hd' : d ≥ 2305843009213693951 := by omega
      rw [decide_eq_false hd, condF, if_pos hd', decide_eq_true hd', condT]
      have e1 : ((3 : Int) != 3) = false := rfl
      simp only [e1, condF]
      exact reads_tail s _
theorem DigestReads_plain : ∀ x : ArgsD law07_DigestReads.E.ps, WFA law07_DigestReads.E.ps x → ∃ k, law07_DigestReads.E.fn k x = some true := by
  intro x h
  obtain ⟨a0, a1, u⟩ := x
  obtain ⟨h2, _⟩ := h
  simp only [WFr, WFc] at h2
  exact ⟨2000, law_DigestReads a0 a1 (wf_u64 h2).1 (wf_u64 h2).2⟩

/-! bounds -/
theorem joinD_mod (a b : Int) (n : Nat) : joinD (a % 2305843009213693951) n (b % 2305843009213693951) = joinD a n b := by
  unfold joinD
  rw [Int.add_emod, Int.mul_emod, Int.emod_emod, Int.emod_emod, ← Int.mul_emod, ← Int.add_emod]
theorem joinD_mod1 (a b : Int) (n : Nat) : joinD (a % 2305843009213693951) n b = joinD a n b := by
  unfold joinD
  rw [Int.add_emod, Int.mul_emod, Int.emod_emod, ← Int.mul_emod, ← Int.add_emod]
theorem law_DigestBounds (s : ByteArray) (x : Int × Int × Int) (h1 : 0 ≤ x.1) (h2 : x.2.1 ≤ 9223372036854775807) (h3 : 0 ≤ x.2.2) : law07_DigestBounds.f 10000 s x = some true := by
  unfold law07_DigestBounds.f
  by_cases c : ((s.size : Nat) : Int) > 2000
  · rw [decide_eq_true c, condT, alive_k _ (by omega), bindO_s]
  · have jb := joinD_bd x.1 x.2.1.toNat x.2.2
    have db := dig_bd s
    have fm : List.foldl zmax x.2.1 [(0 : Int)] = if 0 > x.2.1 then 0 else x.2.1 := rfl
    have fle : (if 0 > x.2.1 then 0 else x.2.1) ≤ 9223372036854775807 := by split <;> omega
    have fnat : (if 0 > x.2.1 then (0 : Int) else x.2.1).toNat = x.2.1.toNat := by split <;> omega
    rw [decide_eq_false c, condF, Join_eq _ (by omega) _ _ _ h1 h3 h2, bindO_s, Of_eq s (by omega) _ (by omega), bindO_s, decide_eq_true db.2, condT, decide_eq_true jb.2, condT, tmod_nn h1, tmod_nn h3, fm,
      Join_eq _ (by omega) _ _ _ (by omega) (by omega) fle, bindO_s, fnat, joinD_mod, beq_self_eq_true, condT, Chain_eq _ _ _ h1 (by omega) (by omega), bindO_s, Chain_eq _ _ _ (by omega) (by omega) (by omega), bindO_s]
    have e : chainD (x.1 % 2305843009213693951) s = chainD x.1 s := joinD_mod1 _ _ _
    rw [e, beq_self_eq_true, condT, Join_eq _ (by omega) _ _ _ (by omega) jb.1 (by omega), bindO_s]
    have e2 : joinD 0 (1 : Int).toNat (joinD x.1 x.2.1.toNat x.2.2) = joinD x.1 x.2.1.toNat x.2.2 := by
      generalize joinD x.1 x.2.1.toNat x.2.2 = y at *
      unfold joinD
      rw [Int.zero_mul, Int.zero_add]; omega
    rw [e2, beq_self_eq_true, condT, alive_k _ (by omega), bindO_s]
theorem DigestBounds_plain : ∀ x : ArgsD law07_DigestBounds.E.ps, WFA law07_DigestBounds.E.ps x → ∃ k, law07_DigestBounds.E.fn k x = some true := by
  intro x h
  obtain ⟨a0, a1, u⟩ := x
  obtain ⟨_, h2, _⟩ := h
  simp only [WFr, WFc] at h2
  exact ⟨10000, law_DigestBounds a0 a1 (wf_u64 h2.1).1 (wf_i64 h2.2.1).2 (wf_u64 h2.2.2).1⟩

/-! joins -/
theorem dgs_mul : ∀ (l : List UInt8) (d : Int), 0 ≤ d → d < 2305843009213693951 → dgs l d = (d * 1099511628211 ^ l.length + dgs l 0) % 2305843009213693951
  | [], d, h0, h1 => by simp [dgs]; omega
  | c :: l, d, h0, h1 => by
    show dgs l _ = (d * _ + dgs l _) % _
    rw [dgs_mul l _ (by omega) (by omega), dgs_mul l ((0 * 1099511628211 + (c.toNat : Int) + 1) % 2305843009213693951) (by omega) (by omega), List.length_cons, Int.pow_succ]
    generalize (1099511628211 : Int) ^ l.length = w
    generalize dgs l 0 = e
    have k1 : ((d * 1099511628211 + (c.toNat : Int) + 1) % 2305843009213693951 * w + e) % 2305843009213693951 = ((d * 1099511628211 + (c.toNat : Int) + 1) * w + e) % 2305843009213693951 := by
      rw [Int.add_emod, Int.mul_emod, Int.emod_emod, ← Int.mul_emod, ← Int.add_emod]
    have k2 : (d * (w * 1099511628211) + ((0 * 1099511628211 + (c.toNat : Int) + 1) % 2305843009213693951 * w + e) % 2305843009213693951) % 2305843009213693951 = (d * (w * 1099511628211) + ((0 * 1099511628211 + (c.toNat : Int) + 1) * w + e)) % 2305843009213693951 := by
      have k3 : ((0 * 1099511628211 + (c.toNat : Int) + 1) % 2305843009213693951 * w + e) % 2305843009213693951 = ((0 * 1099511628211 + (c.toNat : Int) + 1) * w + e) % 2305843009213693951 := by
        rw [Int.add_emod, Int.mul_emod, Int.emod_emod, ← Int.mul_emod, ← Int.add_emod]
      rw [k3, Int.add_emod, Int.emod_emod, ← Int.add_emod]
    rw [k1, k2]
    congr 1
    grind
theorem dig_cat (s t : ByteArray) : dig (catS s t) = joinD (dig s) t.size (dig t) := by
  unfold dig joinD
  have hb := dgs_bd s.data.toList 0 (by decide) (by decide)
  have hl : t.data.toList.length = t.size := by simp
  rw [catS_data, dgs_append, dgs_mul _ _ hb.1 hb.2, hl]
theorem joinD_joinD (a b c : Int) (n m : Nat) : joinD (joinD a n b) m c = joinD a (n + m) (joinD b m c) := by
  unfold joinD
  generalize hw : (1099511628211 : Int) ^ m = w
  rw [Int.pow_add, hw]
  generalize (1099511628211 : Int) ^ n = v
  have k1 : ((a * v + b) % 2305843009213693951 * w + c) % 2305843009213693951 = ((a * v + b) * w + c) % 2305843009213693951 := by
    rw [Int.add_emod, Int.mul_emod, Int.emod_emod, ← Int.mul_emod, ← Int.add_emod]
  have k2 : (a * (v * w) + (b * w + c) % 2305843009213693951) % 2305843009213693951 = (a * (v * w) + (b * w + c)) % 2305843009213693951 := by
    rw [Int.add_emod, Int.emod_emod, ← Int.add_emod]
  rw [k1, k2]
  congr 1
  grind
theorem law_DigestJoins (s t u : ByteArray) : law07_DigestJoins.f 10000 s t u = some true := by
  unfold law07_DigestJoins.f
  by_cases c1 : ((s.size : Nat) : Int) > 1000
  · rw [decide_eq_true c1, condT, alive_k _ (by omega), bindO_s]
  by_cases c2 : ((t.size : Nat) : Int) > 1000
  · rw [decide_eq_false c1, condF, decide_eq_true c2, condT, alive_k _ (by omega), bindO_s]
  by_cases c3 : ((u.size : Nat) : Int) > 1000
  · rw [decide_eq_false c1, condF, decide_eq_false c2, condF, decide_eq_true c3, condT, alive_k _ (by omega), bindO_s]
  have hs := dig_bd s
  have ht := dig_bd t
  have hu := dig_bd u
  have hjt := joinD_bd (dig s) t.size (dig t)
  have hju := joinD_bd (dig t) u.size (dig u)
  have J := fun (a n b : Int) (ha : 0 ≤ a) (hn : n ≤ 9223372036854775807) (hb : 0 ≤ b) => Join_eq 10000 (by omega) a n b ha hb hn
  rw [decide_eq_false c1, condF, decide_eq_false c2, condF, decide_eq_false c3, condF, Of_eq s (by omega) _ (by omega), bindO_s, Of_eq t (by omega) _ (by omega), bindO_s, Of_eq u (by omega) _ (by omega), bindO_s,
    catOk_t (by omega), condT, Of_eq (catS s t) (by rw [catS_size]; omega) _ (by rw [catS_size]; omega), bindO_s, J _ _ _ hs.1 (by omega) ht.1, bindO_s, Int.toNat_natCast, dig_cat, bne_self_eq_false, condF,
    J _ _ _ hs.1 (by omega) ht.1, bindO_s, J _ _ _ ht.1 (by omega) hs.1, bindO_s]
  have e0 : joinD (dig s) (0 : Int).toNat (dig t) = joinD (dig t) (0 : Int).toNat (dig s) := by
    unfold joinD
    simp only [Int.toNat_zero, Int.pow_zero, Int.mul_one]
    rw [Int.add_comm]
  rw [e0, bne_self_eq_false, condF, bindO_s, J _ _ _ hjt.1 (by omega) hu.1, bindO_s, Int.toNat_natCast, J _ _ _ ht.1 (by omega) hu.1, bindO_s, Int.toNat_natCast,
    i64_in (by omega) (by omega), J _ _ _ hs.1 (by omega) hju.1, bindO_s, show ((t.size : Int) + (u.size : Int)).toNat = t.size + u.size by omega, joinD_joinD, beq_self_eq_true, condT, condT,
    catOk_t (by rw [catS_size]; omega), condT, Of_eq (catS (catS s t) u) (by rw [catS_size, catS_size]; omega) _ (by rw [catS_size, catS_size]; omega), bindO_s, dig_cat, dig_cat, joinD_joinD, beq_self_eq_true, condT, alive_k _ (by omega), bindO_s]
theorem DigestJoins_plain : ∀ x : ArgsD law07_DigestJoins.E.ps, WFA law07_DigestJoins.E.ps x → ∃ k, law07_DigestJoins.E.fn k x = some true := by
  intro x h
  obtain ⟨a0, a1, a2, u⟩ := x
  exact ⟨10000, law_DigestJoins a0 a1 a2⟩
end Go.Gm
