/- Reading digits. -/
import Derived.Test.YtclmkhbdnidhpaaM07d
set_option linter.unusedVariables false
set_option linter.unusedSimpArgs false
namespace Go.Gm
open Go.Pi

/-- The value of a digit, or none. -/
def dv (c : UInt8) : Option Int := if 48 ≤ (c.toNat : Int) ∧ (c.toNat : Int) ≤ 57 then some ((c.toNat : Int) - 48) else if 97 ≤ (c.toNat : Int) ∧ (c.toNat : Int) ≤ 102 then some ((c.toNat : Int) - 87) else none
def parseD : List UInt8 → Int → Option Int
  | [], x => some x
  | c :: l, x => match dv c with
    | some v => parseD l (x * 16 + v)
    | none => none
theorem dv_bd {c : UInt8} {v : Int} (h : dv c = some v) : 0 ≤ v ∧ v < 16 := by
  unfold dv at h
  split at h
  · cases h; omega
  · split at h
    · cases h; omega
    · cases h
def parseR (s : ByteArray) : Int × Int := if s.size = 16 then match parseD s.data.toList 0 with
    | some v => if v ≥ 2305843009213693951 then (0, 3) else (v, 0)
    | none => (0, 2)
  else (0, 2)

theorem Parse_l0 (s : ByteArray) (hs : s.size = 16) : ∀ (n k i : Nat) (x : Int), n = 16 - i → i ≤ 16 → n + 1 ≤ k → 0 ≤ x → x < 16 ^ i →
    digest_Parse.l0 k s x (i : Int) = some (match parseD (s.data.toList.drop i) x with
      | some v => if v ≥ 2305843009213693951 then (0, 3) else (v, 0)
      | none => (0, 2)) := by
  intro n
  induction n with
  | zero =>
    intro k i x hn hi hk h0 hx
    obtain ⟨k, rfl⟩ : ∃ m, k = m + 1 := ⟨k - 1, by omega⟩
    have c : ¬ ((i : Int) < 16) := by omega
    rw [List.drop_of_length_le (by simp; omega)]
    simp only [digest_Parse.l0, decide_eq_false c, condF, parseD]
    by_cases h : x ≥ 2305843009213693951
    · rw [decide_eq_true h, condT, if_pos h]
    · rw [decide_eq_false h, condF, if_neg h]
  | succ n ih =>
    intro k i x hn hi hk h0 hx
    obtain ⟨k, rfl⟩ : ∃ m, k = m + 1 := ⟨k - 1, by omega⟩
    have hlt : i < s.size := by omega
    have hl : i < s.data.toList.length := by simpa using hlt
    have c : (i : Int) < 16 := by omega
    have hp : (16 : Int) ^ i ≤ 16 ^ 15 := by
      have := Nat.pow_le_pow_right (n := 16) (by decide) (show i ≤ 15 by omega)
      exact_mod_cast this
    have hx60 : x < 1152921504606846976 := by
      have e : (16 : Int) ^ 15 = 1152921504606846976 := by decide
      omega
    have hb := (s.data.toList[i]'hl).toNat_lt
    rw [drop_get _ i hl]
    generalize hc : (s.data.toList[i]'hl) = ch at *
    have hbt : bt s (i : Int) = (ch.toNat : Int) := by rw [bt_get s i hlt, hc]
    have hps : (16 : Int) ^ (i + 1) = 16 ^ i * 16 := Int.pow_succ ..
    have sh : zshl .u64 x 4 = x * 16 := by rw [zshl4]; omega
    have or' : ∀ v : Int, 0 ≤ v → v < 16 → zbits .or .u64 (x * 16) v = x * 16 + v := fun v g0 g1 => by
      have e : (2 : Int) ^ 4 = 16 := by decide
      exact zor_parts _ _ 4 (by decide) (by omega) (by omega) (by rw [e]; omega) g0 (by rw [e]; exact g1)
    have w3 : IntKind.i64.wrap ((i : Int) + 1) = ((i + 1 : Nat) : Int) := by rw [i64_in (by omega) (by omega)]; omega
    have next := fun v (g : 0 ≤ v ∧ v < 16) => ih k (i + 1) (x * 16 + v) (by omega) (by omega) (by omega) (by omega) (by omega)
    by_cases c1 : (ch.toNat : Int) ≥ 48 ∧ (ch.toNat : Int) ≤ 57
    · have hv : dv ch = some ((ch.toNat : Int) - 48) := by unfold dv; rw [if_pos ⟨c1.1, c1.2⟩]
      simp only [digest_Parse.l0, decide_eq_true c, condT, inb_t (Int.natCast_nonneg i) (show (i : Int) < (s.size : Int) by omega), hbt, decide_eq_true c1.1, decide_eq_true c1.2, sh, w3, parseD, hv]
      rw [u8_in (by omega) (by omega), u64_in (by omega) (by omega), or' _ (by omega) (by omega)]
      exact next _ (by omega)
    · by_cases c2 : (ch.toNat : Int) ≥ 97 ∧ (ch.toNat : Int) ≤ 102
      · have hv : dv ch = some ((ch.toNat : Int) - 87) := by unfold dv; rw [if_neg c1, if_pos ⟨c2.1, c2.2⟩]
        have c3 : ¬ ((ch.toNat : Int) ≤ 57) := by omega
        have c4 : (ch.toNat : Int) ≥ 48 := by omega
        simp only [digest_Parse.l0, decide_eq_true c, condT, condF, inb_t (Int.natCast_nonneg i) (show (i : Int) < (s.size : Int) by omega), hbt, decide_eq_true c4, decide_eq_false c3, decide_eq_true c2.1, decide_eq_true c2.2, sh, w3, parseD, hv]
        rw [u8_in (x := (ch.toNat : Int) - 97) (by omega) (by omega), u8_in (by omega) (by omega), u64_in (by omega) (by omega), or' _ (by omega) (by omega)]
        have e : x * 16 + ((ch.toNat : Int) - 97 + 10) = x * 16 + ((ch.toNat : Int) - 87) := by omega
        rw [e]
        exact next _ (by omega)
      · have hv : dv ch = none := by unfold dv; rw [if_neg c1, if_neg c2]
        simp only [digest_Parse.l0, decide_eq_true c, condT, inb_t (Int.natCast_nonneg i) (show (i : Int) < (s.size : Int) by omega), hbt, parseD, hv]
        by_cases d1 : (ch.toNat : Int) ≥ 48
        · have d2 : ¬ ((ch.toNat : Int) ≤ 57) := by omega
          by_cases d3 : (ch.toNat : Int) ≥ 97
          · have d4 : ¬ ((ch.toNat : Int) ≤ 102) := by omega
            rw [decide_eq_true d1, condT, decide_eq_false d2, condF, decide_eq_true d3, condT, decide_eq_false d4, condF]
          · rw [decide_eq_true d1, condT, decide_eq_false d2, condF, decide_eq_false d3, condF]
        · by_cases d3 : (ch.toNat : Int) ≥ 97
          · omega
          · rw [decide_eq_false d1, condF, decide_eq_false d3, condF]
theorem Parse_eq (s : ByteArray) (k : Nat) (hk : 17 ≤ k) : digest_Parse.f k s = some (parseR s) := by
  unfold digest_Parse.f parseR
  by_cases h : s.size = 16
  · have e : ((((s.size) : Nat) : Int) != (16 : Int)) = false := by rw [h]; rfl
    rw [e, condF, if_pos h]
    have := Parse_l0 s h 16 k 0 0 (by omega) (by omega) (by omega) (by decide) (by decide)
    simpa using this
  · have e : ((((s.size) : Nat) : Int) != (16 : Int)) = true := by
      rw [bne_iff_ne]; omega
    rw [e, condT, if_neg h]
theorem rParse_l0 (s : ByteArray) (hs : s.size = 16) : ∀ (n k i : Nat) (x : Int), n = 16 - i → i ≤ 16 → n + 1 ≤ k → 0 ≤ x → x < 16 ^ i →
    ref07_Parse.l0 k s x (i : Int) = some (match parseD (s.data.toList.drop i) x with
      | some v => if v ≥ 2305843009213693951 then (0, 3) else (v, 0)
      | none => (0, 2)) := by
  intro n
  induction n with
  | zero =>
    intro k i x hn hi hk h0 hx
    obtain ⟨k, rfl⟩ : ∃ m, k = m + 1 := ⟨k - 1, by omega⟩
    have c : ¬ ((i : Int) < (s.size : Int)) := by omega
    rw [List.drop_of_length_le (by simp; omega)]
    simp only [ref07_Parse.l0, decide_eq_false c, condF, parseD]
    by_cases h : x ≥ 2305843009213693951
    · rw [decide_eq_true h, condT, if_pos h]
    · rw [decide_eq_false h, condF, if_neg h]
  | succ n ih =>
    intro k i x hn hi hk h0 hx
    obtain ⟨k, rfl⟩ : ∃ m, k = m + 1 := ⟨k - 1, by omega⟩
    have hlt : i < s.size := by omega
    have hl : i < s.data.toList.length := by simpa using hlt
    have c : (i : Int) < (s.size : Int) := by omega
    have hp : (16 : Int) ^ i ≤ 16 ^ 15 := by
      have := Nat.pow_le_pow_right (n := 16) (by decide) (show i ≤ 15 by omega)
      exact_mod_cast this
    have hx60 : x < 1152921504606846976 := by
      have e : (16 : Int) ^ 15 = 1152921504606846976 := by decide
      omega
    have hb := (s.data.toList[i]'hl).toNat_lt
    rw [drop_get _ i hl]
    generalize hc : (s.data.toList[i]'hl) = ch at *
    have hbt : bt s (i : Int) = (ch.toNat : Int) := by rw [bt_get s i hlt, hc]
    have hps : (16 : Int) ^ (i + 1) = 16 ^ i * 16 := Int.pow_succ ..
    have w3 : IntKind.i64.wrap ((i : Int) + 1) = ((i + 1 : Nat) : Int) := by rw [i64_in (by omega) (by omega)]; omega
    have next := fun v (g : 0 ≤ v ∧ v < 16) => ih k (i + 1) (x * 16 + v) (by omega) (by omega) (by omega) (by omega) (by omega)
    by_cases c1 : (ch.toNat : Int) ≥ 48 ∧ (ch.toNat : Int) ≤ 57
    · have hv : dv ch = some ((ch.toNat : Int) - 48) := by unfold dv; rw [if_pos ⟨c1.1, c1.2⟩]
      simp only [ref07_Parse.l0, decide_eq_true c, condT, inb_t (Int.natCast_nonneg i) (show (i : Int) < (s.size : Int) by omega), hbt, decide_eq_true c1.1, decide_eq_true c1.2, w3, parseD, hv]
      rw [u64_in (x := 16 * x) (by omega) (by omega), u64_in (x := (ch.toNat : Int)) (by omega) (by omega)]
      have e : IntKind.u64.wrap (IntKind.u64.wrap (16 * x + (ch.toNat : Int)) - 48) = x * 16 + ((ch.toNat : Int) - 48) := by simp only [wrap_u64]; omega
      rw [e]
      exact next _ (by omega)
    · by_cases c2 : (ch.toNat : Int) ≥ 97 ∧ (ch.toNat : Int) ≤ 102
      · have hv : dv ch = some ((ch.toNat : Int) - 87) := by unfold dv; rw [if_neg c1, if_pos ⟨c2.1, c2.2⟩]
        have c3 : ¬ ((ch.toNat : Int) ≤ 57) := by omega
        have c4 : (ch.toNat : Int) ≥ 48 := by omega
        simp only [ref07_Parse.l0, decide_eq_true c, condT, condF, inb_t (Int.natCast_nonneg i) (show (i : Int) < (s.size : Int) by omega), hbt, decide_eq_true c4, decide_eq_false c3, decide_eq_true c2.1, decide_eq_true c2.2, w3, parseD, hv]
        rw [u64_in (x := 16 * x) (by omega) (by omega), u64_in (x := (ch.toNat : Int)) (by omega) (by omega)]
        have e : IntKind.u64.wrap (IntKind.u64.wrap (IntKind.u64.wrap (16 * x + (ch.toNat : Int)) - 97) + 10) = x * 16 + ((ch.toNat : Int) - 87) := by simp only [wrap_u64]; omega
        rw [e]
        exact next _ (by omega)
      · have hv : dv ch = none := by unfold dv; rw [if_neg c1, if_neg c2]
        simp only [ref07_Parse.l0, decide_eq_true c, condT, inb_t (Int.natCast_nonneg i) (show (i : Int) < (s.size : Int) by omega), hbt, parseD, hv]
        by_cases d1 : (ch.toNat : Int) ≥ 48
        · have d2 : ¬ ((ch.toNat : Int) ≤ 57) := by omega
          by_cases d3 : (ch.toNat : Int) ≥ 97
          · have d4 : ¬ ((ch.toNat : Int) ≤ 102) := by omega
            rw [decide_eq_true d1, condT, decide_eq_false d2, condF, decide_eq_true d3, condT, decide_eq_false d4, condF]
          · rw [decide_eq_true d1, condT, decide_eq_false d2, condF, decide_eq_false d3, condF]
        · by_cases d3 : (ch.toNat : Int) ≥ 97
          · omega
          · rw [decide_eq_false d1, condF, decide_eq_false d3, condF]
theorem rParse_eq (s : ByteArray) (k : Nat) (hk : 17 ≤ k) : ref07_Parse.f k s = some (parseR s) := by
  unfold ref07_Parse.f parseR
  by_cases h : s.size = 16
  · have e : ((((s.size) : Nat) : Int) != (16 : Int)) = false := by rw [h]; rfl
    rw [e, condF, if_pos h]
    have := rParse_l0 s h 16 k 0 0 (by omega) (by omega) (by omega) (by decide) (by decide)
    simpa using this
  · have e : ((((s.size) : Nat) : Int) != (16 : Int)) = true := by
      rw [bne_iff_ne]; omega
    rw [e, condT, if_neg h]

/-! digits and numbers -/
def u8L (l : List Int) : List UInt8 := l.map fun n => UInt8.ofNat n.toNat
theorem dv_dg (n : Int) (h0 : 0 ≤ n) (h1 : n < 16) : dv (UInt8.ofNat (dg n).toNat) = some n := by
  obtain ⟨m, rfl⟩ := Int.eq_ofNat_of_zero_le h0
  have key : ∀ m : Fin 16, dv (UInt8.ofNat (dg ((m.val : Nat) : Int)).toNat) = some ((m.val : Nat) : Int) := by decide
  exact key ⟨m, by omega⟩
theorem dg_dv {c : UInt8} {v : Int} (h : dv c = some v) : UInt8.ofNat (dg v).toNat = c := by
  have key : ∀ m : Fin 256, ∀ v : Fin 16, dv (UInt8.ofNat m.val) = some ((v.val : Nat) : Int) → UInt8.ofNat (dg ((v.val : Nat) : Int)).toNat = UInt8.ofNat m.val := by decide +kernel
  obtain ⟨h0, h1⟩ := dv_bd h
  obtain ⟨m, rfl⟩ := Int.eq_ofNat_of_zero_le h0
  have hc : UInt8.ofNat c.toNat = c := by simp
  have := key ⟨c.toNat, c.toNat_lt⟩ ⟨m, by omega⟩ (by simpa [hc] using h)
  simpa [hc] using this
theorem emod_two (d q : Int) (hq : 0 < q) : d % (q * 16) = d % q + q * (d / q % 16) := by
  have e1 := Int.mul_ediv_add_emod d q
  have e2 := Int.mul_ediv_add_emod (d / q) 16
  have b1 := Int.emod_nonneg d (Int.ne_of_gt hq)
  have b2 := Int.emod_lt_of_pos d hq
  have b3 : 0 ≤ d / q % 16 := by omega
  have b4 : d / q % 16 ≤ 15 := by omega
  generalize d % q = s at *
  generalize hr : d / q % 16 = r at *
  generalize hm : d / q / 16 = m at *
  have e3 : d = (s + q * r) + (q * 16) * m := by rw [← e1, ← e2]; grind
  have b5 : 0 ≤ q * r := Int.mul_nonneg (Int.le_of_lt hq) b3
  have b6 : q * r ≤ q * 15 := Int.mul_le_mul_of_nonneg_left b4 (Int.le_of_lt hq)
  rw [e3, Int.add_mul_emod_self_left, Int.emod_eq_of_lt (by omega) (by omega)]
theorem parse_hex : ∀ (n : Nat) (d x : Int), 0 ≤ d → parseD (u8L (hexL n d)) x = some (x * 16 ^ n + d % 16 ^ n)
  | 0, d, x, h => by simp [hexL, u8L, parseD, Int.emod_one]
  | n + 1, d, x, h => by
    have hp : (0 : Int) < 16 ^ n := Int.pow_pos (by decide)
    have hq : 0 ≤ d / 16 ^ n := Int.ediv_nonneg h (Int.le_of_lt hp)
    have e : u8L (hexL (n + 1) d) = UInt8.ofNat (dg (d / 16 ^ n % 16)).toNat :: u8L (hexL n d) := rfl
    rw [e, parseD, dv_dg _ (by omega) (by omega)]
    simp only
    rw [parse_hex n d _ h, Int.pow_succ]
    congr 1
    have h1 : d % (16 ^ n * 16) = d % 16 ^ n + 16 ^ n * (d / 16 ^ n % 16) := emod_two d _ hp
    rw [h1]
    grind
theorem hex_parse : ∀ (l : List UInt8) (x v : Int), 0 ≤ x → parseD l x = some v → 0 ≤ v ∧ v / 16 ^ l.length = x ∧ u8L (hexL l.length v) = l
  | [], x, v, h0, h => by
    simp only [parseD, Option.some.injEq] at h
    subst h
    exact ⟨h0, by simp, rfl⟩
  | c :: l, x, v, h0, h => by
    unfold parseD at h
    split at h
    · rename_i w hw
      obtain ⟨b0, b1⟩ := dv_bd hw
      obtain ⟨g1, g2, g3⟩ := hex_parse l (x * 16 + w) v (by omega) h
      have hp : (0 : Int) < 16 ^ l.length := Int.pow_pos (by decide)
      refine ⟨g1, ?_, ?_⟩
      · rw [List.length_cons, Int.pow_succ, ← Int.ediv_ediv_of_nonneg (Int.le_of_lt hp), g2]; omega
      · have e : u8L (hexL (l.length + 1) v) = UInt8.ofNat (dg (v / 16 ^ l.length % 16)).toNat :: u8L (hexL l.length v) := rfl
        rw [List.length_cons, e, g2, g3]
        have : (x * 16 + w) % 16 = w := by omega
        rw [this, dg_dv hw]
    · cases h
theorem hexS_size (d : Int) : (hexS d).size = 16 := by unfold hexS; rw [strOf_size, hexL_len]
theorem hexS_data (d : Int) : (hexS d).data.toList = u8L (hexL 16 d) := by unfold hexS; rw [strOf_data]; rfl
theorem parse_hexS (d : Int) (h0 : 0 ≤ d) (h1 : d < 18446744073709551616) : parseR (hexS d) = if d ≥ 2305843009213693951 then (0, 3) else (d, 0) := by
  unfold parseR
  rw [if_pos (hexS_size d), hexS_data, parse_hex 16 d 0 h0]
  have e : (0 : Int) * 16 ^ 16 + d % 16 ^ 16 = d := by
    have : (16 : Int) ^ 16 = 18446744073709551616 := by decide
    rw [this]; omega
  rw [e]
theorem hexS_parse (s : ByteArray) (v : Int) (h : parseR s = (v, 0)) : 0 ≤ v ∧ v < 2305843009213693951 ∧ hexS v = s := by
  unfold parseR at h
  split at h
  · rename_i hs
    split at h
    · rename_i w hw
      split at h
      · cases h
      · cases h
        obtain ⟨g1, g2, g3⟩ := hex_parse _ 0 v (by decide) hw
        have hl : s.data.toList.length = 16 := by simpa using hs
        rw [hl] at g3
        exact ⟨g1, by omega, bytes_ext (by rw [hexS_data, g3])⟩
    · cases h
  · cases h
theorem parseR_no (s : ByteArray) (h : (parseR s).2 ≠ 0) : (parseR s).1 = 0 := by
  unfold parseR at h ⊢
  split
  · rename_i hs
    rw [if_pos hs] at h
    split
    · rename_i w hw
      rw [hw] at h
      simp only at h
      split
      · rfl
      · rename_i hc
        rw [if_neg hc] at h
        exact absurd rfl h
    · rfl
  · rfl
end Go.Gm
