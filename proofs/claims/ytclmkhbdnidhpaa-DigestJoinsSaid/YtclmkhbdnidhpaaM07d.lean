/- Chains, lists of digests, digits. -/
import Derived.Test.YtclmkhbdnidhpaaM07b
import Derived.Laws.Strings
set_option linter.unusedVariables false
set_option linter.unusedSimpArgs false
namespace Go.Gm
open Go.Pi

theorem bytes_ext {s t : ByteArray} (h : s.data.toList = t.data.toList) : s = t := by
  cases s; cases t; simp only [ByteArray.mk.injEq]; exact Array.toList_inj.1 h
theorem catS_data (a b : ByteArray) : (catS a b).data.toList = a.data.toList ++ b.data.toList := by
  unfold catS; simp [ByteArray.data_append]
theorem catS_size (a b : ByteArray) : (catS a b).size = a.size + b.size := by unfold catS; simp
theorem catOk_t {a b : ByteArray} (h : a.size + b.size ≤ 9223372036854775807) : catOk a b = true := by unfold catOk; exact decide_eq_true h
theorem eqS_iff (a b : ByteArray) : eqS a b = decide (a = b) := by
  unfold eqS
  rw [Bool.eq_iff_iff]
  simp only [beq_iff_eq, decide_eq_true_eq]
  constructor
  · intro h
    apply bytes_ext
    rw [← Go.ByteArray.toList_eq, ← Go.ByteArray.toList_eq, h]
  · intro h; rw [h]

def nl : ByteArray := ⟨#[10]⟩
def chainD (a : Int) (s : ByteArray) : Int := joinD a (s.size + 1) (dig (catS nl s))
theorem joinD_bd (a : Int) (n : Nat) (b : Int) : 0 ≤ joinD a n b ∧ joinD a n b < 2305843009213693951 := by unfold joinD; omega
theorem chainD_bd (a : Int) (s : ByteArray) : 0 ≤ chainD a s ∧ chainD a s < 2305843009213693951 := joinD_bd _ _ _
theorem dig_bd (s : ByteArray) : 0 ≤ dig s ∧ dig s < 2305843009213693951 := dgs_bd _ _ (by decide) (by decide)
theorem Chain_eq (k : Nat) (a : Int) (s : ByteArray) (ha : 0 ≤ a) (hs : s.size ≤ 1000000) (hk : s.size + 100 ≤ k) : digest_Chain.f k a s = some (chainD a s) := by
  unfold digest_Chain.f
  have h1 : (⟨#[10]⟩ : ByteArray) = nl := rfl
  have h2 : nl.size = 1 := rfl
  rw [h1, catOk_t (by rw [h2]; omega), condT, Of_eq _ (by rw [catS_size, h2]; omega) k (by rw [catS_size, h2]; omega), bindO_s, i64_in (by omega) (by omega)]
  rw [Join_eq k (by omega) a _ _ ha (dig_bd _).1 (by omega), bindO_s]
  rw [show ((s.size : Int) + 1).toNat = s.size + 1 by omega]
  rfl
theorem rChain_eq (k : Nat) (a : Int) (s : ByteArray) (ha : 0 ≤ a) (hs : s.size ≤ 1000000) (hk : s.size + 200 ≤ k) : ref07_Chain.f k a s = some (chainD a s) := by
  unfold ref07_Chain.f
  have h1 : (⟨#[10]⟩ : ByteArray) = nl := rfl
  have h2 : nl.size = 1 := rfl
  rw [h1, catOk_t (by rw [h2]; omega), condT, rOf_eq _ (by rw [catS_size, h2]; omega) k (by rw [catS_size, h2]; omega), bindO_s, i64_in (by omega) (by omega)]
  rw [rJoin_eq k (by omega) a _ _ ha (dig_bd _).1 (by omega), bindO_s]
  rw [show ((s.size : Int) + 1).toNat = s.size + 1 by omega]
  rfl

/-! lists -/
def linksD : List ByteArray → Int → List Int
  | [], _ => []
  | s :: l, d => chainD d s :: linksD l (chainD d s)
theorem linksD_len : ∀ (l : List ByteArray) (d : Int), (linksD l d).length = l.length
  | [], _ => rfl
  | s :: l, d => by simp [linksD, linksD_len l]
theorem gd_get {α : Type} (d : α) (l : List α) (i : Nat) (h : i < l.length) : gd d l (i : Int) = l[i] := by
  unfold gd
  simp [List.getD, List.getElem?_eq_getElem h]
theorem fits_t {b n m : Nat} (h : (n + m) * b ≤ 140737488355328) : fits b n m = true := decide_eq_true h
theorem Links_l0 (l : List ByteArray) (hl : l.length ≤ 10000) (hs : ∀ s ∈ l, s.size ≤ 1000000) : ∀ (n k i : Nat) (d : Int) (out : List Int), n = l.length - i → i ≤ l.length → n + 1000200 ≤ k → 0 ≤ d → out.length = i →
    digest_Links.l0 k d l (l.length : Int) (i : Int) out = some (out ++ linksD (l.drop i) d) := by
  intro n
  induction n with
  | zero =>
    intro k i d out hn hi hk h0 ho
    obtain ⟨k, rfl⟩ : ∃ m, k = m + 1 := ⟨k - 1, by omega⟩
    have : ¬ ((i : Int) < (l.length : Int)) := by omega
    simp only [digest_Links.l0, decide_eq_false this, condF]
    rw [List.drop_of_length_le (by omega)]
    simp [linksD]
  | succ n ih =>
    intro k i d out hn hi hk h0 ho
    obtain ⟨k, rfl⟩ : ∃ m, k = m + 1 := ⟨k - 1, by omega⟩
    have hlt : i < l.length := by omega
    have c : (i : Int) < (l.length : Int) := by omega
    have hsz := hs _ (List.getElem_mem hlt)
    simp only [digest_Links.l0, decide_eq_true c, condT, inb_t (Int.natCast_nonneg i) c, gd_get _ l i hlt, Chain_eq k d l[i] h0 hsz (by omega), bindO_s]
    rw [fits_t (by simp; omega), condT, i64_in (by omega) (by omega), show ((i : Int) + 1) = ((i + 1 : Nat) : Int) by omega, ih k (i + 1) _ _ (by omega) (by omega) (by omega) (chainD_bd _ _).1 (by simp [ho])]
    rw [List.drop_eq_getElem_cons hlt]
    simp [linksD]
theorem Links_eq (l : List ByteArray) (hl : l.length ≤ 10000) (hs : ∀ s ∈ l, s.size ≤ 1000000) (k : Nat) (hk : 1010300 ≤ k) : digest_Links.f k l = some (linksD l 0) := by
  unfold digest_Links.f
  have := Links_l0 l hl hs l.length k 0 0 [] (by omega) (by omega) (by omega) (by decide) rfl
  simpa using this
theorem rLinks_l0 (l : List ByteArray) (hl : l.length ≤ 10000) (hs : ∀ s ∈ l, s.size ≤ 1000000) : ∀ (n k i : Nat) (d : Int) (out : List Int), n = l.length - i → i ≤ l.length → n + 1000300 ≤ k → 0 ≤ d → out.length = i →
    ref07_Links.l0 k l d (i : Int) out = some (out ++ linksD (l.drop i) d) := by
  intro n
  induction n with
  | zero =>
    intro k i d out hn hi hk h0 ho
    obtain ⟨k, rfl⟩ : ∃ m, k = m + 1 := ⟨k - 1, by omega⟩
    have : ¬ ((i : Int) < (l.length : Int)) := by omega
    simp only [ref07_Links.l0, decide_eq_false this, condF]
    rw [List.drop_of_length_le (by omega)]
    simp [linksD]
  | succ n ih =>
    intro k i d out hn hi hk h0 ho
    obtain ⟨k, rfl⟩ : ∃ m, k = m + 1 := ⟨k - 1, by omega⟩
    have hlt : i < l.length := by omega
    have c : (i : Int) < (l.length : Int) := by omega
    have hsz := hs _ (List.getElem_mem hlt)
    simp only [ref07_Links.l0, decide_eq_true c, condT, inb_t (Int.natCast_nonneg i) c, gd_get _ l i hlt, rChain_eq k d l[i] h0 hsz (by omega), bindO_s]
    rw [fits_t (by simp; omega), condT, i64_in (by omega) (by omega), show ((i : Int) + 1) = ((i + 1 : Nat) : Int) by omega, ih k (i + 1) _ _ (by omega) (by omega) (by omega) (chainD_bd _ _).1 (by simp [ho])]
    rw [List.drop_eq_getElem_cons hlt]
    simp [linksD]
theorem rLinks_eq (l : List ByteArray) (hl : l.length ≤ 10000) (hs : ∀ s ∈ l, s.size ≤ 1000000) (k : Nat) (hk : 1010400 ≤ k) : ref07_Links.f k l = some (linksD l 0) := by
  unfold ref07_Links.f
  have := rLinks_l0 l hl hs l.length k 0 0 [] (by omega) (by omega) (by omega) (by decide) rfl
  simpa using this

/-! digits -/
def hx : ByteArray := ⟨#[48, 49, 50, 51, 52, 53, 54, 55, 56, 57, 97, 98, 99, 100, 101, 102]⟩
def dg (n : Int) : Int := if n < 10 then 48 + n else 87 + n
theorem bt_hx (n : Int) (h0 : 0 ≤ n) (h1 : n < 16) : bt hx n = dg n := by
  obtain ⟨m, rfl⟩ := Int.eq_ofNat_of_zero_le h0
  have hm : m < 16 := by omega
  have key : ∀ m : Fin 16, bt hx ((m.val : Nat) : Int) = dg ((m.val : Nat) : Int) := by decide
  exact key ⟨m, hm⟩
theorem dg_bd (n : Int) (h0 : 0 ≤ n) (h1 : n < 16) : 48 ≤ dg n ∧ dg n ≤ 102 := by unfold dg; split <;> omega
def hexL : Nat → Int → List Int
  | 0, _ => []
  | n + 1, d => dg (d / 16 ^ n % 16) :: hexL n d
theorem hexL_len (n : Nat) (d : Int) : (hexL n d).length = n := by induction n with
  | zero => rfl
  | succ n ih => simp [hexL, ih]
theorem strOf_go (xs : List Int) : ∀ (r : ByteArray), (xs.foldl (fun r n => r.push (UInt8.ofNat n.toNat)) r).data.toList = r.data.toList ++ xs.map fun n => UInt8.ofNat n.toNat := by
  induction xs with
  | nil => intro r; simp
  | cons x xs ih => intro r; rw [List.foldl_cons, ih]; simp [ByteArray.push]
theorem strOf_data (xs : List Int) : (strOf xs).data.toList = xs.map fun n => UInt8.ofNat n.toNat := by
  unfold strOf
  rw [strOf_go]
  rfl
theorem strOf_cat (xs ys : List Int) : catS (strOf xs) (strOf ys) = strOf (xs ++ ys) := bytes_ext (by rw [catS_data, strOf_data, strOf_data, strOf_data, List.map_append])
theorem strOf_size (xs : List Int) : (strOf xs).size = xs.length := by
  have : (strOf xs).size = (strOf xs).data.toList.length := by simp
  rw [this, strOf_data, List.length_map]
def hexS (d : Int) : ByteArray := strOf (hexL 16 d)

theorem Hex_l0 (d : Int) (h0 : 0 ≤ d) (h1 : d < 18446744073709551616) : ∀ (n k i : Nat), n = 16 - i → i ≤ 16 → n + 1 ≤ k →
    digest_Hex.l0 k d (i : Int) (List.replicate (16 - i) 0 ++ hexL i d) = some (hexS d) := by
  intro n
  induction n with
  | zero =>
    intro k i hn hi hk
    obtain ⟨k, rfl⟩ : ∃ m, k = m + 1 := ⟨k - 1, by omega⟩
    have : i = 16 := by omega
    subst this
    have : ¬ (((16 : Nat) : Int) < 16) := by decide
    simp only [digest_Hex.l0, decide_eq_false this, condF]
    rfl
  | succ n ih =>
    intro k i hn hi hk
    obtain ⟨k, rfl⟩ : ∃ m, k = m + 1 := ⟨k - 1, by omega⟩
    have c : (i : Int) < 16 := by omega
    have w1 : IntKind.i64.wrap (4 * (i : Int)) = ((4 * i : Nat) : Int) := by rw [i64_in (by omega) (by omega)]; omega
    have w2 : IntKind.i64.wrap (15 - (i : Int)) = ((15 - i : Nat) : Int) := by rw [i64_in (by omega) (by omega)]; omega
    have w3 : IntKind.i64.wrap ((i : Int) + 1) = ((i + 1 : Nat) : Int) := by rw [i64_in (by omega) (by omega)]; omega
    have s1 : zshr .u64 d ((4 * i : Nat) : Int) = d / 16 ^ i := by
      rw [zshr_u64 d (4 * i) (by omega), Int.pow_mul]; rfl
    have hq : 0 ≤ d / 16 ^ i := Int.ediv_nonneg h0 (Int.le_of_lt (Int.pow_pos (by decide)))
    have s2 : zbits .and .u64 (d / 16 ^ i) 15 = d / 16 ^ i % 16 := by
      have := zand_mask .u64 (d / 16 ^ i) 4 (by decide)
      rw [show (2 : Int) ^ 4 - 1 = 15 by decide, show (2 : Int) ^ 4 = 16 by decide] at this
      rw [this, wrap_u64]; omega
    have n1 : nonneg ((4 * i : Nat) : Int) = true := decide_eq_true (by omega)
    have n2 : inb (d / 16 ^ i % 16) 16 = true := inb_t (by omega) (by omega)
    have n3 : inb ((15 - i : Nat) : Int) 16 = true := inb_t (by omega) (by omega)
    have hx' : (⟨#[48, 49, 50, 51, 52, 53, 54, 55, 56, 57, 97, 98, 99, 100, 101, 102]⟩ : ByteArray) = hx := rfl
    simp only [digest_Hex.l0, decide_eq_true c, condT, w1, w2, w3, s1, s2, n1, n2, n3, hx', bt_hx _ (show 0 ≤ d / 16 ^ i % 16 by omega) (show d / 16 ^ i % 16 < 16 by omega)]
    have hlist : List.set (List.replicate (16 - i) (0 : Int) ++ hexL i d) ((15 - i : Nat) : Int).toNat (dg (d / 16 ^ i % 16)) = List.replicate (16 - (i + 1)) 0 ++ hexL (i + 1) d := by
      rw [Int.toNat_natCast, show 16 - i = (16 - (i + 1)) + 1 by omega, List.replicate_succ', List.append_assoc, List.set_append_right _ _ (by simp)]
      simp only [List.length_replicate, show 15 - i - (16 - (i + 1)) = 0 by omega, List.singleton_append, List.set_cons_zero]
      rfl
    rw [hlist]
    exact ih k (i + 1) (by omega) (by omega) (by omega)
theorem Hex_eq (d : Int) (h0 : 0 ≤ d) (h1 : d < 18446744073709551616) (k : Nat) (hk : 17 ≤ k) : digest_Hex.f k d = some (hexS d) := by
  unfold digest_Hex.f
  have := Hex_l0 d h0 h1 16 k 0 (by omega) (by omega) (by omega)
  simpa [hexL] using this
theorem rHex_l0 (d : Int) (h0 : 0 ≤ d) (h1 : d < 18446744073709551616) : ∀ (n k i : Nat), n = 16 - i → i ≤ 16 → n + 1 ≤ k →
    ref07_Hex.l0 k (d / 16 ^ i) (strOf (hexL i d)) (i : Int) = some (hexS d) := by
  intro n
  induction n with
  | zero =>
    intro k i hn hi hk
    obtain ⟨k, rfl⟩ : ∃ m, k = m + 1 := ⟨k - 1, by omega⟩
    have : i = 16 := by omega
    subst this
    have : ¬ (((16 : Nat) : Int) < 16) := by decide
    simp only [ref07_Hex.l0, decide_eq_false this, condF]
    rfl
  | succ n ih =>
    intro k i hn hi hk
    obtain ⟨k, rfl⟩ : ∃ m, k = m + 1 := ⟨k - 1, by omega⟩
    have c : (i : Int) < 16 := by omega
    have w3 : IntKind.i64.wrap ((i : Int) + 1) = ((i + 1 : Nat) : Int) := by rw [i64_in (by omega) (by omega)]; omega
    have hp : (0 : Int) < 16 ^ i := Int.pow_pos (by decide)
    have hq : 0 ≤ d / 16 ^ i := Int.ediv_nonneg h0 (Int.le_of_lt hp)
    have hq' : d / 16 ^ i < 18446744073709551616 := Int.lt_of_le_of_lt (Int.ediv_le_self _ h0) h1
    have n2 : inb (d / 16 ^ i % 16) 16 = true := inb_t (by omega) (by omega)
    have hx' : (⟨#[48, 49, 50, 51, 52, 53, 54, 55, 56, 57, 97, 98, 99, 100, 101, 102]⟩ : ByteArray) = hx := rfl
    have ck : catOk (strOf [dg (d / 16 ^ i % 16)]) (strOf (hexL i d)) = true := catOk_t (by rw [strOf_size, strOf_size, hexL_len, List.length_singleton]; omega)
    simp only [ref07_Hex.l0, decide_eq_true c, condT, tmod_nn hq, tdiv_nn hq, w3, n2, hx', bt_hx _ (show 0 ≤ d / 16 ^ i % 16 by omega) (show d / 16 ^ i % 16 < 16 by omega), ck]
    rw [strOf_cat, u64_in (by omega) (by omega)]
    have e : d / 16 ^ i / 16 = d / 16 ^ (i + 1) := by rw [Int.ediv_ediv_of_nonneg (Int.le_of_lt hp), Int.pow_succ]
    rw [e]
    exact ih k (i + 1) (by omega) (by omega) (by omega)
theorem rHex_eq (d : Int) (h0 : 0 ≤ d) (h1 : d < 18446744073709551616) (k : Nat) (hk : 17 ≤ k) : ref07_Hex.f k d = some (hexS d) := by
  unfold ref07_Hex.f
  have := rHex_l0 d h0 h1 16 k 0 (by omega) (by omega) (by omega)
  have e : strOf (hexL 0 d) = (⟨#[]⟩ : ByteArray) := rfl
  rw [e] at this
  simpa using this
end Go.Gm
