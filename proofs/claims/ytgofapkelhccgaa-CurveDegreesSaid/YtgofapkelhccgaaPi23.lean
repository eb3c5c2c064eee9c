/- One operation: what the executor says of it holds (2). -/
import Derived.Test.YtgofapkelhccgaaPi22
set_option linter.unusedVariables false
set_option linter.unusedSimpArgs false
namespace Go.Pi
open Go.RowKit

section
variable {P : Program} {W0 : World} {A Gv : Nat → Prop} {N : Nat} {U : Nat → Prop} {g : Nat → TV} {B : Nat → Option Blk} {ν : Nat → Value} {a : Act} {w : World} {o : Oper} {base : Nat}

theorem len_fits (h : Sim W0 A Gv N U g B ν a w) (x : Operand) (t : TypeId) (ho : o.op = .call { callee := .builtin .len, args := #[x], argTypes := #[t] }) {v : CV} (hx : opnd g x = .e (.one v)) (hsl : ∃ e, P.underlying t = some (.slice e)) :
    Fits P W0 A Gv N U g B base o a w (match (generalizing := false) v with
          | .val (.slice none 0 0) => eff1 (int1 .i64 0)
          | .pre s n => if (B s).isSome then effG (decide (0 ≤ n)) (int1 .i64 n) else .bad
          | v => match dataOf B v with
            | some ⟨_, xs⟩ => eff1 (int1 .i64 (xs.length : Nat))
            | none => .bad) := by
  obtain ⟨e, ht⟩ := hsl
  have hv : RepCV w (okS W0 A Gv ν B w) ν B v (a.eval x) := (hx ▸ h.opnd x : RepTV w (okS W0 A Gv ν B w) ν B (.e (.one v)) (a.eval x))
  split
  · exact fits_same (op_len_sl h x t ho ht (Ad := none) (n := 0) (c := 0) hv.1)
  · rename_i s n
    split
    · rename_i hB
      refine fits_sameG fun hg => ?_
      obtain ⟨b, hb⟩ := Option.isSome_iff_exists.1 hB
      obtain ⟨_, hv⟩ := hv
      obtain ⟨_, r, m, Ad, c, _, h0, _, _, hv⟩ := hv b hb
      have := op_len_sl h x t ho ht hv
      rwa [Int.toNat_of_nonneg h0] at this
    · trivial
  · split
    · rename_i r xs hd
      obtain ⟨Ad, c, css, h1, _⟩ := dataOf_rep h hv hd
      exact fits_same (op_len_sl h x t ho ht h1)
    · trivial

theorem prep_sound (h : Sim W0 A Gv N U g B ν a w) (T : List (Nat × Ent)) (hT : ∀ p ∈ T, Holds P p.1 p.2) (hfree : ∀ j, j < 8 → ¬ U (base + j)) :
    Fits P W0 A Gv N U g B base o a w (prep P T g B base o) := by
  have hb0 : ¬ U base := hfree 0 (by omega)
  unfold prep
  split
  -- move, assign
  · rename_i x ho
    split
    · trivial
    · exact fits_same (op_move h x (.inl ho))
  · rename_i x ho
    split
    · trivial
    · exact fits_same (op_move h x (.inr ho))
  · rename_i c x y ho
    split
    · rename_i t hc
      exact fits_same (op_pick h c x y ho hc)
    · trivial
  · rename_i t i ho
    split
    · rename_i l ht
      split
      · rename_i x hx
        exact fits_same (op_extract h t i ho ht hx)
      · trivial
    · trivial
  · rename_i op t x y t' ho
    split
    · rename_i q v hb
      refine fits_sameG fun hq => ?_
      subst hq
      exact op_bin h op t x y t' ho hb
    · trivial
  · rename_i op t x ho
    split
    · rename_i v hu
      exact fits_same (op_un h op t x ho hu)
    · trivial
  · rename_i src dst x ho
    split
    · rename_i d k k' n hs hd hx
      exact fits_same (op_conv_int h src dst x ho hs hd hx)
    · rename_i e v hs hd hx
      split
      · rename_i xs he hxs
        exact fits_same (op_conv_str h src dst x ho hs hd he hx hxs)
      · trivial
    · trivial
  · rename_i t ho
    split
    · rename_i z n e hz ht
      split
      · rename_i r hr
        split
        · rename_i hcnd
          refine fits_new fun _ => ?_
          rw [updB_cons, updB_nil]
          exact op_alloc_arr h t ho hz hcnd.2 hb0
        · trivial
      · trivial
    · rename_i z d _ hz ht
      split
      · rename_i h1
        refine fits_new fun _ => ?_
        rw [updB_cons, updB_nil]
        exact op_alloc_box h t ho hz h1 hb0
      · trivial
    · trivial
  · rename_i t x ho
    split
    · rename_i v hx
      refine fits_new fun _ => ?_
      rw [updB_cons, updB_nil]
      exact op_box h t x ho hx hb0
    · trivial
  · rename_i t p ho
    split
    · rename_i q hq
      split
      · rename_i l off hc
        split
        · rename_i v hv
          exact fits_same (op_load h t p ho hq hc hv)
        · trivial
      · trivial
    · trivial
  · rename_i t p x ho
    split
    · rename_i q v hq hv
      split
      · rename_i wl hs
        exact fits_upd fun _ => storeV_res h t p x ho hq hv hs
      · trivial
    · trivial
  · rename_i t x f ho
    split
    · rename_i q off ft hq hf
      split
      · rename_i q' ha
        split
        · rename_i hal
          exact fits_same (op_fieldAddr h t x f ho (getC_eq hq) hf ha hal)
        · trivial
      · trivial
    · trivial
  · rename_i t x f ho
    split
    · rename_i l off ft hx hf
      split
      · rename_i v hv
        exact fits_same (op_field h t x f ho hx hf hv)
      · trivial
    · trivial
  · rename_i t x i ho
    split
    · rename_i e r xs j ht hx hj
      split
      · rename_i hn
        exact fits_sameG fun hg => op_indexAddr_c h t x i ho ht (getC_eq hx) hj hn hg
      · trivial
    · rename_i e s j ht hx hj
      split
      · rename_i e' r xs fz hB
        split
        · rename_i hn
          exact fits_sameG fun hg => op_indexAddr_own h t x i ho ht (getC_eq hx) hB hj hn hg
        · trivial
      · trivial
    · rename_i e s n j ht hx hj
      split
      · rename_i e' r xs fz hB
        split
        · rename_i hn
          exact fits_sameG fun hg => op_indexAddr_pre h t x i ho ht (getC_eq hx) hB hj hn hg
        · trivial
      · trivial
    · rename_i n e s j ht hx hj
      split
      · rename_i t' r m xs hB
        split
        · rename_i hn
          exact fits_sameG fun hg => op_indexAddr_arr h t x i ho ht (getC_eq hx) hB hj hn.1 hn.2 hg
        · trivial
      · rename_i t' l hB
        split
        · rename_i z hn
          split
          · rename_i hb
            exact fits_same (op_indexAddr_box h t x i ho ht (getC_eq hx) hB hj hn hb)
          · trivial
        · trivial
      · trivial
    · trivial
  · rename_i t x i ho
    split
    · rename_i s j ht hx hj
      exact fits_sameG fun hg => op_index_str h t x i ho ht hx hj hg
    · trivial
  · rename_i t parts ho
    split
    · rename_i z fs hz ht
      split
      · rename_i l hl
        split
        · rename_i hcnd
          rw [Bool.and_eq_true] at hcnd
          exact fits_same (op_build h t parts ho hz hcnd.2 ht hcnd.1 hl)
        · trivial
      · trivial
    · trivial
  · rename_i t n parts ho
    split
    · rename_i e ht
      split
      · rename_i r z hr hz
        split
        · rename_i hcnd
          split
          · rename_i xs hx
            obtain ⟨h1, h2, h3, h4, h5⟩ := hcnd
            refine fits_new fun _ => ?_
            rw [updB_cons]
            exact op_buildSlice h t n parts ho ht hz h1 h2 h3 h4 h5 hx rfl (fun _ h => h) hb0
          · trivial
        · trivial
      · trivial
    · trivial
  · rename_i t l c ho
    split
    · rename_i e n m ht hn hm
      split
      · rename_i r z i hr hz hi
        split
        · rename_i hcnd
          refine fits_new fun hg => ?_
          rw [updB_cons, updB_nil]
          exact op_makeSlice h t l c ho ht hn hm hz hi hcnd.1 hcnd.2.1 hcnd.2.2 hg hb0
        · trivial
      · trivial
    · trivial
  · rename_i t x lo hi ho
    split
    · rename_i s l r ht hx hl hr
      exact fits_sameG fun hg => op_slice_str h t x lo hi ho ht hx hl hr hg
    · rename_i e v l r ht hx hl hr
      split
      · rename_i s
        have hlo : lo = none := by
          unfold optI at hl
          split at hl
          · rfl
          · split at hl <;> simp at hl
        subst hlo
        split
        · rename_i e' r' xs fz hB
          split
          · rename_i j
            split
            · rename_i hn
              obtain ⟨n, hn⟩ := Option.isSome_iff_exists.1 hn
              refine fits_sameG fun hg => ?_
              simp only [Bool.and_eq_true, decide_eq_true_eq] at hg
              exact op_slice_own h t x hi ho ht hn hx hB hr hg.1 hg.2
            · trivial
          · trivial
        · trivial
      · rename_i s m
        have hlo : lo = none := by
          unfold optI at hl
          split at hl
          · rfl
          · split at hl <;> simp at hl
        subst hlo
        split
        · rename_i j
          split
          · rename_i hn
            rw [Bool.and_eq_true] at hn
            obtain ⟨n, hn1⟩ := Option.isSome_iff_exists.1 hn.1
            refine fits_sameG fun hg => ?_
            simp only [Bool.and_eq_true, decide_eq_true_eq] at hg
            exact op_slice_pre h t x hi ho ht hn1 hx hn.2 hr hg.1 hg.2
          · trivial
        · trivial
      · split
        · rename_i r' xs hd
          split
          · rename_i hn
            refine fits_upd fun hg => ?_
            exact op_slice_data h t x lo hi ho ht hn hx hd hl hr hg
          · trivial
        · trivial
    · rename_i n e s ht hx hl hr
      split
      · rename_i t' r m xs hB
        split
        · rename_i hcnd
          obtain ⟨k, hk⟩ := Option.isSome_iff_exists.1 hcnd.1
          have hnone : ∀ q : Option Operand, optI g q = some none → q = none := by
            intro q hq
            unfold optI at hq
            split at hq
            · rfl
            · split at hq <;> simp at hq
          obtain rfl := hnone lo hl
          obtain rfl := hnone hi hr
          refine fits_upd fun _ => ?_
          rw [updB_cons, updB_nil]
          exact op_slice_arr h t x ho ht hk hcnd.2.2 hx hB hcnd.2.1
        · trivial
      · trivial
    · trivial
  · rename_i c ho
    obtain ⟨callee, args, ats⟩ := c
    dsimp only
    split
    · split
      · rename_i s t hx ht
        obtain ⟨x, rfl, hx1⟩ := map_one hx
        obtain rfl := toList_one ht
        split
        · rename_i hs
          exact fits_same (op_len_str h x t ho hs hx1)
        · trivial
      · rename_i v t _ hx ht
        obtain ⟨x, rfl, hx1⟩ := map_one hx
        obtain rfl := toList_one ht
        split
        · rename_i hs
          rw [if_pos rfl]
          exact len_fits h x t ho hx1 ⟨_, hs⟩
        · trivial
      · trivial
    · split
      · rename_i l k x hl hk
        split
        · rename_i m hm
          exact fits_same (op_max h args ats ho hl hk hm)
        · trivial
      · trivial
    · split
      · rename_i l k x hl hk
        split
        · rename_i m hm
          exact fits_same (op_min h args ats ho hl hk hm)
        · trivial
      · trivial
    · split
      · rename_i dv v t u hx ht
        obtain ⟨d, x, rfl, hd, hx1⟩ := map_two hx
        obtain rfl := toList_two ht
        split
        · trivial
        · rename_i e he
          split
          · trivial
          · rename_i i hi
            split
            · rename_i htu
              subst htu
              split
              · trivial
              · rename_i r ys hdat
                split
                · rename_i hcnd
                  obtain ⟨h1, h2, h3⟩ := hcnd
                  split
                  · refine fits_new fun hg => ?_
                    rw [updB_cons, updB_nil]
                    exact op_append_nil h d x t ho he hi hd hx1 hdat h1 h2 h3 hg hb0
                  · split
                    · rename_i s r' xs hbase
                      split
                      · rename_i xs' hxs
                        obtain ⟨rfl, rfl⟩ := castRows_eq hxs
                        split
                        · rename_i hcnd
                          refine fits_new fun hg => ?_
                          rw [updB_cons, updB_cons, updB_nil]
                          exact op_append_own h d x t ho he hi hd hbase hcnd.1 hx1 hdat h1 h2 h3 hg hb0
                        · trivial
                      · trivial
                    · trivial
                · trivial
            · trivial
      · trivial
    · split
      · rename_i s v t u hx ht
        obtain ⟨d, x, rfl, hd, hx1⟩ := map_two hx
        obtain rfl := toList_two ht
        split
        · rename_i e e' r xs r' ys he hB hdat
          split
          · rename_i ys' hys
            obtain ⟨rfl, rfl⟩ := castRows_eq hys
            split
            · rename_i hcnd
              obtain ⟨h1, h2, h3, h4⟩ := hcnd
              refine fits_upd fun _ => ?_
              rw [updB_cons, updB_nil]
              exact op_copy h d x t u ho he hd hB hx1 hdat h1 h2 h4
            · trivial
          · trivial
        · trivial
      · trivial
    · rename_i f
      split
      · rename_i n hn
        exact findE_fits h _ ho rfl hn hfree T hT
      · trivial
    · trivial
  · trivial

end
end Go.Pi
