/- The statement's reading, as the executor's data. -/
import Derived.Test.YtgofapkelhccgaaPi32
import Derived.Deep.Slices
import Derived.ChangeArms
import Derived.OpenShut
import Derived.ChangeMaps5
import Derived.Carry
import Derived.SizedLaws
set_option linter.unusedVariables false
set_option linter.unusedSimpArgs false
namespace Go.Pi
open Go.RowKit Go.ChangeShapes Go.WideShapes Go.Deep

mutual
def WFc : (s : Sh) → CellD s → Prop
  | .int k, x => (Lit.int k x).wf = true
  | .bool, _ => True
  | .str, x => ByteArray.size x ≤ maxLen
  | .sl r, xs => List.length xs ≤ maxLen ∧ ∀ x, List.Mem x xs → WFr r x
def WFr : (r : Shs) → RowD r → Prop
  | .one s, x => WFc s x
  | .cons s r, x => WFc s x.1 ∧ WFr r x.2
end

def contig (P : Program) : Nat → List Field → Nat → Bool
  | off, [], tot => Nat.beq off tot
  | off, f :: fs, tot => Nat.beq f.offset off && contig P (off + P.cellsOf f.type) fs tot
def okT (P : Program) : Nat → TypeId → Bool
  | 0, _ => false
  | n + 1, t => match P.underlying t with
    | some (.int _) | some .bool | some .string => true
    | some (.slice e) => okT P n e
    | some (.struct fs) => contig P 0 fs.toList (P.cellsOf t) && fs.toList.all fun f => okT P n f.type
    | some (.array m e) => Nat.beq (m * P.cellsOf e) (P.cellsOf t) && okT P n e
    | _ => false

def appD : (a b : Shs) → RowD a → RowD b → RowD (shOf.app a b)
  | .one _, _, x, y => (x, y)
  | .cons _ a, b, x, y => (x.1, appD a b x.2 y)
theorem appD_rep {w : World} {ok : Nat → Prop} : ∀ (a b : Shs) (x : RowD a) (y : RowD b) (cs ds : List Value), RepR w ok a x cs → RepR w ok b y ds → RepR w ok (shOf.app a b) (appD a b x y) (cs ++ ds)
  | .one s, b, x, y, cs, ds, h1, h2 => by
    simp only [RepR] at h1
    obtain ⟨v, rfl, h1⟩ := h1
    show RepR w ok (.cons s b) (x, y) (v :: ds)
    simp only [RepR]
    exact ⟨v, ds, rfl, h1, h2⟩
  | .cons s a, b, x, y, cs, ds, h1, h2 => by
    simp only [RepR] at h1
    obtain ⟨v, vs, rfl, h1, h3⟩ := h1
    have ih := appD_rep a b x.2 y vs ds h3 h2
    show RepR w ok (.cons s (shOf.app a b)) (x.1, appD a b x.2 y) (v :: (vs ++ ds))
    simp only [RepR]
    exact ⟨v, vs ++ ds, rfl, h1, ih⟩
theorem appD_wf : ∀ (a b : Shs) (x : RowD a) (y : RowD b), WFr a x → WFr b y → WFr (shOf.app a b) (appD a b x y)
  | .one s, b, x, y, h1, h2 => by
    show WFr (.cons s b) (x, y)
    simp only [WFr] at h1 ⊢
    exact ⟨h1, h2⟩
  | .cons s a, b, x, y, h1, h2 => by
    simp only [WFr] at h1
    show WFr (.cons s (shOf.app a b)) (x.1, appD a b x.2 y)
    simp only [WFr]
    exact ⟨h1.1, appD_wf a b x.2 y h1.2 h2⟩

def Opens (w : World) (ok : Nat → Prop) (r : Shs) (cs : List Value) : Prop := ∃ y : RowD r, RepR w ok r y cs ∧ WFr r y
theorem cat_opens {w : World} {ok : Nat → Prop} : ∀ (os : List (Option Shs)) (css : List (List Value)) (r : Shs), All2 (fun o cs => ∀ a, o = some a → Opens w ok a cs) os css → shOf.cat os = some r → Opens w ok r css.flatten
  | [], _, _, _, h => nomatch h
  | [o], [cs], r, h, hr => by
    have := h.1 r hr
    simpa using this
  | o :: o' :: l, cs :: css, r, h, hr => by
    have hr' : (match (generalizing := false) o, shOf.cat (o' :: l) with
      | some a, some b => some (shOf.app a b)
      | _, _ => (none : Option Shs)) = some r := hr
    split at hr'
    · rename_i a b h2
      cases hr'
      obtain ⟨x, hx, wx⟩ := h.1 a rfl
      obtain ⟨y, hy, wy⟩ := cat_opens (o' :: l) css b h.2 h2
      exact ⟨appD a b x y, by rw [List.flatten_cons]; exact appD_rep a b x y _ _ hx hy, appD_wf a b x y wx wy⟩
    · cases hr'
  | [_], [], _, h, _ => h.elim
  | [_], _ :: _ :: _, _, h, _ => h.2.elim
  | _ :: _ :: _, [], _, h, _ => h.elim

theorem contig_flat {P : Program} {cs : List Value} : ∀ (fs : List Field) (off : Nat), contig P off fs cs.length = true → (fs.map fun f => (cs.drop f.offset).take (P.cellsOf f.type)).flatten = cs.drop off
  | [], off, h => by
    have := Nat.eq_of_beq_eq_true (show Nat.beq off cs.length = true from h)
    simp [this]
  | f :: fs, off, h => by
    have h' : (Nat.beq f.offset off && contig P (off + P.cellsOf f.type) fs cs.length) = true := h
    rw [Bool.and_eq_true] at h'
    have e := Nat.eq_of_beq_eq_true h'.1
    rw [List.map_cons, List.flatten_cons, contig_flat fs _ h'.2, e, ← List.drop_drop, List.take_append_drop]
theorem range_flat {cs : List Value} {s : Nat} : ∀ (m i : Nat), (i + m) * s = cs.length → ((List.range' i m).map fun i => (cs.drop (i * s)).take s).flatten = cs.drop (i * s)
  | 0, i, h => by
    rw [Nat.add_zero] at h
    simp [h]
  | m + 1, i, h => by
    rw [List.range'_succ, List.map_cons, List.flatten_cons, range_flat m (i + 1) (by rw [← h]; congr 1; omega), show (i + 1) * s = i * s + s by rw [Nat.add_mul]; omega, ← List.drop_drop, List.take_append_drop]

section
variable {H : Type} {enc : TypeId × Value → H} {P : Program} {w : World} {base : Nat} {spare : Nat → Bool} {held : Bool}

theorem mapM_all2 {α β : Type} {f : α → Option β} : ∀ {l : List α} {m : List β}, l.mapM f = some m → All2 (fun a b => f a = some b) l m
  | [], m, h => by simp at h; subst h; trivial
  | a :: l, m, h => by
    rw [List.mapM_cons] at h
    cases h1 : f a with
    | none => simp [h1] at h
    | some b =>
      cases h2 : l.mapM f with
      | none => simp [h1, h2] at h
      | some m' =>
        simp [h1, h2] at h
        subst h
        exact ⟨h1, mapM_all2 h2⟩
theorem All2.map2 {α β γ δ : Type} {R : α → β → Prop} {R' : γ → δ → Prop} {f : α → γ} {g : α → δ} : ∀ {l : List α} {m : List β}, All2 R l m → (∀ a ∈ l, ∀ b, R a b → R' (f a) (g a)) → All2 R' (l.map f) (l.map g)
  | [], [], _, _ => trivial
  | a :: l, b :: m, h, hf => ⟨hf a (by simp) b h.1, All2.map2 h.2 fun a' ha b' => hf a' (List.mem_cons_of_mem _ ha) b'⟩
  | [], _ :: _, h, _ => h.elim
  | _ :: _, [], h, _ => h.elim

theorem opens_one {ok : Nat → Prop} {s : Sh} {v : Value} {x : CellD s} (h : RepC w ok s x v) (hw : WFc s x) : Opens w ok (.one s) [v] :=
  ⟨x, by simp only [RepR]; exact ⟨v, rfl, h⟩, by simp only [WFr]; exact hw⟩

theorem open_sh : ∀ (n : Nat) (t : TypeId) (r : Shs), shOf P n t = some r → okT P n t = true → ∀ (fuel : Nat) (cs : List Value) (x : DataW H × List MemPlace), DataW.trod enc P w base spare held fuel t cs = some x →
    Opens w (fun b => b < w.heap.size) r cs
  | 0, _, _, h, _, _, _, _, _ => nomatch h
  | n + 1, t, r, h, hok, fuel, cs, x, hx => by
    unfold shOf at h
    unfold okT at hok
    split at h
    · rename_i k ht
      cases h
      obtain ⟨m, rfl, _, hw⟩ := DataW.trod_int ht hx
      exact opens_one (s := .int k) (x := m) (by simp only [RepC]) (by simp only [WFc]; exact hw)
    · rename_i ht
      cases h
      obtain ⟨b, rfl, _⟩ := DataW.trod_bool ht hx
      exact opens_one (s := .bool) (x := b) (by simp only [RepC]) (by simp only [WFc])
    · rename_i ht
      cases h
      obtain ⟨b, rfl, _, hs⟩ := DataW.trod_string ht hx
      exact opens_one (s := .str) (x := b) (by simp only [RepC]) (by simp only [WFc]; exact hs)
    · rename_i e ht
      split at h
      · rename_i r' hr
        cases h
        rw [ht] at hok
        simp only at hok
        rcases DataW.trod_slice ht hx with ⟨rfl, _⟩ | ⟨a, len, cap, elems, rest, n', _, rfl, _, hb, hl, hm, hlen, hel, _⟩
        · exact opens_one (s := .sl r') (x := ([] : List (RowD r'))) (by simp only [RepC]; exact ⟨none, 0, [], rfl, Nat.le_refl _, Nat.zero_le _, trivial, fun hp => by simp at hp⟩) (by simp only [WFc]; exact ⟨Nat.zero_le _, fun x hx => by cases hx⟩)
        · -- every element
          have each : ∀ i, i < len → ∃ q : RowD r' × List Value, RepR w (fun b => b < w.heap.size) r' q.1 q.2 ∧ WFr r' q.1 ∧ w.cells? base (a.add (i * P.cellsOf e)) (P.cellsOf e) = some q.2 := by
            intro i hi
            have := hel i hi
            rw [List.getElem?_eq_getElem (by omega)] at this
            obtain ⟨cs', h1, h2⟩ := Option.bind_eq_some_iff.1 this
            obtain ⟨y, hy, wy⟩ := open_sh n e r' hr hok n' cs' _ h2
            exact ⟨(y, cs'), hy, wy, h1⟩
          have hinh : Inhabited (RowD r' × List Value) := ⟨(r'.dflt, [])⟩
          obtain ⟨F, hF⟩ := choose_lt each
          have hsz : 0 < len → P.cellsOf e = r'.size := by
            intro h0
            obtain ⟨h1, _, h2⟩ := hF 0 h0
            obtain ⟨_, h3, _⟩ := World.cells?_some h2
            rw [← h3, h1.len]
          have hall : All2 (fun x cs => RepR w (fun b => b < w.heap.size) r' x cs) ((List.range len).map fun i => (F i).1) ((List.range len).map fun i => (F i).2) := by
            refine All2.ofGet (by simp) fun j a b ha hb => ?_
            simp only [List.getElem?_map, Option.map_eq_some_iff] at ha hb
            obtain ⟨i, hi, rfl⟩ := ha
            obtain ⟨i', hi', rfl⟩ := hb
            rw [hi] at hi'
            cases hi'
            have : i < len := List.mem_range.1 (List.mem_of_getElem? hi)
            exact (hF i this).1
          refine opens_one (s := .sl r') (x := ((List.range len).map fun i => (F i).1 : List (RowD r'))) ?_ ?_
          · simp only [RepC]
            refine ⟨some a, cap, (List.range len).map fun i => (F i).2, by simp, by simpa using hl, hm, hall, fun hp => ?_⟩
            have h0 : 0 < len := by simpa using hp
            have hs := hsz h0
            -- the cells
            have hcell : ∀ j u, ((List.range len).map fun i => (F i).2).flatten[j]? = some u → w.cell? (a.add j) = some u := by
              intro j u hj
              have hlt := (List.getElem?_eq_some_iff.1 hj).1
              rw [flat_len hall, List.length_map, List.length_range] at hlt
              have hpos := r'.size_pos
              have hi : j / r'.size < len := Nat.div_lt_of_lt_mul (by rw [Nat.mul_comm]; exact hlt)
              obtain ⟨cs0, g1, g2, g3⟩ := flat_at hall (j / r'.size) (F (j / r'.size)).1 (by simp [hi])
              have g4 : cs0 = (F (j / r'.size)).2 := by simpa [hi] using g1.symm
              subst g4
              have hlen' : (F (j / r'.size)).2.length = r'.size := g2.len
              have hmod : j % r'.size < (F (j / r'.size)).2.length := by rw [hlen']; exact Nat.mod_lt _ hpos
              have g5 := g3 (j % r'.size) _ (List.getElem?_eq_getElem hmod)
              have hdm : j / r'.size * r'.size + j % r'.size = j := by rw [Nat.mul_comm]; exact Nat.div_add_mod _ _
              rw [hdm, hj] at g5
              obtain ⟨_, _, g6⟩ := World.cells?_some (hF (j / r'.size) hi).2.2
              have g7 := g6 (j % r'.size) (by rw [hs]; exact Nat.mod_lt _ hpos)
              rw [add_add, hs, hdm] at g7
              rw [g7]
              rw [List.getElem?_eq_getElem hmod]
              exact g5.symm
            have hne : 0 < ((List.range len).map fun i => (F i).2).flatten.length := by
              rw [flat_len hall, List.length_map, List.length_range]
              exact Nat.mul_pos h0 r'.size_pos
            have h00 := hcell 0 _ (List.getElem?_eq_getElem hne)
            have ha0 : a.add 0 = a := rfl
            rw [ha0] at h00
            have hblk : a.block < w.heap.size ∧ a.spot = none := by
              unfold World.cell? at h00
              split at h00
              · rename_i c _ _ hc
                refine ⟨(Array.getElem?_eq_some_iff.1 hc).1, ?_⟩
                split at h00
                · cases h00
                · rename_i hsp
                  cases hq : a.spot with
                  | none => rfl
                  | some _ => simp [hq] at hsp
              · cases h00
            exact ⟨a, rfl, hblk.1, hblk.2, hcell⟩
          · simp only [WFc]
            refine ⟨by simp; omega, fun x hx => ?_⟩
            obtain ⟨i, hi, rfl⟩ := List.mem_map.1 hx
            exact (hF i (List.mem_range.1 hi)).2.1
      · cases h
    · rename_i fs ht
      rw [ht] at hok
      simp only [Bool.and_eq_true, List.all_eq_true] at hok
      cases fuel with
      | zero => simp [DataW.trod] at hx
      | succ fuel =>
        unfold DataW.trod at hx
        rw [ht] at hx
        simp only at hx
        split at hx
        · rename_i hlen
          obtain ⟨xs, hxs, _⟩ := Option.map_eq_some_iff.1 hx
          have h2 := mapM_all2 hxs
          have h3 := cat_opens (w := w) (ok := fun b => b < w.heap.size) (fs.toList.map fun f => shOf P n f.type) (fs.toList.map fun f => (cs.drop f.offset).take (P.cellsOf f.type)) r
            (h2.map2 fun f hf y hy a ha => open_sh n f.type a ha (hok.2 f hf) fuel _ y hy) h
          rw [contig_flat fs.toList 0 (by rw [hlen]; exact hok.1), List.drop_zero] at h3
          exact h3
        · cases hx
    · rename_i m e ht
      rw [ht] at hok
      simp only [Bool.and_eq_true] at hok
      have hmul := Nat.eq_of_beq_eq_true hok.1
      cases fuel with
      | zero => simp [DataW.trod] at hx
      | succ fuel =>
        unfold DataW.trod at hx
        rw [ht] at hx
        simp only at hx
        split at hx
        · rename_i hlen
          obtain ⟨xs, hxs, _⟩ := Option.map_eq_some_iff.1 hx
          have h2 := mapM_all2 hxs
          have hrep : List.replicate m (shOf P n e) = (List.range m).map fun _ => shOf P n e := by
            rw [List.map_const', List.length_range]
          rw [hrep] at h
          have h3 := cat_opens (w := w) (ok := fun b => b < w.heap.size) ((List.range m).map fun _ => shOf P n e) ((List.range m).map fun i => (cs.drop (i * P.cellsOf e)).take (P.cellsOf e)) r
            (h2.map2 fun f hf y hy a ha => open_sh n e a ha hok.2 fuel _ y hy) h
          rw [List.range_eq_range', range_flat m 0 (by rw [hlen, Nat.zero_add, hmul]), Nat.zero_mul, List.drop_zero] at h3
          exact h3
        · cases hx
    · cases h
end
end Go.Pi
