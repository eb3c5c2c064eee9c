/- The statement's reading, with the sizes that the machine lets in. -/
import Derived.Test.YtbaceloeihkmkaaGreatDoorQQ4
set_option linter.unusedVariables false
set_option linter.unusedSimpArgs false
namespace Go.Pi
open Go.RowKit Go.ChangeShapes Go.WideShapes Go.Deep Go.ChangeMaps

mutual
/-- No string and no row takes more than the machine's reach. -/
def SZc : (s : Sh) → CellD s → Prop
  | .int _, _ => True
  | .bool, _ => True
  | .str, x => ByteArray.size x ≤ reachBytes
  | .sl r, xs => List.length xs ≤ reachBytes ∧ ∀ x, List.Mem x xs → SZr r x
def SZr : (r : Shs) → RowD r → Prop
  | .one s, x => SZc s x
  | .cons s r, x => SZc s x.1 ∧ SZr r x.2
end
def okZ (P : Program) : Nat → TypeId → Bool
  | 0, _ => false
  | n + 1, t => match P.underlying t with
    | some (.slice e) => Nat.blt 0 (P.bytesOf e) && okZ P n e
    | some (.struct fs) => fs.toList.all fun f => okZ P n f.type
    | some (.array m e) => okZ P n e
    | _ => true
theorem appD_sz : ∀ (a b : Shs) (x : RowD a) (y : RowD b), SZr a x → SZr b y → SZr (shOf.app a b) (appD a b x y)
  | .one s, b, x, y, h1, h2 => by
    show SZr (.cons s b) (x, y)
    simp only [SZr] at h1 ⊢
    exact ⟨h1, h2⟩
  | .cons s a, b, x, y, h1, h2 => by
    simp only [SZr] at h1
    show SZr (.cons s (shOf.app a b)) (x.1, appD a b x.2 y)
    simp only [SZr]
    exact ⟨h1.1, appD_sz a b x.2 y h1.2 h2⟩
def OpensZ (w : World) (ok : Nat → Prop) (r : Shs) (cs : List Value) : Prop := ∃ y : RowD r, RepR w ok r y cs ∧ WFr r y ∧ SZr r y
theorem cat_opensZ {w : World} {ok : Nat → Prop} : ∀ (os : List (Option Shs)) (css : List (List Value)) (r : Shs), All2 (fun o cs => ∀ a, o = some a → OpensZ w ok a cs) os css → shOf.cat os = some r → OpensZ w ok r css.flatten
  | [], _, _, _, h => nomatch h
  | [o], [cs], r, h, hr => by
    have := h.1 r hr
    simpa using this
  | o :: o' :: l, cs :: css, r, h, hr => by
    have hr' : (match (generalizing := false) o, shOf.cat (o' :: l) with
      | some a, some b => some (shOf.app a b)
      | _, _ => (none : Option Shs)) = some r := hr
    split at hr'
    · rename_i a b h2
      cases hr'
      obtain ⟨x, hx, wx, zx⟩ := h.1 a rfl
      obtain ⟨y, hy, wy, zy⟩ := cat_opensZ (o' :: l) css b h.2 h2
      exact ⟨appD a b x y, by rw [List.flatten_cons]; exact appD_rep a b x y _ _ hx hy, appD_wf a b x y wx wy, appD_sz a b x y zx zy⟩
    · cases hr'
  | [_], [], _, h, _ => h.elim
  | [_], _ :: _ :: _, _, h, _ => h.2.elim
  | _ :: _ :: _, [], _, h, _ => h.elim
section
variable {H : Type} {enc : TypeId × Value → H} {P : Program} {w : World} {base : Nat} {spare : Nat → Bool} {held : Bool}
theorem opens_oneZ {ok : Nat → Prop} {s : Sh} {v : Value} {x : CellD s} (h : RepC w ok s x v) (hw : WFc s x) (hz : SZc s x) : OpensZ w ok (.one s) [v] :=
  ⟨x, by simp only [RepR]; exact ⟨v, rfl, h⟩, by simp only [WFr]; exact hw, by simp only [SZr]; exact hz⟩
theorem weightsAll_mem {e : TypeId} : ∀ {l : List (DataW H)} {d : DataW H} {m : Nat}, d ∈ l → m ∈ d.weights P e → m ∈ DataW.weightsAll P e l
  | x :: l, d, m, hd, hm => by
    rw [DataW.weightsAll, List.mem_append]
    rcases List.mem_cons.1 hd with rfl | hd
    · exact .inl hm
    · exact .inr (weightsAll_mem hd hm)
theorem weights_each {R : Field → DataW H × List MemPlace → Prop} {B : Nat} : ∀ {fs : List Field} {xs : List (DataW H × List MemPlace)}, All2 R fs xs → (∀ m ∈ DataW.weightsEach P (fs.map (·.type)) (xs.map (·.1)), m ≤ B) → All2 (fun f y => R f y ∧ ∀ m ∈ y.1.weights P f.type, m ≤ B) fs xs
  | [], [], _, _ => trivial
  | f :: fs, x :: xs, h, hw => by
    rw [List.map_cons, List.map_cons, DataW.weightsEach] at hw
    exact ⟨⟨h.1, fun m hm => hw m (List.mem_append.2 (.inl hm))⟩, weights_each h.2 fun m hm => hw m (List.mem_append.2 (.inr hm))⟩
  | [], _ :: _, h, _ => h.elim
  | _ :: _, [], h, _ => h.elim
theorem weights_all {α : Type} {R : α → DataW H × List MemPlace → Prop} {B : Nat} {e : TypeId} : ∀ {fs : List α} {xs : List (DataW H × List MemPlace)}, All2 R fs xs → (∀ m ∈ DataW.weightsAll P e (xs.map (·.1)), m ≤ B) → All2 (fun f y => R f y ∧ ∀ m ∈ y.1.weights P e, m ≤ B) fs xs
  | [], [], _, _ => trivial
  | f :: fs, x :: xs, h, hw => by
    rw [List.map_cons, DataW.weightsAll] at hw
    exact ⟨⟨h.1, fun m hm => hw m (List.mem_append.2 (.inl hm))⟩, weights_all h.2 fun m hm => hw m (List.mem_append.2 (.inr hm))⟩
  | [], _ :: _, h, _ => h.elim
  | _ :: _, [], h, _ => h.elim

theorem open_shZ : ∀ (n : Nat) (t : TypeId) (r : Shs), shOf P n t = some r → okT P n t = true → okZ P n t = true → ∀ (fuel : Nat) (cs : List Value) (x : DataW H × List MemPlace), DataW.trod enc P w base spare held fuel t cs = some x → (∀ m ∈ x.1.weights P t, m ≤ reachBytes) →
    OpensZ w (fun b => b < w.heap.size) r cs
  | 0, _, _, h, _, _, _, _, _, _, _ => nomatch h
  | n + 1, t, r, h, hok, hz, fuel, cs, x, hx, hwt => by
    unfold shOf at h
    unfold okT at hok
    unfold okZ at hz
    split at h
    · rename_i k ht
      cases h
      obtain ⟨m, rfl, _, hw⟩ := DataW.trod_int ht hx
      exact opens_oneZ (s := .int k) (x := m) (by simp only [RepC]) (by simp only [WFc]; exact hw) (by simp only [SZc])
    · rename_i ht
      cases h
      obtain ⟨b, rfl, _⟩ := DataW.trod_bool ht hx
      exact opens_oneZ (s := .bool) (x := b) (by simp only [RepC]) (by simp only [WFc]) (by simp only [SZc])
    · rename_i ht
      cases h
      obtain ⟨b, rfl, hxe, hs⟩ := DataW.trod_string ht hx
      exact opens_oneZ (s := .str) (x := b) (by simp only [RepC]) (by simp only [WFc]; exact hs) (by
        simp only [SZc]
        subst hxe
        exact hwt _ (by simp [DataW.weights]))
    · rename_i e ht
      split at h
      · rename_i r' hr
        cases h
        rw [ht] at hok hz
        simp only at hok hz
        rw [Bool.and_eq_true] at hz
        rcases DataW.trod_slice ht hx with ⟨rfl, _⟩ | ⟨a, len, cap, elems, rest, n', _, rfl, hxe, hb, hl, hm, hlen, hel, _⟩
        · exact opens_oneZ (s := .sl r') (x := ([] : List (RowD r'))) (by simp only [RepC]; exact ⟨none, 0, [], rfl, Nat.le_refl _, Nat.zero_le _, trivial, fun hp => by simp at hp⟩) (by simp only [WFc]; exact ⟨Nat.zero_le _, fun x hx => by cases hx⟩) (by simp only [SZc]; exact ⟨Nat.zero_le _, fun x hx => by cases hx⟩)
        · subst hxe
          have hw0 : (elems.length + rest.length) * P.bytesOf e ≤ reachBytes := by simpa using hwt ((elems.length + rest.length) * P.bytesOf e) (by simp [DataW.weights, ht])
          have hw1 : ∀ q ∈ elems, ∀ m ∈ q.1.weights P e, m ≤ reachBytes := fun q hq m hm => hwt m (by
            simp only [DataW.weights, ht, List.mem_cons, List.mem_append]
            exact .inr (.inl (weightsAll_mem (List.mem_map.2 ⟨q, hq, rfl⟩) hm)))
          have hpos : 0 < P.bytesOf e := blt_iff.1 hz.1
          have hlenZ : len ≤ reachBytes := by
            rw [← hlen]
            have h1 : elems.length * 1 ≤ (elems.length + rest.length) * P.bytesOf e := Nat.mul_le_mul (by omega) hpos
            omega
          -- every element
          have each : ∀ i, i < len → ∃ q : RowD r' × List Value, RepR w (fun b => b < w.heap.size) r' q.1 q.2 ∧ (WFr r' q.1 ∧ SZr r' q.1) ∧ w.cells? base (a.add (i * P.cellsOf e)) (P.cellsOf e) = some q.2 := by
            intro i hi
            have := hel i hi
            rw [List.getElem?_eq_getElem (by omega)] at this
            obtain ⟨cs', h1, h2⟩ := Option.bind_eq_some_iff.1 this
            obtain ⟨y, hy, wy, zy⟩ := open_shZ n e r' hr hok hz.2 n' cs' _ h2 (hw1 _ (List.getElem_mem _))
            exact ⟨(y, cs'), hy, ⟨wy, zy⟩, h1⟩
          have hinh : Inhabited (RowD r' × List Value) := ⟨(r'.dflt, [])⟩
          obtain ⟨F, hF⟩ := choose_lt each
          have hsz : 0 < len → P.cellsOf e = r'.size := by
            intro h0
            obtain ⟨h1, _, h2⟩ := hF 0 h0
            obtain ⟨_, h3, _⟩ := World.cells?_some h2
            rw [← h3, h1.len]
          have hall : All2 (fun x cs => RepR w (fun b => b < w.heap.size) r' x cs) ((List.range len).map fun i => (F i).1) ((List.range len).map fun i => (F i).2) := by
            refine All2.ofGet (by simp) fun j a b ha hb => ?_
            simp only [List.getElem?_map, Option.map_eq_some_iff] at ha hb
            obtain ⟨i, hi, rfl⟩ := ha
            obtain ⟨i', hi', rfl⟩ := hb
            rw [hi] at hi'
            cases hi'
            have : i < len := List.mem_range.1 (List.mem_of_getElem? hi)
            exact (hF i this).1
          refine opens_oneZ (s := .sl r') (x := ((List.range len).map fun i => (F i).1 : List (RowD r'))) ?_ ?_ ?_
          · simp only [RepC]
            refine ⟨some a, cap, (List.range len).map fun i => (F i).2, by simp, by simpa using hl, hm, hall, fun hp => ?_⟩
            have h0 : 0 < len := by simpa using hp
            have hs := hsz h0
            -- the cells
            have hcell : ∀ j u, ((List.range len).map fun i => (F i).2).flatten[j]? = some u → w.cell? (a.add j) = some u := by
              intro j u hj
              have hlt := (List.getElem?_eq_some_iff.1 hj).1
              rw [flat_len hall, List.length_map, List.length_range] at hlt
              have hpos := r'.size_pos
              have hi : j / r'.size < len := Nat.div_lt_of_lt_mul (by rw [Nat.mul_comm]; exact hlt)
              obtain ⟨cs0, g1, g2, g3⟩ := flat_at hall (j / r'.size) (F (j / r'.size)).1 (by simp [hi])
              have g4 : cs0 = (F (j / r'.size)).2 := by simpa [hi] using g1.symm
              subst g4
              have hlen' : (F (j / r'.size)).2.length = r'.size := g2.len
              have hmod : j % r'.size < (F (j / r'.size)).2.length := by rw [hlen']; exact Nat.mod_lt _ hpos
              have g5 := g3 (j % r'.size) _ (List.getElem?_eq_getElem hmod)
              have hdm : j / r'.size * r'.size + j % r'.size = j := by rw [Nat.mul_comm]; exact Nat.div_add_mod _ _
              rw [hdm, hj] at g5
              obtain ⟨_, _, g6⟩ := World.cells?_some (hF (j / r'.size) hi).2.2
              have g7 := g6 (j % r'.size) (by rw [hs]; exact Nat.mod_lt _ hpos)
              rw [add_add, hs, hdm] at g7
              rw [g7]
              rw [List.getElem?_eq_getElem hmod]
              exact g5.symm
            have hne : 0 < ((List.range len).map fun i => (F i).2).flatten.length := by
              rw [flat_len hall, List.length_map, List.length_range]
              exact Nat.mul_pos h0 r'.size_pos
            have h00 := hcell 0 _ (List.getElem?_eq_getElem hne)
            have ha0 : a.add 0 = a := rfl
            rw [ha0] at h00
            have hblk : a.block < w.heap.size ∧ a.spot = none := by
              unfold World.cell? at h00
              split at h00
              · rename_i c _ _ hc
                refine ⟨(Array.getElem?_eq_some_iff.1 hc).1, ?_⟩
                split at h00
                · cases h00
                · rename_i hsp
                  cases hq : a.spot with
                  | none => rfl
                  | some _ => simp [hq] at hsp
              · cases h00
            exact ⟨a, rfl, hblk.1, hblk.2, hcell⟩
          · simp only [WFc]
            refine ⟨by simp; omega, fun x hx => ?_⟩
            obtain ⟨i, hi, rfl⟩ := List.mem_map.1 hx
            exact (hF i (List.mem_range.1 hi)).2.1.1
          · simp only [SZc]
            refine ⟨by simpa using hlenZ, fun x hx => ?_⟩
            obtain ⟨i, hi, rfl⟩ := List.mem_map.1 hx
            exact (hF i (List.mem_range.1 hi)).2.1.2
      · cases h
    · rename_i fs ht
      rw [ht] at hok hz
      simp only [Bool.and_eq_true, List.all_eq_true] at hok hz
      cases fuel with
      | zero => simp [DataW.trod] at hx
      | succ fuel =>
        unfold DataW.trod at hx
        rw [ht] at hx
        simp only at hx
        split at hx
        · rename_i hlen
          obtain ⟨xs, hxs, rfl⟩ := Option.map_eq_some_iff.1 hx
          have h2 := weights_each (mapM_all2 hxs) (fun m hm => hwt m (by simpa only [DataW.weights, ht] using hm))
          have h3 := cat_opensZ (w := w) (ok := fun b => b < w.heap.size) (fs.toList.map fun f => shOf P n f.type) (fs.toList.map fun f => (cs.drop f.offset).take (P.cellsOf f.type)) r
            (h2.map2 fun f hf y hy a ha => open_shZ n f.type a ha (hok.2 f hf) (hz f hf) fuel _ y hy.1 hy.2) h
          rw [contig_flat fs.toList 0 (by rw [hlen]; exact hok.1), List.drop_zero] at h3
          exact h3
        · cases hx
    · rename_i m e ht
      rw [ht] at hok hz
      simp only [Bool.and_eq_true] at hok
      simp only at hz
      have hmul := Nat.eq_of_beq_eq_true hok.1
      cases fuel with
      | zero => simp [DataW.trod] at hx
      | succ fuel =>
        unfold DataW.trod at hx
        rw [ht] at hx
        simp only at hx
        split at hx
        · rename_i hlen
          obtain ⟨xs, hxs, rfl⟩ := Option.map_eq_some_iff.1 hx
          have h2 := weights_all (mapM_all2 hxs) (fun m hm => hwt m (by simpa only [DataW.weights, ht] using hm))
          have hrep : List.replicate m (shOf P n e) = (List.range m).map fun _ => shOf P n e := by
            rw [List.map_const', List.length_range]
          rw [hrep] at h
          have h3 := cat_opensZ (w := w) (ok := fun b => b < w.heap.size) ((List.range m).map fun _ => shOf P n e) ((List.range m).map fun i => (cs.drop (i * P.cellsOf e)).take (P.cellsOf e)) r
            (h2.map2 fun f hf y hy a ha => open_shZ n e a ha hok.2 hz fuel _ y hy.1 hy.2) h
          rw [List.range_eq_range', range_flat m 0 (by rw [hlen, Nat.zero_add, hmul]), Nat.zero_mul, List.drop_zero] at h3
          exact h3
        · cases hx
    · cases h

/-- Of a law's arguments. -/
def SZA : (ps : List PK) → ArgsD ps → Prop
  | [], _ => True
  | .data _ r :: ps, x => SZr r x.1 ∧ SZA ps x.2
  | .take _ _ :: _, _ => False
  | .fn _ :: _, _ => False
  | .clo _ _ :: _, _ => False
  | .ref _ :: _, _ => False
  | .rev _ _ :: _, _ => False
theorem weights_app {P : Program} (us : List TypeId) : ∀ {ts : List TypeId} {ds : List (DataW H)} {m : Nat}, m ∈ DataW.weightsEach P ts ds → m ∈ DataW.weightsEach P (ts ++ us) ds
  | [], ds, m, h => by rw [DataW.weightsEach] at h <;> first | (cases h) | (intros; contradiction)
  | t :: ts, [], m, h => by rw [DataW.weightsEach] at h <;> first | (cases h) | (intros; contradiction)
  | t :: ts, d :: ds, m, h => by
    rw [List.cons_append, DataW.weightsEach, List.mem_append] at *
    rcases h with h | h
    · exact .inl h
    · exact .inr (weights_app us h)
theorem open_valZ {base : Nat} {t : TypeId} {v : Value} {d : DataW H} {p : List MemPlace} {r : Shs} (hr : shOf P 20 t = some r) (hok : okT P 20 t = true) (hz : okZ P 20 t = true) (hval : Value.okWide P w .any base t v) (h : DataW.Trod enc P w 0 (fun _ => true) true t v d p) (hwt : ∀ m ∈ d.weights P t, m ≤ reachBytes) :
    ∃ y : RowD r, RepP w (fun b => b < w.heap.size) (isAggT P t) r y v ∧ WFr r y ∧ SZr r y := by
  obtain ⟨fuel, hf⟩ := h
  obtain ⟨y, hy, wy, zy⟩ := open_shZ 20 t r hr hok hz fuel _ _ hf hwt
  refine ⟨y, ?_, wy, zy⟩
  unfold RepP
  unfold okT at hok
  split at hok
  · rename_i k ht
    obtain ⟨n, rfl⟩ := okWide_int ht hval
    rw [if_neg (by simp [isAggT, ht])]
    exact hy
  · rename_i ht
    obtain ⟨n, rfl⟩ := okWide_bool ht hval
    rw [if_neg (by simp [isAggT, ht])]
    exact hy
  · rename_i ht
    obtain ⟨n, rfl⟩ := okWide_string ht hval
    rw [if_neg (by simp [isAggT, ht])]
    exact hy
  · rename_i e ht
    obtain ⟨A, l, c, rfl⟩ := okWide_slice ht hval
    rw [if_neg (by simp [isAggT, ht])]
    exact hy
  · rename_i fs ht
    rw [if_pos (by simp [isAggT, ht])]
    unfold Value.okWide at hval
    rw [ht] at hval
    obtain ⟨cs, rfl, _⟩ := hval
    exact ⟨cs.toList, rfl, hy⟩
  · rename_i m e ht
    rw [if_pos (by simp [isAggT, ht])]
    unfold Value.okWide at hval
    rw [ht] at hval
    obtain ⟨cs, rfl, _⟩ := hval
    exact ⟨cs.toList, rfl, hy⟩
  · cases hok

theorem open_argsZ {base : Nat} : ∀ (ts : List TypeId) (ps : List PK) (args : List Value) (ds : List (DataW H)) (p : List MemPlace), parOk P ts ps = true → ts.all (okZ P 20) = true → (∀ (j : Nat) t v, ts[j]? = some t → args[j]? = some v → Value.okWide P w .any base t v) →
    DataW.TrodAll enc P w 0 (fun _ => true) true ts args ds p → (∀ m ∈ DataW.weightsEach P ts ds, m ≤ reachBytes) → ∃ x : ArgsD ps, RepA w (fun b => b < w.heap.size) ps x args ∧ (WFA ps x ∧ SZA ps x) ∧ tkV ps args = []
  | [], [], args, ds, p, _, _, _, h, _ => by
    obtain ⟨rfl, _, _⟩ := trodAll_nil h
    exact ⟨(), rfl, ⟨trivial, trivial⟩, rfl⟩
  | t :: ts, .data agg r :: ps, args, ds, p, hp, hzs, hval, h, hwt => by
    rw [List.all_cons, Bool.and_eq_true] at hzs
    obtain ⟨v, vs, d, ds', p1, q1, rfl, rfl, rfl, h1, h2⟩ := trodAll_cons h
    have hp' : (decide (shOf P 20 t = some r) && okT P 20 t && (agg == isAggT P t) && parOk P ts ps) = true := hp
    simp only [Bool.and_eq_true, decide_eq_true_eq, beq_iff_eq] at hp'
    obtain ⟨⟨⟨g1, g2⟩, rfl⟩, g4⟩ := hp'
    rw [DataW.weightsEach] at hwt
    obtain ⟨y, hy, wy, zy⟩ := open_valZ g1 g2 hzs.1 (hval 0 t v rfl rfl) h1 (fun m hm => hwt m (List.mem_append.2 (.inl hm)))
    obtain ⟨x, hx, ⟨wx, zx⟩, htk⟩ := open_argsZ ts ps vs ds' q1 g4 hzs.2 (fun j t v ht hv => hval (j + 1) t v (by simpa using ht) (by simpa using hv)) h2 (fun m hm => hwt m (List.mem_append.2 (.inr hm)))
    exact ⟨(y, x), ⟨v, vs, rfl, hy, hx⟩, ⟨⟨wy, wx⟩, ⟨zy, zx⟩⟩, htk⟩
  | [], _ :: _, _, _, _, hp, _, _, _, _ => nomatch hp
  | _ :: _, [], _, _, _, hp, _, _, _, _ => nomatch hp
  | _ :: _, .take _ _ :: _, _, _, _, hp, _, _, _, _ => nomatch hp
  | _ :: _, .fn _ :: _, _, _, _, hp, _, _, _, _ => nomatch hp
  | _ :: _, .clo _ _ :: _, _, _, _, hp, _, _, _, _ => nomatch hp
  | _ :: _, .ref _ :: _, _, _, _, hp, _, _, _, _ => nomatch hp
  | _ :: _, .rev _ _ :: _, _, _, _, hp, _, _, _, _ => nomatch hp


/-- A law of plain data that answers true. -/
theorem law_callsZ {f : FuncId} {fn : Func} {s : ChangeSpec} {E : Ent} (hE : Holds P f E) (hrs : E.rs = [⟨false, .one .bool, none⟩]) (plain : ∀ x : ArgsD E.ps, WFA E.ps x → SZA E.ps x → ∃ k, E.fn k x = some (hrs ▸ (true : Bool)))
    (hpar : parOk P fn.params.toList E.ps = true) (hread : readOk P fn.params.toList = true) (hzs : fn.params.toList.all (okZ P 20) = true) (hl : laidOutB P = true) {rt : TypeId} (hres : fn.resultTypes = #[rt]) (hbool : P.underlying rt = some .bool) (hvars : s.vars = [])
    (hspec : ∀ ds : List (DataW H), ds.length = fn.params.toList.length → (s.fn H ds).results = [.lit (.bool true)] ∧ (s.fn H ds).args = ds ∧ (s.fn H ds).vars = [])
    {base : Nat} {args : Array Value} {ds gs : List (DataW H)} {before : List MemPlace} (hval : ∀ (j : Nat) t v, fn.params[j]? = some t → args[j]? = some v → Value.okWide P w .any base t v)
    (hW : DataW.Whole enc P fn.params.toList s.vars false w args.toList ds gs before) (hsz : (DataW.weightsEach P (fn.params.toList ++ s.plain.varTypes P) (ds ++ gs)).all (· ≤ reachBytes) = true) :
    Calls P f args w fun e W' => ∃ v, e = .returned v ∧ s.post enc P fn false true false false w args v W' := by
  have hW' := hW
  obtain ⟨p, q, hA, hV, rfl, hfz, hnd⟩ := hW
  rw [hvars] at hV
  obtain ⟨rfl, rfl⟩ := trodVars_none hV
  have hwt : ∀ m ∈ DataW.weightsEach P fn.params.toList ds, m ≤ reachBytes := fun m hm => by
    have := List.all_eq_true.1 hsz m (by
      rw [List.append_nil]
      exact weights_app _ hm)
    simpa using this
  obtain ⟨x, hx, ⟨wx, zx⟩, htk⟩ := open_argsZ fn.params.toList E.ps args.toList ds p hpar hzs (fun j t v ht hv => hval j t v (by simpa using ht) (by simpa using hv)) hA hwt
  obtain ⟨k, hk⟩ := plain x wx zx
  have hlen : ds.length = fn.params.toList.length := by
    have key : ∀ (ts : List TypeId) (vs : List Value) (ds : List (DataW H)) (p : List MemPlace), DataW.TrodAll enc P w 0 (fun _ => true) true ts vs ds p → ds.length = ts.length := by
      intro ts
      induction ts with
      | nil => intro vs ds p h; obtain ⟨_, rfl, _⟩ := trodAll_nil h; rfl
      | cons t ts ih =>
        intro vs ds p h
        obtain ⟨v, vs', d, ds', p1, q1, rfl, rfl, rfl, h1, h2⟩ := trodAll_cons h
        simp [ih vs' ds' q1 h2]
    exact key _ _ _ _ hA
  obtain ⟨s1, s2, s3⟩ := hspec ds hlen
  have hcall := hE.calls k x _ args.toList w (fun b => b < w.heap.size) hk (fun b hb => ⟨hb, by rw [htk]; rintro ⟨v, hv, _⟩; cases hv⟩) (by rw [htk]; exact List.Pairwise.nil) hx
  rw [show args.toList.toArray = args by simp] at hcall
  refine hcall.mono fun e W' he => ?_
  obtain ⟨us, rfl, hkept, _, hrs'⟩ := he
  rw [htk] at hkept
  have bel : Below w.heap.size w W' := ⟨hkept.os, hkept.tape, hkept.output, hkept.size, fun k hk => hkept.block k hk (by rintro ⟨v, hv, _⟩; cases hv)⟩
  have hb : tupVal us = .bool true := by
    obtain ⟨ps, rs, fn'⟩ := E
    simp only at hrs
    subst hrs
    obtain ⟨v, rfl, hv⟩ := hrs'
    have hv' : RepP W' _ false (.one .bool) _ v := hv
    unfold RepP at hv'
    rw [if_neg (by decide)] at hv'
    simp only [RepR] at hv'
    obtain ⟨u, e, hu⟩ := hv'
    cases e
    simp only [RepC] at hu
    exact hu
  rw [hb]
  refine ⟨_, rfl, ds, [], p ++ [], [], p, [], hW', ?_, ?_, ?_, bel.frame _, fun h => nomatch h⟩
  · rw [List.append_nil, s1, hres]
    exact trodAll_mk1 (shut_bool hbool true)
  · rw [List.append_nil, s2]
    exact back_args hl bel _ _ _ _ hread hA
  · rw [List.append_nil, s3, hvars]
    rfl
end
end Go.Pi
