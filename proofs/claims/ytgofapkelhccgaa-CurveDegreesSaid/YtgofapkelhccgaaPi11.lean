/- Each operation does what the executor says: text out of bytes, struct literals. -/
import Derived.Test.YtgofapkelhccgaaPi10
import Derived.Laws.Tables
set_option linter.unusedVariables false
set_option linter.unusedSimpArgs false
namespace Go.Pi
open Go.RowKit

section
variable {P : Program} {W0 : World} {A Gv : Nat → Prop} {N : Nat} {U : Nat → Prop} {g : Nat → TV} {B : Nat → Option Blk} {ν : Nat → Value} {a : Act} {w : World} {o : Oper}

theorem toC_sl {r : Shs} {v : CV} {xs : CellD (.sl r)} (h : v.toC B (.sl r) = some xs) : (v = .val (.slice none 0 0) ∧ xs = ([] : List (RowD r))) ∨ dataOf B v = some ⟨r, xs⟩ := by
  unfold CV.toC at h
  split at h
  · rename_i s' x
    obtain ⟨e, rfl⟩ := castD_eq h
    cases e
    exact .inr rfl
  · cases h
    exact .inl ⟨rfl, rfl⟩
  · rename_i i
    split at h
    · rename_i e r' xs' fz hB
      obtain ⟨e, rfl⟩ := castD_eq h
      cases e
      exact .inr (by simp [dataOf, hB])
    · cases h
  · rename_i i n
    split at h
    · rename_i e r' xs' fz hB
      obtain ⟨e, rfl⟩ := castD_eq h
      cases e
      exact .inr (by simp [dataOf, hB])
    · cases h
  · cases h

theorem ints_flat {ok : Nat → Prop} {k : IntKind} : ∀ {xs : List (RowD (.one (.int k)))} {css : List (List Value)}, All2 (fun x cs => RepR w ok (.one (.int k)) x cs) xs css → css.flatten = List.map (Value.int k) xs
  | [], [], _ => rfl
  | x :: xs, c :: css, h => by
    obtain ⟨h1, h2⟩ := h
    simp only [RepR] at h1
    obtain ⟨v, rfl, hv⟩ := h1
    simp only [RepC] at hv
    subst hv
    rw [List.flatten_cons, ints_flat h2]
    rfl
  | [], _ :: _, h => h.elim
  | _ :: _, [], h => h.elim

theorem op_conv_str (h : Sim W0 A Gv N U g B ν a w) (src dst : TypeId) (x : Operand) (ho : o.op = .convert src dst x) {e : TypeId} (hs : P.underlying src = some (.slice e)) (hd : P.underlying dst = some .string) (he : P.underlying e = some (.int .u8))
    {v : CV} (hx : opnd g x = .e (.one v)) {xs : List Int} (hxs : v.toC B (.sl (.one (.int .u8))) = some xs) : Res P W0 A Gv N U g B (str1 (strOf xs)) o a w := by
  have hv : RepCV w (okS W0 A Gv ν B w) ν B v (a.eval x) := (hx ▸ h.opnd x : RepTV w (okS W0 A Gv ν B w) ν B (.e (.one v)) (a.eval x))
  have key : ∀ Ad l c, a.eval x = .slice Ad l c → (Conv.bytesToString (.slice Ad l c)).run P w = .ok (.string (strOf xs)) w → Res P W0 A Gv N U g B (str1 (strOf xs)) o a w := by
    intro Ad l c h1 h2
    refine Res.same h _ ?_ (str1_rep _) (str1_sites _)
    simp only [execOp, ho, h1, Sem.run_bind, run_convert_bytes_string w src dst e Ad l c hs he hd, h2, Result.andThen_ok, Sem.run_pure]
  rcases toC_sl hxs with ⟨rfl, rfl⟩ | hdat
  · exact key none 0 0 hv.1 (by simp [Conv.bytesToString, strOf]; rfl)
  · obtain ⟨Ad, c, css, h1, h2, h3, h4, h5⟩ := dataOf_rep h hv hdat
    refine key _ _ _ h1 ?_
    have hf := ints_flat h4
    have hload : ∀ ad, (∀ j u, css.flatten[j]? = some u → w.cell? (Addr.add ad j) = some u) → (loadCells ad (List.length xs)).run P w = .ok (xs.map (Value.int .u8)).toArray w := by
      intro ad hc
      have := run_loadCells_list (P := P) w ad css.flatten hc
      rw [hf] at this
      simpa using this
    cases Ad with
    | none =>
      have : List.length xs = 0 := by
        rcases Nat.eq_zero_or_pos (List.length xs) with h0 | h0
        · exact h0
        · obtain ⟨ad, e, _⟩ := h5 h0
          cases e
      have e0 : xs = [] := List.eq_nil_of_length_eq_zero this
      subst e0
      simp [Conv.bytesToString, strOf]
    | some ad =>
      refine run_bytesToString w ad _ c xs (hload ad fun j u hj => ?_)
      have : 0 < List.length xs := by
        rw [hf] at hj
        have := (List.getElem?_eq_some_iff.1 hj).1
        simp at this
        omega
      obtain ⟨ad', e, _, _, hc⟩ := h5 this
      cases e
      exact hc j u hj

theorem zip_set : ∀ (vs : List Value) (off k : Nat) (cs : List Value), off + k + vs.length ≤ cs.length →
    (vs.zipIdx k).foldl (fun (cs : Array Value) (p : Value × Nat) => cs.setIfInBounds (off + p.2) p.1) cs.toArray = (cs.take (off + k) ++ vs ++ cs.drop (off + k + vs.length)).toArray
  | [], off, k, cs, h => by simp
  | v :: vs, off, k, cs, h => by
    simp only [List.length_cons] at h
    simp only [List.zipIdx_cons, List.foldl_cons]
    have e1 : cs.toArray.setIfInBounds (off + k) v = (cs.set (off + k) v).toArray := by simp
    rw [e1, zip_set vs off (k + 1) (cs.set (off + k) v) (by simp; omega)]
    congr 1
    have hk : off + k < cs.length := by omega
    rw [List.drop_set_of_lt (by omega)]
    have e2 : (cs.set (off + k) v).take (off + (k + 1)) = cs.take (off + k) ++ [v] := by
      rw [← Nat.add_assoc, List.take_add_one, List.take_set_of_le (by omega)]
      simp [hk]
    rw [e2]
    simp only [List.append_assoc, List.cons_append, List.nil_append, List.length_cons]
    congr 3
    congr 1
    omega

theorem setCells_rep {ok : Nat → Prop} {l m : List CV} {vs us : List Value} (h1 : All2 (RepCV w ok ν B) l vs) (h2 : All2 (RepCV w ok ν B) m us) (off : Nat) :
    All2 (RepCV w ok ν B) (setCells l off m) (vs.take off ++ us ++ vs.drop (off + us.length)) := by
  unfold setCells
  rw [← h2.len]
  exact ((h1.take off).append h2).append (h1.drop _)

theorem EV_cells {ok : Nat → Prop} {x : EV} {v : Value} (h : RepEV w ok ν B x v) : All2 (RepCV w ok ν B) x.cells v.cells.toList := by
  cases x with
  | one x =>
    have := RepCV.one h
    have e : v.cells = #[v] := by cases v <;> first | rfl | cases this
    rw [e]
    exact ⟨h, trivial⟩
  | agg l =>
    obtain ⟨vs, rfl, h⟩ := h
    exact h

theorem fill_rep {ok : Nat → Prop} {place : Nat → Option (Nat × Nat)} : ∀ {parts : List (Nat × TV)} {vals : List (Nat × Value)} {cells l : List CV} {zs : List Value},
    All2 (fun (p : Nat × TV) (q : Nat × Value) => p.1 = q.1 ∧ RepTV w ok ν B p.2 q.2) parts vals → All2 (RepCV w ok ν B) cells zs → fillV place cells parts = some l →
    ∃ us : List Value, Instr.fill place zs.toArray vals = some us.toArray ∧ All2 (RepCV w ok ν B) l us
  | [], [], cells, l, zs, _, hz, h => by
    simp only [fillV, Option.some.injEq] at h
    subst h
    exact ⟨zs, rfl, hz⟩
  | (i, tv) :: parts, (i', v) :: vals, cells, l, zs, hp, hz, h => by
    obtain ⟨⟨e, hv⟩, hp⟩ := hp
    simp only at e
    subst e
    cases tv with
    | dead => simp [fillV] at h
    | tup _ => simp [fillV] at h
    | e x =>
      simp only [fillV] at h
      split at h
      · rename_i off n hpl
        split at h
        · rename_i hcond
          obtain ⟨h1, h2⟩ := hcond
          have hc := EV_cells (hv : RepEV w ok ν B x v)
          have hlen := hc.len
          have hs := setCells_rep hz hc off
          have hzl := hz.len
          have := fill_rep hp hs h
          obtain ⟨us, hu, hr⟩ := this
          refine ⟨us, ?_, hr⟩
          have hsz : v.cells.size = n := by rw [← Array.length_toList, ← hlen, h1]
          simp only [Instr.fill, hpl]
          rw [if_neg (by simp [hsz, ← hzl, h2])]
          have hz2 := zip_set v.cells.toList off 0 zs (by simp [hsz, ← hzl, h2])
          rw [Nat.add_zero] at hz2
          rw [← hu]
          congr 1
          rw [← hz2]
          show Array.foldl _ _ _ 0 v.cells.zipIdx.size = _
          rw [← Array.foldl_toList, Array.toList_zipIdx]
        · cases h
      · cases h
  | [], _ :: _, _, _, _, h, _, _ => h.elim
  | _ :: _, [], _, _, _, h, _, _ => h.elim

theorem zero_eq {t : TypeId} {z : List Value} (h : zeroT P t = some z) : ∃ i v, P.info? t = some i ∧ i.zero = some v ∧ v.cells.toList = z ∧ (zeroValue t).run P w = .ok v w := by
  unfold zeroT at h
  cases hi : P.info? t with
  | none => simp [hi] at h
  | some i =>
    simp only [hi] at h
    cases hz : i.zero with
    | none => simp [hz] at h
    | some v =>
      simp [hz] at h
      exact ⟨i, v, rfl, hz, h, by simp [zeroValue, typeInfo, hi, hz]⟩

theorem ofCells_rep {ok : Nat → Prop} : ∀ {z : List Value}, z.all (·.oneCell') = true → All2 (RepCV w ok ν B) (z.map ofCell) z
  | [], _ => trivial
  | v :: z, h => by
    simp only [List.all_cons, Bool.and_eq_true] at h
    exact ⟨ofCell_rep h.1, ofCells_rep h.2⟩

theorem opnds_rep (h : Sim W0 A Gv N U g B ν a w) : ∀ (l : List (Nat × Operand)), All2 (fun (p : Nat × TV) (q : Nat × Value) => p.1 = q.1 ∧ RepTV w (okS W0 A Gv ν B w) ν B p.2 q.2) (l.map fun p => (p.1, Pi.opnd g p.2)) (l.map fun p => (p.1, a.eval p.2))
  | [] => trivial
  | p :: l => ⟨⟨rfl, h.opnd p.2⟩, opnds_rep h l⟩

theorem fill_sites {place : Nat → Option (Nat × Nat)} : ∀ {parts : List (Nat × TV)} {cells l : List CV}, (∀ p ∈ parts, ∀ s ∈ p.2.sites, U s) → (∀ c ∈ cells, ∀ s ∈ c.sites, U s) → fillV place cells parts = some l → ∀ c ∈ l, ∀ s ∈ c.sites, U s
  | [], cells, l, _, hc, h => by
    simp only [fillV, Option.some.injEq] at h
    subst h
    exact hc
  | (i, tv) :: parts, cells, l, hp, hc, h => by
    cases tv with
    | dead => simp [fillV] at h
    | tup _ => simp [fillV] at h
    | e x =>
      simp only [fillV] at h
      split at h
      · split at h
        · refine fill_sites (fun p hp' => hp p (by simp [hp'])) (fun c hcm s hs => ?_) h
          unfold setCells at hcm
          simp only [List.mem_append] at hcm
          rcases hcm with (hcm | hcm) | hcm
          · exact hc c (List.mem_of_mem_take hcm) s hs
          · refine hp (i, .e x) (by simp) s ?_
            simp only [TV.sites, EV.sites, List.mem_flatMap]
            exact ⟨c, hcm, hs⟩
          · exact hc c (List.mem_of_mem_drop hcm) s hs
        · cases h
      · cases h

theorem op_build (h : Sim W0 A Gv N U g B ν a w) (t : TypeId) (parts : Array (Nat × Operand)) (ho : o.op = .build t parts) {z : List Value} (hz : zeroT P t = some z) (hz1 : z.all (·.oneCell') = true) {fs : Array Field} (ht : P.underlying t = some (.struct fs))
    (hfs : fs.all (fun f => (P.info? f.type).isSome) = true) {l : List CV}
    (hl : fillV (fun i => match fs[i]? with
      | some f => (sizeT P f.type).map fun n => (f.offset, n)
      | none => none) (z.map ofCell) (parts.toList.map fun p => (p.1, opnd g p.2)) = some l) : Res P W0 A Gv N U g B (.e (.agg l)) o a w := by
  obtain ⟨i, v, hi, hv, hvc, _⟩ := zero_eq (w := w) hz
  obtain ⟨us, hu, hr⟩ := fill_rep (opnds_rep h parts.toList) (ofCells_rep (w := w) (ok := okS W0 A Gv ν B w) (ν := ν) (B := B) hz1) hl
  refine Res.same h (.agg us.toArray) ?_ ⟨us, rfl, hr⟩ fun s hs => ?_
  · obtain ⟨places, hpl⟩ : ∃ places, fs.toList.mapM (fun (f : Field) => (P.info? f.type).map fun i => (f.offset, i.size)) = some places := by
      have hall : ∀ f ∈ fs.toList, (P.info? f.type).isSome = true := by
        intro f hf
        exact Array.all_eq_true_iff_forall_mem.1 hfs f (Array.mem_toList_iff.1 hf)
      clear hl hfs ht hu
      generalize fs.toList = L at hall ⊢
      induction L with
      | nil => exact ⟨[], rfl⟩
      | cons f l ih =>
        obtain ⟨pl, hpl⟩ := ih fun f' hf' => hall f' (by simp [hf'])
        obtain ⟨j, hj⟩ := Option.isSome_iff_exists.1 (hall f (by simp))
        exact ⟨(f.offset, j.size) :: pl, by simp [List.mapM_cons, hj, hpl]⟩
    have hget : ∀ k : Nat, places.toArray[k]? = (match (fs[k]? : Option Field) with
        | some f => (sizeT P f.type).map fun n => (f.offset, n)
        | none => none) := by
      intro k
      have e1 : fs[k]? = fs.toList[k]? := by simp
      rw [e1]
      simp only [List.getElem?_toArray]
      clear hl hfs ht hu e1
      generalize fs.toList = L at hpl
      induction L generalizing places k with
      | nil => simp at hpl; subst hpl; simp
      | cons f l ih =>
        simp only [List.mapM_cons, Option.bind_eq_bind, Option.pure_def] at hpl
        cases hj : P.info? f.type with
        | none => simp [hj] at hpl
        | some j =>
          cases hrest : l.mapM (fun (f : Field) => (P.info? f.type).map fun i => (f.offset, i.size)) with
          | none => simp [hj, hrest] at hpl
          | some pl =>
            simp [hj, hrest] at hpl
            subst hpl
            cases k with
            | zero => simp [sizeT, hj]
            | succ k => simpa using ih pl k hrest
    have hb : P.built t (parts.toList.map fun p => (p.1, a.eval p.2)) = some us.toArray := by
      unfold Program.built
      simp only [hi, ht, hv, hpl]
      have hz' : v.cells = z.toArray := by rw [← hvc]
      rw [hz', ← hu]
      congr 1
      funext k
      exact hget k
    have := run_build (P := P) w t (parts.map fun (i, x) => (i, a.eval x)) us.toArray (by simpa using hb)
    simp only [execOp, ho, Sem.run_bind, this, Result.andThen_ok, Sem.run_pure]
  · simp only [TV.sites, EV.sites, EV.cells, List.mem_flatMap] at hs
    obtain ⟨c, hc, hs⟩ := hs
    refine fill_sites (U := U) (fun p hp s' hs' => ?_) (fun c' hc' s' hs' => ?_) hl c hc s hs
    · simp only [List.mem_map] at hp
      obtain ⟨q, _, rfl⟩ := hp
      exact h.opnd_sites q.2 s' hs'
    · simp only [List.mem_map] at hc'
      obtain ⟨q, _, rfl⟩ := hc'
      rw [ofCell_sites] at hs'
      cases hs'

end
end Go.Pi
