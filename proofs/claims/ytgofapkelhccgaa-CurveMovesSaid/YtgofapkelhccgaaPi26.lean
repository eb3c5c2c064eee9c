/- Drawn regions (1): what an operation depends on. -/
import Derived.Test.YtgofapkelhccgaaPi25
import Derived.Orders
set_option linter.unusedVariables false
set_option linter.unusedSimpArgs false
namespace Go.Pi
open Go.RowKit

theorem opnd_congr {g g' : Nat → TV} {x : Operand} (h : ∀ t, x = .tmp t → g t = g' t) : opnd g x = opnd g' x := by
  cases x <;> first | rfl | exact h _ rfl
theorem mapM_congr' {α β : Type} {f f' : α → Option β} : ∀ {l : List α}, (∀ x ∈ l, f x = f' x) → l.mapM f = l.mapM f'
  | [], _ => rfl
  | x :: l, h => by
    rw [List.mapM_cons, List.mapM_cons, h x (by simp), mapM_congr' (fun y hy => h y (by simp [hy]))]
theorem optI_congr {g g' : Nat → TV} {x : Option Operand} (h : ∀ y, x = some y → opnd g y = opnd g' y) : optI g x = optI g' x := by
  cases x with
  | none => rfl
  | some y => simp only [optI, h y rfl]
theorem flatMap_congr' {α β : Type} {f f' : α → List β} : ∀ {l : List α}, (∀ x ∈ l, f x = f' x) → l.flatMap f = l.flatMap f'
  | [], _ => rfl
  | x :: l, h => by rw [List.flatMap_cons, List.flatMap_cons, h x (by simp), flatMap_congr' (fun y hy => h y (by simp [hy]))]

theorem prep_congr (P : Program) (T : List (Nat × Ent)) {g g' : Nat → TV} (B : Nat → Option Blk) (base : Nat) (o : Oper) (h : ∀ x ∈ o.op.operands, opnd g x = opnd g' x) :
    prep P T g B base o = prep P T g' B base o := by
  obtain ⟨dst, op, type, pos, after, guard⟩ := o
  cases op
  case build t ps =>
    have hp : (ps.toList.map fun p => (p.1, opnd g p.2)) = ps.toList.map fun p => (p.1, opnd g' p.2) := List.map_congr_left fun p hp => by
      rw [h p.2 (by simp [Op.operands]; exact ⟨p.1, by simpa using hp⟩)]
    simp only [prep, hp]
  case buildSlice t n ps =>
    have hp : (ps.toList.map fun p => (p.1, opnd g p.2)) = ps.toList.map fun p => (p.1, opnd g' p.2) := List.map_congr_left fun p hp => by
      rw [h p.2 (by simp [Op.operands]; exact ⟨p.1, by simpa using hp⟩)]
    have hq : (ps.toList.flatMap fun p => litS (opnd g p.2)) = ps.toList.flatMap fun p => litS (opnd g' p.2) := by
      exact flatMap_congr' fun p hp => by rw [h p.2 (by simp [Op.operands]; exact ⟨p.1, by simpa using hp⟩)]
    simp only [prep, hp, hq]
  case call c =>
    obtain ⟨callee, args, ats⟩ := c
    have ha : args.toList.map (opnd g) = args.toList.map (opnd g') := List.map_congr_left fun x hx => h x (by
      simp only [Op.operands, Call.operands]
      cases callee <;> simp_all)
    have hm : args.toList.mapM (fun x => getI (opnd g x)) = args.toList.mapM (fun x => getI (opnd g' x)) := mapM_congr' fun x hx => by
      rw [h x (by
        simp only [Op.operands, Call.operands]
        cases callee <;> simp_all)]
    have hh : args.toList.head?.map (opnd g) = args.toList.head?.map (opnd g') := by
      rw [← List.head?_map, ← List.head?_map, ha]
    cases callee with
    | value f =>
      have hf := h f (by simp [Op.operands, Call.operands])
      simp only [prep, ha, hf]
    | invoke r m => rfl
    | builtin b => cases b <;> simp only [prep, ha, hm, hh]
  case slice t x lo hi mx =>
    have h0 := h x (by simp [Op.operands])
    have h1 : optI g lo = optI g' lo := optI_congr fun y hy => h y (by subst hy; simp [Op.operands])
    have h2 : optI g hi = optI g' hi := optI_congr fun y hy => h y (by subst hy; simp [Op.operands])
    cases mx <;> simp only [prep, h0, h1, h2]
  all_goals first
    | rfl
    | (simp only [Op.operands] at h
       simp only [prep]
       simp_all)

/-! of the blocks, an operation looks only at those that its operands name -/
section
variable {B B' : Nat → Option Blk}
theorem toC_local {s : Sh} {v : CV} (h : ∀ i ∈ v.sites, B i = B' i) : v.toC B s = v.toC B' s := by
  cases v with
  | own i => simp only [CV.toC, h i (by simp [CV.sites])]
  | pre i n => simp only [CV.toC, h i (by simp [CV.sites])]
  | val u =>
    unfold CV.toC
    cases u with
    | slice A n c => cases A <;> cases n <;> cases c <;> rfl
    | _ => rfl
  | _ => rfl
theorem packR_local (r : Shs) : ∀ (l : List CV), (∀ c ∈ l, ∀ i ∈ c.sites, B i = B' i) → packR B r l = packR B' r l := by
  refine Shs.rec (motive_1 := fun _ => True) (motive_2 := fun r => ∀ (l : List CV), (∀ c ∈ l, ∀ i ∈ c.sites, B i = B' i) → packR B r l = packR B' r l)
    (fun _ => trivial) trivial trivial (fun _ _ => trivial) ?_ ?_ r
  · intro s _ l h
    rw [packR_one, packR_one]
    rcases l with _ | ⟨v, _ | ⟨_, _⟩⟩
    · rfl
    · exact toC_local (h v (by simp))
    · rfl
  · intro s r _ ih l h
    rw [packR_cons, packR_cons]
    rcases l with _ | ⟨v, l⟩
    · rfl
    · simp only [toC_local (s := s) (h v (by simp)), ih l fun c hc => h c (by simp [hc])]
theorem cellsAt_local {q : CV} (h : ∀ i ∈ q.sites, B i = B' i) : cellsAt B q = cellsAt B' q := by
  cases q with
  | ptr i off => simp only [cellsAt, h i (by simp [CV.sites])]
  | rptr i r j off => simp only [cellsAt, h i (by simp [CV.sites])]
  | _ => rfl
theorem filterMap_local {α β : Type} {f f' : α → Option β} : ∀ {l : List α}, (∀ x ∈ l, f x = f' x) → l.filterMap f = l.filterMap f'
  | [], _ => rfl
  | x :: l, h => by rw [List.filterMap_cons, List.filterMap_cons, h x (by simp), filterMap_local fun y hy => h y (by simp [hy])]
theorem frz_local {ss : List Nat} (h : ∀ i ∈ ss, B i = B' i) : frz B ss = frz B' ss := filterMap_local fun i hi => by rw [h i hi]
theorem rowSites_sub {v : CV} : ∀ i ∈ v.rowSites, i ∈ v.sites := by cases v <;> simp [CV.rowSites, CV.sites]
theorem alive_local {v : CV} (h : ∀ i ∈ v.sites, B i = B' i) : v.alive B = v.alive B' := by
  cases v with
  | own i | pre i _ | ptr i _ | rptr i _ _ _ => simp only [CV.alive, h i (by simp [CV.sites])]
  | _ => rfl
theorem dataOf_local {v : CV} (h : ∀ i ∈ v.sites, B i = B' i) : dataOf B v = dataOf B' v := by
  cases v with
  | own i | pre i _ => simp only [dataOf, h i (by simp [CV.sites])]
  | c s x => cases s <;> rfl
  | _ => rfl
theorem baseOfApp_local {v : CV} (h : ∀ i ∈ v.sites, B i = B' i) : baseOfApp B v = baseOfApp B' v := by
  cases v with
  | own i | pre i _ => simp only [baseOfApp, h i (by simp [CV.sites])]
  | _ => rfl
theorem mem_setCells {l m : List CV} {off : Nat} {c : CV} (h : c ∈ setCells l off m) : c ∈ l ∨ c ∈ m := by
  unfold setCells at h
  simp only [List.mem_append] at h
  rcases h with (h | h) | h
  · exact .inl (List.mem_of_mem_take h)
  · exact .inr h
  · exact .inl (List.mem_of_mem_drop h)
theorem unpackR_sites (r : Shs) : ∀ (x : RowD r), ∀ c ∈ unpackR r x, c.sites = [] := by
  refine Shs.rec (motive_1 := fun _ => True) (motive_2 := fun r => ∀ (x : RowD r), ∀ c ∈ unpackR r x, c.sites = [])
    (fun _ => trivial) trivial trivial (fun _ _ => trivial) ?_ ?_ r
  · intro s _ x c hc
    simp only [unpackR, List.mem_singleton] at hc
    subst hc
    rfl
  · intro s r _ ih x c hc
    simp only [unpackR, List.mem_cons] at hc
    rcases hc with rfl | hc
    · rfl
    · exact ih _ c hc
theorem storeV_local (P : Program) {t : TypeId} {p : CV} {x : EV} (hp : ∀ i ∈ p.sites, B i = B' i) (hx : ∀ i ∈ x.sites, B i = B' i) : storeV P B t p x = storeV P B' t p x := by
  have hc : ∀ c ∈ x.cells, ∀ i ∈ c.sites, B i = B' i := fun c h i hi => hx i (List.mem_flatMap.2 ⟨c, h, hi⟩)
  have hr : ∀ i ∈ x.cells.flatMap CV.rowSites, B i = B' i := fun i hi => by
    obtain ⟨c, h1, h2⟩ := List.mem_flatMap.1 hi
    exact hc c h1 i (rowSites_sub i h2)
  have hpk : ∀ (r : Shs) (y : RowD r) (off : Nat), packR B r (setCells (unpackR r y) off x.cells) = packR B' r (setCells (unpackR r y) off x.cells) := fun r y off => packR_local r _ fun c h i hi => by
    rcases mem_setCells h with h | h
    · rw [unpackR_sites r y c h] at hi; cases hi
    · exact hc c h i hi
  have hf : ∀ s, frz B ((x.cells.flatMap CV.rowSites).filter (· != s)) = frz B' ((x.cells.flatMap CV.rowSites).filter (· != s)) := fun s => frz_local fun i hi => hr i (List.mem_filter.1 hi).1
  have hf' : frz B (x.cells.flatMap CV.rowSites) = frz B' (x.cells.flatMap CV.rowSites) := frz_local hr
  unfold storeV
  cases p with
  | ptr s off => simp only [hp s (by simp [CV.sites])]
  | rptr s r j off => simp only [hp s (by simp [CV.sites]), hpk, hf, hf']
  | _ => rfl
theorem litRows_local {r : Shs} {parts : List (Nat × TV)} (h : ∀ p ∈ parts, ∀ i ∈ p.2.sites, B i = B' i) : ∀ (n j : Nat), litRows B r parts j n = litRows B' r parts j n
  | 0, j => by unfold litRows; rfl
  | n + 1, j => by
    unfold litRows
    simp only [litRows_local h n (j + 1)]
    split
    · rfl
    · rename_i x hx
      rw [packR_local r _ fun c hc i hi => h _ (List.mem_of_find?_eq_some hx) i (List.mem_flatMap.2 ⟨c, hc, hi⟩)]
    · rfl
theorem pack1_local (p : PK) {t : TV} (h : ∀ i ∈ t.sites, B i = B' i) : pack1 B p t = pack1 B' p t := by
  have one : ∀ {v : CV}, t = .e (.one v) → ∀ i ∈ v.sites, B i = B' i := fun e i hi => h i (by rw [e]; simpa [TV.sites, EV.sites, EV.cells] using hi)
  have agg : ∀ {l : List CV}, t = .e (.agg l) → ∀ c ∈ l, ∀ i ∈ c.sites, B i = B' i := fun e c hc i hi => h i (by rw [e]; exact List.mem_flatMap.2 ⟨c, hc, hi⟩)
  cases p with
  | data a r =>
    cases a with
    | true =>
      show (pack1 B (.data true r) t : Option (RowD r)) = pack1 B' (.data true r) t
      rw [pack1_true, pack1_true]
      cases t with
      | e x => cases x with
        | agg l => exact packR_local r _ (agg rfl)
        | one v => rfl
      | _ => rfl
    | false =>
      show (pack1 B (.data false r) t : Option (RowD r)) = pack1 B' (.data false r) t
      rw [pack1_false, pack1_false]
      cases t with
      | e x => cases x with
        | agg l => rfl
        | one v => exact packR_local r _ (fun c hc => by rw [List.mem_singleton.1 hc]; exact one rfl)
      | _ => rfl
  | take e r =>
    show (pack1 B (.take e r) t : Option (List (RowD r))) = pack1 B' (.take e r) t
    rw [pack1_take, pack1_take]
    cases t with
    | e x => cases x with
      | agg l => rfl
      | one v => cases v with
        | own s => simp only [one rfl s (by simp [CV.sites])]
        | _ => rfl
    | _ => rfl
  | fn f => rfl
theorem packA_local : ∀ (ps : List PK) (as : List TV), (∀ t ∈ as, ∀ i ∈ t.sites, B i = B' i) → packA B ps as = packA B' ps as
  | [], as, _ => by cases as <;> rfl
  | p :: ps, [], _ => rfl
  | p :: ps, t :: as, h => by
    unfold packA
    simp only [pack1_local p (h t (by simp)), packA_local ps as fun t ht => h t (by simp [ht])]
theorem lentA_sub : ∀ (ps : List PK) (as : List TV), ∀ i ∈ lentA ps as, ∃ t ∈ as, i ∈ t.sites
  | [], as, i, h => by simp [lentA] at h
  | p :: ps, [], i, h => by cases p <;> simp [lentA] at h
  | p :: ps, t :: as, i, h => by
    have rest : i ∈ lentA ps as → ∃ t' ∈ t :: as, i ∈ t'.sites := fun h => by
      obtain ⟨t', h1, h2⟩ := lentA_sub ps as i h
      exact ⟨t', by simp [h1], h2⟩
    cases p with
    | data a r =>
      cases t with
      | e x =>
        simp only [lentA, List.mem_append] at h
        rcases h with h | h
        · obtain ⟨c, h1, h2⟩ := List.mem_flatMap.1 h
          exact ⟨_, List.mem_cons_self, List.mem_flatMap.2 ⟨c, h1, rowSites_sub i h2⟩⟩
        · exact rest h
      | dead => exact rest (by simpa only [lentA] using h)
      | tup l => exact rest (by simpa only [lentA] using h)
    | take e r => exact rest (by simpa only [lentA] using h)
    | fn f => exact rest (by simpa only [lentA] using h)
theorem findE_local {n : FuncId} {as : List TV} (h : ∀ t ∈ as, ∀ i ∈ t.sites, B i = B' i) : ∀ (T : List (Nat × Ent)), findE B n as T = findE B' n as T
  | [] => rfl
  | (m, E) :: l => by
    unfold findE
    have hf : frz B (lentA E.ps as) = frz B' (lentA E.ps as) := frz_local fun i hi => by
      obtain ⟨t, h1, h2⟩ := lentA_sub E.ps as i hi
      exact h t h1 i h2
    simp only [packA_local E.ps as h, findE_local h l, hf]
end

def faOf (q : Option CV) (z : Option (Nat × TypeId)) (al : CV → Bool) : Prep := match q, z with
  | some q, some (off, _) => match addOff q off with
    | some q' => if al q then eff1 (Pi.one q') else .bad
    | none => .bad
  | _, _ => .bad
def iaOf (P : Program) (u : Option TypeDesc) (q : Option CV) (j : Option Int) (B : Nat → Option Blk) : Prep := match u, q, j with
    | some (.slice e), some (.c (.sl r) xs), some j => if sizeT P e = some r.size then effG (inb j (List.length xs)) (Pi.one (.eptr r xs j 0)) else .bad
    | some (.slice e), some (.own s), some j => match B s with
      | some (.row _ r xs _) => if sizeT P e = some r.size then effG (inb j xs.length) (Pi.one (.rptr s r j 0)) else .bad
      | _ => .bad
    | some (.slice e), some (.pre s n), some j => match B s with
      | some (.row _ r _ _) => if sizeT P e = some r.size then effG (inb j n.toNat) (Pi.one (.rptr s r j 0)) else .bad
      | _ => .bad
    | some (.array n e), some (.ptr s 0), some j => match B s with
      | some (.arr _ r m _) => if sizeT P e = some r.size ∧ m = n then effG (inb j n) (Pi.one (.rptr s r j 0)) else .bad
      | some (.box _ _) => match sizeT P e with
        | some z => if inb j n = true then eff1 (Pi.one (.ptr s (j.toNat * z))) else .bad
        | none => .bad
      | _ => .bad
    | _, _, _ => .bad
def idxRow (P : Program) (e : TypeId) (s : Nat) (j : Int) (ob : Option Blk) : Prep := match ob with
  | some (.row _ r xs _) => if sizeT P e = some r.size then effG (inb j xs.length) (Pi.one (.rptr s r j 0)) else .bad
  | _ => .bad
def idxPre (P : Program) (e : TypeId) (s : Nat) (j : Int) (n : Int) (ob : Option Blk) : Prep := match ob with
  | some (.row _ r _ _) => if sizeT P e = some r.size then effG (inb j n.toNat) (Pi.one (.rptr s r j 0)) else .bad
  | _ => .bad
def idxArr (P : Program) (e : TypeId) (s : Nat) (j : Int) (n : Nat) (ob : Option Blk) : Prep := match ob with
  | some (.arr _ r m _) => if sizeT P e = some r.size ∧ m = n then effG (inb j n) (Pi.one (.rptr s r j 0)) else .bad
  | some (.box _ _) => match sizeT P e with
    | some z => if inb j n = true then eff1 (Pi.one (.ptr s (j.toNat * z))) else .bad
    | none => .bad
  | _ => .bad
def slOwn (P : Program) (e : TypeId) (s : Nat) (h : Option Int) (ob : Option Blk) : Prep := match ob with
  | some (.row _ _ xs _) => match h with
    | some h => if (sizeT P e).isSome then effG (decide (0 ≤ h) && decide (h ≤ (xs.length : Int))) (Pi.one (.pre s h)) else .bad
    | none => .bad
  | _ => .bad
def slPre (P : Program) (e : TypeId) (s : Nat) (n h : Int) (ob : Option Blk) : Prep := if (sizeT P e).isSome && ob.isSome then effG (decide (0 ≤ h) && decide (h ≤ n)) (Pi.one (.pre s h)) else .bad
def slDat (P : Program) (e : TypeId) (d : Option ((r : Shs) × List (RowD r))) (w : List (Nat × Option Blk)) (l h : Option Int) : Prep := match d with
  | some ⟨r, xs⟩ => if sizeT P e = some r.size then .eff (cutG l h xs.length) { v := Pi.one (.c (.sl r) (cutL l h xs)), w := w } else .bad
  | none => .bad
def slArr (P : Program) (e : TypeId) (s n : Nat) (ob : Option Blk) : Prep := match ob with
  | some (.arr _ r m xs) => if (sizeT P e).isSome ∧ m = n ∧ n ≤ 16777216 then .eff true { v := Pi.one (.c (.sl r) xs), w := (s, none) :: [] } else .bad
  | _ => .bad
def slOf (P : Program) (u : Option TypeDesc) (x : TV) (lo hi : Option (Option Int)) (B : Nat → Option Blk) : Prep := match u, x, lo, hi with
    | some .string, .e (.one (.c .str s)), some l, some h => effG (cutG l h (ByteArray.size s)) (str1 (cutS l h s))
    | some (.slice e), .e (.one v), some l, some h => match v, l with
      | .own s, none => match B s with
        | some (.row _ r xs _) => match h with
          | some h => if (sizeT P e).isSome then effG (decide (0 ≤ h) && decide (h ≤ (xs.length : Int))) (Pi.one (.pre s h)) else .bad
          | none => .bad
        | _ => .bad
      | .pre s n, none => match h with
        | some h => if (sizeT P e).isSome && (B s).isSome then effG (decide (0 ≤ h) && decide (h ≤ n)) (Pi.one (.pre s h)) else .bad
        | none => .bad
      | v, l => match dataOf B v with
        | some ⟨r, xs⟩ => if sizeT P e = some r.size then .eff (cutG l h xs.length) { v := Pi.one (.c (.sl r) (cutL l h xs)), w := frz B (CV.rowSites v) } else .bad
        | none => .bad
    | some (.array n e), .e (.one (.ptr s 0)), some none, some none => match B s with
      | some (.arr _ r m xs) => if (sizeT P e).isSome ∧ m = n ∧ n ≤ 16777216 then .eff true { v := Pi.one (.c (.sl r) xs), w := (s, none) :: [] } else .bad
      | _ => .bad
    | _, _, _, _ => .bad
set_option maxHeartbeats 1000000 in
theorem prep_local (P : Program) (T : List (Nat × Ent)) {g : Nat → TV} {B B' : Nat → Option Blk} (base : Nat) (o : Oper) (h : ∀ s ∈ rdOf g o, B s = B' s) :
    prep P T g B base o = prep P T g B' base o := by
  have H : ∀ x ∈ o.op.operands, ∀ s ∈ (opnd g x).sites, B s = B' s := fun x hx s hs => h s (List.mem_flatMap.2 ⟨x, by simpa using hx, hs⟩)
  have one : ∀ x ∈ o.op.operands, ∀ v, opnd g x = .e (.one v) → ∀ s ∈ v.sites, B s = B' s := fun x hx v e s hs => H x hx s (by rw [e]; simpa [TV.sites, EV.sites, EV.cells] using hs)
  have evs : ∀ x ∈ o.op.operands, ∀ v, opnd g x = .e v → ∀ s ∈ v.sites, B s = B' s := fun x hx v e s hs => H x hx s (by rw [e]; exact hs)
  clear h
  obtain ⟨dst, op, type, pos, after, guard⟩ := o
  cases op
  case convert src dst x =>
    simp only [prep]
    split
    · rfl
    · rename_i v _ hx
      rw [toC_local (one x (by simp [Op.operands]) _ hx)]
    · rfl
  case load t p =>
    simp only [prep]
    cases hq : getC (opnd g p) with
    | none => rfl
    | some q => simp only [cellsAt_local (one p (by simp [Op.operands]) q (getC_eq hq))]
  case store t p x =>
    simp only [prep]
    cases hq : getC (opnd g p) with
    | none => rfl
    | some q => cases hx : getE (opnd g x) with
      | none => rfl
      | some v => simp only [storeV_local P (one p (by simp [Op.operands]) q (getC_eq hq)) (evs x (by simp [Op.operands]) v (getE_eq hx))]
  case fieldAddr t x f =>
    have e : ∀ B, prep P T g B base ⟨dst, .fieldAddr t x f, type, pos, after, guard⟩ = faOf (getC (opnd g x)) (fieldOff P t f) (CV.alive B) := fun B => by simp only [prep, faOf]; rfl
    rw [e, e]
    unfold faOf
    cases hq : getC (opnd g x) with
    | none => rfl
    | some q =>
      cases hf : fieldOff P t f with
      | none => rfl
      | some z =>
        obtain ⟨off, ft⟩ := z
        cases hadd : addOff q off with
        | none => simp only [hadd]
        | some q' =>
          have : q.alive B = q.alive B' := alive_local fun i hi => one x (by simp [Op.operands]) q (getC_eq hq) i hi
          simp only [hadd, this]
  case indexAddr t x i =>
    have e : ∀ B, prep P T g B base ⟨dst, .indexAddr t x i, type, pos, after, guard⟩ = iaOf P (P.underlying t) (getC (opnd g x)) (getI (opnd g i)) B := fun B => rfl
    rw [e, e]
    cases hu : P.underlying t with
    | none => rfl
    | some d =>
      cases hq : getC (opnd g x) with
      | none => cases d <;> rfl
      | some q =>
        have hs := one x (by simp [Op.operands]) q (getC_eq hq)
        cases hj : getI (opnd g i) with
        | none => cases d <;> cases q <;> first | rfl | (rename_i c _ ; cases c <;> rfl) | (rename_i s off; cases off <;> rfl)
        | some j =>
          cases q with
          | own s => cases d with
            | slice el => exact congrArg (idxRow P el s j) (hs s (by simp [CV.sites]))
            | _ => rfl
          | pre s n => cases d with
            | slice el => exact congrArg (idxPre P el s j n) (hs s (by simp [CV.sites]))
            | _ => rfl
          | ptr s off => cases off with
            | zero => cases d with
              | array n el => exact congrArg (idxArr P el s j n) (hs s (by simp [CV.sites]))
              | _ => rfl
            | succ off => cases d <;> rfl
          | c sh y => cases d <;> cases sh <;> rfl
          | _ => cases d <;> rfl
  case buildSlice t n ps =>
    have hp : ∀ p ∈ (ps.toList.map fun p => (p.1, opnd g p.2)), ∀ i ∈ p.2.sites, B i = B' i := fun p hp i hi => by
      obtain ⟨q, h1, rfl⟩ := List.mem_map.1 hp
      exact H q.2 (by simp [Op.operands]; exact ⟨q.1, by simpa using h1⟩) i hi
    have hf : frz B (ps.toList.flatMap fun p => litS (opnd g p.2)) = frz B' (ps.toList.flatMap fun p => litS (opnd g p.2)) := frz_local fun i hi => by
      obtain ⟨q, h1, h2⟩ := List.mem_flatMap.1 hi
      refine hp (q.1, opnd g q.2) (List.mem_map.2 ⟨q, h1, rfl⟩) i ?_
      unfold litS at h2
      split at h2
      · rename_i x hx
        rw [hx]
        obtain ⟨c, h3, h4⟩ := List.mem_flatMap.1 h2
        exact List.mem_flatMap.2 ⟨c, h3, rowSites_sub i h4⟩
      · cases h2
    simp only [prep, litRows_local hp, hf]
  case slice t x lo hi mx =>
    cases mx with
    | some m => rfl
    | none =>
      have e : ∀ B, prep P T g B base ⟨dst, .slice t x lo hi none, type, pos, after, guard⟩ = slOf P (P.underlying t) (opnd g x) (optI g lo) (optI g hi) B := fun B => rfl
      rw [e, e]
      cases hu : P.underlying t with
      | none => rfl
      | some d =>
        cases hx : opnd g x with
        | dead => cases d <;> rfl
        | tup l => cases d <;> rfl
        | e v => cases v with
          | agg l => cases d <;> rfl
          | one v =>
            have hs := one x (by simp [Op.operands]) v hx
            have hd : dataOf B v = dataOf B' v := dataOf_local hs
            have hf : frz B (CV.rowSites v) = frz B' (CV.rowSites v) := frz_local fun i hi => hs i (rowSites_sub i hi)
            cases hl : optI g lo with
            | none => cases d with
              | _ => cases v with
                | c sh y => cases sh <;> rfl
                | ptr s off => cases off <;> rfl
                | _ => rfl
            | some l => cases hh : optI g hi with
              | none => cases l with
                | _ => cases d with
                  | _ => cases v with
                    | c sh y => cases sh <;> rfl
                    | ptr s off => cases off <;> rfl
                    | _ => rfl
              | some h =>
                have hdat : ∀ el, slDat P el (dataOf B v) (frz B (CV.rowSites v)) l h = slDat P el (dataOf B' v) (frz B' (CV.rowSites v)) l h := fun el => by rw [hd, hf]
                cases d with
                | slice el =>
                  cases v with
                  | own s => cases l with
                    | none => exact congrArg (slOwn P el s h) (hs s (by simp [CV.sites]))
                    | some l => exact hdat el
                  | pre s n => cases l with
                    | none => cases h with
                      | none => rfl
                      | some h => exact congrArg (slPre P el s n h) (hs s (by simp [CV.sites]))
                    | some l => exact hdat el
                  | _ => exact hdat el
                | array n el =>
                  cases v with
                  | ptr s off => cases off with
                    | zero => cases l with
                      | none => cases h with
                        | none => exact congrArg (slArr P el s n) (hs s (by simp [CV.sites]))
                        | some _ => rfl
                      | some _ => rfl
                    | succ off => rfl
                  | c sh y => cases sh <;> rfl
                  | _ => rfl
                | string => cases v with
                  | c sh y => cases sh <;> rfl
                  | _ => rfl
                | _ => cases v with
                  | c sh y => cases sh <;> rfl
                  | ptr s off => cases off <;> rfl
                  | _ => rfl
  case call c =>
    obtain ⟨callee, args, ats⟩ := c
    have ha : ∀ t ∈ args.toList.map (opnd g), ∀ i ∈ t.sites, B i = B' i := fun t ht i hi => by
      obtain ⟨x, h1, rfl⟩ := List.mem_map.1 ht
      exact H x (by
        simp only [Op.operands, Call.operands]
        cases callee <;> simp_all) i hi
    have hone : ∀ v, .e (.one v) ∈ args.toList.map (opnd g) → ∀ i ∈ v.sites, B i = B' i := fun v hv i hi => ha _ hv i (by simpa [TV.sites, EV.sites, EV.cells] using hi)
    cases callee with
    | value f =>
      simp only [prep]
      split
      · exact findE_local ha T
      · rfl
    | invoke r m => rfl
    | builtin b =>
      cases b
      case len =>
        simp only [prep]
        split
        · rfl
        · rename_i v t _ he _
          have hs := hone v (by rw [he]; simp)
          have hd : dataOf B v = dataOf B' v := dataOf_local hs
          cases v with
          | pre s n => simp only [hs s (by simp [CV.sites])]
          | own s => simp only [dataOf, hs s (by simp [CV.sites])]
          | c sh y => cases sh <;> rfl
          | val u => cases u with
            | slice A n c => cases A <;> cases n <;> cases c <;> rfl
            | _ => rfl
          | _ => rfl
        · rfl
      case append =>
        simp only [prep]
        split
        · rename_i d v t u he _
          have hs := hone v (by rw [he]; simp)
          have hsd := hone d (by rw [he]; simp)
          have hd : dataOf B v = dataOf B' v := dataOf_local hs
          have hb : baseOfApp B d = baseOfApp B' d := baseOfApp_local hsd
          have hrt : ∀ s q, baseOfApp B' d = some (s, q) → rowType B s = rowType B' s := fun s q hq => by
            have hm : s ∈ d.sites := by
              cases d <;> simp only [baseOfApp] at hq <;> first
                | (cases hq)
                | (split at hq <;> first | (cases hq; simp [CV.sites]) | cases hq)
            unfold rowType
            rw [hsd s hm]
          rw [hd]
          cases d with
          | own s =>
            have e := hsd s (by simp [CV.sites])
            cases hb' : B' s with
            | none => simp only [baseOfApp, e, hb']
            | some bk => cases bk with
              | row e0 r0 xs0 fz => cases fz <;> simp only [baseOfApp, rowType, e, hb']
              | _ => simp only [baseOfApp, e, hb']
          | pre s n =>
            have e := hsd s (by simp [CV.sites])
            cases hb' : B' s with
            | none => simp only [baseOfApp, e, hb']
            | some bk => cases bk with
              | row e0 r0 xs0 fz => cases fz <;> simp only [baseOfApp, rowType, e, hb']
              | _ => simp only [baseOfApp, e, hb']
          | val u => cases u with
            | slice A n c => cases A <;> cases n <;> cases c <;> rfl
            | _ => rfl
          | _ => rfl
        · rfl
      case copy =>
        simp only [prep]
        split
        · rename_i s v t u he _
          have hs := hone v (by rw [he]; simp)
          have hss := hone (.own s) (by rw [he]; simp) s (by simp [CV.sites])
          have hd : dataOf B v = dataOf B' v := dataOf_local hs
          simp only [hd, hss]
        · rfl
      all_goals rfl
  all_goals rfl
end Go.Pi
