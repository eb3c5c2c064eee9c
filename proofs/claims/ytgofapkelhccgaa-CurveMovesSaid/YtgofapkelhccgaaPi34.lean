/- A law's call. -/
import Derived.Test.YtgofapkelhccgaaPi33
set_option linter.unusedVariables false
set_option linter.unusedSimpArgs false
namespace Go.Pi
open Go.RowKit Go.ChangeShapes Go.WideShapes Go.ChangeMaps

def WFA : (ps : List PK) → ArgsD ps → Prop
  | [], _ => True
  | .data _ r :: ps, x => WFr r x.1 ∧ WFA ps x.2
  | .take _ _ :: _, _ => False
  | .fn _ :: _, _ => False
def parOk (P : Program) : List TypeId → List PK → Bool
  | [], [] => true
  | t :: ts, .data agg r :: ps => decide (shOf P 20 t = some r) && okT P 20 t && (agg == isAggT P t) && parOk P ts ps
  | _, _ => false
def readOk (P : Program) (ts : List TypeId) : Bool := ts.all fun t => P.readableRec t && Nat.blt t P.types.size

section
variable {H : Type} {enc : TypeId × Value → H} {P : Program} {w : World}

theorem open_val {base : Nat} {t : TypeId} {v : Value} {d : DataW H} {p : List MemPlace} {r : Shs} (hr : shOf P 20 t = some r) (hok : okT P 20 t = true) (hval : Value.okWide P w .any base t v) (h : DataW.Trod enc P w 0 (fun _ => true) true t v d p) :
    ∃ y : RowD r, RepP w (fun b => b < w.heap.size) (isAggT P t) r y v ∧ WFr r y := by
  obtain ⟨fuel, hf⟩ := h
  obtain ⟨y, hy, wy⟩ := open_sh 20 t r hr hok fuel _ _ hf
  refine ⟨y, ?_, wy⟩
  unfold RepP
  unfold okT at hok
  split at hok
  · rename_i k ht
    obtain ⟨n, rfl⟩ := okWide_int ht hval
    rw [if_neg (by simp [isAggT, ht])]
    exact hy
  · rename_i ht
    obtain ⟨n, rfl⟩ := okWide_bool ht hval
    rw [if_neg (by simp [isAggT, ht])]
    exact hy
  · rename_i ht
    obtain ⟨n, rfl⟩ := okWide_string ht hval
    rw [if_neg (by simp [isAggT, ht])]
    exact hy
  · rename_i e ht
    obtain ⟨A, l, c, rfl⟩ := okWide_slice ht hval
    rw [if_neg (by simp [isAggT, ht])]
    exact hy
  · rename_i fs ht
    rw [if_pos (by simp [isAggT, ht])]
    unfold Value.okWide at hval
    rw [ht] at hval
    obtain ⟨cs, rfl, _⟩ := hval
    exact ⟨cs.toList, rfl, hy⟩
  · rename_i m e ht
    rw [if_pos (by simp [isAggT, ht])]
    unfold Value.okWide at hval
    rw [ht] at hval
    obtain ⟨cs, rfl, _⟩ := hval
    exact ⟨cs.toList, rfl, hy⟩
  · cases hok

theorem open_args {base : Nat} : ∀ (ts : List TypeId) (ps : List PK) (args : List Value) (ds : List (DataW H)) (p : List MemPlace), parOk P ts ps = true → (∀ (j : Nat) t v, ts[j]? = some t → args[j]? = some v → Value.okWide P w .any base t v) →
    DataW.TrodAll enc P w 0 (fun _ => true) true ts args ds p → ∃ x : ArgsD ps, RepA w (fun b => b < w.heap.size) ps x args ∧ WFA ps x ∧ tkV ps args = []
  | [], [], args, ds, p, _, _, h => by
    obtain ⟨rfl, _, _⟩ := trodAll_nil h
    exact ⟨(), rfl, trivial, rfl⟩
  | t :: ts, .data agg r :: ps, args, ds, p, hp, hval, h => by
    obtain ⟨v, vs, d, ds', p1, q1, rfl, rfl, rfl, h1, h2⟩ := trodAll_cons h
    have hp' : (decide (shOf P 20 t = some r) && okT P 20 t && (agg == isAggT P t) && parOk P ts ps) = true := hp
    simp only [Bool.and_eq_true, decide_eq_true_eq, beq_iff_eq] at hp'
    obtain ⟨⟨⟨g1, g2⟩, rfl⟩, g4⟩ := hp'
    obtain ⟨y, hy, wy⟩ := open_val g1 g2 (hval 0 t v rfl rfl) h1
    obtain ⟨x, hx, wx, htk⟩ := open_args ts ps vs ds' q1 g4 (fun j t v ht hv => hval (j + 1) t v (by simpa using ht) (by simpa using hv)) h2
    exact ⟨(y, x), ⟨v, vs, rfl, hy, hx⟩, ⟨wy, wx⟩, htk⟩
  | [], _ :: _, _, _, _, hp, _, _ => nomatch hp
  | _ :: _, [], _, _, _, hp, _, _ => nomatch hp
  | _ :: _, .take _ _ :: _, _, _, _, hp, _, _ => nomatch hp
  | _ :: _, .fn _ :: _, _, _, _, hp, _, _ => nomatch hp

theorem back_args (hl : laidOutB P = true) {W' : World} (hb : Below w.heap.size w W') : ∀ (ts : List TypeId) (args : List Value) (ds : List (DataW H)) (p : List MemPlace), readOk P ts = true →
    DataW.TrodAll enc P w 0 (fun _ => true) true ts args ds p → DataW.TrodAll enc P W' 0 (fun b => decide (b < w.heap.size)) true ts args ds p
  | [], args, ds, p, _, h => by
    obtain ⟨rfl, rfl, rfl⟩ := trodAll_nil h
    exact trodAll_mk0
  | t :: ts, args, ds, p, hr, h => by
    obtain ⟨v, vs, d, ds', p1, q1, rfl, rfl, rfl, h1, h2⟩ := trodAll_cons h
    unfold readOk at hr
    rw [List.all_cons, Bool.and_eq_true, Bool.and_eq_true] at hr
    refine trodAll_cons_mk (Below.trod hl hr.1.1 (blt_iff.1 hr.1.2) h1 hb ?_) (back_args hl hb ts vs ds' q1 hr.2 h2)
    obtain ⟨m, hm⟩ := h1
    exact DataW.trod_lt m _ _ _ hm

/-- A law of plain data that answers true. -/
theorem law_calls {f : FuncId} {fn : Func} {s : ChangeSpec} {E : Ent} (hE : Holds P f E) (hrs : E.rs = [⟨false, .one .bool, none⟩]) (plain : ∀ x : ArgsD E.ps, WFA E.ps x → ∃ k, E.fn k x = some (hrs ▸ (true : Bool)))
    (hpar : parOk P fn.params.toList E.ps = true) (hread : readOk P fn.params.toList = true) (hl : laidOutB P = true) {rt : TypeId} (hres : fn.resultTypes = #[rt]) (hbool : P.underlying rt = some .bool) (hvars : s.vars = [])
    (hspec : ∀ ds : List (DataW H), ds.length = fn.params.toList.length → (s.fn H ds).results = [.lit (.bool true)] ∧ (s.fn H ds).args = ds ∧ (s.fn H ds).vars = [])
    {base : Nat} {args : Array Value} {ds gs : List (DataW H)} {before : List MemPlace} (hval : ∀ (j : Nat) t v, fn.params[j]? = some t → args[j]? = some v → Value.okWide P w .any base t v)
    (hW : DataW.Whole enc P fn.params.toList s.vars false w args.toList ds gs before) :
    Calls P f args w fun e W' => ∃ v, e = .returned v ∧ s.post enc P fn false true false false w args v W' := by
  have hW' := hW
  obtain ⟨p, q, hA, hV, rfl, hfz, hnd⟩ := hW
  rw [hvars] at hV
  obtain ⟨rfl, rfl⟩ := trodVars_none hV
  obtain ⟨x, hx, wx, htk⟩ := open_args fn.params.toList E.ps args.toList ds p hpar (fun j t v ht hv => hval j t v (by simpa using ht) (by simpa using hv)) hA
  obtain ⟨k, hk⟩ := plain x wx
  have hlen : ds.length = fn.params.toList.length := by
    have key : ∀ (ts : List TypeId) (vs : List Value) (ds : List (DataW H)) (p : List MemPlace), DataW.TrodAll enc P w 0 (fun _ => true) true ts vs ds p → ds.length = ts.length := by
      intro ts
      induction ts with
      | nil => intro vs ds p h; obtain ⟨_, rfl, _⟩ := trodAll_nil h; rfl
      | cons t ts ih =>
        intro vs ds p h
        obtain ⟨v, vs', d, ds', p1, q1, rfl, rfl, rfl, h1, h2⟩ := trodAll_cons h
        simp [ih vs' ds' q1 h2]
    exact key _ _ _ _ hA
  obtain ⟨s1, s2, s3⟩ := hspec ds hlen
  have hcall := hE.calls k x _ args.toList w (fun b => b < w.heap.size) hk (fun b hb => ⟨hb, by rw [htk]; rintro ⟨v, hv, _⟩; cases hv⟩) (by rw [htk]; exact List.Pairwise.nil) hx
  rw [show args.toList.toArray = args by simp] at hcall
  refine hcall.mono fun e W' he => ?_
  obtain ⟨us, rfl, hkept, _, hrs'⟩ := he
  rw [htk] at hkept
  have bel : Below w.heap.size w W' := ⟨hkept.os, hkept.tape, hkept.output, hkept.size, fun k hk => hkept.block k hk (by rintro ⟨v, hv, _⟩; cases hv)⟩
  have hb : tupVal us = .bool true := by
    obtain ⟨ps, rs, fn'⟩ := E
    simp only at hrs
    subst hrs
    obtain ⟨v, rfl, hv⟩ := hrs'
    have hv' : RepP W' _ false (.one .bool) _ v := hv
    unfold RepP at hv'
    rw [if_neg (by decide)] at hv'
    simp only [RepR] at hv'
    obtain ⟨u, e, hu⟩ := hv'
    cases e
    simp only [RepC] at hu
    exact hu
  rw [hb]
  refine ⟨_, rfl, ds, [], p ++ [], [], p, [], hW', ?_, ?_, ?_, bel.frame _, fun h => nomatch h⟩
  · rw [List.append_nil, s1, hres]
    exact trodAll_mk1 (shut_bool hbool true)
  · rw [List.append_nil, s2]
    exact back_args hl bel _ _ _ _ hread hA
  · rw [List.append_nil, s3, hvars]
    rfl
end
end Go.Pi
