/- More rounds tell the same. -/
import Derived.Test.YtgofapkelhccgaaPi32
set_option linter.unusedVariables false
set_option linter.unusedSimpArgs false
namespace Go.Pi
open Go.RowKit

def Mono (E : Ent) : Prop := ∀ (k k' : Nat) (x : ArgsD E.ps) (r : ResD E.rs), k ≤ k' → E.fn k x = some r → E.fn k' x = some r
section
variable {R : Type} {P : Program} {T : List (Nat × Ent)} {N : Nat} {L : List (Nat × LoopE R)}
def MonoK (n : Nat) (K : Nat → Ex → St → Option R) : Prop := ∀ (k k' : Nat) (e : Ex) (S : St) (r : R), k ≤ n → k ≤ k' → K k e S = some r → K k' e S = some r
def LM (n : Nat) (L : List (Nat × LoopE R)) : Code → Prop
  | .seq a b => LM n L a ∧ LM n L b
  | .cond _ x y => LM n L x ∧ LM n L y
  | .block _ c => LM n L c
  | .scope c => LM n L c
  | .loop c => (∀ le, lk L (lid c) = some le → ∀ (k k' : Nat) (d : le.sk.D) (r : R), k ≤ n → k ≤ k' → le.fn k d = some r → le.fn k' d = some r) ∧ LM n L c
  | _ => True

theorem findE_mem {B : Nat → Option Blk} {n : FuncId} {as : List TV} : ∀ {T : List (Nat × Ent)} {n' : FuncId} {E : Ent} {x : ArgsD E.ps} {as' : List TV} {w : List (Nat × Option Blk)}, findE B n as T = .call n' E x as' w → ∃ m, (m, E) ∈ T
  | [], _, _, _, _, _, h => nomatch h
  | (m, E0) :: l, n', E, x, as', w, h => by
    unfold findE at h
    cases hb : Nat.beq m n with
    | false =>
      rw [hb] at h
      obtain ⟨m', hm⟩ := findE_mem (T := l) h
      exact ⟨m', List.mem_cons_of_mem _ hm⟩
    | true =>
      rw [hb] at h
      simp only [cond] at h
      split at h
      · rename_i y hy
        cases hc : (nodupN (takenA E0.ps as) && (((takenA E0.ps as).all fun s => (lentA E0.ps as).all fun s' => !Nat.beq s s') && Nat.ble E0.rs.length 8)) with
        | false => rw [hc] at h; cases h
        | true =>
          rw [hc] at h
          simp only [cond] at h
          cases h
          exact ⟨m, by simp⟩
      · obtain ⟨m', hm⟩ := findE_mem (T := l) h
        exact ⟨m', List.mem_cons_of_mem _ hm⟩
theorem prep_call {g : Nat → TV} {B : Nat → Option Blk} {base : Nat} {o : Oper} {n : FuncId} {E : Ent} {x : ArgsD E.ps} {as : List TV} {w : List (Nat × Option Blk)} (h : prep P T g B base o = .call n E x as w) : ∃ m, (m, E) ∈ T := by
  obtain ⟨dst, op, type, pos, after, guard⟩ := o
  cases op
  case call c =>
    obtain ⟨callee, args, ats⟩ := c
    cases callee with
    | value f =>
      simp only [prep] at h
      split at h
      · exact findE_mem h
      · cases h
    | invoke r m => exact nomatch h
    | builtin b =>
      exfalso
      revert h
      cases b <;> simp only [prep] <;> (repeat' split) <;> (intro h; cases h)
  all_goals
    exfalso
    revert h
    first
      | (intro h; cases h; done)
      | (simp only [prep]
         try unfold eff1 effG
         repeat' split
         all_goals (intro h; cases h))
      | (rename_i mx; cases mx <;> first
          | (intro h; cases h; done)
          | (simp only [prep]
             try unfold eff1 effG
             repeat' split
             all_goals (intro h; cases h)))

theorem op1_mono (hT : ∀ p ∈ T, Mono p.2) {k k' : Nat} (hk : k ≤ k') {base : Nat} {o : Oper} {g : List (Nat × TV)} {b : List (Nat × Option Blk)} {K K' : List (Nat × TV) → List (Nat × Option Blk) → Log → Option R} {r : R}
    (hK : ∀ g b lg, K g b lg = some r → K' g b lg = some r) (h : op1 P T N k base o g b K = some r) : op1 P T N k' base o g b K' = some r := by
  have go : ∀ d, op1.go P T k base o g b K d = some r → op1.go P T k' base o g b K' d = some r := by
    intro d h
    unfold op1.go at h ⊢
    split
    · rename_i hp
      rw [hp] at h
      cases h
    · rename_i gd e hp
      rw [hp] at h
      obtain ⟨hc, h⟩ := cond_none h
      rw [hc]
      exact hK _ _ _ h
    · rename_i n E x as wl hp
      rw [hp] at h
      obtain ⟨y, h1, h2⟩ := bindO_some h
      obtain ⟨m, hm⟩ := prep_call hp
      have := hT _ hm k k' x y hk h1
      rw [this]
      exact hK _ _ _ h2
  unfold op1 at h ⊢
  split
  · rename_i d hd
    rw [hd] at h
    obtain ⟨hc, h⟩ := cond_none h
    rw [hc]
    exact go _ h
  · rename_i hd
    rw [hd] at h
    exact go _ h
theorem skip1_mono {o : Oper} {g : List (Nat × TV)} {b : List (Nat × Option Blk)} {K K' : List (Nat × TV) → List (Nat × Option Blk) → Log → Option R} {r : R}
    (hK : ∀ g b lg, K g b lg = some r → K' g b lg = some r) (h : skip1 N o g b K = some r) : skip1 N o g b K' = some r := by
  unfold skip1 at h ⊢
  split
  · rename_i d hd
    rw [hd] at h
    obtain ⟨hc, h⟩ := cond_none h
    rw [hc]
    exact hK _ _ _ h
  · rename_i hd
    rw [hd] at h
    exact hK _ _ _ h
theorem opG_mono (hT : ∀ p ∈ T, Mono p.2) {k k' : Nat} (hk : k ≤ k') {base : Nat} {ops : Array Oper} {o : Oper} {g : List (Nat × TV)} {b : List (Nat × Option Blk)} {K K' : List (Nat × TV) → List (Nat × Option Blk) → Log → Option R} {r : R}
    (hK : ∀ g b lg, K g b lg = some r → K' g b lg = some r) (h : opG P T N k base ops o g b K = some r) : opG P T N k' base ops o g b K' = some r := by
  unfold opG at h ⊢
  split
  · rename_i hg
    rw [hg] at h
    exact op1_mono hT hk hK h
  · rename_i j want hg
    rw [hg] at h
    simp only at h
    split
    · rename_i ht
      rw [ht] at h
      cases h
    · rename_i t ht
      rw [ht] at h
      simp only at h
      split
      · rename_i x hx
        rw [hx] at h
        simp only at h
        cases want <;> cases x <;> first | exact op1_mono hT hk hK h | exact skip1_mono hK h
      · rename_i hx
        rw [hx] at h
        exact skip1_mono hK h
      · rename_i hx1 hx2
        split at h
        · rename_i x hx
          exact absurd hx (hx1 x)
        · rename_i hx
          exact absurd hx hx2
        · cases h
theorem opsK_mono (hT : ∀ p ∈ T, Mono p.2) {k k' : Nat} (hk : k ≤ k') {ops : Array Oper} {r : R} : ∀ (l : List Oper) (base : Nat) (g : List (Nat × TV)) (b : List (Nat × Option Blk)) (lg : List Log) {K K' : List (Nat × TV) → List (Nat × Option Blk) → List Log → Option R},
    (∀ g b lg, K g b lg = some r → K' g b lg = some r) → opsK P T N k ops l base g b lg K = some r → opsK P T N k' ops l base g b lg K' = some r
  | [], _, g, b, lg, K, K', hK, h => hK g b lg h
  | o :: l, base, g, b, lg, K, K', hK, h => opG_mono hT hk (fun g' b' lo h' => opsK_mono hT hk l (base + 8) g' b' (lo :: lg) hK h') h

theorem loopGo_mono {n : Nat} {id : Nat} (hL : ∀ le, lk L id = some le → ∀ (k k' : Nat) (d : le.sk.D) (r : R), k ≤ n → k ≤ k' → le.fn k d = some r → le.fn k' d = some r) {k k' : Nat} {S : St} {r : R} (hn : k ≤ n) (hk : k ≤ k')
    (h : loopGo L id k S = some r) : loopGo L id k' S = some r := by
  unfold loopGo at h ⊢
  split
  · rename_i le hle
    rw [hle] at h
    obtain ⟨d, h1, h2⟩ := bindO_some h
    rw [h1]
    exact hL le hle k k' d r hn hk h2
  · rename_i hle
    rw [hle] at h
    cases h
theorem seqK_mono {n : Nat} {f : Nat → St → Option R} {K : Nat → Ex → St → Option R} (hf : ∀ k k' S r, k ≤ n → k ≤ k' → f k S = some r → f k' S = some r) (hK : MonoK n K) : MonoK n (seqK f K) := by
  intro k k' e S r hn hk h
  cases e with
  | norm => exact hf k k' S r hn hk h
  | exit i => exact hK k k' _ S r hn hk h
  | ret => exact hK k k' _ S r hn hk h
theorem blockK_mono {n : Nat} {id : Nat} {K : Nat → Ex → St → Option R} (hK : MonoK n K) : MonoK n (blockK id K) := by
  intro k k' e S r hn hk h
  cases e with
  | norm => exact hK k k' _ S r hn hk h
  | exit i =>
    have h' : cond (Nat.beq i id) (K k .norm S) (K k (.exit i) S) = some r := h
    show cond (Nat.beq i id) (K k' .norm S) (K k' (.exit i) S) = some r
    cases hb : Nat.beq i id with
    | true => rw [hb] at h'; exact hK k k' _ S r hn hk h'
    | false => rw [hb] at h'; exact hK k k' _ S r hn hk h'
  | ret => exact hK k k' _ S r hn hk h
theorem loopK_mono {n : Nat} {id : Nat} {K : Nat → Ex → St → Option R} (hL : ∀ le, lk L id = some le → ∀ (k k' : Nat) (d : le.sk.D) (r : R), k ≤ n → k ≤ k' → le.fn k d = some r → le.fn k' d = some r) (hK : MonoK n K) : MonoK n (loopK L id K) := by
  intro k k' e S r hn hk h
  cases e with
  | norm => exact loopGo_mono hL hn hk h
  | exit i => exact hK k k' _ S r hn hk h
  | ret => exact hK k k' _ S r hn hk h

theorem exec_mono (hT : ∀ p ∈ T, Mono p.2) {n : Nat} : ∀ (c : Code) (K : Nat → Ex → St → Option R), LM n L c → MonoK n K → ∀ (k k' : Nat) (S : St) (r : R), k ≤ n → k ≤ k' → exec P T N L c k S K = some r → exec P T N L c k' S K = some r
  | .skip, K, _, hK, k, k', S, r, hn, hk, h => hK k k' _ S r hn hk h
  | .region _ ops draw, K, _, hK, k, k', S, r, hn, hk, h => by
    unfold exec at h ⊢
    refine opsK_mono hT hk _ _ _ _ _ (fun g b lg h' => ?_) h
    obtain ⟨hc, h'⟩ := cond_none h'
    rw [hc]
    exact hK k k' _ _ r hn hk h'
  | .seq a b, K, hL, hK, k, k', S, r, hn, hk, h => by
    unfold exec at h ⊢
    exact exec_mono hT a _ hL.1 (seqK_mono (fun k k' S r hn hk h => exec_mono hT b K hL.2 hK k k' S r hn hk h) hK) k k' S r hn hk h
  | .cond c x y, K, hL, hK, k, k', S, r, hn, hk, h => by
    unfold exec at h ⊢
    split
    · rename_i t ht
      rw [ht] at h
      simp only at h
      cases t with
      | true => exact exec_mono hT x K hL.1 hK k k' S r hn hk h
      | false => exact exec_mono hT y K hL.2 hK k k' S r hn hk h
    · rename_i hne
      split at h
      · rename_i t ht
        exact absurd ht (hne t)
      · cases h
  | .block id c, K, hL, hK, k, k', S, r, hn, hk, h => by
    unfold exec at h ⊢
    exact exec_mono hT c _ hL (blockK_mono hK) k k' S r hn hk h
  | .scope c, K, hL, hK, k, k', S, r, hn, hk, h => by
    unfold exec at h ⊢
    exact exec_mono hT c K hL hK k k' S r hn hk h
  | .loop c, K, hL, hK, k, k', S, r, hn, hk, h => by
    unfold exec at h ⊢
    exact loopGo_mono hL.1 hn hk h
  | .exit id, K, _, hK, k, k', S, r, hn, hk, h => hK k k' _ S r hn hk h
  | .ret, K, _, hK, k, k', S, r, hn, hk, h => hK k k' _ S r hn hk h
  | .rangeFunc _ _ _ _, _, _, _, _, _, _, _, _, _, h => nomatch h
  | .label _, _, _, _, _, _, _, _, _, _, h => nomatch h
  | .goto _, _, _, _, _, _, _, _, _, _, h => nomatch h
  | .refuse _, _, _, _, _, _, _, _, _, _, h => nomatch h

theorem LM_zero : ∀ (c : Code) (K : Nat → Ex → St → Option R), obl P T N L c K → LM 0 L c
  | .seq a b, K, h => ⟨LM_zero a _ h.1, LM_zero b _ h.2⟩
  | .cond _ x y, K, h => ⟨LM_zero x _ h.1, LM_zero y _ h.2⟩
  | .block _ c, K, h => LM_zero c _ h
  | .scope c, K, h => LM_zero c _ h
  | .loop c, K, h => ⟨fun le hle k k' d r hk _ he => by
      have h0 : k = 0 := Nat.le_zero.1 hk
      rw [h0, (h.1 le hle).1 d] at he
      exact (nomatch he), LM_zero c _ h.2⟩
  | .skip, _, _ | .region _ _ _, _, _ | .exit _, _, _ | .ret, _, _ => trivial
  | .rangeFunc _ _ _ _, _, _ | .label _, _, _ | .goto _, _, _ | .refuse _, _, _ => trivial
theorem LM_succ (hT : ∀ p ∈ T, Mono p.2) {n : Nat} : ∀ (c : Code) (K : Nat → Ex → St → Option R), obl P T N L c K → MonoK n K → LM n L c → LM (n + 1) L c
  | .seq a b, K, h, hK, hL => ⟨LM_succ hT a _ h.1 (seqK_mono (fun k k' S r hn hk h => exec_mono hT b K hL.2 hK k k' S r hn hk h) hK) hL.1, LM_succ hT b _ h.2 hK hL.2⟩
  | .cond _ x y, K, h, hK, hL => ⟨LM_succ hT x _ h.1 hK hL.1, LM_succ hT y _ h.2 hK hL.2⟩
  | .block _ c, K, h, hK, hL => LM_succ hT c _ h (blockK_mono hK) hL
  | .scope c, K, h, hK, hL => LM_succ hT c _ h hK hL
  | .loop c, K, h, hK, hL => ⟨fun le hle k k' d r hn hk he => by
      obtain ⟨h0, hs⟩ := h.1 le hle
      rcases k with _ | k
      · rw [h0] at he; exact (nomatch he)
      · rcases k' with _ | k'
        · omega
        · rw [hs] at he ⊢
          exact exec_mono hT c _ hL.2 (loopK_mono hL.1 hK) k k' _ r (by omega) (by omega) he, LM_succ hT c _ h.2 (loopK_mono hL.1 hK) hL.2⟩
  | .skip, _, _, _, _ | .region _ _ _, _, _, _, _ | .exit _, _, _, _, _ | .ret, _, _, _, _ => trivial
  | .rangeFunc _ _ _ _, _, _, _, _ | .label _, _, _, _, _ | .goto _, _, _, _, _ | .refuse _, _, _, _, _ => trivial
end

theorem mono_of {P : Program} {T : List (Nat × Ent)} (hT : ∀ p ∈ T, Mono p.2) {fn : Func} {c : Code} (E : Ent) (L : List (Nat × LoopE (ResD E.rs))) (hobl : obl P T fn.ntmps L c (retK P fn.results.toList E.rs))
    (hfn : ∀ k x, E.fn k x = exec P T fn.ntmps L c k (init E.ps x) (retK P fn.results.toList E.rs)) : Mono E := by
  have hK : ∀ n, MonoK n (retK P fn.results.toList E.rs) := fun n k k' e S r _ _ h => h
  have hL : ∀ n, LM n L c := by
    intro n
    induction n with
    | zero => exact LM_zero c _ hobl
    | succ n ih => exact LM_succ hT c _ hobl (hK n) ih
  intro k k' x r hk h
  rw [hfn] at h ⊢
  exact exec_mono hT c _ (hL k) (hK k) k k' _ r (Nat.le_refl _) hk h
/-- A function does what its Lean function says, and more rounds tell the same. -/
structure HM (P : Program) (n : FuncId) (E : Ent) : Prop where
  h : Holds P n E
  m : Mono E
theorem hm_of {P : Program} {T : List (Nat × Ent)} (hm : P.follows .mixedOrders = true) (hT : ∀ p ∈ T, HM P p.1 p.2) {n : FuncId} {fn : Func} {c : Code} (hf : P.funcs[n]? = some fn) (hb : fn.body = some c) (hname : (fn.name == "runtime.NumGoroutine") = false)
    (E : Ent) (L : List (Nat × LoopE (ResD E.rs))) (hps : E.ps.length ≤ fn.ntmps) (hobl : obl P T fn.ntmps L c (retK P fn.results.toList E.rs))
    (hfn : ∀ k x, E.fn k x = exec P T fn.ntmps L c k (init E.ps x) (retK P fn.results.toList E.rs)) : HM P n E :=
  ⟨holds_of hm (fun p hp => (hT p hp).h) hf hb hname E L hps hobl hfn, mono_of (fun p hp => (hT p hp).m) E L hobl hfn⟩
theorem hT_nil {P : Program} : ∀ p ∈ ([] : List (Nat × Ent)), HM P p.1 p.2 := fun p hp => nomatch hp
theorem hT_cons {P : Program} {n : Nat} {E : Ent} {l : List (Nat × Ent)} (h : HM P n E) (hl : ∀ p ∈ l, HM P p.1 p.2) : ∀ p ∈ (n, E) :: l, HM P p.1 p.2 := fun p hp => by
  rcases List.mem_cons.1 hp with rfl | hp
  · exact h
  · exact hl p hp
end Go.Pi
