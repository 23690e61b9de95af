/- What a function answers, at last; how code is gone through. -/
import Derived.Test.YtoffdmkgioaohaaAmBb
namespace Go.AM

def Le (H H' : Handler) : Prop := ∀ f a T o, H f a T = some o → H' f a T = some o

section
variable {cf : Cfg} {H H' : Handler} {fn : FuncId} {ops : Array Oper}

theorem opCall_asks {σ : St} {d f : Nat} {args : List AV} {δ : Delta} (h : opCall cf H σ d f args = some δ) :
    ∃ a T out, H f a T = some out ∧ ∀ H' : Handler, H' f a T = some out → opCall cf H' σ d f args = some δ := by
  unfold opCall at h
  cases hF : cf.P.funcs[f]? with
  | none => rw [hF] at h; cases h
  | some F =>
    rw [hF] at h
    simp only at h
    split at h
    · cases h
    · rename_i hn
      cases hmv : cf.mv f with
      | nil =>
        simp only [hmv] at h
        cases ha : args.mapM (σ.view 6) with
        | none => rw [ha] at h; cases h
        | some as =>
          simp only [ha] at h
          cases hH : H f (nrmArgs cf.P [] 0 F.params.toList as) [] with
          | none => rw [hH] at h; cases h
          | some out =>
            rw [hH] at h
            refine ⟨_, _, out, hH, fun H' hH' => ?_⟩
            unfold opCall
            rw [hF]; simp only; rw [if_neg hn]; simp only [hmv, ha, hH']; exact h
      | cons m mv =>
        simp only [hmv] at h
        split at h
        · cases h
        · rename_i hf
          cases ha : passArgs σ (withBoxes σ.objs (movedRefs (m :: mv) 0 args)) { σ with objs := fun o => if (withBoxes σ.objs (movedRefs (m :: mv) 0 args)).contains o then none else σ.objs o, ep := if cf.fl f then σ.ep else σ.ep + 1 } (m :: mv) 0 args with
          | none => rw [ha] at h; cases h
          | some as =>
            cases ho : passObjs σ (withBoxes σ.objs (movedRefs (m :: mv) 0 args)) (withBoxes σ.objs (movedRefs (m :: mv) 0 args)) with
            | none => rw [ha, ho] at h; cases h
            | some obs =>
              simp only [ha, ho] at h
              cases hH : H f (nrmArgs cf.P (m :: mv) 0 F.params.toList as) obs with
              | none => rw [hH] at h; cases h
              | some out =>
                rw [hH] at h
                refine ⟨_, _, out, hH, fun H' hH' => ?_⟩
                unfold opCall
                rw [hF]; simp only; rw [if_neg hn]; simp only [hmv]; rw [if_neg hf]; simp only [ha, ho, hH']; exact h

theorem evalOp_asks {o : Oper} {σ : St} {δ : Delta} (h : evalOp cf H fn o σ = some δ) :
    (∀ H', evalOp cf H' fn o σ = some δ) ∨ ∃ f a T out, H f a T = some out ∧ ∀ H' : Handler, H' f a T = some out → evalOp cf H' fn o σ = some δ := by
  obtain ⟨dst, op, type, pos, after, guard⟩ := o
  cases op with
  | call c =>
    obtain ⟨callee, args, argTypes⟩ := c
    cases dst with
    | none => exact .inl fun _ => h
    | some d =>
      cases callee with
      | value x =>
        unfold evalOp at h
        simp only at h
        cases hx : σ.get x with
        | fn f caps =>
          rw [hx] at h
          obtain ⟨a, T, out, h1, h2⟩ := opCall_asks h
          exact .inr ⟨f, a, T, out, h1, fun H' hH' => by unfold evalOp; simp only [hx]; exact h2 H' hH'⟩
        | _ => rw [hx] at h; cases h
      | _ => exact .inl fun _ => h
  | makeFunc f first caps => cases f <;> cases dst <;> exact .inl fun _ => h
  | makeMap t r => cases r <;> cases dst <;> exact .inl fun _ => h
  | slice t x lo hi mx => cases mx <;> cases dst <;> exact .inl fun _ => h
  | _ => cases dst <;> exact .inl fun _ => h

theorem evalOp_mono (hl : Le H H') {o : Oper} {σ : St} {δ : Delta} (h : evalOp cf H fn o σ = some δ) : evalOp cf H' fn o σ = some δ := by
  rcases evalOp_asks h with k | ⟨f, a, T, out, k1, k2⟩
  · exact k H'
  · exact k2 H' (hl _ _ _ _ k1)

theorem evalOps_mono (hl : Le H H') : ∀ {l : List Oper} {σ σ' : St}, evalOps cf H fn ops l σ = some σ' → evalOps cf H' fn ops l σ = some σ'
  | [], _, _, h => h
  | o :: l, σ, σ', h => by
    simp only [evalOps] at h ⊢
    cases hg : guardOf ops o σ with
    | none => rw [hg] at h; cases h
    | some b =>
      cases b with
      | false => rw [hg] at h; exact evalOps_mono hl h
      | true =>
        simp only [hg] at h ⊢
        cases he : evalOp cf H fn o σ with
        | none => rw [he] at h; cases h
        | some δ => rw [he] at h; rw [evalOp_mono hl he]; exact evalOps_mono hl h

theorem traceOps_mono (hl : Le H H') : ∀ {l : List Oper} {σ : St} {r : St × List (List Key × List Key)}, traceOps cf H fn ops l σ = some r → traceOps cf H' fn ops l σ = some r
  | [], _, _, h => h
  | o :: l, σ, r, h => by
    simp only [traceOps] at h ⊢
    cases hg : guardOf ops o σ with
    | none => rw [hg] at h; cases h
    | some b =>
      cases b with
      | false =>
        simp only [hg] at h ⊢
        cases ht : traceOps cf H fn ops l (σ.put o.dst (.c undef)) with
        | none => rw [ht] at h; cases h
        | some x => rw [ht] at h; rw [traceOps_mono hl ht]; exact h
      | true =>
        simp only [hg] at h ⊢
        cases he : evalOp cf H fn o σ with
        | none => rw [he] at h; cases h
        | some δ =>
          rw [he] at h; rw [evalOp_mono hl he]
          simp only at h ⊢
          cases ht : traceOps cf H fn ops l (σ.apply o.dst δ) with
          | none => rw [ht] at h; cases h
          | some x => rw [ht] at h; rw [traceOps_mono hl ht]; exact h

theorem evalRegion_mono (hl : Le H H') {draw : Bool} {σ σ' : St} (h : evalRegion cf H fn ops draw σ = some σ') : evalRegion cf H' fn ops draw σ = some σ' := by
  unfold evalRegion at h ⊢
  cases draw with
  | false =>
    simp only [Bool.false_eq_true, if_false, Option.map_eq_some_iff] at h ⊢
    obtain ⟨x, h1, h2⟩ := h
    exact ⟨x, evalOps_mono hl h1, h2⟩
  | true =>
    simp only [if_true] at h ⊢
    cases ht : traceOps cf H fn ops ops.toList σ with
    | none => rw [ht] at h; cases h
    | some x => rw [ht] at h; rw [traceOps_mono hl ht]; exact h

theorem runC_mono (hl : Le H H') : ∀ {k k' : Nat} {c : Code} {σ : St} {r : Ex × St}, k ≤ k' → runC cf H fn k c σ = some r → runC cf H' fn k' c σ = some r
  | 0, _, _, _, _, _, h => by simp [runC] at h
  | k + 1, 0, _, _, _, hk, _ => by omega
  | k + 1, k' + 1, c, σ, r, hk, h => by
    have hk : k ≤ k' := by omega
    cases c with
    | region id ops draw =>
      simp only [runC, Option.map_eq_some_iff] at h ⊢
      obtain ⟨x, h1, h2⟩ := h
      exact ⟨x, evalRegion_mono hl h1, h2⟩
    | seq a b =>
      simp only [runC] at h ⊢
      cases ha : runC cf H fn k a σ with
      | none => rw [ha] at h; cases h
      | some x =>
        obtain ⟨ex, σ'⟩ := x
        rw [ha] at h; rw [runC_mono hl hk ha]
        cases ex with
        | normal => exact runC_mono hl hk h
        | exit i => exact h
        | ret => exact h
    | cond c a b =>
      simp only [runC] at h ⊢
      split at h
      · exact runC_mono hl hk h
      · cases h
    | block id b =>
      simp only [runC] at h ⊢
      cases ha : runC cf H fn k b σ with
      | none => rw [ha] at h; cases h
      | some x => rw [ha] at h; rw [runC_mono hl hk ha]; exact h
    | loop b =>
      simp only [runC] at h ⊢
      cases ha : runC cf H fn k b σ with
      | none => rw [ha] at h; cases h
      | some x =>
        obtain ⟨ex, σ'⟩ := x
        rw [ha] at h; rw [runC_mono hl hk ha]
        cases ex with
        | normal => exact runC_mono hl hk h
        | exit i => exact h
        | ret => exact h
    | skip => exact h
    | exit id => exact h
    | ret => exact h
    | _ => simp [runC] at h

variable {E : FuncId → Option (List AV → List Ob → Option Out)}

theorem runF_mono : ∀ {k k' : Nat}, k ≤ k' → Le (runF cf E k) (runF cf E k')
  | 0, _, _, f, a, T, o, h => by simp [runF] at h
  | k + 1, 0, hk, _, _, _, _, _ => by omega
  | k + 1, k' + 1, hk, f, a, T, o, h => by
    have hk : k ≤ k' := by omega
    simp only [runF] at h ⊢
    cases hE : E f with
    | some g => rw [hE] at h; exact h
    | none =>
      simp only [hE] at h ⊢
      cases hF : cf.P.funcs[f]? with
      | none => rw [hF] at h; cases h
      | some F =>
        simp only [hF] at h ⊢
        cases hb : F.body with
        | none => rw [hb] at h; cases h
        | some c =>
          simp only [hb] at h ⊢
          split
          · rename_i hc
            rw [if_pos hc] at h
            cases hr : runC cf (runF cf E k) f k c (initSt a T) with
            | none => rw [hr] at h; cases h
            | some x => rw [hr] at h; rw [runC_mono (runF_mono hk) hk hr]; exact h
          · rename_i hc; rw [if_neg hc] at h; cases h

open Classical in
/-- what a function answers, however long it takes -/
noncomputable def den (cf : Cfg) (E : FuncId → Option (List AV → List Ob → Option Out)) : Handler :=
  fun f a T => if h : ∃ o k, runF cf E k f a T = some o then some h.choose else none

theorem den_iff {f : Nat} {a : List AV} {T : List Ob} {o : Out} : den cf E f a T = some o ↔ ∃ k, runF cf E k f a T = some o := by
  unfold den
  constructor
  · intro h
    split at h
    · rename_i hx; cases h; exact hx.choose_spec
    · cases h
  · rintro ⟨k, hk⟩
    have hx : ∃ o k, runF cf E k f a T = some o := ⟨o, k, hk⟩
    rw [dif_pos hx]
    obtain ⟨k2, hk2⟩ := hx.choose_spec
    have h1 := runF_mono (Nat.le_max_left k k2) _ _ _ _ hk
    have h2 := runF_mono (Nat.le_max_right k k2) _ _ _ _ hk2
    rw [h1] at h2
    exact h2.symm

theorem den_told (hE : ∀ f g, E f = some g → ∀ args T out, g args T = some out → Told cf.P f args T out) (hm : cf.P.follows .mixedOrders = true) :
    ∀ f args T out, den cf E f args T = some out → Told cf.P f args T out := by
  intro f args T out h
  obtain ⟨k, hk⟩ := den_iff.1 h
  exact runF_told hE hm k f args T out hk

theorem run_le_den (k : Nat) : Le (runF cf E k) (den cf E) := fun _ _ _ _ h => den_iff.2 ⟨k, h⟩

/-! #### each answer is found in some time -/

theorem evalOp_cont {o : Oper} {σ : St} {δ : Delta} (h : evalOp cf (den cf E) fn o σ = some δ) : ∃ k, evalOp cf (runF cf E k) fn o σ = some δ := by
  rcases evalOp_asks h with k | ⟨f, a, T, out, k1, k2⟩
  · exact ⟨0, k _⟩
  · obtain ⟨k, hk⟩ := den_iff.1 k1
    exact ⟨k, k2 _ hk⟩

theorem evalOps_cont : ∀ {l : List Oper} {σ σ' : St}, evalOps cf (den cf E) fn ops l σ = some σ' → ∃ k, evalOps cf (runF cf E k) fn ops l σ = some σ'
  | [], _, _, h => ⟨0, h⟩
  | o :: l, σ, σ', h => by
    simp only [evalOps] at h
    cases hg : guardOf ops o σ with
    | none => rw [hg] at h; cases h
    | some b =>
      cases b with
      | false =>
        rw [hg] at h
        obtain ⟨k, hk⟩ := evalOps_cont h
        exact ⟨k, by simp only [evalOps, hg, hk]⟩
      | true =>
        simp only [hg] at h
        cases he : evalOp cf (den cf E) fn o σ with
        | none => rw [he] at h; cases h
        | some δ =>
          rw [he] at h
          obtain ⟨k1, hk1⟩ := evalOp_cont he
          obtain ⟨k2, hk2⟩ := evalOps_cont h
          refine ⟨max k1 k2, ?_⟩
          simp only [evalOps, hg, evalOp_mono (runF_mono (Nat.le_max_left k1 k2)) hk1]
          exact evalOps_mono (runF_mono (Nat.le_max_right k1 k2)) hk2

theorem traceOps_cont : ∀ {l : List Oper} {σ : St} {r : St × List (List Key × List Key)}, traceOps cf (den cf E) fn ops l σ = some r → ∃ k, traceOps cf (runF cf E k) fn ops l σ = some r
  | [], _, _, h => ⟨0, h⟩
  | o :: l, σ, r, h => by
    simp only [traceOps] at h
    cases hg : guardOf ops o σ with
    | none => rw [hg] at h; cases h
    | some b =>
      cases b with
      | false =>
        simp only [hg] at h
        cases ht : traceOps cf (den cf E) fn ops l (σ.put o.dst (.c undef)) with
        | none => rw [ht] at h; cases h
        | some x =>
          rw [ht] at h
          obtain ⟨k, hk⟩ := traceOps_cont ht
          exact ⟨k, by simp only [traceOps, hg, hk]; exact h⟩
      | true =>
        simp only [hg] at h
        cases he : evalOp cf (den cf E) fn o σ with
        | none => rw [he] at h; cases h
        | some δ =>
          rw [he] at h
          simp only at h
          cases ht : traceOps cf (den cf E) fn ops l (σ.apply o.dst δ) with
          | none => rw [ht] at h; cases h
          | some x =>
            rw [ht] at h
            obtain ⟨k1, hk1⟩ := evalOp_cont he
            obtain ⟨k2, hk2⟩ := traceOps_cont ht
            refine ⟨max k1 k2, ?_⟩
            simp only [traceOps, hg, evalOp_mono (runF_mono (Nat.le_max_left k1 k2)) hk1, traceOps_mono (runF_mono (Nat.le_max_right k1 k2)) hk2]
            exact h

theorem evalRegion_cont {draw : Bool} {σ σ' : St} (h : evalRegion cf (den cf E) fn ops draw σ = some σ') : ∃ k, evalRegion cf (runF cf E k) fn ops draw σ = some σ' := by
  unfold evalRegion at h
  cases draw with
  | false =>
    simp only [Bool.false_eq_true, if_false, Option.map_eq_some_iff] at h
    obtain ⟨x, h1, h2⟩ := h
    obtain ⟨k, hk⟩ := evalOps_cont h1
    exact ⟨k, by simp only [evalRegion, Bool.false_eq_true, if_false, Option.map_eq_some_iff]; exact ⟨x, hk, h2⟩⟩
  | true =>
    simp only [if_true] at h
    cases ht : traceOps cf (den cf E) fn ops ops.toList σ with
    | none => rw [ht] at h; cases h
    | some x =>
      rw [ht] at h
      obtain ⟨k, hk⟩ := traceOps_cont ht
      exact ⟨k, by simp only [evalRegion, if_true, hk]; exact h⟩

theorem runC_cont : ∀ {k : Nat} {c : Code} {σ : St} {r : Ex × St}, runC cf (den cf E) fn k c σ = some r → ∃ j, runC cf (runF cf E j) fn k c σ = some r
  | 0, _, _, _, h => by simp [runC] at h
  | k + 1, c, σ, r, h => by
    cases c with
    | region id ops draw =>
      simp only [runC, Option.map_eq_some_iff] at h ⊢
      obtain ⟨x, h1, h2⟩ := h
      obtain ⟨j, hj⟩ := evalRegion_cont h1
      exact ⟨j, x, hj, h2⟩
    | seq a b =>
      simp only [runC] at h ⊢
      cases ha : runC cf (den cf E) fn k a σ with
      | none => rw [ha] at h; cases h
      | some x =>
        obtain ⟨ex, σ'⟩ := x
        rw [ha] at h
        obtain ⟨j1, hj1⟩ := runC_cont ha
        cases ex with
        | normal =>
          obtain ⟨j2, hj2⟩ := runC_cont h
          refine ⟨max j1 j2, ?_⟩
          rw [runC_mono (runF_mono (Nat.le_max_left j1 j2)) (Nat.le_refl k) hj1]
          exact runC_mono (runF_mono (Nat.le_max_right j1 j2)) (Nat.le_refl k) hj2
        | exit i => exact ⟨j1, by rw [hj1]; exact h⟩
        | ret => exact ⟨j1, by rw [hj1]; exact h⟩
    | cond c a b =>
      simp only [runC] at h ⊢
      split at h
      · exact runC_cont h
      · cases h
    | block id b =>
      simp only [runC] at h ⊢
      cases ha : runC cf (den cf E) fn k b σ with
      | none => rw [ha] at h; cases h
      | some x =>
        rw [ha] at h
        obtain ⟨j1, hj1⟩ := runC_cont ha
        exact ⟨j1, by rw [hj1]; exact h⟩
    | loop b =>
      simp only [runC] at h ⊢
      cases ha : runC cf (den cf E) fn k b σ with
      | none => rw [ha] at h; cases h
      | some x =>
        obtain ⟨ex, σ'⟩ := x
        rw [ha] at h
        obtain ⟨j1, hj1⟩ := runC_cont ha
        cases ex with
        | normal =>
          obtain ⟨j2, hj2⟩ := runC_cont h
          refine ⟨max j1 j2, ?_⟩
          rw [runC_mono (runF_mono (Nat.le_max_left j1 j2)) (Nat.le_refl k) hj1]
          exact runC_mono (runF_mono (Nat.le_max_right j1 j2)) (Nat.le_refl k) hj2
        | exit i => exact ⟨j1, by rw [hj1]; exact h⟩
        | ret => exact ⟨j1, by rw [hj1]; exact h⟩
    | skip => exact ⟨0, h⟩
    | exit id => exact ⟨0, h⟩
    | ret => exact ⟨0, h⟩
    | _ => simp [runC] at h

/-! #### going through code -/

/-- from this state the code comes to an end of this kind -/
def WP (cf : Cfg) (H : Handler) (fn : FuncId) (c : Code) (σ : St) (Q : Ex → St → Prop) : Prop := ∃ k ex σ', runC cf H fn k c σ = some (ex, σ') ∧ Q ex σ'

variable {σ : St} {Q : Ex → St → Prop}

theorem WP.mono {c : Code} {Q' : Ex → St → Prop} (h : WP cf H fn c σ Q) (hq : ∀ ex σ, Q ex σ → Q' ex σ) : WP cf H fn c σ Q' := by
  obtain ⟨k, ex, σ', h1, h2⟩ := h
  exact ⟨k, ex, σ', h1, hq _ _ h2⟩

theorem WP.skip (h : Q .normal σ) : WP cf H fn .skip σ Q := ⟨1, .normal, σ, rfl, h⟩
theorem WP.exit {id : Nat} (h : Q (.exit id) σ) : WP cf H fn (.exit id) σ Q := ⟨1, .exit id, σ, rfl, h⟩
theorem WP.ret (h : Q .ret σ) : WP cf H fn .ret σ Q := ⟨1, .ret, σ, rfl, h⟩

/-- it is something of this kind -/
def Opt {α : Type} (x : Option α) (p : α → Prop) : Prop := ∃ a, x = some a ∧ p a

theorem WP.region {id : Nat} {draw : Bool} (h : Opt (evalRegion cf H fn ops draw σ) (Q .normal)) : WP cf H fn (.region id ops draw) σ Q := by
  obtain ⟨σ', h1, h2⟩ := h
  exact ⟨1, .normal, σ', by simp [runC, h1], h2⟩

theorem WP.seq {a b : Code} (h : WP cf H fn a σ fun ex σ' => match ex with | .normal => WP cf H fn b σ' Q | ex => Q ex σ') : WP cf H fn (.seq a b) σ Q := by
  obtain ⟨k, ex, σ', h1, h2⟩ := h
  cases ex with
  | normal =>
    obtain ⟨k2, ex2, σ2, h3, h4⟩ := h2
    refine ⟨max k k2 + 1, ex2, σ2, ?_, h4⟩
    simp only [runC, runC_mono (fun _ _ _ _ h => h) (Nat.le_max_left k k2) h1]
    exact runC_mono (fun _ _ _ _ h => h) (Nat.le_max_right k k2) h3
  | exit i => exact ⟨k + 1, .exit i, σ', by simp only [runC, h1], h2⟩
  | ret => exact ⟨k + 1, .ret, σ', by simp only [runC, h1], h2⟩

theorem WP.cond {c : Operand} {a b : Code} {t : Bool} (hc : σ.get c = .c (.bool t)) (h : WP cf H fn (if t then a else b) σ Q) : WP cf H fn (.cond c a b) σ Q := by
  obtain ⟨k, ex, σ', h1, h2⟩ := h
  exact ⟨k + 1, ex, σ', by simp only [runC, hc]; exact h1, h2⟩

theorem WP.block {id : Nat} {b : Code} (h : WP cf H fn b σ fun ex σ' => match ex with | .exit i => if i = id then Q .normal σ' else Q (.exit i) σ' | ex => Q ex σ') : WP cf H fn (.block id b) σ Q := by
  obtain ⟨k, ex, σ', h1, h2⟩ := h
  cases ex with
  | normal => exact ⟨k + 1, .normal, σ', by simp only [runC, h1], h2⟩
  | ret => exact ⟨k + 1, .ret, σ', by simp only [runC, h1], h2⟩
  | exit i =>
    simp only at h2
    by_cases e : i = id
    · rw [if_pos e] at h2; exact ⟨k + 1, .normal, σ', by simp only [runC, h1, if_pos e], h2⟩
    · rw [if_neg e] at h2; exact ⟨k + 1, .exit i, σ', by simp only [runC, h1, if_neg e], h2⟩

theorem WP.round {b : Code} (h : WP cf H fn b σ fun ex σ' => match ex with | .normal => WP cf H fn (.loop b) σ' Q | ex => Q ex σ') : WP cf H fn (.loop b) σ Q := by
  obtain ⟨k, ex, σ', h1, h2⟩ := h
  cases ex with
  | normal =>
    obtain ⟨k2, ex2, σ2, h3, h4⟩ := h2
    refine ⟨max k k2 + 1, ex2, σ2, ?_, h4⟩
    simp only [runC, runC_mono (fun _ _ _ _ h => h) (Nat.le_max_left k k2) h1]
    exact runC_mono (fun _ _ _ _ h => h) (Nat.le_max_right k k2) h3
  | exit i => exact ⟨k + 1, .exit i, σ', by simp only [runC, h1], h2⟩
  | ret => exact ⟨k + 1, .ret, σ', by simp only [runC, h1], h2⟩

/-- a loop: what holds at its head, with a measure that falls -/
theorem WP.loop {ι : Type} {b : Code} (I : ι → St → Prop) (m : ι → Nat) (i : ι) (h0 : I i σ)
    (step : ∀ i σ, I i σ → WP cf H fn b σ fun ex σ' => match ex with | .normal => ∃ j, m j < m i ∧ I j σ' | ex => Q ex σ') : WP cf H fn (.loop b) σ Q := by
  have key : ∀ (n : Nat) (i : ι) (σ : St), m i < n → I i σ → WP cf H fn (.loop b) σ Q := by
    intro n
    induction n with
    | zero => intro i σ h; omega
    | succ n ih =>
      intro i σ hn hi
      refine WP.round ((step i σ hi).mono ?_)
      intro ex σ' h
      cases ex with
      | normal => obtain ⟨j, h1, h2⟩ := h; exact ih j σ' (by omega) h2
      | exit i => exact h
      | ret => exact h
  exact key (m i + 1) i σ (by omega) h0

/-- what a function answers, by its body -/
theorem den_of {F : Func} {c : Code} {f : Nat} {args : List AV} {T : List Ob} {out : Out} (hE : E f = none) (hF : cf.P.funcs[f]? = some F) (hb : F.body = some c) (hok : funcOK F = true) (hl : args.length ≤ F.ntmps) (hT : T.length ≤ 16)
    (h : WP cf (den cf E) f c (initSt args T) fun ex σ => (ex = .normal ∨ ex = .ret) ∧ finish cf T.length F.results σ = some out) : den cf E f args T = some out := by
  obtain ⟨k, ex, σ, h1, h2, h3⟩ := h
  obtain ⟨j, hj⟩ := runC_cont h1
  refine den_iff.2 ⟨max j k + 1, ?_⟩
  have hr := runC_mono (runF_mono (Nat.le_max_left j k)) (Nat.le_max_right j k) hj
  simp only [runF, hE, hF, hb]
  rw [if_pos ⟨hok, hl, hT⟩, hr]
  rcases h2 with rfl | rfl <;> exact h3

end
end Go.AM
