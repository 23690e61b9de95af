/- Small functions; whether an automaton is right. -/
import Derived.Test.YtoffdmkgioaohaaFnD
namespace Go.AM
open Go.Proofs
set_option maxRecDepth 4000
set_option maxHeartbeats 2000000
set_option linter.unusedSimpArgs false
set_option linter.unusedVariables false

theorem den_within (n lo hi : Int) : D 97 [I n, I lo, I hi] [] = some (Bo (decide (lo ≤ n) && decide (n ≤ hi)), []) := by
  by_cases h : lo ≤ n
  all_goals
    refine den_of rfl Try.func97 rfl (by kernel_rfl) (by simp [Try.ntmps97]) (by simp) ?_
    repeat' (first
      | refine WP.assoc ?_
      | refine WP.skipS ?_
      | (refine WP.textS rfl ?_; intro K hK; simp [engE, factsE, callsE, *]; refine hK _ ?_; clear hK K)
      | (refine WP.textK rfl ?_; intro K hK; simp [engE, factsE, callsE, *]; refine hK _ ?_; clear hK K; (try dsimp only))
      | (refine WP.drawnS rfl ?_; intro K hK; simp [keyE, engE, factsE, callsE, *]; refine ⟨by kernel_rfl, hK _ ?_⟩; clear hK K)
      | (refine WP.drawnK rfl ?_; intro K hK; simp [keyE, engE, factsE, callsE, *]; refine ⟨by kernel_rfl, hK _ ?_⟩; clear hK K; (try dsimp only))
      | (refine WP.textSB ?_; intro K hK; simp [putBack, putBack1, engE, factsE, callsE, *]; refine hK _ ?_; clear hK K)
      | (refine WP.textBK ?_; intro K hK; simp [putBack, putBack1, engE, factsE, callsE, *]; refine hK _ ?_; clear hK K; (try dsimp only))
      | (refine WP.condS (by simp [engE, *]; rfl) (fun hc => ?_) (fun hc => ?_) <;> (try simp at hc))
      | (refine WP.condE (by simp [engE, *]; rfl) (fun hc => ?_) (fun hc => ?_) <;> (try simp at hc))
      | (refine WP.skip ?_; (try dsimp only))
      | (refine WP.blockS ?_; intro K hK)
      | (refine WP.blockK ?_; intro K hK)
      | (refine WP.exitS ?_; simp only [ite_true, ite_false, reduceIte])
      | (refine WP.exit ?_; simp only [ite_true, ite_false, reduceIte])
      | (refine WP.retS ?_; (try dsimp only); refine ⟨.inr rfl, ?_⟩)
      | (refine WP.ret ?_; (try dsimp only); refine ⟨.inr rfl, ?_⟩)
      | (refine Keep.use (by assumption) ?_; (try dsimp only)))
    all_goals simp [engE, Try.results97, *]

theorem den_l01In (n lo hi : Int) : D 140 [I n, I lo, I hi] [] = some (Bo (decide (lo ≤ n) && decide (n ≤ hi)), []) := by
  by_cases h : lo ≤ n
  all_goals
    refine den_of rfl Try.func140 rfl (by kernel_rfl) (by simp [Try.ntmps140]) (by simp) ?_
    repeat' (first
      | refine WP.assoc ?_
      | refine WP.skipS ?_
      | (refine WP.textS rfl ?_; intro K hK; simp [engE, factsE, callsE, *]; refine hK _ ?_; clear hK K)
      | (refine WP.textK rfl ?_; intro K hK; simp [engE, factsE, callsE, *]; refine hK _ ?_; clear hK K; (try dsimp only))
      | (refine WP.drawnS rfl ?_; intro K hK; simp [keyE, engE, factsE, callsE, *]; refine ⟨by kernel_rfl, hK _ ?_⟩; clear hK K)
      | (refine WP.drawnK rfl ?_; intro K hK; simp [keyE, engE, factsE, callsE, *]; refine ⟨by kernel_rfl, hK _ ?_⟩; clear hK K; (try dsimp only))
      | (refine WP.textSB ?_; intro K hK; simp [putBack, putBack1, engE, factsE, callsE, *]; refine hK _ ?_; clear hK K)
      | (refine WP.textBK ?_; intro K hK; simp [putBack, putBack1, engE, factsE, callsE, *]; refine hK _ ?_; clear hK K; (try dsimp only))
      | (refine WP.condS (by simp [engE, *]; rfl) (fun hc => ?_) (fun hc => ?_) <;> (try simp at hc))
      | (refine WP.condE (by simp [engE, *]; rfl) (fun hc => ?_) (fun hc => ?_) <;> (try simp at hc))
      | (refine WP.skip ?_; (try dsimp only))
      | (refine WP.blockS ?_; intro K hK)
      | (refine WP.blockK ?_; intro K hK)
      | (refine WP.exitS ?_; simp only [ite_true, ite_false, reduceIte])
      | (refine WP.exit ?_; simp only [ite_true, ite_false, reduceIte])
      | (refine WP.retS ?_; (try dsimp only); refine ⟨.inr rfl, ?_⟩)
      | (refine WP.ret ?_; (try dsimp only); refine ⟨.inr rfl, ?_⟩)
      | (refine Keep.use (by assumption) ?_; (try dsimp only)))
    all_goals simp [engE, Try.results140, *]

theorem mem_drop_step {l : List Int} {k : Nat} {x : Int} (hk : k < l.length) (he : l[k] ≠ x) : decide (x ∈ l.drop k) = decide (x ∈ l.drop (k + 1)) := by
  rw [List.drop_eq_getElem_cons hk]
  simp only [List.mem_cons]
  have : ¬ x = l[k] := fun e => he e.symm
  simp only [this, false_or]
theorem mem_drop_here {l : List Int} {k : Nat} {x : Int} (hk : k < l.length) (he : l[k] = x) : decide (x ∈ l.drop k) = true := by
  rw [List.drop_eq_getElem_cons hk]
  simp [he]

theorem den_l02Has {t : Tag} (ht : t.fixed = true) (l : List Int) (x : Int) (h1 : l.length < 2^60) :
    D 160 [.tr t 1 (rowsI l), I x] [] = some (Bo (decide (x ∈ l)), []) := by
  refine den_of rfl Try.func160 rfl (by kernel_rfl) (by simp [Try.ntmps160]) (by simp) ?_
  repeat' (first
    | refine WP.assoc ?_
    | refine WP.skipS ?_
    | (refine WP.textS rfl ?_; intro K hK; simp [engE, factsE, callsE, *]; refine hK _ ?_; clear hK K)
    | (refine WP.textK rfl ?_; intro K hK; simp [engE, factsE, callsE, *]; refine hK _ ?_; clear hK K; (try dsimp only))
    | (refine WP.drawnS rfl ?_; intro K hK; simp [keyE, engE, factsE, callsE, *]; refine ⟨by kernel_rfl, hK _ ?_⟩; clear hK K)
    | (refine WP.drawnK rfl ?_; intro K hK; simp [keyE, engE, factsE, callsE, *]; refine ⟨by kernel_rfl, hK _ ?_⟩; clear hK K; (try dsimp only))
    | (refine WP.textSB ?_; intro K hK; simp [putBack, putBack1, engE, factsE, callsE, *]; refine hK _ ?_; clear hK K)
    | (refine WP.textBK ?_; intro K hK; simp [putBack, putBack1, engE, factsE, callsE, *]; refine hK _ ?_; clear hK K; (try dsimp only))
    | (refine WP.condS (by simp [engE, *]; rfl) (fun hc => ?_) (fun hc => ?_) <;> (try simp at hc))
    | (refine WP.condE (by simp [engE, *]; rfl) (fun hc => ?_) (fun hc => ?_) <;> (try simp at hc))
    | (refine WP.skip ?_; (try dsimp only))
    | (refine WP.blockS ?_; intro K hK)
    | (refine WP.blockK ?_; intro K hK)
    | (refine WP.exitS ?_; simp only [ite_true, ite_false, reduceIte])
    | (refine WP.exit ?_; simp only [ite_true, ite_false, reduceIte])
    | (refine WP.retS ?_; (try dsimp only); refine ⟨.inr rfl, ?_⟩)
    | (refine WP.ret ?_; (try dsimp only); refine ⟨.inr rfl, ?_⟩)
    | (refine Keep.use (by assumption) ?_; (try dsimp only)))
  refine WP.loopI (ι := Nat) (fun i σ => i ≤ l.length ∧ σ.slots 0 = .tr t 1 (rowsI l) ∧ σ.slots 1 = I x ∧ σ.slots 5 = I i ∧ decide (x ∈ l) = decide (x ∈ l.drop i)) (fun i => l.length - i) 0 ?_ ?_
  · simp [engE]
  · rintro k σ ⟨i1, i2, i3, i4, i5⟩
    by_cases hk : k < l.length
    · have hw2 := w64s (k := k) (by omega)
      by_cases he : l[k] = x
      · rw [mem_drop_here hk he] at i5
        repeat' (first
          | refine WP.assoc ?_
          | refine WP.skipS ?_
          | (refine WP.textS rfl ?_; intro K hK; simp [engE, factsE, callsE, *]; refine hK _ ?_; clear hK K)
          | (refine WP.textK rfl ?_; intro K hK; simp [engE, factsE, callsE, *]; refine hK _ ?_; clear hK K; (try dsimp only))
          | (refine WP.drawnS rfl ?_; intro K hK; simp [keyE, engE, factsE, callsE, *]; refine ⟨by kernel_rfl, hK _ ?_⟩; clear hK K)
          | (refine WP.drawnK rfl ?_; intro K hK; simp [keyE, engE, factsE, callsE, *]; refine ⟨by kernel_rfl, hK _ ?_⟩; clear hK K; (try dsimp only))
          | (refine WP.textSB ?_; intro K hK; simp [putBack, putBack1, engE, factsE, callsE, *]; refine hK _ ?_; clear hK K)
          | (refine WP.textBK ?_; intro K hK; simp [putBack, putBack1, engE, factsE, callsE, *]; refine hK _ ?_; clear hK K; (try dsimp only))
          | (refine WP.condS (by simp [engE, *]; rfl) (fun hc => ?_) (fun hc => ?_) <;> (try simp at hc))
          | (refine WP.condE (by simp [engE, *]; rfl) (fun hc => ?_) (fun hc => ?_) <;> (try simp at hc))
          | (refine WP.skip ?_; (try dsimp only))
          | (refine WP.blockS ?_; intro K hK)
          | (refine WP.blockK ?_; intro K hK)
          | (refine WP.exitS ?_; simp only [ite_true, ite_false, reduceIte])
          | (refine WP.exit ?_; simp only [ite_true, ite_false, reduceIte])
          | (refine WP.retS ?_; (try dsimp only); refine ⟨.inr rfl, ?_⟩)
          | (refine WP.ret ?_; (try dsimp only); refine ⟨.inr rfl, ?_⟩)
          | (refine Keep.use (by assumption) ?_; (try dsimp only)))
        simp [engE, Try.results160, *]
      · rw [mem_drop_step hk he] at i5
        repeat' (first
          | refine WP.assoc ?_
          | refine WP.skipS ?_
          | (refine WP.textS rfl ?_; intro K hK; simp [engE, factsE, callsE, *]; refine hK _ ?_; clear hK K)
          | (refine WP.textK rfl ?_; intro K hK; simp [engE, factsE, callsE, *]; refine hK _ ?_; clear hK K; (try dsimp only))
          | (refine WP.drawnS rfl ?_; intro K hK; simp [keyE, engE, factsE, callsE, *]; refine ⟨by kernel_rfl, hK _ ?_⟩; clear hK K)
          | (refine WP.drawnK rfl ?_; intro K hK; simp [keyE, engE, factsE, callsE, *]; refine ⟨by kernel_rfl, hK _ ?_⟩; clear hK K; (try dsimp only))
          | (refine WP.textSB ?_; intro K hK; simp [putBack, putBack1, engE, factsE, callsE, *]; refine hK _ ?_; clear hK K)
          | (refine WP.textBK ?_; intro K hK; simp [putBack, putBack1, engE, factsE, callsE, *]; refine hK _ ?_; clear hK K; (try dsimp only))
          | (refine WP.condS (by simp [engE, *]; rfl) (fun hc => ?_) (fun hc => ?_) <;> (try simp at hc))
          | (refine WP.condE (by simp [engE, *]; rfl) (fun hc => ?_) (fun hc => ?_) <;> (try simp at hc))
          | (refine WP.skip ?_; (try dsimp only))
          | (refine WP.blockS ?_; intro K hK)
          | (refine WP.blockK ?_; intro K hK)
          | (refine WP.exitS ?_; simp only [ite_true, ite_false, reduceIte])
          | (refine WP.exit ?_; simp only [ite_true, ite_false, reduceIte])
          | (refine WP.retS ?_; (try dsimp only); refine ⟨.inr rfl, ?_⟩)
          | (refine WP.ret ?_; (try dsimp only); refine ⟨.inr rfl, ?_⟩)
          | (refine Keep.use (by assumption) ?_; (try dsimp only)))
        refine ⟨k + 1, by simp; omega, ?_⟩
        simp [engE, *]
        omega
    · have hd1 : l.drop k = [] := List.drop_eq_nil_of_le (by omega)
      repeat' (first
        | refine WP.assoc ?_
        | refine WP.skipS ?_
        | (refine WP.textS rfl ?_; intro K hK; simp [engE, factsE, callsE, *]; refine hK _ ?_; clear hK K)
        | (refine WP.textK rfl ?_; intro K hK; simp [engE, factsE, callsE, *]; refine hK _ ?_; clear hK K; (try dsimp only))
        | (refine WP.drawnS rfl ?_; intro K hK; simp [keyE, engE, factsE, callsE, *]; refine ⟨by kernel_rfl, hK _ ?_⟩; clear hK K)
        | (refine WP.drawnK rfl ?_; intro K hK; simp [keyE, engE, factsE, callsE, *]; refine ⟨by kernel_rfl, hK _ ?_⟩; clear hK K; (try dsimp only))
        | (refine WP.textSB ?_; intro K hK; simp [putBack, putBack1, engE, factsE, callsE, *]; refine hK _ ?_; clear hK K)
        | (refine WP.textBK ?_; intro K hK; simp [putBack, putBack1, engE, factsE, callsE, *]; refine hK _ ?_; clear hK K; (try dsimp only))
        | (refine WP.condS (by simp [engE, *]; rfl) (fun hc => ?_) (fun hc => ?_) <;> (try simp at hc))
        | (refine WP.condE (by simp [engE, *]; rfl) (fun hc => ?_) (fun hc => ?_) <;> (try simp at hc))
        | (refine WP.skip ?_; (try dsimp only))
        | (refine WP.blockS ?_; intro K hK)
        | (refine WP.blockK ?_; intro K hK)
        | (refine WP.exitS ?_; simp only [ite_true, ite_false, reduceIte])
        | (refine WP.exit ?_; simp only [ite_true, ite_false, reduceIte])
        | (refine WP.retS ?_; (try dsimp only); refine ⟨.inr rfl, ?_⟩)
        | (refine WP.ret ?_; (try dsimp only); refine ⟨.inr rfl, ?_⟩)
        | (refine Keep.use (by assumption) ?_; (try dsimp only)))
      simp [engE, Try.results160, *]

theorem den_heldIntS {t : Tag} (ht : t.fixed = true) (n : Nat) (k : Int) (h1 : n ≤ 1048576) (h2 : 0 ≤ k) (h3 : k < 2^60) :
    D 21 [.tr t 1 (rowsI (marksI n k)), I k] [] = some (I (k + n), []) := by
  refine den_of rfl Try.func21 rfl (by kernel_rfl) (by simp [Try.ntmps21]) (by simp) ?_
  repeat' (first
    | refine WP.assoc ?_
    | refine WP.skipS ?_
    | (refine WP.textS rfl ?_; intro K hK; simp [engE, factsE, callsE, *]; refine hK _ ?_; clear hK K)
    | (refine WP.textK rfl ?_; intro K hK; simp [engE, factsE, callsE, *]; refine hK _ ?_; clear hK K; (try dsimp only))
    | (refine WP.drawnS rfl ?_; intro K hK; simp [keyE, engE, factsE, callsE, *]; refine ⟨by kernel_rfl, hK _ ?_⟩; clear hK K)
    | (refine WP.drawnK rfl ?_; intro K hK; simp [keyE, engE, factsE, callsE, *]; refine ⟨by kernel_rfl, hK _ ?_⟩; clear hK K; (try dsimp only))
    | (refine WP.textSB ?_; intro K hK; simp [putBack, putBack1, engE, factsE, callsE, *]; refine hK _ ?_; clear hK K)
    | (refine WP.textBK ?_; intro K hK; simp [putBack, putBack1, engE, factsE, callsE, *]; refine hK _ ?_; clear hK K; (try dsimp only))
    | (refine WP.condS (by simp [engE, *]; rfl) (fun hc => ?_) (fun hc => ?_) <;> (try simp at hc))
    | (refine WP.condE (by simp [engE, *]; rfl) (fun hc => ?_) (fun hc => ?_) <;> (try simp at hc))
    | (refine WP.skip ?_; (try dsimp only))
    | (refine WP.blockS ?_; intro K hK)
    | (refine WP.blockK ?_; intro K hK)
    | (refine WP.exitS ?_; simp only [ite_true, ite_false, reduceIte])
    | (refine WP.exit ?_; simp only [ite_true, ite_false, reduceIte])
    | (refine WP.retS ?_; (try dsimp only); refine ⟨.inr rfl, ?_⟩)
    | (refine WP.ret ?_; (try dsimp only); refine ⟨.inr rfl, ?_⟩)
    | (refine Keep.use (by assumption) ?_; (try dsimp only)))
  refine WP.loopI (ι := Nat) (fun i σ => i ≤ n ∧ σ.slots 0 = .tr t 1 (rowsI (marksI n k)) ∧ σ.slots 1 = I (k + i) ∧ σ.slots 5 = I i) (fun i => n - i) 0 ?_ ?_
  · simp [engE]
  · rintro i σ ⟨i1, i2, i3, i4⟩
    by_cases hk : i < n
    · have hw2 := w64s (k := i) (by omega)
      have hw3 : IntKind.i64.wrap (k + i + 1) = k + i + 1 := w64 (by omega) (by omega)
      repeat' (first
        | refine WP.assoc ?_
        | refine WP.skipS ?_
        | (refine WP.textS rfl ?_; intro K hK; simp [engE, factsE, callsE, *]; refine hK _ ?_; clear hK K)
        | (refine WP.textK rfl ?_; intro K hK; simp [engE, factsE, callsE, *]; refine hK _ ?_; clear hK K; (try dsimp only))
        | (refine WP.drawnS rfl ?_; intro K hK; simp [keyE, engE, factsE, callsE, *]; refine ⟨by kernel_rfl, hK _ ?_⟩; clear hK K)
        | (refine WP.drawnK rfl ?_; intro K hK; simp [keyE, engE, factsE, callsE, *]; refine ⟨by kernel_rfl, hK _ ?_⟩; clear hK K; (try dsimp only))
        | (refine WP.textSB ?_; intro K hK; simp [putBack, putBack1, engE, factsE, callsE, *]; refine hK _ ?_; clear hK K)
        | (refine WP.textBK ?_; intro K hK; simp [putBack, putBack1, engE, factsE, callsE, *]; refine hK _ ?_; clear hK K; (try dsimp only))
        | (refine WP.condS (by simp [engE, *]; rfl) (fun hc => ?_) (fun hc => ?_) <;> (try simp at hc))
        | (refine WP.condE (by simp [engE, *]; rfl) (fun hc => ?_) (fun hc => ?_) <;> (try simp at hc))
        | (refine WP.skip ?_; (try dsimp only))
        | (refine WP.blockS ?_; intro K hK)
        | (refine WP.blockK ?_; intro K hK)
        | (refine WP.exitS ?_; simp only [ite_true, ite_false, reduceIte])
        | (refine WP.exit ?_; simp only [ite_true, ite_false, reduceIte])
        | (refine WP.retS ?_; (try dsimp only); refine ⟨.inr rfl, ?_⟩)
        | (refine WP.ret ?_; (try dsimp only); refine ⟨.inr rfl, ?_⟩)
        | (refine Keep.use (by assumption) ?_; (try dsimp only)))
      refine ⟨i + 1, by simp; omega, ?_⟩
      simp [engE, *]
      omega
    · have e : i = n := by omega
      subst e
      repeat' (first
        | refine WP.assoc ?_
        | refine WP.skipS ?_
        | (refine WP.textS rfl ?_; intro K hK; simp [engE, factsE, callsE, *]; refine hK _ ?_; clear hK K)
        | (refine WP.textK rfl ?_; intro K hK; simp [engE, factsE, callsE, *]; refine hK _ ?_; clear hK K; (try dsimp only))
        | (refine WP.drawnS rfl ?_; intro K hK; simp [keyE, engE, factsE, callsE, *]; refine ⟨by kernel_rfl, hK _ ?_⟩; clear hK K)
        | (refine WP.drawnK rfl ?_; intro K hK; simp [keyE, engE, factsE, callsE, *]; refine ⟨by kernel_rfl, hK _ ?_⟩; clear hK K; (try dsimp only))
        | (refine WP.textSB ?_; intro K hK; simp [putBack, putBack1, engE, factsE, callsE, *]; refine hK _ ?_; clear hK K)
        | (refine WP.textBK ?_; intro K hK; simp [putBack, putBack1, engE, factsE, callsE, *]; refine hK _ ?_; clear hK K; (try dsimp only))
        | (refine WP.condS (by simp [engE, *]; rfl) (fun hc => ?_) (fun hc => ?_) <;> (try simp at hc))
        | (refine WP.condE (by simp [engE, *]; rfl) (fun hc => ?_) (fun hc => ?_) <;> (try simp at hc))
        | (refine WP.skip ?_; (try dsimp only))
        | (refine WP.blockS ?_; intro K hK)
        | (refine WP.blockK ?_; intro K hK)
        | (refine WP.exitS ?_; simp only [ite_true, ite_false, reduceIte])
        | (refine WP.exit ?_; simp only [ite_true, ite_false, reduceIte])
        | (refine WP.retS ?_; (try dsimp only); refine ⟨.inr rfl, ?_⟩)
        | (refine WP.ret ?_; (try dsimp only); refine ⟨.inr rfl, ?_⟩)
        | (refine Keep.use (by assumption) ?_; (try dsimp only)))
      simp [engE, Try.results21, *]

/-- where the first one stands that is so -/
def idx {α : Type} (p : α → Bool) (l : List α) : Int := match l.findIdx? p with
  | some i => i
  | none => -1
theorem idx_ge {α : Type} (p : α → Bool) (l : List α) : decide (0 ≤ idx p l) = l.any p := by
  unfold idx
  cases h : l.findIdx? p with
  | none => rw [List.findIdx?_eq_none_iff] at h; simp; exact fun x hx => by simpa using h x hx
  | some i =>
    rw [List.findIdx?_eq_some_iff_getElem] at h
    obtain ⟨h1, h2, _⟩ := h
    simp
    exact ⟨l[i], List.getElem_mem h1, h2⟩
theorem idx_here {α : Type} {p : α → Bool} {l : List α} {k : Nat} (hk : k < l.length) (h : ∀ x ∈ l.take k, p x = false) (hp : p l[k] = true) : idx p l = k := by
  have : l.findIdx? p = some k := by
    rw [List.findIdx?_eq_some_iff_getElem]
    refine ⟨hk, hp, fun j hj => ?_⟩
    have := h l[j] (List.mem_take_iff_getElem.2 ⟨j, by omega, rfl⟩)
    simpa using this
  unfold idx; rw [this]
theorem idx_none {α : Type} {p : α → Bool} {l : List α} (h : ∀ x ∈ l, p x = false) : idx p l = -1 := by
  have : l.findIdx? p = none := by rw [List.findIdx?_eq_none_iff]; exact fun x hx => by simp [h x hx]
  unfold idx; rw [this]
theorem take_more {α : Type} {p : α → Prop} {l : List α} {k : Nat} (hk : k < l.length) (h : ∀ x ∈ l.take k, p x) (hp : p l[k]) : ∀ x ∈ l.take (k + 1), p x := by
  rw [List.take_succ_eq_append_getElem hk]
  intro x hx
  rcases List.mem_append.1 hx with hx | hx
  · exact h x hx
  · simp at hx; subst hx; exact hp

/-- what a closure holds looks alike from everywhere -/
def Same (caps : List AV) : Prop := ∀ (σ : St) (k : Nat), viewsK σ (k + 3) caps = some caps
theorem viewAll_K (σ : St) : ∀ vs : List AV, viewAll σ vs = viewsK σ 6 vs
  | [] => rfl
  | v :: vs => by simp only [viewAll, viewsK, viewAll_K σ vs]
theorem Same.all {caps : List AV} (h : Same caps) (σ : St) : viewAll σ caps = some caps := by rw [viewAll_K]; exact h σ 3
theorem same_ib (n : Int) : Same [.ib [I n]] := by intro σ k; rfl
/-- a function value is called in the plain way -/
def Plainly (f : Nat) (ts : List TypeId) : Prop := ∀ (σ : St) (e : Nat) (args : List AV), opCall cf (den cf EX) σ e f args = callP cf.P σ e (den cf EX f) ts (viewAll σ args)

theorem den_IndexFuncII {t : Tag} (ht : t.fixed = true) (l : List (List Int)) (f : Nat) (caps : List AV) (p : List Int → Bool) (h1 : l.length < 2^60) (hf : Plainly f [27]) (hs : Same caps)
    (hp : ∀ r ∈ l, D f (.tr t.up 1 (rowsI r) :: caps) [] = some (Bo (p r), [])) :
    D 227 [.tr t 1 (rowsII l), .fn f caps] [] = some (I (idx p l), []) := by
  have hva := hs.all
  refine den_of rfl Try.func227 rfl (by kernel_rfl) (by simp [Try.ntmps227]) (by simp) ?_
  repeat' (first
    | refine WP.assoc ?_
    | refine WP.skipS ?_
    | (refine WP.textS rfl ?_; intro K hK; simp [engE, factsE, callsE, *]; refine hK _ ?_; clear hK K)
    | (refine WP.textK rfl ?_; intro K hK; simp [engE, factsE, callsE, *]; refine hK _ ?_; clear hK K; (try dsimp only))
    | (refine WP.drawnS rfl ?_; intro K hK; simp [keyE, engE, factsE, callsE, *]; refine ⟨by kernel_rfl, hK _ ?_⟩; clear hK K)
    | (refine WP.drawnK rfl ?_; intro K hK; simp [keyE, engE, factsE, callsE, *]; refine ⟨by kernel_rfl, hK _ ?_⟩; clear hK K; (try dsimp only))
    | (refine WP.textSB ?_; intro K hK; simp [putBack, putBack1, engE, factsE, callsE, *]; refine hK _ ?_; clear hK K)
    | (refine WP.textBK ?_; intro K hK; simp [putBack, putBack1, engE, factsE, callsE, *]; refine hK _ ?_; clear hK K; (try dsimp only))
    | (refine WP.condS (by simp [engE, *]; rfl) (fun hc => ?_) (fun hc => ?_) <;> (try simp at hc))
    | (refine WP.condE (by simp [engE, *]; rfl) (fun hc => ?_) (fun hc => ?_) <;> (try simp at hc))
    | (refine WP.skip ?_; (try dsimp only))
    | (refine WP.blockS ?_; intro K hK)
    | (refine WP.blockK ?_; intro K hK)
    | (refine WP.exitS ?_; simp only [ite_true, ite_false, reduceIte])
    | (refine WP.exit ?_; simp only [ite_true, ite_false, reduceIte])
    | (refine WP.retS ?_; (try dsimp only); refine ⟨.inr rfl, ?_⟩)
    | (refine WP.ret ?_; (try dsimp only); refine ⟨.inr rfl, ?_⟩)
    | (refine Keep.use (by assumption) ?_; (try dsimp only)))
  refine WP.loopI (ι := Nat) (fun i σ => i ≤ l.length ∧ σ.slots 0 = .tr t 1 (rowsII l) ∧ σ.slots 1 = .fn f caps ∧ σ.slots 7 = I l.length ∧ σ.slots 8 = I i ∧ ∀ x ∈ l.take i, p x = false) (fun i => l.length - i) 0 ?_ ?_
  · simp [engE]
  · rintro k σ ⟨i1, i2, i3, i4, i5, i6⟩
    by_cases hk : k < l.length
    · have hw2 := w64s (k := k) (by omega)
      have hd := hp l[k] (List.getElem_mem hk)
      have hff : ∀ (σ : St) (e : Nat) (args : List AV), opCall cf (den cf EX) σ e f args = _ := hf
      by_cases he : p l[k] = true
      · have hx := idx_here hk i6 he
        rw [he] at hd
        clear hp
        repeat' (first
          | refine WP.assoc ?_
          | refine WP.skipS ?_
          | (refine WP.textS rfl ?_; intro K hK; simp [engE, factsE, callsE, *]; refine hK _ ?_; clear hK K)
          | (refine WP.textK rfl ?_; intro K hK; simp [engE, factsE, callsE, *]; refine hK _ ?_; clear hK K; (try dsimp only))
          | (refine WP.drawnS rfl ?_; intro K hK; simp [keyE, engE, factsE, callsE, *]; refine ⟨by kernel_rfl, hK _ ?_⟩; clear hK K)
          | (refine WP.drawnK rfl ?_; intro K hK; simp [keyE, engE, factsE, callsE, *]; refine ⟨by kernel_rfl, hK _ ?_⟩; clear hK K; (try dsimp only))
          | (refine WP.textSB ?_; intro K hK; simp [putBack, putBack1, engE, factsE, callsE, *]; refine hK _ ?_; clear hK K)
          | (refine WP.textBK ?_; intro K hK; simp [putBack, putBack1, engE, factsE, callsE, *]; refine hK _ ?_; clear hK K; (try dsimp only))
          | (refine WP.condS (by simp [engE, *]; rfl) (fun hc => ?_) (fun hc => ?_) <;> (try simp at hc))
          | (refine WP.condE (by simp [engE, *]; rfl) (fun hc => ?_) (fun hc => ?_) <;> (try simp at hc))
          | (refine WP.skip ?_; (try dsimp only))
          | (refine WP.blockS ?_; intro K hK)
          | (refine WP.blockK ?_; intro K hK)
          | (refine WP.exitS ?_; simp only [ite_true, ite_false, reduceIte])
          | (refine WP.exit ?_; simp only [ite_true, ite_false, reduceIte])
          | (refine WP.retS ?_; (try dsimp only); refine ⟨.inr rfl, ?_⟩)
          | (refine WP.ret ?_; (try dsimp only); refine ⟨.inr rfl, ?_⟩)
          | (refine Keep.use (by assumption) ?_; (try dsimp only)))
        simp [engE, Try.results227, hx, *]
      · have he : p l[k] = false := by simpa using he
        have hx := take_more (p := fun x => p x = false) hk i6 he
        rw [he] at hd
        clear hp
        repeat' (first
          | refine WP.assoc ?_
          | refine WP.skipS ?_
          | (refine WP.textS rfl ?_; intro K hK; simp [engE, factsE, callsE, *]; refine hK _ ?_; clear hK K)
          | (refine WP.textK rfl ?_; intro K hK; simp [engE, factsE, callsE, *]; refine hK _ ?_; clear hK K; (try dsimp only))
          | (refine WP.drawnS rfl ?_; intro K hK; simp [keyE, engE, factsE, callsE, *]; refine ⟨by kernel_rfl, hK _ ?_⟩; clear hK K)
          | (refine WP.drawnK rfl ?_; intro K hK; simp [keyE, engE, factsE, callsE, *]; refine ⟨by kernel_rfl, hK _ ?_⟩; clear hK K; (try dsimp only))
          | (refine WP.textSB ?_; intro K hK; simp [putBack, putBack1, engE, factsE, callsE, *]; refine hK _ ?_; clear hK K)
          | (refine WP.textBK ?_; intro K hK; simp [putBack, putBack1, engE, factsE, callsE, *]; refine hK _ ?_; clear hK K; (try dsimp only))
          | (refine WP.condS (by simp [engE, *]; rfl) (fun hc => ?_) (fun hc => ?_) <;> (try simp at hc))
          | (refine WP.condE (by simp [engE, *]; rfl) (fun hc => ?_) (fun hc => ?_) <;> (try simp at hc))
          | (refine WP.skip ?_; (try dsimp only))
          | (refine WP.blockS ?_; intro K hK)
          | (refine WP.blockK ?_; intro K hK)
          | (refine WP.exitS ?_; simp only [ite_true, ite_false, reduceIte])
          | (refine WP.exit ?_; simp only [ite_true, ite_false, reduceIte])
          | (refine WP.retS ?_; (try dsimp only); refine ⟨.inr rfl, ?_⟩)
          | (refine WP.ret ?_; (try dsimp only); refine ⟨.inr rfl, ?_⟩)
          | (refine Keep.use (by assumption) ?_; (try dsimp only)))
        refine ⟨k + 1, by simp; omega, ?_, ?_, ?_, ?_, ?_, hx⟩
        all_goals first | omega | simp [engE, *]
    · have e : k = l.length := by omega
      subst e
      have hx := idx_none (p := p) (l := l) (by simpa using i6)
      repeat' (first
        | refine WP.assoc ?_
        | refine WP.skipS ?_
        | (refine WP.textS rfl ?_; intro K hK; simp [engE, factsE, callsE, *]; refine hK _ ?_; clear hK K)
        | (refine WP.textK rfl ?_; intro K hK; simp [engE, factsE, callsE, *]; refine hK _ ?_; clear hK K; (try dsimp only))
        | (refine WP.drawnS rfl ?_; intro K hK; simp [keyE, engE, factsE, callsE, *]; refine ⟨by kernel_rfl, hK _ ?_⟩; clear hK K)
        | (refine WP.drawnK rfl ?_; intro K hK; simp [keyE, engE, factsE, callsE, *]; refine ⟨by kernel_rfl, hK _ ?_⟩; clear hK K; (try dsimp only))
        | (refine WP.textSB ?_; intro K hK; simp [putBack, putBack1, engE, factsE, callsE, *]; refine hK _ ?_; clear hK K)
        | (refine WP.textBK ?_; intro K hK; simp [putBack, putBack1, engE, factsE, callsE, *]; refine hK _ ?_; clear hK K; (try dsimp only))
        | (refine WP.condS (by simp [engE, *]; rfl) (fun hc => ?_) (fun hc => ?_) <;> (try simp at hc))
        | (refine WP.condE (by simp [engE, *]; rfl) (fun hc => ?_) (fun hc => ?_) <;> (try simp at hc))
        | (refine WP.skip ?_; (try dsimp only))
        | (refine WP.blockS ?_; intro K hK)
        | (refine WP.blockK ?_; intro K hK)
        | (refine WP.exitS ?_; simp only [ite_true, ite_false, reduceIte])
        | (refine WP.exit ?_; simp only [ite_true, ite_false, reduceIte])
        | (refine WP.retS ?_; (try dsimp only); refine ⟨.inr rfl, ?_⟩)
        | (refine WP.ret ?_; (try dsimp only); refine ⟨.inr rfl, ?_⟩)
        | (refine Keep.use (by assumption) ?_; (try dsimp only)))
      simp [engE, Try.results227, hx, *]

theorem den_IndexFuncI {t : Tag} (ht : t.fixed = true) (l : List Int) (f : Nat) (caps : List AV) (p : Int → Bool) (h1 : l.length < 2^60) (hf : Plainly f [3]) (hs : Same caps)
    (hp : ∀ r ∈ l, D f (I r :: caps) [] = some (Bo (p r), [])) :
    D 228 [.tr t 1 (rowsI l), .fn f caps] [] = some (I (idx p l), []) := by
  have hva := hs.all
  refine den_of rfl Try.func228 rfl (by kernel_rfl) (by simp [Try.ntmps228]) (by simp) ?_
  repeat' (first
    | refine WP.assoc ?_
    | refine WP.skipS ?_
    | (refine WP.textS rfl ?_; intro K hK; simp [engE, factsE, callsE, *]; refine hK _ ?_; clear hK K)
    | (refine WP.textK rfl ?_; intro K hK; simp [engE, factsE, callsE, *]; refine hK _ ?_; clear hK K; (try dsimp only))
    | (refine WP.drawnS rfl ?_; intro K hK; simp [keyE, engE, factsE, callsE, *]; refine ⟨by kernel_rfl, hK _ ?_⟩; clear hK K)
    | (refine WP.drawnK rfl ?_; intro K hK; simp [keyE, engE, factsE, callsE, *]; refine ⟨by kernel_rfl, hK _ ?_⟩; clear hK K; (try dsimp only))
    | (refine WP.textSB ?_; intro K hK; simp [putBack, putBack1, engE, factsE, callsE, *]; refine hK _ ?_; clear hK K)
    | (refine WP.textBK ?_; intro K hK; simp [putBack, putBack1, engE, factsE, callsE, *]; refine hK _ ?_; clear hK K; (try dsimp only))
    | (refine WP.condS (by simp [engE, *]; rfl) (fun hc => ?_) (fun hc => ?_) <;> (try simp at hc))
    | (refine WP.condE (by simp [engE, *]; rfl) (fun hc => ?_) (fun hc => ?_) <;> (try simp at hc))
    | (refine WP.skip ?_; (try dsimp only))
    | (refine WP.blockS ?_; intro K hK)
    | (refine WP.blockK ?_; intro K hK)
    | (refine WP.exitS ?_; simp only [ite_true, ite_false, reduceIte])
    | (refine WP.exit ?_; simp only [ite_true, ite_false, reduceIte])
    | (refine WP.retS ?_; (try dsimp only); refine ⟨.inr rfl, ?_⟩)
    | (refine WP.ret ?_; (try dsimp only); refine ⟨.inr rfl, ?_⟩)
    | (refine Keep.use (by assumption) ?_; (try dsimp only)))
  refine WP.loopI (ι := Nat) (fun i σ => i ≤ l.length ∧ σ.slots 0 = .tr t 1 (rowsI l) ∧ σ.slots 1 = .fn f caps ∧ σ.slots 7 = I l.length ∧ σ.slots 8 = I i ∧ ∀ x ∈ l.take i, p x = false) (fun i => l.length - i) 0 ?_ ?_
  · simp [engE]
  · rintro k σ ⟨i1, i2, i3, i4, i5, i6⟩
    by_cases hk : k < l.length
    · have hw2 := w64s (k := k) (by omega)
      have hd := hp l[k] (List.getElem_mem hk)
      have hff : ∀ (σ : St) (e : Nat) (args : List AV), opCall cf (den cf EX) σ e f args = _ := hf
      by_cases he : p l[k] = true
      · have hx := idx_here hk i6 he
        rw [he] at hd
        clear hp
        repeat' (first
          | refine WP.assoc ?_
          | refine WP.skipS ?_
          | (refine WP.textS rfl ?_; intro K hK; simp [engE, factsE, callsE, *]; refine hK _ ?_; clear hK K)
          | (refine WP.textK rfl ?_; intro K hK; simp [engE, factsE, callsE, *]; refine hK _ ?_; clear hK K; (try dsimp only))
          | (refine WP.drawnS rfl ?_; intro K hK; simp [keyE, engE, factsE, callsE, *]; refine ⟨by kernel_rfl, hK _ ?_⟩; clear hK K)
          | (refine WP.drawnK rfl ?_; intro K hK; simp [keyE, engE, factsE, callsE, *]; refine ⟨by kernel_rfl, hK _ ?_⟩; clear hK K; (try dsimp only))
          | (refine WP.textSB ?_; intro K hK; simp [putBack, putBack1, engE, factsE, callsE, *]; refine hK _ ?_; clear hK K)
          | (refine WP.textBK ?_; intro K hK; simp [putBack, putBack1, engE, factsE, callsE, *]; refine hK _ ?_; clear hK K; (try dsimp only))
          | (refine WP.condS (by simp [engE, *]; rfl) (fun hc => ?_) (fun hc => ?_) <;> (try simp at hc))
          | (refine WP.condE (by simp [engE, *]; rfl) (fun hc => ?_) (fun hc => ?_) <;> (try simp at hc))
          | (refine WP.skip ?_; (try dsimp only))
          | (refine WP.blockS ?_; intro K hK)
          | (refine WP.blockK ?_; intro K hK)
          | (refine WP.exitS ?_; simp only [ite_true, ite_false, reduceIte])
          | (refine WP.exit ?_; simp only [ite_true, ite_false, reduceIte])
          | (refine WP.retS ?_; (try dsimp only); refine ⟨.inr rfl, ?_⟩)
          | (refine WP.ret ?_; (try dsimp only); refine ⟨.inr rfl, ?_⟩)
          | (refine Keep.use (by assumption) ?_; (try dsimp only)))
        simp [engE, Try.results228, hx, *]
      · have he : p l[k] = false := by simpa using he
        have hx := take_more (p := fun x => p x = false) hk i6 he
        rw [he] at hd
        clear hp
        repeat' (first
          | refine WP.assoc ?_
          | refine WP.skipS ?_
          | (refine WP.textS rfl ?_; intro K hK; simp [engE, factsE, callsE, *]; refine hK _ ?_; clear hK K)
          | (refine WP.textK rfl ?_; intro K hK; simp [engE, factsE, callsE, *]; refine hK _ ?_; clear hK K; (try dsimp only))
          | (refine WP.drawnS rfl ?_; intro K hK; simp [keyE, engE, factsE, callsE, *]; refine ⟨by kernel_rfl, hK _ ?_⟩; clear hK K)
          | (refine WP.drawnK rfl ?_; intro K hK; simp [keyE, engE, factsE, callsE, *]; refine ⟨by kernel_rfl, hK _ ?_⟩; clear hK K; (try dsimp only))
          | (refine WP.textSB ?_; intro K hK; simp [putBack, putBack1, engE, factsE, callsE, *]; refine hK _ ?_; clear hK K)
          | (refine WP.textBK ?_; intro K hK; simp [putBack, putBack1, engE, factsE, callsE, *]; refine hK _ ?_; clear hK K; (try dsimp only))
          | (refine WP.condS (by simp [engE, *]; rfl) (fun hc => ?_) (fun hc => ?_) <;> (try simp at hc))
          | (refine WP.condE (by simp [engE, *]; rfl) (fun hc => ?_) (fun hc => ?_) <;> (try simp at hc))
          | (refine WP.skip ?_; (try dsimp only))
          | (refine WP.blockS ?_; intro K hK)
          | (refine WP.blockK ?_; intro K hK)
          | (refine WP.exitS ?_; simp only [ite_true, ite_false, reduceIte])
          | (refine WP.exit ?_; simp only [ite_true, ite_false, reduceIte])
          | (refine WP.retS ?_; (try dsimp only); refine ⟨.inr rfl, ?_⟩)
          | (refine WP.ret ?_; (try dsimp only); refine ⟨.inr rfl, ?_⟩)
          | (refine Keep.use (by assumption) ?_; (try dsimp only)))
        refine ⟨k + 1, by simp; omega, ?_, ?_, ?_, ?_, ?_, hx⟩
        all_goals first | omega | simp [engE, *]
    · have e : k = l.length := by omega
      subst e
      have hx := idx_none (p := p) (l := l) (by simpa using i6)
      repeat' (first
        | refine WP.assoc ?_
        | refine WP.skipS ?_
        | (refine WP.textS rfl ?_; intro K hK; simp [engE, factsE, callsE, *]; refine hK _ ?_; clear hK K)
        | (refine WP.textK rfl ?_; intro K hK; simp [engE, factsE, callsE, *]; refine hK _ ?_; clear hK K; (try dsimp only))
        | (refine WP.drawnS rfl ?_; intro K hK; simp [keyE, engE, factsE, callsE, *]; refine ⟨by kernel_rfl, hK _ ?_⟩; clear hK K)
        | (refine WP.drawnK rfl ?_; intro K hK; simp [keyE, engE, factsE, callsE, *]; refine ⟨by kernel_rfl, hK _ ?_⟩; clear hK K; (try dsimp only))
        | (refine WP.textSB ?_; intro K hK; simp [putBack, putBack1, engE, factsE, callsE, *]; refine hK _ ?_; clear hK K)
        | (refine WP.textBK ?_; intro K hK; simp [putBack, putBack1, engE, factsE, callsE, *]; refine hK _ ?_; clear hK K; (try dsimp only))
        | (refine WP.condS (by simp [engE, *]; rfl) (fun hc => ?_) (fun hc => ?_) <;> (try simp at hc))
        | (refine WP.condE (by simp [engE, *]; rfl) (fun hc => ?_) (fun hc => ?_) <;> (try simp at hc))
        | (refine WP.skip ?_; (try dsimp only))
        | (refine WP.blockS ?_; intro K hK)
        | (refine WP.blockK ?_; intro K hK)
        | (refine WP.exitS ?_; simp only [ite_true, ite_false, reduceIte])
        | (refine WP.exit ?_; simp only [ite_true, ite_false, reduceIte])
        | (refine WP.retS ?_; (try dsimp only); refine ⟨.inr rfl, ?_⟩)
        | (refine WP.ret ?_; (try dsimp only); refine ⟨.inr rfl, ?_⟩)
        | (refine Keep.use (by assumption) ?_; (try dsimp only)))
      simp [engE, Try.results228, hx, *]

theorem den_ContainsFuncII {t : Tag} (ht : t.fixed = true) (l : List (List Int)) (f : Nat) (caps : List AV) (p : List Int → Bool) (h1 : l.length < 2^60) (hf : Plainly f [27]) (hs : Same caps)
    (hp : ∀ r ∈ l, D f (.tr t.up.up 1 (rowsI r) :: caps) [] = some (Bo (p r), [])) :
    D 162 [.tr t 1 (rowsII l), .fn f caps] [] = some (Bo (l.any p), []) := by
  have hva : ∀ σ : St, viewsK σ 5 caps = some caps := fun σ => hs σ 2
  have hd := den_IndexFuncII (up_fixed ht) l f caps p h1 hf hs hp
  have hg := idx_ge p l
  clear hp hf hs
  refine den_of rfl Try.func162 rfl (by kernel_rfl) (by simp [Try.ntmps162]) (by simp) ?_
  repeat' (first
    | refine WP.assoc ?_
    | refine WP.skipS ?_
    | (refine WP.textS rfl ?_; intro K hK; simp [engE, factsE, callsE, *]; refine hK _ ?_; clear hK K)
    | (refine WP.textK rfl ?_; intro K hK; simp [engE, factsE, callsE, *]; refine hK _ ?_; clear hK K; (try dsimp only))
    | (refine WP.drawnS rfl ?_; intro K hK; simp [keyE, engE, factsE, callsE, *]; refine ⟨by kernel_rfl, hK _ ?_⟩; clear hK K)
    | (refine WP.drawnK rfl ?_; intro K hK; simp [keyE, engE, factsE, callsE, *]; refine ⟨by kernel_rfl, hK _ ?_⟩; clear hK K; (try dsimp only))
    | (refine WP.textSB ?_; intro K hK; simp [putBack, putBack1, engE, factsE, callsE, *]; refine hK _ ?_; clear hK K)
    | (refine WP.textBK ?_; intro K hK; simp [putBack, putBack1, engE, factsE, callsE, *]; refine hK _ ?_; clear hK K; (try dsimp only))
    | (refine WP.condS (by simp [engE, *]; rfl) (fun hc => ?_) (fun hc => ?_) <;> (try simp at hc))
    | (refine WP.condE (by simp [engE, *]; rfl) (fun hc => ?_) (fun hc => ?_) <;> (try simp at hc))
    | (refine WP.skip ?_; (try dsimp only))
    | (refine WP.blockS ?_; intro K hK)
    | (refine WP.blockK ?_; intro K hK)
    | (refine WP.exitS ?_; simp only [ite_true, ite_false, reduceIte])
    | (refine WP.exit ?_; simp only [ite_true, ite_false, reduceIte])
    | (refine WP.retS ?_; (try dsimp only); refine ⟨.inr rfl, ?_⟩)
    | (refine WP.ret ?_; (try dsimp only); refine ⟨.inr rfl, ?_⟩)
    | (refine Keep.use (by assumption) ?_; (try dsimp only)))
  simp [engE, Try.results162, *]

theorem den_ContainsFuncI {t : Tag} (ht : t.fixed = true) (l : List Int) (f : Nat) (caps : List AV) (p : Int → Bool) (h1 : l.length < 2^60) (hf : Plainly f [3]) (hs : Same caps)
    (hp : ∀ r ∈ l, D f (I r :: caps) [] = some (Bo (p r), [])) :
    D 164 [.tr t 1 (rowsI l), .fn f caps] [] = some (Bo (l.any p), []) := by
  have hva : ∀ σ : St, viewsK σ 5 caps = some caps := fun σ => hs σ 2
  have hd := den_IndexFuncI (up_fixed ht) l f caps p h1 hf hs hp
  have hg := idx_ge p l
  clear hp hf hs
  refine den_of rfl Try.func164 rfl (by kernel_rfl) (by simp [Try.ntmps164]) (by simp) ?_
  repeat' (first
    | refine WP.assoc ?_
    | refine WP.skipS ?_
    | (refine WP.textS rfl ?_; intro K hK; simp [engE, factsE, callsE, *]; refine hK _ ?_; clear hK K)
    | (refine WP.textK rfl ?_; intro K hK; simp [engE, factsE, callsE, *]; refine hK _ ?_; clear hK K; (try dsimp only))
    | (refine WP.drawnS rfl ?_; intro K hK; simp [keyE, engE, factsE, callsE, *]; refine ⟨by kernel_rfl, hK _ ?_⟩; clear hK K)
    | (refine WP.drawnK rfl ?_; intro K hK; simp [keyE, engE, factsE, callsE, *]; refine ⟨by kernel_rfl, hK _ ?_⟩; clear hK K; (try dsimp only))
    | (refine WP.textSB ?_; intro K hK; simp [putBack, putBack1, engE, factsE, callsE, *]; refine hK _ ?_; clear hK K)
    | (refine WP.textBK ?_; intro K hK; simp [putBack, putBack1, engE, factsE, callsE, *]; refine hK _ ?_; clear hK K; (try dsimp only))
    | (refine WP.condS (by simp [engE, *]; rfl) (fun hc => ?_) (fun hc => ?_) <;> (try simp at hc))
    | (refine WP.condE (by simp [engE, *]; rfl) (fun hc => ?_) (fun hc => ?_) <;> (try simp at hc))
    | (refine WP.skip ?_; (try dsimp only))
    | (refine WP.blockS ?_; intro K hK)
    | (refine WP.blockK ?_; intro K hK)
    | (refine WP.exitS ?_; simp only [ite_true, ite_false, reduceIte])
    | (refine WP.exit ?_; simp only [ite_true, ite_false, reduceIte])
    | (refine WP.retS ?_; (try dsimp only); refine ⟨.inr rfl, ?_⟩)
    | (refine WP.ret ?_; (try dsimp only); refine ⟨.inr rfl, ?_⟩)
    | (refine Keep.use (by assumption) ?_; (try dsimp only)))
  simp [engE, Try.results164, *]

/-! #### automata that are right -/
def cellOK (n : Nat) (x : Int) : Bool := decide (-1 ≤ x) && decide (x ≤ n - 1)
def rowOK (n : Nat) (r : List Int) : Bool := decide (r.length = 8) && r.all (cellOK n)
def machOK (m : Mach) : Bool := (decide (1 ≤ m.1.length) && decide (m.1.length ≤ 512)) && (decide (m.2.length = m.1.length) && m.1.all (rowOK m.1.length))

theorem den_MachineOK11 (n : Nat) (h : n < 2^60) (x : Int) : D 165 [I x, .ib [I n]] [] = some (Bo (!cellOK n x), []) := by
  have hw : IntKind.i64.wrap ((n : Int) - 1) = (n : Int) - 1 := w64 (by omega) (by omega)
  have hd := den_within x (-1) ((n : Int) - 1)
  refine den_of rfl Try.func165 rfl (by kernel_rfl) (by simp [Try.ntmps165]) (by simp) ?_
  repeat' (first
    | refine WP.assoc ?_
    | refine WP.skipS ?_
    | (refine WP.textS rfl ?_; intro K hK; simp [engE, factsE, callsE, *]; refine hK _ ?_; clear hK K)
    | (refine WP.textK rfl ?_; intro K hK; simp [engE, factsE, callsE, *]; refine hK _ ?_; clear hK K; (try dsimp only))
    | (refine WP.drawnS rfl ?_; intro K hK; simp [keyE, engE, factsE, callsE, *]; refine ⟨by kernel_rfl, hK _ ?_⟩; clear hK K)
    | (refine WP.drawnK rfl ?_; intro K hK; simp [keyE, engE, factsE, callsE, *]; refine ⟨by kernel_rfl, hK _ ?_⟩; clear hK K; (try dsimp only))
    | (refine WP.textSB ?_; intro K hK; simp [putBack, putBack1, engE, factsE, callsE, *]; refine hK _ ?_; clear hK K)
    | (refine WP.textBK ?_; intro K hK; simp [putBack, putBack1, engE, factsE, callsE, *]; refine hK _ ?_; clear hK K; (try dsimp only))
    | (refine WP.condS (by simp [engE, *]; rfl) (fun hc => ?_) (fun hc => ?_) <;> (try simp at hc))
    | (refine WP.condE (by simp [engE, *]; rfl) (fun hc => ?_) (fun hc => ?_) <;> (try simp at hc))
    | (refine WP.skip ?_; (try dsimp only))
    | (refine WP.blockS ?_; intro K hK)
    | (refine WP.blockK ?_; intro K hK)
    | (refine WP.exitS ?_; simp only [ite_true, ite_false, reduceIte])
    | (refine WP.exit ?_; simp only [ite_true, ite_false, reduceIte])
    | (refine WP.retS ?_; (try dsimp only); refine ⟨.inr rfl, ?_⟩)
    | (refine WP.ret ?_; (try dsimp only); refine ⟨.inr rfl, ?_⟩)
    | (refine Keep.use (by assumption) ?_; (try dsimp only)))
  simp [engE, Try.results165, cellOK, *]

theorem den_MachineOK1 {t : Tag} (ht : t.fixed = true) (n : Nat) (h : n < 2^60) (r : List Int) (hr : r.length < 2^60) : D 163 [.tr t 1 (rowsI r), .ib [I n]] [] = some (Bo (!rowOK n r), []) := by
  have hd := den_ContainsFuncI (up_fixed ht) r 165 [.ib [I n]] (fun x => !cellOK n x) hr (fun σ e args => call165) (same_ib n) (fun x _ => den_MachineOK11 n h x)
  have ha : (r.any fun x => !cellOK n x) = !r.all (cellOK n) := by simp [List.not_all_eq_any_not]
  by_cases h8 : r.length = 8
  · have h8' : (r.length : Int) = 8 := by omega
    refine den_of rfl Try.func163 rfl (by kernel_rfl) (by simp [Try.ntmps163]) (by simp) ?_
    repeat' (first
      | refine WP.assoc ?_
      | refine WP.skipS ?_
      | (refine WP.textS rfl ?_; intro K hK; simp [engE, factsE, callsE, *]; refine hK _ ?_; clear hK K)
      | (refine WP.textK rfl ?_; intro K hK; simp [engE, factsE, callsE, *]; refine hK _ ?_; clear hK K; (try dsimp only))
      | (refine WP.drawnS rfl ?_; intro K hK; simp [keyE, engE, factsE, callsE, *]; refine ⟨by kernel_rfl, hK _ ?_⟩; clear hK K)
      | (refine WP.drawnK rfl ?_; intro K hK; simp [keyE, engE, factsE, callsE, *]; refine ⟨by kernel_rfl, hK _ ?_⟩; clear hK K; (try dsimp only))
      | (refine WP.textSB ?_; intro K hK; simp [putBack, putBack1, engE, factsE, callsE, *]; refine hK _ ?_; clear hK K)
      | (refine WP.textBK ?_; intro K hK; simp [putBack, putBack1, engE, factsE, callsE, *]; refine hK _ ?_; clear hK K; (try dsimp only))
      | (refine WP.condS (by simp [engE, *]; rfl) (fun hc => ?_) (fun hc => ?_) <;> (try simp at hc))
      | (refine WP.condE (by simp [engE, *]; rfl) (fun hc => ?_) (fun hc => ?_) <;> (try simp at hc))
      | (refine WP.skip ?_; (try dsimp only))
      | (refine WP.blockS ?_; intro K hK)
      | (refine WP.blockK ?_; intro K hK)
      | (refine WP.exitS ?_; simp only [ite_true, ite_false, reduceIte])
      | (refine WP.exit ?_; simp only [ite_true, ite_false, reduceIte])
      | (refine WP.retS ?_; (try dsimp only); refine ⟨.inr rfl, ?_⟩)
      | (refine WP.ret ?_; (try dsimp only); refine ⟨.inr rfl, ?_⟩)
      | (refine Keep.use (by assumption) ?_; (try dsimp only)))
    simp [engE, Try.results163, rowOK, *]
  · have h8' : ¬ (r.length : Int) = 8 := by omega
    refine den_of rfl Try.func163 rfl (by kernel_rfl) (by simp [Try.ntmps163]) (by simp) ?_
    repeat' (first
      | refine WP.assoc ?_
      | refine WP.skipS ?_
      | (refine WP.textS rfl ?_; intro K hK; simp [engE, factsE, callsE, *]; refine hK _ ?_; clear hK K)
      | (refine WP.textK rfl ?_; intro K hK; simp [engE, factsE, callsE, *]; refine hK _ ?_; clear hK K; (try dsimp only))
      | (refine WP.drawnS rfl ?_; intro K hK; simp [keyE, engE, factsE, callsE, *]; refine ⟨by kernel_rfl, hK _ ?_⟩; clear hK K)
      | (refine WP.drawnK rfl ?_; intro K hK; simp [keyE, engE, factsE, callsE, *]; refine ⟨by kernel_rfl, hK _ ?_⟩; clear hK K; (try dsimp only))
      | (refine WP.textSB ?_; intro K hK; simp [putBack, putBack1, engE, factsE, callsE, *]; refine hK _ ?_; clear hK K)
      | (refine WP.textBK ?_; intro K hK; simp [putBack, putBack1, engE, factsE, callsE, *]; refine hK _ ?_; clear hK K; (try dsimp only))
      | (refine WP.condS (by simp [engE, *]; rfl) (fun hc => ?_) (fun hc => ?_) <;> (try simp at hc))
      | (refine WP.condE (by simp [engE, *]; rfl) (fun hc => ?_) (fun hc => ?_) <;> (try simp at hc))
      | (refine WP.skip ?_; (try dsimp only))
      | (refine WP.blockS ?_; intro K hK)
      | (refine WP.blockK ?_; intro K hK)
      | (refine WP.exitS ?_; simp only [ite_true, ite_false, reduceIte])
      | (refine WP.exit ?_; simp only [ite_true, ite_false, reduceIte])
      | (refine WP.retS ?_; (try dsimp only); refine ⟨.inr rfl, ?_⟩)
      | (refine WP.ret ?_; (try dsimp only); refine ⟨.inr rfl, ?_⟩)
      | (refine Keep.use (by assumption) ?_; (try dsimp only)))
    simp [engE, Try.results163, rowOK, *]

end Go.AM

