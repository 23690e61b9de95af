/- Whether lists are alike (eq). -/
import Derived.Test.YtoffdmkgioaohaaFnB
namespace Go.AM
open Go.Proofs
set_option maxRecDepth 4000
set_option maxHeartbeats 2000000
set_option linter.unusedSimpArgs false
set_option linter.unusedVariables false

/-- alike up to a place -/
theorem same_step {α : Type} [DecidableEq α] {a b : List α} {k : Nat} (ha : k < a.length) (hb : k < b.length) (he : a[k] = b[k]) : decide (a.drop k = b.drop k) = decide (a.drop (k + 1) = b.drop (k + 1)) := by
  rw [List.drop_eq_getElem_cons ha, List.drop_eq_getElem_cons hb, he]
  simp only [List.cons.injEq, true_and]
theorem same_not {α : Type} [DecidableEq α] {a b : List α} {k : Nat} (ha : k < a.length) (hb : k < b.length) (he : a[k] ≠ b[k]) : decide (a.drop k = b.drop k) = false := by
  rw [List.drop_eq_getElem_cons ha, List.drop_eq_getElem_cons hb]
  simp only [List.cons.injEq, he, false_and, decide_false]
theorem len_not {α : Type} [DecidableEq α] {a b : List α} (h : a.length ≠ b.length) : decide (a = b) = false := by
  simp; rintro rfl; exact h rfl

theorem den_eqIntS {t u : Tag} (ht : t.fixed = true) (hu : u.fixed = true) (a b : List Int) (h1 : a.length < 2^60) :
    D 17 [.tr t 1 (rowsI a), .tr u 1 (rowsI b)] [] = some (Bo (decide (a = b)), []) := by
  by_cases hl : a.length = b.length
  · refine den_of rfl Try.func17 rfl (by kernel_rfl) (by simp [Try.ntmps17]) (by simp) ?_
    repeat' (first
      | refine WP.assoc ?_
      | refine WP.skipS ?_
      | (refine WP.textS rfl ?_; intro K hK; simp [engE, factsE, callsE, *]; refine hK _ ?_; clear hK K)
      | (refine WP.textK rfl ?_; intro K hK; simp [engE, factsE, callsE, *]; refine hK _ ?_; clear hK K; (try dsimp only))
      | (refine WP.drawnS rfl ?_; intro K hK; simp [keyE, engE, factsE, callsE, *]; refine ⟨by kernel_rfl, hK _ ?_⟩; clear hK K)
      | (refine WP.drawnK rfl ?_; intro K hK; simp [keyE, engE, factsE, callsE, *]; refine ⟨by kernel_rfl, hK _ ?_⟩; clear hK K; (try dsimp only))
      | (refine WP.textSB ?_; intro K hK; simp [putBack, putBack1, engE, factsE, callsE, *]; refine hK _ ?_; clear hK K)
      | (refine WP.textBK ?_; intro K hK; simp [putBack, putBack1, engE, factsE, callsE, *]; refine hK _ ?_; clear hK K; (try dsimp only))
      | (refine WP.condS (by simp [engE, *]; rfl) (fun hc => ?_) (fun hc => ?_) <;> (try simp at hc))
      | (refine WP.condE (by simp [engE, *]; rfl) (fun hc => ?_) (fun hc => ?_) <;> (try simp at hc))
      | (refine WP.skip ?_; (try dsimp only))
      | (refine WP.blockS ?_; intro K hK)
      | (refine WP.blockK ?_; intro K hK)
      | (refine WP.exitS ?_; simp only [ite_true, ite_false, reduceIte])
      | (refine WP.exit ?_; simp only [ite_true, ite_false, reduceIte])
      | (refine WP.retS ?_; (try dsimp only); refine ⟨.inr rfl, ?_⟩)
      | (refine WP.ret ?_; (try dsimp only); refine ⟨.inr rfl, ?_⟩)
      | (refine Keep.use (by assumption) ?_; (try dsimp only)))
    refine WP.loopI (ι := Nat) (fun i σ => i ≤ a.length ∧ σ.slots 0 = .tr t 1 (rowsI a) ∧ σ.slots 1 = .tr u 1 (rowsI b) ∧ σ.slots 5 = I i ∧ decide (a = b) = decide (a.drop i = b.drop i)) (fun i => a.length - i) 0 ?_ ?_
    · simp [engE]
    · rintro k σ ⟨i1, i2, i3, i4, i5⟩
      by_cases hk : k < a.length
      · have hk' : k < b.length := by omega
        have hw2 := w64s (k := k) (by omega)
        by_cases he : a[k] = b[k]
        · rw [same_step hk hk' he] at i5
          repeat' (first
            | refine WP.assoc ?_
            | refine WP.skipS ?_
            | (refine WP.textS rfl ?_; intro K hK; simp [engE, factsE, callsE, *]; refine hK _ ?_; clear hK K)
            | (refine WP.textK rfl ?_; intro K hK; simp [engE, factsE, callsE, *]; refine hK _ ?_; clear hK K; (try dsimp only))
            | (refine WP.drawnS rfl ?_; intro K hK; simp [keyE, engE, factsE, callsE, *]; refine ⟨by kernel_rfl, hK _ ?_⟩; clear hK K)
            | (refine WP.drawnK rfl ?_; intro K hK; simp [keyE, engE, factsE, callsE, *]; refine ⟨by kernel_rfl, hK _ ?_⟩; clear hK K; (try dsimp only))
            | (refine WP.textSB ?_; intro K hK; simp [putBack, putBack1, engE, factsE, callsE, *]; refine hK _ ?_; clear hK K)
            | (refine WP.textBK ?_; intro K hK; simp [putBack, putBack1, engE, factsE, callsE, *]; refine hK _ ?_; clear hK K; (try dsimp only))
            | (refine WP.condS (by simp [engE, *]; rfl) (fun hc => ?_) (fun hc => ?_) <;> (try simp at hc))
            | (refine WP.condE (by simp [engE, *]; rfl) (fun hc => ?_) (fun hc => ?_) <;> (try simp at hc))
            | (refine WP.skip ?_; (try dsimp only))
            | (refine WP.blockS ?_; intro K hK)
            | (refine WP.blockK ?_; intro K hK)
            | (refine WP.exitS ?_; simp only [ite_true, ite_false, reduceIte])
            | (refine WP.exit ?_; simp only [ite_true, ite_false, reduceIte])
            | (refine WP.retS ?_; (try dsimp only); refine ⟨.inr rfl, ?_⟩)
            | (refine WP.ret ?_; (try dsimp only); refine ⟨.inr rfl, ?_⟩)
            | (refine Keep.use (by assumption) ?_; (try dsimp only)))
          refine ⟨k + 1, by simp; omega, ?_⟩
          simp [engE, *]
          omega
        · rw [same_not hk hk' he] at i5
          repeat' (first
            | refine WP.assoc ?_
            | refine WP.skipS ?_
            | (refine WP.textS rfl ?_; intro K hK; simp [engE, factsE, callsE, *]; refine hK _ ?_; clear hK K)
            | (refine WP.textK rfl ?_; intro K hK; simp [engE, factsE, callsE, *]; refine hK _ ?_; clear hK K; (try dsimp only))
            | (refine WP.drawnS rfl ?_; intro K hK; simp [keyE, engE, factsE, callsE, *]; refine ⟨by kernel_rfl, hK _ ?_⟩; clear hK K)
            | (refine WP.drawnK rfl ?_; intro K hK; simp [keyE, engE, factsE, callsE, *]; refine ⟨by kernel_rfl, hK _ ?_⟩; clear hK K; (try dsimp only))
            | (refine WP.textSB ?_; intro K hK; simp [putBack, putBack1, engE, factsE, callsE, *]; refine hK _ ?_; clear hK K)
            | (refine WP.textBK ?_; intro K hK; simp [putBack, putBack1, engE, factsE, callsE, *]; refine hK _ ?_; clear hK K; (try dsimp only))
            | (refine WP.condS (by simp [engE, *]; rfl) (fun hc => ?_) (fun hc => ?_) <;> (try simp at hc))
            | (refine WP.condE (by simp [engE, *]; rfl) (fun hc => ?_) (fun hc => ?_) <;> (try simp at hc))
            | (refine WP.skip ?_; (try dsimp only))
            | (refine WP.blockS ?_; intro K hK)
            | (refine WP.blockK ?_; intro K hK)
            | (refine WP.exitS ?_; simp only [ite_true, ite_false, reduceIte])
            | (refine WP.exit ?_; simp only [ite_true, ite_false, reduceIte])
            | (refine WP.retS ?_; (try dsimp only); refine ⟨.inr rfl, ?_⟩)
            | (refine WP.ret ?_; (try dsimp only); refine ⟨.inr rfl, ?_⟩)
            | (refine Keep.use (by assumption) ?_; (try dsimp only)))
          simp [engE, Try.results17, *]
      · have hd1 : a.drop k = [] := List.drop_eq_nil_of_le (by omega)
        have hd2 : b.drop k = [] := List.drop_eq_nil_of_le (by omega)
        have hk' : ¬ k < b.length := by omega
        repeat' (first
          | refine WP.assoc ?_
          | refine WP.skipS ?_
          | (refine WP.textS rfl ?_; intro K hK; simp [engE, factsE, callsE, *]; refine hK _ ?_; clear hK K)
          | (refine WP.textK rfl ?_; intro K hK; simp [engE, factsE, callsE, *]; refine hK _ ?_; clear hK K; (try dsimp only))
          | (refine WP.drawnS rfl ?_; intro K hK; simp [keyE, engE, factsE, callsE, *]; refine ⟨by kernel_rfl, hK _ ?_⟩; clear hK K)
          | (refine WP.drawnK rfl ?_; intro K hK; simp [keyE, engE, factsE, callsE, *]; refine ⟨by kernel_rfl, hK _ ?_⟩; clear hK K; (try dsimp only))
          | (refine WP.textSB ?_; intro K hK; simp [putBack, putBack1, engE, factsE, callsE, *]; refine hK _ ?_; clear hK K)
          | (refine WP.textBK ?_; intro K hK; simp [putBack, putBack1, engE, factsE, callsE, *]; refine hK _ ?_; clear hK K; (try dsimp only))
          | (refine WP.condS (by simp [engE, *]; rfl) (fun hc => ?_) (fun hc => ?_) <;> (try simp at hc))
          | (refine WP.condE (by simp [engE, *]; rfl) (fun hc => ?_) (fun hc => ?_) <;> (try simp at hc))
          | (refine WP.skip ?_; (try dsimp only))
          | (refine WP.blockS ?_; intro K hK)
          | (refine WP.blockK ?_; intro K hK)
          | (refine WP.exitS ?_; simp only [ite_true, ite_false, reduceIte])
          | (refine WP.exit ?_; simp only [ite_true, ite_false, reduceIte])
          | (refine WP.retS ?_; (try dsimp only); refine ⟨.inr rfl, ?_⟩)
          | (refine WP.ret ?_; (try dsimp only); refine ⟨.inr rfl, ?_⟩)
          | (refine Keep.use (by assumption) ?_; (try dsimp only)))
        simp [engE, Try.results17, *]
  · have hn := len_not hl
    have hl' : ¬ (a.length : Int) = b.length := by omega
    refine den_of rfl Try.func17 rfl (by kernel_rfl) (by simp [Try.ntmps17]) (by simp) ?_
    repeat' (first
      | refine WP.assoc ?_
      | refine WP.skipS ?_
      | (refine WP.textS rfl ?_; intro K hK; simp [engE, factsE, callsE, *]; refine hK _ ?_; clear hK K)
      | (refine WP.textK rfl ?_; intro K hK; simp [engE, factsE, callsE, *]; refine hK _ ?_; clear hK K; (try dsimp only))
      | (refine WP.drawnS rfl ?_; intro K hK; simp [keyE, engE, factsE, callsE, *]; refine ⟨by kernel_rfl, hK _ ?_⟩; clear hK K)
      | (refine WP.drawnK rfl ?_; intro K hK; simp [keyE, engE, factsE, callsE, *]; refine ⟨by kernel_rfl, hK _ ?_⟩; clear hK K; (try dsimp only))
      | (refine WP.textSB ?_; intro K hK; simp [putBack, putBack1, engE, factsE, callsE, *]; refine hK _ ?_; clear hK K)
      | (refine WP.textBK ?_; intro K hK; simp [putBack, putBack1, engE, factsE, callsE, *]; refine hK _ ?_; clear hK K; (try dsimp only))
      | (refine WP.condS (by simp [engE, *]; rfl) (fun hc => ?_) (fun hc => ?_) <;> (try simp at hc))
      | (refine WP.condE (by simp [engE, *]; rfl) (fun hc => ?_) (fun hc => ?_) <;> (try simp at hc))
      | (refine WP.skip ?_; (try dsimp only))
      | (refine WP.blockS ?_; intro K hK)
      | (refine WP.blockK ?_; intro K hK)
      | (refine WP.exitS ?_; simp only [ite_true, ite_false, reduceIte])
      | (refine WP.exit ?_; simp only [ite_true, ite_false, reduceIte])
      | (refine WP.retS ?_; (try dsimp only); refine ⟨.inr rfl, ?_⟩)
      | (refine WP.ret ?_; (try dsimp only); refine ⟨.inr rfl, ?_⟩)
      | (refine Keep.use (by assumption) ?_; (try dsimp only)))
    simp [engE, Try.results17, *]

theorem den_eqBoolS {t u : Tag} (ht : t.fixed = true) (hu : u.fixed = true) (a b : List Bool) (h1 : a.length < 2^60) :
    D 86 [.tr t 1 (rowsB a), .tr u 1 (rowsB b)] [] = some (Bo (decide (a = b)), []) := by
  by_cases hl : a.length = b.length
  · refine den_of rfl Try.func86 rfl (by kernel_rfl) (by simp [Try.ntmps86]) (by simp) ?_
    repeat' (first
      | refine WP.assoc ?_
      | refine WP.skipS ?_
      | (refine WP.textS rfl ?_; intro K hK; simp [engE, factsE, callsE, *]; refine hK _ ?_; clear hK K)
      | (refine WP.textK rfl ?_; intro K hK; simp [engE, factsE, callsE, *]; refine hK _ ?_; clear hK K; (try dsimp only))
      | (refine WP.drawnS rfl ?_; intro K hK; simp [keyE, engE, factsE, callsE, *]; refine ⟨by kernel_rfl, hK _ ?_⟩; clear hK K)
      | (refine WP.drawnK rfl ?_; intro K hK; simp [keyE, engE, factsE, callsE, *]; refine ⟨by kernel_rfl, hK _ ?_⟩; clear hK K; (try dsimp only))
      | (refine WP.textSB ?_; intro K hK; simp [putBack, putBack1, engE, factsE, callsE, *]; refine hK _ ?_; clear hK K)
      | (refine WP.textBK ?_; intro K hK; simp [putBack, putBack1, engE, factsE, callsE, *]; refine hK _ ?_; clear hK K; (try dsimp only))
      | (refine WP.condS (by simp [engE, *]; rfl) (fun hc => ?_) (fun hc => ?_) <;> (try simp at hc))
      | (refine WP.condE (by simp [engE, *]; rfl) (fun hc => ?_) (fun hc => ?_) <;> (try simp at hc))
      | (refine WP.skip ?_; (try dsimp only))
      | (refine WP.blockS ?_; intro K hK)
      | (refine WP.blockK ?_; intro K hK)
      | (refine WP.exitS ?_; simp only [ite_true, ite_false, reduceIte])
      | (refine WP.exit ?_; simp only [ite_true, ite_false, reduceIte])
      | (refine WP.retS ?_; (try dsimp only); refine ⟨.inr rfl, ?_⟩)
      | (refine WP.ret ?_; (try dsimp only); refine ⟨.inr rfl, ?_⟩)
      | (refine Keep.use (by assumption) ?_; (try dsimp only)))
    refine WP.loopI (ι := Nat) (fun i σ => i ≤ a.length ∧ σ.slots 0 = .tr t 1 (rowsB a) ∧ σ.slots 1 = .tr u 1 (rowsB b) ∧ σ.slots 5 = I i ∧ decide (a = b) = decide (a.drop i = b.drop i)) (fun i => a.length - i) 0 ?_ ?_
    · simp [engE]
    · rintro k σ ⟨i1, i2, i3, i4, i5⟩
      by_cases hk : k < a.length
      · have hk' : k < b.length := by omega
        have hw2 := w64s (k := k) (by omega)
        by_cases he : a[k] = b[k]
        · rw [same_step hk hk' he] at i5
          repeat' (first
            | refine WP.assoc ?_
            | refine WP.skipS ?_
            | (refine WP.textS rfl ?_; intro K hK; simp [engE, factsE, callsE, *]; refine hK _ ?_; clear hK K)
            | (refine WP.textK rfl ?_; intro K hK; simp [engE, factsE, callsE, *]; refine hK _ ?_; clear hK K; (try dsimp only))
            | (refine WP.drawnS rfl ?_; intro K hK; simp [keyE, engE, factsE, callsE, *]; refine ⟨by kernel_rfl, hK _ ?_⟩; clear hK K)
            | (refine WP.drawnK rfl ?_; intro K hK; simp [keyE, engE, factsE, callsE, *]; refine ⟨by kernel_rfl, hK _ ?_⟩; clear hK K; (try dsimp only))
            | (refine WP.textSB ?_; intro K hK; simp [putBack, putBack1, engE, factsE, callsE, *]; refine hK _ ?_; clear hK K)
            | (refine WP.textBK ?_; intro K hK; simp [putBack, putBack1, engE, factsE, callsE, *]; refine hK _ ?_; clear hK K; (try dsimp only))
            | (refine WP.condS (by simp [engE, *]; rfl) (fun hc => ?_) (fun hc => ?_) <;> (try simp at hc))
            | (refine WP.condE (by simp [engE, *]; rfl) (fun hc => ?_) (fun hc => ?_) <;> (try simp at hc))
            | (refine WP.skip ?_; (try dsimp only))
            | (refine WP.blockS ?_; intro K hK)
            | (refine WP.blockK ?_; intro K hK)
            | (refine WP.exitS ?_; simp only [ite_true, ite_false, reduceIte])
            | (refine WP.exit ?_; simp only [ite_true, ite_false, reduceIte])
            | (refine WP.retS ?_; (try dsimp only); refine ⟨.inr rfl, ?_⟩)
            | (refine WP.ret ?_; (try dsimp only); refine ⟨.inr rfl, ?_⟩)
            | (refine Keep.use (by assumption) ?_; (try dsimp only)))
          refine ⟨k + 1, by simp; omega, ?_⟩
          simp [engE, *]
          omega
        · rw [same_not hk hk' he] at i5
          repeat' (first
            | refine WP.assoc ?_
            | refine WP.skipS ?_
            | (refine WP.textS rfl ?_; intro K hK; simp [engE, factsE, callsE, *]; refine hK _ ?_; clear hK K)
            | (refine WP.textK rfl ?_; intro K hK; simp [engE, factsE, callsE, *]; refine hK _ ?_; clear hK K; (try dsimp only))
            | (refine WP.drawnS rfl ?_; intro K hK; simp [keyE, engE, factsE, callsE, *]; refine ⟨by kernel_rfl, hK _ ?_⟩; clear hK K)
            | (refine WP.drawnK rfl ?_; intro K hK; simp [keyE, engE, factsE, callsE, *]; refine ⟨by kernel_rfl, hK _ ?_⟩; clear hK K; (try dsimp only))
            | (refine WP.textSB ?_; intro K hK; simp [putBack, putBack1, engE, factsE, callsE, *]; refine hK _ ?_; clear hK K)
            | (refine WP.textBK ?_; intro K hK; simp [putBack, putBack1, engE, factsE, callsE, *]; refine hK _ ?_; clear hK K; (try dsimp only))
            | (refine WP.condS (by simp [engE, *]; rfl) (fun hc => ?_) (fun hc => ?_) <;> (try simp at hc))
            | (refine WP.condE (by simp [engE, *]; rfl) (fun hc => ?_) (fun hc => ?_) <;> (try simp at hc))
            | (refine WP.skip ?_; (try dsimp only))
            | (refine WP.blockS ?_; intro K hK)
            | (refine WP.blockK ?_; intro K hK)
            | (refine WP.exitS ?_; simp only [ite_true, ite_false, reduceIte])
            | (refine WP.exit ?_; simp only [ite_true, ite_false, reduceIte])
            | (refine WP.retS ?_; (try dsimp only); refine ⟨.inr rfl, ?_⟩)
            | (refine WP.ret ?_; (try dsimp only); refine ⟨.inr rfl, ?_⟩)
            | (refine Keep.use (by assumption) ?_; (try dsimp only)))
          simp [engE, Try.results86, *]
      · have hd1 : a.drop k = [] := List.drop_eq_nil_of_le (by omega)
        have hd2 : b.drop k = [] := List.drop_eq_nil_of_le (by omega)
        have hk' : ¬ k < b.length := by omega
        repeat' (first
          | refine WP.assoc ?_
          | refine WP.skipS ?_
          | (refine WP.textS rfl ?_; intro K hK; simp [engE, factsE, callsE, *]; refine hK _ ?_; clear hK K)
          | (refine WP.textK rfl ?_; intro K hK; simp [engE, factsE, callsE, *]; refine hK _ ?_; clear hK K; (try dsimp only))
          | (refine WP.drawnS rfl ?_; intro K hK; simp [keyE, engE, factsE, callsE, *]; refine ⟨by kernel_rfl, hK _ ?_⟩; clear hK K)
          | (refine WP.drawnK rfl ?_; intro K hK; simp [keyE, engE, factsE, callsE, *]; refine ⟨by kernel_rfl, hK _ ?_⟩; clear hK K; (try dsimp only))
          | (refine WP.textSB ?_; intro K hK; simp [putBack, putBack1, engE, factsE, callsE, *]; refine hK _ ?_; clear hK K)
          | (refine WP.textBK ?_; intro K hK; simp [putBack, putBack1, engE, factsE, callsE, *]; refine hK _ ?_; clear hK K; (try dsimp only))
          | (refine WP.condS (by simp [engE, *]; rfl) (fun hc => ?_) (fun hc => ?_) <;> (try simp at hc))
          | (refine WP.condE (by simp [engE, *]; rfl) (fun hc => ?_) (fun hc => ?_) <;> (try simp at hc))
          | (refine WP.skip ?_; (try dsimp only))
          | (refine WP.blockS ?_; intro K hK)
          | (refine WP.blockK ?_; intro K hK)
          | (refine WP.exitS ?_; simp only [ite_true, ite_false, reduceIte])
          | (refine WP.exit ?_; simp only [ite_true, ite_false, reduceIte])
          | (refine WP.retS ?_; (try dsimp only); refine ⟨.inr rfl, ?_⟩)
          | (refine WP.ret ?_; (try dsimp only); refine ⟨.inr rfl, ?_⟩)
          | (refine Keep.use (by assumption) ?_; (try dsimp only)))
        simp [engE, Try.results86, *]
  · have hn := len_not hl
    have hl' : ¬ (a.length : Int) = b.length := by omega
    refine den_of rfl Try.func86 rfl (by kernel_rfl) (by simp [Try.ntmps86]) (by simp) ?_
    repeat' (first
      | refine WP.assoc ?_
      | refine WP.skipS ?_
      | (refine WP.textS rfl ?_; intro K hK; simp [engE, factsE, callsE, *]; refine hK _ ?_; clear hK K)
      | (refine WP.textK rfl ?_; intro K hK; simp [engE, factsE, callsE, *]; refine hK _ ?_; clear hK K; (try dsimp only))
      | (refine WP.drawnS rfl ?_; intro K hK; simp [keyE, engE, factsE, callsE, *]; refine ⟨by kernel_rfl, hK _ ?_⟩; clear hK K)
      | (refine WP.drawnK rfl ?_; intro K hK; simp [keyE, engE, factsE, callsE, *]; refine ⟨by kernel_rfl, hK _ ?_⟩; clear hK K; (try dsimp only))
      | (refine WP.textSB ?_; intro K hK; simp [putBack, putBack1, engE, factsE, callsE, *]; refine hK _ ?_; clear hK K)
      | (refine WP.textBK ?_; intro K hK; simp [putBack, putBack1, engE, factsE, callsE, *]; refine hK _ ?_; clear hK K; (try dsimp only))
      | (refine WP.condS (by simp [engE, *]; rfl) (fun hc => ?_) (fun hc => ?_) <;> (try simp at hc))
      | (refine WP.condE (by simp [engE, *]; rfl) (fun hc => ?_) (fun hc => ?_) <;> (try simp at hc))
      | (refine WP.skip ?_; (try dsimp only))
      | (refine WP.blockS ?_; intro K hK)
      | (refine WP.blockK ?_; intro K hK)
      | (refine WP.exitS ?_; simp only [ite_true, ite_false, reduceIte])
      | (refine WP.exit ?_; simp only [ite_true, ite_false, reduceIte])
      | (refine WP.retS ?_; (try dsimp only); refine ⟨.inr rfl, ?_⟩)
      | (refine WP.ret ?_; (try dsimp only); refine ⟨.inr rfl, ?_⟩)
      | (refine Keep.use (by assumption) ?_; (try dsimp only)))
    simp [engE, Try.results86, *]

theorem den_eqIntSS {t u : Tag} (ht : t.fixed = true) (hu : u.fixed = true) (a b : List (List Int)) (h1 : a.length < 2^60) (h2 : ∀ r ∈ a, r.length < 2^60) :
    D 85 [.tr t 1 (rowsII a), .tr u 1 (rowsII b)] [] = some (Bo (decide (a = b)), []) := by
  by_cases hl : a.length = b.length
  · refine den_of rfl Try.func85 rfl (by kernel_rfl) (by simp [Try.ntmps85]) (by simp) ?_
    repeat' (first
      | refine WP.assoc ?_
      | refine WP.skipS ?_
      | (refine WP.textS rfl ?_; intro K hK; simp [engE, factsE, callsE, *]; refine hK _ ?_; clear hK K)
      | (refine WP.textK rfl ?_; intro K hK; simp [engE, factsE, callsE, *]; refine hK _ ?_; clear hK K; (try dsimp only))
      | (refine WP.drawnS rfl ?_; intro K hK; simp [keyE, engE, factsE, callsE, *]; refine ⟨by kernel_rfl, hK _ ?_⟩; clear hK K)
      | (refine WP.drawnK rfl ?_; intro K hK; simp [keyE, engE, factsE, callsE, *]; refine ⟨by kernel_rfl, hK _ ?_⟩; clear hK K; (try dsimp only))
      | (refine WP.textSB ?_; intro K hK; simp [putBack, putBack1, engE, factsE, callsE, *]; refine hK _ ?_; clear hK K)
      | (refine WP.textBK ?_; intro K hK; simp [putBack, putBack1, engE, factsE, callsE, *]; refine hK _ ?_; clear hK K; (try dsimp only))
      | (refine WP.condS (by simp [engE, *]; rfl) (fun hc => ?_) (fun hc => ?_) <;> (try simp at hc))
      | (refine WP.condE (by simp [engE, *]; rfl) (fun hc => ?_) (fun hc => ?_) <;> (try simp at hc))
      | (refine WP.skip ?_; (try dsimp only))
      | (refine WP.blockS ?_; intro K hK)
      | (refine WP.blockK ?_; intro K hK)
      | (refine WP.exitS ?_; simp only [ite_true, ite_false, reduceIte])
      | (refine WP.exit ?_; simp only [ite_true, ite_false, reduceIte])
      | (refine WP.retS ?_; (try dsimp only); refine ⟨.inr rfl, ?_⟩)
      | (refine WP.ret ?_; (try dsimp only); refine ⟨.inr rfl, ?_⟩)
      | (refine Keep.use (by assumption) ?_; (try dsimp only)))
    refine WP.loopI (ι := Nat) (fun i σ => i ≤ a.length ∧ σ.slots 0 = .tr t 1 (rowsII a) ∧ σ.slots 1 = .tr u 1 (rowsII b) ∧ σ.slots 5 = I i ∧ decide (a = b) = decide (a.drop i = b.drop i)) (fun i => a.length - i) 0 ?_ ?_
    · simp [engE]
    · rintro k σ ⟨i1, i2, i3, i4, i5⟩
      by_cases hk : k < a.length
      · have hk' : k < b.length := by omega
        have hw2 := w64s (k := k) (by omega)
        have hd := den_eqIntS (up_fixed ht) (up_fixed hu) a[k] b[k] (h2 _ (List.getElem_mem hk))
        by_cases he : a[k] = b[k]
        · rw [same_step hk hk' he] at i5
          simp only [he, decide_true] at hd
          repeat' (first
            | refine WP.assoc ?_
            | refine WP.skipS ?_
            | (refine WP.textS rfl ?_; intro K hK; simp [engE, factsE, callsE, *]; refine hK _ ?_; clear hK K)
            | (refine WP.textK rfl ?_; intro K hK; simp [engE, factsE, callsE, *]; refine hK _ ?_; clear hK K; (try dsimp only))
            | (refine WP.drawnS rfl ?_; intro K hK; simp [keyE, engE, factsE, callsE, *]; refine ⟨by kernel_rfl, hK _ ?_⟩; clear hK K)
            | (refine WP.drawnK rfl ?_; intro K hK; simp [keyE, engE, factsE, callsE, *]; refine ⟨by kernel_rfl, hK _ ?_⟩; clear hK K; (try dsimp only))
            | (refine WP.textSB ?_; intro K hK; simp [putBack, putBack1, engE, factsE, callsE, *]; refine hK _ ?_; clear hK K)
            | (refine WP.textBK ?_; intro K hK; simp [putBack, putBack1, engE, factsE, callsE, *]; refine hK _ ?_; clear hK K; (try dsimp only))
            | (refine WP.condS (by simp [engE, *]; rfl) (fun hc => ?_) (fun hc => ?_) <;> (try simp at hc))
            | (refine WP.condE (by simp [engE, *]; rfl) (fun hc => ?_) (fun hc => ?_) <;> (try simp at hc))
            | (refine WP.skip ?_; (try dsimp only))
            | (refine WP.blockS ?_; intro K hK)
            | (refine WP.blockK ?_; intro K hK)
            | (refine WP.exitS ?_; simp only [ite_true, ite_false, reduceIte])
            | (refine WP.exit ?_; simp only [ite_true, ite_false, reduceIte])
            | (refine WP.retS ?_; (try dsimp only); refine ⟨.inr rfl, ?_⟩)
            | (refine WP.ret ?_; (try dsimp only); refine ⟨.inr rfl, ?_⟩)
            | (refine Keep.use (by assumption) ?_; (try dsimp only)))
          refine ⟨k + 1, by simp; omega, ?_⟩
          simp [engE, *]
          omega
        · rw [same_not hk hk' he] at i5
          simp only [he, decide_false] at hd
          repeat' (first
            | refine WP.assoc ?_
            | refine WP.skipS ?_
            | (refine WP.textS rfl ?_; intro K hK; simp [engE, factsE, callsE, *]; refine hK _ ?_; clear hK K)
            | (refine WP.textK rfl ?_; intro K hK; simp [engE, factsE, callsE, *]; refine hK _ ?_; clear hK K; (try dsimp only))
            | (refine WP.drawnS rfl ?_; intro K hK; simp [keyE, engE, factsE, callsE, *]; refine ⟨by kernel_rfl, hK _ ?_⟩; clear hK K)
            | (refine WP.drawnK rfl ?_; intro K hK; simp [keyE, engE, factsE, callsE, *]; refine ⟨by kernel_rfl, hK _ ?_⟩; clear hK K; (try dsimp only))
            | (refine WP.textSB ?_; intro K hK; simp [putBack, putBack1, engE, factsE, callsE, *]; refine hK _ ?_; clear hK K)
            | (refine WP.textBK ?_; intro K hK; simp [putBack, putBack1, engE, factsE, callsE, *]; refine hK _ ?_; clear hK K; (try dsimp only))
            | (refine WP.condS (by simp [engE, *]; rfl) (fun hc => ?_) (fun hc => ?_) <;> (try simp at hc))
            | (refine WP.condE (by simp [engE, *]; rfl) (fun hc => ?_) (fun hc => ?_) <;> (try simp at hc))
            | (refine WP.skip ?_; (try dsimp only))
            | (refine WP.blockS ?_; intro K hK)
            | (refine WP.blockK ?_; intro K hK)
            | (refine WP.exitS ?_; simp only [ite_true, ite_false, reduceIte])
            | (refine WP.exit ?_; simp only [ite_true, ite_false, reduceIte])
            | (refine WP.retS ?_; (try dsimp only); refine ⟨.inr rfl, ?_⟩)
            | (refine WP.ret ?_; (try dsimp only); refine ⟨.inr rfl, ?_⟩)
            | (refine Keep.use (by assumption) ?_; (try dsimp only)))
          simp [engE, Try.results85, *]
      · have hd1 : a.drop k = [] := List.drop_eq_nil_of_le (by omega)
        have hd2 : b.drop k = [] := List.drop_eq_nil_of_le (by omega)
        have hk' : ¬ k < b.length := by omega
        repeat' (first
          | refine WP.assoc ?_
          | refine WP.skipS ?_
          | (refine WP.textS rfl ?_; intro K hK; simp [engE, factsE, callsE, *]; refine hK _ ?_; clear hK K)
          | (refine WP.textK rfl ?_; intro K hK; simp [engE, factsE, callsE, *]; refine hK _ ?_; clear hK K; (try dsimp only))
          | (refine WP.drawnS rfl ?_; intro K hK; simp [keyE, engE, factsE, callsE, *]; refine ⟨by kernel_rfl, hK _ ?_⟩; clear hK K)
          | (refine WP.drawnK rfl ?_; intro K hK; simp [keyE, engE, factsE, callsE, *]; refine ⟨by kernel_rfl, hK _ ?_⟩; clear hK K; (try dsimp only))
          | (refine WP.textSB ?_; intro K hK; simp [putBack, putBack1, engE, factsE, callsE, *]; refine hK _ ?_; clear hK K)
          | (refine WP.textBK ?_; intro K hK; simp [putBack, putBack1, engE, factsE, callsE, *]; refine hK _ ?_; clear hK K; (try dsimp only))
          | (refine WP.condS (by simp [engE, *]; rfl) (fun hc => ?_) (fun hc => ?_) <;> (try simp at hc))
          | (refine WP.condE (by simp [engE, *]; rfl) (fun hc => ?_) (fun hc => ?_) <;> (try simp at hc))
          | (refine WP.skip ?_; (try dsimp only))
          | (refine WP.blockS ?_; intro K hK)
          | (refine WP.blockK ?_; intro K hK)
          | (refine WP.exitS ?_; simp only [ite_true, ite_false, reduceIte])
          | (refine WP.exit ?_; simp only [ite_true, ite_false, reduceIte])
          | (refine WP.retS ?_; (try dsimp only); refine ⟨.inr rfl, ?_⟩)
          | (refine WP.ret ?_; (try dsimp only); refine ⟨.inr rfl, ?_⟩)
          | (refine Keep.use (by assumption) ?_; (try dsimp only)))
        simp [engE, Try.results85, *]
  · have hn := len_not hl
    have hl' : ¬ (a.length : Int) = b.length := by omega
    refine den_of rfl Try.func85 rfl (by kernel_rfl) (by simp [Try.ntmps85]) (by simp) ?_
    repeat' (first
      | refine WP.assoc ?_
      | refine WP.skipS ?_
      | (refine WP.textS rfl ?_; intro K hK; simp [engE, factsE, callsE, *]; refine hK _ ?_; clear hK K)
      | (refine WP.textK rfl ?_; intro K hK; simp [engE, factsE, callsE, *]; refine hK _ ?_; clear hK K; (try dsimp only))
      | (refine WP.drawnS rfl ?_; intro K hK; simp [keyE, engE, factsE, callsE, *]; refine ⟨by kernel_rfl, hK _ ?_⟩; clear hK K)
      | (refine WP.drawnK rfl ?_; intro K hK; simp [keyE, engE, factsE, callsE, *]; refine ⟨by kernel_rfl, hK _ ?_⟩; clear hK K; (try dsimp only))
      | (refine WP.textSB ?_; intro K hK; simp [putBack, putBack1, engE, factsE, callsE, *]; refine hK _ ?_; clear hK K)
      | (refine WP.textBK ?_; intro K hK; simp [putBack, putBack1, engE, factsE, callsE, *]; refine hK _ ?_; clear hK K; (try dsimp only))
      | (refine WP.condS (by simp [engE, *]; rfl) (fun hc => ?_) (fun hc => ?_) <;> (try simp at hc))
      | (refine WP.condE (by simp [engE, *]; rfl) (fun hc => ?_) (fun hc => ?_) <;> (try simp at hc))
      | (refine WP.skip ?_; (try dsimp only))
      | (refine WP.blockS ?_; intro K hK)
      | (refine WP.blockK ?_; intro K hK)
      | (refine WP.exitS ?_; simp only [ite_true, ite_false, reduceIte])
      | (refine WP.exit ?_; simp only [ite_true, ite_false, reduceIte])
      | (refine WP.retS ?_; (try dsimp only); refine ⟨.inr rfl, ?_⟩)
      | (refine WP.ret ?_; (try dsimp only); refine ⟨.inr rfl, ?_⟩)
      | (refine Keep.use (by assumption) ?_; (try dsimp only)))
    simp [engE, Try.results85, *]

theorem den_eqMachine {t u : Tag} (ht : t.fixed = true) (hu : u.fixed = true) (a b : Mach) (ha : a.ok) :
    D 18 [a.av t, b.av u] [] = some (Bo (decide (a.1 = b.1) && decide (a.2 = b.2)), []) := by
  obtain ⟨h1, h2, h3⟩ := ha
  have hd1 := den_eqIntSS (up_fixed ht) (up_fixed hu) a.1 b.1 h1 h2
  have hd2 := den_eqBoolS (up_fixed ht) (up_fixed hu) a.2 b.2 h3
  unfold Mach.av
  by_cases he : a.1 = b.1 <;> by_cases hf : a.2 = b.2
  all_goals
    simp only [he, hf, decide_true, decide_false] at hd1 hd2
    refine den_of rfl Try.func18 rfl (by kernel_rfl) (by simp [Try.ntmps18]) (by simp) ?_
    repeat' (first
      | refine WP.assoc ?_
      | refine WP.skipS ?_
      | (refine WP.textS rfl ?_; intro K hK; simp [engE, factsE, callsE, *]; refine hK _ ?_; clear hK K)
      | (refine WP.textK rfl ?_; intro K hK; simp [engE, factsE, callsE, *]; refine hK _ ?_; clear hK K; (try dsimp only))
      | (refine WP.drawnS rfl ?_; intro K hK; simp [keyE, engE, factsE, callsE, *]; refine ⟨by kernel_rfl, hK _ ?_⟩; clear hK K)
      | (refine WP.drawnK rfl ?_; intro K hK; simp [keyE, engE, factsE, callsE, *]; refine ⟨by kernel_rfl, hK _ ?_⟩; clear hK K; (try dsimp only))
      | (refine WP.textSB ?_; intro K hK; simp [putBack, putBack1, engE, factsE, callsE, *]; refine hK _ ?_; clear hK K)
      | (refine WP.textBK ?_; intro K hK; simp [putBack, putBack1, engE, factsE, callsE, *]; refine hK _ ?_; clear hK K; (try dsimp only))
      | (refine WP.condS (by simp [engE, *]; rfl) (fun hc => ?_) (fun hc => ?_) <;> (try simp at hc))
      | (refine WP.condE (by simp [engE, *]; rfl) (fun hc => ?_) (fun hc => ?_) <;> (try simp at hc))
      | (refine WP.skip ?_; (try dsimp only))
      | (refine WP.blockS ?_; intro K hK)
      | (refine WP.blockK ?_; intro K hK)
      | (refine WP.exitS ?_; simp only [ite_true, ite_false, reduceIte])
      | (refine WP.exit ?_; simp only [ite_true, ite_false, reduceIte])
      | (refine WP.retS ?_; (try dsimp only); refine ⟨.inr rfl, ?_⟩)
      | (refine WP.ret ?_; (try dsimp only); refine ⟨.inr rfl, ?_⟩)
      | (refine Keep.use (by assumption) ?_; (try dsimp only)))
    all_goals simp [engE, Try.results18, *]

end Go.AM

