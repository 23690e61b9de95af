/- Marks (mark, held). -/
import Derived.Test.YtoffdmkgioaohaaFnC
namespace Go.AM
open Go.Proofs
set_option maxRecDepth 4000
set_option maxHeartbeats 2000000
set_option linter.unusedSimpArgs false
set_option linter.unusedVariables false

def marksI (n : Nat) (k : Int) : List Int := (List.range n).map fun (i : Nat) => k + (i : Int)
@[simp] theorem marksI_length (n : Nat) (k : Int) : (marksI n k).length = n := by simp [marksI]
theorem marksI_succ (n : Nat) (k : Int) : marksI (n + 1) k = marksI n k ++ [k + n] := by simp [marksI, List.range_succ]
@[simp] theorem marksI_at (n : Nat) (k : Int) (i : Nat) (h : i < (marksI n k).length) : (marksI n k)[i] = k + i := by simp [marksI]
def marksB (n : Nat) (k : Int) : List Bool := (List.range n).map fun (i : Nat) => decide ((k + (i : Int)).tmod 3 = 0)
@[simp] theorem marksB_length (n : Nat) (k : Int) : (marksB n k).length = n := by simp [marksB]
theorem marksB_succ (n : Nat) (k : Int) : marksB (n + 1) k = marksB n k ++ [decide ((k + (n : Int)).tmod 3 = 0)] := by simp [marksB, List.range_succ]

/-- written up to a place -/
def over {α : Type} (a b : List α) : List α := a ++ b.drop a.length
theorem over_set {α : Type} (a b : List α) (x : α) (h : a.length < b.length) : (over a b).set a.length x = over (a ++ [x]) b := by
  unfold over
  rw [List.set_append_right _ _ (Nat.le_refl _), Nat.sub_self, List.drop_eq_getElem_cons h]
  simp only [List.set_cons_zero, List.length_append, List.length_singleton, List.append_assoc, List.singleton_append]
theorem over_all {α : Type} (a b : List α) (h : b.length ≤ a.length) : over a b = a := by simp [over, List.drop_eq_nil_of_le h]
@[simp] theorem over_nil {α : Type} (b : List α) : over [] b = b := rfl
theorem over_length {α : Type} (a b : List α) (h : a.length ≤ b.length) : (over a b).length = b.length := by simp [over]; omega

theorem den_markIntS (l : List Int) (k : Int) (h1 : l.length ≤ 1048576) (h2 : 0 ≤ k) (h3 : k < 2^60) :
    D 20 [.sl 0 0 1 0 l.length, I k] [.slice 1 (rowsI l)] = some (I (k + l.length), [(0, some (.slice 1 (rowsI (marksI l.length k))))]) := by
  refine den_of rfl Try.func20 rfl (by kernel_rfl) (by simp [Try.ntmps20]) (by simp) ?_
  repeat' (first
    | refine WP.assoc ?_
    | refine WP.skipS ?_
    | (refine WP.textS rfl ?_; intro K hK; simp [engE, factsE, callsE, *]; refine hK _ ?_; clear hK K)
    | (refine WP.textK rfl ?_; intro K hK; simp [engE, factsE, callsE, *]; refine hK _ ?_; clear hK K; (try dsimp only))
    | (refine WP.drawnS rfl ?_; intro K hK; simp [keyE, engE, factsE, callsE, *]; refine ⟨by kernel_rfl, hK _ ?_⟩; clear hK K)
    | (refine WP.drawnK rfl ?_; intro K hK; simp [keyE, engE, factsE, callsE, *]; refine ⟨by kernel_rfl, hK _ ?_⟩; clear hK K; (try dsimp only))
    | (refine WP.textSB ?_; intro K hK; simp [putBack, putBack1, engE, factsE, callsE, *]; refine hK _ ?_; clear hK K)
    | (refine WP.textBK ?_; intro K hK; simp [putBack, putBack1, engE, factsE, callsE, *]; refine hK _ ?_; clear hK K; (try dsimp only))
    | (refine WP.condS (by simp [engE, *]; rfl) (fun hc => ?_) (fun hc => ?_) <;> (try simp at hc))
    | (refine WP.condE (by simp [engE, *]; rfl) (fun hc => ?_) (fun hc => ?_) <;> (try simp at hc))
    | (refine WP.skip ?_; (try dsimp only))
    | (refine WP.blockS ?_; intro K hK)
    | (refine WP.blockK ?_; intro K hK)
    | (refine WP.exitS ?_; simp only [ite_true, ite_false, reduceIte])
    | (refine WP.exit ?_; simp only [ite_true, ite_false, reduceIte])
    | (refine WP.retS ?_; (try dsimp only); refine ⟨.inr rfl, ?_⟩)
    | (refine WP.ret ?_; (try dsimp only); refine ⟨.inr rfl, ?_⟩)
    | (refine Keep.use (by assumption) ?_; (try dsimp only)))
  refine WP.loopI (ι := Nat) (fun i σ => i ≤ l.length ∧ σ.slots 0 = .sl 0 0 1 0 l.length ∧ σ.slots 1 = I (k + i) ∧ σ.slots 5 = I i ∧ σ.gens 0 = 0 ∧ σ.objs 0 = some (.slice 1 (rowsI (over (marksI i k) l)))) (fun i => l.length - i) 0 ?_ ?_
  · simp [engE, marksI]
  · rintro i σ ⟨i1, i2, i3, i4, i5, i6⟩
    by_cases hk : i < l.length
    · have hw2 := w64s (k := i) (by omega)
      have hw3 : IntKind.i64.wrap (k + i + 1) = k + i + 1 := w64 (by omega) (by omega)
      have hs := over_set (marksI i k) l (k + i) (by simpa using hk)
      have hl := over_length (marksI i k) l (by simpa using i1)
      rw [marksI_length, ← marksI_succ] at hs
      repeat' (first
        | refine WP.assoc ?_
        | refine WP.skipS ?_
        | (refine WP.textS rfl ?_; intro K hK; simp [engE, factsE, callsE, *]; refine hK _ ?_; clear hK K)
        | (refine WP.textK rfl ?_; intro K hK; simp [engE, factsE, callsE, *]; refine hK _ ?_; clear hK K; (try dsimp only))
        | (refine WP.drawnS rfl ?_; intro K hK; simp [keyE, engE, factsE, callsE, *]; refine ⟨by kernel_rfl, hK _ ?_⟩; clear hK K)
        | (refine WP.drawnK rfl ?_; intro K hK; simp [keyE, engE, factsE, callsE, *]; refine ⟨by kernel_rfl, hK _ ?_⟩; clear hK K; (try dsimp only))
        | (refine WP.textSB ?_; intro K hK; simp [putBack, putBack1, engE, factsE, callsE, *]; refine hK _ ?_; clear hK K)
        | (refine WP.textBK ?_; intro K hK; simp [putBack, putBack1, engE, factsE, callsE, *]; refine hK _ ?_; clear hK K; (try dsimp only))
        | (refine WP.condS (by simp [engE, *]; rfl) (fun hc => ?_) (fun hc => ?_) <;> (try simp at hc))
        | (refine WP.condE (by simp [engE, *]; rfl) (fun hc => ?_) (fun hc => ?_) <;> (try simp at hc))
        | (refine WP.skip ?_; (try dsimp only))
        | (refine WP.blockS ?_; intro K hK)
        | (refine WP.blockK ?_; intro K hK)
        | (refine WP.exitS ?_; simp only [ite_true, ite_false, reduceIte])
        | (refine WP.exit ?_; simp only [ite_true, ite_false, reduceIte])
        | (refine WP.retS ?_; (try dsimp only); refine ⟨.inr rfl, ?_⟩)
        | (refine WP.ret ?_; (try dsimp only); refine ⟨.inr rfl, ?_⟩)
        | (refine Keep.use (by assumption) ?_; (try dsimp only)))
      refine ⟨i + 1, by simp; omega, ?_⟩
      simp [engE, *]
      omega
    · have e : i = l.length := by omega
      subst e
      have ho := over_all (marksI l.length k) l (by simp)
      repeat' (first
        | refine WP.assoc ?_
        | refine WP.skipS ?_
        | (refine WP.textS rfl ?_; intro K hK; simp [engE, factsE, callsE, *]; refine hK _ ?_; clear hK K)
        | (refine WP.textK rfl ?_; intro K hK; simp [engE, factsE, callsE, *]; refine hK _ ?_; clear hK K; (try dsimp only))
        | (refine WP.drawnS rfl ?_; intro K hK; simp [keyE, engE, factsE, callsE, *]; refine ⟨by kernel_rfl, hK _ ?_⟩; clear hK K)
        | (refine WP.drawnK rfl ?_; intro K hK; simp [keyE, engE, factsE, callsE, *]; refine ⟨by kernel_rfl, hK _ ?_⟩; clear hK K; (try dsimp only))
        | (refine WP.textSB ?_; intro K hK; simp [putBack, putBack1, engE, factsE, callsE, *]; refine hK _ ?_; clear hK K)
        | (refine WP.textBK ?_; intro K hK; simp [putBack, putBack1, engE, factsE, callsE, *]; refine hK _ ?_; clear hK K; (try dsimp only))
        | (refine WP.condS (by simp [engE, *]; rfl) (fun hc => ?_) (fun hc => ?_) <;> (try simp at hc))
        | (refine WP.condE (by simp [engE, *]; rfl) (fun hc => ?_) (fun hc => ?_) <;> (try simp at hc))
        | (refine WP.skip ?_; (try dsimp only))
        | (refine WP.blockS ?_; intro K hK)
        | (refine WP.blockK ?_; intro K hK)
        | (refine WP.exitS ?_; simp only [ite_true, ite_false, reduceIte])
        | (refine WP.exit ?_; simp only [ite_true, ite_false, reduceIte])
        | (refine WP.retS ?_; (try dsimp only); refine ⟨.inr rfl, ?_⟩)
        | (refine WP.ret ?_; (try dsimp only); refine ⟨.inr rfl, ?_⟩)
        | (refine Keep.use (by assumption) ?_; (try dsimp only)))
      simp [engE, Try.results20, *]

theorem den_markIntS_nil (k : Int) :
    D 20 [nilS, I k] [] = some (I k, []) := by
  refine den_of rfl Try.func20 rfl (by kernel_rfl) (by simp [Try.ntmps20]) (by simp) ?_
  repeat' (first
    | refine WP.assoc ?_
    | refine WP.skipS ?_
    | (refine WP.textS rfl ?_; intro K hK; simp [engE, factsE, callsE, *]; refine hK _ ?_; clear hK K)
    | (refine WP.textK rfl ?_; intro K hK; simp [engE, factsE, callsE, *]; refine hK _ ?_; clear hK K; (try dsimp only))
    | (refine WP.drawnS rfl ?_; intro K hK; simp [keyE, engE, factsE, callsE, *]; refine ⟨by kernel_rfl, hK _ ?_⟩; clear hK K)
    | (refine WP.drawnK rfl ?_; intro K hK; simp [keyE, engE, factsE, callsE, *]; refine ⟨by kernel_rfl, hK _ ?_⟩; clear hK K; (try dsimp only))
    | (refine WP.textSB ?_; intro K hK; simp [putBack, putBack1, engE, factsE, callsE, *]; refine hK _ ?_; clear hK K)
    | (refine WP.textBK ?_; intro K hK; simp [putBack, putBack1, engE, factsE, callsE, *]; refine hK _ ?_; clear hK K; (try dsimp only))
    | (refine WP.condS (by simp [engE, *]; rfl) (fun hc => ?_) (fun hc => ?_) <;> (try simp at hc))
    | (refine WP.condE (by simp [engE, *]; rfl) (fun hc => ?_) (fun hc => ?_) <;> (try simp at hc))
    | (refine WP.skip ?_; (try dsimp only))
    | (refine WP.blockS ?_; intro K hK)
    | (refine WP.blockK ?_; intro K hK)
    | (refine WP.exitS ?_; simp only [ite_true, ite_false, reduceIte])
    | (refine WP.exit ?_; simp only [ite_true, ite_false, reduceIte])
    | (refine WP.retS ?_; (try dsimp only); refine ⟨.inr rfl, ?_⟩)
    | (refine WP.ret ?_; (try dsimp only); refine ⟨.inr rfl, ?_⟩)
    | (refine Keep.use (by assumption) ?_; (try dsimp only)))
  refine WP.round ?_
  repeat' (first
    | refine WP.assoc ?_
    | refine WP.skipS ?_
    | (refine WP.textS rfl ?_; intro K hK; simp [engE, factsE, callsE, *]; refine hK _ ?_; clear hK K)
    | (refine WP.textK rfl ?_; intro K hK; simp [engE, factsE, callsE, *]; refine hK _ ?_; clear hK K; (try dsimp only))
    | (refine WP.drawnS rfl ?_; intro K hK; simp [keyE, engE, factsE, callsE, *]; refine ⟨by kernel_rfl, hK _ ?_⟩; clear hK K)
    | (refine WP.drawnK rfl ?_; intro K hK; simp [keyE, engE, factsE, callsE, *]; refine ⟨by kernel_rfl, hK _ ?_⟩; clear hK K; (try dsimp only))
    | (refine WP.textSB ?_; intro K hK; simp [putBack, putBack1, engE, factsE, callsE, *]; refine hK _ ?_; clear hK K)
    | (refine WP.textBK ?_; intro K hK; simp [putBack, putBack1, engE, factsE, callsE, *]; refine hK _ ?_; clear hK K; (try dsimp only))
    | (refine WP.condS (by simp [engE, *]; rfl) (fun hc => ?_) (fun hc => ?_) <;> (try simp at hc))
    | (refine WP.condE (by simp [engE, *]; rfl) (fun hc => ?_) (fun hc => ?_) <;> (try simp at hc))
    | (refine WP.skip ?_; (try dsimp only))
    | (refine WP.blockS ?_; intro K hK)
    | (refine WP.blockK ?_; intro K hK)
    | (refine WP.exitS ?_; simp only [ite_true, ite_false, reduceIte])
    | (refine WP.exit ?_; simp only [ite_true, ite_false, reduceIte])
    | (refine WP.retS ?_; (try dsimp only); refine ⟨.inr rfl, ?_⟩)
    | (refine WP.ret ?_; (try dsimp only); refine ⟨.inr rfl, ?_⟩)
    | (refine Keep.use (by assumption) ?_; (try dsimp only)))
  simp [engE, Try.results20, *]

theorem den_markBoolS (l : List Bool) (k : Int) (h1 : l.length ≤ 1048576) (h2 : 0 ≤ k) (h3 : k < 2^60) :
    D 88 [.sl 0 0 1 0 l.length, I k] [.slice 1 (rowsB l)] = some (I (k + l.length), [(0, some (.slice 1 (rowsB (marksB l.length k))))]) := by
  refine den_of rfl Try.func88 rfl (by kernel_rfl) (by simp [Try.ntmps88]) (by simp) ?_
  repeat' (first
    | refine WP.assoc ?_
    | refine WP.skipS ?_
    | (refine WP.textS rfl ?_; intro K hK; simp [engE, factsE, callsE, *]; refine hK _ ?_; clear hK K)
    | (refine WP.textK rfl ?_; intro K hK; simp [engE, factsE, callsE, *]; refine hK _ ?_; clear hK K; (try dsimp only))
    | (refine WP.drawnS rfl ?_; intro K hK; simp [keyE, engE, factsE, callsE, *]; refine ⟨by kernel_rfl, hK _ ?_⟩; clear hK K)
    | (refine WP.drawnK rfl ?_; intro K hK; simp [keyE, engE, factsE, callsE, *]; refine ⟨by kernel_rfl, hK _ ?_⟩; clear hK K; (try dsimp only))
    | (refine WP.textSB ?_; intro K hK; simp [putBack, putBack1, engE, factsE, callsE, *]; refine hK _ ?_; clear hK K)
    | (refine WP.textBK ?_; intro K hK; simp [putBack, putBack1, engE, factsE, callsE, *]; refine hK _ ?_; clear hK K; (try dsimp only))
    | (refine WP.condS (by simp [engE, *]; rfl) (fun hc => ?_) (fun hc => ?_) <;> (try simp at hc))
    | (refine WP.condE (by simp [engE, *]; rfl) (fun hc => ?_) (fun hc => ?_) <;> (try simp at hc))
    | (refine WP.skip ?_; (try dsimp only))
    | (refine WP.blockS ?_; intro K hK)
    | (refine WP.blockK ?_; intro K hK)
    | (refine WP.exitS ?_; simp only [ite_true, ite_false, reduceIte])
    | (refine WP.exit ?_; simp only [ite_true, ite_false, reduceIte])
    | (refine WP.retS ?_; (try dsimp only); refine ⟨.inr rfl, ?_⟩)
    | (refine WP.ret ?_; (try dsimp only); refine ⟨.inr rfl, ?_⟩)
    | (refine Keep.use (by assumption) ?_; (try dsimp only)))
  refine WP.loopI (ι := Nat) (fun i σ => i ≤ l.length ∧ σ.slots 0 = .sl 0 0 1 0 l.length ∧ σ.slots 1 = I (k + i) ∧ σ.slots 5 = I i ∧ σ.gens 0 = 0 ∧ σ.objs 0 = some (.slice 1 (rowsB (over (marksB i k) l)))) (fun i => l.length - i) 0 ?_ ?_
  · simp [engE, marksB]
  · rintro i σ ⟨i1, i2, i3, i4, i5, i6⟩
    by_cases hk : i < l.length
    · have hw2 := w64s (k := i) (by omega)
      have hw3 : IntKind.i64.wrap (k + i + 1) = k + i + 1 := w64 (by omega) (by omega)
      have hs := over_set (marksB i k) l (decide ((k + (i : Int)).tmod 3 = 0)) (by simpa using hk)
      have hl := over_length (marksB i k) l (by simpa using i1)
      rw [marksB_length, ← marksB_succ] at hs
      repeat' (first
        | refine WP.assoc ?_
        | refine WP.skipS ?_
        | (refine WP.textS rfl ?_; intro K hK; simp [engE, factsE, callsE, *]; refine hK _ ?_; clear hK K)
        | (refine WP.textK rfl ?_; intro K hK; simp [engE, factsE, callsE, *]; refine hK _ ?_; clear hK K; (try dsimp only))
        | (refine WP.drawnS rfl ?_; intro K hK; simp [keyE, engE, factsE, callsE, *]; refine ⟨by kernel_rfl, hK _ ?_⟩; clear hK K)
        | (refine WP.drawnK rfl ?_; intro K hK; simp [keyE, engE, factsE, callsE, *]; refine ⟨by kernel_rfl, hK _ ?_⟩; clear hK K; (try dsimp only))
        | (refine WP.textSB ?_; intro K hK; simp [putBack, putBack1, engE, factsE, callsE, *]; refine hK _ ?_; clear hK K)
        | (refine WP.textBK ?_; intro K hK; simp [putBack, putBack1, engE, factsE, callsE, *]; refine hK _ ?_; clear hK K; (try dsimp only))
        | (refine WP.condS (by simp [engE, *]; rfl) (fun hc => ?_) (fun hc => ?_) <;> (try simp at hc))
        | (refine WP.condE (by simp [engE, *]; rfl) (fun hc => ?_) (fun hc => ?_) <;> (try simp at hc))
        | (refine WP.skip ?_; (try dsimp only))
        | (refine WP.blockS ?_; intro K hK)
        | (refine WP.blockK ?_; intro K hK)
        | (refine WP.exitS ?_; simp only [ite_true, ite_false, reduceIte])
        | (refine WP.exit ?_; simp only [ite_true, ite_false, reduceIte])
        | (refine WP.retS ?_; (try dsimp only); refine ⟨.inr rfl, ?_⟩)
        | (refine WP.ret ?_; (try dsimp only); refine ⟨.inr rfl, ?_⟩)
        | (refine Keep.use (by assumption) ?_; (try dsimp only)))
      refine ⟨i + 1, by simp; omega, ?_⟩
      simp [engE, *]
      omega
    · have e : i = l.length := by omega
      subst e
      have ho := over_all (marksB l.length k) l (by simp)
      repeat' (first
        | refine WP.assoc ?_
        | refine WP.skipS ?_
        | (refine WP.textS rfl ?_; intro K hK; simp [engE, factsE, callsE, *]; refine hK _ ?_; clear hK K)
        | (refine WP.textK rfl ?_; intro K hK; simp [engE, factsE, callsE, *]; refine hK _ ?_; clear hK K; (try dsimp only))
        | (refine WP.drawnS rfl ?_; intro K hK; simp [keyE, engE, factsE, callsE, *]; refine ⟨by kernel_rfl, hK _ ?_⟩; clear hK K)
        | (refine WP.drawnK rfl ?_; intro K hK; simp [keyE, engE, factsE, callsE, *]; refine ⟨by kernel_rfl, hK _ ?_⟩; clear hK K; (try dsimp only))
        | (refine WP.textSB ?_; intro K hK; simp [putBack, putBack1, engE, factsE, callsE, *]; refine hK _ ?_; clear hK K)
        | (refine WP.textBK ?_; intro K hK; simp [putBack, putBack1, engE, factsE, callsE, *]; refine hK _ ?_; clear hK K; (try dsimp only))
        | (refine WP.condS (by simp [engE, *]; rfl) (fun hc => ?_) (fun hc => ?_) <;> (try simp at hc))
        | (refine WP.condE (by simp [engE, *]; rfl) (fun hc => ?_) (fun hc => ?_) <;> (try simp at hc))
        | (refine WP.skip ?_; (try dsimp only))
        | (refine WP.blockS ?_; intro K hK)
        | (refine WP.blockK ?_; intro K hK)
        | (refine WP.exitS ?_; simp only [ite_true, ite_false, reduceIte])
        | (refine WP.exit ?_; simp only [ite_true, ite_false, reduceIte])
        | (refine WP.retS ?_; (try dsimp only); refine ⟨.inr rfl, ?_⟩)
        | (refine WP.ret ?_; (try dsimp only); refine ⟨.inr rfl, ?_⟩)
        | (refine Keep.use (by assumption) ?_; (try dsimp only)))
      simp [engE, Try.results88, *]

/-- how many places -/
def cnt (l : List (List Int)) : Nat := (l.map List.length).sum
def marksII : List (List Int) → Int → List (List Int)
  | [], _ => []
  | r :: rs, k => marksI r.length k :: marksII rs (k + r.length)
@[simp] theorem marksII_length (l : List (List Int)) (k : Int) : (marksII l k).length = l.length := by
  induction l generalizing k with
  | nil => rfl
  | cons r rs ih => simp [marksII, ih]
theorem marksII_snoc (l : List (List Int)) (r : List Int) (k : Int) : marksII (l ++ [r]) k = marksII l k ++ [marksI r.length (k + cnt l)] := by
  induction l generalizing k with
  | nil => simp [marksII, cnt]
  | cons x l ih => simp [marksII, ih, cnt]; congr 1; omega
theorem cnt_snoc (l : List (List Int)) (r : List Int) : cnt (l ++ [r]) = cnt l + r.length := by simp [cnt]
theorem cnt_take (l : List (List Int)) (i : Nat) : cnt (l.take i) ≤ cnt l := by
  have h : cnt (l.take i ++ l.drop i) = cnt (l.take i) + cnt (l.drop i) := by simp only [cnt, List.map_append, List.sum_append]
  rw [List.take_append_drop] at h
  omega

theorem den_markIntSS (l : List (List Int)) (k : Int) (h1 : l.length ≤ 1048576) (h2 : 0 ≤ k) (h3 : k < 2^58) (h4 : ∀ r ∈ l, r.length ≤ 1048576) (h5 : cnt l < 2^58) :
    D 87 [.sl 0 0 1 0 l.length, I k] [.slice 1 (rowsII l)] = some (I (k + cnt l), [(0, some (.slice 1 (rowsII (marksII l k))))]) := by
  refine den_of rfl Try.func87 rfl (by kernel_rfl) (by simp [Try.ntmps87]) (by simp) ?_
  repeat' (first
    | refine WP.assoc ?_
    | refine WP.skipS ?_
    | (refine WP.textS rfl ?_; intro K hK; simp [engE, factsE, callsE, *]; refine hK _ ?_; clear hK K)
    | (refine WP.textK rfl ?_; intro K hK; simp [engE, factsE, callsE, *]; refine hK _ ?_; clear hK K; (try dsimp only))
    | (refine WP.drawnS rfl ?_; intro K hK; simp [keyE, engE, factsE, callsE, *]; refine ⟨by kernel_rfl, hK _ ?_⟩; clear hK K)
    | (refine WP.drawnK rfl ?_; intro K hK; simp [keyE, engE, factsE, callsE, *]; refine ⟨by kernel_rfl, hK _ ?_⟩; clear hK K; (try dsimp only))
    | (refine WP.textSB ?_; intro K hK; simp [putBack, putBack1, engE, factsE, callsE, *]; refine hK _ ?_; clear hK K)
    | (refine WP.textBK ?_; intro K hK; simp [putBack, putBack1, engE, factsE, callsE, *]; refine hK _ ?_; clear hK K; (try dsimp only))
    | (refine WP.condS (by simp [engE, *]; rfl) (fun hc => ?_) (fun hc => ?_) <;> (try simp at hc))
    | (refine WP.condE (by simp [engE, *]; rfl) (fun hc => ?_) (fun hc => ?_) <;> (try simp at hc))
    | (refine WP.skip ?_; (try dsimp only))
    | (refine WP.blockS ?_; intro K hK)
    | (refine WP.blockK ?_; intro K hK)
    | (refine WP.exitS ?_; simp only [ite_true, ite_false, reduceIte])
    | (refine WP.exit ?_; simp only [ite_true, ite_false, reduceIte])
    | (refine WP.retS ?_; (try dsimp only); refine ⟨.inr rfl, ?_⟩)
    | (refine WP.ret ?_; (try dsimp only); refine ⟨.inr rfl, ?_⟩)
    | (refine Keep.use (by assumption) ?_; (try dsimp only)))
  refine WP.loopI (ι := Nat) (fun i σ => i ≤ l.length ∧ σ.slots 0 = .sl 0 0 1 0 l.length ∧ σ.slots 1 = I (k + cnt (l.take i)) ∧ σ.slots 5 = I i ∧ σ.gens 0 = 0 ∧ σ.objs 0 = some (.slice 1 (rowsII (over (marksII (l.take i) k) l)))) (fun i => l.length - i) 0 ?_ ?_
  · simp [engE, marksII, cnt]
  · rintro i σ ⟨i1, i2, i3, i4, i5, i6⟩
    have hc := cnt_take l i
    by_cases hk : i < l.length
    · have hw2 := w64s (k := i) (by omega)
      have hl := over_length (marksII (l.take i) k) l (by simp; omega)
      have hg : (over (marksII (l.take i) k) l)[i]? = some l[i] := by
        unfold over
        rw [List.getElem?_append_right (by simp; omega)]
        simp
        rw [Nat.min_eq_left i1]
        simp [hk]
      have hs := over_set (marksII (l.take i) k) l (marksI l[i].length (k + cnt (l.take i))) (by simp; omega)
      have ht : l.take i ++ [l[i]] = l.take (i + 1) := by rw [List.take_succ_eq_append_getElem hk]
      rw [← marksII_snoc, ht, marksII_length, List.length_take, Nat.min_eq_left i1] at hs
      have hcn : cnt (l.take (i + 1)) = cnt (l.take i) + l[i].length := by rw [← ht, cnt_snoc]
      have hd := den_markIntS l[i] (k + cnt (l.take i)) (h4 _ (List.getElem_mem hk)) (by omega) (by omega)
      have hg' : (over (marksII (l.take i) k) l)[i]'(by omega) = l[i] := by
        have := (List.getElem?_eq_some_iff.1 hg).2; exact this
      repeat' (first
        | refine WP.assoc ?_
        | refine WP.skipS ?_
        | (refine WP.textS rfl ?_; intro K hK; simp [engE, factsE, callsE, *]; refine hK _ ?_; clear hK K)
        | (refine WP.textK rfl ?_; intro K hK; simp [engE, factsE, callsE, *]; refine hK _ ?_; clear hK K; (try dsimp only))
        | (refine WP.drawnS rfl ?_; intro K hK; simp [keyE, engE, factsE, callsE, *]; refine ⟨by kernel_rfl, hK _ ?_⟩; clear hK K)
        | (refine WP.drawnK rfl ?_; intro K hK; simp [keyE, engE, factsE, callsE, *]; refine ⟨by kernel_rfl, hK _ ?_⟩; clear hK K; (try dsimp only))
        | (refine WP.textSB ?_; intro K hK; simp [putBack, putBack1, engE, factsE, callsE, *]; refine hK _ ?_; clear hK K)
        | (refine WP.textBK ?_; intro K hK; simp [putBack, putBack1, engE, factsE, callsE, *]; refine hK _ ?_; clear hK K; (try dsimp only))
        | (refine WP.condS (by simp [engE, *]; rfl) (fun hc => ?_) (fun hc => ?_) <;> (try simp at hc))
        | (refine WP.condE (by simp [engE, *]; rfl) (fun hc => ?_) (fun hc => ?_) <;> (try simp at hc))
        | (refine WP.skip ?_; (try dsimp only))
        | (refine WP.blockS ?_; intro K hK)
        | (refine WP.blockK ?_; intro K hK)
        | (refine WP.exitS ?_; simp only [ite_true, ite_false, reduceIte])
        | (refine WP.exit ?_; simp only [ite_true, ite_false, reduceIte])
        | (refine WP.retS ?_; (try dsimp only); refine ⟨.inr rfl, ?_⟩)
        | (refine WP.ret ?_; (try dsimp only); refine ⟨.inr rfl, ?_⟩)
        | (refine Keep.use (by assumption) ?_; (try dsimp only)))
      refine ⟨i + 1, by simp; omega, ?_⟩
      simp [engE, *]
      omega
    · have e : i = l.length := by omega
      subst e
      have ho := over_all (marksII l k) l (by simp)
      simp only [List.take_length] at i3 i6
      repeat' (first
        | refine WP.assoc ?_
        | refine WP.skipS ?_
        | (refine WP.textS rfl ?_; intro K hK; simp [engE, factsE, callsE, *]; refine hK _ ?_; clear hK K)
        | (refine WP.textK rfl ?_; intro K hK; simp [engE, factsE, callsE, *]; refine hK _ ?_; clear hK K; (try dsimp only))
        | (refine WP.drawnS rfl ?_; intro K hK; simp [keyE, engE, factsE, callsE, *]; refine ⟨by kernel_rfl, hK _ ?_⟩; clear hK K)
        | (refine WP.drawnK rfl ?_; intro K hK; simp [keyE, engE, factsE, callsE, *]; refine ⟨by kernel_rfl, hK _ ?_⟩; clear hK K; (try dsimp only))
        | (refine WP.textSB ?_; intro K hK; simp [putBack, putBack1, engE, factsE, callsE, *]; refine hK _ ?_; clear hK K)
        | (refine WP.textBK ?_; intro K hK; simp [putBack, putBack1, engE, factsE, callsE, *]; refine hK _ ?_; clear hK K; (try dsimp only))
        | (refine WP.condS (by simp [engE, *]; rfl) (fun hc => ?_) (fun hc => ?_) <;> (try simp at hc))
        | (refine WP.condE (by simp [engE, *]; rfl) (fun hc => ?_) (fun hc => ?_) <;> (try simp at hc))
        | (refine WP.skip ?_; (try dsimp only))
        | (refine WP.blockS ?_; intro K hK)
        | (refine WP.blockK ?_; intro K hK)
        | (refine WP.exitS ?_; simp only [ite_true, ite_false, reduceIte])
        | (refine WP.exit ?_; simp only [ite_true, ite_false, reduceIte])
        | (refine WP.retS ?_; (try dsimp only); refine ⟨.inr rfl, ?_⟩)
        | (refine WP.ret ?_; (try dsimp only); refine ⟨.inr rfl, ?_⟩)
        | (refine Keep.use (by assumption) ?_; (try dsimp only)))
      simp [engE, Try.results87, *]

end Go.AM

