/- MachineOK of both; marks of an automaton. -/
import Derived.Test.YtoffdmkgioaohaaFnE
namespace Go.AM
open Go.Proofs
set_option maxRecDepth 4000
set_option maxHeartbeats 2000000
set_option linter.unusedSimpArgs false
set_option linter.unusedVariables false

theorem den_implMachineOK {t : Tag} (ht : t.fixed = true) (m : Mach) (hm : m.ok) : D 83 [m.av t] [] = some (Bo (machOK m), []) := by
  obtain ⟨h1, h2, h3⟩ := hm
  have hd := den_ContainsFuncII (t := t.up) (up_fixed ht) m.1 163 [.ib [I m.1.length]] (fun r => !rowOK m.1.length r) h1 (fun σ e args => call163) (same_ib _)
    (fun r hr => den_MachineOK1 (up_fixed (up_fixed (up_fixed ht))) m.1.length h1 r (h2 r hr))
  have ha : (m.1.any fun r => !rowOK m.1.length r) = !m.1.all (rowOK m.1.length) := by simp [List.not_all_eq_any_not]
  have hw := den_within m.1.length 1 512
  unfold Mach.av
  by_cases hl : 1 ≤ m.1.length ∧ m.1.length ≤ 512
  · have h8 : (1 : Int) ≤ m.1.length := by omega
    have h9 : (m.1.length : Int) ≤ 512 := by omega
    simp only [h8, h9, decide_true, Bool.and_true] at hw
    by_cases he : m.2.length = m.1.length
    · have he' : (m.2.length : Int) = m.1.length := by omega
      refine den_of rfl Try.func83 rfl (by kernel_rfl) (by simp [Try.ntmps83]) (by simp) ?_
      repeat' (first
        | refine WP.assoc ?_
        | refine WP.skipS ?_
        | (refine WP.textS rfl ?_; intro K hK; simp [engE, factsE, callsE, *]; refine hK _ ?_; clear hK K)
        | (refine WP.textK rfl ?_; intro K hK; simp [engE, factsE, callsE, *]; refine hK _ ?_; clear hK K; (try dsimp only))
        | (refine WP.drawnS rfl ?_; intro K hK; simp [keyE, engE, factsE, callsE, *]; refine ⟨by kernel_rfl, hK _ ?_⟩; clear hK K)
        | (refine WP.drawnK rfl ?_; intro K hK; simp [keyE, engE, factsE, callsE, *]; refine ⟨by kernel_rfl, hK _ ?_⟩; clear hK K; (try dsimp only))
        | (refine WP.textSB ?_; intro K hK; simp [putBack, putBack1, engE, factsE, callsE, *]; refine hK _ ?_; clear hK K)
        | (refine WP.textBK ?_; intro K hK; simp [putBack, putBack1, engE, factsE, callsE, *]; refine hK _ ?_; clear hK K; (try dsimp only))
        | (refine WP.condS (by simp [engE, *]; rfl) (fun hc => ?_) (fun hc => ?_) <;> (try simp at hc))
        | (refine WP.condE (by simp [engE, *]; rfl) (fun hc => ?_) (fun hc => ?_) <;> (try simp at hc))
        | (refine WP.skip ?_; (try dsimp only))
        | (refine WP.blockS ?_; intro K hK)
        | (refine WP.blockK ?_; intro K hK)
        | (refine WP.exitS ?_; simp only [ite_true, ite_false, reduceIte])
        | (refine WP.exit ?_; simp only [ite_true, ite_false, reduceIte])
        | (refine WP.retS ?_; (try dsimp only); refine ⟨.inr rfl, ?_⟩)
        | (refine WP.ret ?_; (try dsimp only); refine ⟨.inr rfl, ?_⟩)
        | (refine Keep.use (by assumption) ?_; (try dsimp only)))
      simp [engE, Try.results83, machOK, *]
    · have he' : ¬ (m.2.length : Int) = m.1.length := by omega
      refine den_of rfl Try.func83 rfl (by kernel_rfl) (by simp [Try.ntmps83]) (by simp) ?_
      repeat' (first
        | refine WP.assoc ?_
        | refine WP.skipS ?_
        | (refine WP.textS rfl ?_; intro K hK; simp [engE, factsE, callsE, *]; refine hK _ ?_; clear hK K)
        | (refine WP.textK rfl ?_; intro K hK; simp [engE, factsE, callsE, *]; refine hK _ ?_; clear hK K; (try dsimp only))
        | (refine WP.drawnS rfl ?_; intro K hK; simp [keyE, engE, factsE, callsE, *]; refine ⟨by kernel_rfl, hK _ ?_⟩; clear hK K)
        | (refine WP.drawnK rfl ?_; intro K hK; simp [keyE, engE, factsE, callsE, *]; refine ⟨by kernel_rfl, hK _ ?_⟩; clear hK K; (try dsimp only))
        | (refine WP.textSB ?_; intro K hK; simp [putBack, putBack1, engE, factsE, callsE, *]; refine hK _ ?_; clear hK K)
        | (refine WP.textBK ?_; intro K hK; simp [putBack, putBack1, engE, factsE, callsE, *]; refine hK _ ?_; clear hK K; (try dsimp only))
        | (refine WP.condS (by simp [engE, *]; rfl) (fun hc => ?_) (fun hc => ?_) <;> (try simp at hc))
        | (refine WP.condE (by simp [engE, *]; rfl) (fun hc => ?_) (fun hc => ?_) <;> (try simp at hc))
        | (refine WP.skip ?_; (try dsimp only))
        | (refine WP.blockS ?_; intro K hK)
        | (refine WP.blockK ?_; intro K hK)
        | (refine WP.exitS ?_; simp only [ite_true, ite_false, reduceIte])
        | (refine WP.exit ?_; simp only [ite_true, ite_false, reduceIte])
        | (refine WP.retS ?_; (try dsimp only); refine ⟨.inr rfl, ?_⟩)
        | (refine WP.ret ?_; (try dsimp only); refine ⟨.inr rfl, ?_⟩)
        | (refine Keep.use (by assumption) ?_; (try dsimp only)))
      simp [engE, Try.results83, machOK, *]
  · have h8 : (decide ((1 : Int) ≤ m.1.length) && decide ((m.1.length : Int) ≤ 512)) = false := by simp; omega
    have h9 : machOK m = false := by simp [machOK]; omega
    rw [h8] at hw
    refine den_of rfl Try.func83 rfl (by kernel_rfl) (by simp [Try.ntmps83]) (by simp) ?_
    repeat' (first
      | refine WP.assoc ?_
      | refine WP.skipS ?_
      | (refine WP.textS rfl ?_; intro K hK; simp [engE, factsE, callsE, *]; refine hK _ ?_; clear hK K)
      | (refine WP.textK rfl ?_; intro K hK; simp [engE, factsE, callsE, *]; refine hK _ ?_; clear hK K; (try dsimp only))
      | (refine WP.drawnS rfl ?_; intro K hK; simp [keyE, engE, factsE, callsE, *]; refine ⟨by kernel_rfl, hK _ ?_⟩; clear hK K)
      | (refine WP.drawnK rfl ?_; intro K hK; simp [keyE, engE, factsE, callsE, *]; refine ⟨by kernel_rfl, hK _ ?_⟩; clear hK K; (try dsimp only))
      | (refine WP.textSB ?_; intro K hK; simp [putBack, putBack1, engE, factsE, callsE, *]; refine hK _ ?_; clear hK K)
      | (refine WP.textBK ?_; intro K hK; simp [putBack, putBack1, engE, factsE, callsE, *]; refine hK _ ?_; clear hK K; (try dsimp only))
      | (refine WP.condS (by simp [engE, *]; rfl) (fun hc => ?_) (fun hc => ?_) <;> (try simp at hc))
      | (refine WP.condE (by simp [engE, *]; rfl) (fun hc => ?_) (fun hc => ?_) <;> (try simp at hc))
      | (refine WP.skip ?_; (try dsimp only))
      | (refine WP.blockS ?_; intro K hK)
      | (refine WP.blockK ?_; intro K hK)
      | (refine WP.exitS ?_; simp only [ite_true, ite_false, reduceIte])
      | (refine WP.exit ?_; simp only [ite_true, ite_false, reduceIte])
      | (refine WP.retS ?_; (try dsimp only); refine ⟨.inr rfl, ?_⟩)
      | (refine WP.ret ?_; (try dsimp only); refine ⟨.inr rfl, ?_⟩)
      | (refine Keep.use (by assumption) ?_; (try dsimp only)))
    simp [engE, Try.results83, *]

theorem all_step {α : Type} {p : α → Bool} {l : List α} {k : Nat} (hk : k < l.length) (h : p l[k] = true) : (l.drop k).all p = (l.drop (k + 1)).all p := by
  rw [List.drop_eq_getElem_cons hk, List.all_cons, h, Bool.true_and]
theorem all_stop {α : Type} {p : α → Bool} {l : List α} {k : Nat} (hk : k < l.length) (h : p l[k] = false) : (l.drop k).all p = false := by
  rw [List.drop_eq_getElem_cons hk, List.all_cons, h, Bool.false_and]

theorem den_specMachineOK {t : Tag} (ht : t.fixed = true) (m : Mach) (hm : m.ok) : D 79 [m.av t] [] = some (Bo (machOK m), []) := by
  obtain ⟨h1, h2, h3⟩ := hm
  have hw := den_l01In m.1.length 1 512
  unfold Mach.av
  by_cases hl : 1 ≤ m.1.length ∧ m.1.length ≤ 512
  · have h8 : (1 : Int) ≤ m.1.length := by omega
    have h9 : (m.1.length : Int) ≤ 512 := by omega
    simp only [h8, h9, decide_true, Bool.and_true] at hw
    by_cases he : m.2.length = m.1.length
    · have he' : (m.2.length : Int) = m.1.length := by omega
      have hmo : machOK m = m.1.all (rowOK m.1.length) := by simp [machOK, hl, he]
      have hwn : IntKind.i64.wrap ((m.1.length : Int) - 1) = (m.1.length : Int) - 1 := w64 (by omega) (by omega)
      refine den_of rfl Try.func79 rfl (by kernel_rfl) (by simp [Try.ntmps79]) (by simp) ?_
      repeat' (first
        | refine WP.assoc ?_
        | refine WP.skipS ?_
        | (refine WP.textS rfl ?_; intro K hK; simp [engE, factsE, callsE, *]; refine hK _ ?_; clear hK K)
        | (refine WP.textK rfl ?_; intro K hK; simp [engE, factsE, callsE, *]; refine hK _ ?_; clear hK K; (try dsimp only))
        | (refine WP.drawnS rfl ?_; intro K hK; simp [keyE, engE, factsE, callsE, *]; refine ⟨by kernel_rfl, hK _ ?_⟩; clear hK K)
        | (refine WP.drawnK rfl ?_; intro K hK; simp [keyE, engE, factsE, callsE, *]; refine ⟨by kernel_rfl, hK _ ?_⟩; clear hK K; (try dsimp only))
        | (refine WP.textSB ?_; intro K hK; simp [putBack, putBack1, engE, factsE, callsE, *]; refine hK _ ?_; clear hK K)
        | (refine WP.textBK ?_; intro K hK; simp [putBack, putBack1, engE, factsE, callsE, *]; refine hK _ ?_; clear hK K; (try dsimp only))
        | (refine WP.condS (by simp [engE, *]; rfl) (fun hc => ?_) (fun hc => ?_) <;> (try simp at hc))
        | (refine WP.condE (by simp [engE, *]; rfl) (fun hc => ?_) (fun hc => ?_) <;> (try simp at hc))
        | (refine WP.skip ?_; (try dsimp only))
        | (refine WP.blockS ?_; intro K hK)
        | (refine WP.blockK ?_; intro K hK)
        | (refine WP.exitS ?_; simp only [ite_true, ite_false, reduceIte])
        | (refine WP.exit ?_; simp only [ite_true, ite_false, reduceIte])
        | (refine WP.retS ?_; (try dsimp only); refine ⟨.inr rfl, ?_⟩)
        | (refine WP.ret ?_; (try dsimp only); refine ⟨.inr rfl, ?_⟩)
        | (refine Keep.use (by assumption) ?_; (try dsimp only)))
      refine WP.loopI (ι := Nat) (fun i σ => i ≤ m.1.length ∧ σ.slots 1 = .ptr 24 1 0 0 ∧ σ.gens 24 = 1 ∧ σ.objs 24 = some (.box [.tr t 1 (rowsII m.1), .tr t 1 (rowsB m.2)]) ∧ σ.slots 3 = I i ∧ machOK m = (m.1.drop i).all (rowOK m.1.length)) (fun i => m.1.length - i) 0 ?_ ?_
      · simp [engE, *]
      · rintro i σ ⟨i1, i2, i3, i4, i5, i6⟩
        clear hmo
        by_cases hk : i < m.1.length
        · have hw2 := w64s (k := i) (by omega)
          by_cases h8 : m.1[i].length = 8
          · have h8' : (m.1[i].length : Int) = 8 := by omega
            have hr : rowOK m.1.length m.1[i] = m.1[i].all (cellOK m.1.length) := by simp [rowOK, h8]
            repeat' (first
              | refine WP.assoc ?_
              | refine WP.skipS ?_
              | (refine WP.textS rfl ?_; intro K hK; simp [engE, factsE, callsE, *]; refine hK _ ?_; clear hK K)
              | (refine WP.textK rfl ?_; intro K hK; simp [engE, factsE, callsE, *]; refine hK _ ?_; clear hK K; (try dsimp only))
              | (refine WP.drawnS rfl ?_; intro K hK; simp [keyE, engE, factsE, callsE, *]; refine ⟨by kernel_rfl, hK _ ?_⟩; clear hK K)
              | (refine WP.drawnK rfl ?_; intro K hK; simp [keyE, engE, factsE, callsE, *]; refine ⟨by kernel_rfl, hK _ ?_⟩; clear hK K; (try dsimp only))
              | (refine WP.textSB ?_; intro K hK; simp [putBack, putBack1, engE, factsE, callsE, *]; refine hK _ ?_; clear hK K)
              | (refine WP.textBK ?_; intro K hK; simp [putBack, putBack1, engE, factsE, callsE, *]; refine hK _ ?_; clear hK K; (try dsimp only))
              | (refine WP.condS (by simp [engE, *]; rfl) (fun hc => ?_) (fun hc => ?_) <;> (try simp at hc))
              | (refine WP.condE (by simp [engE, *]; rfl) (fun hc => ?_) (fun hc => ?_) <;> (try simp at hc))
              | (refine WP.skip ?_; (try dsimp only))
              | (refine WP.blockS ?_; intro K hK)
              | (refine WP.blockK ?_; intro K hK)
              | (refine WP.exitS ?_; simp only [ite_true, ite_false, reduceIte])
              | (refine WP.exit ?_; simp only [ite_true, ite_false, reduceIte])
              | (refine WP.retS ?_; (try dsimp only); refine ⟨.inr rfl, ?_⟩)
              | (refine WP.ret ?_; (try dsimp only); refine ⟨.inr rfl, ?_⟩)
              | (refine Keep.use (by assumption) ?_; (try dsimp only)))
            refine WP.loopI (ι := Nat) (fun j σ => j ≤ 8 ∧ σ.slots 1 = .ptr 24 1 0 0 ∧ σ.gens 24 = 1 ∧ σ.objs 24 = some (.box [.tr t 1 (rowsII m.1), .tr t 1 (rowsB m.2)]) ∧ σ.slots 3 = I i ∧ σ.slots 4 = I j ∧ rowOK m.1.length m.1[i] = (m.1[i].drop j).all (cellOK m.1.length)) (fun j => 8 - j) 0 ?_ ?_
            · simp [engE, *]
            · rintro j σ ⟨j1, j2, j3, j4, j5, j6, j7⟩
              clear hr
              by_cases hj : j < 8
              · have hw3 := w64s (k := j) (by omega)
                have hj' : (j : Int) < 8 := by omega
                have hjl : j < m.1[i].length := by omega
                have hd := den_l01In m.1[i][j] (-1) ((m.1.length : Int) - 1)
                by_cases hc : cellOK m.1.length m.1[i][j] = true
                · rw [all_step hjl hc] at j7
                  unfold cellOK at hc
                  rw [hc] at hd
                  repeat' (first
                    | refine WP.assoc ?_
                    | refine WP.skipS ?_
                    | (refine WP.textS rfl ?_; intro K hK; simp [engE, factsE, callsE, *]; refine hK _ ?_; clear hK K)
                    | (refine WP.textK rfl ?_; intro K hK; simp [engE, factsE, callsE, *]; refine hK _ ?_; clear hK K; (try dsimp only))
                    | (refine WP.drawnS rfl ?_; intro K hK; simp [keyE, engE, factsE, callsE, *]; refine ⟨by kernel_rfl, hK _ ?_⟩; clear hK K)
                    | (refine WP.drawnK rfl ?_; intro K hK; simp [keyE, engE, factsE, callsE, *]; refine ⟨by kernel_rfl, hK _ ?_⟩; clear hK K; (try dsimp only))
                    | (refine WP.textSB ?_; intro K hK; simp [putBack, putBack1, engE, factsE, callsE, *]; refine hK _ ?_; clear hK K)
                    | (refine WP.textBK ?_; intro K hK; simp [putBack, putBack1, engE, factsE, callsE, *]; refine hK _ ?_; clear hK K; (try dsimp only))
                    | (refine WP.condS (by simp [engE, *]; rfl) (fun hc => ?_) (fun hc => ?_) <;> (try simp at hc))
                    | (refine WP.condE (by simp [engE, *]; rfl) (fun hc => ?_) (fun hc => ?_) <;> (try simp at hc))
                    | (refine WP.skip ?_; (try dsimp only))
                    | (refine WP.blockS ?_; intro K hK)
                    | (refine WP.blockK ?_; intro K hK)
                    | (refine WP.exitS ?_; simp only [ite_true, ite_false, reduceIte])
                    | (refine WP.exit ?_; simp only [ite_true, ite_false, reduceIte])
                    | (refine WP.retS ?_; (try dsimp only); refine ⟨.inr rfl, ?_⟩)
                    | (refine WP.ret ?_; (try dsimp only); refine ⟨.inr rfl, ?_⟩)
                    | (refine Keep.use (by assumption) ?_; (try dsimp only)))
                  refine ⟨j + 1, by simp; omega, ?_⟩
                  simp [engE, *]
                  omega
                · have hc : cellOK m.1.length m.1[i][j] = false := by simpa using hc
                  rw [all_stop hjl hc] at j7
                  rw [all_stop hk j7] at i6
                  unfold cellOK at hc
                  rw [hc] at hd
                  repeat' (first
                    | refine WP.assoc ?_
                    | refine WP.skipS ?_
                    | (refine WP.textS rfl ?_; intro K hK; simp [engE, factsE, callsE, *]; refine hK _ ?_; clear hK K)
                    | (refine WP.textK rfl ?_; intro K hK; simp [engE, factsE, callsE, *]; refine hK _ ?_; clear hK K; (try dsimp only))
                    | (refine WP.drawnS rfl ?_; intro K hK; simp [keyE, engE, factsE, callsE, *]; refine ⟨by kernel_rfl, hK _ ?_⟩; clear hK K)
                    | (refine WP.drawnK rfl ?_; intro K hK; simp [keyE, engE, factsE, callsE, *]; refine ⟨by kernel_rfl, hK _ ?_⟩; clear hK K; (try dsimp only))
                    | (refine WP.textSB ?_; intro K hK; simp [putBack, putBack1, engE, factsE, callsE, *]; refine hK _ ?_; clear hK K)
                    | (refine WP.textBK ?_; intro K hK; simp [putBack, putBack1, engE, factsE, callsE, *]; refine hK _ ?_; clear hK K; (try dsimp only))
                    | (refine WP.condS (by simp [engE, *]; rfl) (fun hc => ?_) (fun hc => ?_) <;> (try simp at hc))
                    | (refine WP.condE (by simp [engE, *]; rfl) (fun hc => ?_) (fun hc => ?_) <;> (try simp at hc))
                    | (refine WP.skip ?_; (try dsimp only))
                    | (refine WP.blockS ?_; intro K hK)
                    | (refine WP.blockK ?_; intro K hK)
                    | (refine WP.exitS ?_; simp only [ite_true, ite_false, reduceIte])
                    | (refine WP.exit ?_; simp only [ite_true, ite_false, reduceIte])
                    | (refine WP.retS ?_; (try dsimp only); refine ⟨.inr rfl, ?_⟩)
                    | (refine WP.ret ?_; (try dsimp only); refine ⟨.inr rfl, ?_⟩)
                    | (refine Keep.use (by assumption) ?_; (try dsimp only)))
                  simp [engE, Try.results79, *]
              · have e : j = 8 := by omega
                subst e
                have hdr : m.1[i].drop 8 = [] := List.drop_eq_nil_of_le (by omega)
                rw [hdr, List.all_nil] at j7
                rw [all_step hk j7] at i6
                repeat' (first
                  | refine WP.assoc ?_
                  | refine WP.skipS ?_
                  | (refine WP.textS rfl ?_; intro K hK; simp [engE, factsE, callsE, *]; refine hK _ ?_; clear hK K)
                  | (refine WP.textK rfl ?_; intro K hK; simp [engE, factsE, callsE, *]; refine hK _ ?_; clear hK K; (try dsimp only))
                  | (refine WP.drawnS rfl ?_; intro K hK; simp [keyE, engE, factsE, callsE, *]; refine ⟨by kernel_rfl, hK _ ?_⟩; clear hK K)
                  | (refine WP.drawnK rfl ?_; intro K hK; simp [keyE, engE, factsE, callsE, *]; refine ⟨by kernel_rfl, hK _ ?_⟩; clear hK K; (try dsimp only))
                  | (refine WP.textSB ?_; intro K hK; simp [putBack, putBack1, engE, factsE, callsE, *]; refine hK _ ?_; clear hK K)
                  | (refine WP.textBK ?_; intro K hK; simp [putBack, putBack1, engE, factsE, callsE, *]; refine hK _ ?_; clear hK K; (try dsimp only))
                  | (refine WP.condS (by simp [engE, *]; rfl) (fun hc => ?_) (fun hc => ?_) <;> (try simp at hc))
                  | (refine WP.condE (by simp [engE, *]; rfl) (fun hc => ?_) (fun hc => ?_) <;> (try simp at hc))
                  | (refine WP.skip ?_; (try dsimp only))
                  | (refine WP.blockS ?_; intro K hK)
                  | (refine WP.blockK ?_; intro K hK)
                  | (refine WP.exitS ?_; simp only [ite_true, ite_false, reduceIte])
                  | (refine WP.exit ?_; simp only [ite_true, ite_false, reduceIte])
                  | (refine WP.retS ?_; (try dsimp only); refine ⟨.inr rfl, ?_⟩)
                  | (refine WP.ret ?_; (try dsimp only); refine ⟨.inr rfl, ?_⟩)
                  | (refine Keep.use (by assumption) ?_; (try dsimp only)))
                refine ⟨i + 1, by simp; omega, ?_⟩
                simp [engE, *]
                omega
          · have h8' : ¬ (m.1[i].length : Int) = 8 := by omega
            have hr : rowOK m.1.length m.1[i] = false := by simp [rowOK, h8]
            rw [all_stop hk hr] at i6
            repeat' (first
              | refine WP.assoc ?_
              | refine WP.skipS ?_
              | (refine WP.textS rfl ?_; intro K hK; simp [engE, factsE, callsE, *]; refine hK _ ?_; clear hK K)
              | (refine WP.textK rfl ?_; intro K hK; simp [engE, factsE, callsE, *]; refine hK _ ?_; clear hK K; (try dsimp only))
              | (refine WP.drawnS rfl ?_; intro K hK; simp [keyE, engE, factsE, callsE, *]; refine ⟨by kernel_rfl, hK _ ?_⟩; clear hK K)
              | (refine WP.drawnK rfl ?_; intro K hK; simp [keyE, engE, factsE, callsE, *]; refine ⟨by kernel_rfl, hK _ ?_⟩; clear hK K; (try dsimp only))
              | (refine WP.textSB ?_; intro K hK; simp [putBack, putBack1, engE, factsE, callsE, *]; refine hK _ ?_; clear hK K)
              | (refine WP.textBK ?_; intro K hK; simp [putBack, putBack1, engE, factsE, callsE, *]; refine hK _ ?_; clear hK K; (try dsimp only))
              | (refine WP.condS (by simp [engE, *]; rfl) (fun hc => ?_) (fun hc => ?_) <;> (try simp at hc))
              | (refine WP.condE (by simp [engE, *]; rfl) (fun hc => ?_) (fun hc => ?_) <;> (try simp at hc))
              | (refine WP.skip ?_; (try dsimp only))
              | (refine WP.blockS ?_; intro K hK)
              | (refine WP.blockK ?_; intro K hK)
              | (refine WP.exitS ?_; simp only [ite_true, ite_false, reduceIte])
              | (refine WP.exit ?_; simp only [ite_true, ite_false, reduceIte])
              | (refine WP.retS ?_; (try dsimp only); refine ⟨.inr rfl, ?_⟩)
              | (refine WP.ret ?_; (try dsimp only); refine ⟨.inr rfl, ?_⟩)
              | (refine Keep.use (by assumption) ?_; (try dsimp only)))
            simp [engE, Try.results79, *]
        · have hd1 : m.1.drop i = [] := List.drop_eq_nil_of_le (by omega)
          rw [hd1, List.all_nil] at i6
          repeat' (first
            | refine WP.assoc ?_
            | refine WP.skipS ?_
            | (refine WP.textS rfl ?_; intro K hK; simp [engE, factsE, callsE, *]; refine hK _ ?_; clear hK K)
            | (refine WP.textK rfl ?_; intro K hK; simp [engE, factsE, callsE, *]; refine hK _ ?_; clear hK K; (try dsimp only))
            | (refine WP.drawnS rfl ?_; intro K hK; simp [keyE, engE, factsE, callsE, *]; refine ⟨by kernel_rfl, hK _ ?_⟩; clear hK K)
            | (refine WP.drawnK rfl ?_; intro K hK; simp [keyE, engE, factsE, callsE, *]; refine ⟨by kernel_rfl, hK _ ?_⟩; clear hK K; (try dsimp only))
            | (refine WP.textSB ?_; intro K hK; simp [putBack, putBack1, engE, factsE, callsE, *]; refine hK _ ?_; clear hK K)
            | (refine WP.textBK ?_; intro K hK; simp [putBack, putBack1, engE, factsE, callsE, *]; refine hK _ ?_; clear hK K; (try dsimp only))
            | (refine WP.condS (by simp [engE, *]; rfl) (fun hc => ?_) (fun hc => ?_) <;> (try simp at hc))
            | (refine WP.condE (by simp [engE, *]; rfl) (fun hc => ?_) (fun hc => ?_) <;> (try simp at hc))
            | (refine WP.skip ?_; (try dsimp only))
            | (refine WP.blockS ?_; intro K hK)
            | (refine WP.blockK ?_; intro K hK)
            | (refine WP.exitS ?_; simp only [ite_true, ite_false, reduceIte])
            | (refine WP.exit ?_; simp only [ite_true, ite_false, reduceIte])
            | (refine WP.retS ?_; (try dsimp only); refine ⟨.inr rfl, ?_⟩)
            | (refine WP.ret ?_; (try dsimp only); refine ⟨.inr rfl, ?_⟩)
            | (refine Keep.use (by assumption) ?_; (try dsimp only)))
          simp [engE, Try.results79, *]
    · have he' : ¬ (m.2.length : Int) = m.1.length := by omega
      refine den_of rfl Try.func79 rfl (by kernel_rfl) (by simp [Try.ntmps79]) (by simp) ?_
      repeat' (first
        | refine WP.assoc ?_
        | refine WP.skipS ?_
        | (refine WP.textS rfl ?_; intro K hK; simp [engE, factsE, callsE, *]; refine hK _ ?_; clear hK K)
        | (refine WP.textK rfl ?_; intro K hK; simp [engE, factsE, callsE, *]; refine hK _ ?_; clear hK K; (try dsimp only))
        | (refine WP.drawnS rfl ?_; intro K hK; simp [keyE, engE, factsE, callsE, *]; refine ⟨by kernel_rfl, hK _ ?_⟩; clear hK K)
        | (refine WP.drawnK rfl ?_; intro K hK; simp [keyE, engE, factsE, callsE, *]; refine ⟨by kernel_rfl, hK _ ?_⟩; clear hK K; (try dsimp only))
        | (refine WP.textSB ?_; intro K hK; simp [putBack, putBack1, engE, factsE, callsE, *]; refine hK _ ?_; clear hK K)
        | (refine WP.textBK ?_; intro K hK; simp [putBack, putBack1, engE, factsE, callsE, *]; refine hK _ ?_; clear hK K; (try dsimp only))
        | (refine WP.condS (by simp [engE, *]; rfl) (fun hc => ?_) (fun hc => ?_) <;> (try simp at hc))
        | (refine WP.condE (by simp [engE, *]; rfl) (fun hc => ?_) (fun hc => ?_) <;> (try simp at hc))
        | (refine WP.skip ?_; (try dsimp only))
        | (refine WP.blockS ?_; intro K hK)
        | (refine WP.blockK ?_; intro K hK)
        | (refine WP.exitS ?_; simp only [ite_true, ite_false, reduceIte])
        | (refine WP.exit ?_; simp only [ite_true, ite_false, reduceIte])
        | (refine WP.retS ?_; (try dsimp only); refine ⟨.inr rfl, ?_⟩)
        | (refine WP.ret ?_; (try dsimp only); refine ⟨.inr rfl, ?_⟩)
        | (refine Keep.use (by assumption) ?_; (try dsimp only)))
      simp [engE, Try.results79, machOK, *]
  · have h8 : (decide ((1 : Int) ≤ m.1.length) && decide ((m.1.length : Int) ≤ 512)) = false := by simp; omega
    have h9 : machOK m = false := by simp [machOK]; omega
    rw [h8] at hw
    refine den_of rfl Try.func79 rfl (by kernel_rfl) (by simp [Try.ntmps79]) (by simp) ?_
    repeat' (first
      | refine WP.assoc ?_
      | refine WP.skipS ?_
      | (refine WP.textS rfl ?_; intro K hK; simp [engE, factsE, callsE, *]; refine hK _ ?_; clear hK K)
      | (refine WP.textK rfl ?_; intro K hK; simp [engE, factsE, callsE, *]; refine hK _ ?_; clear hK K; (try dsimp only))
      | (refine WP.drawnS rfl ?_; intro K hK; simp [keyE, engE, factsE, callsE, *]; refine ⟨by kernel_rfl, hK _ ?_⟩; clear hK K)
      | (refine WP.drawnK rfl ?_; intro K hK; simp [keyE, engE, factsE, callsE, *]; refine ⟨by kernel_rfl, hK _ ?_⟩; clear hK K; (try dsimp only))
      | (refine WP.textSB ?_; intro K hK; simp [putBack, putBack1, engE, factsE, callsE, *]; refine hK _ ?_; clear hK K)
      | (refine WP.textBK ?_; intro K hK; simp [putBack, putBack1, engE, factsE, callsE, *]; refine hK _ ?_; clear hK K; (try dsimp only))
      | (refine WP.condS (by simp [engE, *]; rfl) (fun hc => ?_) (fun hc => ?_) <;> (try simp at hc))
      | (refine WP.condE (by simp [engE, *]; rfl) (fun hc => ?_) (fun hc => ?_) <;> (try simp at hc))
      | (refine WP.skip ?_; (try dsimp only))
      | (refine WP.blockS ?_; intro K hK)
      | (refine WP.blockK ?_; intro K hK)
      | (refine WP.exitS ?_; simp only [ite_true, ite_false, reduceIte])
      | (refine WP.exit ?_; simp only [ite_true, ite_false, reduceIte])
      | (refine WP.retS ?_; (try dsimp only); refine ⟨.inr rfl, ?_⟩)
      | (refine WP.ret ?_; (try dsimp only); refine ⟨.inr rfl, ?_⟩)
      | (refine Keep.use (by assumption) ?_; (try dsimp only)))
    simp [engE, Try.results79, *]

theorem den_markMachine (m : Mach) (k : Int) (hm : m.small) (h2 : 0 ≤ k) (h3 : k < 2^57) (h5 : cnt m.1 < 2^57) :
    D 19 [m.own, I k] [.slice 1 (rowsII m.1), .slice 1 (rowsB m.2)] =
      some (I (k + cnt m.1 + m.2.length), [(0, some (.slice 1 (rowsII (marksII m.1 k)))), (0, some (.slice 1 (rowsB (marksB m.2.length (k + cnt m.1)))))]) := by
  obtain ⟨h1, h4, h6⟩ := hm
  have hd1 := den_markIntSS m.1 k h1 h2 (by omega) h4 (by omega)
  have hd2 := den_markBoolS m.2 (k + cnt m.1) h6 (by omega) (by omega)
  unfold Mach.own
  refine den_of rfl Try.func19 rfl (by kernel_rfl) (by simp [Try.ntmps19]) (by simp) ?_
  repeat' (first
    | refine WP.assoc ?_
    | refine WP.skipS ?_
    | (refine WP.textS rfl ?_; intro K hK; simp [engE, factsE, callsE, *]; refine hK _ ?_; clear hK K)
    | (refine WP.textK rfl ?_; intro K hK; simp [engE, factsE, callsE, *]; refine hK _ ?_; clear hK K; (try dsimp only))
    | (refine WP.drawnS rfl ?_; intro K hK; simp [keyE, engE, factsE, callsE, *]; refine ⟨by kernel_rfl, hK _ ?_⟩; clear hK K)
    | (refine WP.drawnK rfl ?_; intro K hK; simp [keyE, engE, factsE, callsE, *]; refine ⟨by kernel_rfl, hK _ ?_⟩; clear hK K; (try dsimp only))
    | (refine WP.textSB ?_; intro K hK; simp [putBack, putBack1, engE, factsE, callsE, *]; refine hK _ ?_; clear hK K)
    | (refine WP.textBK ?_; intro K hK; simp [putBack, putBack1, engE, factsE, callsE, *]; refine hK _ ?_; clear hK K; (try dsimp only))
    | (refine WP.condS (by simp [engE, *]; rfl) (fun hc => ?_) (fun hc => ?_) <;> (try simp at hc))
    | (refine WP.condE (by simp [engE, *]; rfl) (fun hc => ?_) (fun hc => ?_) <;> (try simp at hc))
    | (refine WP.skip ?_; (try dsimp only))
    | (refine WP.blockS ?_; intro K hK)
    | (refine WP.blockK ?_; intro K hK)
    | (refine WP.exitS ?_; simp only [ite_true, ite_false, reduceIte])
    | (refine WP.exit ?_; simp only [ite_true, ite_false, reduceIte])
    | (refine WP.retS ?_; (try dsimp only); refine ⟨.inr rfl, ?_⟩)
    | (refine WP.ret ?_; (try dsimp only); refine ⟨.inr rfl, ?_⟩)
    | (refine Keep.use (by assumption) ?_; (try dsimp only)))
  simp [engE, Try.results19, *]

end Go.AM

