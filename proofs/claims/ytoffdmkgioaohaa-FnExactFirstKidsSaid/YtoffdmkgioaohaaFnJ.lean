/- The law of FirstKids, as an equation. -/
import Derived.Test.YtoffdmkgioaohaaFnI
namespace Go.AM
open Go.Proofs
set_option maxRecDepth 4000
set_option maxHeartbeats 2000000
set_option linter.unusedSimpArgs false
set_option linter.unusedVariables false

theorem kids_sh {m : Mach} (hm : m.small) : (kidsOf m).1.length ≤ 1048576 := by
  unfold kidsOf
  by_cases h : machOK m = true
  · have := machOK_use h
    simp only [h, if_true]
    cases hs : sFirst m with
    | none => simp
    | some w => have := sFirst_sh hs; simp; omega
  · simp [h]

theorem marks_take (n : Nat) (k : Int) : List.take n (rowsI (marksI n k)) = rowsI (marksI n k) := List.take_of_length_le (by simp [rowsI, marksI])

theorem szL_use {n : Nat} {left : Int} (h0 : 0 ≤ left) (h : ¬ szL n left < 0) : (n : Int) ≤ left ∧ szL n left = left - n := by
  unfold szL at h ⊢; split at h <;> omega
theorem szRows_use : ∀ {l : List (List Int)} {left : Int}, 0 ≤ left → ¬ szRows l left < 0 → (cnt l : Int) ≤ left ∧ (∀ r ∈ l, (r.length : Int) ≤ left) ∧ szRows l left = left - cnt l
  | [], left, h0, _ => by simp [cnt, szRows, h0]
  | r :: l, left, h0, h => by
    simp only [szRows] at h ⊢
    split at h
    · omega
    · rename_i hz
      obtain ⟨k1, k2⟩ := szL_use h0 hz
      obtain ⟨j1, j2, j3⟩ := szRows_use (by omega) h
      have e : cnt (r :: l) = r.length + cnt l := by simp [cnt]
      rw [if_neg hz]
      refine ⟨by omega, ?_, by omega⟩
      intro x hx
      rcases List.mem_cons.1 hx with rfl | hx
      · exact k1
      · have := j2 x hx; omega
theorem szM_use {m : Mach} (h : ¬ szM m 1048576 < 0) : m.small ∧ m.ok ∧ cnt m.1 < 2^57 := by
  have k : (m.1.length : Int) ≤ 1048576 ∧ (∀ r ∈ m.1, (r.length : Int) ≤ 1048576) ∧ (m.2.length : Int) ≤ 1048576 ∧ (cnt m.1 : Int) ≤ 1048576 := by
    unfold szM at h
    split at h
    · omega
    · rename_i h1
      split at h
      · omega
      · rename_i h2
        obtain ⟨j1, _⟩ := szL_use (by omega) h2
        unfold szII at h1 j1
        split at h1
        · omega
        · rename_i h3
          obtain ⟨q1, q2, q3⟩ := szRows_use (by omega) h1
          rw [if_neg h3] at j1
          refine ⟨by omega, fun r hr => ?_, by omega, by omega⟩
          have := q2 r hr
          omega
  obtain ⟨k1, k2, k3, k4⟩ := k
  have k2' : ∀ r ∈ m.1, r.length ≤ 1048576 := fun r hr => by have := k2 r hr; omega
  exact ⟨⟨by omega, k2', by omega⟩, ⟨by omega, fun r hr => by have := k2' r hr; omega, by omega⟩, by omega⟩

theorem den_FnExactFirstKids {t : Tag} (ht : t.fixed = true) (m : Mach) (hf : m.fit) :
    D 3 [m.av t] [] = some (Bo true, []) := by
  have hd1 := den_szMachine (t := t.up) (up_fixed ht) m 1048576 hf (by omega) (by omega)
  by_cases h : szM m 1048576 < 0
  · unfold Mach.av at hd1 ⊢
    refine den_of rfl Try.func3 rfl (by kernel_rfl) (by simp [Try.ntmps3]) (by simp) ?_
    repeat' (first
      | refine WP.assoc ?_
      | refine WP.skipS ?_
      | (refine WP.textS rfl ?_; intro K hK; simp [engE, factsE, callsE, *]; refine hK _ ?_; clear hK K)
      | (refine WP.textK rfl ?_; intro K hK; simp [engE, factsE, callsE, *]; refine hK _ ?_; clear hK K; (try dsimp only))
      | (refine WP.drawnS rfl ?_; intro K hK; simp [keyE, engE, factsE, callsE, *]; refine ⟨by kernel_rfl, hK _ ?_⟩; clear hK K)
      | (refine WP.drawnK rfl ?_; intro K hK; simp [keyE, engE, factsE, callsE, *]; refine ⟨by kernel_rfl, hK _ ?_⟩; clear hK K; (try dsimp only))
      | (refine WP.textSB ?_; intro K hK; simp [putBack, putBack1, engE, factsE, callsE, *]; refine hK _ ?_; clear hK K)
      | (refine WP.textBK ?_; intro K hK; simp [putBack, putBack1, engE, factsE, callsE, *]; refine hK _ ?_; clear hK K; (try dsimp only))
      | (refine WP.condS (by simp [engE, *]; rfl) (fun hc => ?_) (fun hc => ?_) <;> (try simp at hc))
      | (refine WP.condE (by simp [engE, *]; rfl) (fun hc => ?_) (fun hc => ?_) <;> (try simp at hc))
      | (refine WP.skip ?_; (try dsimp only))
      | (refine WP.blockS ?_; intro K hK)
      | (refine WP.blockK ?_; intro K hK)
      | (refine WP.exitS ?_; simp only [ite_true, ite_false, reduceIte])
      | (refine WP.exit ?_; simp only [ite_true, ite_false, reduceIte])
      | (refine WP.retS ?_; (try dsimp only); refine ⟨.inr rfl, ?_⟩)
      | (refine WP.ret ?_; (try dsimp only); refine ⟨.inr rfl, ?_⟩)
      | (refine Keep.use (by assumption) ?_; (try dsimp only)))
    simp [engE, Try.results3, *]
  · obtain ⟨sm, hm, hc⟩ := szM_use h
    have hd2 := den_toMachine (t := t.up) (up_fixed ht) m sm
    have hd3 := den_specFirstKids (t := .bo) rfl m hm
    have hd4 := den_implFirstKids (t := .bo) rfl m hm
    have hd5 := den_eqMachine (t := .bo) (u := .bo) rfl rfl m m hm
    have hd6 := den_markMachine m 1 sm (by omega) (by omega) hc
    have hl := kids_sh sm
    obtain ⟨⟨w, c⟩, hk⟩ : ∃ p, kidsOf m = p := ⟨_, rfl⟩
    rw [hk] at hd3 hd4 hl
    have hd7 := den_eqIntS (t := .bo) (u := .bo) rfl rfl w w (by simp at hl; omega)
    simp only [decide_true, Bool.and_self] at hd5 hd7
    by_cases h0 : c = 0
    · subst h0
      simp only [if_true] at hd4
      have hd8 := den_markIntS w 1 (by simpa using hl) (by omega) (by omega)
      have hd9 := den_heldIntS (t := .bo) rfl w.length 1 (by simpa using hl) (by omega) (by omega)
      have n1 : ¬ (1 + (cnt m.1 : Int) + (m.2.length : Int) < 0) := by omega
      have n2 : ¬ (1 + (w.length : Int) < 0) := by omega
      unfold Mach.av at *
      unfold Mach.own at *
      unfold Mach.obs at *
      refine den_of rfl Try.func3 rfl (by kernel_rfl) (by simp [Try.ntmps3]) (by simp) ?_
      repeat' (first
        | refine WP.assoc ?_
        | refine WP.skipS ?_
        | (refine WP.textS rfl ?_; intro K hK; simp [engE, factsE, callsE, marks_take, *]; refine hK _ ?_; clear hK K)
        | (refine WP.textK rfl ?_; intro K hK; simp [engE, factsE, callsE, marks_take, *]; refine hK _ ?_; clear hK K; (try dsimp only))
        | (refine WP.drawnS rfl ?_; intro K hK; simp [keyE, engE, factsE, callsE, marks_take, *]; refine ⟨by kernel_rfl, hK _ ?_⟩; clear hK K)
        | (refine WP.drawnK rfl ?_; intro K hK; simp [keyE, engE, factsE, callsE, marks_take, *]; refine ⟨by kernel_rfl, hK _ ?_⟩; clear hK K; (try dsimp only))
        | (refine WP.textSB ?_; intro K hK; simp [putBack, putBack1, engE, factsE, callsE, marks_take, *]; refine hK _ ?_; clear hK K)
        | (refine WP.textBK ?_; intro K hK; simp [putBack, putBack1, engE, factsE, callsE, marks_take, *]; refine hK _ ?_; clear hK K; (try dsimp only))
        | (refine WP.condS (by simp [engE, *]; rfl) (fun hc => ?_) (fun hc => ?_) <;> (try simp at hc))
        | (refine WP.condE (by simp [engE, *]; rfl) (fun hc => ?_) (fun hc => ?_) <;> (try simp at hc))
        | (refine WP.skip ?_; (try dsimp only))
        | (refine WP.blockS ?_; intro K hK)
        | (refine WP.blockK ?_; intro K hK)
        | (refine WP.exitS ?_; simp only [ite_true, ite_false, reduceIte])
        | (refine WP.exit ?_; simp only [ite_true, ite_false, reduceIte])
        | (refine WP.retS ?_; (try dsimp only); refine ⟨.inr rfl, ?_⟩)
        | (refine WP.ret ?_; (try dsimp only); refine ⟨.inr rfl, ?_⟩)
        | (refine Keep.use (by assumption) ?_; (try dsimp only)))
      simp [engE, Try.results3, *]
    · have hw : w = [] := by
        unfold kidsOf at hk
        split at hk
        · cases hs2 : sFirst m <;> rw [hs2] at hk
          · exact (congrArg Prod.fst hk).symm
          · exact absurd (congrArg Prod.snd hk).symm h0
        · exact (congrArg Prod.fst hk).symm
      subst hw
      simp only [if_neg h0] at hd4
      have he : (decide (([] : List Int) = [])) = true := rfl
      have hd7 : D 17 [.tr .im 1 [], .tr .bo 1 []] [] = some (Bo true, []) := by
        have := den_eqIntS (t := .im) (u := .bo) rfl rfl [] [] (by simp)
        rw [he] at this; exact this
      have hd8 := den_markIntS_nil 1
      have hd9 : D 21 [.tr .im 1 [], I 1] [] = some (I 1, []) := den_heldIntS (t := .im) rfl 0 1 (by omega) (by omega) (by omega)
      clear he
      have n1 : ¬ (1 + (cnt m.1 : Int) + (m.2.length : Int) < 0) := by omega
      unfold Mach.av at *
      unfold Mach.own at *
      unfold Mach.obs at *
      refine den_of rfl Try.func3 rfl (by kernel_rfl) (by simp [Try.ntmps3]) (by simp) ?_
      repeat' (first
        | refine WP.assoc ?_
        | refine WP.skipS ?_
        | (refine WP.textS rfl ?_; intro K hK; simp [engE, factsE, callsE, *]; refine hK _ ?_; clear hK K)
        | (refine WP.textK rfl ?_; intro K hK; simp [engE, factsE, callsE, *]; refine hK _ ?_; clear hK K; (try dsimp only))
        | (refine WP.drawnS rfl ?_; intro K hK; simp [keyE, engE, factsE, callsE, *]; refine ⟨by kernel_rfl, hK _ ?_⟩; clear hK K)
        | (refine WP.drawnK rfl ?_; intro K hK; simp [keyE, engE, factsE, callsE, *]; refine ⟨by kernel_rfl, hK _ ?_⟩; clear hK K; (try dsimp only))
        | (refine WP.textSB ?_; intro K hK; simp [putBack, putBack1, engE, factsE, callsE, *]; refine hK _ ?_; clear hK K)
        | (refine WP.textBK ?_; intro K hK; simp [putBack, putBack1, engE, factsE, callsE, *]; refine hK _ ?_; clear hK K; (try dsimp only))
        | (refine WP.condS (by simp [engE, *]; rfl) (fun hc => ?_) (fun hc => ?_) <;> (try simp at hc))
        | (refine WP.condE (by simp [engE, *]; rfl) (fun hc => ?_) (fun hc => ?_) <;> (try simp at hc))
        | (refine WP.skip ?_; (try dsimp only))
        | (refine WP.blockS ?_; intro K hK)
        | (refine WP.blockK ?_; intro K hK)
        | (refine WP.exitS ?_; simp only [ite_true, ite_false, reduceIte])
        | (refine WP.exit ?_; simp only [ite_true, ite_false, reduceIte])
        | (refine WP.retS ?_; (try dsimp only); refine ⟨.inr rfl, ?_⟩)
        | (refine WP.ret ?_; (try dsimp only); refine ⟨.inr rfl, ?_⟩)
        | (refine Keep.use (by assumption) ?_; (try dsimp only)))
      simp [engE, Try.results3, *]

end Go.AM

