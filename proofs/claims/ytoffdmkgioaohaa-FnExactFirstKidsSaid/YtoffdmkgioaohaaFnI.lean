/- FirstKids, the program's and the reference's. -/
import Derived.Test.YtoffdmkgioaohaaFnH
namespace Go.AM
open Go.Proofs
set_option maxRecDepth 4000
set_option maxHeartbeats 2000000
set_option linter.unusedSimpArgs false
set_option linter.unusedVariables false

/-- the answer of both -/
def kidsOf (m : Mach) : List Int × Int := if machOK m then (match sFirst m with | some w => (w, 0) | none => ([], 5)) else ([], 1)

theorem sIn_sh (n : Nat) (way : List Int) (hw : way.length ≤ n) : ∀ (row : List Int) (kind : Int) (s : List Int × List (List Int)), (∀ w ∈ s.2, w.length ≤ n + 1) → ∀ w ∈ (sIn way row kind s).2, w.length ≤ n + 1
  | [], _, s, h => h
  | x :: row, kind, s, h => by
    rw [sIn]
    refine sIn_sh n way hw row _ _ ?_
    split
    · intro w hw2
      rcases List.mem_append.1 hw2 with h1 | h1
      · exact h w h1
      · simp at h1; subst h1; simp; omega
    · exact h
theorem sOut_sh (m : Mach) : ∀ (f i : Nat) (s : List Int × List (List Int)) (w : List Int), (∀ v ∈ s.2, v.length ≤ i) → sOut m f i s = some w → w.length ≤ i + f
  | 0, _, _, _, _, h => by simp [sOut] at h
  | f + 1, i, s, w, hs, h => by
    rw [sOut] at h
    have hd : (s.2.getD i []).length ≤ i := by
      rw [List.getD_eq_getElem?_getD]
      cases e : s.2[i]? with
      | none => simp
      | some v => simp; exact hs v (List.mem_of_getElem? e)
    split at h
    · split at h
      · cases h; omega
      · have := sOut_sh m f (i + 1) _ w (sIn_sh i _ hd _ _ _ (fun v hv => by have := hs v hv; omega)) h
        omega
    · cases h
theorem sFirst_sh {m : Mach} {w : List Int} (h : sFirst m = some w) : w.length ≤ m.1.length + 1 := by
  have := sOut_sh m _ _ _ w (by simp) h
  omega

theorem den_specFirstKids {t : Tag} (ht : t.fixed = true) (m : Mach) (hm : m.ok) :
    D 14 [m.av t] [] = some (.tup [.sl 0 0 1 0 (kidsOf m).1.length, I (kidsOf m).2], [(0, some (.slice 1 (rowsI (kidsOf m).1)))]) := by
  have hd1 := den_specMachineOK (t := t.up) (up_fixed ht) m hm
  unfold kidsOf
  by_cases h : machOK m = true
  · have hd2 := den_l04First (t := t.up) (up_fixed ht) m h
    obtain ⟨m1, m2, m3, m4⟩ := machOK_use h
    cases hs : sFirst m with
    | none =>
      rw [hs] at hd2
      unfold Mach.av at hd1 hd2 ⊢
      refine den_of rfl Try.func14 rfl (by kernel_rfl) (by simp [Try.ntmps14]) (by simp) ?_
      repeat' (first
        | refine WP.assoc ?_
        | refine WP.skipS ?_
        | (refine WP.textS rfl ?_; intro K hK; simp [engE, factsE, callsE, *]; refine hK _ ?_; clear hK K)
        | (refine WP.textK rfl ?_; intro K hK; simp [engE, factsE, callsE, *]; refine hK _ ?_; clear hK K; (try dsimp only))
        | (refine WP.drawnS rfl ?_; intro K hK; simp [keyE, engE, factsE, callsE, *]; refine ⟨by kernel_rfl, hK _ ?_⟩; clear hK K)
        | (refine WP.drawnK rfl ?_; intro K hK; simp [keyE, engE, factsE, callsE, *]; refine ⟨by kernel_rfl, hK _ ?_⟩; clear hK K; (try dsimp only))
        | (refine WP.textSB ?_; intro K hK; simp [putBack, putBack1, engE, factsE, callsE, *]; refine hK _ ?_; clear hK K)
        | (refine WP.textBK ?_; intro K hK; simp [putBack, putBack1, engE, factsE, callsE, *]; refine hK _ ?_; clear hK K; (try dsimp only))
        | (refine WP.condS (by simp [engE, *]; rfl) (fun hc => ?_) (fun hc => ?_) <;> (try simp at hc))
        | (refine WP.condE (by simp [engE, *]; rfl) (fun hc => ?_) (fun hc => ?_) <;> (try simp at hc))
        | (refine WP.skip ?_; (try dsimp only))
        | (refine WP.blockS ?_; intro K hK)
        | (refine WP.blockK ?_; intro K hK)
        | (refine WP.exitS ?_; simp only [ite_true, ite_false, reduceIte])
        | (refine WP.exit ?_; simp only [ite_true, ite_false, reduceIte])
        | (refine WP.retS ?_; (try dsimp only); refine ⟨.inr rfl, ?_⟩)
        | (refine WP.ret ?_; (try dsimp only); refine ⟨.inr rfl, ?_⟩)
        | (refine Keep.use (by assumption) ?_; (try dsimp only)))
      simp [engE, Try.results14, *]
      rfl
    | some w =>
      rw [hs] at hd2
      have hw := sFirst_sh hs
      have hr : room w.length 8 = true := room_ok (by omega) (by omega) (by omega)
      unfold Mach.av at hd1 hd2 ⊢
      refine den_of rfl Try.func14 rfl (by kernel_rfl) (by simp [Try.ntmps14]) (by simp) ?_
      repeat' (first
        | refine WP.assoc ?_
        | refine WP.skipS ?_
        | (refine WP.textS rfl ?_; intro K hK; simp [engE, factsE, callsE, *]; refine hK _ ?_; clear hK K)
        | (refine WP.textK rfl ?_; intro K hK; simp [engE, factsE, callsE, *]; refine hK _ ?_; clear hK K; (try dsimp only))
        | (refine WP.drawnS rfl ?_; intro K hK; simp [keyE, engE, factsE, callsE, *]; refine ⟨by kernel_rfl, hK _ ?_⟩; clear hK K)
        | (refine WP.drawnK rfl ?_; intro K hK; simp [keyE, engE, factsE, callsE, *]; refine ⟨by kernel_rfl, hK _ ?_⟩; clear hK K; (try dsimp only))
        | (refine WP.textSB ?_; intro K hK; simp [putBack, putBack1, engE, factsE, callsE, *]; refine hK _ ?_; clear hK K)
        | (refine WP.textBK ?_; intro K hK; simp [putBack, putBack1, engE, factsE, callsE, *]; refine hK _ ?_; clear hK K; (try dsimp only))
        | (refine WP.condS (by simp [engE, *]; rfl) (fun hc => ?_) (fun hc => ?_) <;> (try simp at hc))
        | (refine WP.condE (by simp [engE, *]; rfl) (fun hc => ?_) (fun hc => ?_) <;> (try simp at hc))
        | (refine WP.skip ?_; (try dsimp only))
        | (refine WP.blockS ?_; intro K hK)
        | (refine WP.blockK ?_; intro K hK)
        | (refine WP.exitS ?_; simp only [ite_true, ite_false, reduceIte])
        | (refine WP.exit ?_; simp only [ite_true, ite_false, reduceIte])
        | (refine WP.retS ?_; (try dsimp only); refine ⟨.inr rfl, ?_⟩)
        | (refine WP.ret ?_; (try dsimp only); refine ⟨.inr rfl, ?_⟩)
        | (refine Keep.use (by assumption) ?_; (try dsimp only)))
      simp [engE, Try.results14, *]
  · have h : machOK m = false := by simpa using h
    unfold Mach.av at hd1 ⊢
    refine den_of rfl Try.func14 rfl (by kernel_rfl) (by simp [Try.ntmps14]) (by simp) ?_
    repeat' (first
      | refine WP.assoc ?_
      | refine WP.skipS ?_
      | (refine WP.textS rfl ?_; intro K hK; simp [engE, factsE, callsE, *]; refine hK _ ?_; clear hK K)
      | (refine WP.textK rfl ?_; intro K hK; simp [engE, factsE, callsE, *]; refine hK _ ?_; clear hK K; (try dsimp only))
      | (refine WP.drawnS rfl ?_; intro K hK; simp [keyE, engE, factsE, callsE, *]; refine ⟨by kernel_rfl, hK _ ?_⟩; clear hK K)
      | (refine WP.drawnK rfl ?_; intro K hK; simp [keyE, engE, factsE, callsE, *]; refine ⟨by kernel_rfl, hK _ ?_⟩; clear hK K; (try dsimp only))
      | (refine WP.textSB ?_; intro K hK; simp [putBack, putBack1, engE, factsE, callsE, *]; refine hK _ ?_; clear hK K)
      | (refine WP.textBK ?_; intro K hK; simp [putBack, putBack1, engE, factsE, callsE, *]; refine hK _ ?_; clear hK K; (try dsimp only))
      | (refine WP.condS (by simp [engE, *]; rfl) (fun hc => ?_) (fun hc => ?_) <;> (try simp at hc))
      | (refine WP.condE (by simp [engE, *]; rfl) (fun hc => ?_) (fun hc => ?_) <;> (try simp at hc))
      | (refine WP.skip ?_; (try dsimp only))
      | (refine WP.blockS ?_; intro K hK)
      | (refine WP.blockK ?_; intro K hK)
      | (refine WP.exitS ?_; simp only [ite_true, ite_false, reduceIte])
      | (refine WP.exit ?_; simp only [ite_true, ite_false, reduceIte])
      | (refine WP.retS ?_; (try dsimp only); refine ⟨.inr rfl, ?_⟩)
      | (refine WP.ret ?_; (try dsimp only); refine ⟨.inr rfl, ?_⟩)
      | (refine Keep.use (by assumption) ?_; (try dsimp only)))
    simp [engE, Try.results14, *]
    rfl

theorem den_implFirstKids {t : Tag} (ht : t.fixed = true) (m : Mach) (hm : m.ok) :
    D 16 [m.av t] [] = some (if (kidsOf m).2 = 0 then (.tup [.sl 0 0 1 0 (kidsOf m).1.length, I 0], [(0, some (.slice 1 (rowsI (kidsOf m).1)))])
      else (.tup [nilS, I (kidsOf m).2], [])) := by
  have hd1 := den_implMachineOK (t := t.up) (up_fixed ht) m hm
  unfold kidsOf
  by_cases h : machOK m = true
  · have hd2 := den_firstKids (t := t.up) (up_fixed ht) m h
    obtain ⟨m1, m2, m3, m4⟩ := machOK_use h
    cases hs : sFirst m with
    | none =>
      rw [hs] at hd2
      unfold Mach.av at hd1 hd2 ⊢
      refine den_of rfl Try.func16 rfl (by kernel_rfl) (by simp [Try.ntmps16]) (by simp) ?_
      repeat' (first
        | refine WP.assoc ?_
        | refine WP.skipS ?_
        | (refine WP.textS rfl ?_; intro K hK; simp [engE, factsE, callsE, *]; refine hK _ ?_; clear hK K)
        | (refine WP.textK rfl ?_; intro K hK; simp [engE, factsE, callsE, *]; refine hK _ ?_; clear hK K; (try dsimp only))
        | (refine WP.drawnS rfl ?_; intro K hK; simp [keyE, engE, factsE, callsE, *]; refine ⟨by kernel_rfl, hK _ ?_⟩; clear hK K)
        | (refine WP.drawnK rfl ?_; intro K hK; simp [keyE, engE, factsE, callsE, *]; refine ⟨by kernel_rfl, hK _ ?_⟩; clear hK K; (try dsimp only))
        | (refine WP.textSB ?_; intro K hK; simp [putBack, putBack1, engE, factsE, callsE, *]; refine hK _ ?_; clear hK K)
        | (refine WP.textBK ?_; intro K hK; simp [putBack, putBack1, engE, factsE, callsE, *]; refine hK _ ?_; clear hK K; (try dsimp only))
        | (refine WP.condS (by simp [engE, *]; rfl) (fun hc => ?_) (fun hc => ?_) <;> (try simp at hc))
        | (refine WP.condE (by simp [engE, *]; rfl) (fun hc => ?_) (fun hc => ?_) <;> (try simp at hc))
        | (refine WP.skip ?_; (try dsimp only))
        | (refine WP.blockS ?_; intro K hK)
        | (refine WP.blockK ?_; intro K hK)
        | (refine WP.exitS ?_; simp only [ite_true, ite_false, reduceIte])
        | (refine WP.exit ?_; simp only [ite_true, ite_false, reduceIte])
        | (refine WP.retS ?_; (try dsimp only); refine ⟨.inr rfl, ?_⟩)
        | (refine WP.ret ?_; (try dsimp only); refine ⟨.inr rfl, ?_⟩)
        | (refine Keep.use (by assumption) ?_; (try dsimp only)))
      simp [engE, Try.results16, *]
    | some w =>
      rw [hs] at hd2
      unfold Mach.av at hd1 hd2 ⊢
      refine den_of rfl Try.func16 rfl (by kernel_rfl) (by simp [Try.ntmps16]) (by simp) ?_
      repeat' (first
        | refine WP.assoc ?_
        | refine WP.skipS ?_
        | (refine WP.textS rfl ?_; intro K hK; simp [engE, factsE, callsE, *]; refine hK _ ?_; clear hK K)
        | (refine WP.textK rfl ?_; intro K hK; simp [engE, factsE, callsE, *]; refine hK _ ?_; clear hK K; (try dsimp only))
        | (refine WP.drawnS rfl ?_; intro K hK; simp [keyE, engE, factsE, callsE, *]; refine ⟨by kernel_rfl, hK _ ?_⟩; clear hK K)
        | (refine WP.drawnK rfl ?_; intro K hK; simp [keyE, engE, factsE, callsE, *]; refine ⟨by kernel_rfl, hK _ ?_⟩; clear hK K; (try dsimp only))
        | (refine WP.textSB ?_; intro K hK; simp [putBack, putBack1, engE, factsE, callsE, *]; refine hK _ ?_; clear hK K)
        | (refine WP.textBK ?_; intro K hK; simp [putBack, putBack1, engE, factsE, callsE, *]; refine hK _ ?_; clear hK K; (try dsimp only))
        | (refine WP.condS (by simp [engE, *]; rfl) (fun hc => ?_) (fun hc => ?_) <;> (try simp at hc))
        | (refine WP.condE (by simp [engE, *]; rfl) (fun hc => ?_) (fun hc => ?_) <;> (try simp at hc))
        | (refine WP.skip ?_; (try dsimp only))
        | (refine WP.blockS ?_; intro K hK)
        | (refine WP.blockK ?_; intro K hK)
        | (refine WP.exitS ?_; simp only [ite_true, ite_false, reduceIte])
        | (refine WP.exit ?_; simp only [ite_true, ite_false, reduceIte])
        | (refine WP.retS ?_; (try dsimp only); refine ⟨.inr rfl, ?_⟩)
        | (refine WP.ret ?_; (try dsimp only); refine ⟨.inr rfl, ?_⟩)
        | (refine Keep.use (by assumption) ?_; (try dsimp only)))
      simp [engE, Try.results16, *]
  · have h : machOK m = false := by simpa using h
    unfold Mach.av at hd1 ⊢
    refine den_of rfl Try.func16 rfl (by kernel_rfl) (by simp [Try.ntmps16]) (by simp) ?_
    repeat' (first
      | refine WP.assoc ?_
      | refine WP.skipS ?_
      | (refine WP.textS rfl ?_; intro K hK; simp [engE, factsE, callsE, *]; refine hK _ ?_; clear hK K)
      | (refine WP.textK rfl ?_; intro K hK; simp [engE, factsE, callsE, *]; refine hK _ ?_; clear hK K; (try dsimp only))
      | (refine WP.drawnS rfl ?_; intro K hK; simp [keyE, engE, factsE, callsE, *]; refine ⟨by kernel_rfl, hK _ ?_⟩; clear hK K)
      | (refine WP.drawnK rfl ?_; intro K hK; simp [keyE, engE, factsE, callsE, *]; refine ⟨by kernel_rfl, hK _ ?_⟩; clear hK K; (try dsimp only))
      | (refine WP.textSB ?_; intro K hK; simp [putBack, putBack1, engE, factsE, callsE, *]; refine hK _ ?_; clear hK K)
      | (refine WP.textBK ?_; intro K hK; simp [putBack, putBack1, engE, factsE, callsE, *]; refine hK _ ?_; clear hK K; (try dsimp only))
      | (refine WP.condS (by simp [engE, *]; rfl) (fun hc => ?_) (fun hc => ?_) <;> (try simp at hc))
      | (refine WP.condE (by simp [engE, *]; rfl) (fun hc => ?_) (fun hc => ?_) <;> (try simp at hc))
      | (refine WP.skip ?_; (try dsimp only))
      | (refine WP.blockS ?_; intro K hK)
      | (refine WP.blockK ?_; intro K hK)
      | (refine WP.exitS ?_; simp only [ite_true, ite_false, reduceIte])
      | (refine WP.exit ?_; simp only [ite_true, ite_false, reduceIte])
      | (refine WP.retS ?_; (try dsimp only); refine ⟨.inr rfl, ?_⟩)
      | (refine WP.ret ?_; (try dsimp only); refine ⟨.inr rfl, ?_⟩)
      | (refine Keep.use (by assumption) ?_; (try dsimp only)))
    simp [engE, Try.results16, *]

end Go.AM

