/- The statement FnExactFirstKids: whatever automaton comes in, the law answers true and changes nothing. No condition. -/
import Derived.Test.YtoffdmkgioaohaaFnM
import Derived.Test.YtoffdmkgioaohaaFnJ
namespace Go.Proofs.Ytoffdmkgioaohaa.firstKids
open Go.AM Go.Proofs Go.ChangeShapes Go.WideShapes Go.ChangeAt Go.RowKit Go.Deep
set_option maxRecDepth 4000
set_option linter.unusedVariables false

theorem own : ownKnob Try.prog.godebug = none := by kernel_rfl
theorem laid : laidOutB Try.prog = true := by kernel_rfl
theorem rowed : mapsRowed Try.prog = true := by kernel_rfl
theorem sized : ∀ t e, t < Try.prog.types.size → Try.prog.underlying t = some (.slice e) → 0 < Try.prog.cellsOf e := slices_full_of _ (by kernel_rfl)

theorem c1 : Try.prog.cellsOf 3 = 1 := by kernel_rfl
theorem c2 : Try.prog.cellsOf 4 = 1 := by kernel_rfl
theorem c3 : Try.prog.cellsOf 27 = 1 := by kernel_rfl
theorem c4 : Try.prog.cellsOf 22 = 1 := by kernel_rfl
theorem c5 : Try.prog.cellsOf 23 = 1 := by kernel_rfl

theorem reads : Reads Try.prog 25 Mach (fun m => [.tr .im 1 (rowsII m.1), .tr .im 1 (rowsB m.2)]) (fun m => m.fit) := by
  intro H enc w base n cs x h
  have r1 := reads_slice (reads_int Try.underlying3 c1) Try.underlying27 c3 (by rw [c1]; decide)
  have r2 := reads_slice r1 Try.underlying22 c4 (by rw [c3]; decide)
  have r3 := reads_slice (reads_bool Try.underlying4 c2) Try.underlying23 c5 (by rw [c2]; decide)
  obtain ⟨a, N, h1, h2, ⟨⟨h3, h4⟩, h5, _⟩, h6, h7⟩ := reads_two r2 r3 Try.underlying25 rfl c4.symm (by kernel_rfl) H enc w base n cs x h
  rw [c1, c2, c3] at h1
  have e : maxLen = 2^63 - 1 := rfl
  refine ⟨a, N, h1, h2, ⟨by omega, fun r hr => ?_, by omega⟩, h6, h7⟩
  have := (h4 r hr).1
  omega

theorem contract (H : Type) (enc : TypeId × Value → H) (W : World) (base : Nat) (args : Array Value) (ds gs : List (DataW H)) (before : List MemPlace)
    (hval : ∀ (j : Nat) t v, Try.f3.params[j]? = some t → args[j]? = some v → Value.okWide Try.prog W .any base t v)
    (hW : DataW.Whole enc Try.prog Try.f3.params.toList Rows.fnExactFirstKidsSpec.vars false W args.toList ds gs before) :
    Calls Try.prog 3 args W fun e W' => ∃ v, e = .returned v ∧ Rows.fnExactFirstKidsSpec.post enc Try.prog Try.f3 false true false false W args v W' := by
  have hW' := hW
  obtain ⟨p, q, hA0, hV, rfl, hfz, hnd⟩ := hW
  have hA : DataW.TrodAll enc Try.prog W 0 (fun _ => true) true Try.f3.params.toList args.toList ds p := hA0
  rw [Try.params3] at hA hval
  obtain ⟨v0, vs0, d0, ds0, p0, q0, hargs, rfl, rfl, ⟨n, h0⟩, r0⟩ := trodAll_cons hA
  obtain ⟨rfl, rfl, rfl⟩ := trodAll_nil r0
  obtain rfl : args = #[v0] := by cases args; simp_all
  obtain ⟨rfl, rfl⟩ := trodVars_none hV
  have hv0 := hval 0 25 v0 rfl rfl
  unfold Value.okWide at hv0
  rw [Try.underlying25] at hv0
  obtain ⟨cs, rfl, _, _⟩ := hv0
  obtain ⟨m, N, k1, k2, k3, k4, k5⟩ := reads H enc W 0 n _ _ h0
  have hvr : VRs (startHS W) [m.av .im] [.agg cs] := by
    have := start_VRs k1 (by rw [k5]; exact k4.symm) k2
    have q := VR.agg _ _ this
    have e : cs.toList.toArray = cs := by simp
    exact .cons _ _ [] [] (by rw [← e]; exact q) .nil
  refine Calls.mono (law_call (den_FnExactFirstKids (t := .im) rfl m k3) hvr) ?_
  rintro e W' ⟨rfl, j1, j2, j3, j4⟩
  exact ⟨_, rfl, law_post (tb := 4) laid rowed sized (by intro t ht; rw [Try.params3] at ht; simp at ht; subst ht; exact of_decide_eq_true (by kernel_rfl)) hW' rfl rfl Try.underlying4 rfl j1 j2 j3 j4⟩

set_option maxRecDepth 100000 in
theorem lifted (os : Os) (started : os.Started) (H : Type) (enc : TypeId × Value → H) :
    ReturnsInHanded {} Try.checked os 3 .any (Rows.fnExactFirstKidsSpec.pre6 enc Try.prog Try.f3 Rows.fnExactFirstKidsRow.domain false) (Rows.fnExactFirstKidsSpec.post enc Try.prog Try.f3 false true false false) := by
  refine returnsInHanded_of_change (C := Try.checked) own started (by kernel_rfl) Try.func3
    (ChangeSpec.witness6 (enc := enc) (C := Try.checked) false ⟨#[], #[.agg #[.slice none 0 0, .slice none 0 0]], []⟩ 8 (by kernel_rfl) (by kernel_rfl) (by kernel_rfl) (by kernel_rfl)) ?_
  intro W base args ds gs before hval hW _ _
  exact contract H enc W base args ds gs before hval hW

theorem over : Rows.fnExactFirstKidsRow.holds Try.pinned (OpenSpec.ofChange Rows.fnExactFirstKidsSpec) :=
  OpenClaim.holds_of_wide 3 Try.f3 rfl rfl rfl rfl rfl rfl rfl ⟨rfl, rfl, rfl, rfl, rfl⟩ rfl rfl rfl rfl rfl (by kernel_rfl) Try.func3 (by kernel_rfl)
    (of_decide_eq_true (by kernel_rfl)) (by unfold Func.isWrapper; first | (rw [if_pos (by decide +kernel)]; kernel_rfl) | (rw [if_neg (by decide +kernel)]; exact ⟨rfl, rfl⟩))
    (fun os started H enc _ => lifted os started H enc)

theorem proved : Rows.FnExactFirstKidsSaid :=
  over
end Go.Proofs.Ytoffdmkgioaohaa.firstKids
namespace Go.Proofs.Ytoffdmkgioaohaa
theorem firstKids_holds : Rows.FnExactFirstKidsSaid := firstKids.proved
end Go.Proofs.Ytoffdmkgioaohaa
#print axioms Go.Proofs.Ytoffdmkgioaohaa.firstKids_holds

