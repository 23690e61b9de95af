/- A law's equation gives what the row asks of the call. -/
import Derived.Test.YtoffdmkgioaohaaFnL
namespace Go.AM
open Go.Proofs Go.ChangeShapes Go.WideShapes Go.ChangeAt Go.RowKit Go.Deep
set_option maxRecDepth 4000
set_option linter.unusedSimpArgs false
set_option linter.unusedVariables false

/-- the picture of the start: nothing is the callee's -/
def startHS (W : World) : HS := { w := W, objs := fun _ => none, gens := fun _ => 0, ep := 0, blk := fun _ => none, cap := fun _ => 0, sub := fun _ => [], X := fun _ => False, Y := fun _ => False }
theorem start_ok (W : World) : HeapOK (startHS W) := ⟨fun o ob e => (by cases e), fun o ob e => (by cases e), fun o ob e => (by cases e), fun o o' ob ob' e => (by cases e)⟩
theorem start_stable {W : World} {b : Nat} (h : b < W.heap.size) : (startHS W).stable b := ⟨h, by rintro ⟨o, ob, e, _⟩; cases e⟩

theorem start_VRs {W : World} {xs : List AV} {vs : List Value} {N : List Nat} (h : TRs W xs vs N) (hl : vs.length = xs.length) (hN : ∀ b ∈ N, b < W.heap.size) : VRs (startHS W) (xs.map (retag .im)) vs :=
  retags_ok (h := startHS W) h hl (fun b hb => ⟨start_stable (hN b hb), fun k => k⟩) trivial

/-- what was there reads as before -/
theorem args_again {H : Type} {enc : TypeId × Value → H} {P : Program} {W W' : World} (hl : laidOutB P = true) (hm : mapsRowed P = true) (hz : ∀ t e, t < P.types.size → P.underlying t = some (.slice e) → 0 < P.cellsOf e)
    {ts : List TypeId} {vs : List Value} {ds : List (DataW H)} {ps : List MemPlace} (ht : ∀ t ∈ ts, t < P.types.size) (h : DataW.TrodAll enc P W 0 (fun _ => true) true ts vs ds ps) (hs : ∀ p ∈ ps, W.sameAt W' p)
    {sp : Nat → Bool} (hsp : ∀ p ∈ ps, sp p.block = true) : DataW.TrodAll enc P W' 0 sp true ts vs ds ps := by
  refine DataW.TrodAll.respare (kids_rows hl hm) hz ht ?_ hsp
  clear hsp
  induction ts generalizing vs ds ps with
  | nil => obtain ⟨rfl, rfl, rfl⟩ := trodAll_nil h; exact h
  | cons t ts ih =>
    obtain ⟨v, vs1, d, ds1, a, b, rfl, rfl, rfl, ⟨n, h1⟩, h2⟩ := trodAll_cons h
    exact ⟨a, b, ⟨n, DataW.trod_carry n _ _ _ h1 fun p hp => hs p (List.mem_append_left _ hp)⟩, ih (fun t ht' => ht t (List.mem_cons_of_mem _ ht')) h2 (fun p hp => hs p (List.mem_append_right _ hp)), rfl⟩

/-- a law that answers true, changes nothing and keeps nothing -/
theorem law_post {H : Type} {enc : TypeId × Value → H} {P : Program} {f : Func} {s : ChangeSpec} {W W' : World} {args : Array Value} {ds gs : List (DataW H)} {before : List MemPlace}
    (hl : laidOutB P = true) (hm : mapsRowed P = true) (hz : ∀ t e, t < P.types.size → P.underlying t = some (.slice e) → 0 < P.cellsOf e) (ht : ∀ t ∈ f.params.toList, t < P.types.size)
    (hW : DataW.Whole enc P f.params.toList s.vars false W args.toList ds gs before) (hv : s.vars = []) {tb : TypeId} (hr : f.resultTypes = #[tb]) (hb : P.underlying tb = some .bool)
    (hs : s.fn H (ds ++ gs) = { results := [.lit (.bool true)], args := ds })
    (hos : W'.os = W.os) (hout : W'.output = W.output) (hsize : W.heap.size ≤ W'.heap.size) (hst : ∀ b, b < W.heap.size → W'.heap[b]? = W.heap[b]?) :
    s.post enc P f false true false false W args (.bool true) W' := by
  have hlt := hW.lt
  have hW0 := hW
  obtain ⟨p, q, hA, hV, rfl, hfz, hnd⟩ := hW
  rw [hv] at hV
  obtain ⟨rfl, rfl⟩ := trodVars_none hV
  have same : ∀ x ∈ p, W.sameAt W' x := by
    intro x hx
    have hb := hlt x (List.mem_append_left _ hx)
    cases x with
    | cell b off =>
      show W'.cell? _ = W.cell? _
      unfold World.cell?
      rw [hst b hb]
    | map b => exact hst b hb
  refine ⟨ds, [], p ++ [], [], p, [], hW0, ?_, ?_, ?_, ⟨hos, hout, ?_⟩, fun e => by cases e⟩
  · rw [hs, hr]
    exact trodAll_cons_mk (shut_bool hb _) trodAll_mk0
  · rw [hs]
    exact args_again hl hm hz ht hA same (fun x hx => by have := hlt x (List.mem_append_left _ hx); simpa using this)
  · rw [hs, hv]; rfl
  · intro i hi
    rw [hst i hi]
    split
    · rename_i c t fr c' t' fr' e1 e2
      rw [e1] at e2; cases e2
      exact ⟨rfl, rfl, rfl, fun _ _ => rfl⟩
    · rename_i es cl es' cl' e1 e2
      rw [e1] at e2; cases e2
      exact .inr ⟨rfl, rfl⟩
    · rfl

/-- from the equation to the call -/
theorem law_call {f : FuncId} {xs : List AV} {W : World} {args : Array Value} (hd : D f xs [] = some (Bo true, [])) (hv : VRs (startHS W) xs args.toList) :
    Calls Try.prog f args W fun e W' => e = .returned (.bool true) ∧ W'.os = W.os ∧ W'.output = W.output ∧ W.heap.size ≤ W'.heap.size ∧ ∀ b, b < W.heap.size → W'.heap[b]? = W.heap[b]? := by
  have k := D_told f xs [] _ hd (startHS W) args.toList (start_ok W) (by funext o; rfl) rfl rfl hv
  refine Calls.mono k ?_
  intro e W' h
  cases e with
  | returned u =>
    obtain ⟨h', b, hu⟩ := h
    have := hu.inv_c
    subst this
    have hw := b.w
    subst hw
    exact ⟨rfl, b.os, b.output, b.size, fun x hx => b.stab x (start_stable hx)⟩
  | panicked c => exact h.elim
  | outgrown => exact h.elim

end Go.AM

