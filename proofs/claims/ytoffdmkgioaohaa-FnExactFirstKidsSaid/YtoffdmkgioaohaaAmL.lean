/- append. -/
import Derived.Test.YtoffdmkgioaohaaAmK
import Derived.Laws.Append
namespace Go.AM

section
variable {P : Program} {o : Oper} {σ : St} {a : Act} {h : HS}

/-- an object is made out of others, in a new block or in one of theirs -/
theorem ok_make (r : Rel σ a h) (hd : ∀ t, o.dst = some t → t < a.tmps.size) {V : AV} {v : Value} {id : Nat} {ob : Ob} {ks : List Nat} {w' : World} {bl : Option Nat} {cap : Nat} {N : List Nat} (hk : id ∉ ks)
    (hrun : (execOp a.eval o).run P h.w = .ok (.value v) w') (hsize : h.w.heap.size ≤ w'.heap.size) (hos : w'.os = h.w.os) (htape : w'.tape = h.w.tape) (hout : w'.output = h.w.output)
    (hheap : ∀ b, b < h.w.heap.size → w'.heap[b]? = h.w.heap[b]? ∨ ∃ o1 ob1, h.objs o1 = some ob1 ∧ h.blk o1 = some b ∧ (o1 = id ∨ o1 ∈ ks))
    (hbl : ∀ b, bl = some b → b < w'.heap.size ∧ b ∉ N ∧ (h.w.heap.size ≤ b ∨ ∃ o1 ob1, h.objs o1 = some ob1 ∧ h.blk o1 = some b ∧ (o1 = id ∨ o1 ∈ ks)))
    (hN : N.Nodup) (hsub : ∀ b ∈ N, ∃ o1 ob1, h.objs o1 = some ob1 ∧ b ∈ h.blocks o1 ∧ (o1 = id ∨ o1 ∈ ks))
    (hob : ∀ h' : HS, Ev h h' → h'.w = w' → h'.blk id = bl → h'.cap id = cap → h'.sub id = N → h'.objs id = some ob → h'.gens id = σ.gens id + 1 → ObOK h' id ob ∧ VR h' V v) :
    OpOK P o σ { val := V, objs := (id, some ob, σ.gens id + 1) :: killed σ ks } a h := by
  obtain ⟨e1, e2, e3⟩ := apply_one σ o.dst V id (some ob) (σ.gens id + 1) ks hk false
  let h' := h.turn w' (fun o => if o ∈ ks then none else if o = id then some ob else σ.objs o) (fun o => if o = id then σ.gens id + 1 else σ.gens o) σ.ep id bl cap N
  have hlt : ∀ b ∈ N, b < h.w.heap.size := by
    intro b hb
    obtain ⟨o1, ob1, k1, k2, _⟩ := hsub b hb
    exact r.ok.lt o1 ob1 k1 b k2
  have hid : h'.objs id = some ob := by simp [h', HS.turn, hk]
  have hblocks : h'.blocks id = bl.toList ++ N := by simp [HS.blocks, h', HS.turn]
  have dead : ∀ o1, o1 = id ∨ o1 ∈ ks → o1 = id ∨ h'.objs o1 = none := fun o1 k => k.imp (fun k => k) fun k => by simp [h', HS.turn, k]
  have key : HeapOK h' ∧ Ev h h' := by
    refine reconf (fun o => o = id) r.ok hos htape hout hsize rfl rfl (Nat.le_of_eq r.ep) ?_ ?_ ?_ ?_ ?_ ?_
    · intro q hq
      by_cases hqk : q ∈ ks
      · exact .inl (by simp [h', HS.turn, hqk])
      · exact .inr ⟨by simp [h', HS.turn, hqk, hq, r.objs], by simp [h', HS.turn, hq], by simp [h', HS.turn, hq], by simp [h', HS.turn, hq]⟩
    · intro q
      by_cases hq : q = id
      · subst hq; simp [h', HS.turn, r.gens]
      · simp [h', HS.turn, hq, r.gens]
    · intro b hb
      rcases hheap b hb with k | ⟨o1, ob1, k1, k2, k3⟩
      · exact .inl k
      · exact .inr ⟨o1, ob1, k1, by simp [HS.blocks, k2], dead o1 k3, fun _ => k2⟩
    · rintro q ob' rfl hq
      rw [hid] at hq; cases hq
      refine ⟨fun ev => (hob h' ev rfl (by simp [h', HS.turn]) (by simp [h', HS.turn]) (by simp [h', HS.turn]) hid (by simp [h', HS.turn])).1, ?_, ?_, ?_⟩
      · rw [hblocks]
        cases bl with
        | none => simpa using hN
        | some b => exact List.nodup_cons.2 ⟨(hbl b rfl).2.1, hN⟩
      · rw [hblocks]
        intro b hb
        rcases List.mem_append.1 hb with hb | hb
        · have hb : bl = some b := by simpa using hb
          obtain ⟨k1, k2, k3⟩ := hbl b hb
          refine ⟨k1, k3.imp id ?_⟩
          rintro ⟨o1, ob1, j1, j2, j3⟩
          exact ⟨o1, ob1, j1, by simp [HS.blocks, j2], dead o1 j3⟩
        · obtain ⟨o1, ob1, k1, k2, k3⟩ := hsub b hb
          exact ⟨Nat.lt_of_lt_of_le (hlt b hb) hsize, .inr ⟨o1, ob1, k1, k2, dead o1 k3⟩⟩
      · intro hg
        simp [h', HS.turn, r.gens] at hg
    · rintro q q' ob1 ob2 rfl rfl _ _ hne
      exact absurd rfl hne
    · rintro _ q ob1 b rfl _ hb
      have hb : bl = some b := by simpa [h', HS.turn] using hb
      obtain ⟨_, _, k3⟩ := hbl b hb
      refine k3.imp id ?_
      rintro ⟨o1, ob1, j1, j2, _⟩
      exact ⟨o1, ob1, j1, j2⟩
  obtain ⟨hok, hev⟩ := key
  have hvr := (hob h' hev rfl (by simp [h', HS.turn]) (by simp [h', HS.turn]) (by simp [h', HS.turn]) hid (by simp [h', HS.turn])).2
  exact OpOK.value (h' := h') r hd hrun hvr hok hev e1.symm e2.symm (by rw [e3]; rfl)

/-! #### writing cells -/

def putRow (w : World) (b : Nat) (cs : Array Value) (ty : TypeId) (fr : Nat × Nat) : World := { w with heap := w.heap.setIfInBounds b (.cells cs ty fr) }

theorem setCell_eq {w : World} {b i : Nat} {v : Value} {cs : Array Value} {ty : TypeId} {fr : Nat × Nat} (hb : w.heap[b]? = some (.cells cs ty fr)) :
    w.setCell ⟨b, i, none⟩ v = putRow w b (cs.setIfInBounds i v) ty fr := by
  unfold World.setCell putRow
  congr 1
  apply Array.ext_getElem?
  intro j
  rw [Array.getElem?_modify, Array.getElem?_setIfInBounds]
  by_cases e : b = j
  · subst e
    obtain ⟨hlt, hb'⟩ := Array.getElem?_eq_some_iff.1 hb
    simp [hb', hlt]
  · simp [e]

theorem putRow_at {w : World} {b : Nat} {cs cs' : Array Value} {ty : TypeId} {fr : Nat × Nat} (hb : w.heap[b]? = some (.cells cs ty fr)) : (putRow w b cs' ty fr).heap[b]? = some (.cells cs' ty fr) := by
  have hlt : b < w.heap.size := (Array.getElem?_eq_some_iff.1 hb).1
  simp [putRow, hlt]
theorem putRow_far {w : World} {b j : Nat} {cs' : Array Value} {ty : TypeId} {fr : Nat × Nat} (hj : b ≠ j) : (putRow w b cs' ty fr).heap[j]? = w.heap[j]? := by
  simp [putRow, hj]
theorem putRow_size {w : World} {b : Nat} {cs' : Array Value} {ty : TypeId} {fr : Nat × Nat} : (putRow w b cs' ty fr).heap.size = w.heap.size := by simp [putRow]
theorem putRow_twice {w : World} {b : Nat} {c1 c2 : Array Value} {ty : TypeId} {fr : Nat × Nat} : putRow (putRow w b c1 ty fr) b c2 ty fr = putRow w b c2 ty fr := by
  simp [putRow]

def spliceV (cs : List Value) (j : Nat) (vs : List Value) : List Value := cs.take j ++ vs ++ cs.drop (j + vs.length)

theorem spliceV_cons (cs : Array Value) (j : Nat) (v : Value) (vs : List Value) (hj : j < cs.size) : spliceV (cs.setIfInBounds j v).toList (j + 1) vs = spliceV cs.toList j (v :: vs) := by
  unfold spliceV
  rw [Array.toList_setIfInBounds]
  have h1 : j < cs.toList.length := by simpa using hj
  apply List.ext_getElem?
  intro i
  simp only [List.append_assoc, List.length_cons]
  by_cases h2 : i < j
  · rw [List.getElem?_append_left (by simp; omega), List.getElem?_append_left (by simp; omega), List.getElem?_take, List.getElem?_take, if_pos (by omega), if_pos h2, List.getElem?_set_ne (by omega)]
  · have l1 : ((cs.toList.set j v).take (j + 1)).length = j + 1 := by simp; omega
    have l2 : (cs.toList.take j).length = j := by simp; omega
    by_cases h3 : i = j
    · subst h3
      rw [List.getElem?_append_left (by rw [l1]; omega), List.getElem?_take, if_pos (by omega), List.getElem?_set_self h1, List.getElem?_append_right (by rw [l2]; omega), l2]
      simp
    · rw [List.getElem?_append_right (l₁ := (cs.toList.set j v).take (j + 1)) (by rw [l1]; omega), List.getElem?_append_right (l₁ := cs.toList.take j) (by rw [l2]; omega), l1, l2]
      rw [show i - j = (i - (j + 1)) + 1 by omega, List.cons_append, List.getElem?_cons_succ]
      by_cases h4 : i - (j + 1) < vs.length
      · rw [List.getElem?_append_left h4, List.getElem?_append_left h4]
      · rw [List.getElem?_append_right (by omega), List.getElem?_append_right (by omega), List.getElem?_drop, List.getElem?_drop, List.getElem?_set_ne (by omega)]
        congr 1
        omega

theorem cells_frozen {w : World} {b i : Nat} {cs : Array Value} {ty : TypeId} {fr : Nat × Nat} (hb : w.heap[b]? = some (.cells cs ty fr)) (ht : thawed cs fr) (hi : i < cs.size) :
    w.frozen? ⟨b, i, none⟩ = false := by
  simp only [World.frozen?, hb]
  have := ht i hi
  simp only [Bool.and_eq_false_iff, decide_eq_false_iff_not]
  omega

theorem run_store1 {w : World} {b i : Nat} {v : Value} {cs : Array Value} {ty : TypeId} {fr : Nat × Nat} (hb : w.heap[b]? = some (.cells cs ty fr)) (ht : thawed cs fr) (hi : i < cs.size) (hv : cellV v = true) :
    (store ⟨b, i, none⟩ v).run P w = .ok () (putRow w b (cs.setIfInBounds i v) ty fr) := by
  have hc : w.cell? ⟨b, i, none⟩ = some cs[i] := by rw [cell_at hb, Array.getElem?_eq_getElem hi]
  have hf := cells_frozen hb ht hi
  unfold store
  cases v <;> first | (simp [cellV] at hv; done) | simp [Sem.run, hc, hf, setCell_eq hb]

theorem run_storeAll {b ty : Nat} {fr : Nat × Nat} : ∀ (vs : List Value) (off i : Nat) (cs : Array Value) (w : World), w.heap[b]? = some (.cells cs ty fr) → thawed cs fr → off + i + vs.length ≤ cs.size → (∀ v ∈ vs, cellV v = true) →
    (storeCells ⟨b, off, none⟩ vs i).run P w = .ok () (putRow w b (spliceV cs.toList (off + i) vs).toArray ty fr)
  | [], off, i, cs, w, hb, _, _, _ => by
    have : putRow w b (spliceV cs.toList (off + i) []).toArray ty fr = w := by
      simp only [spliceV, List.append_nil, List.length_nil, Nat.add_zero, List.take_append_drop, Array.toArray_toList]
      unfold putRow
      have : w.heap.setIfInBounds b (.cells cs ty fr) = w.heap := by
        apply Array.ext_getElem?
        intro j
        rw [Array.getElem?_setIfInBounds]
        by_cases e : b = j
        · subst e
          obtain ⟨hlt, hb'⟩ := Array.getElem?_eq_some_iff.1 hb
          simp [hlt, hb']
        · simp [e]
      rw [this]
    rw [this]
    rfl
  | v :: vs, off, i, cs, w, hb, ht, hl, hv => by
    simp only [List.length_cons] at hl
    unfold storeCells
    rw [add_plain]
    simp only [Sem.run_bind, run_store1 hb ht (show off + i < cs.size by omega) (hv v (by simp)), Result.andThen]
    rw [run_storeAll vs off (i + 1) (cs.setIfInBounds (off + i) v) _ (putRow_at hb) (by intro j hj; exact ht j (by simpa using hj)) (by simp; omega) (fun v hv' => hv v (by simp [hv'])), putRow_twice]
    rw [← Nat.add_assoc, spliceV_cons _ _ _ _ (by omega)]

end
end Go.AM
