/- Operations that make an object. -/
import Derived.Test.YtoffdmkgioaohaaAmI
namespace Go.AM

theorem killed_fold (σ : St) : ∀ (ks : List Nat) (s : St), ((killed σ ks).foldl St.setObj s).objs = (fun o => if o ∈ ks then none else s.objs o) ∧
    ((killed σ ks).foldl St.setObj s).gens = (fun o => if o ∈ ks then σ.gens o else s.gens o) ∧ ((killed σ ks).foldl St.setObj s).ep = s.ep
  | [], s => by simp [killed]
  | k :: ks, s => by
    obtain ⟨h1, h2, h3⟩ := killed_fold σ ks (s.setObj (k, none, σ.gens k))
    simp only [killed, List.map_cons, List.foldl_cons] at h1 h2 h3 ⊢
    refine ⟨?_, ?_, h3⟩
    · rw [h1]; funext o
      simp only [St.setObj, List.mem_cons]
      by_cases h4 : o ∈ ks <;> by_cases h5 : o = k <;> simp [h4, h5]
    · rw [h2]; funext o
      simp only [St.setObj, List.mem_cons]
      by_cases h4 : o ∈ ks <;> by_cases h5 : o = k <;> simp [h4, h5]

theorem apply_one (σ : St) (d : Option Tmp) (v : AV) (id : Nat) (ob : Option Ob) (g : Nat) (ks : List Nat) (hk : id ∉ ks) (e : Bool) :
    (σ.apply d { val := v, objs := (id, ob, g) :: killed σ ks, ep := e }).objs = (fun o => if o ∈ ks then none else if o = id then ob else σ.objs o) ∧
    (σ.apply d { val := v, objs := (id, ob, g) :: killed σ ks, ep := e }).gens = (fun o => if o = id then g else σ.gens o) ∧
    (σ.apply d { val := v, objs := (id, ob, g) :: killed σ ks, ep := e }).ep = if e then σ.ep + 1 else σ.ep := by
  obtain ⟨h1, h2, h3⟩ := killed_fold σ ks (σ.setObj (id, ob, g))
  have e1 : (σ.apply d { val := v, objs := (id, ob, g) :: killed σ ks, ep := e }).objs = ((killed σ ks).foldl St.setObj (σ.setObj (id, ob, g))).objs := by
    cases d <;> cases e <;> simp [St.apply, St.put]
  have e2 : (σ.apply d { val := v, objs := (id, ob, g) :: killed σ ks, ep := e }).gens = ((killed σ ks).foldl St.setObj (σ.setObj (id, ob, g))).gens := by
    cases d <;> cases e <;> simp [St.apply, St.put]
  have e3 : (σ.apply d { val := v, objs := (id, ob, g) :: killed σ ks, ep := e }).ep = if e then ((killed σ ks).foldl St.setObj (σ.setObj (id, ob, g))).ep + 1 else ((killed σ ks).foldl St.setObj (σ.setObj (id, ob, g))).ep := by
    cases d <;> cases e <;> simp [St.apply, St.put]
  refine ⟨?_, ?_, ?_⟩
  · rw [e1, h1]; rfl
  · rw [e2, h2]; funext o
    simp only [St.setObj]
    by_cases h4 : o ∈ ks
    · have : o ≠ id := fun h => hk (h ▸ h4)
      simp [h4, this]
    · simp [h4]
  · rw [e3, h3]; rfl

section
variable {P : Program} {o : Oper} {σ : St} {a : Act} {h : HS}

/-- the picture with one object turned -/
def HS.turn (h : HS) (w : World) (objs : Nat → Option Ob) (gens : Nat → Nat) (ep : Nat) (id : Nat) (b : Option Nat) (cap : Nat) (sub : List Nat) : HS :=
  { h with w := w, objs := objs, gens := gens, ep := ep, blk := fun o => if o = id then b else h.blk o, cap := fun o => if o = id then cap else h.cap o, sub := fun o => if o = id then sub else h.sub o }

/-- a new object in a new block; what goes into it is gone by itself -/
theorem ok_new (r : Rel σ a h) (hd : ∀ t, o.dst = some t → t < a.tmps.size) {V : AV} {v : Value} {id : Nat} {ob : Ob} {ks : List Nat} {w' : World} {bo : _root_.Go.Obj} {cap : Nat} {N : List Nat} (hk : id ∉ ks)
    (hrun : (execOp a.eval o).run P h.w = .ok (.value v) w') (hheap : w'.heap = h.w.heap.push bo) (hos : w'.os = h.w.os) (htape : w'.tape = h.w.tape) (hout : w'.output = h.w.output)
    (hN : N.Nodup) (hsub : ∀ b ∈ N, ∃ o1 ob1, h.objs o1 = some ob1 ∧ b ∈ h.blocks o1 ∧ (o1 = id ∨ o1 ∈ ks))
    (hob : ∀ h' : HS, Ev h h' → h'.w = w' → h'.blk id = some h.w.heap.size → h'.cap id = cap → h'.sub id = N → h'.objs id = some ob → h'.gens id = σ.gens id + 1 → ObOK h' id ob ∧ VR h' V v) :
    OpOK P o σ { val := V, objs := (id, some ob, σ.gens id + 1) :: killed σ ks } a h := by
  obtain ⟨e1, e2, e3⟩ := apply_one σ o.dst V id (some ob) (σ.gens id + 1) ks hk false
  let h' := h.turn w' (fun o => if o ∈ ks then none else if o = id then some ob else σ.objs o) (fun o => if o = id then σ.gens id + 1 else σ.gens o) σ.ep id (some h.w.heap.size) cap N
  have hsize : h.w.heap.size ≤ w'.heap.size := by rw [hheap]; simp
  have hlt : ∀ b ∈ N, b < h.w.heap.size := by
    intro b hb
    obtain ⟨o1, ob1, k1, k2, _⟩ := hsub b hb
    exact r.ok.lt o1 ob1 k1 b k2
  have hid : h'.objs id = some ob := by simp [h', HS.turn, hk]
  have hblocks : h'.blocks id = h.w.heap.size :: N := by simp [HS.blocks, h', HS.turn]
  have key : HeapOK h' ∧ Ev h h' := by
    refine reconf (fun o => o = id) r.ok hos htape hout hsize rfl rfl (Nat.le_of_eq r.ep) ?_ ?_ ?_ ?_ ?_ ?_
    · intro q hq
      by_cases hqk : q ∈ ks
      · exact .inl (by simp [h', HS.turn, hqk])
      · exact .inr ⟨by simp [h', HS.turn, hqk, hq, r.objs], by simp [h', HS.turn, hq], by simp [h', HS.turn, hq], by simp [h', HS.turn, hq]⟩
    · intro q
      by_cases hq : q = id
      · subst hq; simp [h', HS.turn, r.gens]
      · simp [h', HS.turn, hq, r.gens]
    · intro b hb
      refine .inl ?_
      show w'.heap[b]? = _
      rw [hheap, Array.getElem?_push, if_neg (by omega)]
    · rintro q ob' rfl hq
      rw [hid] at hq; cases hq
      refine ⟨fun ev => (hob h' ev rfl (by simp [h', HS.turn]) (by simp [h', HS.turn]) (by simp [h', HS.turn]) hid (by simp [h', HS.turn])).1, ?_, ?_, ?_⟩
      · rw [hblocks]
        exact List.nodup_cons.2 ⟨fun hm => Nat.lt_irrefl _ (hlt _ hm), hN⟩
      · rw [hblocks]
        intro b hb
        rcases List.mem_cons.1 hb with rfl | hb
        · exact ⟨by show _ < w'.heap.size; rw [hheap]; simp, .inl (Nat.le_refl _)⟩
        · obtain ⟨o1, ob1, k1, k2, k3⟩ := hsub b hb
          refine ⟨Nat.lt_of_lt_of_le (hlt b hb) hsize, .inr ⟨o1, ob1, k1, k2, k3.imp id fun k => ?_⟩⟩
          simp [h', HS.turn, k]
      · intro hg
        simp [h', HS.turn, r.gens] at hg
    · rintro q q' ob1 ob2 rfl rfl _ _ hne
      exact absurd rfl hne
    · rintro _ q ob1 b rfl _ hb
      simp [h', HS.turn] at hb
      exact .inl (by omega)
  obtain ⟨hok, hev⟩ := key
  have hvr := (hob h' hev rfl (by simp [h', HS.turn]) (by simp [h', HS.turn]) (by simp [h', HS.turn]) hid (by simp [h', HS.turn])).2
  exact OpOK.value (h' := h') r hd hrun hvr hok hev e1.symm e2.symm (by rw [e3]; rfl)

/-- a new box -/
theorem ok_newBox (r : Rel σ a h) (hd : ∀ t, o.dst = some t → t < a.tmps.size) {d : Nat} {cells : List AV} {z : Value} {t : TypeId} (hz : VRs h cells z.cells.toList)
    (hrun : (execOp a.eval o).run P h.w = .ok (.value (.pointer (some ⟨h.w.heap.size, 0, none⟩))) { h.w with heap := h.w.heap.push (.cells z.cells t) }) :
    OpOK P o σ (newOb σ (site d 0) (.box cells) fun g => .ptr (site d 0) g 0 0) a h := by
  refine ok_new r hd (ks := []) (cap := 0) (N := []) (by simp) hrun rfl rfl rfl rfl .nil (by simp) ?_
  intro h' ev hw hb hc hs ho hg
  refine ⟨⟨_, z.cells, t, (0, 0), hb, by rw [hw]; simp, ?_, hs, hz.ev ev⟩, ?_⟩
  · intro i _ hi; omega
  · have := VR.ptr (h := h') (site d 0) (σ.gens (site d 0) + 1) 0 0 h.w.heap.size _ ho hg hb
    simpa [Ob.e] using this

theorem ok_alloc {t : TypeId} {d : Nat} {cells : List AV} (r : Rel σ a h) (hd : ∀ t, o.dst = some t → t < a.tmps.size) (hop : o.op = .alloc t) (hz : zeroT P t = some cells) :
    OpOK P o σ (newOb σ (site d 0) (.box cells) fun g => .ptr (site d 0) g 0 0) a h := by
  obtain ⟨i, z, h1, h2, h3, rfl⟩ := zeroT_eq hz
  refine ok_newBox r hd (z := z) (t := t) (zero_VRs h3) ?_
  rw [show execOp a.eval o = (do pure (Next.value (← Instr.alloc t true (.tuple #[])))) by simp only [execOp, hop]]
  refine run_next ?_
  simp [Instr.alloc, zeroValue, typeInfo, h1, h2, newVar, newRow, _root_.Go.newObj, Sem.run]

theorem ok_box {t : TypeId} {x : Operand} {d : Nat} (r : Rel σ a h) (hd : ∀ t, o.dst = some t → t < a.tmps.size) (hop : o.op = .box t x) (hs : (cellsOf (σ.get x)).all storable = true) :
    OpOK P o σ (newOb σ (site d 0) (.box (cellsOf (σ.get x))) fun g => .ptr (site d 0) g 0 0) a h := by
  refine ok_newBox r hd (z := a.eval x) (t := t) ((r.get x).cells (bad_cells hs)) ?_
  rw [show execOp a.eval o = (do pure (Next.value (← Instr.box t (a.eval x)))) by simp only [execOp, hop]]
  refine run_next ?_
  simp [Instr.box, newVar, newRow, _root_.Go.newObj, Sem.run]

theorem ok_makeMap {t : TypeId} {d : Nat} (r : Rel σ a h) (hd : ∀ t, o.dst = some t → t < a.tmps.size) (hop : o.op = .makeMap t none) :
    OpOK P o σ (newOb σ (site d 0) (.map []) fun g => .mp (site d 0) g) a h := by
  refine ok_new r hd (v := .map (some h.w.heap.size)) (w' := { h.w with heap := h.w.heap.push (.map #[] 0) }) (ks := []) (cap := 0) (N := []) (by simp) ?_ rfl rfl rfl rfl .nil (by simp) ?_
  · rw [show execOp a.eval o = (do pure (Next.value (← Instr.makeMap t none))) by simp only [execOp, hop, Option.map_none]]
    refine run_next ?_
    simp [Instr.makeMap, _root_.Go.newObj, Sem.run]
  · intro h' ev hw hb hc hs ho hg
    exact ⟨⟨_, #[], 0, hb, by rw [hw]; simp, hs, by simp, by simp⟩, .mp _ _ _ _ ho hg hb⟩

end
end Go.AM
