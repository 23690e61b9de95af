/- The invariant of the abstract machine's objects, and how it goes on. -/
import Derived.Test.YtoffdmkgioaohaaAmC
namespace Go.AM

/-- an object lies in memory as it should -/
def ObOK (h : HS) (o : Nat) : Ob → Prop
  | .box cells => ∃ b cs ty fr, h.blk o = some b ∧ h.w.heap[b]? = some (.cells cs ty fr) ∧ thawed cs fr ∧ h.sub o = [] ∧ VRs h cells cs.toList
  | .slice e rows => (∀ r ∈ rows, r.length = e) ∧
      ((h.blk o = none ∧ rows = [] ∧ h.sub o = []) ∨
        ∃ b cs ty fr, h.blk o = some b ∧ h.w.heap[b]? = some (.cells cs ty fr) ∧ thawed cs fr ∧ h.cap o = cs.size ∧ TOs h.w rows.flatten cs.toList (h.sub o) ∧
          ∀ (k o' g e' off n : Nat) (v : Value), rows.flatten[k]? = some (AV.sl o' g e' off n) → cs.toList[k]? = some v → VR h (.sl o' g e' off n) v)
  | .map es => ∃ b ents clock, h.blk o = some b ∧ h.w.heap[b]? = some (.map ents clock) ∧ h.sub o = [] ∧ ents.toList.map (fun x => (x.key, x.val)) = es ∧ ∀ x ∈ es, ∀ cs, x.2 ≠ .agg cs

structure HeapOK (h : HS) : Prop where
  ob : ∀ o ob, h.objs o = some ob → ObOK h o ob
  lt : ∀ o ob, h.objs o = some ob → ∀ b ∈ h.blocks o, b < h.w.heap.size
  nodup : ∀ o ob, h.objs o = some ob → (h.blocks o).Nodup
  disj : ∀ o o' ob ob', h.objs o = some ob → h.objs o' = some ob' → o ≠ o' → ∀ b ∈ h.blocks o, b ∉ h.blocks o'

/-- an object that nothing touched -/
theorem ObOK.keep {h h' : HS} (k : Ev h h') {o : Nat} {ob : Ob} (r : ObOK h o ob) (hb : h'.blk o = h.blk o) (hc : h'.cap o = h.cap o) (hs : h'.sub o = h.sub o)
    (hh : ∀ b ∈ h.blocks o, h'.w.heap[b]? = h.w.heap[b]?) : ObOK h' o ob := by
  cases ob with
  | box cells =>
    obtain ⟨b, cs, ty, fr, h1, h2, h3, h4, h5⟩ := r
    exact ⟨b, cs, ty, fr, hb.trans h1, (hh b (by simp [HS.blocks, h1])).trans h2, h3, hs.trans h4, h5.ev k⟩
  | slice e rows =>
    obtain ⟨h0, h1⟩ := r
    refine ⟨h0, ?_⟩
    rcases h1 with ⟨h1, h2, h3⟩ | ⟨b, cs, ty, fr, h1, h2, h3, h4, h5, h6⟩
    · exact .inl ⟨hb.trans h1, h2, hs.trans h3⟩
    · refine .inr ⟨b, cs, ty, fr, hb.trans h1, (hh b (by simp [HS.blocks, h1])).trans h2, h3, hc.trans h4, ?_, fun k' o' g e' off n v hk hv => (h6 k' o' g e' off n v hk hv).ev k⟩
      rw [hs]
      exact h5.frame fun b' hb' => hh b' (by simp [HS.blocks, hb'])
  | map es =>
    obtain ⟨b, ents, clock, h1, h2, h3, h4, h5⟩ := r
    exact ⟨b, ents, clock, hb.trans h1, (hh b (by simp [HS.blocks, h1])).trans h2, hs.trans h3, h4, h5⟩

/-- Some objects (S) are new or turned, the others are as they were or gone. -/
theorem reconf {h h' : HS} (S : Nat → Prop) (hok : HeapOK h)
    (hos : h'.w.os = h.w.os) (htape : h'.w.tape = h.w.tape) (hout : h'.w.output = h.w.output) (hsize : h.w.heap.size ≤ h'.w.heap.size)
    (hX : h'.X = h.X) (hY : h'.Y = h.Y) (hep : h.ep ≤ h'.ep)
    (same : ∀ o, ¬ S o → h'.objs o = none ∨ (h'.objs o = h.objs o ∧ h'.blk o = h.blk o ∧ h'.cap o = h.cap o ∧ h'.sub o = h.sub o))
    (gens : ∀ o, h.gens o ≤ h'.gens o)
    (heap : ∀ b, b < h.w.heap.size → h'.w.heap[b]? = h.w.heap[b]? ∨
      ∃ o ob, h.objs o = some ob ∧ b ∈ h.blocks o ∧ (S o ∨ h'.objs o = none) ∧ (h'.ep = h.ep → h.blk o = some b))
    (spec : ∀ o ob, S o → h'.objs o = some ob → (Ev h h' → ObOK h' o ob) ∧ (h'.blocks o).Nodup ∧
      (∀ b ∈ h'.blocks o, b < h'.w.heap.size ∧ (h.w.heap.size ≤ b ∨ ∃ o1 ob1, h.objs o1 = some ob1 ∧ b ∈ h.blocks o1 ∧ (S o1 ∨ h'.objs o1 = none))) ∧
      (h'.gens o = h.gens o → ∃ ob0, h.objs o = some ob0 ∧ h'.blk o = h.blk o ∧ h'.cap o = h.cap o ∧ sameShape ob0 ob))
    (disj : ∀ o o' ob ob', S o → S o' → h'.objs o = some ob → h'.objs o' = some ob' → o ≠ o' → ∀ b ∈ h'.blocks o, b ∉ h'.blocks o')
    (top : h'.ep = h.ep → ∀ o ob b, S o → h'.objs o = some ob → h'.blk o = some b → h.w.heap.size ≤ b ∨ h.top b) :
    HeapOK h' ∧ Ev h h' := by
  have keepBlk : ∀ o ob, ¬ S o → h'.objs o = some ob → h.objs o = some ob ∧ h'.blocks o = h.blocks o ∧ h'.blk o = h.blk o ∧ h'.cap o = h.cap o ∧ h'.sub o = h.sub o := by
    intro o ob hS ho
    rcases same o hS with k | ⟨k1, k2, k3, k4⟩
    · rw [k] at ho; cases ho
    · exact ⟨k1 ▸ ho, by simp [HS.blocks, k2, k4], k2, k3, k4⟩
  have ev : Ev h h' := by
    refine ⟨hos, htape, hout, hsize, ?_, ?_, hep, ?_, gens, ?_, hX, hY⟩
    · intro b hb
      rcases heap b hb.1 with k | ⟨o, ob, k1, k2, k3, k4⟩
      · exact k
      · exact absurd ⟨o, ob, k1, k2⟩ hb.2
    · rintro b ⟨o, ob, k1, k2⟩
      by_cases hS : S o
      · rcases (spec o ob hS k1).2.2.1 b k2 with ⟨_, j | ⟨o1, ob1, j1, j2, _⟩⟩
        · exact .inr j
        · exact .inl ⟨o1, ob1, j1, j2⟩
      · obtain ⟨j1, j2, _⟩ := keepBlk o ob hS k1
        exact .inl ⟨o, ob, j1, j2 ▸ k2⟩
    · intro he b hb hn
      refine ⟨?_, ?_⟩
      · rintro ⟨o, ob, k1, k2⟩
        by_cases hS : S o
        · rcases top he o ob b hS k1 k2 with j | j
          · omega
          · exact hn j
        · obtain ⟨j1, j2, j3, _⟩ := keepBlk o ob hS k1
          exact hn ⟨o, ob, j1, j3 ▸ k2⟩
      · rcases heap b hb with k | ⟨o, ob, k1, k2, k3, k4⟩
        · exact k
        · exact absurd ⟨o, ob, k1, k4 he⟩ hn
    · intro o ob' k1 k2
      by_cases hS : S o
      · exact (spec o ob' hS k1).2.2.2 k2
      · obtain ⟨j1, j2, j3, j4, j5⟩ := keepBlk o ob' hS k1
        exact ⟨ob', j1, j3, j4, sameShape.refl _⟩
  refine ⟨⟨?_, ?_, ?_, ?_⟩, ev⟩
  · intro o ob ho
    by_cases hS : S o
    · exact (spec o ob hS ho).1 ev
    · obtain ⟨j1, j2, j3, j4, j5⟩ := keepBlk o ob hS ho
      refine (hok.ob o ob j1).keep ev j3 j4 j5 ?_
      intro b hb
      rcases heap b (hok.lt o ob j1 b hb) with k | ⟨o1, ob1, k1, k2, k3, k4⟩
      · exact k
      · by_cases e : o1 = o
        · subst e
          rcases k3 with k3 | k3
          · exact absurd k3 hS
          · rw [k3] at ho; cases ho
        · exact absurd k2 (hok.disj o o1 ob ob1 j1 k1 (Ne.symm e) b hb)
  · intro o ob ho b hb
    by_cases hS : S o
    · exact ((spec o ob hS ho).2.2.1 b hb).1
    · obtain ⟨j1, j2, _⟩ := keepBlk o ob hS ho
      exact Nat.lt_of_lt_of_le (hok.lt o ob j1 b (j2 ▸ hb)) hsize
  · intro o ob ho
    by_cases hS : S o
    · exact (spec o ob hS ho).2.1
    · obtain ⟨j1, j2, _⟩ := keepBlk o ob hS ho
      exact j2 ▸ hok.nodup o ob j1
  · have half : ∀ o o' ob ob', S o → ¬ S o' → h'.objs o = some ob → h'.objs o' = some ob' → ∀ b ∈ h'.blocks o, b ∉ h'.blocks o' := by
      intro o o' ob ob' hS hS' ho ho' b hb hb'
      obtain ⟨j1, j2, _⟩ := keepBlk o' ob' hS' ho'
      rw [j2] at hb'
      rcases ((spec o ob hS ho).2.2.1 b hb).2 with k | ⟨o1, ob1, k1, k2, k3⟩
      · have := hok.lt o' ob' j1 b hb'; omega
      · by_cases e : o1 = o'
        · subst e
          rcases k3 with k3 | k3
          · exact hS' k3
          · rw [k3] at ho'; cases ho'
        · exact hok.disj o1 o' ob1 ob' k1 j1 e b k2 hb'
    intro o o' ob ob' ho ho' hne b hb hb'
    by_cases hS : S o
    · by_cases hS' : S o'
      · exact disj o o' ob ob' hS hS' ho ho' hne b hb hb'
      · exact half o o' ob ob' hS hS' ho ho' b hb hb'
    · by_cases hS' : S o'
      · exact half o' o ob' ob hS' hS ho' ho b hb' hb
      · obtain ⟨j1, j2, _⟩ := keepBlk o ob hS ho
        obtain ⟨j3, j4, _⟩ := keepBlk o' ob' hS' ho'
        exact hok.disj o o' ob ob' j1 j3 hne b (j2 ▸ hb) (j4 ▸ hb')

/-! #### states -/

structure Rel (σ : St) (a : Act) (h : HS) : Prop where
  objs : h.objs = σ.objs
  gens : h.gens = σ.gens
  ep : h.ep = σ.ep
  ok : HeapOK h
  slots : ∀ i, VR h (σ.slots i) (a.tmps.getD i undef)
  defers : a.defers = []

theorem VR.undef (h : HS) : VR h (.c undef) undef := .c _ (by simp [Go.undef])

theorem VRs.consts {h : HS} {l : List Value} (k : l.any isAggV = false) : VRs h (l.map .c) l := by
  induction l with
  | nil => exact .nil
  | cons v l ih =>
    simp at k
    refine .cons _ _ _ _ (.c _ ?_) (ih (by simpa using k.2))
    rintro cs rfl
    simp [isAggV] at k

theorem ofVal_ok (h : HS) (v : Value) : VR h (ofVal v) v := by
  unfold ofVal
  split
  · rename_i cs
    split
    · exact .bad _
    · rename_i k
      have := VR.agg _ _ (VRs.consts (h := h) (l := cs.toList) (by simpa using k))
      simpa using this
  · rename_i f first caps
    split
    · rename_i k
      have h1 : first = #[] := Array.size_eq_zero_iff.1 k.1
      have h2 : caps = #[] := Array.size_eq_zero_iff.1 k.2
      subst h1 h2
      exact .fn f [] [] .nil
    · exact .bad _
  · rename_i k1 k2
    exact .c _ fun cs e => k1 cs e

theorem Rel.get {σ : St} {a : Act} {h : HS} (r : Rel σ a h) (x : Operand) : VR h (σ.get x) (a.eval x) := by
  cases x with
  | tmp t => exact r.slots t
  | const v => exact ofVal_ok h v
  | global g => exact .bad _
  | func f => exact .fn f [] [] .nil

theorem Rel.vals {σ : St} {a : Act} {h : HS} (r : Rel σ a h) (xs : Array Operand) : VRs h (vals σ xs) (xs.map a.eval).toList := by
  refine VRs.mk (by simp [AM.vals]) ?_
  intro i x v hx hv
  simp only [AM.vals, List.getElem?_map, Option.map_eq_some_iff] at hx
  obtain ⟨y, hy, rfl⟩ := hx
  simp only [Array.getElem?_toList, Array.getElem?_map, Option.map_eq_some_iff] at hv
  obtain ⟨z, hz, rfl⟩ := hv
  rw [Array.getElem?_toList] at hy
  rw [hy] at hz; obtain rfl := Option.some.inj hz
  exact r.get y

theorem put_slots {σ : St} {a : Act} {h : HS} (r : ∀ i, VR h (σ.slots i) (a.tmps.getD i undef)) {d : Option Tmp} (hd : ∀ t, d = some t → t < a.tmps.size) {x : AV} {v : Value} (hx : VR h x v) :
    ∀ i, VR h ((σ.put d x).slots i) ((a.put d v).tmps.getD i undef) := by
  intro i
  cases d with
  | none => exact r i
  | some d =>
    have hlt := hd d rfl
    simp only [St.put, Act.put]
    by_cases e : i = d
    · subst e; simp [hlt, hx]
    · have : (a.tmps.setIfInBounds d v).getD i undef = a.tmps.getD i undef := by
        simp [Array.getD_eq_getD_getElem?, Array.getElem?_setIfInBounds, Ne.symm e]
      simp only [e, if_false, this]
      exact r i

theorem put_size (a : Act) (d : Option Tmp) (v : Value) : (a.put d v).tmps.size = a.tmps.size := by
  cases d <;> simp [Act.put]
theorem put_defers (a : Act) (d : Option Tmp) (v : Value) : (a.put d v).defers = a.defers := by
  cases d <;> simp [Act.put]

/-- What one operation does: the abstract state and the model's go on together. -/
def OpOK (P : Program) (o : Oper) (σ : St) (δ : Delta) (a : Act) (h : HS) : Prop :=
  ∃ next : Act → World → Prop, (∀ Q, o.wp P a h.w next Q) ∧
    ∀ a' w', next a' w' → a'.tmps.size = a.tmps.size ∧ ∃ h', h'.w = w' ∧ Rel (σ.apply o.dst δ) a' h' ∧ Ev h h'

/-- an operation that yields a value at once -/
theorem OpOK.value {P : Program} {o : Oper} {σ : St} {δ : Delta} {a : Act} {h h' : HS} {v : Value} (r : Rel σ a h) (hd : ∀ t, o.dst = some t → t < a.tmps.size)
    (hrun : (execOp a.eval o).run P h.w = .ok (.value v) h'.w) (hv : VR h' δ.val v) (hok : HeapOK h') (hev : Ev h h')
    (hobjs : h'.objs = (σ.apply o.dst δ).objs) (hgens : h'.gens = (σ.apply o.dst δ).gens) (hep : h'.ep = (σ.apply o.dst δ).ep) : OpOK P o σ δ a h := by
  refine ⟨fun a' w' => a' = a.put o.dst v ∧ w' = h'.w, fun Q => ?_, ?_⟩
  · unfold Oper.wp; rw [hrun, Oper.upon_value]; exact ⟨rfl, rfl⟩
  · rintro a' w' ⟨rfl, rfl⟩
    refine ⟨put_size _ _ _, h', rfl, ⟨hobjs, hgens, hep, hok, ?_, by rw [put_defers]; exact r.defers⟩, hev⟩
    have key := put_slots (σ := σ) (a := a) (h := h') (fun i => (r.slots i).ev hev) hd hv
    intro i
    have e : (σ.apply o.dst δ).slots i = (σ.put o.dst δ.val).slots i := by
      have fold : ∀ (l : List (Nat × Option Ob × Nat)) (s : St), (l.foldl St.setObj s).slots = s.slots := by
        intro l
        induction l with
        | nil => intro s; rfl
        | cons x l ih => intro s; simp only [List.foldl_cons]; rw [ih]; rfl
      cases hdst : o.dst <;> simp only [St.apply, St.put] <;> split <;> simp [fold]
    rw [e]; exact key i

theorem OpOK.skip {P : Program} {o : Oper} {σ : St} {δ : Delta} {a : Act} {h h' : HS} (r : Rel σ a h) (hd : ∀ t, o.dst = some t → t < a.tmps.size)
    (hrun : (execOp a.eval o).run P h.w = .ok .skip h'.w) (hval : δ.val = .c undef) (hok : HeapOK h') (hev : Ev h h')
    (hobjs : h'.objs = (σ.apply o.dst δ).objs) (hgens : h'.gens = (σ.apply o.dst δ).gens) (hep : h'.ep = (σ.apply o.dst δ).ep) : OpOK P o σ δ a h := by
  refine ⟨fun a' w' => a' = a.put o.dst undef ∧ w' = h'.w, fun Q => ?_, ?_⟩
  · unfold Oper.wp; rw [hrun, Oper.upon_skip]; exact ⟨rfl, rfl⟩
  · rintro a' w' ⟨rfl, rfl⟩
    refine ⟨put_size _ _ _, h', rfl, ⟨hobjs, hgens, hep, hok, ?_, by rw [put_defers]; exact r.defers⟩, hev⟩
    have key := put_slots (σ := σ) (a := a) (h := h') (fun i => (r.slots i).ev hev) hd (hval ▸ VR.undef h' : VR h' δ.val undef)
    intro i
    have e : (σ.apply o.dst δ).slots i = (σ.put o.dst δ.val).slots i := by
      have fold : ∀ (l : List (Nat × Option Ob × Nat)) (s : St), (l.foldl St.setObj s).slots = s.slots := by
        intro l
        induction l with
        | nil => intro s; rfl
        | cons x l ih => intro s; simp only [List.foldl_cons]; rw [ih]; rfl
      cases hdst : o.dst <;> simp only [St.apply, St.put] <;> split <;> simp [fold]
    rw [e]; exact key i

/-- an operation that yields a value and leaves memory alone -/
theorem OpOK.pure {P : Program} {o : Oper} {σ : St} {x : AV} {a : Act} {h : HS} {v : Value} (r : Rel σ a h) (hd : ∀ t, o.dst = some t → t < a.tmps.size)
    (hrun : (execOp a.eval o).run P h.w = .ok (.value v) h.w) (hv : VR h x v) : OpOK P o σ { val := x } a h := by
  refine OpOK.value r hd hrun hv r.ok (Ev.refl h) ?_ ?_ ?_ <;>
    (cases hdst : o.dst <;> simp [St.apply, St.put, r.objs, r.gens, r.ep])

end Go.AM
