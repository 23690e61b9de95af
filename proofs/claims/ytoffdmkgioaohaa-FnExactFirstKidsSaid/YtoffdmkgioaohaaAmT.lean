/- Calls: what a handler's answer says of the real call; values that are shown to a callee. -/
import Derived.Test.YtoffdmkgioaohaaAmS
namespace Go.AM

/-- the picture behind a call against the one ahead of it -/
structure Back (h h' : HS) (w' : World) (n : Nat) (outs : List (Nat × Option Ob)) : Prop where
  w : h'.w = w'
  ok : HeapOK h'
  objs : h'.objs = fun o => (outs[o]?).bind (·.2)
  gens : h'.gens = fun o => ((outs[o]?).map (·.1)).getD 0
  os : h'.w.os = h.w.os
  tape : h'.w.tape = h.w.tape
  output : h'.w.output = h.w.output
  size : h.w.heap.size ≤ h'.w.heap.size
  stab : ∀ b, h.stable b → h'.w.heap[b]? = h.w.heap[b]?
  own : ∀ b, h'.owned b → h.owned b ∨ h.w.heap.size ≤ b
  X : h'.X = h.X
  Y : h'.Y = h.Y
  live : ∀ o, o < n → ∀ ob', h'.objs o = some ob' → h'.gens o = 0 → ∃ ob, h.objs o = some ob ∧ h'.blk o = h.blk o ∧ h'.cap o = h.cap o ∧ sameShape ob ob'

/-- what an answer says -/
def Told (P : Program) (f : FuncId) (as : List AV) (T : List Ob) (out : Out) : Prop :=
  ∀ (h : HS) (vs : List Value), HeapOK h → (h.objs = fun o => T[o]?) → (h.gens = fun _ => 0) → h.ep = 0 → VRs h as vs →
    Calls P f vs.toArray h.w fun e w' => match e with
      | .returned u => ∃ h', Back h h' w' T.length out.2 ∧ VR h' out.1 u
      | _ => False

section
variable {P : Program} {σ : St} {a : Act} {h : HS}

/-- what a callee may see: nothing that it owns -/
structure Seen (σ σv : St) (h hc : HS) : Prop where
  w : hc.w = h.w
  X : ∀ b, hc.X b → h.X b ∨ h.owned b
  Y : ∀ b, hc.Y b → h.owned b
  own : ∀ b, hc.owned b → h.owned b
  objs : ∀ o ob, σv.objs o = some ob → h.objs o = some ob ∧ ∀ b ∈ h.blocks o, ¬ hc.owned b
  gens : σv.gens = h.gens
  ep : σv.ep = h.ep ∧ (∀ b, hc.owned b → h.top b) ∨ h.ep < σv.ep

theorem Seen.im {σv : St} {hc : HS} (k : Seen σ σv h hc) {b : Nat} (hb : h.tag .im b) : hc.tag .im b :=
  ⟨⟨by rw [k.w]; exact hb.1.1, fun ho => hb.1.2 (k.own b ho)⟩, fun hx => (k.X b hx).elim hb.2 hb.1.2⟩
theorem Seen.bo {σv : St} {hc : HS} (k : Seen σ σv h hc) {b : Nat} (hb : h.stable b) : hc.tag .b1 b :=
  ⟨⟨by rw [k.w]; exact hb.1, fun ho => hb.2 (k.own b ho)⟩, fun hy => hb.2 (k.Y b hy)⟩


theorem view_rows (hok : HeapOK h) {σv : St} {hc : HS} (k : Seen σ σv h hc) {o g e off n : Nat} {rows : List (List AV)} {v : Value} (hv : VR h (.sl o g e off n) v)
    (hr : σv.rows e (.sl o g e off n) = some rows) : VR hc (.tr .bo e rows) v := by
  simp only [St.rows] at hr
  split at hr
  · rename_i e2 rows' ho
    split at hr
    · rename_i hc'; cases hr
      obtain ⟨hg, _⟩ := hc'
      rw [k.gens] at hg
      obtain ⟨ho', hown⟩ := k.objs _ _ ho
      cases hv with
      | sl _ _ _ _ _ b cap rows2 h1 h2 h3 h4 h5 h6 =>
        rw [ho'] at h1; cases h1
        have hl : ((rows'.drop off).take n).length = n := by simp; omega
        obtain ⟨k0, cs, ty, fr, j1, j2, j3, N, j4, j5⟩ := slice_read hok ho' h3 off n
        have := TR.tr (w := hc.w) .bo e ((rows'.drop off).take n) b (off * e) cap ((cs.toList.drop (off * e)).take (n * e)) N (fun q hq => k0 q (List.mem_of_mem_drop (List.mem_of_mem_take hq))) (by omega)
          (by
            intro i v hi
            rw [k.w, cell_at j1]
            rw [List.getElem?_take] at hi
            split at hi
            · simpa using hi
            · cases hi)
          (by rw [k.w]; exact j5)
        rw [hl] at this
        refine .tr _ _ _ _ _ this ?_ trivial
        intro b' hb'
        have hm : b' ∈ h.blocks o := by
          rcases List.mem_cons.1 hb' with rfl | hb'
          · simp [HS.blocks, h3]
          · simp [HS.blocks, j4 b' hb']
        exact ⟨by rw [k.w]; exact hok.lt _ _ ho' b' hm, hown b' hm⟩
      | slEnd _ _ _ _ ad rows2 h1 h2 h3 =>
        have : (rows'.drop off).take 0 = ([] : List (List AV)) := by simp
        rw [this]
        exact .tr _ _ _ _ [] (.nil _ _ _) (by simp) trivial
      | slOld _ _ _ _ _ ad cap hold =>
        rcases hold with hold | ⟨_, hold⟩
        · omega
        · rw [ho'] at hold; cases hold
    · cases hr
  · cases hr

theorem view_ok (hok : HeapOK h) {σv : St} {hc : HS} (k : Seen σ σv h hc) : ∀ (n : Nat) {x y : AV} {v : Value}, VR h x v → σv.view n x = some y → VR hc y v
  | 0, x, y, v, _, hy => by simp [St.view] at hy
  | n + 1, x, y, v, hv, hy => by
    have ih : ∀ {x y : AV} {v : Value}, VR h x v → σv.view n x = some y → VR hc y v := view_ok hok k n
    have ihs : ∀ {xs ys : List AV} {vs : List Value}, VRs h xs vs → xs.mapM (σv.view n) = some ys → VRs hc ys vs := fun h1 h2 => VRs.mapM (fun _ _ _ h3 h4 => ih h3 h4) h1 h2
    have fin : ∀ {t t' : Tag} {e : Nat} {rows : List (List AV)}, VR h (.tr t e rows) v → (∀ n, t ≠ .ep n) → (∀ b, h.tag t b → hc.tag t' b) → hc.age t' → VR hc (.tr t' e rows) v := by
      intro t t' e rows hv ht htag hage
      cases hv with
      | tr _ _ _ _ N h1 h2 h3 => exact .tr _ _ _ _ N (by rw [k.w]; exact h1.mark) (fun b hb => htag b (h2 b hb)) hage
      | trOld n => exact absurd rfl (ht n)
    have finp : ∀ {t t' : Tag} {cells : List AV}, VR h (.ip t cells) v → (∀ n, t ≠ .ep n) → (∀ b, h.tag t b → hc.tag t' b) → hc.age t' → VR hc (.ip t' cells) v := by
      intro t t' cells hv ht htag hage
      cases hv with
      | ip _ _ b off vs N h1 h2 h3 h4 => exact .ip _ _ _ _ vs N (by rw [k.w]; exact h1) (by rw [k.w]; exact h2) (fun b' hb' => htag b' (h3 b' hb')) hage
      | ipOld n => exact absurd rfl (ht n)
    have epst : ∀ {b : Nat}, σv.ep = h.ep → h.tag (.ep σv.ep) b → hc.tag .bo b := by
      intro b he hb
      rcases k.ep with ⟨_, k2⟩ | k2
      · exact ⟨by rw [k.w]; exact hb.1, fun ho => hb.2 (k2 b ho)⟩
      · omega
    cases x with
    | c u => simp only [St.view] at hy; cases hy; cases hv with | c _ h1 => exact .c _ h1
    | tr t e rows =>
      cases t with
      | im => simp only [St.view] at hy; cases hy; exact fin hv (by simp) (fun b hb => k.im hb) trivial
      | b1 => simp only [St.view] at hy; cases hy; exact fin hv (by simp) (fun b hb => k.bo hb.1) trivial
      | bo => simp only [St.view] at hy; cases hy; exact fin hv (by simp) (fun b hb => k.bo hb) trivial
      | ep q =>
        simp only [St.view] at hy
        split at hy
        · rename_i hq; cases hy
          cases hv with
          | tr _ _ _ _ N h1 h2 h3 =>
            have h3 : q ≤ h.ep := h3
            have he : σv.ep = h.ep := by rcases k.ep with ⟨k1, _⟩ | k2 <;> omega
            subst hq
            exact .tr _ _ _ _ N (by rw [k.w]; exact h1.mark) (fun b hb => epst he (h2 b hb)) trivial
          | trOld n _ _ ad cap h1 =>
            rcases k.ep with ⟨k1, _⟩ | k2 <;> omega
        · cases hy
    | sl o g e off m =>
      simp only [St.view, Option.map_eq_some_iff] at hy
      obtain ⟨rows, hr, rfl⟩ := hy
      exact view_rows hok k hv hr
    | ptr o g i j =>
      simp only [St.view] at hy
      split at hy
      · rename_i hg
        rw [k.gens] at hg
        have old : ∀ ob, h.objs o = some ob → ¬ (g < h.gens o ∨ g ≤ h.gens o ∧ h.objs o = none) := by
          rintro ob ho (hold | ⟨_, hold⟩)
          · omega
          · rw [ho] at hold; cases hold
        split at hy
        · rename_i cells ho
          obtain ⟨ho', hown⟩ := k.objs _ _ ho
          split at hy
          · rename_i hij
            obtain ⟨rfl, hj⟩ := hij
            obtain ⟨ys, hys, rfl⟩ := Option.map_eq_some_iff.1 hy
            cases hv with
            | ptr _ _ _ _ b ob h1 h2 h3 =>
              rw [ho'] at h1; cases h1
              obtain ⟨b', cs, ty, fr, j1, j2, j3, j4, j5⟩ := hok.ob _ _ ho'
              rw [h3] at j1; cases j1
              refine .ib _ _ _ (cs.toList.drop j) ?_ ⟨?_, hown b (by simp [HS.blocks, h3])⟩ (ihs (j5.drop j) hys)
              · intro i v hi
                rw [k.w, cell_at j2]
                simpa [Ob.e] using hi
              · rw [k.w]; exact hok.lt _ _ ho' b (by simp [HS.blocks, h3])
            | ptrOld _ _ _ _ ad hold => exact absurd hold (old _ ho')
          · cases hy
        · rename_i e rows ho
          obtain ⟨ho', hown⟩ := k.objs _ _ ho
          split at hy
          · rename_i row hrow
            cases hy
            cases hv with
            | ptr _ _ _ _ b ob h1 h2 h3 =>
              rw [ho'] at h1; cases h1
              obtain ⟨k0, cs, ty, fr, j1, j2, j3, N, j4, j5⟩ := slice_read hok ho' h3 i 1
              have hrl : (rows.drop i).take 1 = [row] := by
                have hi : i < rows.length := (List.getElem?_eq_some_iff.1 hrow).1
                rw [List.drop_eq_getElem_cons hi]
                have : rows[i] = row := (List.getElem?_eq_some_iff.1 hrow).2
                simp [this]
              rw [hrl] at j5
              simp only [List.flatten_cons, List.flatten_nil, List.append_nil, Nat.one_mul] at j5
              obtain ⟨M, hM, hsub⟩ := j5.part j row.length
              have hd : (row.drop j).take row.length = row.drop j := List.take_of_length_le (by simp)
              rw [hd] at hM
              refine .ip _ _ b _ _ M ?_ (by rw [k.w]; exact hM) ?_ trivial
              · intro q v hq
                rw [k.w, cell_at j1]
                simp only [Ob.e]
                rw [List.getElem?_take] at hq
                split at hq
                · rw [List.getElem?_drop, List.getElem?_take] at hq
                  split at hq
                  · rw [List.getElem?_drop] at hq
                    rw [Nat.add_assoc]
                    simpa using hq
                  · cases hq
                · cases hq
              · intro b' hb'
                have hm : b' ∈ h.blocks o := by
                  rcases List.mem_cons.1 hb' with rfl | hb'
                  · simp [HS.blocks, h3]
                  · simp [HS.blocks, j4 b' (hsub b' hb')]
                exact ⟨by rw [k.w]; exact hok.lt _ _ ho' b' hm, hown b' hm⟩
            | ptrOld _ _ _ _ ad hold => exact absurd hold (old _ ho')
          · cases hy
        · cases hy
      · cases hy
    | ip t cells =>
      cases t with
      | im => simp only [St.view] at hy; cases hy; exact finp hv (by simp) (fun b hb => k.im hb) trivial
      | b1 => simp only [St.view] at hy; cases hy; exact finp hv (by simp) (fun b hb => k.bo hb.1) trivial
      | bo => simp only [St.view] at hy; cases hy; exact finp hv (by simp) (fun b hb => k.bo hb) trivial
      | ep q =>
        simp only [St.view] at hy
        split at hy
        · rename_i hq; cases hy
          cases hv with
          | ip _ _ b off vs N h1 h2 h3 h4 =>
            have h4 : q ≤ h.ep := h4
            have he : σv.ep = h.ep := by rcases k.ep with ⟨k1, _⟩ | k2 <;> omega
            subst hq
            exact .ip _ _ _ _ vs N (by rw [k.w]; exact h1) (by rw [k.w]; exact h2) (fun b' hb' => epst he (h3 b' hb')) trivial
          | ipOld n _ ad h1 =>
            rcases k.ep with ⟨k1, _⟩ | k2 <;> omega
        · cases hy
    | ib cells =>
      simp only [St.view, Option.map_eq_some_iff] at hy
      obtain ⟨ys, hys, rfl⟩ := hy
      cases hv with
      | ib _ b off vs h1 h2 h3 => exact .ib _ _ _ vs (by rw [k.w]; exact h1) ⟨by rw [k.w]; exact h2.1, fun ho => h2.2 (k.own b ho)⟩ (ihs h3 hys)
    | fn f caps =>
      simp only [St.view, Option.map_eq_some_iff] at hy
      obtain ⟨ys, hys, rfl⟩ := hy
      cases hv with
      | fn _ _ vs h1 => exact .fn _ _ _ (ihs h1 hys)
    | agg cells =>
      simp only [St.view, Option.map_eq_some_iff] at hy
      obtain ⟨ys, hys, rfl⟩ := hy
      cases hv with
      | agg _ vs h1 => exact .agg _ _ (ihs h1 hys)
    | bad => simp only [St.view] at hy; cases hy; exact .bad _
    | tup => simp [St.view] at hy
    | mp => simp [St.view] at hy


/-! #### nil slices as slices without elements -/

theorem nrmCell_VR (l : Option Nat) {x : AV} {v : Value} (hv : VR h x v) : VR h (nrmCell l x) v := by
  unfold nrmCell
  split
  · have := hv.inv_c; subst this
    exact .tr _ _ _ _ [] (.nil _ _ _) (by simp) trivial
  · exact hv

theorem nrmCells_VR : ∀ (ls : List (Option Nat)) {xs : List AV} {vs : List Value}, VRs h xs vs → VRs h (nrmCells ls xs) vs
  | [], xs, vs, hv => by
    have : nrmCells [] xs = xs := by cases xs <;> rfl
    rw [this]; exact hv
  | l :: ls, _, _, .nil => .nil
  | l :: ls, _, _, .cons x v xs vs h1 h2 => .cons _ _ _ _ (nrmCell_VR l h1) (nrmCells_VR ls h2)

theorem nrm_VR (t : TypeId) {x : AV} {v : Value} (hv : VR h x v) : VR h (nrm P t x) v := by
  unfold nrm
  split
  · split
    · exact nrmCell_VR _ hv
    · exact hv
  · cases hv with
    | agg _ vs h1 => exact .agg _ _ (nrmCells_VR _ h1)
  · split
    · cases hv with
      | ib _ b off vs h1 h2 h3 => exact .ib _ _ _ vs h1 h2 (nrmCells_VR _ h3)
    · exact hv
  · exact hv

theorem nrmArgs_VR (mv : List Nat) : ∀ (i : Nat) (ts : List TypeId) {xs : List AV} {vs : List Value}, VRs h xs vs → VRs h (nrmArgs P mv i ts xs) vs
  | i, [], xs, vs, hv => by
    have : nrmArgs P mv i [] xs = xs := by cases xs <;> rfl
    rw [this]; exact hv
  | i, t :: ts, _, _, .nil => .nil
  | i, t :: ts, _, _, .cons x v xs vs h1 h2 => by
    refine .cons _ _ _ _ ?_ (nrmArgs_VR mv (i + 1) ts h2)
    split
    · exact h1
    · exact nrm_VR t h1

end
end Go.AM
