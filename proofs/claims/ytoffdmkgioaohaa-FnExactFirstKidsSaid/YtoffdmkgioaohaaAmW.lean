/- Calls: the picture behind a call. -/
import Derived.Test.YtoffdmkgioaohaaAmV
namespace Go.AM

section
variable {P : Program} {o : Oper} {σ : St} {a : Act} {h : HS}

theorem placeOf_fun {d : Nat} {T : List Nat} {nn j o o' : Nat} (h1 : placeOf d T nn j o) (h2 : placeOf d T nn j o') : o = o' := by
  rcases h1 with ⟨a1, _⟩ | ⟨a1, a2, a3⟩ <;> rcases h2 with ⟨b1, _⟩ | ⟨b1, b2, b3⟩
  · rw [a1] at b1; cases b1; rfl
  · have := (List.getElem?_eq_some_iff.1 a1).1; omega
  · have := (List.getElem?_eq_some_iff.1 b1).1; omega
  · rw [a3, b3]

theorem placeOf_T {d : Nat} {T : List Nat} {nn k o : Nat} (hk : T[k]? = some o) : ∃ j, placeOf d T nn j o := by
  by_cases hn : isNew d nn o = true
  · simp only [isNew, List.any_eq_true, List.mem_range, beq_iff_eq] at hn
    obtain ⟨q, q1, q2⟩ := hn
    exact ⟨T.length + q, .inr ⟨by omega, by omega, by rw [q2]; congr 1; omega⟩⟩
  · exact ⟨k, .inl ⟨hk, by simpa using hn⟩⟩

theorem placeOf_lt {d : Nat} {T : List Nat} {nn j o : Nat} (h1 : placeOf d T nn j o) : j < T.length + nn := by
  rcases h1 with ⟨a1, _⟩ | ⟨a1, a2, a3⟩
  · have := (List.getElem?_eq_some_iff.1 a1).1; omega
  · exact a2

/-- the state behind a call has what the callee answered -/
structure Behind (σ : St) (d : Nat) (T : List Nat) (nn : Nat) (outs : List (Nat × Option Ob)) (σ' : St) : Prop where
  gone : ∀ j o, placeOf d T nn j o → ∀ g, outs[j]? = some (g, none) → T[j]? = some o ∧ σ'.objs o = none ∧ σ'.gens o = σ.gens o + g
  here : ∀ j o, placeOf d T nn j o → ∀ g ob0, outs[j]? = some (g, some ob0) →
    ∃ ob1 g', outMap σ d T nn j g = some (o, g') ∧ renOb outTag (outMap σ d T nn) ob0 = some ob1 ∧ σ'.objs o = some ob1 ∧ σ'.gens o = g'
  off : ∀ o, (¬ ∃ j, placeOf d T nn j o) → σ'.objs o = σ.objs o ∧ σ'.gens o = σ.gens o

theorem behind_of {d nn : Nat} {T : List Nat} {outs : List (Nat × Option Ob)} {l : List (Nat × Option Ob × Nat)} {σ' : St} (nd : T.Nodup)
    (hb : backObjs σ d T nn 0 outs = some l) (ho : σ'.objs = (l.foldl St.setObj σ).objs) (hg : σ'.gens = (l.foldl St.setObj σ).gens) : Behind σ d T nn outs σ' := by
  obtain ⟨i1, i2⟩ := backObjs_ids nd hb
  obtain ⟨f1, f2, _⟩ := setObj_fold l σ i2
  refine ⟨?_, ?_, ?_⟩
  · intro j o hp g hj
    obtain ⟨o', q1, q2⟩ := (backObjs_get hb j g none hj).1 rfl
    rw [Nat.zero_add] at q1
    have hoo : o' = o ∧ isNew d nn o = false := by
      rcases hp with ⟨p1, p2⟩ | ⟨p1, _, _⟩
      · rw [p1] at q1; cases q1; exact ⟨rfl, p2⟩
      · have := (List.getElem?_eq_some_iff.1 q1).1; omega
    obtain ⟨rfl, hn⟩ := hoo
    rcases q2 with q2 | q2
    · rw [hn] at q2; cases q2
    · obtain ⟨k1, k2⟩ := f1 _ q2
      exact ⟨q1, by rw [ho]; exact k1, by rw [hg]; exact k2⟩
  · intro j o hp g ob0 hj
    obtain ⟨o', g', ob1, q1, q2, q3⟩ := (backObjs_get hb j g (some ob0) hj).2 ob0 rfl
    rw [Nat.zero_add] at q1
    have hoo := placeOf_fun (outMap_place q1) hp
    subst hoo
    obtain ⟨k1, k2⟩ := f1 _ q3
    exact ⟨ob1, g', q1, q2, by rw [ho]; exact k1, by rw [hg]; exact k2⟩
  · intro o hn
    have : o ∉ l.map (·.1) := by
      intro hm
      obtain ⟨x, hx, rfl⟩ := List.mem_map.1 hm
      obtain ⟨j, _, hj⟩ := i1 x hx
      exact hn ⟨j, hj⟩
    rw [ho, hg]; exact f2 o this

open Classical in
/-- the caller's picture behind a call -/
noncomputable def HS.behind (h h1 : HS) (d : Nat) (T : List Nat) (nn : Nat) (σ' : St) : HS :=
  { w := h1.w, objs := σ'.objs, gens := σ'.gens, ep := σ'.ep,
    blk := fun o => if hx : ∃ j, placeOf d T nn j o then h1.blk hx.choose else h.blk o,
    cap := fun o => if hx : ∃ j, placeOf d T nn j o then h1.cap hx.choose else h.cap o,
    sub := fun o => if hx : ∃ j, placeOf d T nn j o then h1.sub hx.choose else h.sub o,
    X := h.X, Y := h.Y }

theorem behind_at {h1 : HS} {d nn : Nat} {T : List Nat} {σ' : St} (nd : T.Nodup) {j o : Nat} (hp : placeOf d T nn j o) :
    (h.behind h1 d T nn σ').blk o = h1.blk j ∧ (h.behind h1 d T nn σ').cap o = h1.cap j ∧ (h.behind h1 d T nn σ').sub o = h1.sub j ∧ (h.behind h1 d T nn σ').blocks o = h1.blocks j := by
  have hx : ∃ j, placeOf d T nn j o := ⟨j, hp⟩
  have he : hx.choose = j := placeOf_inj nd hx.choose_spec hp
  have k1 : (h.behind h1 d T nn σ').blk o = h1.blk j := by simp only [HS.behind, dif_pos hx, he]
  have k2 : (h.behind h1 d T nn σ').cap o = h1.cap j := by simp only [HS.behind, dif_pos hx, he]
  have k3 : (h.behind h1 d T nn σ').sub o = h1.sub j := by simp only [HS.behind, dif_pos hx, he]
  exact ⟨k1, k2, k3, by simp [HS.blocks, k1, k3]⟩

theorem behind_off {h1 : HS} {d nn : Nat} {T : List Nat} {σ' : St} {o : Nat} (hx : ¬ ∃ j, placeOf d T nn j o) :
    (h.behind h1 d T nn σ').blk o = h.blk o ∧ (h.behind h1 d T nn σ').cap o = h.cap o ∧ (h.behind h1 d T nn σ').sub o = h.sub o ∧ (h.behind h1 d T nn σ').blocks o = h.blocks o := by
  have k1 : (h.behind h1 d T nn σ').blk o = h.blk o := by simp only [HS.behind, dif_neg hx]
  have k2 : (h.behind h1 d T nn σ').cap o = h.cap o := by simp only [HS.behind, dif_neg hx]
  have k3 : (h.behind h1 d T nn σ').sub o = h.sub o := by simp only [HS.behind, dif_neg hx]
  exact ⟨k1, k2, k3, by simp [HS.blocks, k1, k3]⟩

theorem renOb_shape {tg : Tag → Option Tag} {m : Nat → Nat → Option (Nat × Nat)} {ob ob' : Ob} (hr : renOb tg m ob = some ob') : sameShape ob ob' := by
  cases ob with
  | box cells => simp only [renOb, Option.map_eq_some_iff] at hr; obtain ⟨ys, hy, rfl⟩ := hr; exact (mapM_len hy).symm
  | slice e rows =>
    simp only [renOb] at hr
    split at hr
    · cases hr; exact sameShape.refl _
    · cases hr
  | map => simp [renOb] at hr

theorem behind_ok {d nn : Nat} {T : List Nat} {obs : List Ob} {outs : List (Nat × Option Ob)} {σ' : St} {h1 : HS} {w' : World}
    (r : Rel σ a h) (nd : T.Nodup) (hp : passObjs σ T T = some obs) (hlen : outs.length = T.length + nn)
    (bk : Back (h.callee T obs) h1 w' obs.length outs) (bh : Behind σ d T nn outs σ')
    (hep : σ'.ep = σ.ep ∧ (∀ o ∈ T, ∀ ob, h.objs o = some ob → h.sub o = []) ∨ σ.ep < σ'.ep) :
    HeapOK (h.behind h1 d T nn σ') ∧ Ev h (h.behind h1 d T nn σ') ∧ Ren outTag (outMap σ d T nn) h1 (h.behind h1 d T nn σ') := by
  obtain ⟨hl, hg⟩ := passObjs_get hp
  generalize hh : h.behind h1 d T nn σ' = h'
  have hw : h'.w = h1.w := by rw [← hh]; rfl
  have hobjs : h'.objs = σ'.objs := by rw [← hh]; rfl
  have hgens : h'.gens = σ'.gens := by rw [← hh]; rfl
  have hepo : h'.ep = σ'.ep := by rw [← hh]; rfl
  have hX : h'.X = h.X := by rw [← hh]; rfl
  have hY : h'.Y = h.Y := by rw [← hh]; rfl
  have at' : ∀ j o, placeOf d T nn j o → h'.blk o = h1.blk j ∧ h'.cap o = h1.cap j ∧ h'.sub o = h1.sub j ∧ h'.blocks o = h1.blocks j := fun j o k => by rw [← hh]; exact behind_at nd k
  have off' : ∀ o, (¬ ∃ j, placeOf d T nn j o) → h'.blk o = h.blk o ∧ h'.cap o = h.cap o ∧ h'.sub o = h.sub o ∧ h'.blocks o = h.blocks o := fun o k => by rw [← hh]; exact behind_off k
  clear hh
  have o1 : ∀ j, h1.objs j = (outs[j]?).bind (·.2) := fun j => by rw [bk.objs]
  have g1 : ∀ j, h1.gens j = ((outs[j]?).map (·.1)).getD 0 := fun j => by rw [bk.gens]
  -- what stands at a place
  have at1 : ∀ j o, placeOf d T nn j o → ∀ ob', h'.objs o = some ob' → ∃ g ob0 g', outs[j]? = some (g, some ob0) ∧ h1.objs j = some ob0 ∧ h1.gens j = g ∧
      outMap σ d T nn j g = some (o, g') ∧ renOb outTag (outMap σ d T nn) ob0 = some ob' ∧ h'.gens o = g' := by
    intro j o hpl ob' ho
    have hlt : j < outs.length := by rw [hlen]; exact placeOf_lt hpl
    rw [hobjs] at ho
    cases he : outs[j] with
    | mk g ob =>
      have hj : outs[j]? = some (g, ob) := by rw [List.getElem?_eq_getElem hlt, he]
      cases ob with
      | none => obtain ⟨_, k2, _⟩ := bh.gone j o hpl g hj; rw [k2] at ho; cases ho
      | some ob0 =>
        obtain ⟨ob1, g', k1, k2, k3, k4⟩ := bh.here j o hpl g ob0 hj
        rw [k3] at ho; cases ho
        exact ⟨g, ob0, g', hj, by rw [o1, hj]; rfl, by rw [g1, hj]; rfl, k1, k2, by rw [hgens]; exact k4⟩
  have own1 : ∀ b, h1.owned b → (∃ o ob, (∃ j, placeOf d T nn j o) ∧ o ∈ T ∧ h.objs o = some ob ∧ b ∈ h.blocks o) ∨ h.w.heap.size ≤ b := by
    intro b hb
    rcases bk.own b hb with k | k
    · obtain ⟨q, o, ob, j1, j2, j3⟩ := callee_owned r hp k
      exact .inl ⟨o, ob, placeOf_T j1, List.mem_of_getElem? j1, j2, j3⟩
    · exact .inr k
  have own2 : ∀ b, h1.owned b → h.owned b ∨ h.w.heap.size ≤ b := fun b hb => (own1 b hb).imp (fun ⟨o, ob, _, _, k1, k2⟩ => ⟨o, ob, k1, k2⟩) id
  have own' : ∀ b, h'.owned b → h1.owned b ∨ h.owned b := by
    rintro b ⟨o, ob, ho, hb⟩
    by_cases hx : ∃ j, placeOf d T nn j o
    · obtain ⟨j, hj⟩ := hx
      obtain ⟨g, ob0, g', _, k1, _⟩ := at1 j o hj ob ho
      rw [(at' j o hj).2.2.2] at hb
      exact .inl ⟨j, ob0, k1, hb⟩
    · rw [(off' o hx).2.2.2] at hb
      rw [hobjs, (bh.off o hx).1, ← r.objs] at ho
      exact .inr ⟨o, ob, ho, hb⟩
  have ren : Ren outTag (outMap σ d T nn) h1 h' := by
    refine ⟨hw, ?_, ?_, ?_⟩
    · intro t t' ht
      cases t with
      | im =>
        simp only [outTag] at ht; cases ht
        refine ⟨fun b hb => ?_, fun _ => trivial, by simp⟩
        obtain ⟨⟨k1, k2⟩, k3⟩ := hb
        rw [bk.X] at k3
        have k3 : ¬ (h.X b ∨ h.owned b) := k3
        exact ⟨⟨by rw [hw]; exact k1, fun ho => (own' b ho).elim k2 fun q => k3 (.inr q)⟩, by rw [hX]; exact fun q => k3 (.inl q)⟩
      | b1 =>
        simp only [outTag] at ht; cases ht
        refine ⟨fun b hb => ?_, fun _ => trivial, by simp⟩
        obtain ⟨⟨k1, k2⟩, k3⟩ := hb
        rw [bk.Y] at k3
        have k3 : ¬ h.owned b := k3
        exact ⟨by rw [hw]; exact k1, fun ho => (own' b ho).elim k2 k3⟩
      | bo => simp [outTag] at ht
      | ep n => simp [outTag] at ht
    · intro k g o g' ob hm ho hgn
      have hpl := outMap_place hm
      have hlt : k < outs.length := by rw [hlen]; exact placeOf_lt hpl
      cases he : outs[k] with
      | mk g0 ob0 =>
        have hk : outs[k]? = some (g0, ob0) := by rw [List.getElem?_eq_getElem hlt, he]
        rw [o1, hk] at ho
        have ho : ob0 = some ob := ho
        subst ho
        rw [g1, hk] at hgn
        have hgn : g0 = g := hgn
        subst hgn
        obtain ⟨ob1, g2, k1, k2, k3, k4⟩ := bh.here k o hpl g0 ob hk
        rw [hm] at k1; cases k1
        obtain ⟨e1, e2, e3, _⟩ := at' k o hpl
        exact .inl ⟨ob1, by rw [hobjs]; exact k3, by rw [hgens]; exact k4, e1, e2, renOb_shape k2⟩
    · intro k g o g' hm hold
      have hpl := outMap_place hm
      have hlt : k < outs.length := by rw [hlen]; exact placeOf_lt hpl
      cases he : outs[k] with
      | mk g0 ob0 =>
        have hk : outs[k]? = some (g0, ob0) := by rw [List.getElem?_eq_getElem hlt, he]
        rw [o1, g1, hk] at hold
        have hold : g < g0 ∨ g ≤ g0 ∧ ob0 = none := hold
        have mono : ∀ g2, outMap σ d T nn k g0 = some (o, g2) → (g < g0 → g' < g2) ∧ (g ≤ g0 → g' ≤ g2) := by
          intro g2 hm2
          unfold outMap at hm hm2
          split at hm
          · rename_i q hq
            simp only [hq] at hm2
            split at hm
            · cases hm
            · rename_i hn; simp only [hn] at hm2; cases hm; cases hm2; exact ⟨fun _ => by omega, fun _ => by omega⟩
          · rename_i hq
            simp only [hq] at hm2
            split at hm
            · rename_i hn; simp only [hn, if_true] at hm2; cases hm; cases hm2; exact ⟨fun _ => by omega, fun _ => by omega⟩
            · cases hm
        rw [hgens, hobjs]
        cases ob0 with
        | none =>
          obtain ⟨k1, k2, k3⟩ := bh.gone k o hpl g0 hk
          unfold outMap at hm
          rw [k1] at hm
          simp only at hm
          split at hm
          · cases hm
          · cases hm
            rw [k2, k3]
            rcases hold with hold | ⟨hold, _⟩
            · exact .inl (by omega)
            · exact .inr ⟨by omega, rfl⟩
        | some ob =>
          obtain ⟨ob1, g2, k1, k2, k3, k4⟩ := bh.here k o hpl g0 ob hk
          rw [k4]
          rcases hold with hold | ⟨_, hold⟩
          · exact .inl ((mono g2 k1).1 hold)
          · cases hold
  suffices HeapOK h' ∧ Ev h h' from ⟨this.1, this.2, ren⟩
  refine reconf (fun o => ∃ j, placeOf d T nn j o) r.ok (by rw [hw]; exact bk.os) (by rw [hw]; exact bk.tape) (by rw [hw]; exact bk.output) (by rw [hw]; exact bk.size) hX hY ?_ ?_ ?_ ?_ ?_ ?_ ?_
  · rw [hepo, r.ep]; rcases hep with ⟨k, _⟩ | k <;> omega
  · intro o hS
    obtain ⟨e1, e2, e3, _⟩ := off' o hS
    exact .inr ⟨by rw [hobjs, (bh.off o hS).1, r.objs], e1, e2, e3⟩
  · intro o
    rw [hgens, r.gens]
    by_cases hx : ∃ j, placeOf d T nn j o
    · obtain ⟨j, hj⟩ := hx
      have hlt : j < outs.length := by rw [hlen]; exact placeOf_lt hj
      cases he : outs[j] with
      | mk g ob =>
        have hk : outs[j]? = some (g, ob) := by rw [List.getElem?_eq_getElem hlt, he]
        cases ob with
        | none => obtain ⟨_, _, k3⟩ := bh.gone j o hj g hk; omega
        | some ob0 =>
          obtain ⟨ob1, g', k1, _, _, k4⟩ := bh.here j o hj g ob0 hk
          rw [k4]
          unfold outMap at k1
          split at k1
          · split at k1
            · cases k1
            · cases k1; omega
          · split at k1
            · cases k1; omega
            · cases k1
    · rw [(bh.off o hx).2]; exact Nat.le_refl _
  · intro b hb
    by_cases hs : (h.callee T obs).stable b
    · exact .inl (by rw [hw]; exact bk.stab b hs)
    · have ho : (h.callee T obs).owned b := Classical.byContradiction fun k => hs ⟨hb, k⟩
      obtain ⟨q, o, ob, j1, j2, j3⟩ := callee_owned r hp ho
      refine .inr ⟨o, ob, j2, j3, .inl (placeOf_T j1), ?_⟩
      intro he
      rw [hepo, r.ep] at he
      rcases hep with ⟨_, k⟩ | k
      · have := k o (List.mem_of_getElem? j1) ob j2
        simpa [HS.blocks, this] using j3
      · omega
  · rintro o ob ⟨j, hj⟩ ho
    obtain ⟨g, ob0, g', k0, k1, k2, k3, k4, k5⟩ := at1 j o hj ob ho
    obtain ⟨e1, e2, e3, e4⟩ := at' j o hj
    refine ⟨fun _ => (ren.ob (bk.ok.ob j ob0 k1) k4 e1 e2 e3).1, by rw [e4]; exact bk.ok.nodup j ob0 k1, ?_, ?_⟩
    · intro b hb
      rw [e4] at hb
      refine ⟨by rw [hw]; exact bk.ok.lt j ob0 k1 b hb, ?_⟩
      rcases own1 b ⟨j, ob0, k1, hb⟩ with ⟨o1, ob1, q1, _, q2, q3⟩ | q
      · exact .inr ⟨o1, ob1, q2, q3, .inl q1⟩
      · exact .inl q
    · intro hge
      rw [k5, r.gens] at hge
      unfold outMap at k3
      split at k3
      · rename_i o' hT
        split at k3
        · cases k3
        · cases k3
          have hg0 : g = 0 := by omega
          have hjl : j < obs.length := by rw [hl]; exact (List.getElem?_eq_some_iff.1 hT).1
          obtain ⟨obc, c1, c2, c3, c4⟩ := bk.live j hjl ob0 k1 (by rw [k2, hg0])
          obtain ⟨obh, obc', d1, d2, d3⟩ := hg j o hT
          have c1 : obs[j]? = some obc := c1
          rw [d3] at c1; cases c1
          refine ⟨obh, by rw [r.objs]; exact d1, ?_, ?_, ?_⟩
          · rw [e1, c2]; simp [HS.callee, hT]
          · rw [e2, c3]; simp [HS.callee, hT]
          · exact ((renOb_shape d2).trans c4).trans (renOb_shape k4)
      · split at k3
        · cases k3; omega
        · cases k3
  · rintro o o' ob ob' ⟨j, hj⟩ ⟨j', hj'⟩ ho ho' hne b hb
    obtain ⟨g, ob0, g', k0, k1, _⟩ := at1 j o hj ob ho
    obtain ⟨g2, ob02, g2', k02, k12, _⟩ := at1 j' o' hj' ob' ho'
    rw [(at' j o hj).2.2.2] at hb
    rw [(at' j' o' hj').2.2.2]
    refine bk.ok.disj j j' ob0 ob02 k1 k12 ?_ b hb
    rintro rfl
    exact hne (placeOf_fun hj hj')
  · rintro he o ob b ⟨j, hj⟩ ho hb
    obtain ⟨g, ob0, g', k0, k1, _⟩ := at1 j o hj ob ho
    rw [(at' j o hj).1] at hb
    rcases own1 b ⟨j, ob0, k1, by simp [HS.blocks, hb]⟩ with ⟨o1, ob1, _, q1, q2, q3⟩ | q
    · rw [hepo, r.ep] at he
      rcases hep with ⟨_, k⟩ | k
      · have := k o1 q1 ob1 q2
        exact .inr ⟨o1, ob1, q2, by simpa [HS.blocks, this] using q3⟩
      · omega
    · exact .inl q

end
end Go.AM
