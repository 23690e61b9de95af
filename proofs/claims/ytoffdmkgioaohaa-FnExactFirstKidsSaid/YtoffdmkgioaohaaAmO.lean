/- Operations that write. -/
import Derived.Test.YtoffdmkgioaohaaAmN
namespace Go.AM

section
variable {P : Program} {o : Oper} {σ : St} {a : Act} {h : HS}

/-- an object is turned where it lies -/
theorem ok_put (r : Rel σ a h) (hd : ∀ t, o.dst = some t → t < a.tmps.size) {id b : Nat} {ob0 ob : Ob} {ks : List Nat} {w' : World} {N : List Nat} (hk : id ∉ ks)
    (h0 : h.objs id = some ob0) (hb : h.blk id = some b) (hsh : sameShape ob0 ob)
    (hrun : (execOp a.eval o).run P h.w = .ok .skip w') (hsize : w'.heap.size = h.w.heap.size) (hos : w'.os = h.w.os) (htape : w'.tape = h.w.tape) (hout : w'.output = h.w.output)
    (hheap : ∀ j, b ≠ j → w'.heap[j]? = h.w.heap[j]?) (hN : (b :: N).Nodup)
    (hsub : ∀ b' ∈ N, ∃ o1 ob1, h.objs o1 = some ob1 ∧ b' ∈ h.blocks o1 ∧ (o1 = id ∨ o1 ∈ ks))
    (hob : ∀ h' : HS, Ev h h' → h'.w = w' → h'.blk id = some b → h'.cap id = h.cap id → h'.sub id = N → ObOK h' id ob) :
    OpOK P o σ { val := .c undef, objs := (id, some ob, σ.gens id) :: killed σ ks } a h := by
  obtain ⟨e1, e2, e3⟩ := apply_one σ o.dst (.c undef) id (some ob) (σ.gens id) ks hk false
  let h' := h.turn w' (fun o => if o ∈ ks then none else if o = id then some ob else σ.objs o) (fun o => if o = id then σ.gens id else σ.gens o) σ.ep id (some b) (h.cap id) N
  have hid : h'.objs id = some ob := by simp [h', HS.turn, hk]
  have hblocks : h'.blocks id = b :: N := by simp [HS.blocks, h', HS.turn]
  have dead : ∀ o1, o1 = id ∨ o1 ∈ ks → o1 = id ∨ h'.objs o1 = none := fun o1 k => k.imp (fun k => k) fun k => by simp [h', HS.turn, k]
  have hbb : b ∈ h.blocks id := by simp [HS.blocks, hb]
  have key : HeapOK h' ∧ Ev h h' := by
    refine reconf (fun o => o = id) r.ok hos htape hout (Nat.le_of_eq hsize.symm) rfl rfl (Nat.le_of_eq r.ep) ?_ ?_ ?_ ?_ ?_ ?_
    · intro q hq
      by_cases hqk : q ∈ ks
      · exact .inl (by simp [h', HS.turn, hqk])
      · exact .inr ⟨by simp [h', HS.turn, hqk, hq, r.objs], by simp [h', HS.turn, hq], by simp [h', HS.turn, hq], by simp [h', HS.turn, hq]⟩
    · intro q
      by_cases hq : q = id
      · subst hq; simp [h', HS.turn, r.gens]
      · simp [h', HS.turn, hq, r.gens]
    · intro j hj
      by_cases e : b = j
      · subst e; exact .inr ⟨id, ob0, h0, hbb, .inl rfl, fun _ => hb⟩
      · exact .inl (hheap j e)
    · rintro q ob' rfl hq
      rw [hid] at hq; cases hq
      refine ⟨fun ev => hob h' ev rfl (by simp [h', HS.turn]) (by simp [h', HS.turn]) (by simp [h', HS.turn]), ?_, ?_, ?_⟩
      · rw [hblocks]; exact hN
      · rw [hblocks]
        intro b' hb'
        rcases List.mem_cons.1 hb' with rfl | hb'
        · exact ⟨by show _ < w'.heap.size; rw [hsize]; exact r.ok.lt _ _ h0 _ hbb, .inr ⟨_, ob0, h0, hbb, .inl rfl⟩⟩
        · obtain ⟨o1, ob1, k1, k2, k3⟩ := hsub b' hb'
          exact ⟨by show _ < w'.heap.size; rw [hsize]; exact r.ok.lt o1 ob1 k1 b' k2, .inr ⟨o1, ob1, k1, k2, dead o1 k3⟩⟩
      · intro _
        exact ⟨ob0, h0, by simp [h', HS.turn, hb], by simp [h', HS.turn], hsh⟩
    · rintro q q' ob1 ob2 rfl rfl _ _ hne
      exact absurd rfl hne
    · rintro _ q ob1 b' rfl _ hb'
      have hb' : b = b' := by simpa [h', HS.turn] using hb'
      subst hb'
      exact .inr ⟨_, ob0, h0, hb⟩
  obtain ⟨hok, hev⟩ := key
  exact OpOK.skip (h' := h') r hd hrun rfl hok hev e1.symm e2.symm (by rw [e3]; rfl)

/-! #### cells in the midst of others -/

theorem splice_len {xs ys : List AV} {j : Nat} (hj : j + xs.length ≤ ys.length) : (splice ys j xs).length = ys.length := by
  simp [splice]; omega

theorem spliceV_len {xs ys : List Value} {j : Nat} (hj : j + xs.length ≤ ys.length) : (spliceV ys j xs).length = ys.length := by
  simp [spliceV]; omega

theorem VRs.splice {ys xs : List AV} {us vs : List Value} {j : Nat} (k : VRs h ys us) (k' : VRs h xs vs) : VRs h (splice ys j xs) (spliceV us j vs) := by
  unfold AM.splice spliceV
  rw [k'.len]
  exact ((k.take j).append k').append (k.drop _)

theorem TOs.splice {w : World} {ys xs : List AV} {us vs : List Value} {M N : List Nat} {j : Nat} (k : TOs w ys us M) (k' : TOs w xs vs N) (hl : vs.length = xs.length) (hj : j + xs.length ≤ ys.length) :
    ∃ A B, (A ++ B).Sublist M ∧ TOs w (splice ys j xs) (spliceV us j vs) (A ++ N ++ B) ∧ ∃ C, M = A ++ (C ++ B) ∧ TOs w ((ys.drop j).take xs.length) ((us.drop j).take xs.length) C := by
  have e0 : ys = ys.take j ++ ((ys.drop j).take xs.length ++ ys.drop (j + xs.length)) := by
    rw [← List.drop_drop, List.take_append_drop, List.take_append_drop]
  rw [e0] at k
  obtain ⟨A, B', rfl, k1, k2⟩ := k.split
  obtain ⟨C, B, rfl, k3, k4⟩ := k2.split
  have hyl := k.len
  rw [← e0] at hyl
  have l1 : (ys.take j).length = j := by simp; omega
  have l2 : ((ys.drop j).take xs.length).length = xs.length := by simp; omega
  rw [l1] at k1 k3 k4
  rw [l2] at k3
  rw [l2, List.drop_drop] at k4
  refine ⟨A, B, ?_, ?_, C, rfl, k3⟩
  · exact (List.Sublist.refl A).append (List.sublist_append_right C B)
  · unfold AM.splice spliceV
    rw [hl]
    refine TOs.append (TOs.append k1 (by simp; omega) k') (by simp [hl]; omega) k4

theorem named.splice {ys xs : List AV} {us vs : List Value} {j : Nat} (k : named h ys us) (k' : named h xs vs) (hl : vs.length = xs.length) (hlen : ys.length ≤ us.length) (hj : j + xs.length ≤ ys.length) :
    named h (splice ys j xs) (spliceV us j vs) := by
  unfold AM.splice spliceV
  rw [hl]
  refine named.append (named.append ?_ (by simp; omega) k') (by simp [hl]; omega) ?_
  · intro i o' g e' off n v hx hv
    rw [List.getElem?_take] at hx hv
    split at hx
    · rename_i hi
      rw [if_pos hi] at hv
      exact k _ _ _ _ _ _ _ hx hv
    · cases hx
  · intro i o' g e' off n v hx hv
    rw [List.getElem?_drop] at hx hv
    exact k _ _ _ _ _ _ _ hx hv

/-- a row's cells among all rows' cells -/
theorem flat_set {e : Nat} {rows : List (List AV)} (hr : ∀ q ∈ rows, q.length = e) {i j : Nat} {r xs : List AV} (hi : rows[i]? = some r) (hj : j + xs.length ≤ r.length) :
    (rows.set i (splice r j xs)).flatten = splice rows.flatten (i * e + j) xs := by
  induction rows generalizing i with
  | nil => simp at hi
  | cons q rows ih =>
    have hq : q.length = e := hr q (by simp)
    cases i with
    | zero =>
      simp at hi; subst hi
      simp only [List.set_cons_zero, List.flatten_cons, splice, Nat.zero_mul, Nat.zero_add]
      rw [List.take_append_of_le_length (by omega), List.drop_append_of_le_length (by omega)]
      simp
    | succ i =>
      have := ih (fun q hq => hr q (by simp [hq])) (i := i) (by simpa using hi)
      rw [List.set_cons_succ, List.flatten_cons, List.flatten_cons, this]
      simp only [splice]
      have e1 : (i + 1) * e + j = q.length + (i * e + j) := by rw [Nat.add_mul, hq]; omega
      have e2 : (i + 1) * e + j + xs.length = q.length + (i * e + j + xs.length) := by omega
      rw [e2, e1, List.take_length_add_append, List.drop_length_add_append]
      simp

theorem storable_cell {x : AV} {v : Value} (k : VR h x v) (hs : storable x = true) : cellV v = true := by
  cases k <;> first | exact hs | rfl | (simp [storable] at hs; done) | skip
  rename_i k
  obtain ⟨_, _, rfl, _⟩ := k.shape
  rfl

theorem storable_cells {xs : List AV} {vs : List Value} (k : VRs h xs vs) (hs : xs.all storable = true) : ∀ v ∈ vs, cellV v = true := by
  induction xs generalizing vs with
  | nil => cases k; simp
  | cons x xs ih =>
    cases k with
    | cons _ v _ vs k1 k2 =>
      simp only [List.all_cons, Bool.and_eq_true] at hs
      intro u hu
      rcases List.mem_cons.1 hu with rfl | hu
      · exact storable_cell k1 hs.1
      · exact ih k2 hs.2 u hu

theorem exec_store {t : TypeId} {x y : Operand} (hop : o.op = .store t x y) : execOp a.eval o = (do Instr.storeAt t (a.eval x) (a.eval y); pure .skip) := by
  simp only [execOp, hop]

theorem run_storeAt {w : World} {t : TypeId} {s b off : Nat} {v : Value} {cs : Array Value} {ty : TypeId} {fr : Nat × Nat} (hs : sizeT P t = some s) (hl : v.cells.size = s)
    (hb : w.heap[b]? = some (.cells cs ty fr)) (ht : thawed cs fr) (hj : off + s ≤ cs.size) (hv : ∀ u ∈ v.cells.toList, cellV u = true) :
    (Instr.storeAt t (.pointer (some ⟨b, off, none⟩)) v).run P w = .ok () (putRow w b (spliceV cs.toList off v.cells.toList).toArray ty fr) := by
  have h1 := run_storeAll (P := P) v.cells.toList off 0 cs w hb ht (by simp [hl]; omega) hv
  rw [Nat.add_zero] at h1
  simp [Instr.storeAt, Instr.sureAddr, storeVar, run_sizeT hs, hl, h1]

theorem ok_store {cf : Cfg} {t : TypeId} {x y : Operand} {δ : Delta} (r : Rel σ a h) (hd : ∀ t, o.dst = some t → t < a.tmps.size) (hop : o.op = .store t x y)
    (hev : opStore cf σ t (σ.get x) (σ.get y) = some δ) : OpOK cf.P o σ δ a h := by
  have kx := r.get x
  have ky := r.get y
  have hx := exec_store (a := a) hop
  generalize σ.get x = X at hev kx
  generalize σ.get y = Y at hev ky
  generalize a.eval x = xv at hx kx
  generalize a.eval y = yv at hx ky
  unfold opStore at hev
  split at hev
  · rename_i s p g i j hs
    simp only at hev
    split at hev
    · rename_i hc
      obtain ⟨hg, hl⟩ := hc
      have ptr : ∀ ob, σ.objs p = some ob → ∃ b, xv = .pointer (some ⟨b, i * ob.e + j, none⟩) ∧ h.objs p = some ob ∧ h.blk p = some b := by
        intro ob ho
        rw [← r.objs] at ho; rw [← r.gens] at hg
        cases kx with
        | ptr _ _ _ _ b ob' h1 h2 h3 => rw [ho] at h1; cases h1; exact ⟨b, rfl, ho, h3⟩
        | ptrOld _ _ _ _ ad hold =>
          rcases hold with hold | ⟨_, hold⟩
          · omega
          · rw [ho] at hold; cases hold
      split at hev
      · rename_i cells ho
        split at hev
        · rename_i hc
          obtain ⟨rfl, hj, hst⟩ := hc
          cases hev
          obtain ⟨b, rfl, ho', hb⟩ := ptr _ ho
          obtain ⟨b', cs, ty, fr, j1, j2, j3, j4, j5⟩ := r.ok.ob _ _ ho'
          rw [hb] at j1; cases j1
          have kc := ky.cells (bad_cells hst)
          have hsz : yv.cells.size = s := by have := kc.len; rw [hl] at this; simpa using this
          have hcl := j5.len
          rw [Array.length_toList] at hcl
          simp only [Ob.e, Nat.mul_zero, Nat.zero_add] at hx
          have hrun := run_storeAt (P := cf.P) (off := j) hs hsz j2 j3 (by omega) (storable_cells kc hst)
          subst hg
          refine ok_put (ks := []) (N := []) (w' := putRow h.w b (spliceV cs.toList j yv.cells.toList).toArray ty fr) r hd (by simp) ho' hb ?_ ?_ putRow_size rfl rfl rfl (fun j hj => putRow_far hj) (by simp) (by simp) ?_
          · simp only [sameShape]; rw [splice_len (by omega)]
          · rw [hx]; exact run_skip hrun
          · intro h' ev hw hb' hcap hsub
            refine ⟨b, (spliceV cs.toList j yv.cells.toList).toArray, ty, fr, hb', by rw [hw]; exact putRow_at j2, ?_, hsub, ?_⟩
            · intro q hq
              refine j3 q ?_
              have : (spliceV cs.toList j yv.cells.toList).length = cs.toList.length := spliceV_len (by rw [Array.length_toList, Array.length_toList, hsz]; omega)
              simp at this hq; omega
            · exact (j5.splice kc).ev ev
        · cases hev
      · rename_i e rows ho
        split at hev
        · rename_i q xs ks hq hab
          split at hev
          · rename_i hc
            obtain ⟨hj, hk, hxl⟩ := hc
            cases hev
            obtain ⟨b, rfl, ho', hb⟩ := ptr _ ho
            obtain ⟨k0, k1⟩ := r.ok.ob _ _ ho'
            rcases k1 with ⟨k1, _, _⟩ | ⟨b', cs, ty, fr, k1, k2, k3, k4, k5, k6⟩
            · rw [hb] at k1; cases k1
            · rw [hb] at k1; cases k1
              have hyb : Y ≠ .bad := by
                rintro rfl
                have : σ.absorb (layT cf.P 8 t) [AV.bad] = none := by
                  cases layT cf.P 8 t with
                  | nil => rfl
                  | cons l ls => cases l <;> simp [St.absorb, St.absorb1]
                simp [cellsOf, this] at hab
              have kc := ky.cells hyb
              have hsz : yv.cells.size = s := by have := kc.len; rw [hl] at this; simpa using this
              obtain ⟨i1, i2, i3, i4, N, i5, i6, i7⟩ := absorb_ok r kc hab
              have hlen : rows.length * e ≤ cs.size := by
                have := k5.len
                rwa [flat_len k0, Array.length_toList] at this
              have hfr := flat_room k0 hq
              have hqe : q.length = e := k0 q (List.mem_of_getElem? hq)
              have hfl := flat_len k0
              have hvl : yv.cells.toList.length = xs.length := by simp [hsz, hxl]
              have hjj : (i * e + j) + xs.length ≤ rows.flatten.length := by omega
              simp only [Ob.e] at hx
              have hpl := plain_cells i5.read hvl i2
              have hrun := run_storeAt (P := cf.P) (off := i * e + j) hs hsz k2 k3 (by omega) hpl
              obtain ⟨A, B, hAB, hnew, _⟩ := k5.splice (j := i * e + j) i5 hvl hjj
              have nd := r.ok.nodup p _ ho'
              simp only [HS.blocks, hb, Option.toList_some, List.singleton_append, List.nodup_cons] at nd
              have hpk : p ∉ ks := by simpa using hk
              have inN : ∀ b' ∈ N, b' ∉ h.blocks p := by
                intro b' hb' hbp
                obtain ⟨o1, ho1, hob⟩ := i7 b' hb'
                obtain ⟨ob1, hob1⟩ := i4 o1 ho1
                exact r.ok.disj o1 p ob1 _ hob1 ho' (fun e => hpk (e ▸ ho1)) b' hob hbp
              have inAB : ∀ b' ∈ A ++ B, b' ∈ h.blocks p := fun b' hb' => by simp [HS.blocks, hAB.subset hb']
              have hnd : (b :: (A ++ N ++ B)).Nodup := by
                have hbb : b ∈ h.blocks p := by simp [HS.blocks, hb]
                refine List.nodup_cons.2 ⟨?_, ?_⟩
                · intro hm
                  rcases List.mem_append.1 hm with hm | hm
                  · rcases List.mem_append.1 hm with hm | hm
                    · exact nd.1 (hAB.subset (List.mem_append_left _ hm))
                    · exact inN b hm hbb
                  · exact nd.1 (hAB.subset (List.mem_append_right _ hm))
                · have h1 := hAB.nodup nd.2
                  obtain ⟨a1, a2, a3⟩ := List.nodup_append.1 h1
                  refine List.nodup_append.2 ⟨List.nodup_append.2 ⟨a1, i6, ?_⟩, a2, ?_⟩
                  · rintro x hx y hy rfl
                    exact inN x hy (inAB x (List.mem_append_left _ hx))
                  · rintro x hx y hy rfl
                    rcases List.mem_append.1 hx with hx | hx
                    · exact a3 x hx x hy rfl
                    · exact inN x hx (inAB x (List.mem_append_right _ hy))
              subst hg
              refine ok_put (N := A ++ N ++ B) (w' := putRow h.w b (spliceV cs.toList (i * e + j) yv.cells.toList).toArray ty fr) r hd hpk ho' hb ?_ ?_ putRow_size rfl rfl rfl (fun j hj => putRow_far hj) hnd ?_ ?_
              · simp [sameShape]
              · rw [hx]; exact run_skip hrun
              · intro b' hm
                rcases List.mem_append.1 hm with hm | hm
                · rcases List.mem_append.1 hm with hm | hm
                  · exact ⟨p, _, ho', inAB b' (List.mem_append_left _ hm), .inl rfl⟩
                  · obtain ⟨o1, ho1, hob⟩ := i7 b' hm
                    obtain ⟨ob1, hob1⟩ := i4 o1 ho1
                    exact ⟨o1, ob1, hob1, hob, .inr ho1⟩
                · exact ⟨p, _, ho', inAB b' (List.mem_append_right _ hm), .inl rfl⟩
              · intro h' ev hw hb' hcap hsub
                have hl2 : (spliceV cs.toList (i * e + j) yv.cells.toList).length = cs.toList.length := spliceV_len (by rw [Array.length_toList, Array.length_toList, hsz]; omega)
                refine ⟨?_, .inr ⟨b, (spliceV cs.toList (i * e + j) yv.cells.toList).toArray, ty, fr, hb', by rw [hw]; exact putRow_at k2, ?_, ?_, ?_, ?_⟩⟩
                · intro z hz
                  rcases List.mem_or_eq_of_mem_set hz with hz | rfl
                  · exact k0 z hz
                  · rw [splice_len (by omega)]; exact hqe
                · intro z hz
                  refine k3 z ?_
                  simp at hl2 hz; omega
                · rw [hcap, k4]; simp at hl2 ⊢; omega
                · rw [hsub, flat_set k0 hq (by omega)]
                  refine hnew.frame fun b' hb' => ?_
                  rw [hw]
                  exact putRow_far fun e => (List.nodup_cons.1 hnd).1 (e ▸ hb')
                · rw [flat_set k0 hq (by omega)]
                  exact (named.splice k6 (named.none i2) hvl (by rw [hfl]; simpa using hlen) hjj).ev ev
          · cases hev
        · cases hev
      · cases hev
    · cases hev
  · cases hev

end
end Go.AM
