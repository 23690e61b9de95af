/- append, third part: the operation. -/
import Derived.Test.YtoffdmkgioaohaaAmM
namespace Go.AM

section
variable {P : Program} {o : Oper} {σ : St} {a : Act} {h : HS}

/-- rows with their cells, in blocks that go into the object id -/
structure Part (h : HS) (id : Nat) (ks : List Nat) (e : Nat) (rows : List (List AV)) (vs : List Value) (N : List Nat) : Prop where
  row : ∀ q ∈ rows, q.length = e
  own : TOs h.w rows.flatten vs N
  len : vs.length = rows.length * e
  nm : named h rows.flatten vs
  sub : ∀ b ∈ N, ∃ o1 ob1, h.objs o1 = some ob1 ∧ b ∈ h.blocks o1 ∧ (o1 = id ∨ o1 ∈ ks)

theorem grow_ok (r : Rel σ a h) (hd : ∀ t, o.dst = some t → t < a.tmps.size) {ts : Array TypeId} {el ty : TypeId} {it : TypeInfo} {z : Value} (T : Typed P ts el it z)
    {id : Nat} {ks : List Nat} (hk : id ∉ ks) {base : Option Addr} {c : Nat} {x : Value} {rows new : List (List AV)} {olds news : List Value} {A N : List Nat}
    (hx : execOp a.eval o = (do pure (Next.value (← Builtin.append_ ts ty #[.slice base rows.length c, x]))))
    (ho : Given P h.w it.size rows.length (.slice base rows.length c) olds) (hn : Given P h.w it.size new.length x news) (hg : c < rows.length + new.length) (hr : room (rows.length + new.length) it.bytes = true)
    (pa : Part h id ks it.size rows olds A) (pn : Part h id ks it.size new news N) (nd : (A ++ N).Nodup) :
    OpOK P o σ { val := .sl id (σ.gens id + 1) it.size 0 (rows.length + new.length), objs := (id, some (.slice it.size (rows ++ new)), σ.gens id + 1) :: killed σ ks } a h := by
  let nc := grownCap h.w (rows.length + new.length) c el
  let C := olds.toArray ++ news.toArray ++ Builtin.zeroCells z.cells (nc - (rows.length + new.length))
  have hrun := run_grow (ty := ty) T ho hn hg hr
  have hlt : ∀ b ∈ A ++ N, b < h.w.heap.size := by
    intro b hb
    rcases List.mem_append.1 hb with hb | hb
    · obtain ⟨o1, ob1, k1, k2, _⟩ := pa.sub b hb; exact r.ok.lt o1 ob1 k1 b k2
    · obtain ⟨o1, ob1, k1, k2, _⟩ := pn.sub b hb; exact r.ok.lt o1 ob1 k1 b k2
  have hC : C.toList = (olds ++ news) ++ (Builtin.zeroCells z.cells (nc - (rows.length + new.length))).toList := by simp [C]
  refine ok_new r hd (v := .slice (some ⟨h.w.heap.size, 0, none⟩) (rows.length + new.length) nc) (w' := h.w.drew.alloc (.cells C el)) (bo := .cells C el) (cap := C.size) (N := A ++ N) hk ?_ rfl rfl rfl rfl nd ?_ ?_
  · rw [hx]; exact run_next hrun
  · intro b hb
    rcases List.mem_append.1 hb with hb | hb
    · exact pa.sub b hb
    · exact pn.sub b hb
  · intro h' ev hw hb hc hs hob hgen
    have hrow : ∀ q ∈ rows ++ new, q.length = it.size := by
      intro q hq
      rcases List.mem_append.1 hq with hq | hq
      · exact pa.row q hq
      · exact pn.row q hq
    have hfr : ∀ b ∈ A ++ N, h'.w.heap[b]? = h.w.heap[b]? := by
      intro b hb
      have := hlt b hb
      rw [hw]
      show (h.w.heap.push (.cells C el))[b]? = _
      simp [Array.getElem?_push, Nat.ne_of_lt this]
    have hlo : olds.length = rows.flatten.length := by rw [pa.len, flat_len pa.row]
    have hln : news.length = new.flatten.length := by rw [pn.len, flat_len pn.row]
    have hge := grownCap_ge h.w (rows.length + new.length) c el
    have hz : (Builtin.zeroCells z.cells (nc - (rows.length + new.length))).toList.length = (nc - (rows.length + new.length)) * z.cells.size := by simp [Builtin.zeroCells]
    have nmd : named h (rows ++ new).flatten (olds ++ news) := by
      rw [List.flatten_append]; exact pa.nm.append hlo pn.nm
    refine ⟨⟨hrow, .inr ⟨_, C, el, (0, 0), hb, ?_, fun i _ hi => by omega, hc, ?_, ?_⟩⟩, ?_⟩
    · rw [hw]
      show (h.w.heap.push (.cells C el))[h.w.heap.size]? = _
      simp
    · rw [hs, hC, List.flatten_append]
      exact ((pa.own.append hlo pn.own).frame hfr).weaken
    · intro k o' g e' off n v hkk hv
      rw [hC] at hv
      have hki : k < (olds ++ news).length := by
        have := (List.getElem?_eq_some_iff.1 hkk).1
        rw [List.flatten_append, List.length_append] at this
        rw [List.length_append]; omega
      rw [List.getElem?_append_left hki] at hv
      exact (nmd.ev ev) _ _ _ _ _ _ _ hkk hv
    · have hcap : (0 + nc) * it.size ≤ h'.cap id := by
        have e1 : C.size = C.toList.length := by simp
        have e2 : nc = (rows.length + new.length) + (nc - (rows.length + new.length)) := by omega
        rw [hc, Nat.zero_add, e1, hC, List.length_append, List.length_append, pa.len, pn.len, hz, T.zsize, ← Nat.add_mul, ← Nat.add_mul, ← e2]
        exact Nat.le_refl _
      have := VR.sl (h := h') id (σ.gens id + 1) it.size 0 (rows.length + new.length) _ nc _ hob hgen hb (by simp) hge hcap
      simpa using this


theorem inplace_ok (r : Rel σ a h) (hd : ∀ t, o.dst = some t → t < a.tmps.size) {ts : Array TypeId} {el ty : TypeId} {it : TypeInfo} {z : Value} (T : Typed P ts el it z)
    {id : Nat} {ks : List Nat} (hk : id ∉ ks) {b c : Nat} {x : Value} {rows new : List (List AV)} {news : List Value} {A N : List Nat} {cs : Array Value} {ty' : TypeId} {fr : Nat × Nat}
    (hx : execOp a.eval o = (do pure (Next.value (← Builtin.append_ ts ty #[.slice (some ⟨b, 0, none⟩) rows.length c, x]))))
    (hn : Given P h.w it.size new.length x news) (hg : rows.length + new.length ≤ c) (hv : ∀ v ∈ news, cellV v = true)
    (hb : h.w.heap[b]? = some (.cells cs ty' fr)) (ht : thawed cs fr) (hc : c * it.size ≤ cs.size)
    (hbo : ∃ o1 ob1, h.objs o1 = some ob1 ∧ h.blk o1 = some b ∧ (o1 = id ∨ o1 ∈ ks))
    (pa : Part h id ks it.size rows (cs.toList.take (rows.length * it.size)) A) (pn : Part h id ks it.size new news N) (nd : (b :: (A ++ N)).Nodup) :
    OpOK P o σ { val := .sl id (σ.gens id + 1) it.size 0 (rows.length + new.length), objs := (id, some (.slice it.size (rows ++ new)), σ.gens id + 1) :: killed σ ks } a h := by
  let C := (spliceV cs.toList (rows.length * it.size) news).toArray
  have hrun := run_inplace (ty := ty) T hn hg hb ht hc hv
  have hbN := (List.nodup_cons.1 nd).1
  have hlt : b < h.w.heap.size := (Array.getElem?_eq_some_iff.1 hb).1
  have hsz : (rows.length + new.length) * it.size ≤ cs.size := Nat.le_trans (Nat.mul_le_mul_right _ hg) hc
  rw [Nat.add_mul] at hsz
  have hlo : (cs.toList.take (rows.length * it.size)).length = rows.flatten.length := by rw [pa.len, flat_len pa.row]
  have hln : news.length = new.flatten.length := by rw [pn.len, flat_len pn.row]
  have hC : C.toList = (cs.toList.take (rows.length * it.size) ++ news) ++ cs.toList.drop (rows.length * it.size + news.length) := by simp [C, spliceV]
  have hCs : C.size = cs.size := by
    have e1 : C.size = C.toList.length := by simp
    have e2 : cs.toList.length = cs.size := by simp
    rw [e1, hC, List.length_append, List.length_append, pa.len, List.length_drop, e2, hn.size]; omega
  refine ok_make r hd (v := .slice (some ⟨b, 0, none⟩) (rows.length + new.length) c) (w' := putRow h.w b C ty' fr) (bl := some b) (cap := C.size) (N := A ++ N) hk ?_ ?_ rfl rfl rfl ?_ ?_ (List.nodup_cons.1 nd).2 ?_ ?_
  · rw [hx]; exact run_next hrun
  · rw [putRow_size]; exact Nat.le_refl _
  · intro j hj
    by_cases e : j = b
    · subst e; exact .inr hbo
    · exact .inl (putRow_far (Ne.symm e))
  · intro b' e; cases e
    exact ⟨by rw [putRow_size]; exact hlt, hbN, .inr hbo⟩
  · intro b hb
    rcases List.mem_append.1 hb with hb | hb
    · exact pa.sub b hb
    · exact pn.sub b hb
  · intro h' ev hw hbl hcap hs hob hgen
    have hrow : ∀ q ∈ rows ++ new, q.length = it.size := by
      intro q hq
      rcases List.mem_append.1 hq with hq | hq
      · exact pa.row q hq
      · exact pn.row q hq
    have hfr : ∀ b' ∈ A ++ N, h'.w.heap[b']? = h.w.heap[b']? := by
      intro b' hb'
      rw [hw]
      exact putRow_far fun e => hbN (e ▸ hb')
    have nmd : named h (rows ++ new).flatten (cs.toList.take (rows.length * it.size) ++ news) := by
      rw [List.flatten_append]; exact pa.nm.append hlo pn.nm
    refine ⟨⟨hrow, .inr ⟨b, C, ty', fr, hbl, ?_, ?_, hcap, ?_, ?_⟩⟩, ?_⟩
    · rw [hw]; exact putRow_at hb
    · intro i hi; exact ht i (by omega)
    · rw [hs, hC, List.flatten_append]
      exact ((pa.own.append hlo pn.own).frame hfr).weaken
    · intro k o' g e' off n v hkk hv
      rw [hC] at hv
      have hki : k < (cs.toList.take (rows.length * it.size) ++ news).length := by
        have := (List.getElem?_eq_some_iff.1 hkk).1
        rw [List.flatten_append, List.length_append] at this
        rw [List.length_append]; omega
      rw [List.getElem?_append_left hki] at hv
      exact (nmd.ev ev) _ _ _ _ _ _ _ hkk hv
    · have := VR.sl (h := h') id (σ.gens id + 1) it.size 0 (rows.length + new.length) _ c _ hob hgen hbl (by simp) hg (by rw [hcap, hCs, Nat.zero_add]; exact hc)
      simpa using this

theorem nothing_ok (r : Rel σ a h) (hd : ∀ t, o.dst = some t → t < a.tmps.size) {ts : Array TypeId} {el ty : TypeId} {it : TypeInfo} {z : Value} (T : Typed P ts el it z)
    {id : Nat} {ks : List Nat} (hk : id ∉ ks) {base : Option Addr} {x : Value} {news : List Value}
    (hx : execOp a.eval o = (do pure (Next.value (← Builtin.append_ ts ty #[.slice base 0 0, x]))))
    (hn : Given P h.w it.size 0 x news) :
    OpOK P o σ { val := .sl id (σ.gens id + 1) it.size 0 0, objs := (id, some (.slice it.size []), σ.gens id + 1) :: killed σ ks } a h := by
  have hrun := run_nothing (ty := ty) (base := base) T hn
  refine ok_make r hd (v := .slice base 0 0) (w' := h.w) (bl := none) (cap := 0) (N := []) hk ?_ (Nat.le_refl _) rfl rfl rfl (fun _ _ => .inl rfl) (by simp) .nil (by simp) ?_
  · rw [hx]; exact run_next hrun
  · intro h' ev hw hbl hcap hs hob hgen
    exact ⟨⟨by simp, .inl ⟨hbl, rfl, hs⟩⟩, .slEnd _ _ _ _ _ _ hob hgen (Nat.zero_le _)⟩


theorem Part.nil {id : Nat} {ks : List Nat} {e : Nat} : Part h id ks e [] [] [] := ⟨by simp, .nil _, by simp, by intro k; simp, by simp⟩

/-- append to what an object bears -/
theorem append_sl (r : Rel σ a h) (hd : ∀ t, o.dst = some t → t < a.tmps.size) {ts : Array TypeId} {el ty : TypeId} {it : TypeInfo} {z : Value} (T : Typed P ts el it z)
    {id p g n : Nat} {ks : List Nat} (hk : id ∉ ks) {sv x : Value} {rows new : List (List AV)} {news : List Value} {N : List Nat} (hs : VR h (.sl p g it.size 0 n) sv)
    (ho : σ.objs p = some (.slice it.size rows)) (hgp : σ.gens p = g) (hnr : n ≤ rows.length) (hp : p = id ∨ p ∈ ks)
    (hx : execOp a.eval o = (do pure (Next.value (← Builtin.append_ ts ty #[sv, x]))))
    (hn : Given P h.w it.size new.length x news) (hr : room (n + new.length) it.bytes = true) (hv : ∀ v ∈ news, cellV v = true)
    (pn : Part h id ks it.size new news N) (nN : N.Nodup) (dis : ∀ b ∈ N, b ∉ h.blocks p) :
    OpOK P o σ { val := .sl id (σ.gens id + 1) it.size 0 (n + new.length), objs := (id, some (.slice it.size (rows.take n ++ new)), σ.gens id + 1) :: killed σ ks } a h := by
  have ho' := ho; have hg' := hgp
  rw [← r.objs] at ho'; rw [← r.gens] at hg'
  cases hs with
  | sl _ _ _ _ _ b cap rows' h1 h2 h3 h4 h5 h6 =>
    rw [ho'] at h1; cases h1
    obtain ⟨k0, k1⟩ := r.ok.ob _ _ ho'
    rcases k1 with ⟨k1, _, _⟩ | ⟨b', cs, ty', fr, k1, k2, k3, k4, k5, k6⟩
    · rw [h3] at k1; cases k1
    · rw [h3] at k1; cases k1
      rw [Nat.zero_mul] at hx
      rw [Nat.zero_add, k4] at h6
      have hl : (rows.take n).length = n := by simp; omega
      have hcs : n * it.size ≤ cs.size := Nat.le_trans (Nat.mul_le_mul_right _ h5) h6
      obtain ⟨A, B, e1, e2, _⟩ := TOs.split (xs := (rows.take n).flatten) (ys := (rows.drop n).flatten) (by rw [← List.flatten_append, List.take_append_drop]; exact k5)
      have k0' : ∀ q ∈ rows.take n, q.length = it.size := fun q hq => k0 q (List.mem_of_mem_take hq)
      rw [flat_len k0', hl] at e2
      have nd := r.ok.nodup p _ ho'
      simp only [HS.blocks, h3, Option.toList_some, List.singleton_append, List.nodup_cons] at nd
      have hA : A.Sublist (h.sub p) := by rw [e1]; exact List.sublist_append_left _ _
      have pa : Part h id ks it.size (rows.take n) (cs.toList.take (n * it.size)) A := by
        refine ⟨k0', e2, by rw [hl]; simp; omega, ?_, ?_⟩
        · intro k o' g' e' off m v hkk hv
          have hkl : k < (rows.take n).flatten.length := (List.getElem?_eq_some_iff.1 hkk).1
          rw [List.getElem?_take] at hv
          split at hv
          · refine k6 k _ _ _ _ _ _ ?_ hv
            have : rows.flatten = (rows.take n).flatten ++ (rows.drop n).flatten := by rw [← List.flatten_append, List.take_append_drop]
            rw [this, List.getElem?_append_left hkl]; exact hkk
          · cases hv
        · intro b' hb'
          exact ⟨p, _, ho', by simp [HS.blocks, hA.subset hb'], hp⟩
      have ndd : (b :: (A ++ N)).Nodup := by
        have h7 : b :: (A ++ N) = (b :: A) ++ N := rfl
        rw [h7]
        refine List.nodup_append.2 ⟨List.nodup_cons.2 ⟨fun hb => nd.1 (hA.subset hb), hA.nodup nd.2⟩, nN, ?_⟩
        rintro x hx y hy rfl
        refine dis x hy ?_
        simp only [HS.blocks, h3, Option.toList_some, List.singleton_append]
        exact (hA.cons_cons b).subset hx
      have hx' : execOp a.eval o = (do pure (Next.value (← Builtin.append_ ts ty #[.slice (some ⟨b, 0, none⟩) (rows.take n).length cap, x]))) := by rw [hl]; exact hx
      have pa' : Part h id ks it.size (rows.take n) (cs.toList.take ((rows.take n).length * it.size)) A := by rw [hl]; exact pa
      have go : n + new.length = (rows.take n).length + new.length := by rw [hl]
      rw [go] at hr ⊢
      by_cases hc : n + new.length ≤ cap
      · exact inplace_ok r hd T hk hx' hn (by rw [hl]; exact hc) hv k2 k3 h6 ⟨p, _, ho', h3, hp⟩ pa' pn ndd
      · refine grow_ok r hd T hk hx' (given_slice ?_ ?_) hn (by rw [hl]; omega) hr pa' pn (List.nodup_cons.1 ndd).2
        · rw [hl]; simp; omega
        · intro k v hk
          rw [cell_at k2, Nat.zero_add]
          rw [List.getElem?_take] at hk
          split at hk
          · simpa using hk
          · cases hk
  | slEnd _ _ _ _ ad rows2 h1 h2 h3 =>
    have e0 : rows.take 0 = ([] : List (List AV)) := by simp
    rw [Nat.zero_add] at hr
    by_cases hm : new.length = 0
    · have : new = [] := List.length_eq_zero_iff.1 hm
      subst this
      have := nothing_ok (base := ad) r hd T hk hx hn
      simpa using this
    · have := grow_ok (rows := []) (olds := []) (A := []) r hd T hk hx given_none hn (by simp; omega) (by simpa using hr) Part.nil pn (by simpa using nN)
      simpa using this
  | slOld _ _ _ _ _ ad cap hold =>
    rcases hold with hold | ⟨_, hold⟩
    · omega
    · rw [ho'] at hold; cases hold

theorem ok_append {cf : Cfg} {c : Call} {δ : Delta} {d : Nat} {src : Option Operand} {s x : AV} (r : Rel σ a h) (hd : ∀ t, o.dst = some t → t < a.tmps.size) (hop : o.op = .call c) (hc : c.callee = .builtin .append)
    (hargs : vals σ c.args = [s, x]) (hev : opAppend cf σ d src c.argTypes s x = some δ) : OpOK cf.P o σ δ a h := by
  have kv := r.vals c.args
  have hx := exec_builtin (a := a) hop hc
  obtain ⟨us, hus⟩ : ∃ us, (c.args.map a.eval).toList = us := ⟨_, rfl⟩
  have ha : c.args.map a.eval = us.toArray := by rw [← hus]
  rw [hus] at kv
  rw [ha] at hx
  rw [hargs] at kv
  cases kv with
  | cons _ sv _ vs k1 k2 =>
    cases k2 with
    | cons _ xv _ vs' k2 k3 =>
      cases k3
      have hx : execOp a.eval o = (do pure (Next.value (← Builtin.append_ c.argTypes o.type #[sv, xv]))) := hx
      unfold opAppend at hev
      split at hev
      · rename_i el h0 h1
        split at hev
        · rename_i e bytes zc h2 h3 h4
          split at hev
          · cases hev
          · rename_i hzl
            split at hev
            · rename_i new ks hm
              obtain ⟨it, z, z1, z2, z3, rfl⟩ := zeroT_eq h4
              have hb : it.bytes = bytes := by simpa [bytesT, z1] using h3
              have hs : it.size = e := by simpa [sizeT, z1] using h2
              subst hb; subst hs
              have T : Typed cf.P c.argTypes el it z := by
                refine ⟨?_, ?_, z1, z2, ?_⟩
                · obtain ⟨t, j1, j2⟩ := Option.bind_eq_some_iff.1 h0
                  exact ⟨t, j1, elemT_eq j2⟩
                · obtain ⟨t, j1, j2⟩ := (Option.any_eq_true _ _).1 h1
                  refine ⟨t, j1, ?_⟩
                  rcases Bool.or_eq_true_iff.1 j2 with j2 | j2
                  · obtain ⟨e, j2⟩ := Option.isSome_iff_exists.1 j2
                    exact .inr ⟨e, elemT_eq j2⟩
                  · exact .inl (stringT_eq j2)
                · simpa using hzl
              obtain ⟨news, N, m1, m2, m3, m4, m5, m6, m7⟩ := more_ok (P := cf.P) r k2 hm
              have mk : ∀ id ks', (∀ p ∈ ks, p = id ∨ p ∈ ks') → Part h id ks' it.size new news N := by
                intro id ks' hi
                refine ⟨m2, m3, m1.size, m6, ?_⟩
                intro b hb
                obtain ⟨p, hp, ob, hob, hpb⟩ := m5 b hb
                exact ⟨p, ob, hob, hpb, hi p hp⟩
              have flt : ∀ p ∈ ks, p = site d 0 ∨ p ∈ ks.filter (· ≠ site d 0) := by
                intro p hp
                by_cases e : p = site d 0
                · exact .inl e
                · exact .inr (by simp [hp, e])
              split at hev
              · split at hev
                · rename_i hr
                  cases hev
                  have k1 := k1.inv_c; subst k1
                  by_cases hm : new.length = 0
                  · have : new = [] := List.length_eq_zero_iff.1 hm
                    subst this
                    have := nothing_ok (base := none) r hd T (id := site d 0) (ks := ks.filter (· ≠ site d 0)) killed_filter hx m1
                    simpa using this
                  · have := grow_ok (rows := []) (olds := []) (A := []) r hd T (id := site d 0) (ks := ks.filter (· ≠ site d 0)) killed_filter hx given_none m1 (by simp; omega) (by simpa using hr) Part.nil (mk _ _ flt) (by simpa using m4)
                    simpa using this
                · cases hev
              · rename_i p g e' n
                split at hev
                · rename_i e2 rows ho
                  split at hev
                  · rename_i hcond
                    obtain ⟨c1, rfl, rfl, c4, c5, c6⟩ := hcond
                    have dis : ∀ b ∈ N, b ∉ h.blocks p := by
                      intro b hb hbp
                      obtain ⟨q, hq, ob, hob, hqb⟩ := m5 b hb
                      have ho' := ho; rw [← r.objs] at ho'
                      exact r.ok.disj q p ob _ hob ho' (fun e => by subst e; simp at c5; exact c5 hq) b hqb hbp
                    split at hev
                    · rename_i hren
                      cases hev
                      have hne : p ≠ site d 0 := by simp only [renames, Bool.and_eq_true, bne_iff_ne] at hren; exact hren.2
                      exact append_sl (id := site d 0) (ks := p :: ks.filter (· ≠ site d 0)) r hd T (by simp [Ne.symm hne]) k1 ho c1 c4 (.inr (by simp)) hx m1 c6 m7
                        (mk _ _ fun q hq => (flt q hq).imp id fun k => by simp only [List.mem_cons]; exact .inr k) m4 dis
                    · cases hev
                      subst c1
                      exact append_sl (id := p) (ks := ks) r hd T (by simpa using c5) k1 ho rfl c4 (.inl rfl) hx m1 c6 m7 (mk _ _ fun q hq => .inr hq) m4 dis
                  · cases hev
                · cases hev
              · cases hev
            · cases hev
        · cases hev
      · cases hev

end
end Go.AM
