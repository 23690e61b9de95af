/- What goes into the cells of a slice; slices that are made. -/
import Derived.Test.YtoffdmkgioaohaaAmJ
import Derived.Laws.MakeOwn
namespace Go.AM

/-- no name of an object stands there -/
def noSl (x : AV) : Prop := plain x = true

section
variable {P : Program} {o : Oper} {σ : St} {a : Act} {h : HS}

theorem TOs.initial {w : World} {xs ys vs N} (k : TOs w (xs ++ ys) vs N) : ∃ M, TOs w xs vs M ∧ M.Sublist N := by
  obtain ⟨A, B, rfl, h1, h2⟩ := k.split
  have := h1.weaken (us := vs.drop xs.length)
  rw [List.take_append_drop] at this
  exact ⟨A, this, List.sublist_append_left _ _⟩

theorem flatten_take {e : Nat} {rows : List (List AV)} (n : Nat) : ∃ ys, rows.flatten = (rows.take n).flatten ++ ys := by
  refine ⟨(rows.drop n).flatten, ?_⟩
  rw [← List.flatten_append, List.take_append_drop]

/-- what an object bears when it goes into a cell -/
theorem sl_owned (r : Rel σ a h) {p g e n : Nat} {rows : List (List AV)} {v : Value} (hv : VR h (.sl p g e 0 n) v) (ho : σ.objs p = some (.slice e rows)) (hg : σ.gens p = g) (t : Tag) :
    ∃ N, TO h.w (.tr t e (rows.take n)) v N ∧ N.Sublist (h.blocks p) := by
  rw [← r.objs] at ho; rw [← r.gens] at hg
  cases hv with
  | sl _ _ _ _ _ b cap rows' h1 h2 h3 h4 h5 h6 =>
    rw [ho] at h1; cases h1
    obtain ⟨k0, k1⟩ := r.ok.ob _ _ ho
    rcases k1 with ⟨k1, _, _⟩ | ⟨b', cs, ty, fr, k1, k2, k3, k4, k5, k6⟩
    · rw [h3] at k1; cases k1
    · rw [h3] at k1; cases k1
      obtain ⟨ys, hys⟩ := flatten_take (e := e) (rows := rows) n
      rw [hys] at k5
      obtain ⟨M, hM, hs⟩ := k5.initial
      have hl : (rows.take n).length = n := by simp; omega
      refine ⟨b :: M, ?_, ?_⟩
      · have := TO.own (w := h.w) t e (rows.take n) b cs ty fr cap M k2 k3 (fun r hr => k0 r (List.mem_of_mem_take hr)) (by omega) (by rw [← k4]; simpa using h6) hM
        rw [hl] at this
        simpa using this
      · simp only [HS.blocks, h3, Option.toList_some, List.singleton_append]
        exact hs.cons_cons _
  | slEnd _ _ _ _ ad rows' h1 h2 h3 =>
    exact ⟨[], by simpa using .nil _ _ _, List.nil_sublist _⟩
  | slOld _ _ _ _ _ ad cap hold =>
    rcases hold with hold | ⟨_, hold⟩
    · omega
    · rw [ho] at hold; cases hold

theorem absorb1_ok (r : Rel σ a h) {l : Option Nat} {x y : AV} {v : Value} {ks : List Nat} (hv : VR h x v) (hy : σ.absorb1 l x = some (y, ks)) :
    noSl y ∧ ((ks = [] ∧ TO h.w y v []) ∨ ∃ p ob N, ks = [p] ∧ h.objs p = some ob ∧ TO h.w y v N ∧ N.Sublist (h.blocks p)) := by
  unfold St.absorb1 at hy
  split at hy
  · cases hy
    have := hv.inv_c; subst this
    exact ⟨rfl, .inl ⟨rfl, .nil _ _ _⟩⟩
  · split at hy
    · rename_i u _ hc; cases hy
      have := hv.inv_c; subst this
      exact ⟨hc, .inl ⟨rfl, .c _ (cellV_notAgg hc)⟩⟩
    · cases hy
  · rename_i p g e off n
    split at hy
    · rename_i e' rows ho
      split at hy
      · rename_i hc
        obtain ⟨hg, rfl, rfl⟩ := hc
        cases hy
        obtain ⟨N, h1, h2⟩ := sl_owned r hv ho hg .im
        exact ⟨rfl, .inr ⟨p, _, N, rfl, by rw [r.objs]; exact ho, h1, h2⟩⟩
      · cases hy
    · cases hy
  · cases hy

/-- some cells' worth -/
theorem absorb_ok (r : Rel σ a h) : ∀ {ls : List (Option Nat)} {xs ys : List AV} {vs : List Value} {ks : List Nat}, VRs h xs vs → σ.absorb ls xs = some (ys, ks) →
    ys.length = xs.length ∧ (∀ y ∈ ys, noSl y) ∧ ks.Nodup ∧ (∀ p ∈ ks, ∃ ob, h.objs p = some ob) ∧ ∃ N, TOs h.w ys vs N ∧ N.Nodup ∧ ∀ b ∈ N, ∃ p ∈ ks, b ∈ h.blocks p
  | l :: ls, x :: xs, zs, vs, ks, hv, hy => by
    cases hv with
    | cons _ v _ vs hv1 hv2 =>
      simp only [St.absorb] at hy
      split at hy
      · rename_i y a1 ys b1 e1 e2
        split at hy
        · rename_i hdis
          cases hy
          obtain ⟨i1, i2, i3, i4, N, i5, i6, i7⟩ := absorb_ok r hv2 e2
          obtain ⟨j1, j2⟩ := absorb1_ok r hv1 e1
          rcases j2 with ⟨rfl, j3⟩ | ⟨p, ob, M, rfl, j3, j4, j5⟩
          · exact ⟨by simp [i1], by intro z hz; rcases List.mem_cons.1 hz with rfl | hz; exact j1; exact i2 z hz, by simpa using i3, by simpa using i4, N,
              by simpa using TOs.cons _ _ _ _ _ _ j3 i5, i6, by simpa using i7⟩
          · have hp : p ∉ b1 := by simpa using hdis
            refine ⟨by simp [i1], by intro z hz; rcases List.mem_cons.1 hz with rfl | hz; exact j1; exact i2 z hz, by simpa using ⟨hp, i3⟩, ?_, M ++ N, .cons _ _ _ _ _ _ j4 i5, ?_, ?_⟩
            · intro q hq
              rcases List.mem_cons.1 (by simpa using hq) with rfl | hq
              · exact ⟨ob, j3⟩
              · exact i4 q hq
            · refine List.nodup_append.2 ⟨j5.nodup (r.ok.nodup p ob j3), i6, ?_⟩
              rintro b hb b' hb' rfl
              obtain ⟨q, hq, hqb⟩ := i7 b hb'
              obtain ⟨ob', hob'⟩ := i4 q hq
              exact r.ok.disj p q ob ob' j3 hob' (fun e => hp (e ▸ hq)) b (j5.subset hb) hqb
            · intro b hb
              rcases List.mem_append.1 hb with hb | hb
              · exact ⟨p, by simp, j5.subset hb⟩
              · obtain ⟨q, hq, hqb⟩ := i7 b hb
                exact ⟨q, by simp [hq], hqb⟩
        · cases hy
      · cases hy
  | ls, [], zs, vs, ks, hv, hy => by
    have : σ.absorb ls [] = some ([], []) := by cases ls <;> rfl
    rw [this] at hy; cases hy
    exact ⟨rfl, by simp, .nil, by simp, [], .nil _, .nil, by simp⟩
  | [], x :: xs, zs, vs, ks, hv, hy => by simp [St.absorb] at hy

theorem partRows_ok (r : Rel σ a h) {lay : List (Option Nat)} {e : Nat} : ∀ {i : Nat} {xs : List (Nat × AV)} {vs : List (Nat × Value)} {rows : List (List AV)} {ks : List Nat},
    xs.map Prod.fst = vs.map Prod.fst → VRs h (xs.map Prod.snd) (vs.map Prod.snd) → partRows σ lay e i xs = some (rows, ks) →
    rows.length = xs.length ∧ (∀ q ∈ rows, q.length = e) ∧ (∀ q ∈ rows, ∀ y ∈ q, noSl y) ∧ ks.Nodup ∧ (∀ p ∈ ks, ∃ ob, h.objs p = some ob) ∧
    (∀ k j v, vs[k]? = some (j, v) → j = i + k ∧ v.cells.size = e) ∧
    ∃ N, TOs h.w rows.flatten (vs.flatMap fun x => x.2.cells.toList) N ∧ N.Nodup ∧ ∀ b ∈ N, ∃ p ∈ ks, b ∈ h.blocks p
  | i, [], vs, rows, ks, he, _, hy => by
    have : vs = [] := by simpa using he.symm
    subst this
    simp [partRows] at hy
    obtain ⟨rfl, rfl⟩ := hy
    exact ⟨rfl, by simp, by simp, .nil, by simp, by simp, [], .nil _, .nil, by simp⟩
  | i, (j, x) :: xs, [], rows, ks, he, _, hy => by simp at he
  | i, (j, x) :: xs, (j', v) :: vs, rows, ks, he, hv, hy => by
    simp at he
    obtain ⟨rfl, he⟩ := he
    simp only [List.map_cons] at hv
    cases hv with
    | cons _ _ _ _ hv1 hv2 =>
      simp only [partRows] at hy
      split at hy
      · rename_i hc
        obtain ⟨rfl, hl⟩ := hc
        split at hy
        · rename_i ys a1 rows' b1 e1 e2
          split at hy
          · rename_i hdis
            obtain ⟨hyl, hdis⟩ := hdis
            cases hy
            have hxb : x ≠ .bad := by
              rintro rfl
              have : σ.absorb lay [AV.bad] = none := by
                cases lay with
                | nil => rfl
                | cons l ls => cases l <;> simp [St.absorb, St.absorb1]
              simp [cellsOf, this] at e1
            have hcells := hv1.cells hxb
            have hcl := hcells.len
            obtain ⟨i1, i2, i3, i4, i5, i6, N, i7, i8, i9⟩ := partRows_ok r he hv2 e2
            obtain ⟨j1, j2, j3, j4, M, j5, j6, j7⟩ := absorb_ok r hcells e1
            have hdis' : ∀ p ∈ a1, p ∉ b1 := by simpa using hdis
            refine ⟨by simp [i1], ?_, ?_, ?_, ?_, ?_, M ++ N, ?_, ?_, ?_⟩
            · intro q hq
              rcases List.mem_cons.1 hq with rfl | hq
              · exact hyl
              · exact i2 q hq
            · intro q hq
              rcases List.mem_cons.1 hq with rfl | hq
              · exact j2
              · exact i3 q hq
            · exact List.nodup_append.2 ⟨j3, i4, fun p hp q hq hpq => hdis' p hp (hpq ▸ hq)⟩
            · intro p hp
              rcases List.mem_append.1 hp with hp | hp
              · exact j4 p hp
              · exact i5 p hp
            · intro k j v' hk
              cases k with
              | zero =>
                simp at hk
                obtain ⟨rfl, rfl⟩ := hk
                exact ⟨rfl, by rw [← hl, ← hcl]; simp⟩
              | succ k =>
                obtain ⟨k1, k2⟩ := i6 k j v' (by simpa using hk)
                exact ⟨by omega, k2⟩
            · simp only [List.flatten_cons, List.flatMap_cons]
              exact j5.append (by rw [hcl, j1]) i7
            · refine List.nodup_append.2 ⟨j6, i8, ?_⟩
              rintro b hb b' hb' rfl
              obtain ⟨p, hp, hpb⟩ := j7 b hb
              obtain ⟨q, hq, hqb⟩ := i9 b hb'
              obtain ⟨ob, hob⟩ := j4 p hp
              obtain ⟨ob', hob'⟩ := i5 q hq
              exact r.ok.disj p q ob ob' hob hob' (fun e => hdis' p hp (e ▸ hq)) b hpb hqb
            · intro b hb
              rcases List.mem_append.1 hb with hb | hb
              · obtain ⟨p, hp, k⟩ := j7 b hb; exact ⟨p, by simp [hp], k⟩
              · obtain ⟨p, hp, k⟩ := i9 b hb; exact ⟨p, by simp [hp], k⟩
          · cases hy
        · cases hy
      · cases hy

theorem zip_fold {β : Type} (v : Array Value) (f : β → Value × Nat → β) (b : β) : v.zipIdx.foldl f b = (v.toList.zipIdx 0).foldl f b := by
  rw [← Array.foldl_toList]; simp

/-- parts that come in order are laid one behind the other -/
theorem fill_rows {e : Nat} : ∀ {i : Nat} {vs : List (Nat × Value)} {cs : Array Value}, (∀ k j v, vs[k]? = some (j, v) → j = i + k ∧ v.cells.size = e) → i * e + vs.length * e ≤ cs.size →
    ∃ cs', Instr.fill (fun i => some (i * e, e)) cs vs = some cs' ∧ cs'.toList = cs.toList.take (i * e) ++ (vs.flatMap fun x => x.2.cells.toList) ++ cs.toList.drop (i * e + vs.length * e)
  | i, [], cs, _, _ => ⟨cs, rfl, by simp⟩
  | i, (j, v) :: vs, cs, hv, hl => by
    obtain ⟨hj, hs⟩ := hv 0 j v (by simp)
    have hj : j = i := by omega
    subst hj
    simp only [List.length_cons, Nat.add_mul, Nat.one_mul] at hl
    let cs1 := v.cells.zipIdx.foldl (fun cs (x : Value × Nat) => cs.setIfInBounds (j * e + x.2) x.1) cs
    have e1 : cs1.toList = cs.toList.take (j * e) ++ v.cells.toList ++ cs.toList.drop (j * e + e) := by
      have := set_fold v.cells.toList (j * e) cs (by simp; omega)
      simp only [Array.length_toList, hs] at this
      rw [← this, ← zip_fold]
    have e2 : cs1.size = cs.size := by
      have := congrArg List.length e1
      simp at this
      omega
    obtain ⟨cs', f1, f2⟩ := fill_rows (i := j + 1) (vs := vs) (cs := cs1) (by
      intro k j' v' hk
      obtain ⟨k1, k2⟩ := hv (k + 1) j' v' (by simpa using hk)
      exact ⟨by omega, k2⟩) (by rw [e2, Nat.add_mul, Nat.one_mul]; omega)
    refine ⟨cs', ?_, ?_⟩
    · simp only [Instr.fill]
      rw [if_neg (by simp; omega)]
      exact f1
    · rw [f2, e1]
      simp only [List.flatMap_cons, List.length_cons, Nat.add_mul, Nat.one_mul, ← List.append_assoc]
      have l1 : (cs.toList.take (j * e)).length = j * e := by simp; omega
      have l2 : (cs.toList.take (j * e) ++ v.cells.toList).length = j * e + e := by rw [List.length_append, l1]; simp [hs]
      congr 1
      · congr 1
        rw [List.take_append_of_le_length (by rw [l2]; omega), List.take_of_length_le (by rw [l2]; omega)]
      · rw [List.drop_append, l2, List.drop_eq_nil_of_le (by rw [l2]; omega), List.nil_append, List.drop_drop]
        congr 1
        omega

theorem killed_filter {ks : List Nat} {id : Nat} : id ∉ ks.filter (· ≠ id) := by simp

theorem ok_buildSlice {t el : TypeId} {e len d : Nat} {parts : Array (Nat × Operand)} {rows : List (List AV)} {ks : List Nat} (r : Rel σ a h) (hd : ∀ t, o.dst = some t → t < a.tmps.size)
    (hop : o.op = .buildSlice t len parts) (h1 : elemT P t = some el) (h2 : sizeT P el = some e) (hlen : parts.size = len) (hsz : len * e ≤ 16777216) (he : 0 < e)
    (hp : partRows σ (layT P 8 el) e 0 (parts.toList.map fun (i, x) => (i, σ.get x)) = some (rows, ks)) (hz : len = 0 ∨ (zeroT P el).isSome = true) :
    OpOK P o σ { val := .sl (site d 0) (σ.gens (site d 0) + 1) e 0 rows.length, objs := (site d 0, some (.slice e rows), σ.gens (site d 0) + 1) :: killed σ (ks.filter (· ≠ site d 0)) } a h := by
  have hvals : VRs h ((parts.toList.map fun (i, x) => (i, σ.get x)).map Prod.snd) ((parts.toList.map fun (i, x) => (i, a.eval x)).map Prod.snd) := by
    refine VRs.mk (by simp) ?_
    intro i x v hx hv
    simp only [List.map_map, List.getElem?_map, Option.map_eq_some_iff] at hx hv
    obtain ⟨p, hp1, rfl⟩ := hx
    obtain ⟨p', hp2, rfl⟩ := hv
    rw [hp1] at hp2; cases hp2
    exact r.get _
  obtain ⟨i1, i2, i3, i4, i5, i6, N, i7, i8, i9⟩ := partRows_ok r (by simp [Function.comp_def]) hvals hp
  have hplen : (parts.toList.map fun (i, x) => (i, a.eval x)).length = len := by simp [hlen]
  -- the cells
  have hrun : ∃ cs, (Instr.buildSlice t len (parts.map fun (i, x) => (i, a.eval x))).run P h.w = .ok (.slice (some ⟨h.w.heap.size, 0, none⟩) len len) { h.w with heap := h.w.heap.push (.cells cs el) } ∧
      cs.toList = (parts.toList.map fun (i, x) => (i, a.eval x)).flatMap fun x => x.2.cells.toList := by
    have go : ∀ zs : Array Value, zs.size = len * e → ∃ cs, Instr.fill (fun i => some (i * e, e)) zs (parts.toList.map fun (i, x) => (i, a.eval x)) = some cs ∧
        cs.toList = (parts.toList.map fun (i, x) => (i, a.eval x)).flatMap fun x => x.2.cells.toList := by
      intro zs hzs
      obtain ⟨cs, f1, f2⟩ := fill_rows (i := 0) (cs := zs) i6 (by rw [hplen, hzs]; omega)
      refine ⟨cs, f1, ?_⟩
      rw [f2, hplen]
      simp [hzs]
    by_cases h0 : len * e = 0
    · obtain ⟨cs, f1, f2⟩ := go #[] (by simp [h0])
      refine ⟨cs, ?_, f2⟩
      have f1' : Instr.fill (fun i => some (i * e, e)) #[] (List.map (fun x => (x.fst, a.eval x.snd)) parts.toList) = some cs := f1
      have e0 : (Array.range 0).map (fun _ => (default : Value)) = #[] := by simp
      simp [Instr.buildSlice, run_underlying (elemT_eq h1), run_sizeT h2, h0, e0, f1', newRow, _root_.Go.newObj, Sem.run]
    · have hl0 : len ≠ 0 := by rintro rfl; simp at h0
      obtain ⟨zc, hzc⟩ := Option.isSome_iff_exists.1 (hz.resolve_left hl0)
      obtain ⟨it, z, z1, z2, z3, rfl⟩ := zeroT_eq hzc
      obtain ⟨cs, f1, f2⟩ := go ((Array.range (len * e)).map (z.cells[· % z.cells.size]!)) (by simp)
      refine ⟨cs, ?_, f2⟩
      have f1' : Instr.fill (fun i => some (i * e, e)) ((Array.range (len * e)).map (z.cells[· % z.cells.size]!)) (List.map (fun x => (x.fst, a.eval x.snd)) parts.toList) = some cs := f1
      have hbig : ¬ 2 ^ 24 < len * e := by omega
      simp [Instr.buildSlice, run_underlying (elemT_eq h1), run_sizeT h2, h0, hbig, zeroValue, typeInfo, z1, z2, f1', newRow, _root_.Go.newObj, Sem.run]
  obtain ⟨cs, hr, hcs⟩ := hrun
  have hrl : rows.length = len := by rw [i1]; simp [hlen]
  refine ok_new r hd (v := .slice (some ⟨h.w.heap.size, 0, none⟩) len len) (w' := { h.w with heap := h.w.heap.push (.cells cs el) }) (cap := cs.size) (N := N) killed_filter ?_ rfl rfl rfl rfl i8 ?_ ?_
  · rw [show execOp a.eval o = (do pure (Next.value (← Instr.buildSlice t len (parts.map fun (i, x) => (i, a.eval x))))) by simp only [execOp, hop]]
    exact run_next hr
  · intro b hb
    obtain ⟨p, hp1, hp2⟩ := i9 b hb
    obtain ⟨ob, hob⟩ := i5 p hp1
    refine ⟨p, ob, hob, hp2, ?_⟩
    by_cases hpi : p = site d 0
    · exact .inl hpi
    · exact .inr (by simp [hp1, hpi])
  · intro h' ev hw hb hc hs ho hg
    have hcsz : cs.size = rows.flatten.length := by
      have l1 := i7.len
      have l2 : cs.size = len * e := by
        rw [← Array.length_toList, hcs]
        rw [flat_len i2, hrl] at l1
        have : ∀ (vs : List (Nat × Value)) (q : Nat), (∀ k j v, vs[k]? = some (j, v) → j = q + k ∧ v.cells.size = e) → (vs.flatMap fun x => x.2.cells.toList).length = vs.length * e := by
          intro vs
          induction vs with
          | nil => intro q _; simp
          | cons x vs ih =>
            intro q hq
            have h0 := (hq 0 x.1 x.2 (by simp)).2
            have := ih (q + 1) (fun k j v hk => by have := hq (k + 1) j v (by simpa using hk); exact ⟨by omega, this.2⟩)
            rw [List.flatMap_cons, List.length_append, this, List.length_cons, Nat.add_mul, Nat.one_mul]
            simp [h0]; omega
        rw [this _ 0 i6, hplen]
      rw [l2, flat_len i2, hrl]
    refine ⟨⟨i2, .inr ⟨_, cs, el, (0, 0), hb, by rw [hw]; simp, fun i _ hi => by omega, hc, ?_, ?_⟩⟩, ?_⟩
    · rw [hs, hcs]
      refine i7.frame fun b hb' => ?_
      obtain ⟨p, hp1, hp2⟩ := i9 b hb'
      obtain ⟨ob, hob⟩ := i5 p hp1
      have := r.ok.lt p ob hob b hp2
      rw [hw]
      simp [Array.getElem?_push, Nat.ne_of_lt this]
    · intro k o' g e' off n v hk _
      have := List.mem_of_getElem? hk
      obtain ⟨q, hq, hm⟩ := List.mem_flatten.1 this
      exact absurd (i3 q hq _ hm) (by simp [noSl, plain])
    · have := VR.sl (h := h') (site d 0) (σ.gens (site d 0) + 1) e 0 rows.length _ len rows ho hg hb (by omega) (by omega) (by rw [hc, hcsz, flat_len i2, hrl, Nat.zero_add]; exact Nat.le_refl _)
      rw [hrl] at this ⊢
      simpa using this

theorem TOs.mk0 {w : World} : ∀ {xs : List AV} {vs : List Value}, xs.length ≤ vs.length → (∀ (i : Nat) x v, xs[i]? = some x → vs[i]? = some v → TO w x v []) → TOs w xs vs []
  | [], vs, _, _ => .nil _
  | x :: xs, [], hl, _ => by simp at hl
  | x :: xs, v :: vs, hl, hk => by
    have := TOs.cons _ _ _ _ _ _ (hk 0 x v (by simp) (by simp)) (TOs.mk0 (xs := xs) (vs := vs) (by simpa using hl) fun i x v hx hv => hk (i + 1) x v (by simpa using hx) (by simpa using hv))
    simpa using this

theorem nrmCell_ok {w : World} (l : Option Nat) {v : Value} (hv : cellV v = true) : TO w (nrmCell l (.c v)) v [] ∧ noSl (nrmCell l (.c v)) := by
  unfold nrmCell
  split
  · rename_i e; cases ‹_ = AV.c (Value.slice none 0 0)›; exact ⟨.nil _ _ _, rfl⟩
  · exact ⟨.c _ (cellV_notAgg hv), hv⟩

theorem nrmCells_ok {w : World} : ∀ (ls : List (Option Nat)) {vs : List Value}, vs.all cellV = true → ∀ (i : Nat) x v, (nrmCells ls (vs.map .c))[i]? = some x → vs[i]? = some v → TO w x v [] ∧ noSl x
  | [], vs, hc, i, x, v, hx, hv => by
    have e : nrmCells [] (vs.map AV.c) = vs.map .c := by cases vs <;> rfl
    rw [e, List.getElem?_map, hv] at hx
    cases hx
    exact ⟨.c _ (cellV_notAgg (List.all_eq_true.1 hc _ (List.mem_of_getElem? hv))), List.all_eq_true.1 hc _ (List.mem_of_getElem? hv)⟩
  | l :: ls, [], hc, i, x, v, hx, hv => by simp at hv
  | l :: ls, u :: vs, hc, i, x, v, hx, hv => by
    simp only [List.all_cons, Bool.and_eq_true] at hc
    simp only [List.map_cons, nrmCells] at hx
    cases i with
    | zero =>
      simp at hx hv; subst hv; subst hx
      exact nrmCell_ok l hc.1
    | succ i => exact nrmCells_ok ls hc.2 i x v (by simpa using hx) (by simpa using hv)

theorem nrmCells_len : ∀ (ls : List (Option Nat)) (vs : List AV), (nrmCells ls vs).length = vs.length
  | [], vs => by cases vs <;> rfl
  | l :: ls, [] => rfl
  | l :: ls, v :: vs => by simp [nrmCells, nrmCells_len ls vs]

theorem ok_makeSlice {t el : TypeId} {e bytes d : Nat} {x y : Operand} {n : Int} {z : List AV} (r : Rel σ a h) (hd : ∀ t, o.dst = some t → t < a.tmps.size)
    (hop : o.op = .makeSlice t x y) (h1 : elemT P t = some el) (h2 : sizeT P el = some e) (h3 : bytesT P el = some bytes) (h4 : zeroT P el = some z)
    (hx : σ.get x = .c (.int .i64 n)) (hy : σ.get y = .c (.int .i64 n)) (hn : 0 ≤ n) (hroom : room n.toNat bytes = true) (hzl : z.length = e) (he : 0 < e) :
    OpOK P o σ (newOb σ (site d 0) (.slice e (List.replicate n.toNat (nrmCells (layT P 8 el) z))) fun g => .sl (site d 0) g e 0 n.toNat) a h := by
  have kx := r.get x; rw [hx] at kx; have kx := kx.inv_c
  have ky := r.get y; rw [hy] at ky; have ky := ky.inv_c
  obtain ⟨it, zv, z1, z2, z3, rfl⟩ := zeroT_eq h4
  obtain ⟨m, rfl⟩ := Int.eq_ofNat_of_zero_le hn
  simp only [Int.toNat_natCast] at hroom ⊢
  have hzs : zv.cells.size = e := by simpa using hzl
  have hb : it.bytes = bytes := by simpa [bytesT, z1] using h3
  have hs : it.size = e := by simpa [sizeT, z1] using h2
  unfold room at hroom
  simp only [Bool.and_eq_true, decide_eq_true_eq] at hroom
  obtain ⟨⟨r1, r2⟩, r3⟩ := hroom
  have hm : m ≤ 1099511627776 := by
    have : m * 1 ≤ m * bytes := Nat.mul_le_mul_left _ r3
    omega
  let cs : Array Value := madeCells zv.cells (m * e)
  have hrun : (Instr.makeSlice t (.int .i64 m) (.int .i64 m)).run P h.w = .ok (.slice (some ⟨h.w.heap.size, 0, none⟩) m m) { h.w with heap := h.w.heap.push (.cells cs el) } := by
    have c2 : (it.bytes : Int) * m ≤ 281474976710656 := by
      rw [hb]
      have : (bytes : Int) * m = ((m * bytes : Nat) : Int) := by push_cast; rw [Int.mul_comm]
      rw [this]; omega
    have := run_make (P := P) h.w t el it zv (elemT_eq h1) z1 z2 .i64 .i64 m m hn (Int.le_refl _) c2 (by omega)
    simp only [Int.toNat_natCast, hs] at this
    exact this
  refine ok_new r hd (v := .slice (some ⟨h.w.heap.size, 0, none⟩) m m) (w' := { h.w with heap := h.w.heap.push (.cells cs el) }) (ks := []) (cap := cs.size) (N := []) (by simp) ?_ rfl rfl rfl rfl .nil (by simp) ?_
  · rw [show execOp a.eval o = (do pure (Next.value (← Instr.makeSlice t (a.eval x) (a.eval y)))) by simp only [execOp, hop], kx, ky]
    exact run_next hrun
  · intro h' ev hw hb hc hs' ho hg
    have hrows : ∀ q ∈ List.replicate m (nrmCells (layT P 8 el) (zv.cells.toList.map AV.c)), q.length = e := by
      intro q hq
      rw [(List.mem_replicate.1 hq).2, nrmCells_len]; simpa using hzl
    have hcs : cs.size = m * e := by simp [cs, madeCells]
    have hcell : ∀ (i : Nat) x v, (List.replicate m (nrmCells (layT P 8 el) (zv.cells.toList.map AV.c))).flatten[i]? = some x → cs.toList[i]? = some v → TO h'.w x v [] ∧ noSl x := by
      intro i x v hx hv
      have hi : i < m * e := by
        have := (List.getElem?_eq_some_iff.1 hv).1
        rw [Array.length_toList, hcs] at this
        exact this
      have hie : i / e < m := Nat.div_lt_of_lt_mul (by rw [Nat.mul_comm]; exact hi)
      have hmod : i % e < e := Nat.mod_lt _ he
      have h5 := flat_part hrows (i := i / e) (j := i % e) (s := 1) (r := nrmCells (layT P 8 el) (zv.cells.toList.map AV.c)) (by simp [List.getElem?_replicate, hie])
        (by rw [nrmCells_len]; simp [hzs]; omega)
      rw [Nat.div_add_mod'] at h5
      have h6 : (nrmCells (layT P 8 el) (zv.cells.toList.map AV.c))[i % e]? = some x := by
        have := congrArg (fun l => l[0]?) h5
        simp only [List.getElem?_take, List.getElem?_drop, Nat.add_zero] at this
        rw [hx] at this
        simpa using this.symm
      have h7 : zv.cells.toList[i % e]? = some v := by
        simp [cs, madeCells, hi] at hv
        rw [hzs] at hv
        have : i % e < zv.cells.size := by rw [hzs]; exact hmod
        rw [Array.getElem?_toList, Array.getElem?_eq_getElem this]
        rw [getElem!_pos zv.cells (i % e) this] at hv
        rw [hv]
      exact nrmCells_ok _ z3 _ _ _ h6 h7
    have hsz : (List.replicate m (nrmCells (layT P 8 el) (zv.cells.toList.map AV.c))).flatten.length = m * e := by rw [flat_len hrows]; simp
    refine ⟨⟨hrows, .inr ⟨_, cs, el, (0, 0), hb, by rw [hw]; simp, fun i _ hi => by omega, hc, ?_, ?_⟩⟩, ?_⟩
    · rw [hs']
      exact TOs.mk0 (by rw [hsz, Array.length_toList, hcs]; exact Nat.le_refl _) fun i x v hx hv => (hcell i x v hx hv).1
    · intro k o' g e' off n v hk hv
      exact absurd (hcell k _ v hk hv).2 (by simp [noSl, plain])
    · have := VR.sl (h := h') (site d 0) (σ.gens (site d 0) + 1) e 0 m _ m _ ho hg hb (by simp) (by omega) (by rw [hc, hcs, Nat.zero_add]; exact Nat.le_refl _)
      simpa using this

end
end Go.AM
