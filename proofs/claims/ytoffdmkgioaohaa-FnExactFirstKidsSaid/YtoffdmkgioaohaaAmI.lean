/- Rows that are read; structs that are built; conversions. -/
import Derived.Test.YtoffdmkgioaohaaAmH
import Derived.Lib.ConvBytes
import Derived.Laws.Tables
namespace Go.AM

section
variable {P : Program} {o : Oper} {σ : St} {a : Act} {h : HS}

/-- what an object's slice reads as -/
theorem slice_read (hok : HeapOK h) {q : Nat} {e : Nat} {rows : List (List AV)} (ho : h.objs q = some (.slice e rows)) {b : Nat} (hb : h.blk q = some b) (off n : Nat) :
    (∀ r ∈ rows, r.length = e) ∧ ∃ cs ty fr, h.w.heap[b]? = some (.cells cs ty fr) ∧ h.cap q = cs.size ∧ rows.length * e ≤ cs.size ∧ ∃ N, (∀ b' ∈ N, b' ∈ h.sub q) ∧
      TRs h.w ((rows.drop off).take n).flatten ((cs.toList.drop (off * e)).take (n * e)) N := by
  obtain ⟨k0, k1⟩ := hok.ob _ _ ho
  refine ⟨k0, ?_⟩
  rcases k1 with ⟨k1, _, _⟩ | ⟨b', cs, ty, fr, k1, k2, k3, k4, k5, k6⟩
  · rw [hb] at k1; cases k1
  · rw [hb] at k1; cases k1
    obtain ⟨M, hM, hsub⟩ := k5.read.part (off * e) (n * e)
    rw [← flat_cut k0] at hM
    have := k5.len
    rw [flat_len k0, Array.length_toList] at this
    exact ⟨cs, ty, fr, k2, k4, this, M, hsub, hM⟩

theorem rows_read (r : Rel σ a h) {X : AV} {v : Value} {e : Nat} {rows : List (List AV)} (hv : VR h X v) (hr : σ.rows e X = some rows) :
    ∃ ad c, v = .slice ad rows.length c ∧ rows.length ≤ c ∧ (rows = [] ∨ (∀ q ∈ rows, q.length = e) ∧ ∃ b off vs N, ad = some ⟨b, off, none⟩ ∧
      (∀ k v, vs[k]? = some v → h.w.cell? ⟨b, off + k, none⟩ = some v) ∧ TRs h.w rows.flatten vs N ∧ vs.length = rows.length * e) := by
  unfold St.rows at hr
  split at hr
  · rename_i t e' rows'
    split at hr
    · rename_i hc; cases hr
      obtain ⟨ht, rfl⟩ := hc
      cases hv with
      | tr _ _ _ _ N k1 k2 k3 =>
        cases k1 with
        | nil _ _ ad => exact ⟨ad, 0, rfl, Nat.le_refl _, .inl rfl⟩
        | dumb _ _ k => simp [dumb] at k
        | tr _ _ _ b off cap vs N h1 h2 h3 h4 =>
          refine ⟨_, cap, rfl, h2, .inr ⟨h1, b, off, vs.take (rows.length * e'), N, rfl, ?_, ?_, ?_⟩⟩
          · intro k v hk
            rw [List.getElem?_take] at hk
            split at hk
            · exact h3 k v hk
            · cases hk
          · obtain ⟨M, hM, hsub⟩ := h4.part 0 (rows.length * e')
            rw [← flat_len h1, List.drop_zero, List.take_length, List.drop_zero] at hM
            have h5 := h4.len
            have : vs = vs.take rows.flatten.length ++ vs.drop rows.flatten.length := (List.take_append_drop _ _).symm
            -- the footprint may be kept as it is
            have key : ∀ {xs : List AV} {us : List Value} {N : List Nat}, TRs h.w xs us N → TRs h.w xs (us.take xs.length) N := by
              intro xs
              induction xs with
              | nil => intro us N hh; cases hh; simpa using .nil _
              | cons x xs ih => intro us N hh; cases hh with | cons _ _ _ _ _ _ q1 q2 => simpa using .cons _ _ _ _ _ _ q1 (ih q2)
            have h6 := key h4
            rwa [flat_len h1] at h6
          · have h5 := h4.len
            rw [flat_len h1] at h5
            simp; omega
      | trOld n _ _ ad cap hn =>
        have := tag_live (r := r) ht n rfl
        omega
    · cases hr
  · rename_i p g e' off n
    split at hr
    · rename_i e2 rows' ho
      split at hr
      · rename_i hc; cases hr
        obtain ⟨hg, rfl⟩ := hc
        rw [← r.objs] at ho; rw [← r.gens] at hg
        cases hv with
        | sl _ _ _ _ _ b cap rows2 h1 h2 h3 h4 h5 h6 =>
          rw [ho] at h1; cases h1
          have hl : ((rows'.drop off).take n).length = n := by simp; omega
          obtain ⟨k0, cs, ty, fr, j1, j2, j3, N, j4, j5⟩ := slice_read r.ok ho h3 off n
          refine ⟨_, cap, by rw [hl], by omega, ?_⟩
          refine .inr ⟨fun q hq => k0 q (List.mem_of_mem_drop (List.mem_of_mem_take hq)), b, off * e', _, N, rfl, ?_, j5, ?_⟩
          · intro k v hk
            rw [cell_at j1]
            rw [List.getElem?_take] at hk
            split at hk
            · simpa using hk
            · cases hk
          · have h7 : (off + n) * e' ≤ rows'.length * e' := Nat.mul_le_mul_right _ h4
            rw [Nat.add_mul] at h7
            rw [hl]; simp; omega
        | slEnd _ _ _ _ ad rows2 h1 h2 h3 =>
          refine ⟨ad, 0, by simp, by simp, .inl (by simp)⟩
        | slOld _ _ _ _ _ ad cap hold =>
          rcases hold with hold | ⟨_, hold⟩
          · omega
          · rw [ho] at hold; cases hold
      · cases hr
    · cases hr
  · cases hr
    have := hv.inv_c; subst this
    exact ⟨none, 0, rfl, Nat.le_refl _, .inl rfl⟩
  · cases hr

/-! #### structs -/

theorem zeroT_eq {t : TypeId} {cells : List AV} (hz : zeroT P t = some cells) : ∃ i z, P.info? t = some i ∧ i.zero = some z ∧ z.cells.toList.all cellV = true ∧ cells = z.cells.toList.map .c := by
  unfold zeroT at hz
  split at hz
  · rename_i z hz0
    obtain ⟨i, h1, h2⟩ := Option.bind_eq_some_iff.1 hz0
    split at hz
    · rename_i hc; cases hz; exact ⟨i, z, h1, h2, hc, rfl⟩
    · cases hz
  · cases hz

theorem cellV_notAgg {v : Value} (h : cellV v = true) : ∀ cs, v ≠ .agg cs := by rintro cs rfl; simp [cellV] at h

theorem zero_VRs {h : HS} {l : List Value} (k : l.all cellV = true) : VRs h (l.map .c) l := by
  refine VRs.mk (by simp) ?_
  intro i x v hx hv
  simp only [List.getElem?_map, Option.map_eq_some_iff] at hx
  obtain ⟨u, hu, rfl⟩ := hx
  rw [hv] at hu; cases hu
  exact .c _ (cellV_notAgg (List.all_eq_true.1 k _ (List.mem_of_getElem? hv)))

theorem set_fold_get : ∀ (l : List Value) (k off : Nat) (cs : Array Value), off + k + l.length ≤ cs.size → ∀ i,
    ((l.zipIdx k).foldl (fun cs (x : Value × Nat) => cs.setIfInBounds (off + x.2) x.1) cs)[i]? = if off + k ≤ i ∧ i < off + k + l.length then l[i - (off + k)]? else cs[i]?
  | [], k, off, cs, _, i => by
    simp only [List.zipIdx_nil, List.foldl_nil, List.length_nil]
    rw [if_neg (by omega)]
  | v :: l, k, off, cs, hl, i => by
    simp only [List.length_cons] at hl
    simp only [List.zipIdx_cons, List.foldl_cons]
    rw [set_fold_get l (k + 1) off _ (by simp; omega) i, Array.getElem?_setIfInBounds]
    simp only [List.length_cons]
    by_cases h1 : off + k = i
    · subst h1
      rw [if_neg (by omega), if_pos rfl, if_pos (by omega), if_pos (by omega)]
      simp
    · by_cases h2 : off + (k + 1) ≤ i ∧ i < off + (k + 1) + l.length
      · rw [if_pos h2, if_pos (by omega)]
        rw [show i - (off + k) = (i - (off + (k + 1))) + 1 by omega, List.getElem?_cons_succ]
      · rw [if_neg h2, if_neg h1, if_neg (by omega)]

theorem set_fold_size : ∀ (l : List (Value × Nat)) (off : Nat) (cs : Array Value), (l.foldl (fun cs (x : Value × Nat) => cs.setIfInBounds (off + x.2) x.1) cs).size = cs.size
  | [], _, _ => rfl
  | x :: l, off, cs => by simp only [List.foldl_cons]; rw [set_fold_size l off]; simp

theorem set_fold (l : List Value) (off : Nat) (cs : Array Value) (hl : off + l.length ≤ cs.size) :
    ((l.zipIdx 0).foldl (fun cs (x : Value × Nat) => cs.setIfInBounds (off + x.2) x.1) cs).toList = cs.toList.take off ++ l ++ cs.toList.drop (off + l.length) := by
  apply List.ext_getElem?
  intro i
  rw [Array.getElem?_toList, set_fold_get l 0 off cs (by omega) i]
  simp only [Nat.add_zero, List.append_assoc]
  by_cases h1 : i < off
  · rw [if_neg (by omega), List.getElem?_append_left (by simp; omega), List.getElem?_take, if_pos h1, Array.getElem?_toList]
  · rw [List.getElem?_append_right (by simp; omega)]
    have e1 : (cs.toList.take off).length = off := by simp; omega
    rw [e1]
    by_cases h2 : i < off + l.length
    · rw [if_pos (by omega), List.getElem?_append_left (by omega)]
    · rw [if_neg (by omega), List.getElem?_append_right (by omega), List.getElem?_drop, Array.getElem?_toList]
      congr 1; omega

/-- the fields are laid one by one -/
theorem fill_ok {t : TypeId} {places : Nat → Option (Nat × Nat)} (hp : ∀ i off s ag, fieldT P t i = some (off, s, ag) → places i = some (off, s)) :
    ∀ {xs : List (Nat × AV)} {vs : List (Nat × Value)} {cells ys : List AV} {cs : Array Value}, xs.map Prod.fst = vs.map Prod.fst → VRs h (xs.map Prod.snd) (vs.map Prod.snd) → VRs h cells cs.toList →
      fillRow P t cells xs = some ys → ∃ cs', Instr.fill places cs vs = some cs' ∧ VRs h ys cs'.toList
  | [], vs, cells, ys, cs, he, _, hc, hf => by
    have : vs = [] := by simpa using he.symm
    subst this
    simp [fillRow] at hf; subst hf
    exact ⟨cs, rfl, hc⟩
  | (i, x) :: xs, vs, cells, ys, cs, he, hv, hc, hf => by
    cases vs with
    | nil => simp at he
    | cons v vs =>
      obtain ⟨j, v⟩ := v
      simp at he
      obtain ⟨rfl, he⟩ := he
      simp only [List.map_cons] at hv
      cases hv with
      | cons _ _ _ _ hv1 hv2 =>
        simp only [fillRow] at hf
        split at hf
        · rename_i off s ag hfield
          split at hf
          · rename_i hcond
            obtain ⟨c1, c2, c3⟩ := hcond
            have hcells := hv1.cells (bad_cells c3)
            have hl := hcells.len
            have hlc := hc.len
            have hsz : v.cells.size = s := by rw [← c1, ← hl]; simp
            have hsize : off + v.cells.size ≤ cs.size := by rw [hsz]; simp at hlc; omega
            simp only [Instr.fill, hp _ _ _ _ hfield]
            rw [if_neg (by simp; omega)]
            refine fill_ok hp he hv2 ?_ hf
            have e : (v.cells.zipIdx.foldl (fun cs (x : Value × Nat) => cs.setIfInBounds (off + x.2) x.1) cs).toList = cs.toList.take off ++ v.cells.toList ++ cs.toList.drop (off + v.cells.toList.length) := by
              rw [← set_fold _ _ _ (by simpa using hsize), ← Array.foldl_toList]
              simp
            have e2 : (v.cells.zipIdx.foldl (fun cs (x : Value × Nat) => match x with | (c, j) => cs.setIfInBounds (off + j) c) cs) = (v.cells.zipIdx.foldl (fun cs (x : Value × Nat) => cs.setIfInBounds (off + x.2) x.1) cs) := rfl
            rw [e2, e]
            unfold splice
            rw [hl]
            exact ((hc.take off).append hcells).append (hc.drop _)
          · cases hf
        · cases hf

theorem mem_places : ∀ {fs : List Field} {places : List (Nat × Nat)}, fs.mapM (fun f => (P.info? f.type).map fun i => (f.offset, i.size)) = some places →
    ∀ (i : Nat) (f : Field) (s : Nat), fs[i]? = some f → sizeT P f.type = some s → places[i]? = some (f.offset, s)
  | [], places, _, i, f, s, hi, _ => by simp at hi
  | g :: fs, places, hr, i, f, s, hi, hs => by
    simp only [List.mapM_cons, Option.bind_eq_bind, Option.pure_def] at hr
    cases hg : P.info? g.type with
    | none => simp [hg] at hr
    | some gi =>
      cases hrest : fs.mapM (fun f => (P.info? f.type).map fun i => (f.offset, i.size)) with
      | none => simp [hg, hrest] at hr
      | some rest =>
        simp [hg, hrest] at hr
        subst hr
        cases i with
        | zero =>
          simp at hi; subst hi
          simp [sizeT, hg] at hs
          simp [hs]
        | succ i => exact mem_places hrest i f s (by simpa using hi) hs

theorem ok_build {t : TypeId} {parts : Array (Nat × Operand)} {cells ys : List AV} (r : Rel σ a h) (hd : ∀ t, o.dst = some t → t < a.tmps.size) (hop : o.op = .build t parts)
    (hz : structT P t = some cells) (hy : fillRow P t cells (parts.toList.map fun (i, x) => (i, σ.get x)) = some ys) : OpOK P o σ { val := .agg ys } a h := by
  unfold structT at hz
  split at hz
  · rename_i fs hu
    split at hz
    · rename_i places hp
      obtain ⟨it, z, h1, h2, h3, rfl⟩ := zeroT_eq hz
      have hplaces : ∀ i off s ag, fieldT P t i = some (off, s, ag) → places.toArray[i]? = some (off, s) := by
        intro i off s ag hf
        obtain ⟨fs', x, k1, k2, k3, k4, k5, k6⟩ := fieldT_eq hf
        rw [hu] at k1; cases k1
        rw [List.getElem?_toArray, ← k3]
        exact mem_places hp i x s (by simpa using k2) k4
      have hvals : VRs h ((parts.toList.map fun (i, x) => (i, σ.get x)).map Prod.snd) ((parts.toList.map fun (i, x) => (i, a.eval x)).map Prod.snd) := by
        refine VRs.mk (by simp) ?_
        intro i x v hx hv
        simp only [List.map_map, List.getElem?_map, Option.map_eq_some_iff] at hx hv
        obtain ⟨p, hp1, rfl⟩ := hx
        obtain ⟨p', hp2, rfl⟩ := hv
        rw [hp1] at hp2; cases hp2
        exact r.get _
      obtain ⟨cs', f1, f2⟩ := fill_ok (P := P) (places := (places.toArray[·]?)) hplaces (xs := parts.toList.map fun (i, x) => (i, σ.get x)) (vs := parts.toList.map fun (i, x) => (i, a.eval x))
        (by simp [Function.comp_def]) hvals (zero_VRs h3) hy
      have key := VR.agg _ _ f2
      rw [Array.toArray_toList] at key
      refine OpOK.pure r hd ?_ key
      rw [show execOp a.eval o = (do pure (Next.value (← Instr.build t (parts.map fun (i, x) => (i, a.eval x))))) by simp only [execOp, hop]]
      refine run_next (run_build _ _ _ _ ?_)
      unfold Program.built
      simp only [h1, hu, h2, hp]
      rw [Array.toList_map]
      exact f1
    · cases hz
  · cases hz

/-! #### conversions that leave memory alone -/

theorem bytes_vals {rows : List (List AV)} {bs : List UInt8} (hb : bytesOfRows rows = some bs) : ∃ ns : List Int, rows = ns.map (fun n => [.c (.int .u8 n)]) ∧ bs = ns.map fun n => UInt8.ofNat n.toNat := by
  induction rows generalizing bs with
  | nil => simp [bytesOfRows] at hb; subst hb; exact ⟨[], rfl, rfl⟩
  | cons x rows ih =>
    unfold bytesOfRows at hb
    split at hb
    · cases ‹_ :: _ = []›
    · rename_i n rows' e
      cases e
      obtain ⟨bs', h1, rfl⟩ := Option.map_eq_some_iff.1 hb
      obtain ⟨ns, rfl, rfl⟩ := ih h1
      exact ⟨n :: ns, rfl, rfl⟩
    · cases hb

theorem flat_one {α : Type} (f : α → AV) : ∀ ns : List α, (ns.map fun n => [f n]).flatten = ns.map f
  | [] => rfl
  | n :: ns => by simp [flat_one f ns]

theorem ok_toString {src dst : TypeId} {x : Operand} {el : TypeId} {rows : List (List AV)} {bs : List UInt8} (r : Rel σ a h) (hd : ∀ t, o.dst = some t → t < a.tmps.size)
    (hop : o.op = .convert src dst x) (h1 : elemT P src = some el) (h2 : intT P el = some .u8) (h3 : stringT P dst = true) (hr : σ.rows 1 (σ.get x) = some rows)
    (hb : bytesOfRows rows = some bs) : OpOK P o σ { val := .c (.string ⟨bs.toArray⟩) } a h := by
  obtain ⟨ad, c, hv, _, hrows⟩ := rows_read r (r.get x) hr
  obtain ⟨ns, rfl, rfl⟩ := bytes_vals hb
  refine OpOK.pure r hd ?_ (.c _ (by simp))
  rw [show execOp a.eval o = (do pure (Next.value (← convert src dst (a.eval x)))) by simp only [execOp, hop], hv]
  refine run_next ?_
  rcases hrows with hn | ⟨_, b, off, vs, N, rfl, k1, k2, k3⟩
  · simp at hn; subst hn
    have run0 : ∀ ad, (convert src dst (.slice ad 0 c)).run P h.w = .ok (.string .empty) h.w := by
      intro ad
      cases ad with
      | none => simp [convert, run_underlying (elemT_eq h1), run_underlying (stringT_eq h3), run_underlying (intT_eq h2), Conv.bytesToString]
      | some ad => simp [convert, run_underlying (elemT_eq h1), run_underlying (stringT_eq h3), run_underlying (intT_eq h2), Conv.bytesToString, loadCells, loadCellsFrom]
    rw [List.map_nil, List.length_nil, run0]
    rfl
  · rw [List.length_map]
    refine run_convert_bytes_arg h.w src el (elemT_eq h1) (intT_eq h2) b off _ c ns rfl ?_ dst (stringT_eq h3)
    intro i hi
    have hx : (ns.map (fun n => [AV.c (.int .u8 n)])).flatten[i]? = some (.c (.int .u8 (ns.getD i 0))) := by
      rw [flat_one fun n => AV.c (.int .u8 n), List.getElem?_map, List.getElem?_eq_getElem hi]
      simp [List.getD, List.getElem?_eq_getElem hi]
    obtain ⟨v, M, e1, e2, _⟩ := k2.get i _ hx
    cases e2 with
    | c _ hv => exact k1 i _ e1
    | dumb _ _ k => simp [dumb] at k

theorem run_convInt {w : World} {src dst : TypeId} {k q : IntKind} {n : Int} {d : TypeDesc} (hs : P.underlying src = some d) (hd : P.underlying dst = some (.int k)) :
    (convert src dst (.int q n)).run P w = .ok (.int k (k.wrap n)) w := by
  simp [convert, run_underlying hs, run_underlying hd, Conv.intToInt]

theorem run_convStr {w : World} {src dst : TypeId} {s : ByteArray} {d : TypeDesc} (hs : P.underlying src = some d) (hd : P.underlying dst = some .string) :
    (convert src dst (.string s)).run P w = .ok (.string s) w := by
  simp [convert, run_underlying hs, run_underlying hd]

theorem exec_convert {src dst : TypeId} {x : Operand} (hop : o.op = .convert src dst x) : execOp a.eval o = (do pure (Next.value (← convert src dst (a.eval x)))) := by
  simp only [execOp, hop]

theorem ok_convInt {src dst : TypeId} {x : Operand} {q k : IntKind} {n : Int} {d : TypeDesc} (r : Rel σ a h) (hd : ∀ t, o.dst = some t → t < a.tmps.size) (hop : o.op = .convert src dst x)
    (hx : σ.get x = .c (.int q n)) (h1 : intT P dst = some k) (h2 : P.underlying src = some d) : OpOK P o σ { val := .c (.int k (k.wrap n)) } a h := by
  have kx := r.get x; rw [hx] at kx; have kx := kx.inv_c
  refine OpOK.pure r hd ?_ (.c _ (by simp))
  rw [exec_convert hop, kx]
  exact run_next (run_convInt h2 (intT_eq h1))

theorem ok_convStr {src dst : TypeId} {x : Operand} {s : ByteArray} (r : Rel σ a h) (hd : ∀ t, o.dst = some t → t < a.tmps.size) (hop : o.op = .convert src dst x)
    (hx : σ.get x = .c (.string s)) (h1 : stringT P dst = true) (h2 : (P.underlying src).isSome = true) : OpOK P o σ { val := .c (.string s) } a h := by
  have kx := r.get x; rw [hx] at kx; have kx := kx.inv_c
  obtain ⟨d, h2⟩ := Option.isSome_iff_exists.1 h2
  refine OpOK.pure r hd ?_ (.c _ (by simp))
  rw [exec_convert hop, kx]
  exact run_next (run_convStr h2 (stringT_eq h1))

/-! #### maps that are read -/

theorem find_map {k : Int} : ∀ {l : List MapEntry} {es : List (Value × Value)} (i : Nat), l.map (fun x => (x.key, x.val)) = es → mapKeys es = true →
    ∃ j, Instr.findNow (.int .i64) (.int .i64 k) l i = some ((mapGet es k).map fun v => (i + j, v)) ∧ (∀ v, mapGet es k = some v → ∃ e, l[j]? = some e ∧ e.key = .int .i64 k ∧ e.val = v ∧ ∀ j' < j, ∀ e', l[j']? = some e' → ∃ n, e'.key = .int .i64 n ∧ n ≠ k)
  | [], es, i, he, _ => by simp at he; subst he; exact ⟨0, by simp [Instr.findNow, mapGet], by simp [mapGet]⟩
  | x :: l, es, i, he, hk => by
    simp at he; subst he
    simp only [mapKeys, List.all_cons, Bool.and_eq_true] at hk
    obtain ⟨hk1, hk2⟩ := hk
    split at hk1
    · rename_i n hn
      by_cases e : k = n
      · subst e
        refine ⟨0, by simp [Instr.findNow, Instr.sameNow, mapGet, hn], ?_⟩
        intro v hv
        simp [mapGet, hn] at hv
        exact ⟨x, by simp, hn, hv, by simp⟩
      · obtain ⟨j, h1, h2⟩ := find_map (k := k) (l := l) (i + 1) rfl (by simpa [mapKeys] using hk2)
        refine ⟨j + 1, ?_, ?_⟩
        · simp only [Instr.findNow, Instr.sameNow, hn, mapGet, if_true, e, if_false]
          have : (k == n) = false := by simp [e]
          rw [this]
          simp only [h1]
          congr 2
          funext v
          simp; omega
        · intro v hv
          simp [mapGet, hn, e] at hv
          obtain ⟨e', k1, k2, k3, k4⟩ := h2 v hv
          refine ⟨e', by simpa using k1, k2, k3, ?_⟩
          intro j' hj' e'' he''
          cases j' with
          | zero => simp at he''; subst he''; exact ⟨n, hn, fun h => e h.symm⟩
          | succ j' => exact k4 j' (by omega) e'' (by simpa using he'')
    · cases hk1

theorem mapGet_mem {k : Int} {u : Value} : ∀ {es : List (Value × Value)}, mapGet es k = some u → ∃ x ∈ es, x.2 = u
  | [], h => by simp [mapGet] at h
  | (q, v) :: es, h => by
    unfold mapGet at h
    split at h
    · cases ‹_ :: _ = []›
    · rename_i a' v' es' e
      cases e
      split at h
      · cases h; exact ⟨(.int .i64 a', u), by simp, rfl⟩
      · obtain ⟨x, h1, h2⟩ := mapGet_mem h; exact ⟨x, by simp [h1], h2⟩
    · cases h

theorem run_checkKey {w : World} (e : Bool) (n : Nat) {t : TypeId} {q : IntKind} (hu : P.underlying t = some (.int q)) (v : Value) : (Instr.checkKey e (n + 1) t v).run P w = .ok () w := by
  cases v <;> simp [Instr.checkKey, run_underlying hu]

theorem run_findKey {w : World} {t : TypeId} (hu : P.underlying t = some (.int .i64)) {k : Int} {l : List MapEntry} {es : List (Value × Value)} (he : l.map (fun x => (x.key, x.val)) = es) (hk : mapKeys es = true) :
    ∃ j, (Instr.findKey t (.int .i64 k) l).run P w = .ok ((mapGet es k).map fun v => (j, v)) w ∧
      (∀ v, mapGet es k = some v → ∃ e, l[j]? = some e ∧ e.key = .int .i64 k ∧ e.val = v ∧ ∀ j' < j, ∀ e', l[j']? = some e' → ∃ n, e'.key = .int .i64 n ∧ n ≠ k) := by
  obtain ⟨j, h1, h2⟩ := find_map (k := k) 0 he hk
  refine ⟨j, ?_, h2⟩
  simp only [Nat.zero_add] at h1
  simp [Instr.findKey, run_underlying hu, h1]

theorem ok_lookup {t kt el : TypeId} {x y : Operand} {ok : Bool} {p g : Nat} {k : Int} {es : List (Value × Value)} {z : Value} (r : Rel σ a h) (hd : ∀ t, o.dst = some t → t < a.tmps.size)
    (hop : o.op = .lookup t x y ok) (hu : P.underlying t = some (.map kt el)) (hx : σ.get x = .mp p g) (hy : σ.get y = .c (.int .i64 k)) (ho : σ.objs p = some (.map es))
    (hz : zero1 P el = some z) (hk : intT P kt = some .i64) (hg : σ.gens p = g) (hm : mapKeys es = true) :
    OpOK P o σ { val := if ok then .tup [.c ((mapGet es k).getD z), .c (.bool (mapGet es k).isSome)] else .c ((mapGet es k).getD z) } a h := by
  have kx := r.get x; rw [hx] at kx
  have ky := r.get y; rw [hy] at ky; have ky := ky.inv_c
  rw [← r.objs] at ho; rw [← r.gens] at hg
  generalize hv : a.eval x = v at kx
  obtain ⟨it, z1, z2, hza⟩ : ∃ it, P.info? el = some it ∧ it.zero = some z ∧ ∀ cs, z ≠ .agg cs := by
    unfold zero1 at hz
    split at hz
    · rename_i zv hz0
      obtain ⟨i, k1, k2⟩ := Option.bind_eq_some_iff.1 hz0
      split at hz
      · cases hz
      · rename_i hn; cases hz
        exact ⟨i, k1, k2, by rintro cs rfl; simp [isAggV] at hn⟩
    · cases hz
  cases kx with
  | mp _ _ b es' h1 h2 h3 =>
    rw [ho] at h1; cases h1
    obtain ⟨b', ents, clock, j1, j2, j3, j4, j5⟩ := r.ok.ob _ _ ho
    rw [h3] at j1; cases j1
    obtain ⟨j, f1, _⟩ := run_findKey (P := P) (w := h.w) (intT_eq hk) (k := k) j4 hm
    have hrun : (Instr.lookup t (.map (some b)) (.int .i64 k) ok).run P h.w = .ok (if ok then .tuple #[(mapGet es k).getD z, .bool (mapGet es k).isSome] else (mapGet es k).getD z) h.w := by
      have hc := run_checkKey (P := P) (w := h.w) ents.isEmpty 9999 (intT_eq hk) (.int .i64 k)
      simp only [Nat.reduceAdd] at hc
      simp only [Instr.lookup, Sem.run_bind, run_underlying hu, Result.andThen, getObj, Sem.run, j2, Sem.run_pure, hc, f1]
      cases hmg : mapGet es k with
      | none => cases ok <;> simp [zeroValue, typeInfo, z1, z2]
      | some u => cases ok <;> simp
    have hres : ∀ cs, (mapGet es k).getD z ≠ .agg cs := by
      intro cs
      cases hmg : mapGet es k with
      | none => simpa using hza cs
      | some u =>
        have : ∃ x ∈ es, x.2 = u := by
          exact mapGet_mem hmg
        obtain ⟨x, hx1, rfl⟩ := this
        simpa using j5 x hx1 cs
    refine OpOK.pure r hd ?_ ?_ (v := if ok then .tuple #[(mapGet es k).getD z, .bool (mapGet es k).isSome] else (mapGet es k).getD z)
    · rw [show execOp a.eval o = (do pure (Next.value (← Instr.lookup t (a.eval x) (a.eval y) ok))) by simp only [execOp, hop], hv, ky]
      exact run_next hrun
    · cases ok with
      | true => exact .tup _ [_, _] (.cons _ _ _ _ (.c _ hres) (.cons _ _ _ _ (.c _ (by simp)) .nil))
      | false => exact .c _ hres
  | mpOld _ _ m hold =>
    rcases hold with hold | ⟨_, hold⟩
    · omega
    · rw [ho] at hold; cases hold

end
end Go.AM
