/- Strings to bytes; maps that are written; one operation. -/
import Derived.Test.YtoffdmkgioaohaaAmP
namespace Go.AM

section
variable {P : Program} {o : Oper} {σ : St} {a : Act} {h : HS}

theorem ok_convBytes {src dst el : TypeId} {x : Operand} {s : ByteArray} {d : Nat} (r : Rel σ a h) (hd : ∀ t, o.dst = some t → t < a.tmps.size) (hop : o.op = .convert src dst x)
    (hx : σ.get x = .c (.string s)) (h1 : elemT P dst = some el) (h2 : intT P el = some .u8) (h3 : (P.underlying src).isSome = true) :
    OpOK P o σ (newOb σ (site d 0) (.slice 1 (byteRows s)) fun g => .sl (site d 0) g 1 0 s.size) a h := by
  have kx := r.get x; rw [hx] at kx; have kx := kx.inv_c
  obtain ⟨u, h3⟩ := Option.isSome_iff_exists.1 h3
  have hrun := Lib.run_convert_string_bytes (P := P) h.w src dst el s h3 (elemT_eq h1) (intT_eq h2)
  let cs := Lib.bytesCells h.w el s
  have hge := grownCap_ge h.w s.size 0 el
  have hcs : cs.size = grownCap h.w s.size 0 el := by
    have : s.data.size = s.size := rfl
    simp [cs, Lib.bytesCells]; omega
  have hrow : ∀ q ∈ byteRows s, q.length = 1 := by
    intro q hq
    simp only [byteRows, List.mem_map] at hq
    obtain ⟨y, _, rfl⟩ := hq
    rfl
  have hlen : (byteRows s).length = s.size := by simp [byteRows]
  have hpush : (Lib.bytesWorld h.w el s).heap = h.w.heap.push (.cells cs el (cs.size, cs.size + 1)) := by
    apply Array.ext_getElem?
    intro j
    by_cases hj : j < h.w.heap.size
    · rw [Lib.bytesWorld_at_old _ _ _ _ hj, Array.getElem?_push, if_neg (by omega)]
    · by_cases e : j = h.w.heap.size
      · subst e; rw [Lib.bytesWorld_at_new]; simp [cs]
      · rw [Array.getElem?_eq_none (by rw [Lib.bytesWorld_size]; omega), Array.getElem?_eq_none (by simp; omega)]
  refine ok_new r hd (v := .slice (some ⟨h.w.heap.size, 0, none⟩) s.size (grownCap h.w s.size 0 el)) (w' := Lib.bytesWorld h.w el s) (bo := .cells cs el (cs.size, cs.size + 1)) (ks := []) (cap := cs.size) (N := []) (by simp) ?_ hpush rfl rfl rfl .nil (by simp) ?_
  · rw [exec_convert hop, kx]; exact run_next hrun
  · intro h' ev hw hb hc hs ho hg
    have hfl : (byteRows s).flatten = s.data.toList.map fun (x : UInt8) => AV.c (.int .u8 x.toNat) := by
      unfold byteRows; rw [flat_one (fun x : UInt8 => AV.c (.int .u8 x.toNat))]
    have hct : cs.toList = (s.data.toList.map fun (x : UInt8) => Value.int .u8 x.toNat) ++ List.replicate (grownCap h.w s.size 0 el - s.size) (.int .u8 0) := by
      simp [cs, Lib.bytesCells]
    refine ⟨⟨hrow, .inr ⟨_, cs, el, (cs.size, cs.size + 1), hb, by rw [hw, hpush]; simp, fun i hi hk => by have := hk.1; simp only at this; omega, hc, ?_, ?_⟩⟩, ?_⟩
    · rw [hs, hfl, hct]
      refine TOs.weaken (TOs.mk0 (by simp) ?_)
      intro i x v hx hv
      simp only [List.getElem?_map, Option.map_eq_some_iff] at hx hv
      obtain ⟨y, hy, rfl⟩ := hx
      obtain ⟨y', hy', rfl⟩ := hv
      rw [hy] at hy'; cases hy'
      exact .c _ (by simp)
    · rw [hfl]
      refine named.none ?_
      intro x hx
      obtain ⟨y, _, rfl⟩ := List.mem_map.1 hx
      rfl
    · have := VR.sl (h := h') (site d 0) (σ.gens (site d 0) + 1) 1 0 s.size _ (grownCap h.w s.size 0 el) _ ho hg hb (by rw [hlen]; omega) hge (by rw [hc, hcs]; omega)
      simpa using this

/-! #### maps that are written -/

theorem mapPut_modify {k : Int} {v : Value} {l : List MapEntry} {es : List (Value × Value)} (he : l.map (fun x => (x.key, x.val)) = es) {j : Nat} {e : MapEntry} (hj : l[j]? = some e) (hk : e.key = .int .i64 k)
    (hb : ∀ j' < j, ∀ e', l[j']? = some e' → ∃ n, e'.key = .int .i64 n ∧ n ≠ k) :
    (l.modify j fun e => { e with key := .int .i64 k, val := v }).map (fun x => (x.key, x.val)) = mapPut es k v := by
  induction l generalizing es j with
  | nil => simp at hj
  | cons x l ih =>
    subst he
    cases j with
    | zero =>
      simp at hj; subst hj
      simp [mapPut, hk]
    | succ j =>
      obtain ⟨n, hn, hne⟩ := hb 0 (by omega) x (by simp)
      have := ih rfl (j := j) (by simpa using hj) (fun j' hj' e' he' => hb (j' + 1) (by omega) e' (by simpa using he'))
      simp only [List.modify_succ_cons, List.map_cons, hn, mapPut, if_neg (Ne.symm hne), this]

theorem mapPut_push {k : Int} {v : Value} : ∀ {es : List (Value × Value)}, mapKeys es = true → mapGet es k = none → mapPut es k v = es ++ [(.int .i64 k, v)]
  | [], _, _ => rfl
  | (q, u) :: es, hk, hg => by
    simp only [mapKeys, List.all_cons, Bool.and_eq_true] at hk
    obtain ⟨hk1, hk2⟩ := hk
    obtain ⟨n, rfl⟩ : ∃ n, q = .int .i64 n := by
      split at hk1
      · exact ⟨_, rfl⟩
      · cases hk1
    by_cases e : k = n
    · simp [mapGet, e] at hg
    · simp only [mapGet, e, if_false] at hg
      simp only [mapPut, e, if_false, List.cons_append]
      rw [mapPut_push (by simpa [mapKeys] using hk2) hg]

theorem mapPut_mem {k : Int} {v : Value} : ∀ {es : List (Value × Value)}, ∀ x ∈ mapPut es k v, x ∈ es ∨ x.2 = v
  | [], x, hx => by simp [mapPut] at hx; subst hx; exact .inr rfl
  | (q, u) :: es, x, hx => by
    unfold mapPut at hx
    split at hx
    · cases ‹_ :: _ = []›
    · rename_i a' u' es' e
      cases e
      split at hx
      · rcases List.mem_cons.1 hx with rfl | hx
        · exact .inr rfl
        · exact .inl (by simp [hx])
      · rcases List.mem_cons.1 hx with rfl | hx
        · exact .inl (by simp)
        · exact (mapPut_mem x hx).imp (fun h => by simp [h]) id
    · exact .inl (by rename_i e; cases e; exact hx)

theorem ok_mapUpdate {t kt el : TypeId} {x y z : Operand} {p g : Nat} {k : Int} {v : Value} {es : List (Value × Value)} (r : Rel σ a h) (hd : ∀ t, o.dst = some t → t < a.tmps.size)
    (hop : o.op = .mapUpdate t x y z) (hu : P.underlying t = some (.map kt el)) (hx : σ.get x = .mp p g) (hy : σ.get y = .c (.int .i64 k)) (hz : σ.get z = .c v) (ho : σ.objs p = some (.map es))
    (hk : intT P kt = some .i64) (hg : σ.gens p = g) (hm : mapKeys es = true) :
    OpOK P o σ { val := .c undef, objs := [(p, some (.map (mapPut es k v)), g)] } a h := by
  have kx := r.get x; rw [hx] at kx
  have ky := r.get y; rw [hy] at ky; have ky := ky.inv_c
  have kz := r.get z; rw [hz] at kz
  have hva : ∀ cs, v ≠ .agg cs := by cases kz; assumption
  have kz := kz.inv_c
  have ho' := ho; have hg' := hg
  rw [← r.objs] at ho; rw [← r.gens] at hg
  generalize hv : a.eval x = u at kx
  cases kx with
  | mpOld _ _ m hold =>
    rcases hold with hold | ⟨_, hold⟩
    · omega
    · rw [ho] at hold; cases hold
  | mp _ _ b es' h1 h2 h3 =>
    rw [ho] at h1; cases h1
    obtain ⟨b', ents, clock, j1, j2, j3, j4, j5⟩ := r.ok.ob _ _ ho
    rw [h3] at j1; cases j1
    have hlt : b < h.w.heap.size := (Array.getElem?_eq_some_iff.1 j2).1
    obtain ⟨j, f1, f2⟩ := run_findKey (P := P) (w := h.w) (intT_eq hk) (k := k) j4 hm
    have hc := run_checkKey (P := P) (w := h.w) false 9999 (intT_eq hk) (.int .i64 k)
    simp only [Nat.reduceAdd] at hc
    have key : ∃ ents' clock', (Instr.mapUpdate t (.map (some b)) (.int .i64 k) v).run P h.w = .ok () { h.w with heap := h.w.heap.setIfInBounds b (.map ents' clock') } ∧
        ents'.toList.map (fun x => (x.key, x.val)) = mapPut es k v := by
      cases hmg : mapGet es k with
      | none =>
        refine ⟨ents.push { key := .int .i64 k, val := v, born := clock }, clock + 1, ?_, ?_⟩
        · simp only [Instr.mapUpdate, Sem.run_bind, run_underlying hu, Result.andThen, getObj, Sem.run, j2, Sem.run_pure, hc, f1, hmg, Option.map_none, setObj]
        · rw [Array.toList_push, List.map_append, j4, mapPut_push hm hmg]; rfl
      | some w0 =>
        obtain ⟨e, q1, q2, q3, q4⟩ := f2 w0 hmg
        refine ⟨ents.modify j fun e => { e with key := .int .i64 k, val := v }, clock, ?_, ?_⟩
        · have hst : (Instr.keyThatStays (((ents[j]?).map (·.key)).getD (.int .i64 k)) (.int .i64 k)).run P h.w = .ok (.int .i64 k) h.w := by
            have : ents[j]? = some e := by rw [← Array.getElem?_toList]; exact q1
            simp [Instr.keyThatStays, this, q2, Instr.sameBits]
          simp only [Instr.mapUpdate, Sem.run_bind, run_underlying hu, Result.andThen, getObj, Sem.run, j2, Sem.run_pure, hc, f1, hmg, Option.map_some, setObj, hst]
        · rw [Array.toList_modify]
          exact mapPut_modify j4 q1 q2 q4
    obtain ⟨ents', clock', hrun, hents⟩ := key
    subst hg'
    refine ok_put (ks := []) (N := []) (w' := { h.w with heap := h.w.heap.setIfInBounds b (.map ents' clock') }) r hd (by simp) ho h3 (ob := .map (mapPut es k v)) trivial ?_ (by simp) rfl rfl rfl ?_ (by simp) (by simp) ?_
    · rw [show execOp a.eval o = (do Instr.mapUpdate t (a.eval x) (a.eval y) (a.eval z); pure .skip) by simp only [execOp, hop], hv, ky, kz]
      exact run_skip hrun
    · intro i hi; simp [hi]
    · intro h' ev hw hb hcap hsub
      refine ⟨b, ents', clock', hb, by rw [hw]; simp [hlt], hsub, hents, ?_⟩
      intro q hq cs
      rcases mapPut_mem q hq with hq | hq
      · exact j5 q hq cs
      · rw [hq]; exact hva cs

end
end Go.AM
