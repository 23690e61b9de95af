/- append, second part. -/
import Derived.Test.YtoffdmkgioaohaaAmL
import Derived.Laws.AppendOwn
namespace Go.AM

section
variable {P : Program} {o : Oper} {σ : St} {a : Act} {h : HS}

/-- what is appended: so many elements of e cells, and their cells -/
structure Given (P : Program) (w : World) (e n : Nat) (v : Value) (vs : List Value) : Prop where
  len : ∀ w', (Builtin.lenOf v).run P w' = .ok n w'
  cells : ∀ w', w'.heap = w.heap → (Builtin.firstCells e n v).run P w' = .ok vs.toArray w'
  size : vs.length = n * e

/-- no name of an object stands where it should not -/
def named (h : HS) (xs : List AV) (vs : List Value) : Prop :=
  ∀ (k o' g e' off n : Nat) (v : Value), xs[k]? = some (AV.sl o' g e' off n) → vs[k]? = some v → VR h (.sl o' g e' off n) v

theorem named.append {xs ys : List AV} {vs us : List Value} (k1 : named h xs vs) (hl : vs.length = xs.length) (k2 : named h ys us) : named h (xs ++ ys) (vs ++ us) := by
  intro k o' g e' off n v hx hv
  by_cases hk : k < xs.length
  · rw [List.getElem?_append_left hk] at hx
    rw [List.getElem?_append_left (by omega)] at hv
    exact k1 _ _ _ _ _ _ _ hx hv
  · rw [List.getElem?_append_right (by omega)] at hx
    rw [List.getElem?_append_right (by omega), hl] at hv
    exact k2 _ _ _ _ _ _ _ hx hv

theorem named.ev {h h' : HS} (ev : Ev h h') {xs : List AV} {vs : List Value} (k : named h xs vs) : named h' xs vs :=
  fun _ _ _ _ _ _ _ hx hv => (k _ _ _ _ _ _ _ hx hv).ev ev

theorem named.none {xs : List AV} {vs : List Value} (k : ∀ x ∈ xs, noSl x) : named h xs vs := by
  intro i o' g e' off n v hx _
  exact absurd (k _ (List.mem_of_getElem? hx)) (by simp [noSl, plain])

theorem allC_noSl {rows : List (List AV)} (hc : allC rows = true) : ∀ x ∈ rows.flatten, ∃ v, x = .c v ∧ cellV v = true := by
  intro x hx
  obtain ⟨q, hq, hx⟩ := List.mem_flatten.1 hx
  unfold allC at hc
  rw [List.all_eq_true] at hc
  have := List.all_eq_true.1 (hc q hq) x hx
  cases x <;> first | exact ⟨_, rfl, this⟩ | simp [isC] at this

theorem plain_cells {w : World} : ∀ {xs : List AV} {vs : List Value} {N : List Nat}, TRs w xs vs N → vs.length = xs.length → (∀ x ∈ xs, plain x = true) → ∀ v ∈ vs, cellV v = true
  | [], [], _, _, _, _ => by simp
  | [], v :: vs, _, _, hl, _ => by simp at hl
  | x :: xs, _, _, .cons _ v _ _ vs _ h1 h2, hl, hp => by
    intro u hu
    rcases List.mem_cons.1 hu with rfl | hu
    · have := hp x (by simp)
      cases h1 with
      | c _ hv => exact this
      | nil => rfl
      | tr => rfl
      | dumb _ _ k => cases x <;> simp [dumb, plain] at k this
    · exact plain_cells h2 (by simpa using hl) (fun x hx => hp x (by simp [hx])) u hu

theorem TRs.flat {w : World} : ∀ {xs : List AV} {vs : List Value} {N : List Nat}, TRs w xs vs N → (∀ x ∈ xs, ∃ v, x = .c v ∧ cellV v = true) → TOs w xs vs []
  | [], _, _, _, _ => .nil _
  | x :: xs, _, _, .cons _ v _ _ vs _ h1 h2, hc => by
    obtain ⟨u, rfl, _⟩ := hc x (by simp)
    cases h1 with
    | c _ hv => simpa using TOs.cons _ _ _ _ _ _ (TO.c _ hv) (TRs.flat h2 fun x hx => hc x (by simp [hx]))
    | dumb _ _ k => simp [dumb] at k

theorem given_slice {w : World} {e n : Nat} {b off c : Nat} {vs : List Value} (hl : vs.length = n * e) (hc : ∀ k v, vs[k]? = some v → w.cell? ⟨b, off + k, none⟩ = some v) :
    Given P w e n (.slice (some ⟨b, off, none⟩) n c) vs := by
  refine ⟨fun w' => rfl, fun w' hw => ?_, hl⟩
  refine run_firstCells_some w' e n _ n c vs hl fun j v hj => ?_
  rw [add_plain]
  have : w'.cell? ⟨b, off + j, none⟩ = w.cell? ⟨b, off + j, none⟩ := by simp [World.cell?, hw]
  rw [this]; exact hc j v hj

theorem given_none {w : World} {e : Nat} {ad : Option Addr} {c : Nat} : Given P w e 0 (.slice ad 0 c) [] := by
  refine ⟨fun w' => rfl, fun w' hw => ?_, by simp⟩
  cases ad with
  | none => exact run_firstCells_none w' e 0 0 c
  | some ad => exact run_firstCells_some w' e 0 ad 0 c [] (by simp) (by simp)

theorem extract_all (b : ByteArray) : (b.extract 0 b.size) = b := by
  simp

theorem given_string {w : World} (b : ByteArray) : Given P w 1 b.size (.string b) (b.data.toList.map fun (x : UInt8) => Value.int .u8 x.toNat) := by
  refine ⟨fun w' => rfl, fun w' hw => ?_, by simp⟩
  simp only [Builtin.firstCells, extract_all]
  simp only [Sem.run_pure]
  congr 1
  apply Array.ext'
  simp

theorem more_ok (r : Rel σ a h) {X : AV} {v : Value} {e : Nat} {new : List (List AV)} {ks : List Nat} (hv : VR h X v) (hm : moreOf σ e X = some (new, ks)) :
    ∃ vs N, Given P h.w e new.length v vs ∧ (∀ q ∈ new, q.length = e) ∧ TOs h.w new.flatten vs N ∧ N.Nodup ∧ (∀ b ∈ N, ∃ p ∈ ks, ∃ ob, h.objs p = some ob ∧ b ∈ h.blocks p) ∧ named h new.flatten vs ∧ ∀ v ∈ vs, cellV v = true := by
  unfold moreOf at hm
  split at hm
  · rename_i b
    split at hm
    · rename_i he; cases hm; subst he
      have := hv.inv_c; subst this
      refine ⟨b.data.toList.map fun (x : UInt8) => Value.int .u8 x.toNat, [], ?_, ?_, ?_, .nil, by simp, ?_, ?_⟩
      · have := given_string (P := P) (w := h.w) b
        simpa [byteRows] using this
      · intro q hq
        simp only [byteRows, List.mem_map] at hq
        obtain ⟨x, _, rfl⟩ := hq
        rfl
      · unfold byteRows
        rw [flat_one (fun x : UInt8 => AV.c (.int .u8 x.toNat))]
        refine TOs.mk0 (by simp) ?_
        intro i x v hx hv
        simp only [List.getElem?_map, Option.map_eq_some_iff] at hx hv
        obtain ⟨y, hy, rfl⟩ := hx
        obtain ⟨y', hy', rfl⟩ := hv
        rw [hy] at hy'; cases hy'
        exact .c _ (by simp)
      · unfold byteRows
        rw [flat_one (fun x : UInt8 => AV.c (.int .u8 x.toNat))]
        refine named.none ?_
        intro x hx
        obtain ⟨y, _, rfl⟩ := List.mem_map.1 hx
        rfl
      · intro v hv
        obtain ⟨y, _, rfl⟩ := List.mem_map.1 hv
        rfl
    · cases hm
  · split at hm
    · rename_i rows hr
      split at hm
      · rename_i hc; cases hm
        obtain ⟨ad, c, rfl, hlc, k⟩ := rows_read r hv hr
        rcases k with rfl | ⟨k1, b, off, vs, N, rfl, k2, k3, k4⟩
        · exact ⟨[], [], given_none, by simp, .nil _, .nil, by simp, by intro k; simp, by simp⟩
        · exact ⟨vs, [], given_slice k4 k2, k1, k3.flat (allC_noSl hc), .nil, by simp, named.none fun x hx => by obtain ⟨u, rfl, hu⟩ := allC_noSl hc x hx; exact hu, plain_cells k3 (by rw [k4, flat_len k1]) fun x hx => by obtain ⟨u, rfl, hu⟩ := allC_noSl hc x hx; exact hu⟩
      · rename_i hnc
        split at hm
        · rename_i p g e' n _
          split at hm
          · rename_i e2 all ho
            split at hm
            · rename_i hn; cases hm
              obtain ⟨hn, hpl⟩ := hn
              simp only [St.rows, ho] at hr
              split at hr
              · rename_i hg
                obtain ⟨hg, rfl⟩ := hg
                rw [List.drop_zero, hn, List.take_length, Option.some.injEq] at hr
                subst hr
                have ho' := ho; have hg' := hg
                rw [← r.objs] at ho'; rw [← r.gens] at hg'
                cases hv with
                | sl _ _ _ _ _ b cap rows' h1 h2 h3 h4 h5 h6 =>
                  subst hn
                  rw [ho'] at h1; cases h1
                  obtain ⟨k0, k1⟩ := r.ok.ob _ _ ho'
                  rcases k1 with ⟨k1, _, _⟩ | ⟨b', cs, ty, fr, k1, k2, k3, k4, k5, k6⟩
                  · rw [h3] at k1; cases k1
                  · rw [h3] at k1; cases k1
                    have hlen : all.length * e' ≤ cs.toList.length := by
                      have := k5.len
                      rwa [flat_len k0] at this
                    have nd := r.ok.nodup p _ ho'
                    simp only [HS.blocks, h3, Option.toList_some, List.singleton_append, List.nodup_cons] at nd
                    have hTO : TOs h.w all.flatten (cs.toList.take (all.length * e')) (h.sub p) := by
                      have := (TOs.split (xs := all.flatten) (ys := []) (by simpa using k5))
                      obtain ⟨A, B, e1, e2, e3⟩ := this
                      rw [flat_len k0] at e2
                      cases e3
                      rw [List.append_nil] at e1
                      rw [e1]; exact e2
                    refine ⟨cs.toList.take (all.length * e'), h.sub p, ?_, k0, hTO, nd.2, ?_, ?_, ?_⟩
                    · rw [Nat.zero_mul]
                      refine given_slice (by simp at hlen ⊢; omega) ?_
                      intro k v hk
                      rw [cell_at k2]
                      rw [List.getElem?_take] at hk
                      split at hk
                      · simpa using hk
                      · cases hk
                    · intro b' hb'
                      exact ⟨p, by simp, _, ho', by simp [HS.blocks, hb']⟩
                    · intro k o' g' e' off n v hk hv
                      rw [List.getElem?_take] at hv
                      split at hv
                      · exact k6 _ _ _ _ _ _ _ hk hv
                      · cases hv
                    · refine plain_cells hTO.read ?_ ?_
                      · rw [flat_len k0]; simp at hlen ⊢; omega
                      · intro x hx
                        obtain ⟨q, hq, hx⟩ := List.mem_flatten.1 hx
                        exact List.all_eq_true.1 (List.all_eq_true.1 hpl q hq) x hx
                | slEnd _ _ _ _ ad rows2 h1 h2 h3 =>
                  have : all = [] := List.length_eq_zero_iff.1 hn.symm
                  subst this
                  simp [allC] at hnc
                | slOld _ _ _ _ _ ad cap hold =>
                  rcases hold with hold | ⟨_, hold⟩
                  · omega
                  · rw [ho'] at hold; cases hold
              · cases hr
            · cases hm
          · cases hm
        · cases hm
    · cases hm


/-- the shape of append's operands' types -/
structure Typed (P : Program) (ts : Array TypeId) (el : TypeId) (it : TypeInfo) (z : Value) : Prop where
  fst : ∃ t, ts[0]? = some t ∧ P.underlying t = some (.slice el)
  snd : ∃ t, ts[1]? = some t ∧ (P.underlying t = some .string ∨ ∃ e, P.underlying t = some (.slice e))
  info : P.info? el = some it
  zero : it.zero = some z
  zsize : z.cells.size = it.size

theorem run_grow {w : World} {ts : Array TypeId} {el ty : TypeId} {it : TypeInfo} {z : Value} (T : Typed P ts el it z) {base : Option Addr} {n c m : Nat} {x : Value} {olds news : List Value}
    (ho : Given P w it.size n (.slice base n c) olds) (hx : Given P w it.size m x news) (hg : c < n + m) (hr : room (n + m) it.bytes = true) :
    (Builtin.append_ ts ty #[.slice base n c, x]).run P w = .ok (.slice (some ⟨w.heap.size, 0, none⟩) (n + m) (grownCap w (n + m) c el))
      (w.drew.alloc (.cells (olds.toArray ++ news.toArray ++ Builtin.zeroCells z.cells (grownCap w (n + m) c el - (n + m))) el)) := by
  obtain ⟨t, t1, t2⟩ := T.fst
  obtain ⟨tx, t3, t4⟩ := T.snd
  unfold room at hr
  simp only [Bool.and_eq_true, decide_eq_true_eq] at hr
  obtain ⟨⟨r1, r2⟩, r3⟩ := hr
  have hm : n + m ≤ 1099511627776 := by
    have : (n + m) * 1 ≤ (n + m) * it.bytes := Nat.mul_le_mul_left _ r3
    omega
  have hn : ¬ (n + m ≤ c) := by omega
  have h63 : ¬ (9223372036854775807 < ((n : Int) + (m : Int))) := by omega
  have h48 : ¬ (281474976710656 < Builtin.nextslicecap (n + m) c * it.bytes) := by
    have := growslice_fits (need := n + m) (old := c) (bytes := it.bytes) (by omega) (by omega)
    omega
  have hlen : (Builtin.lenOf x).run P w = .ok m w := hx.len w
  have hf := hx.cells w.drew rfl
  have hfo := ho.cells w.drew rfl
  have hq : (Question.appendCap (n + m) c el).forced = false := rfl
  rcases t4 with t4 | ⟨e2, t4⟩ <;>
    simp [Builtin.append_, t1, t3, run_underlying t2, run_underlying t4, sizeOf, typeInfo, zeroValue, T.info, T.zero, hlen, hn, h63, h48, hq, hf, hfo, newRow, grownCap]
  all_goals
    congr 2
    apply Array.ext'
    simp [List.append_assoc]

theorem run_inplace {w : World} {ts : Array TypeId} {el ty : TypeId} {it : TypeInfo} {z : Value} (T : Typed P ts el it z) {b n c m : Nat} {x : Value} {news : List Value}
    (hx : Given P w it.size m x news) (hg : n + m ≤ c) {cs : Array Value} {ty' : TypeId} {fr : Nat × Nat} (hb : w.heap[b]? = some (.cells cs ty' fr)) (ht : thawed cs fr) (hc : c * it.size ≤ cs.size)
    (hv : ∀ v ∈ news, cellV v = true) :
    (Builtin.append_ ts ty #[.slice (some ⟨b, 0, none⟩) n c, x]).run P w = .ok (.slice (some ⟨b, 0, none⟩) (n + m) c) (putRow w b (spliceV cs.toList (n * it.size) news).toArray ty' fr) := by
  obtain ⟨t, t1, t2⟩ := T.fst
  obtain ⟨tx, t3, t4⟩ := T.snd
  have hlen : (Builtin.lenOf x).run P w = .ok m w := hx.len w
  have hf := hx.cells w rfl
  have hs := run_storeAll (P := P) news (n * it.size) 0 cs w hb ht (by
    have : (n + m) * it.size ≤ c * it.size := Nat.mul_le_mul_right _ hg
    rw [Nat.add_mul] at this
    rw [hx.size]; omega) hv
  rw [Nat.add_zero] at hs
  have ea : (⟨b, 0, none⟩ : Addr).add (n * it.size) = ⟨b, n * it.size, none⟩ := by rw [add_plain, Nat.zero_add]
  rcases t4 with t4 | ⟨e2, t4⟩ <;>
    simp [Builtin.append_, t1, t3, run_underlying t2, run_underlying t4, sizeOf, typeInfo, T.info, hlen, hg, hf, ea, hs]

theorem run_nothing {w : World} {ts : Array TypeId} {el ty : TypeId} {it : TypeInfo} {z : Value} (T : Typed P ts el it z) {base : Option Addr} {x : Value} {news : List Value}
    (hx : Given P w it.size 0 x news) :
    (Builtin.append_ ts ty #[.slice base 0 0, x]).run P w = .ok (.slice base 0 0) w := by
  obtain ⟨t, t1, t2⟩ := T.fst
  obtain ⟨tx, t3, t4⟩ := T.snd
  have hlen : (Builtin.lenOf x).run P w = .ok 0 w := hx.len w
  have hf := hx.cells w rfl
  have hn : news = [] := List.length_eq_zero_iff.1 (by rw [hx.size]; simp)
  subst hn
  have e : ∀ ad : Addr, (storeCells ad [] 0).run P w = .ok () w := fun _ => rfl
  rcases t4 with t4 | ⟨e2, t4⟩ <;> cases base <;>
    simp [Builtin.append_, t1, t3, run_underlying t2, run_underlying t4, sizeOf, typeInfo, T.info, hlen, hf, e]

end
end Go.AM
