/- What an operation reads and writes: it does the same wherever that is the same. -/
import Derived.Test.YtoffdmkgioaohaaAmX
namespace Go.AM
set_option linter.unnecessarySimpa false
set_option linter.unusedSimpArgs false

/-- two states have the same behind these names -/
structure Agree (K : List Key) (σ τ : St) : Prop where
  s : ∀ i, Key.s i ∈ K → τ.slots i = σ.slots i
  o : ∀ i, Key.o i ∈ K → τ.objs i = σ.objs i
  g : ∀ i, Key.o i ∈ K → τ.gens i = σ.gens i
  e : Key.e ∈ K → τ.ep = σ.ep

theorem Agree.sub {K L : List Key} {σ τ : St} (h : Agree K σ τ) (hs : ∀ k ∈ L, k ∈ K) : Agree L σ τ :=
  ⟨fun i hi => h.s i (hs _ hi), fun i hi => h.o i (hs _ hi), fun i hi => h.g i (hs _ hi), fun hi => h.e (hs _ hi)⟩

section
variable {σ τ : St} {ops : Array Oper} {o : Oper}

theorem guard_local (h : Agree (guardKeys ops o) σ τ) : guardOf ops o τ = guardOf ops o σ := by
  unfold guardOf
  unfold guardKeys at h
  cases hg : o.guard with
  | none => rfl
  | some jw =>
    obtain ⟨j, want⟩ := jw
    simp only [hg] at h ⊢
    cases hd : (ops[j]?).bind (·.dst) with
    | none => rfl
    | some d =>
      simp only [hd] at h ⊢
      rw [h.s d (by simp)]

theorem get_local {x : Operand} (h : Agree (slotKeys x) σ τ) : τ.get x = σ.get x := by
  cases x with
  | tmp t => exact h.s t (by simp [slotKeys])
  | _ => rfl

theorem vals_local {xs : Array Operand} (h : ∀ x ∈ xs, τ.get x = σ.get x) : vals τ xs = vals σ xs := by
  unfold vals
  exact List.map_congr_left fun x hx => h x (by simpa using hx)

theorem rows_local {e : Nat} {v : AV} (h : Agree (nearKeys v) σ τ) : τ.rows e v = σ.rows e v := by
  cases v with
  | tr t e' rows =>
    cases t with
    | ep n =>
      have k : τ.tagOK (.ep n) = σ.tagOK (.ep n) := by simp only [St.tagOK]; rw [h.e (by simp [nearKeys])]
      simp only [St.rows, k]
    | _ => rfl
  | sl o g e' off n =>
    simp only [St.rows]
    rw [h.o o (by simp [nearKeys]), h.g o (by simp [nearKeys])]
  | c v => cases v with
    | slice ad l c => cases ad <;> cases l <;> cases c <;> rfl
    | _ => rfl
  | _ => rfl

theorem near_cells {v x : AV} (hx : x ∈ cellsOf v) : ∀ k ∈ (match x with | .sl o _ _ _ _ => [Key.o o] | _ => []), k ∈ nearKeys v := by
  intro k hk
  cases v with
  | agg cs =>
    simp only [cellsOf] at hx
    simp only [nearKeys, List.mem_flatMap]
    refine ⟨x, hx, ?_⟩
    cases x <;> simp_all
  | _ => simp only [cellsOf, List.mem_singleton] at hx; subst hx; first | (simp at hk; done) | (simpa [nearKeys] using hk)

theorem absorb1_local {l : Option Nat} {x : AV} (h : ∀ o g e off n, x = .sl o g e off n → τ.objs o = σ.objs o ∧ τ.gens o = σ.gens o) : τ.absorb1 l x = σ.absorb1 l x := by
  unfold St.absorb1
  split
  · rfl
  · rfl
  · rename_i e o g e' off n
    obtain ⟨h1, h2⟩ := h _ _ _ _ _ rfl
    rw [h1, h2]
  · rfl

theorem absorb_local : ∀ {ls : List (Option Nat)} {xs : List AV}, (∀ x ∈ xs, ∀ o g e off n, x = .sl o g e off n → τ.objs o = σ.objs o ∧ τ.gens o = σ.gens o) → τ.absorb ls xs = σ.absorb ls xs
  | [], [], _ => rfl
  | _ :: _, [], _ => rfl
  | [], _ :: _, _ => rfl
  | l :: ls, x :: xs, h => by
    simp only [St.absorb]
    rw [absorb1_local (h x (by simp)), absorb_local fun y hy => h y (by simp [hy])]

/-- what goes into a tree is named by the values -/
theorem absorb1_names {l : Option Nat} {x y : AV} {ks : List Nat} (h : σ.absorb1 l x = some (y, ks)) : ∀ o ∈ ks, ∃ g e off n, x = .sl o g e off n := by
  unfold St.absorb1 at h
  split at h
  · cases h; simp
  · split at h
    · cases h; simp
    · cases h
  · split at h
    · split at h
      · cases h; intro o ho; simp at ho; subst ho; exact ⟨_, _, _, _, rfl⟩
      · cases h
    · cases h
  · cases h
theorem absorb_names : ∀ {ls : List (Option Nat)} {xs ys : List AV} {ks : List Nat}, σ.absorb ls xs = some (ys, ks) → ∀ o ∈ ks, ∃ g e off n, AV.sl o g e off n ∈ xs
  | [], [], ys, ks, h => by simp [St.absorb] at h; obtain ⟨_, rfl⟩ := h; simp
  | _ :: _, [], ys, ks, h => by simp [St.absorb] at h; obtain ⟨_, rfl⟩ := h; simp
  | [], _ :: _, ys, ks, h => by simp [St.absorb] at h
  | l :: ls, x :: xs, ys, ks, h => by
    simp only [St.absorb] at h
    split at h
    · rename_i y a ys' b h1 h2
      split at h
      · cases h
        intro o ho
        rcases List.mem_append.1 ho with ho | ho
        · obtain ⟨g, e, off, n, rfl⟩ := absorb1_names h1 o ho; exact ⟨g, e, off, n, by simp⟩
        · obtain ⟨g, e, off, n, hm⟩ := absorb_names h2 o ho; exact ⟨g, e, off, n, by simp [hm]⟩
      · cases h
    · cases h

theorem killed_local {ks : List Nat} (h : ∀ o ∈ ks, τ.gens o = σ.gens o) : killed τ ks = killed σ ks := by
  unfold killed
  exact List.map_congr_left fun o ho => by rw [h o ho]

theorem near_sl {v : AV} (h : Agree (nearKeys v) σ τ) : ∀ x ∈ cellsOf v, ∀ o g e off n, x = .sl o g e off n → τ.objs o = σ.objs o ∧ τ.gens o = σ.gens o := by
  rintro x hx o g e off n rfl
  have := near_cells hx (.o o) (by simp)
  exact ⟨h.o o this, h.g o this⟩

theorem partRows_local {lay : List (Option Nat)} {e : Nat} : ∀ {i : Nat} {xs : List (Nat × AV)}, (∀ x ∈ xs, Agree (nearKeys x.2) σ τ) → partRows τ lay e i xs = partRows σ lay e i xs
  | _, [], _ => rfl
  | i, (j, v) :: xs, h => by
    simp only [partRows]
    rw [absorb_local (near_sl (h (j, v) (by simp))), partRows_local fun y hy => h y (by simp [hy])]
theorem partRows_names {lay : List (Option Nat)} {e : Nat} : ∀ {i : Nat} {xs : List (Nat × AV)} {rows : List (List AV)} {ks : List Nat}, partRows σ lay e i xs = some (rows, ks) →
    ∀ o ∈ ks, ∃ x ∈ xs, Key.o o ∈ nearKeys x.2
  | _, [], rows, ks, h => by simp [partRows] at h; obtain ⟨_, rfl⟩ := h; simp
  | i, (j, v) :: xs, rows, ks, h => by
    simp only [partRows] at h
    split at h
    · split at h
      · rename_i ys a rows' b h1 h2
        split at h
        · cases h
          intro o ho
          rcases List.mem_append.1 ho with ho | ho
          · obtain ⟨g, e, off, n, hm⟩ := absorb_names h1 o ho
            exact ⟨(j, v), by simp, near_cells hm (.o o) (by simp)⟩
          · obtain ⟨x, hx, hk⟩ := partRows_names h2 o ho
            exact ⟨x, by simp [hx], hk⟩
        · cases h
      · cases h
    · cases h

theorem opStore_local {cf : Cfg} {t : TypeId} {p v : AV} (hp : Agree (nearKeys p) σ τ) (hv : Agree (nearKeys v) σ τ) : opStore cf τ t p v = opStore cf σ t p v := by
  unfold opStore
  cases sizeT cf.P t with
  | none => rfl
  | some s =>
    cases p with
    | ptr q g i j =>
      simp only
      rw [hp.o q (by simp [nearKeys]), hp.g q (by simp [nearKeys]), absorb_local (near_sl hv)]
      split
      · split
        · rfl
        · split
          · rename_i r xs ks h3 h4
            rw [killed_local fun o ho => by
              obtain ⟨g, e, off, n, hm⟩ := absorb_names h4 o ho
              exact (near_sl hv _ hm _ _ _ _ _ rfl).2]
          · rfl
        · rfl
      · rfl
    | _ => rfl

theorem retag_same {cs : List AV} (h : cs.all isC = true) (t t' : Tag) : cs.map (retag t) = cs.map (retag t') := by
  refine List.map_congr_left fun x hx => ?_
  have := List.all_eq_true.1 h x hx
  cases x <;> simp [isC] at this <;> rfl

theorem opLoad_local {cf : Cfg} {fn : FuncId} {d : Nat} {t : TypeId} {p : AV} (hp : Agree (nearKeys p) σ τ) (hs : τ.gens (site d 0) = σ.gens (site d 0))
    (he : ∀ q g i j e rows r, p = .ptr q g i j → σ.objs q = some (.slice e rows) → rows[i]? = some r → r.all isC = true ∨ τ.ep = σ.ep) : opLoad cf fn τ d t p = opLoad cf fn σ d t p := by
  unfold opLoad
  cases p with
  | ip tg cells =>
    cases tg with
    | ep n =>
      have : τ.tagOK (.ep n) = σ.tagOK (.ep n) := by simp only [St.tagOK]; rw [hp.e (by simp [nearKeys])]
      simp only [this]
    | _ => rfl
  | ptr q g i j =>
    simp only [hp.o q (by simp [nearKeys]), hp.g q (by simp [nearKeys]), hs]
    split
    · split
      · split
        · rfl
        · rename_i e rows ho
          split
          · rename_i r hr
            rcases he _ _ _ _ _ _ _ rfl ho hr with h | h
            · split
              · split
                · rfl
                · rw [retag_same (t' := .ep σ.ep)]
                  refine List.all_eq_true.2 fun x hx => List.all_eq_true.1 h x (List.mem_of_mem_drop (List.mem_of_mem_take hx))
              · rfl
            · rw [h]
          · rfl
        · rfl
      · rfl
    · rfl
  | _ => rfl

theorem moreOf_local {e : Nat} {x : AV} (h : Agree (nearKeys x) σ τ) : moreOf τ e x = moreOf σ e x := by
  unfold moreOf
  split
  · rfl
  · rw [rows_local h]
    split
    · split
      · rfl
      · split
        · rw [h.o _ (by simp [nearKeys])]
        · rfl
    · rfl
theorem moreOf_names {e : Nat} {x : AV} {new : List (List AV)} {ks : List Nat} (h : moreOf σ e x = some (new, ks)) : ∀ o ∈ ks, Key.o o ∈ nearKeys x := by
  unfold moreOf at h
  split at h
  · split at h
    · cases h; simp
    · cases h
  · split at h
    · split at h
      · cases h; simp
      · split at h
        · split at h
          · split at h
            · cases h; simp [nearKeys]
            · cases h
          · cases h
        · cases h
    · cases h

theorem opAppend_local {cf : Cfg} {d : Nat} {src : Option Operand} {ts : Array TypeId} {s x : AV} (h1 : Agree (nearKeys s) σ τ) (h2 : Agree (nearKeys x) σ τ)
    (hs : τ.gens (site d 0) = σ.gens (site d 0)) : opAppend cf τ d src ts s x = opAppend cf σ d src ts s x := by
  unfold opAppend
  split
  · split
    · split
      · rfl
      · rw [moreOf_local h2]
        split
        · rename_i new ks hm
          have hks : ∀ o ∈ ks, τ.gens o = σ.gens o := fun o ho => h2.g o (moreOf_names hm o ho)
          split
          · rw [hs, killed_local (ks := ks.filter _) fun o ho => hks o (List.mem_filter.1 ho |>.1)]
          · rename_i q g e' n
            have k1 := h1.o q (by simp [nearKeys])
            have k2 := h1.g q (by simp [nearKeys])
            rw [k1, k2, hs, killed_local hks, killed_local (ks := q :: ks.filter _) (by
              intro o ho
              rcases List.mem_cons.1 ho with rfl | ho
              · exact k2
              · exact hks o (List.mem_filter.1 ho |>.1))]
          · rfl
        · rfl
    · rfl
  · rfl

/-! #### calls -/

theorem heap_sub {s : St} (h : ∀ o, s.objs o = σ.objs o ∨ s.objs o = none) : ∀ (m : Nat) (v : AV), ∀ k ∈ heapKeys s m v, k ∈ heapKeys σ m v
  | 0, _, k, hk => by simp [heapKeys] at hk
  | m + 1, v, k, hk => by
    have ih := heap_sub h m
    have ihs : ∀ (cs : List AV), k ∈ cs.flatMap (heapKeys s m) → k ∈ cs.flatMap (heapKeys σ m) := by
      intro cs hc
      obtain ⟨c, h1, h2⟩ := List.mem_flatMap.1 hc
      exact List.mem_flatMap.2 ⟨c, h1, ih c k h2⟩
    have box : ∀ o, (k ∈ (Key.o o :: match s.objs o with | some (.box cells) => cells.flatMap (heapKeys s m) | _ => [])) →
        k ∈ (Key.o o :: match σ.objs o with | some (.box cells) => cells.flatMap (heapKeys σ m) | _ => []) := by
      intro o hc
      rcases List.mem_cons.1 hc with rfl | hc
      · simp
      · refine List.mem_cons_of_mem _ ?_
        rcases h o with e | e
        · rw [e] at hc
          split at hc
          · exact ihs _ hc
          · simp at hc
        · rw [e] at hc; simp at hc
    cases v with
    | tr t e rows => cases t <;> simpa [heapKeys] using hk
    | ip t cells => cases t <;> simpa [heapKeys] using hk
    | sl o => exact box o hk
    | ptr o => exact box o hk
    | agg cs => exact ihs cs hk
    | tup cs => exact ihs cs hk
    | fn f cs => exact ihs cs hk
    | ib cs => exact ihs cs hk
    | _ => simpa [heapKeys] using hk

theorem heap_local : ∀ (m : Nat) (v : AV), Agree (heapKeys σ m v) σ τ → heapKeys τ m v = heapKeys σ m v
  | 0, _, _ => rfl
  | m + 1, v, h => by
    have ihs : ∀ (cs : List AV), Agree (cs.flatMap (heapKeys σ m)) σ τ → cs.flatMap (heapKeys τ m) = cs.flatMap (heapKeys σ m) := by
      intro cs hc
      rw [List.flatMap_def, List.flatMap_def]
      congr 1
      exact List.map_congr_left fun c hm => heap_local m c (hc.sub fun k hk => List.mem_flatMap.2 ⟨c, hm, hk⟩)
    have box : ∀ o, Agree (Key.o o :: match σ.objs o with | some (.box cells) => cells.flatMap (heapKeys σ m) | _ => []) σ τ →
        (Key.o o :: match τ.objs o with | some (.box cells) => cells.flatMap (heapKeys τ m) | _ => []) = (Key.o o :: match σ.objs o with | some (.box cells) => cells.flatMap (heapKeys σ m) | _ => []) := by
      intro o hc
      rw [hc.o o (by simp)]
      congr 1
      split
      · rename_i cells ho
        rw [ho] at hc
        exact ihs _ (hc.sub fun k hk => by simp at hk ⊢; exact .inr hk)
      · rfl
    cases v with
    | tr t e rows => cases t <;> rfl
    | ip t cells => cases t <;> rfl
    | sl o => exact box o h
    | ptr o => exact box o h
    | agg cs => exact ihs cs h
    | tup cs => exact ihs cs h
    | fn f cs => exact ihs cs h
    | ib cs => exact ihs cs h
    | _ => rfl

theorem mapM_congr {f g : AV → Option AV} : ∀ {xs : List AV}, (∀ x ∈ xs, f x = g x) → xs.mapM f = xs.mapM g
  | [], _ => rfl
  | x :: xs, h => by rw [List.mapM_cons, List.mapM_cons, h x (by simp), mapM_congr fun y hy => h y (by simp [hy])]

theorem view_local : ∀ (n m : Nat) (v : AV), n ≤ m → Agree (heapKeys σ m v) σ τ → τ.view n v = σ.view n v
  | 0, _, _, _, _ => rfl
  | n + 1, 0, _, hn, _ => by omega
  | n + 1, m + 1, v, hn, h => by
    have ihs : ∀ (cs : List AV), Agree (cs.flatMap (heapKeys σ m)) σ τ → cs.mapM (τ.view n) = cs.mapM (σ.view n) := by
      intro cs hc
      exact mapM_congr fun c hm => view_local n m c (by omega) (hc.sub fun k hk => List.mem_flatMap.2 ⟨c, hm, hk⟩)
    cases v with
    | tr t e rows =>
      cases t with
      | ep q => simp only [St.view]; rw [h.e (by simp [heapKeys])]
      | _ => rfl
    | ip t cells =>
      cases t with
      | ep q => simp only [St.view]; rw [h.e (by simp [heapKeys])]
      | _ => rfl
    | sl o g e off n => 
      simp only [St.view, St.rows]
      rw [h.o o (by simp [heapKeys]), h.g o (by simp [heapKeys])]
    | ptr o g i j =>
      simp only [St.view]
      rw [h.o o (by simp [heapKeys]), h.g o (by simp [heapKeys])]
      split
      · split
        · rename_i cells ho
          split
          · congr 1
            have hc : Agree (cells.flatMap (heapKeys σ m)) σ τ := h.sub fun k hk => by simp only [heapKeys, ho]; exact List.mem_cons_of_mem _ hk
            exact mapM_congr fun c hm => view_local n m c (by omega) (hc.sub fun k hk => List.mem_flatMap.2 ⟨c, List.mem_of_mem_drop hm, hk⟩)
          · rfl
        · rfl
        · rfl
      · rfl
    | agg cs => simp only [St.view]; rw [ihs cs h]
    | fn f cs => simp only [St.view]; rw [ihs cs h]
    | ib cs => simp only [St.view]; rw [ihs cs h]
    | _ => rfl

theorem withBoxes_mem {objs : Nat → Option Ob} {os : List Nat} {o : Nat} (h : o ∈ withBoxes objs os) : o ∈ os ∨ ∃ q ∈ os, o ∈ boxRefs objs q := by
  have key : ∀ (l acc : List Nat), o ∈ l.foldl (fun acc o => if acc.contains o then acc else acc ++ [o]) acc → o ∈ acc ∨ o ∈ l := by
    intro l
    induction l with
    | nil => intro acc h; exact .inl h
    | cons x l ih =>
      intro acc h
      simp only [List.foldl_cons] at h
      rcases ih _ h with h | h
      · split at h
        · exact .inl h
        · rcases List.mem_append.1 h with h | h
          · exact .inl h
          · simp at h; subst h; exact .inr (by simp)
      · exact .inr (by simp [h])
  rcases key _ _ h with h | h
  · simp at h
  · obtain ⟨q, h1, h2⟩ := List.mem_flatMap.1 h
    rcases List.mem_cons.1 h2 with rfl | h2
    · exact .inl h1
    · exact .inr ⟨q, h1, h2⟩

theorem refs_near (m : Nat) {v : AV} {q : Nat} (h : q ∈ refs1 v) : Key.o q ∈ heapKeys σ (m + 3) v := by
  cases v with
  | sl o => simp only [refs1, List.mem_singleton] at h; subst h; simp [heapKeys]
  | ptr o => simp only [refs1, List.mem_singleton] at h; subst h; simp [heapKeys]
  | agg cs =>
    simp only [refs1, List.mem_flatMap] at h
    obtain ⟨c, hc, hq⟩ := h
    simp only [heapKeys, List.mem_flatMap]
    refine ⟨c, hc, ?_⟩
    cases c <;> simp_all [heapKeys]
  | tup cs =>
    simp only [refs1, List.mem_flatMap] at h
    obtain ⟨c, hc, hq⟩ := h
    rw [heapKeys]
    refine List.mem_flatMap.2 ⟨c, hc, ?_⟩
    cases c with
    | sl o => simp only [List.mem_singleton] at hq; subst hq; simp [heapKeys]
    | ptr o => simp only [List.mem_singleton] at hq; subst hq; simp [heapKeys]
    | agg cs' =>
      simp only [List.mem_flatMap] at hq
      obtain ⟨c', hc', hq⟩ := hq
      rw [heapKeys]
      refine List.mem_flatMap.2 ⟨c', hc', ?_⟩
      cases c' <;> simp_all [heapKeys]
    | _ => simp at hq
  | _ => simp [refs1] at h

theorem refs_box (m : Nat) {v : AV} {q : Nat} (h : q ∈ refs1 v) {o : Nat} (ho : o ∈ boxRefs σ.objs q) : Key.o o ∈ heapKeys σ (m + 6) v := by
  unfold boxRefs at ho
  split at ho
  · rename_i cells hb
    obtain ⟨c0, hc0, ho⟩ := List.mem_flatMap.1 ho
    have inner : ∀ n, 3 ≤ n → Key.o o ∈ cells.flatMap (heapKeys σ n) := fun n hn => by
      obtain ⟨n, rfl⟩ := Nat.exists_eq_add_of_le hn
      rw [Nat.add_comm]
      exact List.mem_flatMap.2 ⟨c0, hc0, refs_near n ho⟩
    have at1 : ∀ n, 3 ≤ n → Key.o o ∈ (Key.o q :: match σ.objs q with | some (.box cells) => cells.flatMap (heapKeys σ n) | _ => []) := fun n hn => by
      rw [hb]; exact List.mem_cons_of_mem _ (inner n hn)
    cases v with
    | sl p => simp only [refs1, List.mem_singleton] at h; subst h; exact at1 _ (by omega)
    | ptr p => simp only [refs1, List.mem_singleton] at h; subst h; exact at1 _ (by omega)
    | agg cs =>
      simp only [refs1, List.mem_flatMap] at h
      obtain ⟨c, hc, hq⟩ := h
      rw [heapKeys]
      refine List.mem_flatMap.2 ⟨c, hc, ?_⟩
      cases c with
      | sl p => simp only [List.mem_singleton] at hq; subst hq; exact at1 _ (by omega)
      | ptr p => simp only [List.mem_singleton] at hq; subst hq; exact at1 _ (by omega)
      | _ => simp at hq
    | tup cs =>
      simp only [refs1, List.mem_flatMap] at h
      obtain ⟨c, hc, hq⟩ := h
      rw [heapKeys]
      refine List.mem_flatMap.2 ⟨c, hc, ?_⟩
      cases c with
      | sl p => simp only [List.mem_singleton] at hq; subst hq; exact at1 _ (by omega)
      | ptr p => simp only [List.mem_singleton] at hq; subst hq; exact at1 _ (by omega)
      | agg cs' =>
        simp only [List.mem_flatMap] at hq
        obtain ⟨c', hc', hq⟩ := hq
        rw [heapKeys]
        refine List.mem_flatMap.2 ⟨c', hc', ?_⟩
        cases c' with
        | sl p => simp only [List.mem_singleton] at hq; subst hq; exact at1 _ (by omega)
        | ptr p => simp only [List.mem_singleton] at hq; subst hq; exact at1 _ (by omega)
        | _ => simp at hq
      | _ => simp at hq
    | _ => simp [refs1] at h
  · simp at ho

theorem moved_keys {mv : List Nat} : ∀ {i : Nat} {args : List AV} {o : Nat}, o ∈ movedRefs mv i args → ∃ v ∈ args, o ∈ refs1 v
  | _, [], o, h => by simp [movedRefs] at h
  | i, v :: vs, o, h => by
    simp only [movedRefs] at h
    rcases List.mem_append.1 h with h | h
    · split at h
      · exact ⟨v, by simp, h⟩
      · simp at h
    · obtain ⟨u, hu, h⟩ := moved_keys h; exact ⟨u, by simp [hu], h⟩

theorem withBoxes_local {os : List Nat} (h : ∀ o ∈ os, τ.objs o = σ.objs o) : withBoxes τ.objs os = withBoxes σ.objs os := by
  unfold withBoxes
  have : (os.flatMap fun o => o :: boxRefs τ.objs o) = os.flatMap fun o => o :: boxRefs σ.objs o := by
    rw [List.flatMap_def, List.flatMap_def]
    congr 1
    exact List.map_congr_left fun o ho => by simp only [boxRefs, h o ho]
  simp only [this]

theorem inMap_local {T : List Nat} (h : ∀ o ∈ T, τ.gens o = σ.gens o) : inMap τ T = inMap σ T := by
  funext o g
  unfold inMap
  by_cases ho : o ∈ T
  · rw [h o ho]
  · have : T.idxOf? o = none := by
      cases hk : T.idxOf? o with
      | none => rfl
      | some k => exact absurd (List.mem_of_getElem? (idx_get hk)) ho
    simp [this]

theorem outMap_local {d : Nat} {T : List Nat} {nn : Nat} (h : ∀ o ∈ T, τ.gens o = σ.gens o) (hs : ∀ k < nn, τ.gens (site d k) = σ.gens (site d k)) : outMap τ d T nn = outMap σ d T nn := by
  funext k g
  unfold outMap
  split
  · rename_i o ho
    rw [h o (List.mem_of_getElem? ho)]
  · rename_i hk
    split
    · rename_i hlt
      have := List.getElem?_eq_none_iff.1 hk
      rw [hs (k - T.length) (by omega)]
    · rfl

theorem backObjs_local {d : Nat} {T : List Nat} {nn : Nat} (h : ∀ o ∈ T, τ.gens o = σ.gens o) (hs : ∀ k < nn, τ.gens (site d k) = σ.gens (site d k)) :
    ∀ {k : Nat} {outs : List (Nat × Option Ob)}, backObjs τ d T nn k outs = backObjs σ d T nn k outs
  | _, [] => rfl
  | k, (g, none) :: rest => by
    simp only [backObjs]
    rw [backObjs_local h hs]
    split
    · rename_i o rest' h1 h2
      rw [h o (List.mem_of_getElem? h1)]
    · rfl
  | k, (g, some ob) :: rest => by
    simp only [backObjs]
    rw [backObjs_local h hs, outMap_local h hs]

theorem passObjs_local {T : List Nat} (hm : inMap τ T = inMap σ T) : ∀ {os : List Nat}, (∀ o ∈ os, τ.objs o = σ.objs o) → passObjs τ T os = passObjs σ T os
  | [], _ => rfl
  | o :: os, h => by
    simp only [passObjs]
    rw [h o (by simp), passObjs_local hm fun q hq => h q (by simp [hq]), hm]

theorem passArgs_local {T : List Nat} {σv τv : St} {mv : List Nat} (hm : inMap τ T = inMap σ T) : ∀ {i : Nat} {xs : List AV}, (∀ x ∈ xs, τv.view 6 x = σv.view 6 x) → passArgs τ T τv mv i xs = passArgs σ T σv mv i xs
  | _, [], _ => rfl
  | i, x :: xs, h => by
    simp only [passArgs, passArg]
    rw [hm, h x (by simp), passArgs_local hm fun q hq => h q (by simp [hq])]

theorem opCall_local {cf : Cfg} {H : Handler} {d f : Nat} {args : List AV} (h : ∀ v ∈ args, ∃ q, Agree (heapKeys σ (q + 8) v) σ τ) (hs : ∀ k < 8, τ.gens (site d k) = σ.gens (site d k)) :
    opCall cf H τ d f args = opCall cf H σ d f args := by
  unfold opCall
  split
  · rename_i F hF
    split
    · rfl
    · split
      · rw [mapM_congr (g := σ.view 6) fun x hx => by obtain ⟨q, hq⟩ := h x hx; exact view_local 6 (q + 8) x (by omega) hq]
        split
        · split
          · rename_i v obs hq
            split
            · rfl
            · rename_i hlt
              rw [outMap_local (τ := τ) (σ := σ) (by simp) fun k hk => hs k (by omega), backObjs_local (τ := τ) (σ := σ) (by simp) fun k hk => hs k (by omega)]
          · rfl
        · rfl
      · have ref : ∀ o ∈ movedRefs (cf.mv f) 0 args, τ.objs o = σ.objs o := by
          intro o ho
          obtain ⟨v, hv, hr⟩ := moved_keys ho
          obtain ⟨q, hq⟩ := h v hv
          exact hq.o o (refs_near (q + 5) hr)
        have key : ∀ o ∈ withBoxes σ.objs (movedRefs (cf.mv f) 0 args), ∃ v ∈ args, ∃ q, Agree (heapKeys σ (q + 8) v) σ τ ∧ Key.o o ∈ heapKeys σ (q + 8) v := by
          intro o ho
          rcases withBoxes_mem ho with ho | ⟨q, hq, ho⟩
          · obtain ⟨v, hv, hr⟩ := moved_keys ho
            obtain ⟨q, hq⟩ := h v hv
            exact ⟨v, hv, q, hq, refs_near (q + 5) hr⟩
          · obtain ⟨v, hv, hr⟩ := moved_keys hq
            obtain ⟨q, hq⟩ := h v hv
            exact ⟨v, hv, q, hq, refs_box (q + 2) hr ho⟩
        simp only
        rw [withBoxes_local ref]
        generalize withBoxes σ.objs (movedRefs (cf.mv f) 0 args) = T at key
        have kg : ∀ o ∈ T, τ.gens o = σ.gens o := fun o ho => by obtain ⟨v, hv, q, hq, hk⟩ := key o ho; exact hq.g o hk
        have ko : ∀ o ∈ T, τ.objs o = σ.objs o := fun o ho => by obtain ⟨v, hv, q, hq, hk⟩ := key o ho; exact hq.o o hk
        have fl : (T.all fun o => flatOb (τ.objs o)) = T.all fun o => flatOb (σ.objs o) := by
          rw [Bool.eq_iff_iff, List.all_eq_true, List.all_eq_true]
          exact ⟨fun k o ho => by rw [← ko o ho]; exact k o ho, fun k o ho => by rw [ko o ho]; exact k o ho⟩
        rw [fl, passObjs_local (inMap_local kg) ko,
          passArgs_local (τ := τ) (σ := σ) (σv := { σ with objs := fun o => if T.contains o then none else σ.objs o, ep := if cf.fl f then σ.ep else σ.ep + 1 }) (inMap_local kg) (fun x hx => by
            obtain ⟨q, hq⟩ := h x hx
            refine view_local 6 (q + 8) x (by omega) ?_
            have hx := hq.sub (heap_sub (s := { σ with objs := fun o => if T.contains o then none else σ.objs o, ep := if cf.fl f then σ.ep else σ.ep + 1 }) (by
              intro o
              simp only
              split
              · exact .inr rfl
              · exact .inl rfl) (q + 8) x)
            exact ⟨hx.s, fun i hi => by simp only; rw [hx.o i hi], hx.g, fun hi => by simp only; rw [hx.e hi]⟩)]
        split
        · rfl
        · split
          · split
            · split
              · rfl
              · rw [outMap_local kg fun k hk => hs k (by omega), backObjs_local kg fun k hk => hs k (by omega)]
            · rfl
          · rfl
  · rfl

/-! #### one operation -/

theorem evalOp_local {cf : Cfg} {H : Handler} {fn : FuncId} (h : Agree (readKeys ops o σ) σ τ) : evalOp cf H fn o τ = evalOp cf H fn o σ := by
  have G : ∀ x ∈ o.op.operands, τ.get x = σ.get x := fun x hx => get_local (h.sub fun k hk => by
    simp only [readKeys, List.mem_append, List.mem_flatMap]
    exact .inl (.inl (.inl (.inr ⟨x, by simpa using hx, hk⟩))))
  have K : Agree (opKeys o.op σ) σ τ := h.sub fun k hk => by simp only [readKeys, List.mem_append]; exact .inl (.inl (.inr hk))
  have L : Agree (loadKeys o σ) σ τ := h.sub fun k hk => by simp only [readKeys, List.mem_append]; exact .inl (.inr hk)
  have S : ∀ d, o.dst = some d → makes o.op = true → ∀ k < 8, τ.gens (site d k) = σ.gens (site d k) := by
    intro d hd hm k hk
    refine h.g _ ?_
    simp only [readKeys, List.mem_append]
    refine .inr ?_
    rw [hd]
    simp only [hm, if_true, List.mem_map, List.mem_range]
    exact ⟨k, hk, rfl⟩
  obtain ⟨dst, op, type, pos, after, guard⟩ := o
  have N : (∀ k, k ∈ opKeys op σ ↔ k ∈ op.operands.toList.flatMap fun x => nearKeys (σ.get x)) → ∀ x ∈ op.operands, Agree (nearKeys (σ.get x)) σ τ :=
    fun e x hx => K.sub fun k hk => (e k).2 (List.mem_flatMap.2 ⟨x, by simpa using hx, hk⟩)
  simp only at G K S
  unfold evalOp
  cases op with
  | move x => simp only [G x (by simp [Op.operands])]
  | assign x => simp only [G x (by simp [Op.operands])]
  | pick c a b => simp only [G c (by simp [Op.operands]), G a (by simp [Op.operands]), G b (by simp [Op.operands])]
  | alloc t =>
    cases dst with
    | none => rfl
    | some d => simp only [newOb, S d rfl rfl 0 (by omega)]
  | box t x =>
    cases dst with
    | none => rfl
    | some d => simp only [newOb, S d rfl rfl 0 (by omega), G x (by simp [Op.operands])]
  | build t parts =>
    have e : (parts.toList.map fun (x : Nat × Operand) => (x.1, τ.get x.2)) = parts.toList.map fun (x : Nat × Operand) => (x.1, σ.get x.2) :=
      List.map_congr_left fun x hx => by rw [G x.2 (by simp only [Op.operands]; simp; exact ⟨x.1, by simpa using hx⟩)]
    simp only [e]
  | buildSlice t len parts =>
    cases dst with
    | none => rfl
    | some d =>
      have e : (parts.toList.map fun (x : Nat × Operand) => (x.1, τ.get x.2)) = parts.toList.map fun (x : Nat × Operand) => (x.1, σ.get x.2) :=
        List.map_congr_left fun x hx => by rw [G x.2 (by simp only [Op.operands]; simp; exact ⟨x.1, by simpa using hx⟩)]
      have hn : ∀ x ∈ parts.toList.map fun (x : Nat × Operand) => (x.1, σ.get x.2), Agree (nearKeys x.2) σ τ := by
        intro x hx
        obtain ⟨y, hy, rfl⟩ := List.mem_map.1 hx
        exact N (fun k => Iff.rfl) y.2 (by simp only [Op.operands]; simp; exact ⟨y.1, by simpa using hy⟩)
      simp only [e, S d rfl rfl 0 (by omega), partRows_local hn]
      split
      · split
        · split
          · split
            · rename_i rows ks hp
              rw [killed_local (ks := ks.filter _) fun o ho => by
                obtain ⟨x, hx, hk⟩ := partRows_names hp o (List.mem_filter.1 ho).1
                exact (hn x hx).g o hk]
            · rfl
          · rfl
        · rfl
      · rfl
  | load t x =>
    cases dst with
    | none => rfl
    | some d =>
      simp only [G x (by simp [Op.operands])]
      refine opLoad_local (N (fun k => Iff.rfl) x (by simp [Op.operands])) (S d rfl rfl 0 (by omega)) ?_
      intro q g i j e rows r hp ho hr
      simp only [loadKeys, hp, ho, hr] at L
      by_cases hc : r.all isC = true
      · exact .inl hc
      · rw [if_neg hc] at L; exact .inr (L.e (by simp))
  | store t x y =>
    have : ∀ d : Option Tmp, (match Op.store t x y, d with | .store t x y, _ => opStore cf τ t (τ.get x) (τ.get y) | _, _ => none) = opStore cf σ t (σ.get x) (σ.get y) := by
      intro d
      simp only [G x (by simp [Op.operands]), G y (by simp [Op.operands])]
      exact opStore_local (N (fun k => Iff.rfl) x (by simp [Op.operands])) (N (fun k => Iff.rfl) y (by simp [Op.operands]))
    exact this dst
  | nilCheck x => simp only [G x (by simp [Op.operands])]
  | binOp op t x y t' => simp only [G x (by simp [Op.operands]), G y (by simp [Op.operands])]
  | unOp op t x => simp only [G x (by simp [Op.operands])]
  | convert src dst' x =>
    have hn := N (fun k => Iff.rfl) x (by simp [Op.operands])
    simp only [G x (by simp [Op.operands]), newOb]
    generalize σ.get x = X at hn
    split
    · rfl
    · split
      · rfl
      · split
        · rw [S _ rfl rfl 0 (by omega)]
        · rfl
    · rw [rows_local hn]
  | makeFunc f first caps =>
    cases f with
    | func f => simp only [vals_local (xs := caps) fun x hx => G x (by simp [Op.operands, hx])]
    | _ => rfl
  | makeMap t r =>
    cases r with
    | some _ => rfl
    | none =>
      cases dst with
      | none => rfl
      | some d => simp only [newOb, S d rfl rfl 0 (by omega)]
  | makeSlice t x y =>
    cases dst with
    | none => rfl
    | some d => simp only [newOb, S d rfl rfl 0 (by omega), G x (by simp [Op.operands]), G y (by simp [Op.operands])]
  | slice t x lo hi mx =>
    cases mx with
    | some _ => rfl
    | none =>
      have e1 : lo.map τ.get = lo.map σ.get := by
        cases lo with
        | none => rfl
        | some y => simp only [Option.map_some, G y (by simp [Op.operands])]
      have e2 : hi.map τ.get = hi.map σ.get := by
        cases hi with
        | none => rfl
        | some y => simp only [Option.map_some, G y (by simp [Op.operands])]
      simp only [e1, e2, G x (by simp [Op.operands])]
  | fieldAddr t x f => simp only [G x (by simp [Op.operands])]
  | field t x f => simp only [G x (by simp [Op.operands])]
  | indexAddr t x i => simp only [G x (by simp [Op.operands]), G i (by simp [Op.operands])]
  | index t x i => simp only [G x (by simp [Op.operands]), G i (by simp [Op.operands])]
  | lookup t x k ok =>
    have hn := N (fun k => Iff.rfl) x (by simp [Op.operands])
    simp only [G x (by simp [Op.operands]), G k (by simp [Op.operands])]
    split
    · rename_i kt el p g q h1 h2 h3
      rw [h2] at hn
      rw [hn.o p (by simp [nearKeys]), hn.g p (by simp [nearKeys])]
    · rfl
  | mapUpdate t x k y =>
    have hn := N (fun k => Iff.rfl) x (by simp [Op.operands])
    simp only [G x (by simp [Op.operands]), G k (by simp [Op.operands]), G y (by simp [Op.operands])]
    split
    · rename_i kt el p g q v h1 h2 h3 h4
      rw [h2] at hn
      rw [hn.o p (by simp [nearKeys]), hn.g p (by simp [nearKeys])]
    · rfl
  | extract x i => simp only [G x (by simp [Op.operands])]
  | call c =>
    cases dst with
    | none => rfl
    | some d =>
      obtain ⟨callee, args, argTypes⟩ := c
      cases callee with
      | builtin b =>
        have hv : vals τ args = vals σ args := vals_local fun x hx => G x (by simp [Op.operands, Call.operands, hx])
        have hn : ∀ v ∈ vals σ args, Agree (nearKeys v) σ τ := by
          intro v hv
          obtain ⟨x, hx, rfl⟩ := List.mem_map.1 hv
          exact N (fun k => Iff.rfl) x (by simpa [Op.operands, Call.operands] using hx)
        simp only [hv]
        generalize vals σ args = as at hn
        unfold opBuiltin
        split
        all_goals first | rfl | skip
        · rename_i o g
          have k := hn (.mp o g) (by simp)
          rw [k.o o (by simp [nearKeys]), k.g o (by simp [nearKeys])]
        · exact opAppend_local (hn _ (by simp)) (hn _ (by simp)) (S d rfl rfl 0 (by omega))
      | value x =>
        have hk : ∀ y ∈ #[x] ++ args, Agree (heapKeys σ 9 (σ.get y)) σ τ := fun y hy => K.sub fun k hk =>
          List.mem_flatMap.2 ⟨y, by simpa [Op.operands, Call.operands] using hy, hk⟩
        simp only [G x (by simp [Op.operands, Call.operands]), vals_local (xs := args) fun y hy => G y (by simp [Op.operands, Call.operands, hy])]
        split
        · rename_i f caps hx
          refine opCall_local ?_ (S d rfl rfl)
          intro v hv
          rcases List.mem_append.1 hv with hv | hv
          · obtain ⟨y, hy, rfl⟩ := List.mem_map.1 hv
            exact ⟨1, hk y (by simp at hy ⊢; exact .inr hy)⟩
          · have k8 := hk x (by simp)
            rw [hx] at k8
            exact ⟨0, k8.sub fun k hk => List.mem_flatMap.2 ⟨v, hv, hk⟩⟩
        · rfl
      | invoke r m => rfl
  | _ => rfl

theorem flat_congr {α β : Type} {f g : α → List β} {l : List α} (h : ∀ x ∈ l, f x = g x) : l.flatMap f = l.flatMap g := by
  rw [List.flatMap_def, List.flatMap_def]
  congr 1
  exact List.map_congr_left h

theorem readKeys_local (h : Agree (readKeys ops o σ) σ τ) : readKeys ops o τ = readKeys ops o σ := by
  have G : ∀ x ∈ o.op.operands, τ.get x = σ.get x := fun x hx => get_local (h.sub fun k hk => by
    simp only [readKeys, List.mem_append, List.mem_flatMap]
    exact .inl (.inl (.inl (.inr ⟨x, by simpa using hx, hk⟩))))
  have K : Agree (opKeys o.op σ) σ τ := h.sub fun k hk => by simp only [readKeys, List.mem_append]; exact .inl (.inl (.inr hk))
  have near : (o.op.operands.toList.flatMap fun x => nearKeys (τ.get x)) = o.op.operands.toList.flatMap fun x => nearKeys (σ.get x) :=
    flat_congr fun x hx => by rw [G x (by simpa using hx)]
  have e1 : opKeys o.op τ = opKeys o.op σ := by
    obtain ⟨dst, op, type, pos, after, guard⟩ := o
    simp only at G K near ⊢
    unfold opKeys
    cases op with
    | call c =>
      obtain ⟨callee, args, argTypes⟩ := c
      cases callee with
      | builtin b => exact near
      | value x =>
        exact flat_congr fun y hy => by
          rw [G y (by simpa using hy)]
          exact heap_local 9 _ (K.sub fun k hk => List.mem_flatMap.2 ⟨y, by simpa using hy, hk⟩)
      | invoke r m =>
        exact flat_congr fun y hy => by
          rw [G y (by simpa using hy)]
          exact heap_local 9 _ (K.sub fun k hk => List.mem_flatMap.2 ⟨y, by simpa using hy, hk⟩)
    | load => exact near
    | store => exact near
    | buildSlice => exact near
    | convert => exact near
    | lookup => exact near
    | mapUpdate => exact near
    | _ => rfl
  have e2 : loadKeys o τ = loadKeys o σ := by
    obtain ⟨dst, op, type, pos, after, guard⟩ := o
    simp only at G K near
    unfold loadKeys
    cases op with
    | load t x =>
      simp only [G x (by simp [Op.operands])]
      split
      · rename_i q g i j hx
        have : Agree (nearKeys (σ.get x)) σ τ := K.sub fun k hk => List.mem_flatMap.2 ⟨x, by simp [Op.operands], hk⟩
        rw [hx] at this
        rw [this.o q (by simp [nearKeys])]
      · rfl
    | _ => rfl
  unfold readKeys
  rw [e1, e2]

end
end Go.AM
