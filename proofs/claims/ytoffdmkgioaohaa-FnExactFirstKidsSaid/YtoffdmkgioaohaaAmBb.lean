/- Functions: what a body comes to is what a call of the function answers. -/
import Derived.Test.YtoffdmkgioaohaaAmBa
namespace Go.AM
set_option linter.unusedSimpArgs false
set_option linter.unusedVariables false

section
variable {P : Program} {σ : St} {a : Act} {h : HS} {cf : Cfg}

theorem run_mapM {α β : Type} {w : World} {f : α → Sem β} {g : α → β} : ∀ {l : List α}, (∀ x ∈ l, (f x).run P w = .ok (g x) w) → (l.mapM f).run P w = .ok (l.map g) w
  | [], _ => by simp
  | x :: l, hx => by
    rw [List.mapM_cons]
    simp [hx x (by simp), run_mapM fun y hy => hx y (List.mem_cons_of_mem _ hy)]

theorem mapM_each {f : ResultVar → Option AV} {Q : ResultVar → AV → Value → Prop} {val : ResultVar → Value} (hq : ∀ x v, f x = some v → Q x v (val x)) :
    ∀ {l : List ResultVar} {vs : List AV}, l.mapM f = some vs → (∀ x v, Q x v (val x) → VR h v (val x)) → VRs h vs (l.map val)
  | [], vs, e, _ => by simp at e; subst e; exact .nil
  | x :: l, vs, e, k => by
    rw [List.mapM_cons] at e
    obtain ⟨y, e1, e2⟩ := Option.bind_eq_some_iff.1 e
    obtain ⟨ys, e3, e4⟩ := Option.bind_eq_some_iff.1 e2
    cases e4
    exact .cons _ _ _ _ (k x y (hq x y e1)) (mapM_each hq e3 k)

def resRun (tmps : Array Value) : ResultVar → Sem Value
  | .tmp t => pure (tmps.getD t undef)
  | .cell b t => do loadVar t (← asAddr (tmps.getD b undef))

theorem results_eq (F : Func) (tmps : Array Value) : results F tmps = (do
  let vs ← F.results.mapM (resRun tmps)
  pure (if h : vs.size = 1 then vs[0] else .tuple vs)) := rfl

def oneOf : List Value → Value
  | [v] => v
  | us => .tuple us.toArray

theorem oneOf_eq (us : List Value) : (if hq : us.toArray.size = 1 then us.toArray[0] else Value.tuple us.toArray) = oneOf us := by
  match us with
  | [] => rfl
  | [v] => rfl
  | v :: u :: us => simp [oneOf]

theorem result_ok (r : Rel σ a h) {x : ResultVar} {v : AV} (hx : resultOf cf σ x = some v) : ∃ u, VR h v u ∧ (resRun a.tmps x).run cf.P h.w = .ok u h.w := by
  cases x with
  | tmp t => simp only [resultOf] at hx; cases hx; exact ⟨_, r.slots t, rfl⟩
  | cell b t =>
    simp only [resultOf] at hx
    split at hx
    · rename_i o g i j s ag hs h1 h2
      split at hx
      · rename_i cells ho
        split at hx
        · rename_i hc
          obtain ⟨rfl, rfl, hj⟩ := hc
          have rs := r.slots b
          rw [hs] at rs
          rw [← r.objs] at ho
          generalize hV : a.tmps.getD b undef = V at rs
          cases rs with
          | ptr _ _ _ _ bl ob k1 k2 k3 =>
            rw [ho] at k1; cases k1
            obtain ⟨b', cs, ty, fr, j1, j2, j3, j4, j5⟩ := r.ok.ob _ _ ho
            rw [k3] at j1; cases j1
            have part := (j5.drop j).take s
            obtain ⟨u, hu, p1, p2⟩ := pack_ok part hx
            refine ⟨u, hu, ?_⟩
            have hl : ((cs.toList.drop j).take s).length = s := by
              have := part.len
              rw [this]; simp; omega
            have := run_loadVar (P := cf.P) (w := h.w) (b := bl) (off := j) h1 h2 hl (fun k v hk => by
              rw [cell_at j2]
              rw [List.getElem?_take] at hk
              split at hk
              · simpa using hk
              · cases hk) p1 p2
            simp only [resRun, hV, Ob.e, asAddr, Nat.zero_mul, Nat.zero_add, pure_bind]
            simpa [Instr.loadAt, Instr.sureAddr] using this
          | ptrOld _ _ _ _ ad hold =>
            rw [r.gens] at hold
            rcases hold with hold | ⟨_, hold⟩
            · omega
            · rw [ho] at hold; cases hold
        · cases hx
      · cases hx
    · cases hx

theorem results_ok (r : Rel σ a h) {F : Func} {v : AV} (hx : resultsOf cf F.results σ = some v) : ∃ u, VR h v u ∧ (results F a.tmps).run cf.P h.w = .ok u h.w := by
  unfold resultsOf at hx
  have run : ∃ val : ResultVar → Value, (∀ x v, resultOf cf σ x = some v → VR h v (val x)) ∧ ∀ x v, resultOf cf σ x = some v → (resRun a.tmps x).run cf.P h.w = .ok (val x) h.w := by
    classical
    refine ⟨fun x => if hv : ∃ v, resultOf cf σ x = some v then (result_ok r hv.choose_spec).choose else undef, ?_, ?_⟩
    · intro x v hv
      have ex : ∃ v, resultOf cf σ x = some v := ⟨v, hv⟩
      simp only [dif_pos ex]
      have := (result_ok r ex.choose_spec).choose_spec.1
      have e : ex.choose = v := Option.some.inj (ex.choose_spec.symm.trans hv)
      rw [← e]; exact this
    · intro x v hv
      have ex : ∃ v, resultOf cf σ x = some v := ⟨v, hv⟩
      simp only [dif_pos ex]
      exact (result_ok r ex.choose_spec).choose_spec.2
  obtain ⟨val, hv1, hv2⟩ := run
  have all : ∀ {vs : List AV}, F.results.toList.mapM (resultOf cf σ) = some vs → VRs h vs (F.results.toList.map val) ∧ (results F a.tmps).run cf.P h.w =
      .ok (oneOf (F.results.toList.map val)) h.w := by
    intro vs hm
    refine ⟨mapM_each (h := h) (Q := fun x v u => VR h v u) hv1 hm (fun _ _ k => k), ?_⟩
    have each : ∀ x ∈ F.results.toList, ∃ v, resultOf cf σ x = some v := by
      clear hx
      generalize F.results.toList = l at hm
      induction l generalizing vs with
      | nil => simp
      | cons y l ih =>
        rw [List.mapM_cons] at hm
        obtain ⟨z, e1, e2⟩ := Option.bind_eq_some_iff.1 hm
        obtain ⟨zs, e3, _⟩ := Option.bind_eq_some_iff.1 e2
        intro x hx
        rcases List.mem_cons.1 hx with rfl | hx
        · exact ⟨z, e1⟩
        · exact ih e3 x hx
    rw [results_eq, Array.mapM_eq_mapM_toList]
    have := run_mapM (P := cf.P) (w := h.w) (g := val) (l := F.results.toList) (f := resRun a.tmps) (fun x hx => by obtain ⟨v, hv⟩ := each x hx; exact hv2 x v hv)
    rw [← oneOf_eq]
    simp only [Sem.run_bind, Sem.run_map, this, Result.andThen, Sem.run_pure]
  split at hx
  · rename_i v' hm
    cases hx
    obtain ⟨k1, k2⟩ := all hm
    generalize F.results.toList.map val = us at k1 k2
    cases k1 with
    | cons _ u _ _ q1 q2 =>
      cases q2
      exact ⟨u, q1, k2⟩
  · rename_i vs hne hm
    cases hx
    obtain ⟨k1, k2⟩ := all hm
    refine ⟨.tuple (F.results.toList.map val).toArray, .tup _ _ k1, ?_⟩
    rw [k2]
    have hl : (F.results.toList.map val).length ≠ 1 := by
      rw [k1.len]
      intro e
      match vs, e with
      | [v], _ => exact hne v rfl
    match hq : F.results.toList.map val with
    | [] => rfl
    | [v] => rw [hq] at hl; simp at hl
    | v :: u :: us => rfl
  · cases hx

theorem expObjs_get {n : Nat} {ex : List Nat} : ∀ {os : List Nat} {obs : List (Nat × Option Ob)}, expObjs n σ ex os = some obs → obs.length = os.length ∧
    ∀ (k o : Nat), os[k]? = some o → ∃ obo, obs[k]? = some (if o < n then σ.gens o else 0, obo) ∧
      ((∃ ob ob', σ.objs o = some ob ∧ renOb expTag (expMap n σ ex) ob = some ob' ∧ obo = some ob') ∨ (o < n ∧ obo = none))
  | [], obs, he => by simp [expObjs] at he; subst he; exact ⟨rfl, by simp⟩
  | o :: os, obs, he => by
    simp only [expObjs] at he
    split at he
    · rename_i ob rest h1 h2
      cases he
      obtain ⟨i1, i2⟩ := expObjs_get h2
      refine ⟨by simp [i1], ?_⟩
      intro k q hk
      cases k with
      | succ k => simpa using i2 k q (by simpa using hk)
      | zero =>
        simp at hk; subst hk
        refine ⟨ob, by simp, ?_⟩
        split at h1
        · rename_i ob' hb
          cases h1
          obtain ⟨ob0, q1, q2⟩ := Option.bind_eq_some_iff.1 hb
          exact .inl ⟨ob0, ob', q1, q2, rfl⟩
        · split at h1
          · rename_i hlt; cases h1; exact .inr ⟨hlt, rfl⟩
          · cases h1
    · cases he

theorem finish_ok {F : Func} {n : Nat} {out : Out} {h2 : HS} (hfin : finish cf n F.results σ = some out) (r : Rel σ a h2) (ev : Ev h h2) (hg0 : h.gens = fun _ => 0) :
    ∃ u h', (results F a.tmps).run cf.P h2.w = .ok u h2.w ∧ Back h h' h2.w n out.2 ∧ VR h' out.1 u := by
  unfold finish at hfin
  split at hfin
  · rename_i v hv
    simp only at hfin
    generalize hex : (withBoxes σ.objs (refs1 v ++ (List.range n).flatMap (boxRefs σ.objs))).filter (n ≤ ·) = ex at hfin
    split at hfin
    · rename_i v' obs h1 h3
      cases hfin
      obtain ⟨u, hu, hrun⟩ := results_ok r hv
      obtain ⟨ids, hids⟩ : ∃ ids, ids = List.range n ++ ex := ⟨_, rfl⟩
      rw [← hids] at h3
      obtain ⟨hl, hget⟩ := expObjs_get h3
      have nd : ids.Nodup := by
        rw [hids, List.nodup_append]
        refine ⟨List.nodup_range, by rw [← hex]; exact (withBoxes_nodup _ _).filter _, ?_⟩
        rintro x hx y hy rfl
        rw [← hex] at hy
        have := (List.mem_filter.1 hy).2
        simp at hx this
        omega
      have idlt : ∀ o, o < n → ids[o]? = some o := by
        intro o ho
        rw [hids, List.getElem?_append_left (by simpa using ho)]
        simp [ho]
      have idge : ∀ k, ids[n + k]? = ex[k]? := by
        intro k
        rw [hids, List.getElem?_append_right (by simp)]
        simp
      let h' : HS := { w := h2.w, objs := fun k => (obs[k]?).bind (·.2), gens := fun k => ((obs[k]?).map (·.1)).getD 0, ep := 0, blk := fun k => (ids[k]?).bind h2.blk,
                       cap := fun k => ((ids[k]?).map h2.cap).getD 0, sub := fun k => ((ids[k]?).map h2.sub).getD [], X := h2.X, Y := h2.Y }
      have at' : ∀ k o, ids[k]? = some o → h'.blk k = h2.blk o ∧ h'.cap k = h2.cap o ∧ h'.sub k = h2.sub o ∧ h'.blocks k = h2.blocks o := by
        intro k o hk
        have k1 : h'.blk k = h2.blk o := by simp [h', hk]
        have k3 : h'.sub k = h2.sub o := by simp [h', hk]
        exact ⟨k1, by simp [h', hk], k3, by simp [HS.blocks, k1, k3]⟩
      have get : ∀ k ob', h'.objs k = some ob' → ∃ o ob, ids[k]? = some o ∧ h2.objs o = some ob ∧ renOb expTag (expMap n σ ex) ob = some ob' ∧ h'.gens k = if o < n then σ.gens o else 0 := by
        intro k ob' hk
        have hk : (obs[k]?).bind (·.2) = some ob' := hk
        obtain ⟨x, hx, hx2⟩ := Option.bind_eq_some_iff.1 hk
        have hlt : k < ids.length := by rw [← hl]; exact (List.getElem?_eq_some_iff.1 hx).1
        obtain ⟨obo, q1, q2⟩ := hget k ids[k] (List.getElem?_eq_getElem hlt)
        rw [hx] at q1; cases q1
        rcases q2 with ⟨ob, ob2, q2, q3, q4⟩ | ⟨_, q2⟩
        · simp only at hx2
          rw [q4] at hx2; cases hx2
          exact ⟨ids[k], ob, List.getElem?_eq_getElem hlt, by rw [r.objs]; exact q2, q3, by simp [h', hx]⟩
        · simp only at hx2
          rw [q2] at hx2; cases hx2
      have own' : ∀ b, h'.owned b → h2.owned b := by
        rintro b ⟨k, ob', k1, k2⟩
        obtain ⟨o, ob, q1, q2, _⟩ := get k ob' k1
        rw [(at' k o q1).2.2.2] at k2
        exact ⟨o, ob, q2, k2⟩
      have ren : Ren expTag (expMap n σ ex) h2 h' := by
        refine ⟨rfl, ?_, ?_, ?_⟩
        · intro t t' ht
          cases t with
          | im => simp only [expTag] at ht; cases ht; exact ⟨fun b hb => ⟨⟨hb.1.1, fun ho => hb.1.2 (own' b ho)⟩, hb.2⟩, fun _ => trivial, by simp⟩
          | b1 => simp only [expTag] at ht; cases ht; exact ⟨fun b hb => ⟨⟨hb.1.1, fun ho => hb.1.2 (own' b ho)⟩, hb.2⟩, fun _ => trivial, by simp⟩
          | bo => simp [expTag] at ht
          | ep n => simp [expTag] at ht
        · intro o g o' g' ob hm ho hgn
          unfold expMap at hm
          split at hm
          · rename_i hlt
            cases hm
            obtain ⟨obo, q1, q2⟩ := hget o o (idlt _ hlt)
            rw [if_pos hlt] at q1
            obtain ⟨e1, e2, e3, _⟩ := at' _ _ (idlt o hlt)
            have eg : h'.gens o = σ.gens o := by simp [h', q1]
            have eo : h'.objs o = obo := by simp [h', q1]
            rcases q2 with ⟨ob1, ob2, q2, q3, q4⟩ | ⟨_, q2⟩
            · rw [← r.objs, ho] at q2; cases q2
              exact .inl ⟨ob2, by rw [eo, q4], by rw [eg, ← r.gens, hgn], e1, e2, renOb_shape q3⟩
            · exact .inr ⟨by rw [eg, ← r.gens, hgn]; exact Nat.le_refl _, by rw [eo, q2]⟩
          · rename_i hlt
            split at hm
            · rename_i hgs
              obtain ⟨k, hk, he⟩ := Option.map_eq_some_iff.1 hm
              cases he
              have hx : ids[n + k]? = some o := by rw [idge]; exact idx_get hk
              obtain ⟨obo, q1, q2⟩ := hget (n + k) o hx
              rw [if_neg hlt] at q1
              obtain ⟨e1, e2, e3, _⟩ := at' _ _ hx
              rcases q2 with ⟨ob1, ob2, q2, q3, q4⟩ | ⟨q2, _⟩
              · rw [← r.objs, ho] at q2; cases q2
                exact .inl ⟨ob2, by simp [h', q1, q4], by simp [h', q1], e1, e2, renOb_shape q3⟩
              · exact absurd q2 hlt
            · cases hm
        · intro o g o' g' hm hold
          unfold expMap at hm
          split at hm
          · rename_i hlt
            cases hm
            obtain ⟨obo, q1, q2⟩ := hget o o (idlt _ hlt)
            rw [if_pos hlt] at q1
            have eg : h'.gens o = σ.gens o := by simp [h', q1]
            have eo : h'.objs o = obo := by simp [h', q1]
            rw [eg, eo, ← r.gens]
            rcases hold with hold | ⟨hold1, hold2⟩
            · exact .inl hold
            · refine .inr ⟨hold1, ?_⟩
              rcases q2 with ⟨ob1, ob2, q2, q3, q4⟩ | ⟨_, q2⟩
              · rw [← r.objs, hold2] at q2; cases q2
              · exact q2
          · rename_i hlt
            split at hm
            · rename_i hgs
              obtain ⟨k, hk, he⟩ := Option.map_eq_some_iff.1 hm
              cases he
              have hx : ids[n + k]? = some o := by rw [idge]; exact idx_get hk
              obtain ⟨obo, q1, q2⟩ := hget (n + k) o hx
              rw [← r.gens] at hgs
              rcases hold with hold | ⟨hold1, hold2⟩
              · omega
              · rcases q2 with ⟨ob1, ob2, q2, q3, q4⟩ | ⟨q2, _⟩
                · rw [← r.objs, hold2] at q2; cases q2
                · exact absurd q2 hlt
            · cases hm
      refine ⟨u, h', hrun, ⟨rfl, ⟨?_, ?_, ?_, ?_⟩, rfl, rfl, ev.os, ev.tape, ev.output, ev.size, fun b hb => ev.stab b hb, fun b hb => ev.own b (own' b hb), ev.X, ev.Y, ?_⟩, ren.three hu h1⟩
      · intro k ob' hk
        obtain ⟨o, ob, q1, q2, q3, _⟩ := get k ob' hk
        obtain ⟨e1, e2, e3, _⟩ := at' k o q1
        exact (ren.ob (r.ok.ob o ob q2) q3 e1 e2 e3).1
      · intro k ob' hk b hb
        obtain ⟨o, ob, q1, q2, q3, _⟩ := get k ob' hk
        rw [(at' k o q1).2.2.2] at hb
        exact r.ok.lt o ob q2 b hb
      · intro k ob' hk
        obtain ⟨o, ob, q1, q2, q3, _⟩ := get k ob' hk
        rw [(at' k o q1).2.2.2]
        exact r.ok.nodup o ob q2
      · intro k k' ob1 ob2 hk hk' hne b hb
        obtain ⟨o, ob, q1, q2, q3, _⟩ := get k ob1 hk
        obtain ⟨o', ob', p1, p2, p3, _⟩ := get k' ob2 hk'
        rw [(at' k o q1).2.2.2] at hb
        rw [(at' k' o' p1).2.2.2]
        refine r.ok.disj o o' ob ob' q2 p2 ?_ b hb
        rintro rfl
        exact hne ((List.getElem?_inj (List.getElem?_eq_some_iff.1 q1).1 nd).1 (q1.trans p1.symm))
      · intro o ho ob' hob hgn
        obtain ⟨o2, ob, q1, q2, q3, q4⟩ := get o ob' hob
        rw [idlt o ho] at q1; cases q1
        rw [if_pos ho] at q4
        obtain ⟨ob0, p1, p2, p3, p4⟩ := ev.live o ob q2 (by rw [r.gens, ← q4, hgn, hg0])
        obtain ⟨e1, e2, e3, _⟩ := at' o o (idlt o ho)
        exact ⟨ob0, p1, e1.trans p2, e2.trans p3, p4.trans (renOb_shape q3)⟩
    · cases hfin
  · cases hfin

theorem init_rel {args : List AV} {T : List Ob} {vs : List Value} {n : Nat} (ok : HeapOK h) (ho : h.objs = fun o => T[o]?) (hg : h.gens = fun _ => 0) (he : h.ep = 0) (hv : VRs h args vs) (hl : args.length ≤ n) :
    Rel (initSt args T) { tmps := vs.toArray ++ Array.replicate (n - vs.toArray.size) undef, defers := [] } h ∧
      (vs.toArray ++ Array.replicate (n - vs.toArray.size) undef).size = n := by
  have hlen := hv.len
  refine ⟨⟨ho, hg, he, ok, ?_, rfl⟩, by simp; omega⟩
  intro i
  simp only [initSt]
  by_cases hi : i < args.length
  · obtain ⟨v, hv1, hv2⟩ := hv.get i (List.getElem?_eq_getElem hi)
    rw [List.getElem?_eq_getElem hi]
    have : (vs.toArray ++ Array.replicate (n - vs.toArray.size) undef).getD i undef = v := by
      have hi' : i < vs.length := by omega
      simp [Array.getD_eq_getD_getElem?, Array.getElem?_append, hi', List.getElem?_eq_getElem hi'] at hv1 ⊢
      exact hv1
    rw [this]
    exact hv2
  · rw [List.getElem?_eq_none (by omega)]
    have : (vs.toArray ++ Array.replicate (n - vs.toArray.size) undef).getD i undef = undef := by
      have hi' : ¬ i < vs.length := by omega
      simp only [Array.getD_eq_getD_getElem?, Array.getElem?_append, List.size_toArray, hi', if_false, Array.getElem?_replicate]
      split <;> rfl
    rw [this]
    exact .undef h

theorem told_of_run {H : Handler} (hH : ∀ f args T out, H f args T = some out → Told cf.P f args T out) (hm : cf.P.follows .mixedOrders = true) {f k : Nat} {F : Func} {c : Code} {args : List AV} {T : List Ob} {out : Out} {ex : Ex}
    (hF : cf.P.funcs[f]? = some F) (hb : F.body = some c) (hok : funcOK F = true) (hl : args.length ≤ F.ntmps) (hrun : runC cf H f k c (initSt args T) = some (ex, σ)) (hex : ex = .normal ∨ ex = .ret)
    (hfin : finish cf T.length F.results σ = some out) : Told cf.P f args T out := by
  intro h vs ok ho hg he hv
  obtain ⟨r, hsz⟩ := init_rel (n := F.ntmps) ok ho hg he hv hl
  have hcode : codeOK F.ntmps c = true := by
    simp only [funcOK, hb, Bool.and_eq_true, Option.any_some] at hok
    exact hok.2
  refine calls_of_wp hF hb ?_
  refine (runC_ok hH hm k c (initSt args T) σ ex _ h _ hrun r (by rw [hsz]; exact hcode) ?_).1
  intro a' h' _ r' ev
  obtain ⟨u, h'', k1, k2, k3⟩ := finish_ok hfin r' ev hg
  rcases hex with rfl | rfl
  · exact ⟨r'.defers, u, k1, h'', k2, k3⟩
  · exact ⟨r'.defers, u, k1, h'', k2, k3⟩

/-- every answer of the evaluator holds -/
theorem runF_told {E : FuncId → Option (List AV → List Ob → Option Out)} (hE : ∀ f g, E f = some g → ∀ args T out, g args T = some out → Told cf.P f args T out) (hm : cf.P.follows .mixedOrders = true) :
    ∀ (k f : Nat) (args : List AV) (T : List Ob) (out : Out), runF cf E k f args T = some out → Told cf.P f args T out
  | 0, f, args, T, out, hr => by simp [runF] at hr
  | k + 1, f, args, T, out, hr => by
    simp only [runF] at hr
    split at hr
    · rename_i g hg
      exact hE f g hg _ _ _ hr
    · split at hr
      · rename_i F hF
        split at hr
        · rename_i c hc
          split at hr
          · rename_i hok
            obtain ⟨h1, h2, h3⟩ := hok
            split at hr
            · rename_i σ hrun; exact told_of_run (runF_told hE hm k) hm hF hc h1 h2 hrun (.inl rfl) hr
            · rename_i σ hrun; exact told_of_run (runF_told hE hm k) hm hF hc h1 h2 hrun (.inr rfl) hr
            · cases hr
          · cases hr
        · cases hr
      · cases hr

end
end Go.AM
