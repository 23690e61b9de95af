/- Operations that leave memory alone: lengths, parts of slices and strings, structs, conversions, maps that are read. -/
import Derived.Test.YtoffdmkgioaohaaAmG
namespace Go.AM

section
variable {P : Program} {o : Oper} {σ : St} {a : Act} {h : HS}

theorem exec_builtin {c : Call} {b : Builtin} (hop : o.op = .call c) (hc : c.callee = .builtin b) :
    execOp a.eval o = builtin b c.argTypes o.type (c.args.map fun | .const _ => true | _ => false) (c.args.map a.eval) := by
  simp only [execOp, hop, resolve, hc]
  rfl

theorem VR.sliceLen {x : AV} {v : Value} (k : VR h x v) :
    (∀ t e rows, x = .tr t e rows → ∃ ad c, v = .slice ad rows.length c) ∧ (∀ p g e off n, x = .sl p g e off n → ∃ ad c, v = .slice ad n c) := by
  constructor
  · rintro t e rows rfl
    cases k with
    | tr _ _ _ _ N h1 => obtain ⟨ad, c, rfl, _, _⟩ := h1.shape; exact ⟨ad, c, rfl⟩
    | trOld => exact ⟨_, _, rfl⟩
  · rintro p g e off n rfl
    cases k <;> exact ⟨_, _, rfl⟩

theorem run_len {w : World} {t ty : TypeId} {e : TypeId} (hu : P.underlying t = some (.slice e)) (ad : Option Addr) (n c : Nat) :
    (Builtin.len_ #[t] ty #[.slice ad n c]).run P w = .ok (goInt n) w := by
  simp [Builtin.len_, run_underlying hu]

theorem len_go {t : TypeId} {e s : TypeId} (h : (elemT P t) = some e) (w : World) (ts : Array TypeId) (ty : TypeId) (h0 : ts[0]? = some t) (ad : Option Addr) (n c : Nat) :
    (Builtin.len_ ts ty #[.slice ad n c]).run P w = .ok (.int .i64 n) w := by
  simp [Builtin.len_, h0, run_underlying (elemT_eq h), goInt]

/-- the builtins that only reckon -/
theorem ok_builtin {cf : Cfg} {c : Call} {b : Builtin} {δ : Delta} {d : Nat} {src : Option Operand} (r : Rel σ a h) (hd : ∀ t, o.dst = some t → t < a.tmps.size) (hop : o.op = .call c) (hc : c.callee = .builtin b)
    (hb : b ≠ .append) (hev : opBuiltin cf σ d b src c.argTypes (vals σ c.args) = some δ) : OpOK cf.P o σ δ a h := by
  have kv := r.vals c.args
  have hx := exec_builtin (a := a) hop hc
  obtain ⟨us, hus⟩ : ∃ us, (c.args.map a.eval).toList = us := ⟨_, rfl⟩
  have ha : c.args.map a.eval = us.toArray := by rw [← hus]
  rw [hus] at kv
  rw [ha] at hx
  generalize vals σ c.args = xs at hev kv
  have go : ∀ (s : Sem Value) (z : AV) (v : Value), (builtin b c.argTypes o.type (c.args.map fun | .const _ => true | _ => false) us.toArray) = (do pure (Next.value (← s))) →
      s.run cf.P h.w = .ok v h.w → VR h z v → δ = { val := z } → OpOK cf.P o σ δ a h := by
    rintro s z v e hr hz rfl
    exact OpOK.pure r hd (by rw [hx, e]; exact run_next hr) hz
  have elem0 : ((c.argTypes[0]?).bind (elemT cf.P)).isSome = true → ∃ t e, c.argTypes[0]? = some t ∧ elemT cf.P t = some e := by
    intro k
    obtain ⟨e, k⟩ := Option.isSome_iff_exists.1 k
    obtain ⟨t, k1, k2⟩ := Option.bind_eq_some_iff.1 k
    exact ⟨t, e, k1, k2⟩
  unfold opBuiltin at hev
  split at hev
  · rename_i s
    split at hev
    · rename_i ht
      cases hev
      cases kv with
      | cons _ v _ vs k1 k2 =>
        cases k2
        have k1 := k1.inv_c; subst k1
        refine go (Builtin.len_ c.argTypes o.type #[.string s]) _ _ rfl ?_ (.c _ (by simp)) rfl
        cases h0 : c.argTypes[0]? with
        | none => simp [h0] at ht
        | some t =>
          simp [h0] at ht
          simp [Builtin.len_, h0, run_underlying (stringT_eq ht), goInt]
    · cases hev
  · split at hev
    · rename_i ht
      obtain ⟨t, e, h0, h1⟩ := elem0 ht
      cases hev
      cases kv with
      | cons _ v _ vs k1 k2 =>
        cases k2
        have k1 := k1.inv_c; subst k1
        exact go (Builtin.len_ c.argTypes o.type #[.slice none 0 0]) _ _ rfl (len_go (s := 0) h1 _ _ _ h0 _ _ _) (.c _ (by simp)) rfl
    · cases hev
  · split at hev
    · rename_i ht
      obtain ⟨t, e, h0, h1⟩ := elem0 ht
      cases hev
      cases kv with
      | cons _ v _ vs k1 k2 =>
        cases k2
        obtain ⟨ad, n, rfl⟩ := k1.sliceLen.1 _ _ _ rfl
        exact go (Builtin.len_ c.argTypes o.type #[.slice ad _ n]) _ _ rfl (len_go (s := 0) h1 _ _ _ h0 _ _ _) (.c _ (by simp)) rfl
    · cases hev
  · split at hev
    · rename_i ht
      obtain ⟨t, e, h0, h1⟩ := elem0 ht
      cases hev
      cases kv with
      | cons _ v _ vs k1 k2 =>
        cases k2
        obtain ⟨ad, n, rfl⟩ := k1.sliceLen.2 _ _ _ _ _ rfl
        exact go (Builtin.len_ c.argTypes o.type #[.slice ad _ n]) _ _ rfl (len_go (s := 0) h1 _ _ _ h0 _ _ _) (.c _ (by simp)) rfl
    · cases hev
  · rename_i p g
    split at hev
    · rename_i es kt el ho hu
      split at hev
      · rename_i hg
        cases hev
        cases kv with
        | cons _ v _ vs k1 k2 =>
          cases k2
          rw [← r.objs] at ho; rw [← r.gens] at hg
          cases k1 with
          | mp _ _ b es' h1 h2 h3 =>
            rw [ho] at h1; cases h1
            obtain ⟨b', ents, clock, j1, j2, j3, j4, j5⟩ := r.ok.ob _ _ ho
            rw [h3] at j1; cases j1
            refine go (Builtin.len_ c.argTypes o.type #[.map (some b)]) _ _ rfl ?_ (.c _ (by simp)) rfl
            obtain ⟨t, k1, k2⟩ := Option.bind_eq_some_iff.1 hu
            simp [Builtin.len_, k1, run_underlying k2, getObj, Sem.run, j2, goInt]
            rw [← j4]; simp
          | mpOld _ _ m hold =>
            rcases hold with hold | ⟨_, hold⟩
            · omega
            · rw [ho] at hold; cases hold
      · cases hev
    · cases hev
  · cases hev
    cases kv with
    | cons _ v _ vs k1 k2 =>
      cases k2 with
      | cons _ v' _ vs k2 k3 =>
        cases k3
        have k1 := k1.inv_c; subst k1
        have k2 := k2.inv_c; subst k2
        exact go (Builtin.min_ c.argTypes o.type #[.int _ _, .int _ _]) _ _ rfl (run_min_int2 _ _ _ _ _ _ _) (.c _ (by simp)) rfl
  · cases hev
    cases kv with
    | cons _ v _ vs k1 k2 =>
      cases k2 with
      | cons _ v' _ vs k2 k3 =>
        cases k3
        have k1 := k1.inv_c; subst k1
        have k2 := k2.inv_c; subst k2
        exact go (Builtin.max_ c.argTypes o.type #[.int _ _, .int _ _]) _ _ rfl (run_max_int2 _ _ _ _ _ _ _) (.c _ (by simp)) rfl
  · exact absurd rfl hb
  · cases hev

/-! #### parts of slices and strings -/

theorem run_bound {w : World} {q : IntKind} {i : Int} {y : Nat} {code : BoundsCode} (h0 : 0 ≤ i) (h1 : i ≤ y) : (Instr.sliceBound (.int q i) y code).run P w = .ok i.toNat w := by
  simp [Instr.sliceBound, asIntOf, h0, h1]

/-- the bounds as the machine has them, those of the model -/
theorem run_bounds {w : World} {n m l k : Nat} {lo hi : Option Operand} (r : Rel σ a h) (hnm : n ≤ m) (hb : cutBounds n (lo.map σ.get) (hi.map σ.get) = some (l, k)) (isSlice : Bool) :
    (Instr.sliceBounds isSlice n m (lo.map a.eval) (hi.map a.eval) none).run P w = .ok (l, k, m) w ∧ l ≤ k ∧ k ≤ n := by
  unfold cutBounds at hb
  have lows : ∀ (z : Option Int), (match lo.map σ.get with | none => some (0 : Int) | some (.c (.int _ l)) => some l | _ => none) = z → ∀ l, z = some l →
      (lo = none ∧ l = 0) ∨ ∃ q, lo.map a.eval = some (.int q l) := by
    rintro z hz l rfl
    cases lo with
    | none => simp at hz; exact .inl ⟨rfl, hz.symm⟩
    | some x =>
      have kx := r.get x
      simp only [Option.map_some] at hz ⊢
      split at hz
      · rename_i e; cases e
      · rename_i q l' e; have e := Option.some.inj e; rw [e] at kx; cases hz; exact .inr ⟨q, by rw [kx.inv_c]⟩
      · cases hz
  have highs : ∀ (z : Option Int), (match hi.map σ.get with | none => some (n : Int) | some (.c (.int _ h)) => some h | _ => none) = z → ∀ l, z = some l →
      (hi = none ∧ l = n) ∨ ∃ q, hi.map a.eval = some (.int q l) := by
    rintro z hz l rfl
    cases hi with
    | none => simp at hz; exact .inl ⟨rfl, hz.symm⟩
    | some x =>
      have kx := r.get x
      simp only [Option.map_some] at hz ⊢
      split at hz
      · rename_i e; cases e
      · rename_i q l' e; have e := Option.some.inj e; rw [e] at kx; cases hz; exact .inr ⟨q, by rw [kx.inv_c]⟩
      · cases hz
  split at hb
  · rename_i l' k' e1 e2
    split at hb
    · rename_i hc
      cases hb
      have hk' : k'.toNat ≤ m := by omega
      refine ⟨?_, by omega, by omega⟩
      unfold Instr.sliceBounds
      rcases lows _ e1 _ rfl with ⟨rfl, rfl⟩ | ⟨q, hlo⟩
      · rcases highs _ e2 _ rfl with ⟨rfl, rfl⟩ | ⟨q', hhi⟩
        · simp
        · rw [hhi]
          simp [run_bound (P := P) (w := w) (q := q') (i := k') (y := m) hc.2.1 (by omega)]
      · rw [hlo]
        rcases highs _ e2 _ rfl with ⟨rfl, rfl⟩ | ⟨q', hhi⟩
        · simp [run_bound (P := P) (w := w) (q := q) (i := l') (y := n) hc.1 (by omega)]
        · rw [hhi]
          simp [run_bound (P := P) (w := w) (q := q') (i := k') (y := m) (by omega) (by omega),
            run_bound (P := P) (w := w) (q := q) (i := l') (y := k'.toNat) hc.1 (by omega)]
    · cases hb
  · cases hb

theorem flat_cut {e : Nat} {rows : List (List AV)} (hr : ∀ r ∈ rows, r.length = e) (l n : Nat) : ((rows.drop l).take n).flatten = (rows.flatten.drop (l * e)).take (n * e) := by
  induction rows generalizing l n with
  | nil => simp
  | cons x rows ih =>
    have hx := hr x (by simp)
    have ih := ih fun r h => hr r (by simp [h])
    cases l with
    | succ l =>
      have : (l + 1) * e = x.length + l * e := by rw [hx, Nat.add_mul, Nat.one_mul, Nat.add_comm]
      rw [List.drop_succ_cons, ih, List.flatten_cons, this, ← List.drop_drop, List.drop_left]
    | zero =>
      cases n with
      | zero => simp
      | succ n =>
        have : (n + 1) * e = x.length + n * e := by rw [hx, Nat.add_mul, Nat.one_mul, Nat.add_comm]
        have h0 := ih 0 n
        simp only [List.drop_zero, Nat.zero_mul] at h0 ⊢
        rw [List.take_succ_cons, List.flatten_cons, h0, List.flatten_cons, this, List.take_length_add_append]

theorem ok_slice {t : TypeId} {x : Operand} {lo hi : Option Operand} {y : AV} (r : Rel σ a h) (hd : ∀ t, o.dst = some t → t < a.tmps.size) (hop : o.op = .slice t x lo hi none)
    (hy : opSlice P t (σ.get x) (lo.map σ.get) (hi.map σ.get) = some y) : OpOK P o σ { val := y } a h := by
  have kx := r.get x
  have go : ∀ v, VR h y v → (Instr.sliceAt t (a.eval x) (lo.map a.eval) (hi.map a.eval) none).run P h.w = .ok v h.w → OpOK P o σ { val := y } a h := by
    intro v hv hr
    refine OpOK.pure r hd ?_ hv
    rw [show execOp a.eval o = (do pure (Next.value (← Instr.sliceAt t (a.eval x) (lo.map a.eval) (hi.map a.eval) none))) by simp only [execOp, hop, Option.map_none]]
    exact run_next hr
  have sl : ∀ {e : Nat} (he : (elemT P t).bind (sizeT P) = some e) (ad : Option Addr) (n c l k : Nat), n ≤ c → cutBounds n (lo.map σ.get) (hi.map σ.get) = some (l, k) → a.eval x = .slice ad n c →
      (Instr.sliceAt t (a.eval x) (lo.map a.eval) (hi.map a.eval) none).run P h.w = .ok (.slice (if c = l then ad else ad.map (·.add (l * e))) (k - l) (c - l)) h.w ∧ l ≤ k ∧ k ≤ n := by
    intro e he ad n c l k hnc hb hx
    obtain ⟨el, h1, h2⟩ := Option.bind_eq_some_iff.1 he
    obtain ⟨hr, h3, h4⟩ := run_bounds (P := P) (w := h.w) r hnc hb true
    refine ⟨?_, h3, h4⟩
    rw [hx]
    simp [Instr.sliceAt, run_underlying (elemT_eq h1), Instr.slice, hr, run_sizeT h2]
  unfold opSlice at hy
  split at hy
  · rename_i s e
    split at hy
    · rename_i ht
      obtain ⟨⟨l, k⟩, hb, rfl⟩ := Option.map_eq_some_iff.1 hy
      rw [e] at kx; have kx := kx.inv_c
      obtain ⟨hr, h3, h4⟩ := run_bounds (P := P) (w := h.w) r (Nat.le_refl _) hb false
      refine go _ (.c _ (by simp)) ?_
      rw [kx]
      simp [Instr.sliceAt, run_underlying (stringT_eq ht), Instr.slice, hr]
    · cases hy
  · rename_i e
    split at hy
    · rename_i he
      obtain ⟨⟨l, k⟩, hb, rfl⟩ := Option.map_eq_some_iff.1 hy
      rw [e] at kx; have kx := kx.inv_c
      obtain ⟨ee, he⟩ := Option.isSome_iff_exists.1 he
      obtain ⟨hr, h3, h4⟩ := sl he none 0 0 l k (Nat.le_refl _) hb kx
      have hl : l = 0 := by omega
      have hk : k = 0 := by omega
      subst hl hk
      exact go _ (.c _ (by simp)) (by simpa using hr)
    · cases hy
  · rename_i tg e rows ex
    split at hy
    · rename_i he
      obtain ⟨⟨l, k⟩, hb, rfl⟩ := Option.map_eq_some_iff.1 hy
      simp only at go
      rw [ex] at kx
      generalize hv : a.eval x = v at kx
      cases kx with
      | tr _ _ _ _ N k1 k2 k3 =>
        cases k1 with
        | nil _ _ ad =>
          obtain ⟨hr, h3, h4⟩ := sl he ad 0 0 l k (Nat.le_refl _) hb hv
          have hl : l = 0 := by omega
          have hk : k = 0 := by omega
          subst hl hk
          exact go _ (.tr _ _ _ _ _ (.nil _ _ ad) k2 k3) (by simpa using hr)
        | dumb _ _ k => simp [dumb] at k
        | tr _ _ _ b off cap vs N h1 h2' h3 h4 =>
          obtain ⟨hr, h5, h6⟩ := sl he _ _ _ l k h2' hb hv
          have hlen : ((rows.drop l).take (k - l)).length = k - l := by simp; omega
          by_cases hcl : cap = l
          · -- at the very end
            have h0 : k - l = 0 := by omega
            rw [if_pos hcl, h0] at hr
            refine go _ ?_ hr
            rw [h0, List.take_zero]
            exact .tr _ _ _ _ (b :: []) (.tr tg e [] b off _ [] [] (by simp) (by simp) (by simp) (by simpa using .nil _)) (fun b' hb' => k2 b' (by simp at hb'; simp [hb'])) k3
          · rw [if_neg hcl] at hr
            simp only [Option.map_some, add_plain] at hr
            refine go _ ?_ hr
            obtain ⟨M, hM, hsub⟩ := h4.part (l * e) ((k - l) * e)
            rw [← flat_cut h1] at hM
            have key : VR h (.tr tg e ((rows.drop l).take (k - l))) (.slice (some ⟨b, off + l * e, none⟩) ((rows.drop l).take (k - l)).length (cap - l)) :=
              .tr _ _ _ _ (b :: M) (.tr _ _ _ _ _ _ ((vs.drop (l * e)).take ((k - l) * e)) M (fun r' hr' => h1 r' (List.mem_of_mem_drop (List.mem_of_mem_take hr'))) (by rw [hlen]; omega)
                (fun i v hi => by
                  rw [Nat.add_assoc]
                  refine h3 _ v ?_
                  rw [List.getElem?_take] at hi
                  split at hi
                  · simpa using hi
                  · cases hi) hM) (fun b' hb' => k2 b' (by simp at hb' ⊢; exact hb'.imp id (hsub b'))) k3
            rw [hlen] at key
            exact key
      | trOld n _ _ ad cap hn hne hnc =>
        obtain ⟨hr, h5, h6⟩ := sl he _ _ _ l k hnc hb hv
        have hlen : ((rows.drop l).take (k - l)).length = k - l := by simp; omega
        refine go _ ?_ hr
        have key : ∀ A, (((rows.drop l).take (k - l)) = [] ∨ A ≠ none) → VR h (.tr (.ep n) e ((rows.drop l).take (k - l))) (.slice A (k - l) (cap - l)) := by
          intro A hA
          have := VR.trOld (h := h) n e ((rows.drop l).take (k - l)) A (cap - l) hn hA (by rw [hlen]; omega)
          rwa [hlen] at this
        refine key _ ?_
        by_cases h0 : k = l
        · exact .inl (List.eq_nil_of_length_eq_zero (by rw [hlen]; omega))
        · have : rows ≠ [] := by rintro rfl; simp at h6; omega
          have hne := hne.resolve_left this
          refine .inr ?_
          split
          · exact hne
          · cases ad with
            | none => exact absurd rfl hne
            | some ad => simp
    · cases hy
  · rename_i p g e off n ex
    split at hy
    · rename_i he
      obtain ⟨⟨l, k⟩, hb, rfl⟩ := Option.map_eq_some_iff.1 hy
      simp only at go
      rw [ex] at kx
      generalize hv : a.eval x = v at kx
      cases kx with
      | sl _ _ _ _ _ b cap rows h1 h2 h3 h4 h5 h6 =>
        obtain ⟨hr, h7, h8⟩ := sl he _ _ _ l k h5 hb hv
        refine go _ ?_ hr
        by_cases hcl : cap = l
        · have h0 : k - l = 0 := by omega
          rw [if_pos hcl, h0, hcl, Nat.sub_self]
          exact .slEnd _ _ _ _ _ _ h1 h2 (by omega)
        · rw [if_neg hcl]
          simp only [Option.map_some, add_plain, ← Nat.add_mul]
          refine .sl _ _ _ _ _ _ _ _ h1 h2 h3 (by omega) (by omega) ?_
          rw [show off + l + (cap - l) = off + cap by omega]
          exact h6
      | slEnd _ _ _ _ ad rows h1 h2 h3 =>
        obtain ⟨hr, h7, h8⟩ := sl he _ _ _ l k (Nat.le_refl _) hb hv
        have hl : l = 0 := by omega
        have hk : k = 0 := by omega
        subst hl hk
        exact go _ (.slEnd _ _ _ _ ad _ h1 h2 (by omega)) (by simpa using hr)
      | slOld _ _ _ _ _ ad cap hold hne hnc =>
        obtain ⟨hr, h7, h8⟩ := sl he _ _ _ l k hnc hb hv
        refine go _ (.slOld _ _ _ _ _ _ _ hold ?_ (by omega)) hr
        by_cases h0 : k = l
        · exact .inl (by omega)
        · have hne := hne.resolve_left (by omega)
          refine .inr ?_
          split
          · exact hne
          · cases ad with
            | none => exact absurd rfl hne
            | some ad => simp
    · cases hy
  · cases hy

end
end Go.AM
