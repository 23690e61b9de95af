/- Regions: in the order of the text, and in whatever order. -/
import Derived.Test.YtoffdmkgioaohaaAmY
import Derived.Orders
namespace Go.AM

/-- one operation of a region, wanted or not, and what it reads -/
def stepD (cf : Cfg) (H : Handler) (fn : FuncId) (ops : Array Oper) (o : Oper) (σ : St) : Option (Delta × List Key) :=
  match guardOf ops o σ with
  | some true => match evalOp cf H fn o σ with
    | some δ => some (δ, readKeys ops o σ)
    | none => none
  | some false => some ({ val := .c undef }, guardKeys ops o)
  | none => none

structure Ent where
  i : Nat
  rd : List Key
  wr : List Key

/-- operations, by their numbers, one behind the other -/
def runI (cf : Cfg) (H : Handler) (fn : FuncId) (ops : Array Oper) : List Nat → St → Option (St × List Ent)
  | [], σ => some (σ, [])
  | i :: is, σ =>
    match ops[i]? with
    | some o => match stepD cf H fn ops o σ with
      | some (δ, rd) => match runI cf H fn ops is (σ.apply o.dst δ) with
        | some (σ', tr) => some (σ', ⟨i, rd, writeKeys o δ⟩ :: tr)
        | none => none
      | none => none
    | none => none

section
variable {P : Program} {ops : Array Oper} {σ τ : St} {a : Act} {h : HS} {cf : Cfg} {H : Handler} {fn : FuncId}

theorem put_apply (σ : St) (d : Option Tmp) : σ.apply d { val := .c undef } = σ.put d (.c undef) := rfl

theorem evalOps_runI : ∀ {l : List Oper} {is : List Nat} {σ σ' : St}, is.map (ops[·]?) = l.map some → evalOps cf H fn ops l σ = some σ' → ∃ tr, runI cf H fn ops is σ = some (σ', tr)
  | [], is, σ, σ', hm, he => by
    have : is = [] := by simpa using hm
    subst this
    simp only [evalOps] at he; cases he
    exact ⟨[], rfl⟩
  | o :: l, is, σ, σ', hm, he => by
    cases is with
    | nil => simp at hm
    | cons i is =>
      simp only [List.map_cons, List.cons.injEq] at hm
      simp only [evalOps] at he
      simp only [runI, hm.1, stepD]
      split at he
      · rename_i hg
        split at he
        · rename_i δ hev
          obtain ⟨tr, ht⟩ := evalOps_runI hm.2 he
          exact ⟨_, by simp [hg, hev, ht]; rfl⟩
        · cases he
      · rename_i hg
        obtain ⟨tr, ht⟩ := evalOps_runI hm.2 he
        exact ⟨_, by simp [hg, put_apply, ht]; rfl⟩
      · cases he

theorem traceOps_runI : ∀ {l : List Oper} {is : List Nat} {σ σ' : St} {t : List (List Key × List Key)}, is.map (ops[·]?) = l.map some → traceOps cf H fn ops l σ = some (σ', t) →
    ∃ tr, runI cf H fn ops is σ = some (σ', tr) ∧ tr.map (fun e => (e.rd, e.wr)) = t ∧ tr.map (·.i) = is
  | [], is, σ, σ', t, hm, he => by
    have : is = [] := by simpa using hm
    subst this
    simp only [traceOps] at he; cases he
    exact ⟨[], rfl, rfl, rfl⟩
  | o :: l, is, σ, σ', t, hm, he => by
    cases is with
    | nil => simp at hm
    | cons i is =>
      simp only [List.map_cons, List.cons.injEq] at hm
      simp only [traceOps] at he
      simp only [runI, hm.1, stepD]
      split at he
      · rename_i hg
        split at he
        · rename_i δ hev
          split at he
          · rename_i σ2 tr2 ht
            cases he
            obtain ⟨tr, k1, k2, k3⟩ := traceOps_runI hm.2 ht
            exact ⟨_, by simp [hg, hev, k1]; rfl, by simp [k2], by simp [k3]⟩
          · cases he
        · cases he
      · rename_i hg
        split at he
        · rename_i σ2 tr2 ht
          cases he
          obtain ⟨tr, k1, k2, k3⟩ := traceOps_runI hm.2 ht
          refine ⟨_, by simp [hg, put_apply, k1]; rfl, ?_, by simp [k3]⟩
          simp only [List.map_cons, k2, writeKeys]
          cases o.dst <;> simp
        · cases he
      · cases he

theorem range_ops : (List.range ops.size).map (ops[·]?) = ops.toList.map some := by
  apply List.ext_getElem?
  intro i
  by_cases hi : i < ops.size
  · simp [hi]
  · simp [hi]

/-! #### steps -/

theorem guard_wanted {o : Oper} (r : Rel σ a h) {b : Bool} (hg : guardOf ops o σ = some b) : Region.wanted o (yielded ops a.tmps) = b := by
  unfold guardOf at hg
  unfold Region.wanted
  cases hq : o.guard with
  | none => simp only [hq] at hg; cases hg; rfl
  | some jw =>
    obtain ⟨j, want⟩ := jw
    simp only [hq] at hg ⊢
    unfold yielded
    cases hd : (ops[j]?).bind (·.dst) with
    | none => simp only [hd] at hg; cases hg; rfl
    | some d =>
      simp only [hd] at hg
      have rs := r.slots d
      split at hg
      · rename_i b' hb
        cases hg
        rw [hb] at rs
        have rs := rs.inv_c
        have : a.tmps[d]? = some (.bool b') := by
          cases hk : a.tmps[d]? with
          | none => simp [Array.getD_eq_getD_getElem?, hk, undef] at rs
          | some v => simp [Array.getD_eq_getD_getElem?, hk] at rs; rw [rs]
        simp [this]
      · rename_i v hv hb
        cases hg
        rw [hb] at rs
        have rs := rs.inv_c
        simp only [Option.bind_some]
        have : ∀ b, a.tmps[d]? ≠ some (.bool b) := by
          intro b hk
          simp [Array.getD_eq_getD_getElem?, hk] at rs
          exact hv b rs.symm
        split
        · rename_i b hk; exact absurd hk (this b)
        · rfl
      · cases hg

theorem step_ok (hH : ∀ f args T out, H f args T = some out → Told cf.P f args T out) {Q : Exit → Act → World → Prop} {i : Nat} {o : Oper} (ho : ops[i]? = some o) (r : Rel σ a h)
    (hd : ∀ t, o.dst = some t → t < a.tmps.size) {δ : Delta} {rd : List Key} (hs : stepD cf H fn ops o σ = some (δ, rd)) {K : Act → World → Prop}
    (hK : ∀ a' h', a'.tmps.size = a.tmps.size → Rel (σ.apply o.dst δ) a' h' → Ev h h' → K a' h'.w) : wpOp cf.P ops Q i K a h.w := by
  unfold wpOp
  simp only [ho]
  unfold stepD at hs
  split at hs
  · rename_i hg
    split at hs
    · rename_i δ' hev
      cases hs
      rw [guard_wanted r hg]
      simp only [if_true]
      obtain ⟨next, h1, h2⟩ := evalOp_ok r hd (ok_call hH r hd) hev
      exact .inl (Oper.wp_mono (fun a' w' hn => by obtain ⟨e, h', rfl, r', ev⟩ := h2 a' w' hn; exact hK a' h' e r' ev) (h1 Q))
    · cases hs
  · rename_i hg
    cases hs
    rw [guard_wanted r hg]
    simp only [Bool.false_eq_true, if_false]
    refine hK (a.put o.dst undef) h (put_size _ _ _) ⟨?_, ?_, ?_, r.ok, ?_, by rw [put_defers]; exact r.defers⟩ (Ev.refl h)
    · rw [r.objs]; cases o.dst <;> rfl
    · rw [r.gens]; cases o.dst <;> rfl
    · rw [r.ep]; cases o.dst <;> rfl
    · rw [put_apply]; exact put_slots r.slots hd (.undef h)
  · cases hs

theorem runI_ok (hH : ∀ f args T out, H f args T = some out → Told cf.P f args T out) {Q : Exit → Act → World → Prop} : ∀ {is : List Nat} {σ σ' : St} {a : Act} {h : HS} {tr : List Ent},
    runI cf H fn ops is σ = some (σ', tr) → Rel σ a h → (∀ (i : Nat) o, ops[i]? = some o → ∀ t, o.dst = some t → t < a.tmps.size) →
    (∀ a' h', a'.tmps.size = a.tmps.size → Rel σ' a' h' → Ev h h' → Q .normal a' h'.w) → wpOps cf.P ops Q is a h.w
  | [], σ, σ', a, h, tr, he, r, _, hQ => by
    simp only [runI] at he; cases he
    exact hQ a h rfl r (Ev.refl h)
  | i :: is, σ, σ', a, h, tr, he, r, hd, hQ => by
    simp only [runI] at he
    split at he
    · rename_i o ho
      split at he
      · rename_i δ rd hs
        split at he
        · rename_i σ2 tr2 ht
          cases he
          rw [wpOps_cons]
          refine step_ok hH ho r (hd i o ho) hs ?_
          intro a' h' hsz r' ev
          refine runI_ok hH ht r' (fun j o hj t e => by rw [hsz]; exact hd j o hj t e) ?_
          intro a2 h2 hsz2 r2 ev2
          exact hQ a2 h2 (hsz2.trans hsz) r2 (ev.trans ev2)
        · cases he
      · cases he
    · cases he

/-! #### whatever order -/

theorem stepD_local {o : Oper} {δ : Delta} {rd : List Key} (hs : stepD cf H fn ops o σ = some (δ, rd)) (ha : Agree rd σ τ) : stepD cf H fn ops o τ = some (δ, rd) := by
  unfold stepD at hs ⊢
  split at hs
  · rename_i hg
    split at hs
    · rename_i δ' hev
      cases hs
      have hgk : Agree (guardKeys ops o) σ τ := ha.sub fun k hk => by simp only [readKeys, List.mem_append]; exact .inl (.inl (.inl (.inl hk)))
      rw [guard_local hgk, hg]
      simp only [evalOp_local ha, hev, readKeys_local ha]
    · cases hs
  · rename_i hg
    cases hs
    rw [guard_local ha, hg]
  · cases hs

theorem setObj_in {x : Nat} : ∀ (l : List (Nat × Option Ob × Nat)) (s t : St), x ∈ l.map (·.1) → (l.foldl St.setObj s).objs x = (l.foldl St.setObj t).objs x ∧ (l.foldl St.setObj s).gens x = (l.foldl St.setObj t).gens x
  | [], _, _, hx => by simp at hx
  | y :: l, s, t, hx => by
    simp only [List.foldl_cons]
    by_cases hm : x ∈ l.map (·.1)
    · exact setObj_in l _ _ hm
    · simp only [List.map_cons, List.mem_cons] at hx
      have hx : x = y.1 := hx.resolve_right hm
      obtain ⟨a1, a2⟩ := setObj_out l (s.setObj y) hm
      obtain ⟨b1, b2⟩ := setObj_out l (t.setObj y) hm
      rw [a1, a2, b1, b2]
      simp [St.setObj, hx]
  where
  setObj_out {x : Nat} : ∀ (l : List (Nat × Option Ob × Nat)) (s : St), x ∉ l.map (·.1) → (l.foldl St.setObj s).objs x = s.objs x ∧ (l.foldl St.setObj s).gens x = s.gens x
    | [], _, _ => ⟨rfl, rfl⟩
    | y :: l, s, hx => by
      simp only [List.map_cons, List.mem_cons, not_or] at hx
      simp only [List.foldl_cons]
      obtain ⟨a1, a2⟩ := setObj_out l (s.setObj y) hx.2
      rw [a1, a2]
      simp [St.setObj, hx.1]

theorem setObj_out {x : Nat} : ∀ (l : List (Nat × Option Ob × Nat)) (s : St), x ∉ l.map (·.1) → (l.foldl St.setObj s).objs x = s.objs x ∧ (l.foldl St.setObj s).gens x = s.gens x
  | [], _, _ => ⟨rfl, rfl⟩
  | y :: l, s, hx => by
    simp only [List.map_cons, List.mem_cons, not_or] at hx
    simp only [List.foldl_cons]
    obtain ⟨a1, a2⟩ := setObj_out l (s.setObj y) hx.2
    rw [a1, a2]
    simp [St.setObj, hx.1]

theorem mem_wr_o {o : Oper} {δ : Delta} {x : Nat} : Key.o x ∈ writeKeys o δ ↔ x ∈ δ.objs.map (·.1) := by
  unfold writeKeys
  simp only [List.mem_append, List.mem_map]
  constructor
  · rintro ((hx | hx) | hx)
    · split at hx <;> simp at hx
    · obtain ⟨y, hy, e⟩ := hx; cases e; exact ⟨y, hy, rfl⟩
    · split at hx <;> simp at hx
  · rintro ⟨y, hy, rfl⟩; exact .inl (.inr ⟨y, hy, rfl⟩)
theorem mem_wr_s {o : Oper} {δ : Delta} {x : Nat} : Key.s x ∈ writeKeys o δ ↔ o.dst = some x := by
  unfold writeKeys
  simp only [List.mem_append, List.mem_map]
  constructor
  · rintro ((hx | hx) | hx)
    · split at hx
      · rename_i d hd; simp at hx; rw [hd, hx]
      · simp at hx
    · obtain ⟨y, hy, e⟩ := hx; cases e
    · split at hx <;> simp at hx
  · intro hx; exact .inl (.inl (by rw [hx]; simp))
theorem mem_wr_e {o : Oper} {δ : Delta} : Key.e ∈ writeKeys o δ ↔ δ.ep = true := by
  unfold writeKeys
  simp only [List.mem_append, List.mem_map]
  constructor
  · rintro ((hx | hx) | hx)
    · split at hx <;> simp at hx
    · obtain ⟨y, hy, e⟩ := hx; cases e
    · split at hx
      · assumption
      · simp at hx
  · intro hx; exact .inr (by simp [hx])

/-- behind an operation all is as it was but what it writes -/
theorem apply_agree {o : Oper} {δ : Delta} {K : List Key} (hk : ∀ k ∈ writeKeys o δ, k ∉ K) : Agree K σ (σ.apply o.dst δ) := by
  refine ⟨fun i hi => ?_, fun i hi => ?_, fun i hi => ?_, fun hi => ?_⟩
  · rw [apply_slots]
    cases hd : o.dst with
    | none => rfl
    | some d =>
      have : i ≠ d := by rintro rfl; exact hk _ (mem_wr_s.2 hd) hi
      simp [St.put, this]
  · rw [apply_objs]; exact (setObj_out _ _ fun hx => hk _ (mem_wr_o.2 hx) hi).1
  · rw [apply_gens]; exact (setObj_out _ _ fun hx => hk _ (mem_wr_o.2 hx) hi).2
  · rw [apply_ep]
    cases he : δ.ep with
    | false => rfl
    | true => exact absurd hi (hk _ (mem_wr_e.2 he))
theorem Agree.symm {K : List Key} (h : Agree K σ τ) : Agree K τ σ := ⟨fun i hi => (h.s i hi).symm, fun i hi => (h.o i hi).symm, fun i hi => (h.g i hi).symm, fun hi => (h.e hi).symm⟩

theorem St.ext' {s t : St} (h1 : s.slots = t.slots) (h2 : s.objs = t.objs) (h3 : s.gens = t.gens) (h4 : s.ep = t.ep) : s = t := by
  cases s; cases t; simp_all

theorem apply_comm {x y : Oper} {δx δy : Delta} (hk : ∀ k ∈ writeKeys y δy, k ∉ writeKeys x δx) : (σ.apply y.dst δy).apply x.dst δx = (σ.apply x.dst δx).apply y.dst δy := by
  have ho : ∀ i, i ∈ δy.objs.map (·.1) → i ∉ δx.objs.map (·.1) := fun i h1 h2 => hk _ (mem_wr_o.2 h1) (mem_wr_o.2 h2)
  have both : ∀ (i : Nat) (s t : St), (s.objs i = t.objs i ∧ s.gens i = t.gens i) → (i ∉ δx.objs.map (·.1)) → (i ∉ δy.objs.map (·.1)) → s.objs i = t.objs i ∧ s.gens i = t.gens i := fun _ _ _ h _ _ => h
  have obj : ∀ i, ((σ.apply y.dst δy).apply x.dst δx).objs i = ((σ.apply x.dst δx).apply y.dst δy).objs i ∧ ((σ.apply y.dst δy).apply x.dst δx).gens i = ((σ.apply x.dst δx).apply y.dst δy).gens i := by
    intro i
    rw [apply_objs, apply_objs, apply_gens, apply_gens]
    by_cases hx : i ∈ δx.objs.map (·.1)
    · have hy : i ∉ δy.objs.map (·.1) := fun h => ho i h hx
      obtain ⟨a1, a2⟩ := setObj_out δy.objs (σ.apply x.dst δx) hy
      rw [a1, a2, apply_objs, apply_gens]
      exact setObj_in _ _ _ hx
    · obtain ⟨a1, a2⟩ := setObj_out δx.objs (σ.apply y.dst δy) hx
      rw [a1, a2, apply_objs, apply_gens]
      by_cases hy : i ∈ δy.objs.map (·.1)
      · exact setObj_in _ _ _ hy
      · obtain ⟨b1, b2⟩ := setObj_out δy.objs σ hy
        obtain ⟨c1, c2⟩ := setObj_out δy.objs (σ.apply x.dst δx) hy
        obtain ⟨d1, d2⟩ := setObj_out δx.objs σ hx
        rw [b1, b2, c1, c2, apply_objs, apply_gens, d1, d2]
        exact ⟨rfl, rfl⟩
  refine St.ext' ?_ (funext fun i => (obj i).1) (funext fun i => (obj i).2) ?_
  · rw [apply_slots, apply_slots]
    funext i
    cases hx : x.dst with
    | none =>
      cases hy : y.dst with
      | none => simp only [St.put, apply_slots]
      | some e => simp only [St.put, apply_slots]
    | some d =>
      cases hy : y.dst with
      | none => simp only [St.put, apply_slots]
      | some e =>
        have hne : d ≠ e := by rintro rfl; exact hk _ (mem_wr_s.2 hy) (mem_wr_s.2 hx)
        simp only [St.put, apply_slots]
        by_cases h1 : i = d
        · subst h1; simp [hne]
        · by_cases h2 : i = e
          · subst h2; simp [h1]
          · simp [h1, h2]
  · simp only [apply_ep]
    cases δx.ep <;> cases δy.ep <;> simp

theorem apart_eq {a b : List Key × List Key} (h : apart a b = true) : (∀ k ∈ a.2, k ∉ b.1) ∧ (∀ k ∈ a.2, k ∉ b.2) ∧ ∀ k ∈ b.2, k ∉ a.1 := by
  simp only [apart, Bool.and_eq_true, List.all_eq_true] at h
  refine ⟨fun k hk hb => ?_, fun k hk hb => ?_, fun k hk hb => ?_⟩
  · have := (h.1 k hk).1; simp [hb] at this
  · have := (h.1 k hk).2; simp [hb] at this
  · have := h.2 k hk; simp [hb] at this

/-- what is apart from all ahead of it may come first -/
theorem front : ∀ {A : List Nat} {x : Nat} {B : List Nat} {σ σ' : St} {tr : List Ent}, runI cf H fn ops (A ++ x :: B) σ = some (σ', tr) →
    (∀ (k : Nat) (e f : Ent), k < A.length → tr[k]? = some e → tr[A.length]? = some f → apart (e.rd, e.wr) (f.rd, f.wr) = true) →
    ∃ o δ rd, ops[x]? = some o ∧ stepD cf H fn ops o σ = some (δ, rd) ∧ runI cf H fn ops (A ++ B) (σ.apply o.dst δ) = some (σ', tr.eraseIdx A.length) ∧ tr[A.length]? = some ⟨x, rd, writeKeys o δ⟩
  | [], x, B, σ, σ', tr, he, _ => by
    simp only [List.nil_append, runI] at he
    split at he
    · rename_i o ho
      split at he
      · rename_i δ rd hs
        split at he
        · rename_i σ2 tr2 ht
          cases he
          exact ⟨o, δ, rd, ho, hs, by simpa using ht, by simp⟩
        · cases he
      · cases he
    · cases he
  | y :: A, x, B, σ, σ', tr, he, hap => by
    simp only [List.cons_append, runI] at he
    split at he
    · rename_i oy hoy
      split at he
      · rename_i δy ry hsy
        split at he
        · rename_i σ2 tr2 ht
          cases he
          obtain ⟨ox, δx, rx, hox, hsx, hrun, htx⟩ := front ht (fun k e f hk he hf => hap (k + 1) e f (by simp; omega) (by simpa using he) (by simpa using hf))
          obtain ⟨k1, k2, k3⟩ := apart_eq (hap 0 _ _ (by simp) (by simp; rfl) (by simpa using htx))
          have sx := stepD_local hsx (apply_agree (σ := σ) (o := oy) (δ := δy) k1).symm
          have sy := stepD_local hsy (apply_agree (σ := σ) (o := ox) (δ := δx) k3)
          refine ⟨ox, δx, rx, hox, sx, ?_, by simpa using htx⟩
          simp only [List.cons_append, runI, hoy, sy]
          rw [← apply_comm k2, hrun]
          simp
        · cases he
      · cases he
    · cases he

/-! #### before -/

def addBefore (acc : Array Nat) (o : Oper) : Array Nat :=
  acc.push (o.after.foldl (fun s e => if Region.binds .any e then s ||| 2 ^ e.on ||| acc.getD e.on 0 else s) 0)

theorem before_stays : ∀ (l : List Oper) (acc : Array Nat) (j : Nat), j < acc.size → (l.foldl addBefore acc).getD j 0 = acc.getD j 0
  | [], _, _, _ => rfl
  | o :: l, acc, j, hj => by
    simp only [List.foldl_cons]
    rw [before_stays l (addBefore acc o) j (by simp [addBefore]; omega)]
    simp [addBefore, Array.getD_eq_getD_getElem?, Array.getElem?_push, Nat.ne_of_lt hj]

theorem after_bits {acc : Array Nat} {i : Nat} : ∀ (l : List Edge) (s : Nat), (l.foldl (fun s e => if Region.binds .any e then s ||| 2 ^ e.on ||| acc.getD e.on 0 else s) s).testBit i = true →
    s.testBit i = true ∨ ∃ e ∈ l, Region.binds .any e = true ∧ (e.on = i ∨ (acc.getD e.on 0).testBit i = true)
  | [], s, hb => .inl hb
  | e :: l, s, hb => by
    simp only [List.foldl_cons] at hb
    rcases after_bits l _ hb with k | ⟨e', h1, h2, h3⟩
    · split at k
      · rename_i hbi
        simp only [Nat.testBit_or, Bool.or_eq_true] at k
        rcases k with (k | k) | k
        · exact .inl k
        · rw [Nat.testBit_two_pow] at k
          exact .inr ⟨e, by simp, hbi, .inl (by simpa using k)⟩
        · exact .inr ⟨e, by simp, hbi, .inr k⟩
      · exact .inl k
    · exact .inr ⟨e', by simp [h1], h2, h3⟩

theorem before_bits {i : Nat} : ∀ (l : List Oper) (acc : Array Nat) (j : Nat), acc.size ≤ j → ((l.foldl addBefore acc).getD j 0).testBit i = true →
    ∃ o, l[j - acc.size]? = some o ∧ ∃ e ∈ o.after, Region.binds .any e = true ∧ (e.on = i ∨ ((l.foldl addBefore acc).getD e.on 0).testBit i = true)
  | [], acc, j, hj, hb => by simp [Array.getD_eq_getD_getElem?, Array.getElem?_eq_none hj] at hb
  | o :: l, acc, j, hj, hb => by
    simp only [List.foldl_cons] at hb ⊢
    by_cases e : j = acc.size
    · subst e
      rw [before_stays l _ _ (by simp [addBefore])] at hb
      have : (addBefore acc o).getD acc.size 0 = o.after.foldl (fun s e => if Region.binds .any e then s ||| 2 ^ e.on ||| acc.getD e.on 0 else s) 0 := by simp [addBefore]
      rw [this, ← Array.foldl_toList] at hb
      rcases after_bits _ _ hb with k | ⟨e, h1, h2, h3⟩
      · simp at k
      · refine ⟨o, by simp, e, by simpa using h1, h2, h3.imp id ?_⟩
        intro k
        by_cases hlt : e.on < acc.size
        · rw [before_stays l _ _ (by simp [addBefore]; omega)]
          simpa [addBefore, Array.getD_eq_getD_getElem?, Array.getElem?_push, Nat.ne_of_lt hlt] using k
        · simp [Array.getD_eq_getD_getElem?, Array.getElem?_eq_none (Nat.le_of_not_lt hlt)] at k
    · obtain ⟨o', h1, h2⟩ := before_bits l (addBefore acc o) j (by simp [addBefore]; omega) hb
      refine ⟨o', ?_, h2⟩
      have : j - acc.size = (j - (addBefore acc o).size) + 1 := by simp [addBefore]; omega
      rw [this]; simpa using h1

theorem before_spec {i j : Nat} (hb : ((Region.before ops).getD j 0).testBit i = true) :
    ∃ o, ops[j]? = some o ∧ ∃ e ∈ o.after, Region.binds .any e = true ∧ (e.on = i ∨ ((Region.before ops).getD e.on 0).testBit i = true) := by
  have e : Region.before ops = ops.toList.foldl addBefore #[] := by
    unfold Region.before
    rw [← Array.foldl_toList]
    rfl
  rw [e] at hb ⊢
  obtain ⟨o, h1, h2⟩ := before_bits ops.toList #[] j (by simp) hb
  exact ⟨o, by simpa using h1, h2⟩

/-! #### the draw -/

/-- of two entries the one stands ahead of the other for good, or they are apart -/
def Free (ops : Array Oper) (e f : Ent) : Prop := ((Region.before ops).getD f.i 0).testBit e.i = true ∨ apart (e.rd, e.wr) (f.rd, f.wr) = true

theorem runI_ids : ∀ {is : List Nat} {σ σ' : St} {tr : List Ent}, runI cf H fn ops is σ = some (σ', tr) → tr.map (·.i) = is
  | [], σ, σ', tr, he => by simp only [runI] at he; cases he; rfl
  | i :: is, σ, σ', tr, he => by
    simp only [runI] at he
    split at he
    · split at he
      · split at he
        · rename_i ht; cases he; simp [runI_ids ht]
        · cases he
      · cases he
    · cases he

theorem any_ok (hH : ∀ f args T out, H f args T = some out → Told cf.P f args T out) {Q : Exit → Act → World → Prop} (hon : ∀ (j : Nat) o, ops[j]? = some o → ∀ e ∈ o.after, e.on < j) :
    ∀ {n : Nat} {is : List Nat} {listed : Array Bool} {σ σ' : St} {a : Act} {h : HS} {tr : List Ent}, is.length = n → is.Nodup → listed.size = ops.size →
    (∀ i, i ∈ is ↔ i < ops.size ∧ listed.getD i true = false) →
    (∀ j i, listed.getD j false = true → ((Region.before ops).getD j 0).testBit i = true → listed.getD i false = true) →
    runI cf H fn ops is σ = some (σ', tr) → tr.Pairwise (Free ops) → Rel σ a h → (∀ (i : Nat) o, ops[i]? = some o → ∀ t, o.dst = some t → t < a.tmps.size) →
    (∀ a' h', a'.tmps.size = a.tmps.size → Rel σ' a' h' → Ev h h' → Q .normal a' h'.w) → wpAny cf.P .any ops Q n listed a h.w
  | 0, is, listed, σ, σ', a, h, tr, hn, _, _, hun, _, hrun, _, r, _, hQ => by
    have : is = [] := List.length_eq_zero_iff.1 hn
    subst this
    simp only [runI] at hrun; cases hrun
    refine ⟨?_, hQ a h rfl r (Ev.refl h)⟩
    rw [List.eq_nil_iff_forall_not_mem]
    intro i hi
    obtain ⟨h1, o, ho, _⟩ := mem_ready.1 hi
    have := (hun i).2 ⟨(Array.getElem?_eq_some_iff.1 ho).1, h1⟩
    simp at this
  | n + 1, is, listed, σ, σ', a, h, tr, hn, nd, hsz, hun, hdown, hrun, hfree, r, hd, hQ => by
    have flip : ∀ i, i < ops.size → listed.getD i true = listed.getD i false := by
      intro i hi
      simp [Array.getD_eq_getD_getElem?, Array.getElem?_eq_getElem (hsz ▸ hi : i < listed.size)]
    refine ⟨?_, ?_⟩
    · -- the least one that is left is ready
      intro hnil
      exfalso
      have hne : is ≠ [] := by rintro rfl; simp at hn
      obtain ⟨m, hm, hmin⟩ : ∃ m ∈ is, ∀ i ∈ is, m ≤ i := by
        clear hrun hun hn nd
        induction is with
        | nil => exact absurd rfl hne
        | cons x l ih =>
          by_cases hl : l = []
          · subst hl; exact ⟨x, by simp, by simp⟩
          · obtain ⟨m, h1, h2⟩ := ih hl
            by_cases hx : x ≤ m
            · exact ⟨x, by simp, fun i hi => by rcases List.mem_cons.1 hi with rfl | hi; exact Nat.le_refl _; exact Nat.le_trans hx (h2 i hi)⟩
            · exact ⟨m, by simp [h1], fun i hi => by rcases List.mem_cons.1 hi with rfl | hi; omega; exact h2 i hi⟩
      obtain ⟨k1, k2⟩ := (hun m).1 hm
      have : m ∈ Region.ready .any ops listed := by
        refine mem_ready.2 ⟨k2, ops[m], Array.getElem?_eq_getElem k1, ?_⟩
        intro e he _
        have hlt := hon m _ (Array.getElem?_eq_getElem k1) e he
        have hes : e.on < ops.size := by omega
        cases hq : listed.getD e.on false with
        | true => rfl
        | false =>
          have := (hun e.on).2 ⟨hes, by rw [flip _ hes]; exact hq⟩
          have := hmin _ this
          omega
      rw [hnil] at this; simp at this
    · intro x hx
      obtain ⟨hx1, o, ho, hx2⟩ := mem_ready.1 hx
      have hxs : x < ops.size := (Array.getElem?_eq_some_iff.1 ho).1
      have hxi : x ∈ is := (hun x).2 ⟨hxs, hx1⟩
      obtain ⟨A, B, rfl⟩ := List.append_of_mem hxi
      have ahead : ∀ i, ((Region.before ops).getD x 0).testBit i = true → listed.getD i false = true := by
        intro i hb
        obtain ⟨o', ho', e, he, hbi, hor⟩ := before_spec hb
        rw [ho] at ho'; cases ho'
        have := hx2 e he hbi
        rcases hor with rfl | hor
        · exact this
        · exact hdown _ _ this hor
      have hids := runI_ids hrun
      have hfr := hfree
      rw [List.pairwise_iff_getElem] at hfr
      obtain ⟨o', δ, rd, ho', hs, hrun', htx⟩ := front hrun (by
        intro k e f hk he hf
        obtain ⟨hk1, he1⟩ := List.getElem?_eq_some_iff.1 he
        obtain ⟨hk2, hf1⟩ := List.getElem?_eq_some_iff.1 hf
        have fr := hfr k A.length hk1 hk2 hk
        rw [he1, hf1] at fr
        rcases fr with fr | fr
        · have ei : e.i ∈ A := by
            have : (tr.map (·.i))[k]? = some e.i := by simp [he]
            rw [hids, List.getElem?_append_left hk] at this
            exact List.mem_of_getElem? this
          have fi : f.i = x := by
            have : (tr.map (·.i))[A.length]? = some f.i := by simp [hf]
            rw [hids] at this
            simpa using this.symm
          rw [fi] at fr
          have hl := ahead _ fr
          obtain ⟨q1, q2⟩ := (hun e.i).1 (by simp [ei])
          rw [flip _ q1, hl] at q2
          cases q2
        · exact fr)
      rw [ho] at ho'; cases ho'
      refine step_ok hH ho r (hd x o ho) hs ?_
      intro a' h' hsz' r' ev
      have nd' : x ∉ A ∧ x ∉ B ∧ (A ++ B).Nodup := by
        have hp : (A ++ x :: B).Perm (x :: (A ++ B)) := List.perm_middle
        have := hp.nodup_iff.1 nd
        simp only [List.nodup_cons, List.mem_append, not_or] at this
        exact ⟨this.1.1, this.1.2, this.2⟩
      refine any_ok hH hon (is := A ++ B) ?_ nd'.2.2 (by simpa using hsz) ?_ ?_ hrun' ?_ r' (fun j o hj t e => by rw [hsz']; exact hd j o hj t e) ?_
      · simp at hn ⊢; omega
      · intro i
        by_cases hix : i = x
        · subst hix
          simp only [List.mem_append, nd'.1, nd'.2.1, or_self, false_iff, not_and]
          intro _
          simp [Array.getD_eq_getD_getElem?, hsz ▸ hxs]
        · rw [getD_set_ne true (Ne.symm hix), ← hun i]
          simp [hix]
      · intro j i hj hb
        by_cases hjx : j = x
        · subst hjx; exact getD_set_true (ahead i hb)
        · rw [getD_set_ne false (Ne.symm hjx)] at hj
          exact getD_set_true (hdown j i hj hb)
      · exact hfree.sublist (List.eraseIdx_sublist _ _)
      · intro a2 h2 hsz2 r2 ev2
        exact hQ a2 h2 (hsz2.trans hsz') r2 (ev.trans ev2)

end
end Go.AM
