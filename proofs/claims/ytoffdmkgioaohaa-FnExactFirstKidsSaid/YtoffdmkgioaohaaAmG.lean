/- Operations that leave memory alone: the others. -/
import Derived.Test.YtoffdmkgioaohaaAmF
import Derived.Laws.Small
import Derived.Laws.BytesArg
import Derived.Laws.Cover3
namespace Go.AM

section
variable {P : Program} {o : Oper} {σ : St} {a : Act} {h : HS}

theorem ok_move {x : Operand} (r : Rel σ a h) (hd : ∀ t, o.dst = some t → t < a.tmps.size) (hop : o.op = .move x ∨ o.op = .assign x) : OpOK P o σ { val := σ.get x } a h :=
  OpOK.pure r hd (by rcases hop with hop | hop <;> simp [execOp, hop]) (r.get x)

theorem ok_pick {c x y : Operand} {t : Bool} (r : Rel σ a h) (hd : ∀ t, o.dst = some t → t < a.tmps.size) (hop : o.op = .pick c x y) (hc : σ.get c = .c (.bool t)) :
    OpOK P o σ { val := if t then σ.get x else σ.get y } a h := by
  have k := r.get c
  rw [hc] at k
  have k := k.inv_c
  refine OpOK.pure (v := if t then a.eval x else a.eval y) r hd ?_ ?_
  · simp [execOp, hop, k, asBool]
  · cases t
    · simpa using r.get y
    · simpa using r.get x

theorem ok_nilCheck {x : Operand} (r : Rel σ a h) (hd : ∀ t, o.dst = some t → t < a.tmps.size) (hop : o.op = .nilCheck x)
    (hx : (∃ p g i j, σ.get x = .ptr p g i j) ∨ (∃ t cs, σ.get x = .ip t cs) ∨ ∃ cs, σ.get x = .ib cs) : OpOK P o σ { val := σ.get x } a h := by
  have k := r.get x
  have hv : ∃ ad, a.eval x = .pointer (some ad) := by
    rcases hx with ⟨p, g, i, j, e⟩ | ⟨t, cs, e⟩ | ⟨cs, e⟩ <;> rw [e] at k <;> generalize a.eval x = v at k ⊢ <;> cases k <;> exact ⟨_, rfl⟩
  obtain ⟨ad, hv⟩ := hv
  refine OpOK.pure r hd ?_ (r.get x)
  simp [execOp, hop, hv]

theorem ok_un {op : UnOp} {t : TypeId} {x : Operand} {y : AV} (r : Rel σ a h) (hd : ∀ t, o.dst = some t → t < a.tmps.size) (hop : o.op = .unOp op t x) (hy : un op (σ.get x) = some y) :
    OpOK P o σ { val := y } a h := by
  have k := r.get x
  unfold un at hy
  split at hy
  · rename_i b e
    rw [e] at k; have k := k.inv_c
    cases hy
    refine OpOK.pure r hd ?_ (.c _ (by simp))
    rw [show execOp a.eval o = (do pure (Next.value (← Op.unary .not (a.eval x)))) by simp only [execOp, hop], k]
    exact run_next (by simp [Op.unary])
  · rename_i q n e
    rw [e] at k; have k := k.inv_c
    cases hy
    refine OpOK.pure r hd ?_ (.c _ (by simp))
    rw [show execOp a.eval o = (do pure (Next.value (← Op.unary .neg (a.eval x)))) by simp only [execOp, hop], k]
    exact run_next (by simp [Op.unary, Op.intArith])
  · cases hy

theorem run_equalIn_bool (w : World) (d : Nat) {t : TypeId} (hu : P.underlying t = some .bool) (x y : Bool) : (Op.equalIn (d + 1) t (.bool x) (.bool y)).run P w = .ok (x == y) w := by
  simp [Op.equalIn, run_underlying hu]
theorem run_equalIn_ptr (w : World) (d : Nat) {t e : TypeId} (hu : P.underlying t = some (.pointer e)) (x : Option Addr) : (Op.equalIn (d + 1) t (.pointer x) (.pointer none)).run P w = .ok x.isNone w := by
  cases x <;> simp [Op.equalIn, run_underlying hu]
theorem run_eql {w : World} {t : TypeId} {x y : Value} {b : Bool} (he : (Op.equalIn (9999 + 1) t x y).run P w = .ok b w) (h1 : ∀ op, binOp op t x y = match op with
    | .eql => (do pure (.bool (← Op.equal t x y))) | .neq => (do pure (.bool (!(← Op.equal t x y)))) | _ => binOp op t x y) :
    (binOp .eql t x y).run P w = .ok (.bool b) w ∧ (binOp .neq t x y).run P w = .ok (.bool (!b)) w := by
  have he' : (Op.equal t x y).run P w = .ok b w := he
  rw [h1 .eql, h1 .neq]
  exact ⟨by simp only [Sem.run_bind, he', Result.andThen, Sem.run_pure], by simp only [Sem.run_bind, he', Result.andThen, Sem.run_pure]⟩
theorem run_bools {w : World} {t : TypeId} (hu : P.underlying t = some .bool) (x y : Bool) :
    (binOp .eql t (.bool x) (.bool y)).run P w = .ok (.bool (x == y)) w ∧ (binOp .neq t (.bool x) (.bool y)).run P w = .ok (.bool (!(x == y))) w :=
  run_eql (run_equalIn_bool w 9999 hu x y) fun op => by cases op <;> rfl
theorem run_ptrs {w : World} {t e : TypeId} (hu : P.underlying t = some (.pointer e)) (x : Option Addr) :
    (binOp .eql t (.pointer x) (.pointer none)).run P w = .ok (.bool x.isNone) w ∧ (binOp .neq t (.pointer x) (.pointer none)).run P w = .ok (.bool (!x.isNone)) w :=
  run_eql (run_equalIn_ptr w 9999 hu x) fun op => by cases op <;> cases x <;> rfl
theorem run_slices {w : World} {t e : TypeId} (hu : P.underlying t = some (.slice e)) (x : Option Addr) (l c : Nat) :
    (binOp .eql t (.slice x l c) (.slice none 0 0)).run P w = .ok (.bool x.isNone) w ∧ (binOp .neq t (.slice x l c) (.slice none 0 0)).run P w = .ok (.bool (!x.isNone)) w :=
  run_eql (run_equalIn_slice_nil w 9999 t e x l c hu) fun op => by cases op <;> cases x <;> rfl

theorem exec_bin {op : BinOp} {t t' : TypeId} {x y : Operand} (hop : o.op = .binOp op t x y t') {w : World} {v : Value}
    (h1 : ¬ (a.eval x = .nilIface ∧ a.eval y = .nilIface)) (h2 : ∀ xs ys, ¬ (a.eval x = .agg xs ∧ a.eval y = .agg ys))
    (hr : (binOp op t (a.eval x) (a.eval y)).run P w = .ok v w) : (execOp a.eval o).run P w = .ok (.value v) w := by
  rw [show execOp a.eval o = (do pure (Next.value (← (do eqGuard op t x y (a.eval x) (a.eval y); binOp op t (a.eval x) (a.eval y))))) by simp only [execOp, hop]]
  refine run_next ?_
  simp only [Sem.run_bind, run_eqGuard h1 h2, Result.andThen, hr]

theorem binVal_ok {op : BinOp} {x y v : Value} (hv : binVal op x y = some v) :
    (¬ (x = .nilIface ∧ y = .nilIface)) ∧ (∀ xs ys, ¬ (x = .agg xs ∧ y = .agg ys)) ∧ ∀ cs, v ≠ .agg cs := by
  unfold binVal at hv
  split at hv
  · refine ⟨by simp, by simp, ?_⟩
    rintro cs rfl
    split at hv
    · split at hv <;> cases hv
    · split at hv <;> cases hv
    · split at hv
      · unfold binInt at hv
        split at hv <;> first | cases hv | (split at hv <;> cases hv)
      · cases hv
  · refine ⟨by simp, by simp, ?_⟩
    rintro cs rfl
    split at hv
    · split at hv <;> cases hv
    all_goals cases hv
  · cases hv

theorem ok_bin {op : BinOp} {t t' : TypeId} {x y : Operand} {z : AV} (r : Rel σ a h) (hd : ∀ t, o.dst = some t → t < a.tmps.size) (hop : o.op = .binOp op t x y t')
    (hz : bin P op t (σ.get x) (σ.get y) = some z) : OpOK P o σ { val := z } a h := by
  have kx := r.get x
  have ky := r.get y
  unfold bin at hz
  have bools : ∀ (p q : Value) (b : Bool), a.eval x = p → a.eval y = q → (¬ (p = .nilIface ∧ q = .nilIface)) → (∀ xs ys, ¬ (p = .agg xs ∧ q = .agg ys)) →
      (binOp op t p q).run P h.w = .ok (.bool b) h.w → z = .c (.bool b) → OpOK P o σ { val := z } a h := by
    rintro p q b rfl rfl h1 h2 hr rfl
    exact OpOK.pure r hd (exec_bin hop h1 h2 hr) (.c _ (by simp))
  split at hz
  · rename_i p q e1 e2
    rw [e1] at kx; rw [e2] at ky
    split at hz
    · rename_i hu; cases hz
      exact bools _ _ _ kx.inv_c ky.inv_c (by simp) (by simp) (run_bools hu _ _).1 rfl
    · rename_i hu; cases hz
      exact bools _ _ _ kx.inv_c ky.inv_c (by simp) (by simp) (run_bools hu _ _).2 rfl
    · cases hz
  · rename_i e1 e2
    rw [e1] at kx; rw [e2] at ky
    split at hz
    · rename_i hu; cases hz
      exact bools _ _ _ kx.inv_c ky.inv_c (by simp) (by simp) (run_ptrs hu _).1 rfl
    · rename_i hu; cases hz
      exact bools _ _ _ kx.inv_c ky.inv_c (by simp) (by simp) (run_ptrs hu _).2 rfl
    · cases hz
  · rename_i p q _ _ e1 e2
    rw [e1] at kx; rw [e2] at ky
    obtain ⟨v, hv, rfl⟩ := Option.map_eq_some_iff.1 hz
    obtain ⟨j1, j2, j3⟩ := binVal_ok hv
    have kx := kx.inv_c; have ky := ky.inv_c
    refine OpOK.pure r hd (exec_bin hop (by rw [kx, ky]; exact j1) (by rw [kx, ky]; exact j2) ?_) (.c _ j3)
    rw [kx, ky]; exact run_binVal hv
  all_goals first
    | (rename_i e1 e2
       rw [e1] at kx; rw [e2] at ky
       have ky := ky.inv_c
       have hp : ∃ ad, a.eval x = .pointer (some ad) := by
         generalize a.eval x = v at kx ⊢
         cases kx <;> exact ⟨_, rfl⟩
       obtain ⟨ad, hp⟩ := hp
       split at hz
       · rename_i hu; cases hz
         exact bools _ _ _ hp ky (by simp) (by simp) (run_ptrs hu _).1 rfl
       · rename_i hu; cases hz
         exact bools _ _ _ hp ky (by simp) (by simp) (run_ptrs hu _).2 rfl
       · cases hz)
    | (rename_i tg e rows e1 e2
       rw [e1] at kx; rw [e2] at ky
       have ky := ky.inv_c
       have hp : ∃ ad n c, a.eval x = .slice ad n c ∧ (rows = [] ∨ ad ≠ none) := by
         generalize a.eval x = v at kx ⊢
         cases kx with
         | tr _ _ _ _ N h1 => obtain ⟨ad, cap, rfl, j, _⟩ := h1.shape; exact ⟨_, _, _, rfl, j⟩
         | trOld _ _ _ ad cap _ j => exact ⟨_, _, _, rfl, j⟩
       obtain ⟨ad, n, c, hp, hn⟩ := hp
       split at hz
       · rename_i hu
         split at hz
         · cases hz
         · rename_i hr; cases hz
           cases ad with
           | none => simp at hn; subst hn; simp at hr
           | some ad =>
             exact bools _ _ _ hp ky (by simp) (by simp) (run_slices hu _ _ _).1 rfl
       · rename_i hu
         split at hz
         · cases hz
         · rename_i hr; cases hz
           cases ad with
           | none => simp at hn; subst hn; simp at hr
           | some ad =>
             exact bools _ _ _ hp ky (by simp) (by simp) (run_slices hu _ _ _).2 rfl
       · cases hz)
    | cases hz

theorem fieldT_eq {t : TypeId} {f off s : Nat} {ag : Bool} (hf : fieldT P t f = some (off, s, ag)) :
    ∃ fs x, P.underlying t = some (.struct fs) ∧ fs[f]? = some x ∧ x.offset = off ∧ sizeT P x.type = some s ∧ aggT P x.type = some ag ∧ s ≠ 0 := by
  unfold fieldT at hf
  split at hf
  · rename_i fs hu
    split at hf
    · rename_i x hx
      split at hf
      · rename_i s' ag' h1 h2
        split at hf
        · cases hf
        · rename_i h0; cases hf; exact ⟨fs, x, hu, hx, rfl, h1, h2, h0⟩
      · cases hf
    · cases hf
  · cases hf

theorem run_fieldAt {w : World} {t : TypeId} {f off s : Nat} {ag : Bool} (hf : fieldT P t f = some (off, s, ag)) (b k : Nat) :
    (Instr.fieldAt t (.pointer (some ⟨b, k, none⟩)) f).run P w = .ok (.pointer (some ⟨b, k + off, none⟩)) w := by
  obtain ⟨fs, x, hu, hx, h1, h2, h3, h4⟩ := fieldT_eq hf
  simp [Instr.fieldAt, run_underlying hu, hx, Instr.sureAddr, fieldPlace, run_sizeT h2, h4, add_plain, h1]

theorem exec_fieldAddr {t : TypeId} {f : Nat} {x : Operand} (hop : o.op = .fieldAddr t x f) : execOp a.eval o = (do pure (Next.value (← Instr.fieldAt t (a.eval x) f))) := by
  simp only [execOp, hop]

theorem ok_fieldAddr {t : TypeId} {f : Nat} {x : Operand} {off s : Nat} {ag : Bool} (r : Rel σ a h) (hd : ∀ t, o.dst = some t → t < a.tmps.size) (hop : o.op = .fieldAddr t x f)
    (hf : fieldT P t f = some (off, s, ag)) :
    (∀ p g i j, σ.get x = .ptr p g i j → OpOK P o σ { val := .ptr p g i (j + off) } a h) ∧
    (∀ tg cells, σ.get x = .ip tg cells → OpOK P o σ { val := .ip tg (cells.drop off) } a h) ∧
    (∀ cells, σ.get x = .ib cells → OpOK P o σ { val := .ib (cells.drop off) } a h) := by
  have kx := r.get x
  obtain ⟨fs, fx, hu, hx, f1, f2, f3, f4⟩ := fieldT_eq hf
  have go : ∀ (b k : Nat) (y : AV), a.eval x = .pointer (some ⟨b, k, none⟩) → VR h y (.pointer (some ⟨b, k + off, none⟩)) → OpOK P o σ { val := y } a h := by
    intro b k y e hy
    refine OpOK.pure r hd ?_ hy
    rw [exec_fieldAddr hop, e]
    exact run_next (run_fieldAt hf b k)
  refine ⟨?_, ?_, ?_⟩
  · intro p g i j e
    rw [e] at kx
    generalize hv : a.eval x = v at kx
    cases kx with
    | ptr _ _ _ _ b ob h1 h2 h3 => exact go b _ _ hv (by rw [Nat.add_assoc]; exact .ptr _ _ _ _ _ _ h1 h2 h3)
    | ptrOld _ _ _ _ ad hold =>
      by_cases hs : ∃ b k, ad = ⟨b, k, none⟩
      · obtain ⟨b, k, rfl⟩ := hs
        exact go b k _ hv (.ptrOld _ _ _ _ _ hold)
      · refine OpOK.pure (v := .pointer (some (ad.add off))) r hd ?_ (.ptrOld _ _ _ _ _ hold)
        rw [exec_fieldAddr hop, hv]
        refine run_next ?_
        simp [Instr.fieldAt, run_underlying hu, hx, Instr.sureAddr, fieldPlace, run_sizeT f2, f4, f1]
  · intro tg cells e
    rw [e] at kx
    generalize hv : a.eval x = v at kx
    cases kx with
    | ip _ _ b k vs N h1 h2 h3 h4 =>
      refine go b k _ hv ?_
      obtain ⟨M, hM, hsub⟩ := h2.part off cells.length
      rw [List.take_of_length_le (by simp)] at hM
      refine .ip _ _ _ _ (vs.drop off) (M) ?_ ?_ ?_ h4
      · intro i v hi
        rw [Nat.add_assoc]
        exact h1 _ v (by simpa using hi)
      · have := hM.weaken (us := ((vs.drop off).drop cells.length))
        rwa [List.take_append_drop] at this
      · intro b' hb'
        simp at hb'
        rcases hb' with rfl | hb'
        · exact h3 _ (by simp)
        · exact h3 _ (by simp [hsub b' hb'])
    | ipOld n _ ad hn =>
      refine OpOK.pure (v := .pointer (some (ad.add off))) r hd ?_ (.ipOld _ _ _ hn)
      rw [exec_fieldAddr hop, hv]
      refine run_next ?_
      simp [Instr.fieldAt, run_underlying hu, hx, Instr.sureAddr, fieldPlace, run_sizeT f2, f4, f1]
  · intro cells e
    rw [e] at kx
    generalize hv : a.eval x = v at kx
    cases kx with
    | ib _ b k vs h1 h2 h3 =>
      refine go b k _ hv (.ib _ _ _ (vs.drop off) ?_ h2 (h3.drop off))
      intro i v hi
      rw [Nat.add_assoc]
      exact h1 _ v (by simpa using hi)

theorem ok_field {t : TypeId} {f : Nat} {x : Operand} {off s : Nat} {ag : Bool} {cells : List AV} {y : AV} (r : Rel σ a h) (hd : ∀ t, o.dst = some t → t < a.tmps.size)
    (hop : o.op = .field t x f) (hf : fieldT P t f = some (off, s, ag)) (hx : σ.get x = .agg cells) (hl : off + s ≤ cells.length) (hy : pack ag ((cells.drop off).take s) = some y) :
    OpOK P o σ { val := y } a h := by
  have kx := r.get x
  obtain ⟨fs, fx, hu, hfx, f1, f2, f3, f4⟩ := fieldT_eq hf
  rw [hx] at kx
  generalize hv : a.eval x = v at kx
  cases kx with
  | agg _ vs k =>
    obtain ⟨v, hv', p1, p2⟩ := pack_ok (k.part off s) hy
    refine OpOK.pure r hd ?_ hv'
    rw [show execOp a.eval o = (do pure (Next.value (← Instr.field t (a.eval x) f))) by simp only [execOp, hop], hv]
    refine run_next ?_
    simp only [Instr.field, Sem.run_bind, run_underlying hu, Result.andThen, hfx, asAgg, Sem.run_pure, part, run_aggT f3]
    cases ag with
    | true =>
      simp only [if_true, Sem.run_bind, run_sizeT f2, Result.andThen, Sem.run_pure]
      rw [p1 rfl, f1]
      congr 2
      simp [List.extract_eq_take_drop]
    | false =>
      have p3 := p2 rfl
      have : vs.toArray[off]? = some v := by
        have := congrArg (fun l => l[0]?) p3
        simp only [List.getElem?_take, List.getElem?_drop, List.getElem?_cons_zero, Nat.add_zero] at this
        split at this
        · simpa using this
        · cases this
      simp [f1, this]

theorem ok_extract {x : Operand} {i : Nat} {vs : List AV} {y : AV} (r : Rel σ a h) (hd : ∀ t, o.dst = some t → t < a.tmps.size) (hop : o.op = .extract x i)
    (hx : σ.get x = .tup vs) (hy : vs[i]? = some y) : OpOK P o σ { val := y } a h := by
  have kx := r.get x
  rw [hx] at kx
  generalize hv : a.eval x = v at kx
  cases kx with
  | tup _ us k =>
    obtain ⟨v, e, hv'⟩ := k.get i hy
    refine OpOK.pure r hd ?_ hv'
    rw [show execOp a.eval o = (do pure (Next.value (← Instr.extract (a.eval x) i))) by simp only [execOp, hop], hv]
    refine run_next ?_
    simp [Instr.extract, e]

theorem ok_makeFunc {f : FuncId} {first caps : Array Operand} (r : Rel σ a h) (hd : ∀ t, o.dst = some t → t < a.tmps.size) (hop : o.op = .makeFunc (.func f) first caps) (hf : first.size = 0) :
    OpOK P o σ { val := .fn f (vals σ caps) } a h := by
  have h1 : first = #[] := Array.size_eq_zero_iff.1 hf
  subst h1
  have k := VR.fn f _ _ (r.vals caps)
  rw [show (caps.map a.eval).toList.toArray = caps.map a.eval from by simp only [Array.toArray_toList]] at k
  refine OpOK.pure (v := .func (.func f) #[] (caps.map a.eval)) r hd ?_ k
  rw [show execOp a.eval o = (do pure (Next.value (← Instr.makeFunc (.func f) ((#[] : Array Operand).map a.eval) (caps.map a.eval)))) by simp only [execOp, hop]]
  exact run_next (by simp [Instr.makeFunc])

theorem ok_index {t : TypeId} {x y : Operand} {s : ByteArray} {q : IntKind} {i : Int} {b : UInt8} (r : Rel σ a h) (hd : ∀ t, o.dst = some t → t < a.tmps.size) (hop : o.op = .index t x y)
    (hx : σ.get x = .c (.string s)) (hy : σ.get y = .c (.int q i)) (ht : stringT P t = true) (hi : 0 ≤ i) (hb : s[i.toNat]? = some b) : OpOK P o σ { val := .c (.int .u8 b.toNat) } a h := by
  have kx := r.get x; rw [hx] at kx; have kx := kx.inv_c
  have ky := r.get y; rw [hy] at ky; have ky := ky.inv_c
  refine OpOK.pure r hd ?_ (.c _ (by simp))
  rw [show execOp a.eval o = (do pure (Next.value (← Instr.index t (a.eval x) (a.eval y)))) by simp only [execOp, hop], kx, ky]
  refine run_next ?_
  simp [Instr.index, asIntOf, run_underlying (stringT_eq ht), hi, hb]

theorem ok_indexAddr {t : TypeId} {x y : Operand} {q : IntKind} {i : Int} {e : Nat} (r : Rel σ a h) (hd : ∀ t, o.dst = some t → t < a.tmps.size) (hop : o.op = .indexAddr t x y)
    (he : (elemT P t).bind (sizeT P) = some e) (hy : σ.get y = .c (.int q i)) (hi : 0 ≤ i) :
    (∀ tg rows row, σ.get x = .tr tg e rows → rows[i.toNat]? = some row → OpOK P o σ { val := .ip tg row } a h) ∧
    (∀ p g off n, σ.get x = .sl p g e off n → i.toNat < n → OpOK P o σ { val := .ptr p g (off + i.toNat) 0 } a h) := by
  have kx := r.get x
  have ky := r.get y; rw [hy] at ky; have ky := ky.inv_c
  obtain ⟨el, h1, h2⟩ := Option.bind_eq_some_iff.1 he
  have hu := elemT_eq h1
  have run : ∀ (ad : Addr) (n c : Nat), i.toNat < n → (Instr.indexAt t (.slice (some ad) n c) (.int q i)).run P h.w = .ok (.pointer (some (ad.add (i.toNat * e)))) h.w := by
    intro ad n c hn
    have : i < n := by omega
    simp [Instr.indexAt, asIntOf, run_underlying hu, hi, this, run_sizeT h2]
  have go : ∀ (ad : Addr) (n c : Nat) (z : AV), a.eval x = .slice (some ad) n c → i.toNat < n → VR h z (.pointer (some (ad.add (i.toNat * e)))) → OpOK P o σ { val := z } a h := by
    intro ad n c z ex hn hz
    refine OpOK.pure r hd ?_ hz
    rw [show execOp a.eval o = (do pure (Next.value (← Instr.indexAt t (a.eval x) (a.eval y)))) by simp only [execOp, hop], ex, ky]
    exact run_next (run ad n c hn)
  constructor
  · intro tg rows row ex hrow
    have hlt : i.toNat < rows.length := (List.getElem?_eq_some_iff.1 hrow).1
    rw [ex] at kx
    generalize hv : a.eval x = v at kx
    cases kx with
    | tr _ _ _ _ N k1 k2 k3 =>
      cases k1 with
      | nil => simp at hrow
      | dumb _ _ k => simp [dumb] at k
      | tr _ _ _ b off cap vs N h1 h2' h3 h4 =>
        refine go _ _ _ _ hv hlt ?_
        rw [add_plain]
        have hrl := h1 row (List.mem_of_getElem? hrow)
        obtain ⟨M, hM, hsub⟩ := h4.part (i.toNat * e + 0) e
        rw [flat_part h1 hrow (by omega), List.drop_zero, ← hrl, List.take_length] at hM
        refine .ip _ _ _ _ ((vs.drop (i.toNat * e)).take e) M ?_ (by rw [← hrl]; simpa using hM) ?_ k3
        · intro k v hk
          rw [Nat.add_assoc]
          refine h3 _ v ?_
          rw [List.getElem?_take] at hk
          split at hk
          · simpa using hk
          · cases hk
        · intro b' hb'
          simp at hb'
          rcases hb' with rfl | hb'
          · exact k2 _ (by simp)
          · exact k2 _ (by simp [hsub b' hb'])
    | trOld n _ _ ad cap hn hne =>
      cases ad with
      | none => simp at hne; subst hne; simp at hrow
      | some ad => exact go _ _ _ _ hv hlt (.ipOld _ _ _ hn)
  · intro p g off n ex hn
    rw [ex] at kx
    generalize hv : a.eval x = v at kx
    cases kx with
    | sl _ _ _ _ _ b cap rows h1 h2' h3 h4 h5 h6 =>
      refine go _ _ _ _ hv hn ?_
      rw [add_plain, ← Nat.add_mul]
      exact .ptr _ _ (off + i.toNat) 0 b _ h1 h2' h3
    | slEnd => simp at hn
    | slOld _ _ _ _ _ ad cap hold hne =>
      cases ad with
      | none => simp at hne; omega
      | some ad => exact go _ _ _ _ hv hn (.ptrOld _ _ _ _ _ hold)

end
end Go.AM
