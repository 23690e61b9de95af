/- Operations that leave memory alone: each against the model. -/
import Derived.Test.YtoffdmkgioaohaaAmE
namespace Go.AM

theorem add_plain (b off k : Nat) : (⟨b, off, none⟩ : Addr).add k = ⟨b, off + k, none⟩ := by
  unfold Addr.add; split <;> simp_all

theorem flat_drop {e : Nat} : ∀ {rows : List (List AV)} (_ : ∀ r ∈ rows, r.length = e) {i : Nat} {r : List AV}, rows[i]? = some r →
    rows.flatten.drop (i * e) = r ++ (rows.drop (i + 1)).flatten
  | [], _, _, _, hi => by simp at hi
  | x :: rows, hr, 0, r, hi => by simp at hi; subst hi; simp
  | x :: rows, hr, i + 1, r, hi => by
    have hx : x.length = e := hr x (by simp)
    have ih := flat_drop (rows := rows) (fun r hr' => hr r (by simp [hr'])) (i := i) (r := r) (by simpa using hi)
    have : (i + 1) * e = x.length + i * e := by rw [hx, Nat.add_mul, Nat.one_mul, Nat.add_comm]
    rw [List.flatten_cons, this, ← List.drop_drop, List.drop_left]
    simpa using ih

theorem flat_len {e : Nat} : ∀ {rows : List (List AV)}, (∀ r ∈ rows, r.length = e) → rows.flatten.length = rows.length * e
  | [], _ => by simp
  | x :: rows, hr => by
    have ih := flat_len (rows := rows) fun r h => hr r (by simp [h])
    rw [List.flatten_cons, List.length_append, ih, hr x (by simp), List.length_cons, Nat.add_mul, Nat.one_mul, Nat.add_comm]

theorem flat_room {e : Nat} {rows : List (List AV)} (hr : ∀ r ∈ rows, r.length = e) {i : Nat} {r : List AV} (hi : rows[i]? = some r) : i * e + e ≤ rows.flatten.length := by
  have h1 : i < rows.length := (List.getElem?_eq_some_iff.1 hi).1
  have h2 : (i + 1) * e ≤ rows.length * e := Nat.mul_le_mul_right e h1
  rw [flat_len hr]
  rw [Nat.add_mul, Nat.one_mul] at h2
  exact h2

theorem flat_part {e : Nat} {rows : List (List AV)} (hr : ∀ r ∈ rows, r.length = e) {i j s : Nat} {r : List AV} (hi : rows[i]? = some r) (hj : j + s ≤ r.length) :
    (rows.flatten.drop (i * e + j)).take s = (r.drop j).take s := by
  rw [← List.drop_drop, flat_drop hr hi, List.drop_append_of_le_length (by omega), List.take_append_of_le_length (by simp; omega)]

section
variable {P : Program} {o : Oper} {σ : St} {a : Act} {h : HS}

theorem run_loadVar {w : World} {t : TypeId} {s : Nat} {ag : Bool} (hs : sizeT P t = some s) (ha : aggT P t = some ag) {b off : Nat} {vs : List Value} (hl : vs.length = s)
    (hc : ∀ k v, vs[k]? = some v → w.cell? ⟨b, off + k, none⟩ = some v) {v : Value} (h1 : ag = true → v = .agg vs.toArray) (h2 : ag = false → vs = [v]) :
    (Instr.loadAt t (.pointer (some ⟨b, off, none⟩))).run P w = .ok v w := by
  unfold Instr.loadAt Instr.sureAddr loadVar
  simp only [Sem.run_bind, Sem.run_pure, Result.andThen, run_aggT ha]
  cases ag with
  | true =>
    rw [h1 rfl]
    simp only [if_true, Sem.run_bind, run_sizeT hs, Result.andThen]
    rw [← hl, run_loadCells_list w ⟨b, off, none⟩ vs (fun j v hj => by rw [add_plain]; exact hc j v hj)]
    rfl
  | false =>
    have h3 := h2 rfl
    subst h3
    have h4 := hc 0 v (by simp)
    simp only [Nat.add_zero] at h4
    simp only [Bool.false_eq_true, if_false, load, Sem.run, h4]

theorem pack_ok {ag : Bool} {cells : List AV} {vs : List Value} {x : AV} (k : VRs h cells vs) (hp : pack ag cells = some x) :
    ∃ v, VR h x v ∧ (ag = true → v = .agg vs.toArray) ∧ (ag = false → vs = [v]) := by
  unfold pack at hp
  cases ag with
  | true => simp at hp; subst hp; exact ⟨_, .agg _ _ k, fun _ => rfl, by simp⟩
  | false =>
    simp only [Bool.false_eq_true, if_false] at hp
    cases cells with
    | nil => simp at hp
    | cons y cells =>
      cases cells with
      | cons => simp at hp
      | nil =>
        simp at hp; subst hp
        cases k with
        | cons _ v _ vs k1 k2 => cases k2; exact ⟨v, k1, by simp, fun _ => rfl⟩

theorem retag_ok {tg : Tag} {x : AV} {v : Value} {M : List Nat} (k : TR h.w x v M) (ht : ∀ b ∈ M, h.tag tg b) (ha : h.age tg) : VR h (retag tg x) v := by
  cases x with
  | c u => cases k with
    | c _ hv => exact .c _ hv
    | dumb _ _ k => simp [dumb] at k
  | tr t e rows => exact .tr _ _ _ _ _ k.mark ht ha
  | _ => exact .bad _

theorem retags_ok {tg : Tag} {xs : List AV} {vs : List Value} {M : List Nat} (k : TRs h.w xs vs M) (hl : vs.length = xs.length) (ht : ∀ b ∈ M, h.tag tg b) (ha : h.age tg) :
    VRs h (xs.map (retag tg)) vs := by
  refine VRs.mk (by simp [hl]) ?_
  intro i x v hx hv
  simp only [List.getElem?_map, Option.map_eq_some_iff] at hx
  obtain ⟨y, hy, rfl⟩ := hx
  obtain ⟨u, L, e1, e2, e3⟩ := k.get i y hy
  rw [hv] at e1; obtain rfl := Option.some.inj e1
  exact retag_ok e2 (fun b hb => ht b (e3 b hb)) ha

theorem ep_tag (hok : HeapOK h) {o : Nat} {ob : Ob} (ho : h.objs o = some ob) {b : Nat} (hb : b ∈ h.sub o) {n : Nat} : h.tag (.ep n) b := by
  have hm : b ∈ h.blocks o := by simp [HS.blocks, hb]
  refine ⟨hok.lt o ob ho b hm, ?_⟩
  rintro ⟨o', ob', k1, k2⟩
  by_cases e : o' = o
  · subst e
    have := hok.nodup _ _ ho
    simp [HS.blocks, k2] at this
    exact this.1 hb
  · exact hok.disj o o' ob ob' ho k1 (Ne.symm e) b hm (by simp [HS.blocks, k2])

theorem tag_live {t : Tag} {r : Rel σ a h} (ht : σ.tagOK t = true) : ∀ n, t = .ep n → n = h.ep := by
  rintro n rfl
  simpa [St.tagOK, r.ep] using ht

/-- a load that only looks -/
theorem ok_load {cf : Cfg} {fn : FuncId} {d : Nat} {t : TypeId} {x : Operand} {δ : Delta} (r : Rel σ a h) (hd : ∀ t, o.dst = some t → t < a.tmps.size) (hop : o.op = .load t x)
    (hlook : ((cf.tk1 fn).contains d || (cf.tk2 fn).contains d) = false) (hev : opLoad cf fn σ d t (σ.get x) = some δ) : OpOK cf.P o σ δ a h := by
  unfold opLoad at hev
  cases hs : sizeT cf.P t with
  | none => simp [hs] at hev
  | some s =>
  cases hg : aggT cf.P t with
  | none => simp [hs, hg] at hev
  | some ag =>
  simp only [hs, hg] at hev
  -- what is read
  have fin : ∀ (b off : Nat) (vs : List Value) (cells : List AV), a.eval x = .pointer (some ⟨b, off, none⟩) → vs.length = s → VRs h cells vs →
      (∀ k v, vs[k]? = some v → h.w.cell? ⟨b, off + k, none⟩ = some v) → (pack ag cells).map (fun v => ({ val := v } : Delta)) = some δ → OpOK cf.P o σ δ a h := by
    intro b off vs cells hx hl hvs hc hp
    obtain ⟨y, hy, rfl⟩ := Option.map_eq_some_iff.1 hp
    obtain ⟨v, hv, h1, h2⟩ := pack_ok hvs hy
    refine OpOK.pure r hd ?_ hv
    rw [show execOp a.eval o = (do pure (Next.value (← Instr.loadAt t (a.eval x)))) by simp only [execOp, hop], hx]
    exact run_next (run_loadVar hs hg hl hc h1 h2)
  have hx := r.get x
  generalize σ.get x = X at hev hx
  generalize hX : a.eval x = V at hx
  cases X with
  | ip tg cells =>
    simp only at hev
    split at hev
    · rename_i hc
      cases hx with
      | ip _ _ b off vs N h1 h2 h3 h4 =>
        obtain ⟨M, hM, hsub⟩ := h2.part 0 s
        simp only [List.drop_zero] at hM
        have hlen := h2.len
        refine fin b off (vs.take s) _ hX (by simp; omega) (retags_ok hM (by simp; omega) (fun b' hb' => h3 b' (by simp [hsub b' hb'])) h4) ?_ hev
        intro k v hk
        exact h1 k v (by rw [List.getElem?_take] at hk; split at hk <;> simp_all)
      | ipOld n _ ad hn =>
        have := tag_live (r := r) hc.1 n rfl
        omega
    · cases hev
  | ib cells =>
    simp only at hev
    split at hev
    · rename_i hc
      cases hx with
      | ib _ b off vs h1 h2 h3 =>
        have hlen := h3.len
        refine fin b off (vs.take s) _ hX (by simp; omega) (h3.take s) ?_ hev
        intro k v hk
        exact h1 k v (by rw [List.getElem?_take] at hk; split at hk <;> simp_all)
    · cases hev
  | ptr p g i j =>
    simp only at hev
    split at hev
    · rename_i hg'
      rw [← r.gens] at hg'
      split at hev
      · rename_i cells ho
        rw [← r.objs] at ho
        split at hev
        · rename_i hij
          obtain ⟨rfl, hj⟩ := hij
          obtain ⟨b, cs, ty, fr, k1, k2, k3, k4, k5⟩ := r.ok.ob _ _ ho
          cases hx with
          | ptr _ _ _ _ b' ob' h1 h2 h3 =>
            rw [ho] at h1; obtain rfl := Option.some.inj h1
            rw [k1] at h3; obtain rfl := Option.some.inj h3
            have hlen := k5.len
            refine fin b _ ((cs.toList.drop j).take s) _ hX ?_ (k5.part j s) ?_ hev
            · simp at hlen ⊢; omega
            · intro k v hk
              rw [cell_at k2]
              simp only [Ob.e, Nat.mul_zero, Nat.zero_add]
              rw [List.getElem?_take] at hk
              split at hk
              · simpa using hk
              · cases hk
          | ptrOld _ _ _ _ ad hold =>
            rcases hold with hold | ⟨_, hold⟩
            · omega
            · rw [ho] at hold; cases hold
        · cases hev
      · rename_i e rows ho
        rw [← r.objs] at ho
        split at hev
        · rename_i row hrow
          split at hev
          · rename_i hj
            rw [if_neg (by rw [hlook]; simp)] at hev
            obtain ⟨k0, k1⟩ := r.ok.ob _ _ ho
            rcases k1 with ⟨_, k1, _⟩ | ⟨b, cs, ty, fr, k1, k2, k3, k4, k5, k6⟩
            · subst k1; simp at hrow
            · cases hx with
              | ptr _ _ _ _ b' ob' h1 h2 h3 =>
                rw [ho] at h1; obtain rfl := Option.some.inj h1
                rw [k1] at h3; obtain rfl := Option.some.inj h3
                obtain ⟨M, hM, hsub⟩ := k5.read.part (i * e + j) s
                rw [flat_part k0 hrow hj] at hM
                have hrl : row.length = e := k0 row (List.mem_of_getElem? hrow)
                have hlen := k5.len
                have hfl : i * e + j + s ≤ rows.flatten.length := by
                  have h9 := flat_room k0 hrow
                  omega
                rw [← r.ep] at hev
                refine fin b _ ((cs.toList.drop (i * e + j)).take s) _ hX ?_ (retags_ok hM ?_ ?_ ?_) ?_ hev
                · simp only [List.length_take, List.length_drop]; omega
                · simp only [List.length_take, List.length_drop]; omega
                · exact fun b' hb' => ep_tag r.ok ho (hsub b' hb')
                · exact Nat.le_refl _
                · intro k v hk
                  rw [cell_at k2]
                  simp only [Ob.e]
                  rw [List.getElem?_take] at hk
                  split at hk
                  · simpa using hk
                  · cases hk
              | ptrOld _ _ _ _ ad hold =>
                rcases hold with hold | ⟨_, hold⟩
                · omega
                · rw [ho] at hold; cases hold
          · cases hev
        · cases hev
      · cases hev
    · cases hev
  | _ => simp at hev

end
end Go.AM
