/- A nested slice that is taken out of its cell. -/
import Derived.Test.YtoffdmkgioaohaaAmO
namespace Go.AM

section
variable {P : Program} {o : Oper} {σ : St} {a : Act} {h : HS}

theorem splitTr_eq : ∀ {cells pre post : List AV} {e : Nat} {rows : List (List AV)}, splitTr cells = some (pre, e, rows, post) →
    ∃ t, cells = pre ++ (.tr t e rows :: post) ∧ (∀ x ∈ pre, ∃ v, x = .c v) ∧ ∀ x ∈ post, ∃ v, x = .c v
  | .tr t e' rows' :: post', pre, post, e, rows, hs => by
    simp only [splitTr] at hs
    split at hs
    · rename_i hc; cases hs
      refine ⟨t, rfl, by simp, ?_⟩
      intro x hx
      have := List.all_eq_true.1 hc x hx
      cases x <;> first | exact ⟨_, rfl⟩ | simp [isC] at this
    · cases hs
  | .c v :: cells, pre, post, e, rows, hs => by
    simp only [splitTr, Option.map_eq_some_iff] at hs
    obtain ⟨⟨pre', x⟩, hs, he⟩ := hs
    cases he
    obtain ⟨t, rfl, h1, h2⟩ := splitTr_eq hs
    refine ⟨t, rfl, ?_, h2⟩
    intro x hx
    rcases List.mem_cons.1 hx with rfl | hx
    · exact ⟨_, rfl⟩
    · exact h1 x hx
  | [], _, _, _, _, hs => by simp [splitTr] at hs
  | .sl .. :: _, _, _, _, _, hs => by simp [splitTr] at hs
  | .ptr .. :: _, _, _, _, _, hs => by simp [splitTr] at hs
  | .ip .. :: _, _, _, _, _, hs => by simp [splitTr] at hs
  | .ib .. :: _, _, _, _, _, hs => by simp [splitTr] at hs
  | .fn .. :: _, _, _, _, _, hs => by simp [splitTr] at hs
  | .agg .. :: _, _, _, _, _, hs => by simp [splitTr] at hs
  | .tup .. :: _, _, _, _, _, hs => by simp [splitTr] at hs
  | .mp .. :: _, _, _, _, _, hs => by simp [splitTr] at hs
  | .bad :: _, _, _, _, _, hs => by simp [splitTr] at hs

theorem TOs.flat {w : World} : ∀ {xs : List AV} {vs : List Value} {N : List Nat}, TOs w xs vs N → (∀ x ∈ xs, ∃ v, x = .c v) → N = [] ∧ TOs w xs vs []
  | [], _, _, .nil _, _ => ⟨rfl, .nil _⟩
  | x :: xs, _, _, .cons _ v _ _ vs _ h1 h2, hc => by
    obtain ⟨u, rfl⟩ := hc x (by simp)
    cases h1 with
    | c _ hv =>
      obtain ⟨rfl, k⟩ := TOs.flat h2 fun x hx => hc x (by simp [hx])
      exact ⟨rfl, by simpa using TOs.cons _ _ _ _ _ _ (TO.c _ hv) k⟩
    | dumb _ _ k => simp [dumb] at k

theorem flat_VRs {w : World} : ∀ {xs : List AV} {vs : List Value} {N : List Nat}, TOs w xs vs N → vs.length = xs.length → (∀ x ∈ xs, ∃ v, x = .c v) → ∀ h : HS, VRs h xs vs
  | [], [], _, .nil _, _, _, _ => .nil
  | [], _ :: _, _, .nil _, hl, _, _ => by simp at hl
  | x :: xs, _, _, .cons _ v _ _ vs _ h1 h2, hl, hc, h => by
    obtain ⟨u, rfl⟩ := hc x (by simp)
    cases h1 with
    | c _ hv => exact .cons _ _ _ _ (.c _ hv) (flat_VRs h2 (by simpa using hl) (fun x hx => hc x (by simp [hx])) h)
    | dumb _ _ k => simp [dumb] at k

/-- the two objects after the taking -/
def HS.taken (h : HS) (p id : Nat) (ob1 ob2 : Ob) (g : Nat) (bl : Option Nat) (cap : Nat) (sub1 sub2 : List Nat) : HS :=
  { h with objs := fun o => if o = id then some ob2 else if o = p then some ob1 else h.objs o, gens := fun o => if o = id then g else h.gens o, ep := h.ep + 1,
           blk := fun o => if o = id then bl else h.blk o, cap := fun o => if o = id then cap else h.cap o, sub := fun o => if o = id then sub2 else if o = p then sub1 else h.sub o }

theorem ok_take {t : TypeId} {x : Operand} {s d : Nat} {ag : Bool} (r : Rel σ a h) (hd : ∀ t, o.dst = some t → t < a.tmps.size) (hop : o.op = .load t x)
    (hs : sizeT P t = some s) (hg : aggT P t = some ag) {p i j e e' : Nat} {rows rows' : List (List AV)} {row pre post : List AV} {y u : AV}
    (hx : VR h (.ptr p (σ.gens p) i j) (a.eval x)) (ho : σ.objs p = some (.slice e rows)) (hrow : rows[i]? = some row) (hj : j + s ≤ row.length)
    (hsp : splitTr ((row.drop j).take s) = some (pre, e', rows', post)) (hne : p ≠ site d 0) (hpl : allPlain rows' = true)
    (hy : y = .sl (site d 0) (σ.gens (site d 0) + 1) e' 0 rows'.length ∨ y = .bad)
    (hpk : pack ag (pre ++ [.sl (site d 0) (σ.gens (site d 0) + 1) e' 0 rows'.length] ++ post) = some u) :
    OpOK P o σ { val := u, objs := [(p, some (.slice e (rows.set i (splice row j (pre ++ [y] ++ post)))), σ.gens p), (site d 0, some (.slice e' rows'), σ.gens (site d 0) + 1)], ep := true } a h := by
  have ho' := ho
  rw [← r.objs] at ho'
  obtain ⟨k0, k1⟩ := r.ok.ob _ _ ho'
  rcases k1 with ⟨_, k1, _⟩ | ⟨b, cs, ty, fr, k1, k2, k3, k4, k5, k6⟩
  · subst k1; simp at hrow
  obtain ⟨bx, hxv⟩ : ∃ b', a.eval x = .pointer (some ⟨b', i * e + j, none⟩) ∧ h.blk p = some b' := by
    have hgens := r.gens
    generalize a.eval x = V at hx
    cases hx with
    | ptr _ _ _ _ b' ob' h1 h2 h3 => rw [ho'] at h1; cases h1; exact ⟨b', rfl, h3⟩
    | ptrOld _ _ _ _ ad hold =>
      rcases hold with hold | ⟨_, hold⟩
      · rw [hgens] at hold; omega
      · rw [ho'] at hold; cases hold
  obtain ⟨hxv, hbx⟩ := hxv
  rw [k1] at hbx; cases hbx
  obtain ⟨tg, hmid, hpre, hpost⟩ := splitTr_eq hsp
  have hrl : row.length = e := k0 row (List.mem_of_getElem? hrow)
  have hlen : rows.length * e ≤ cs.toList.length := by
    have := k5.len
    rwa [flat_len k0] at this
  have hroom := flat_room k0 hrow
  have hfl := flat_len k0
  have hslen : (pre ++ [y] ++ post).length = s := by
    have := congrArg List.length hmid
    simp at this ⊢; omega
  obtain ⟨p0, hp0e⟩ : ∃ q, q = i * e + j := ⟨_, rfl⟩
  rw [← hp0e] at hxv
  have hp0 : p0 + s ≤ rows.flatten.length := by omega
  have hmv : ((cs.toList.drop p0).take s).length = s := by simp only [List.length_take, List.length_drop]; omega
  -- what stands in the cells
  have hpart : (rows.flatten.drop p0).take s = (row.drop j).take s := by rw [hp0e]; exact flat_part k0 hrow hj
  obtain ⟨A0, B0, C0, eM, tA, tC, tB⟩ : ∃ A0 B0 C0, h.sub p = A0 ++ (C0 ++ B0) ∧ TOs h.w (rows.flatten.take p0) (cs.toList.take p0) A0 ∧ TOs h.w ((row.drop j).take s) ((cs.toList.drop p0).take s) C0 ∧
      TOs h.w (rows.flatten.drop (p0 + s)) (cs.toList.drop (p0 + s)) B0 := by
    have e0 : rows.flatten = rows.flatten.take p0 ++ ((rows.flatten.drop p0).take s ++ rows.flatten.drop (p0 + s)) := by
      rw [← List.drop_drop, List.take_append_drop, List.take_append_drop]
    have k5' := k5
    rw [e0] at k5'
    obtain ⟨A, B', e1, q1, q2⟩ := k5'.split
    obtain ⟨C, B, rfl, q3, q4⟩ := q2.split
    have l1 : (rows.flatten.take p0).length = p0 := by rw [List.length_take]; omega
    have l2 : ((rows.flatten.drop p0).take s).length = s := by rw [List.length_take, List.length_drop]; omega
    rw [l1] at q1 q3 q4
    rw [l2] at q3 q4
    rw [hpart] at q3
    rw [List.drop_drop] at q4
    exact ⟨A, B, C, e1, q1, q3, q4⟩
  rw [hmid] at tC
  obtain ⟨N1, N2, rfl, tp, tt⟩ := tC.split
  obtain ⟨rfl, tp'⟩ := tp.flat hpre
  have hpll : pre.length + 1 + post.length = s := by simp at hslen; omega
  obtain ⟨v, vs2, hvs⟩ : ∃ v vs2, ((cs.toList.drop p0).take s).drop pre.length = v :: vs2 := by
    have : 0 < (((cs.toList.drop p0).take s).drop pre.length).length := by rw [List.length_drop, hmv]; omega
    match hh : ((cs.toList.drop p0).take s).drop pre.length with
    | [] => simp [hh] at this
    | v :: vs2 => exact ⟨v, vs2, rfl⟩
  rw [hvs] at tt
  cases tt with
  | cons _ _ N _ _ N3 to tpost =>
  obtain ⟨rfl, tpost'⟩ := tpost.flat hpost
  simp only [List.nil_append, List.append_nil] at eM
  have hvs2 : vs2.length = post.length := by
    have := congrArg List.length hvs
    rw [List.length_drop, hmv] at this
    simp at this; omega
  have hmidv : (cs.toList.drop p0).take s = ((cs.toList.drop p0).take s).take pre.length ++ (v :: vs2) := by rw [← hvs, List.take_append_drop]
  have hprel : (((cs.toList.drop p0).take s).take pre.length).length = pre.length := by rw [List.length_take, hmv]; omega
  have hnd := r.ok.nodup p _ ho'
  simp only [HS.blocks, k1, Option.toList_some, List.singleton_append, eM] at hnd
  -- the block of what is taken
  let bl : Option Nat := match N with | [] => none | b :: _ => some b
  let N' : List Nat := N.tail
  have hN : bl.toList ++ N' = N := by cases N <;> rfl
  let cap : Nat := match N with | [] => 0 | b :: _ => match h.w.heap[b]? with | some (.cells cs _ _) => cs.size | _ => 0
  let ob1 : Ob := .slice e (rows.set i (splice row j (pre ++ [y] ++ post)))
  let ob2 : Ob := .slice e' rows'
  let h' := h.taken p (site d 0) ob1 ob2 (σ.gens (site d 0) + 1) bl cap (A0 ++ B0) N'
  have hp1 : h'.objs p = some ob1 := by simp [h', HS.taken, hne]
  have hp2 : h'.objs (site d 0) = some ob2 := by simp [h', HS.taken]
  have hb1 : h'.blocks p = b :: (A0 ++ B0) := by simp [HS.blocks, h', HS.taken, hne, k1]
  have hb2 : h'.blocks (site d 0) = N := by simp [HS.blocks, h', HS.taken, hN]
  have hgen2 : h'.gens (site d 0) = σ.gens (site d 0) + 1 := by simp [h', HS.taken]
  -- what the new name stands for
  have nameOK : VR h' (.sl (site d 0) (σ.gens (site d 0) + 1) e' 0 rows'.length) v := by
    cases to with
    | nil _ _ ad => exact .slEnd _ _ _ _ _ _ hp2 hgen2 (Nat.zero_le _)
    | dumb _ _ k => simp [dumb] at k
    | own _ _ _ b2 cs2 ty2 fr2 cap2 N2 q0 q1 q2 q3 q4 q5 =>
      have := VR.sl (h := h') (site d 0) (σ.gens (site d 0) + 1) e' 0 rows'.length b2 cap2 rows' hp2 hgen2 (by simp [h', HS.taken, bl]) (by omega) q3 (by simp [h', HS.taken, cap, q0]; exact q4)
      simpa using this
  have yOK : VR h' y v := by rcases hy with rfl | rfl; exact nameOK; exact .bad _
  have sub1 : ∀ b' ∈ b :: (A0 ++ B0), b' ∈ h.blocks p := by
    intro b' hb'
    simp only [HS.blocks, k1, Option.toList_some, List.singleton_append, eM]
    rcases List.mem_cons.1 hb' with rfl | hb'
    · simp
    · rcases List.mem_append.1 hb' with hb' | hb' <;> simp [hb']
  have sub2 : ∀ b' ∈ N, b' ∈ h.blocks p := by
    intro b' hb'
    simp only [HS.blocks, k1, Option.toList_some, List.singleton_append, eM]
    simp [hb']
  have key : HeapOK h' ∧ Ev h h' := by
    refine reconf (fun o => o = p ∨ o = site d 0) r.ok rfl rfl rfl (Nat.le_refl _) rfl rfl (Nat.le_succ _) ?_ ?_ (fun _ _ => .inl rfl) ?_ ?_ ?_
    · intro q hq
      have q1 : q ≠ p := fun e => hq (.inl e)
      have q2 : q ≠ site d 0 := fun e => hq (.inr e)
      exact .inr ⟨by simp [h', HS.taken, q1, q2], by simp [h', HS.taken, q2], by simp [h', HS.taken, q2], by simp [h', HS.taken, q1, q2]⟩
    · intro q
      by_cases e : q = site d 0
      · subst e; simp [h', HS.taken, r.gens]
      · simp [h', HS.taken, e]
    · intro q ob hq hob
      rcases hq with rfl | rfl
      · rw [hp1] at hob; cases hob
        refine ⟨fun ev => ?_, ?_, ?_, ?_⟩
        · have e1 : (rows.set i (splice row j (pre ++ [y] ++ post))).flatten = splice rows.flatten p0 (pre ++ [y] ++ post) := by rw [hp0e]; exact flat_set k0 hrow (by omega)
          have hvv : spliceV cs.toList p0 ((cs.toList.drop p0).take s) = cs.toList := by
            unfold spliceV
            rw [hmv, List.append_assoc, ← List.drop_drop, List.take_append_drop, List.take_append_drop]
          have mid : TOs h.w (pre ++ [y] ++ post) ((cs.toList.drop p0).take s) [] := by
            rw [hmidv, List.append_assoc]
            have hyd : TO h.w y v [] := by rcases hy with rfl | rfl <;> exact .dumb _ _ (by simp [dumb])
            have := TOs.append tp' hprel (TOs.cons _ _ _ _ _ _ hyd tpost')
            simpa using this
          have nmid : named h' (pre ++ [y] ++ post) ((cs.toList.drop p0).take s) := by
            rw [hmidv, List.append_assoc]
            have isC_named : ∀ (xs : List AV) (us : List Value), (∀ x ∈ xs, ∃ v, x = .c v) → named h' xs us := by
              intro xs us hc k o' g e' off n v hx _
              obtain ⟨w, hw⟩ := hc _ (List.mem_of_getElem? hx)
              cases hw
            refine named.append (isC_named _ _ hpre) hprel ?_
            have := named.append (h := h') (xs := [y]) (vs := [v]) (ys := post) (us := vs2) ?_ rfl (isC_named _ _ hpost)
            · simpa using this
            · intro k o' g e' off n u hx hv
              cases k with
              | zero => simp at hx hv; subst hv; rw [← hx]; exact yOK
              | succ k => simp at hx
          refine ⟨?_, .inr ⟨b, cs, ty, fr, by simp [h', HS.taken, hne, k1], k2, k3, by simp [h', HS.taken, hne, k4], ?_, ?_⟩⟩
          · intro z hz
            rcases List.mem_or_eq_of_mem_set hz with hz | rfl
            · exact k0 z hz
            · rw [splice_len (by omega)]; exact hrl
          · rw [e1, show h'.sub q = A0 ++ B0 by simp [h', HS.taken, hne]]
            have l1 : (rows.flatten.take p0).length = p0 := by rw [List.length_take]; omega
            have := TOs.append (TOs.append tA (by rw [l1, List.length_take]; omega) mid) (by rw [List.length_append, List.length_append, hmv, hslen, l1, List.length_take]; omega) tB
            rw [← hvv]
            unfold splice spliceV
            rw [hmv, hslen]
            simp only [List.append_nil] at this
            exact this
          · show named h' _ cs.toList
            rw [e1, ← hvv]
            have := named.splice (h := h') (j := p0) ((show named h _ _ from k6).ev ev) nmid (by rw [hmv, hslen]) (by rw [hfl]; simpa using hlen) (by omega)
            exact this
        · rw [hb1]
          have e2 : b :: (A0 ++ (N ++ B0)) = (b :: A0) ++ (N ++ B0) := rfl
          have : (b :: (A0 ++ B0)).Sublist (b :: (A0 ++ (N ++ B0))) := ((List.Sublist.refl A0).append (List.sublist_append_right N B0)).cons_cons b
          exact this.nodup hnd
        · rw [hb1]
          intro b' hb'
          exact ⟨r.ok.lt _ _ ho' _ (sub1 b' hb'), .inr ⟨q, _, ho', sub1 b' hb', .inl (.inl rfl)⟩⟩
        · intro _
          exact ⟨_, ho', by simp [h', HS.taken, hne], by simp [h', HS.taken, hne], by simp [ob1, sameShape]⟩
      · rw [hp2] at hob; cases hob
        refine ⟨fun ev => ?_, ?_, ?_, ?_⟩
        · cases to with
          | nil _ _ ad => exact ⟨by simp, .inl ⟨by simp [h', HS.taken, bl], rfl, by simp [h', HS.taken, N']⟩⟩
          | dumb _ _ k => simp [dumb] at k
          | own _ _ _ b2 cs2 ty2 fr2 cap2 N2 q0 q1 q2 q3 q4 q5 =>
            refine ⟨q2, .inr ⟨b2, cs2, ty2, fr2, by simp [h', HS.taken, bl], q0, q1, by simp [h', HS.taken, cap, q0], by simpa [h', HS.taken, N'] using q5, ?_⟩⟩
            intro k o' g e2 off n u hx _
            have hm := List.mem_of_getElem? hx
            obtain ⟨q, hq, hm⟩ := List.mem_flatten.1 hm
            have := List.all_eq_true.1 (List.all_eq_true.1 hpl q hq) _ hm
            simp [plain] at this
        · rw [hb2]
          have e2 := (List.nodup_append.1 (List.nodup_append.1 (List.nodup_cons.1 hnd).2).2.1).1
          exact e2
        · rw [hb2]
          intro b' hb'
          exact ⟨r.ok.lt _ _ ho' _ (sub2 b' hb'), .inr ⟨p, _, ho', sub2 b' hb', .inl (.inl rfl)⟩⟩
        · intro hh
          rw [hgen2, r.gens] at hh; omega
    · have dis : ∀ b' ∈ b :: (A0 ++ B0), b' ∉ N := by
        intro b' h1 h2
        obtain ⟨n1, n2⟩ := List.nodup_cons.1 hnd
        obtain ⟨m1, m2, m3⟩ := List.nodup_append.1 n2
        obtain ⟨l1, l2, l3⟩ := List.nodup_append.1 m2
        rcases List.mem_cons.1 h1 with rfl | h1
        · exact n1 (by simp [h2])
        · rcases List.mem_append.1 h1 with h1 | h1
          · exact m3 b' h1 b' (by simp [h2]) rfl
          · exact l3 b' h2 b' h1 rfl
      rintro q q' o1 o2 (rfl | rfl) (rfl | rfl) _ _ hqq
      · exact absurd rfl hqq
      · rw [hb1, hb2]; exact dis
      · rw [hb1, hb2]; exact fun b' h1 h2 => dis b' h2 h1
      · exact absurd rfl hqq
    · intro hh
      simp [h', HS.taken] at hh
  obtain ⟨hok, hev⟩ := key
  have cells : VRs h' (pre ++ [.sl (site d 0) (σ.gens (site d 0) + 1) e' 0 rows'.length] ++ post) ((cs.toList.drop p0).take s) := by
    rw [hmidv, List.append_assoc]
    exact (flat_VRs tp' hprel hpre h').append (.cons _ _ _ _ nameOK (flat_VRs tpost' hvs2 hpost h'))
  obtain ⟨vu, hvu, hv1, hv2⟩ := pack_ok cells hpk
  refine OpOK.value (h' := h') r hd ?_ hvu hok hev ?_ ?_ ?_
  · rw [show execOp a.eval o = (do pure (Next.value (← Instr.loadAt t (a.eval x)))) by simp only [execOp, hop], hxv]
    refine run_next (run_loadVar hs hg hmv ?_ hv1 hv2)
    intro k v hk
    rw [cell_at k2]
    rw [List.getElem?_take] at hk
    split at hk
    · simpa using hk
    · cases hk
  · funext q
    cases hdst : o.dst <;> simp [St.apply, St.put, St.setObj, h', HS.taken, ob1, ob2, r.objs]
  · funext q
    by_cases eq : q = p
    · subst eq; cases hdst : o.dst <;> simp [St.apply, St.put, St.setObj, h', HS.taken, r.gens]
    · cases hdst : o.dst <;> simp [St.apply, St.put, St.setObj, h', HS.taken, r.gens, eq]
  · cases hdst : o.dst <;> simp [St.apply, St.put, St.setObj, h', HS.taken, r.ep]


/-- every load -/
theorem ok_loads {cf : Cfg} {fn : FuncId} {d : Nat} {t : TypeId} {x : Operand} {δ : Delta} (r : Rel σ a h) (hd : ∀ t, o.dst = some t → t < a.tmps.size) (hop : o.op = .load t x)
    (hev : opLoad cf fn σ d t (σ.get x) = some δ) : OpOK cf.P o σ δ a h := by
  cases hlook : ((cf.tk1 fn).contains d || (cf.tk2 fn).contains d) with
  | false => exact ok_load r hd hop hlook hev
  | true =>
    have other : (∀ p i j e rows, σ.get x = .ptr p (σ.gens p) i j → σ.objs p = some (.slice e rows) → False) → OpOK cf.P o σ δ a h := by
      intro hno
      refine ok_load (cf := { cf with tk1 := fun _ => [], tk2 := fun _ => [] }) (fn := fn) (d := d) r hd hop rfl ?_
      rw [← hev]
      generalize hX : σ.get x = X at hno
      unfold opLoad
      cases X with
      | ptr p g i j =>
        simp only
        cases hs : sizeT cf.P t with
        | none => rfl
        | some s =>
        cases hg : aggT cf.P t with
        | none => rfl
        | some ag =>
        simp only
        by_cases hgp : σ.gens p = g
        · subst hgp
          cases ho : σ.objs p with
          | none => rfl
          | some ob =>
            cases ob with
            | slice e rows => exact absurd ho (fun ho => hno p i j e rows rfl ho)
            | _ => rfl
        · rw [if_neg hgp, if_neg hgp]
      | _ => rfl
    have hv := r.get x
    cases hX : σ.get x with
    | ptr p g i j =>
      rw [hX] at hev hv
      cases hs : sizeT cf.P t with
      | none => simp [opLoad, hs] at hev
      | some s =>
      cases hg : aggT cf.P t with
      | none => simp [opLoad, hs, hg] at hev
      | some ag =>
      by_cases hgp : σ.gens p = g
      · subst hgp
        cases ho : σ.objs p with
        | none => simp [opLoad, hs, hg, ho] at hev
        | some ob =>
          cases ob with
          | slice e rows =>
            simp only [opLoad, hs, hg, ho, if_true] at hev
            split at hev
            · rename_i row hrow
              split at hev
              · rename_i hj
                split at hev
                · rename_i pre e' rows' post hsp
                  split at hev
                  · cases hev
                  · rename_i hc
                    simp only [not_or, Bool.not_eq_false] at hc
                    obtain ⟨u, hpk, rfl⟩ := Option.map_eq_some_iff.1 hev
                    refine ok_take r hd hop hs hg hv ho hrow hj hsp hc.1 hc.2 ?_ hpk
                    split
                    · exact .inl rfl
                    · exact .inr rfl
                · cases hev
              · cases hev
            · cases hev
          | box cells => exact other fun p' i' j' e' rows' e1 e2 => by rw [hX] at e1; cases e1; rw [ho] at e2; cases e2
          | map es => exact other fun p' i' j' e' rows' e1 e2 => by rw [hX] at e1; cases e1; rw [ho] at e2; cases e2
      · simp [opLoad, hs, hg, hgp] at hev
    | _ => exact other fun p' i' j' e' rows' e1 _ => by rw [hX] at e1; cases e1

end
end Go.AM
