/- Calls: the callee's picture. -/
import Derived.Test.YtoffdmkgioaohaaAmT
namespace Go.AM

section
variable {P : Program} {σ : St} {a : Act} {h : HS}

theorem withBoxes_nodup (objs : Nat → Option Ob) (os : List Nat) : (withBoxes objs os).Nodup := by
  have key : ∀ (l acc : List Nat), acc.Nodup → (l.foldl (fun acc o => if acc.contains o then acc else acc ++ [o]) acc).Nodup := by
    intro l
    induction l with
    | nil => intro acc h; exact h
    | cons x l ih =>
      intro acc hacc
      simp only [List.foldl_cons]
      refine ih _ ?_
      split
      · exact hacc
      · rename_i hx
        have hx : x ∉ acc := by simpa using hx
        refine List.nodup_append.2 ⟨hacc, by simp, ?_⟩
        rintro y hy z hz rfl
        simp at hz; subst hz
        exact hx hy
  exact key _ [] .nil

theorem passObjs_get {T : List Nat} : ∀ {os : List Nat} {obs : List Ob}, passObjs σ T os = some obs → obs.length = os.length ∧
    ∀ (k o : Nat), os[k]? = some o → ∃ ob ob', σ.objs o = some ob ∧ renOb inTag (inMap σ T) ob = some ob' ∧ obs[k]? = some ob'
  | [], obs, hp => by simp [passObjs] at hp; subst hp; exact ⟨rfl, by simp⟩
  | o :: os, obs, hp => by
    simp only [passObjs] at hp
    split at hp
    · rename_i ob obs' h1 h2
      split at hp
      · rename_i ob' h3
        cases hp
        obtain ⟨i1, i2⟩ := passObjs_get h2
        refine ⟨by simp [i1], ?_⟩
        intro k o' hk
        cases k with
        | zero => simp at hk; subst hk; exact ⟨ob, ob', h1, h3, by simp⟩
        | succ k => obtain ⟨x, y, j1, j2, j3⟩ := i2 k o' (by simpa using hk); exact ⟨x, y, j1, j2, by simpa using j3⟩
      · cases hp
    · cases hp

theorem idx_get : ∀ {T : List Nat} {o k : Nat}, T.idxOf? o = some k → T[k]? = some o
  | [], o, k, hk => by simp at hk
  | x :: T, o, k, hk => by
    rw [List.idxOf?_cons] at hk
    split at hk
    · rename_i he; cases hk; simpa using he
    · obtain ⟨j, hj, rfl⟩ := Option.map_eq_some_iff.1 hk
      simpa using idx_get hj

/-- the picture that the callee begins with -/
def HS.callee (h : HS) (T : List Nat) (obs : List Ob) : HS :=
  { w := h.w, objs := fun k => obs[k]?, gens := fun _ => 0, ep := 0, blk := fun k => (T[k]?).bind h.blk, cap := fun k => ((T[k]?).map h.cap).getD 0,
    sub := fun k => ((T[k]?).map h.sub).getD [], X := fun b => h.X b ∨ h.owned b, Y := h.owned }

theorem callee_blocks {T : List Nat} {obs : List Ob} {k o : Nat} (hk : T[k]? = some o) : (h.callee T obs).blocks k = h.blocks o := by
  simp [HS.blocks, HS.callee, hk]

theorem callee_owned {T : List Nat} {obs : List Ob} (r : Rel σ a h) (hp : passObjs σ T T = some obs) {b : Nat} (hb : (h.callee T obs).owned b) : ∃ (k o : Nat) (ob : Ob), T[k]? = some o ∧ h.objs o = some ob ∧ b ∈ h.blocks o := by
  obtain ⟨k, ob', k1, k2⟩ := hb
  obtain ⟨hl, hg⟩ := passObjs_get hp
  have hk : k < T.length := by rw [← hl]; exact (List.getElem?_eq_some_iff.1 k1).1
  obtain ⟨ob, ob'', j1, j2, j3⟩ := hg k T[k] (List.getElem?_eq_getElem hk)
  rw [callee_blocks (List.getElem?_eq_getElem hk)] at k2
  exact ⟨k, T[k], ob, List.getElem?_eq_getElem hk, by rw [r.objs]; exact j1, k2⟩

theorem callee_ren {T : List Nat} {obs : List Ob} (r : Rel σ a h) (hp : passObjs σ T T = some obs) : Ren inTag (inMap σ T) h (h.callee T obs) := by
  obtain ⟨hl, hg⟩ := passObjs_get hp
  have own : ∀ b, (h.callee T obs).owned b → h.owned b := by
    intro b hb
    obtain ⟨k, o, ob, _, j2, j3⟩ := callee_owned r hp hb
    exact ⟨o, ob, j2, j3⟩
  have shape : ∀ {ob ob' : Ob}, renOb inTag (inMap σ T) ob = some ob' → sameShape ob ob' := by
    intro ob ob' hr
    cases ob with
    | box cells => simp only [renOb, Option.map_eq_some_iff] at hr; obtain ⟨ys, hy, rfl⟩ := hr; exact (mapM_len hy).symm
    | slice e rows =>
      simp only [renOb] at hr
      split at hr
      · cases hr; exact sameShape.refl _
      · cases hr
    | map => simp [renOb] at hr
  refine ⟨rfl, ?_, ?_, ?_⟩
  · intro t t' ht
    cases t with
    | im =>
      simp only [inTag] at ht; cases ht
      exact ⟨fun b hb => ⟨⟨hb.1.1, fun ho => hb.1.2 (own b ho)⟩, fun hx => hx.elim hb.2 hb.1.2⟩, fun _ => trivial, by simp⟩
    | b1 =>
      simp only [inTag] at ht; cases ht
      exact ⟨fun b hb => ⟨⟨hb.1.1, fun ho => hb.1.2 (own b ho)⟩, hb.1.2⟩, fun _ => trivial, by simp⟩
    | bo =>
      simp only [inTag] at ht; cases ht
      exact ⟨fun b hb => ⟨⟨hb.1, fun ho => hb.2 (own b ho)⟩, hb.2⟩, fun _ => trivial, by simp⟩
    | ep n => simp [inTag] at ht
  · intro o g o' g' ob hm ho hgn
    simp only [inMap] at hm
    split at hm
    · obtain ⟨k, hk, he⟩ := Option.map_eq_some_iff.1 hm
      simp only [Prod.mk.injEq] at he
      obtain ⟨rfl, rfl⟩ := he
      have hT : T[k]? = some o := by
        exact idx_get hk
      obtain ⟨ob0, ob', j1, j2, j3⟩ := hg k o hT
      rw [r.objs] at ho; rw [ho] at j1; cases j1
      exact .inl ⟨ob', j3, rfl, by simp [HS.callee, hT], by simp [HS.callee, hT], shape j2⟩
    · cases hm
  · intro o g o' g' hm hold
    simp only [inMap] at hm
    split at hm
    · rename_i hgn
      obtain ⟨k, hk, he⟩ := Option.map_eq_some_iff.1 hm
      have hT : T[k]? = some o := by
        exact idx_get hk
      obtain ⟨ob0, ob', j1, j2, j3⟩ := hg k o hT
      rw [← r.gens] at hgn
      rw [← r.objs] at j1
      rcases hold with hold | ⟨_, hold⟩
      · omega
      · rw [j1] at hold; cases hold
    · cases hm


theorem callee_ok {T : List Nat} {obs : List Ob} (r : Rel σ a h) (hp : passObjs σ T T = some obs) (nd : T.Nodup) : HeapOK (h.callee T obs) := by
  obtain ⟨hl, hg⟩ := passObjs_get hp
  have ren := callee_ren r hp
  have get : ∀ k ob', (h.callee T obs).objs k = some ob' → ∃ o ob, T[k]? = some o ∧ h.objs o = some ob ∧ renOb inTag (inMap σ T) ob = some ob' := by
    intro k ob' hk
    have hlt : k < T.length := by rw [← hl]; exact (List.getElem?_eq_some_iff.1 hk).1
    obtain ⟨ob, ob'', j1, j2, j3⟩ := hg k T[k] (List.getElem?_eq_getElem hlt)
    have hk : obs[k]? = some ob' := hk
    rw [hk] at j3; cases j3
    exact ⟨T[k], ob, List.getElem?_eq_getElem hlt, by rw [r.objs]; exact j1, j2⟩
  refine ⟨?_, ?_, ?_, ?_⟩
  · intro k ob' hk
    obtain ⟨o, ob, h1, h2, h3⟩ := get k ob' hk
    exact (ren.ob (r.ok.ob o ob h2) h3 (by simp [HS.callee, h1]) (by simp [HS.callee, h1]) (by simp [HS.callee, h1])).1
  · intro k ob' hk b hb
    obtain ⟨o, ob, h1, h2, _⟩ := get k ob' hk
    rw [callee_blocks h1] at hb
    exact r.ok.lt o ob h2 b hb
  · intro k ob' hk
    obtain ⟨o, ob, h1, h2, _⟩ := get k ob' hk
    rw [callee_blocks h1]
    exact r.ok.nodup o ob h2
  · intro k k' ob1 ob2 hk hk' hne b hb
    obtain ⟨o, ob, h1, h2, _⟩ := get k ob1 hk
    obtain ⟨o', ob', h1', h2', _⟩ := get k' ob2 hk'
    rw [callee_blocks h1] at hb
    rw [callee_blocks h1']
    refine r.ok.disj o o' ob ob' h2 h2' ?_ b hb
    rintro rfl
    refine hne ?_
    have l1 := (List.getElem?_eq_some_iff.1 h1).1
    exact (List.getElem?_inj l1 nd).1 (h1.trans h1'.symm)

/-- what is not handed over may be shown -/
theorem callee_seen {T : List Nat} {obs : List Ob} {σv : St} (r : Rel σ a h) (hp : passObjs σ T T = some obs)
    (ho : σv.objs = fun o => if T.contains o then none else σ.objs o) (hgn : σv.gens = σ.gens)
    (hep : σv.ep = σ.ep ∧ (∀ o ∈ T, ∀ ob, h.objs o = some ob → h.sub o = []) ∨ σ.ep < σv.ep) : Seen σ σv h (h.callee T obs) := by
  have own := fun b (hb : (h.callee T obs).owned b) => callee_owned r hp hb
  refine ⟨rfl, fun b hb => hb, fun b hb => hb, ?_, ?_, by rw [hgn, r.gens], ?_⟩
  · intro b hb
    obtain ⟨k, o, ob, _, j2, j3⟩ := own b hb
    exact ⟨o, ob, j2, j3⟩
  · intro o ob hoo
    rw [ho] at hoo
    simp only at hoo
    split at hoo
    · cases hoo
    · rename_i hT
      rw [← r.objs] at hoo
      refine ⟨hoo, ?_⟩
      intro b hb hown
      obtain ⟨k, o', ob', j1, j2, j3⟩ := own b hown
      have hne : o ≠ o' := by
        rintro rfl
        exact hT (by simpa using List.mem_of_getElem? j1)
      exact r.ok.disj o o' ob ob' hoo j2 hne b hb j3
  · rw [r.ep]
    rcases hep with ⟨h1, h2⟩ | h1
    · refine .inl ⟨h1, ?_⟩
      intro b hb
      obtain ⟨k, o, ob, j1, j2, j3⟩ := own b hb
      have hs := h2 o (List.mem_of_getElem? j1) ob j2
      simp only [HS.blocks, hs, List.append_nil, Option.mem_toList] at j3
      exact ⟨o, ob, j2, j3⟩
    · exact .inr h1


theorem passArgs_ok {T : List Nat} {obs : List Ob} {σv : St} (r : Rel σ a h) (hp : passObjs σ T T = some obs) (seen : Seen σ σv h (h.callee T obs)) (mv : List Nat) :
    ∀ {i : Nat} {xs as : List AV} {vs : List Value}, VRs h xs vs → passArgs σ T σv mv i xs = some as → VRs (h.callee T obs) as vs
  | i, [], as, _, .nil, hy => by simp [passArgs] at hy; subst hy; exact .nil
  | i, x :: xs, as, _, .cons _ v _ vs h1 h2, hy => by
    simp only [passArgs] at hy
    split at hy
    · rename_i y ys e1 e2
      cases hy
      refine .cons _ _ _ _ ?_ (passArgs_ok r hp seen mv h2 e2)
      unfold passArg at e1
      split at e1
      · exact (callee_ren r hp).two h1 e1
      · exact view_ok r.ok seen 6 h1 e1
    · cases hy

/-- flat objects have no blocks below them -/
theorem flat_sub (hok : HeapOK h) {o : Nat} {ob : Ob} (ho : h.objs o = some ob) (hf : flatOb (some ob) = true) : h.sub o = [] := by
  have k := hok.ob o ob ho
  cases ob with
  | box cells => obtain ⟨_, _, _, _, _, _, _, j, _⟩ := k; exact j
  | slice e rows =>
    obtain ⟨_, k1⟩ := k
    rcases k1 with ⟨_, _, k3⟩ | ⟨b, cs, ty, fr, k1, k2, k3, k4, k5, _⟩
    · exact k3
    · exact (k5.flat fun x hx => by obtain ⟨v, hv, _⟩ := allC_noSl (rows := rows) hf x hx; exact ⟨v, hv⟩).1
  | map es => simp [flatOb] at hf

end
end Go.AM
