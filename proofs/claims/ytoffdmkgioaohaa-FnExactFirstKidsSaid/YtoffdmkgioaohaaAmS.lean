/- Names of objects put in another way: values and objects keep their meaning. -/
import Derived.Test.YtoffdmkgioaohaaAmR
namespace Go.AM

/-- the picture h, with its objects named anew, is part of h' -/
structure Ren (tg : Tag → Option Tag) (m : Nat → Nat → Option (Nat × Nat)) (h h' : HS) : Prop where
  w : h'.w = h.w
  tag : ∀ t t', tg t = some t' → (∀ b, h.tag t b → h'.tag t' b) ∧ (h.age t → h'.age t') ∧ ∀ n, t ≠ .ep n
  live : ∀ o g o' g' ob, m o g = some (o', g') → h.objs o = some ob → h.gens o = g →
    (∃ ob', h'.objs o' = some ob' ∧ h'.gens o' = g' ∧ h'.blk o' = h.blk o ∧ h'.cap o' = h.cap o ∧ sameShape ob ob') ∨ (g' ≤ h'.gens o' ∧ h'.objs o' = none)
  old : ∀ o g o' g', m o g = some (o', g') → (g < h.gens o ∨ g ≤ h.gens o ∧ h.objs o = none) → (g' < h'.gens o' ∨ g' ≤ h'.gens o' ∧ h'.objs o' = none)

section
variable {tg : Tag → Option Tag} {m : Nat → Nat → Option (Nat × Nat)} {h h' : HS}

theorem Ren.one (k : Ren tg m h h') {x y : AV} {v : Value} (hv : VR h x v) (hy : ren tg m x = some y) : VR h' y v := by
  cases hv with
  | c _ hv => simp only [ren] at hy; cases hy; exact .c _ hv
  | bad => simp [ren] at hy
  | tr t e rows v N h1 h2 h3 =>
    simp only [ren, Option.map_eq_some_iff] at hy
    obtain ⟨t', ht, rfl⟩ := hy
    obtain ⟨a, b, _⟩ := k.tag t t' ht
    exact .tr _ _ _ _ N (by rw [k.w]; exact h1.mark) (fun b' hb' => a b' (h2 b' hb')) (b h3)
  | trOld n e rows a cap h1 =>
    simp only [ren, Option.map_eq_some_iff] at hy
    obtain ⟨t', ht, rfl⟩ := hy
    exact absurd rfl ((k.tag _ t' ht).2.2 n)
  | sl o g e off n b cap rows h1 h2 h3 h4 h5 h6 =>
    simp only [ren] at hy
    split at hy
    · rename_i o' g' hm; cases hy
      rcases k.live _ _ _ _ _ hm h1 h2 with ⟨ob', j1, j2, j3, j4, j5⟩ | hold
      case inr => exact .slOld _ _ _ _ _ _ _ (.inr hold) (.inr (by simp)) h5
      cases ob' with
      | slice e' rows' =>
        obtain ⟨rfl, hr⟩ := j5
        exact .sl _ _ _ _ _ _ _ _ j1 j2 (j3.trans h3) (by omega) h5 (by rw [j4]; exact h6)
      | _ => simp [sameShape] at j5
    · cases hy
  | slEnd o g e off a rows h1 h2 h3 =>
    simp only [ren] at hy
    split at hy
    · rename_i o' g' hm; cases hy
      rcases k.live _ _ _ _ _ hm h1 h2 with ⟨ob', j1, j2, j3, j4, j5⟩ | hold
      case inr => exact .slOld _ _ _ _ _ _ _ (.inr hold) (.inl rfl) (Nat.le_refl _)
      cases ob' with
      | slice e' rows' => obtain ⟨rfl, hr⟩ := j5; exact .slEnd _ _ _ _ _ _ j1 j2 (by omega)
      | _ => simp [sameShape] at j5
    · cases hy
  | slOld o g e off n a cap h1 h2 h3 =>
    simp only [ren] at hy
    split at hy
    · rename_i o' g' hm; cases hy
      exact .slOld _ _ _ _ _ _ _ (k.old _ _ _ _ hm h1) h2 h3
    · cases hy
  | ptr o g i j b ob h1 h2 h3 =>
    simp only [ren] at hy
    split at hy
    · rename_i o' g' hm; cases hy
      rcases k.live _ _ _ _ _ hm h1 h2 with ⟨ob', j1, j2, j3, j4, j5⟩ | hold
      case inr => exact .ptrOld _ _ _ _ _ (.inr hold)
      rw [← j5.e]
      exact .ptr _ _ _ _ _ _ j1 j2 (j3.trans h3)
    · cases hy
  | ptrOld o g i j a h1 =>
    simp only [ren] at hy
    split at hy
    · rename_i o' g' hm; cases hy
      exact .ptrOld _ _ _ _ _ (k.old _ _ _ _ hm h1)
    · cases hy
  | ip t cells b off vs N h1 h2 h3 h4 =>
    simp only [ren, Option.map_eq_some_iff] at hy
    obtain ⟨t', ht, rfl⟩ := hy
    obtain ⟨p, q, _⟩ := k.tag t t' ht
    exact .ip _ _ _ _ vs N (by rw [k.w]; exact h1) (by rw [k.w]; exact h2) (fun b' hb' => p b' (h3 b' hb')) (q h4)
  | ipOld n cells a h1 =>
    simp only [ren, Option.map_eq_some_iff] at hy
    obtain ⟨t', ht, rfl⟩ := hy
    exact absurd rfl ((k.tag _ t' ht).2.2 n)
  | ib => simp [ren] at hy
  | fn => simp [ren] at hy
  | agg => simp [ren] at hy
  | tup => simp [ren] at hy
  | mp => simp [ren] at hy
  | mpOld => simp [ren] at hy

/-- the same for all of a list -/
theorem VRs.mapM {f : AV → Option AV} (hf : ∀ x y v, VR h x v → f x = some y → VR h' y v) : ∀ {xs ys : List AV} {vs : List Value}, VRs h xs vs → xs.mapM f = some ys → VRs h' ys vs
  | [], ys, _, .nil, hy => by simp at hy; subst hy; exact .nil
  | x :: xs, ys, _, .cons _ v _ vs h1 h2, hy => by
    rw [List.mapM_cons] at hy
    obtain ⟨y, hy1, hy2⟩ := Option.bind_eq_some_iff.1 hy
    obtain ⟨zs, hy3, hy4⟩ := Option.bind_eq_some_iff.1 hy2
    cases hy4
    exact .cons _ _ _ _ (hf _ _ _ h1 hy1) (VRs.mapM hf h2 hy3)

theorem Ren.two (k : Ren tg m h h') {x y : AV} {v : Value} (hv : VR h x v) (hy : ren2 tg m x = some y) : VR h' y v := by
  cases x with
  | agg cs =>
    simp only [ren2, Option.map_eq_some_iff] at hy
    obtain ⟨ys, hy, rfl⟩ := hy
    cases hv with
    | agg _ vs h1 => exact .agg _ _ (h1.mapM (fun _ _ _ => k.one) hy)
  | _ => exact k.one hv hy

theorem Ren.three (k : Ren tg m h h') {x y : AV} {v : Value} (hv : VR h x v) (hy : ren3 tg m x = some y) : VR h' y v := by
  cases x with
  | tup cs =>
    simp only [ren3, Option.map_eq_some_iff] at hy
    obtain ⟨ys, hy, rfl⟩ := hy
    cases hv with
    | tup _ vs h1 => exact .tup _ _ (h1.mapM (fun _ _ _ => k.two) hy)
  | _ => exact k.two hv hy

theorem allPlain_named {rows : List (List AV)} (hp : allPlain rows = true) (vs : List Value) : named h rows.flatten vs := by
  refine named.none ?_
  intro x hx
  obtain ⟨q, hq, hx⟩ := List.mem_flatten.1 hx
  exact List.all_eq_true.1 (List.all_eq_true.1 hp q hq) x hx

theorem mapM_len {f : AV → Option AV} : ∀ {xs ys : List AV}, xs.mapM f = some ys → ys.length = xs.length
  | [], ys, hy => by simp at hy; subst hy; rfl
  | x :: xs, ys, hy => by
    rw [List.mapM_cons] at hy
    obtain ⟨y, hy1, hy2⟩ := Option.bind_eq_some_iff.1 hy
    obtain ⟨zs, hy3, hy4⟩ := Option.bind_eq_some_iff.1 hy2
    cases hy4
    simp [mapM_len hy3]

theorem Ren.ob (k : Ren tg m h h') {o o' : Nat} {ob ob' : Ob} (hv : ObOK h o ob) (hy : renOb tg m ob = some ob') (hb : h'.blk o' = h.blk o) (hc : h'.cap o' = h.cap o) (hs : h'.sub o' = h.sub o) :
    ObOK h' o' ob' ∧ sameShape ob ob' := by
  cases ob with
  | box cells =>
    simp only [renOb, Option.map_eq_some_iff] at hy
    obtain ⟨ys, hy, rfl⟩ := hy
    obtain ⟨b, cs, ty, fr, j1, j2, j3, j4, j5⟩ := hv
    exact ⟨⟨b, cs, ty, fr, hb.trans j1, by rw [k.w]; exact j2, j3, hs.trans j4, j5.mapM (fun _ _ _ => k.one) hy⟩, (mapM_len hy).symm⟩
  | slice e rows =>
    simp only [renOb] at hy
    split at hy
    · rename_i hp; cases hy
      obtain ⟨k0, k1⟩ := hv
      refine ⟨⟨k0, ?_⟩, sameShape.refl _⟩
      rcases k1 with ⟨k1, k2, k3⟩ | ⟨b, cs, ty, fr, k1, k2, k3, k4, k5, _⟩
      · exact .inl ⟨hb.trans k1, k2, hs.trans k3⟩
      · exact .inr ⟨b, cs, ty, fr, hb.trans k1, by rw [k.w]; exact k2, k3, hc.trans k4, by rw [k.w, hs]; exact k5, allPlain_named hp _⟩
    · cases hy
  | map es => simp [renOb] at hy

end
end Go.AM
