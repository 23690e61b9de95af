/- The abstract machine's values against the model's memory; what stays true while memory turns. -/
import Derived.Test.YtoffdmkgioaohaaAmB
namespace Go.AM

/-- no cell of a block is one that a string shares -/
def thawed (cs : Array Value) (fr : Nat × Nat) : Prop := ∀ i, i < cs.size → ¬ (fr.1 ≤ i ∧ i < fr.2)

/-- values that say nothing where they stand in a tree -/
def dumb : AV → Prop
  | .c _ | .tr .. => False
  | _ => True

mutual
/-- x stands at v in memory w, in these blocks -/
inductive TR (w : World) : AV → Value → List Nat → Prop
  | c (v) : (∀ cs, v ≠ .agg cs) → TR w (.c v) v []
  | nil (t e a) : TR w (.tr t e []) (.slice a 0 0) []
  | tr (t e rows b off cap vs N) : (∀ r ∈ rows, r.length = e) → rows.length ≤ cap → (∀ k v, vs[k]? = some v → w.cell? ⟨b, off + k, none⟩ = some v) →
      TRs w rows.flatten vs N → TR w (.tr t e rows) (.slice (some ⟨b, off, none⟩) rows.length cap) (b :: N)
  | dumb (x v) : dumb x → TR w x v []
inductive TRs (w : World) : List AV → List Value → List Nat → Prop
  | nil (vs) : TRs w [] vs []
  | cons (x v N xs vs M) : TR w x v N → TRs w xs vs M → TRs w (x :: xs) (v :: vs) (N ++ M)
end

mutual
/-- x stands at v in memory w, in these blocks, which are nobody else's -/
inductive TO (w : World) : AV → Value → List Nat → Prop
  | c (v) : (∀ cs, v ≠ .agg cs) → TO w (.c v) v []
  | nil (t e a) : TO w (.tr t e []) (.slice a 0 0) []
  | own (t e rows b cs ty fr cap N) : w.heap[b]? = some (.cells cs ty fr) → thawed cs fr → (∀ r ∈ rows, r.length = e) → rows.length ≤ cap → cap * e ≤ cs.size →
      TOs w rows.flatten cs.toList N → TO w (.tr t e rows) (.slice (some ⟨b, 0, none⟩) rows.length cap) (b :: N)
  | dumb (x v) : dumb x → TO w x v []
inductive TOs (w : World) : List AV → List Value → List Nat → Prop
  | nil (vs) : TOs w [] vs []
  | cons (x v N xs vs M) : TO w x v N → TOs w xs vs M → TOs w (x :: xs) (v :: vs) (N ++ M)
end

theorem cell_at {w : World} {b : Nat} {cs : Array Value} {ty : TypeId} {fr : Nat × Nat} (h : w.heap[b]? = some (.cells cs ty fr)) (k : Nat) :
    w.cell? ⟨b, k, none⟩ = cs[k]? := by
  simp [World.cell?, h]

theorem cell_frame {w w' : World} {b : Nat} (h : w'.heap[b]? = w.heap[b]?) (k : Nat) : w'.cell? ⟨b, k, none⟩ = w.cell? ⟨b, k, none⟩ := by
  simp [World.cell?, h]

mutual
theorem TR.frame {w w' : World} : ∀ {x v N}, TR w x v N → (∀ b ∈ N, w'.heap[b]? = w.heap[b]?) → TR w' x v N
  | _, _, _, .c _ h, _ => .c _ h
  | _, _, _, .nil _ _ _, _ => .nil _ _ _
  | _, _, _, .tr _ _ _ b _ _ _ _ h1 h2 h3 h4, hf =>
    .tr _ _ _ _ _ _ _ _ h1 h2 (fun k v hk => by rw [cell_frame (hf b (by simp))]; exact h3 k v hk) (TRs.frame h4 fun b' hb' => hf b' (by simp [hb']))
  | _, _, _, .dumb _ _ h, _ => .dumb _ _ h
theorem TRs.frame {w w' : World} : ∀ {xs vs N}, TRs w xs vs N → (∀ b ∈ N, w'.heap[b]? = w.heap[b]?) → TRs w' xs vs N
  | _, _, _, .nil _, _ => .nil _
  | _, _, _, .cons _ _ _ _ _ _ h1 h2, hf => .cons _ _ _ _ _ _ (TR.frame h1 fun b hb => hf b (by simp [hb])) (TRs.frame h2 fun b hb => hf b (by simp [hb]))
end

mutual
theorem TO.frame {w w' : World} : ∀ {x v N}, TO w x v N → (∀ b ∈ N, w'.heap[b]? = w.heap[b]?) → TO w' x v N
  | _, _, _, .c _ h, _ => .c _ h
  | _, _, _, .nil _ _ _, _ => .nil _ _ _
  | _, _, _, .own _ _ _ b _ _ _ _ _ h0 h1 h2 h3 h4 h5, hf =>
    .own _ _ _ _ _ _ _ _ _ ((hf b (by simp)).trans h0) h1 h2 h3 h4 (TOs.frame h5 fun b' hb' => hf b' (by simp [hb']))
  | _, _, _, .dumb _ _ h, _ => .dumb _ _ h
theorem TOs.frame {w w' : World} : ∀ {xs vs N}, TOs w xs vs N → (∀ b ∈ N, w'.heap[b]? = w.heap[b]?) → TOs w' xs vs N
  | _, _, _, .nil _, _ => .nil _
  | _, _, _, .cons _ _ _ _ _ _ h1 h2, hf => .cons _ _ _ _ _ _ (TO.frame h1 fun b hb => hf b (by simp [hb])) (TOs.frame h2 fun b hb => hf b (by simp [hb]))
end

mutual
theorem TO.read {w : World} : ∀ {x v N}, TO w x v N → TR w x v N
  | _, _, _, .c _ h => .c _ h
  | _, _, _, .nil _ _ _ => .nil _ _ _
  | _, _, _, .own _ _ _ b cs _ _ _ _ h0 _ h2 h3 _ h5 =>
    .tr _ _ _ b 0 _ cs.toList _ h2 h3 (fun k v hk => by rw [cell_at h0]; simpa using hk) (TOs.read h5)
  | _, _, _, .dumb _ _ h => .dumb _ _ h
theorem TOs.read {w : World} : ∀ {xs vs N}, TOs w xs vs N → TRs w xs vs N
  | _, _, _, .nil _ => .nil _
  | _, _, _, .cons _ _ _ _ _ _ h1 h2 => .cons _ _ _ _ _ _ (TO.read h1) (TOs.read h2)
end

/-- a tree's mark says nothing -/
theorem TR.mark {w : World} {t t' e rows v N} (h : TR w (.tr t e rows) v N) : TR w (.tr t' e rows) v N := by
  cases h with
  | nil => exact .nil _ _ _
  | tr _ _ _ b off cap vs N h1 h2 h3 h4 => exact .tr _ _ _ _ _ _ _ _ h1 h2 h3 h4
  | dumb _ _ h => simp [AM.dumb] at h
theorem TO.mark {w : World} {t t' e rows v N} (h : TO w (.tr t e rows) v N) : TO w (.tr t' e rows) v N := by
  cases h with
  | nil => exact .nil _ _ _
  | own _ _ _ b cs ty fr cap N h0 h1 h2 h3 h4 h5 => exact .own _ _ _ _ _ _ _ _ _ h0 h1 h2 h3 h4 h5
  | dumb _ _ h => simp [AM.dumb] at h

theorem TRs.len {w : World} {xs vs N} (h : TRs w xs vs N) : xs.length ≤ vs.length := by
  induction xs generalizing vs N with
  | nil => simp
  | cons x xs ih => cases h with | cons _ _ _ _ _ _ h1 h2 => simp; exact ih h2
theorem TOs.len {w : World} {xs vs N} (h : TOs w xs vs N) : xs.length ≤ vs.length := h.read.len

/-- one cell out of many -/
theorem TRs.get {w : World} {xs vs N} (h : TRs w xs vs N) (k : Nat) (x : AV) (hx : xs[k]? = some x) :
    ∃ v M, vs[k]? = some v ∧ TR w x v M ∧ ∀ b ∈ M, b ∈ N := by
  induction xs generalizing vs N k with
  | nil => simp at hx
  | cons y xs ih =>
    cases h with
    | cons _ v M _ vs' M' h1 h2 =>
      cases k with
      | zero => simp at hx; subst hx; exact ⟨v, M, by simp, h1, fun b hb => by simp [hb]⟩
      | succ k =>
        obtain ⟨u, L, e, h, hs⟩ := ih h2 k (by simpa using hx)
        exact ⟨u, L, by simpa using e, h, fun b hb => by simp [hs b hb]⟩

/-- some cells in a row -/
theorem TRs.part {w : World} {xs vs N} (h : TRs w xs vs N) (k n : Nat) : ∃ M, TRs w ((xs.drop k).take n) ((vs.drop k).take n) M ∧ ∀ b ∈ M, b ∈ N := by
  induction xs generalizing vs N k n with
  | nil => exact ⟨[], by simpa using .nil _, by simp⟩
  | cons y xs ih =>
    cases h with
    | cons _ v M _ vs' M' h1 h2 =>
      cases k with
      | zero =>
        cases n with
        | zero => exact ⟨[], by simpa using .nil _, by simp⟩
        | succ n =>
          obtain ⟨L, hL, hs⟩ := ih h2 0 n
          exact ⟨M ++ L, by simpa using .cons _ _ _ _ _ _ h1 (by simpa using hL), fun b hb => by simp at hb ⊢; exact hb.imp id (hs b)⟩
      | succ k =>
        obtain ⟨L, hL, hs⟩ := ih h2 k n
        exact ⟨L, by simpa using hL, fun b hb => by simp [hs b hb]⟩

theorem TRs.append {w : World} {xs vs N ys us M} (h : TRs w xs vs N) (hl : vs.length = xs.length) (h' : TRs w ys us M) : TRs w (xs ++ ys) (vs ++ us) (N ++ M) := by
  induction xs generalizing vs N with
  | nil => cases h; simp at hl; subst hl; simpa using h'
  | cons x xs ih =>
    cases h with
    | cons _ v N _ vs N' h1 h2 => simpa using .cons _ _ _ _ _ _ h1 (ih h2 (by simpa using hl))
theorem TOs.append {w : World} {xs vs N ys us M} (h : TOs w xs vs N) (hl : vs.length = xs.length) (h' : TOs w ys us M) : TOs w (xs ++ ys) (vs ++ us) (N ++ M) := by
  induction xs generalizing vs N with
  | nil => cases h; simp at hl; subst hl; simpa using h'
  | cons x xs ih =>
    cases h with
    | cons _ v N _ vs N' h1 h2 => simpa using .cons _ _ _ _ _ _ h1 (ih h2 (by simpa using hl))
theorem TOs.split {w : World} {xs ys vs N} (h : TOs w (xs ++ ys) vs N) :
    ∃ A B, N = A ++ B ∧ TOs w xs (vs.take xs.length) A ∧ TOs w ys (vs.drop xs.length) B := by
  induction xs generalizing vs N with
  | nil => exact ⟨[], N, rfl, by simpa using .nil _, by simpa using h⟩
  | cons x xs ih =>
    cases h with
    | cons _ v N _ vs' M h1 h2 =>
      obtain ⟨A, B, rfl, ha, hb⟩ := ih h2
      exact ⟨N ++ A, B, by simp, by simpa using .cons _ _ _ _ _ _ h1 ha, by simpa using hb⟩
theorem TOs.weaken {w : World} {xs vs us N} (h : TOs w xs vs N) : TOs w xs (vs ++ us) N := by
  induction xs generalizing vs N with
  | nil => cases h; exact .nil _
  | cons x xs ih => cases h with | cons _ v N _ vs M h1 h2 => exact .cons _ _ _ _ _ _ h1 (ih h2)
theorem TRs.weaken {w : World} {xs vs us N} (h : TRs w xs vs N) : TRs w xs (vs ++ us) N := by
  induction xs generalizing vs N with
  | nil => cases h; exact .nil _
  | cons x xs ih => cases h with | cons _ v N _ vs M h1 h2 => exact .cons _ _ _ _ _ _ h1 (ih h2)

/-! #### the heap's picture -/

structure HS where
  w : World
  objs : Nat → Option Ob
  gens : Nat → Nat
  ep : Nat
  blk : Nat → Option Nat
  cap : Nat → Nat
  sub : Nat → List Nat
  X : Nat → Prop
  Y : Nat → Prop

def HS.blocks (h : HS) (o : Nat) : List Nat := (h.blk o).toList ++ h.sub o
def HS.owned (h : HS) (b : Nat) : Prop := ∃ o ob, h.objs o = some ob ∧ b ∈ h.blocks o
def HS.top (h : HS) (b : Nat) : Prop := ∃ o ob, h.objs o = some ob ∧ h.blk o = some b
def HS.stable (h : HS) (b : Nat) : Prop := b < h.w.heap.size ∧ ¬ h.owned b
def HS.tag (h : HS) : Tag → Nat → Prop
  | .im, b => h.stable b ∧ ¬ h.X b
  | .b1, b => h.stable b ∧ ¬ h.Y b
  | .bo, b => h.stable b
  | .ep _, b => b < h.w.heap.size ∧ ¬ h.top b
def HS.age (h : HS) : Tag → Prop
  | .ep n => n ≤ h.ep
  | _ => True

def Ob.e : Ob → Nat
  | .slice e _ => e
  | _ => 0

mutual
inductive VR (h : HS) : AV → Value → Prop
  | c (v) : (∀ cs, v ≠ .agg cs) → VR h (.c v) v
  | bad (v) : VR h .bad v
  | tr (t e rows v N) : TR h.w (.tr t e rows) v N → (∀ b ∈ N, h.tag t b) → h.age t → VR h (.tr t e rows) v
  | trOld (n e rows a cap) : n < h.ep → (rows = [] ∨ a ≠ none) → rows.length ≤ cap → VR h (.tr (.ep n) e rows) (.slice a rows.length cap)
  | sl (o g e off n b cap rows) : h.objs o = some (.slice e rows) → h.gens o = g → h.blk o = some b → off + n ≤ rows.length → n ≤ cap → (off + cap) * e ≤ h.cap o →
      VR h (.sl o g e off n) (.slice (some ⟨b, off * e, none⟩) n cap)
  | slEnd (o g e off a rows) : h.objs o = some (.slice e rows) → h.gens o = g → off ≤ rows.length → VR h (.sl o g e off 0) (.slice a 0 0)
  | slOld (o g e off n a cap) : (g < h.gens o ∨ g ≤ h.gens o ∧ h.objs o = none) → (n = 0 ∨ a ≠ none) → n ≤ cap → VR h (.sl o g e off n) (.slice a n cap)
  | ptr (o g i j b ob) : h.objs o = some ob → h.gens o = g → h.blk o = some b → VR h (.ptr o g i j) (.pointer (some ⟨b, i * ob.e + j, none⟩))
  | ptrOld (o g i j a) : (g < h.gens o ∨ g ≤ h.gens o ∧ h.objs o = none) → VR h (.ptr o g i j) (.pointer (some a))
  | ip (t cells b off vs N) : (∀ k v, vs[k]? = some v → h.w.cell? ⟨b, off + k, none⟩ = some v) → TRs h.w cells vs N → (∀ b' ∈ b :: N, h.tag t b') → h.age t →
      VR h (.ip t cells) (.pointer (some ⟨b, off, none⟩))
  | ipOld (n cells a) : n < h.ep → VR h (.ip (.ep n) cells) (.pointer (some a))
  | ib (cells b off vs) : (∀ k v, vs[k]? = some v → h.w.cell? ⟨b, off + k, none⟩ = some v) → h.stable b → VRs h cells vs →
      VR h (.ib cells) (.pointer (some ⟨b, off, none⟩))
  | fn (f caps vs) : VRs h caps vs → VR h (.fn f caps) (.func (.func f) #[] vs.toArray)
  | agg (cells vs) : VRs h cells vs → VR h (.agg cells) (.agg vs.toArray)
  | tup (cells vs) : VRs h cells vs → VR h (.tup cells) (.tuple vs.toArray)
  | mp (o g b es) : h.objs o = some (.map es) → h.gens o = g → h.blk o = some b → VR h (.mp o g) (.map (some b))
  | mpOld (o g m) : (g < h.gens o ∨ g ≤ h.gens o ∧ h.objs o = none) → VR h (.mp o g) (.map m)
inductive VRs (h : HS) : List AV → List Value → Prop
  | nil : VRs h [] []
  | cons (x v xs vs) : VR h x v → VRs h xs vs → VRs h (x :: xs) (v :: vs)
end

theorem VRs.len {h : HS} {xs vs} (k : VRs h xs vs) : vs.length = xs.length := by
  induction xs generalizing vs with
  | nil => cases k; rfl
  | cons x xs ih => cases k with | cons _ _ _ _ _ k => simp [ih k]
theorem VRs.get {h : HS} {xs vs} (k : VRs h xs vs) (i : Nat) {x : AV} (hx : xs[i]? = some x) : ∃ v, vs[i]? = some v ∧ VR h x v := by
  induction xs generalizing vs i with
  | nil => simp at hx
  | cons y xs ih =>
    cases k with
    | cons _ v _ vs k1 k2 =>
      cases i with
      | zero => simp at hx; subst hx; exact ⟨v, by simp, k1⟩
      | succ i => obtain ⟨u, e, k⟩ := ih k2 i (by simpa using hx); exact ⟨u, by simpa using e, k⟩
theorem VRs.mk {h : HS} {xs : List AV} {vs : List Value} (hl : vs.length = xs.length) (k : ∀ (i : Nat) x v, xs[i]? = some x → vs[i]? = some v → VR h x v) : VRs h xs vs := by
  induction xs generalizing vs with
  | nil => cases vs with | nil => exact .nil | cons => simp at hl
  | cons x xs ih =>
    cases vs with
    | nil => simp at hl
    | cons v vs => exact .cons _ _ _ _ (k 0 _ _ (by simp) (by simp)) (ih (by simpa using hl) fun i x v hx hv => k (i + 1) x v (by simpa using hx) (by simpa using hv))
theorem VRs.append {h : HS} {xs vs ys us} (k : VRs h xs vs) (k' : VRs h ys us) : VRs h (xs ++ ys) (vs ++ us) := by
  induction xs generalizing vs with
  | nil => cases k; simpa using k'
  | cons x xs ih => cases k with | cons _ _ _ _ k1 k2 => exact .cons _ _ _ _ k1 (ih k2)
theorem VRs.part {h : HS} {xs vs} (k : VRs h xs vs) (i n : Nat) : VRs h ((xs.drop i).take n) ((vs.drop i).take n) := by
  induction xs generalizing vs i n with
  | nil => cases k; simpa using .nil
  | cons x xs ih =>
    cases k with
    | cons _ _ _ _ k1 k2 =>
      cases i with
      | zero => cases n with
        | zero => simpa using .nil
        | succ n => simpa using .cons _ _ _ _ k1 (by simpa using ih k2 0 n)
      | succ i => simpa using ih k2 i n
theorem VRs.take {h : HS} {xs vs} (k : VRs h xs vs) (n : Nat) : VRs h (xs.take n) (vs.take n) := by simpa using k.part 0 n
theorem VRs.drop {h : HS} {xs vs} (k : VRs h xs vs) (i : Nat) : VRs h (xs.drop i) (vs.drop i) := by
  have := k.part i xs.length
  rwa [List.take_of_length_le (by simp), List.take_of_length_le (by simp [k.len])] at this

def sameShape : Ob → Ob → Prop
  | .box a, .box b => a.length = b.length
  | .slice e a, .slice e' b => e = e' ∧ a.length = b.length
  | .map _, .map _ => True
  | _, _ => False

/-- memory has gone on from h to h' -/
structure Ev (h h' : HS) : Prop where
  os : h'.w.os = h.w.os
  tape : h'.w.tape = h.w.tape
  output : h'.w.output = h.w.output
  size : h.w.heap.size ≤ h'.w.heap.size
  stab : ∀ b, h.stable b → h'.w.heap[b]? = h.w.heap[b]?
  own : ∀ b, h'.owned b → h.owned b ∨ h.w.heap.size ≤ b
  ep : h.ep ≤ h'.ep
  top : h'.ep = h.ep → ∀ b, b < h.w.heap.size → ¬ h.top b → ¬ h'.top b ∧ h'.w.heap[b]? = h.w.heap[b]?
  gens : ∀ o, h.gens o ≤ h'.gens o
  live : ∀ o ob', h'.objs o = some ob' → h'.gens o = h.gens o → ∃ ob, h.objs o = some ob ∧ h'.blk o = h.blk o ∧ h'.cap o = h.cap o ∧ sameShape ob ob'
  X : h'.X = h.X
  Y : h'.Y = h.Y

theorem sameShape.refl (a : Ob) : sameShape a a := by cases a <;> simp [sameShape]
theorem sameShape.trans {a b c : Ob} (h : sameShape a b) (k : sameShape b c) : sameShape a c := by
  cases a <;> cases b <;> cases c <;> simp_all [sameShape]
theorem sameShape.e {a b : Ob} (h : sameShape a b) : b.e = a.e := by cases a <;> cases b <;> simp_all [sameShape, Ob.e]

theorem Ev.stable {h h' : HS} (k : Ev h h') {b : Nat} (hb : h.stable b) : h'.stable b :=
  ⟨Nat.lt_of_lt_of_le hb.1 k.size, fun ho => (k.own b ho).elim hb.2 fun hs => absurd hb.1 (by omega)⟩

theorem HS.top_owned {h : HS} {b : Nat} (k : h.top b) : h.owned b := by
  obtain ⟨o, ob, h1, h2⟩ := k; exact ⟨o, ob, h1, by simp [HS.blocks, h2]⟩

theorem Ev.refl (h : HS) : Ev h h := ⟨rfl, rfl, rfl, Nat.le_refl _, fun _ _ => rfl, fun _ k => .inl k, Nat.le_refl _, fun _ _ _ k => ⟨k, rfl⟩, fun _ => Nat.le_refl _,
  fun _ ob k _ => ⟨ob, k, rfl, rfl, sameShape.refl _⟩, rfl, rfl⟩

theorem Ev.trans {a b c : HS} (h : Ev a b) (k : Ev b c) : Ev a c where
  os := k.os.trans h.os
  tape := k.tape.trans h.tape
  output := k.output.trans h.output
  size := Nat.le_trans h.size k.size
  stab b hb := (k.stab b (h.stable hb)).trans (h.stab b hb)
  own b hb := (k.own b hb).elim (fun h1 => h.own b h1) fun h1 => .inr (Nat.le_trans h.size h1)
  ep := Nat.le_trans h.ep k.ep
  top he x hx hn := by
    have e1 : b.ep = a.ep := Nat.le_antisymm (he ▸ k.ep) h.ep
    obtain ⟨h1, h2⟩ := h.top e1 x hx hn
    obtain ⟨h3, h4⟩ := k.top (he.trans e1.symm) x (Nat.lt_of_lt_of_le hx h.size) h1
    exact ⟨h3, h4.trans h2⟩
  gens o := Nat.le_trans (h.gens o) (k.gens o)
  live o ob hob hg := by
    have g1 := h.gens o; have g2 := k.gens o
    obtain ⟨ob1, k1, k2, k3, k4⟩ := k.live o ob hob (by omega)
    obtain ⟨ob2, j1, j2, j3, j4⟩ := h.live o ob1 k1 (by omega)
    exact ⟨ob2, j1, k2.trans j2, k3.trans j3, j4.trans k4⟩
  X := k.X.trans h.X
  Y := k.Y.trans h.Y

theorem TR.shape {w : World} {t e rows v N} (h : TR w (.tr t e rows) v N) : ∃ a cap, v = .slice a rows.length cap ∧ (rows = [] ∨ a ≠ none) ∧ rows.length ≤ cap := by
  cases h with
  | nil _ _ a => exact ⟨a, 0, rfl, .inl rfl, by simp⟩
  | tr _ _ _ b off cap _ _ _ h2 => exact ⟨_, cap, rfl, .inr (by simp), h2⟩
  | dumb _ _ h => simp [AM.dumb] at h

/-- what a mark says stays said, or the mark is old -/
theorem Ev.tag {h h' : HS} (k : Ev h h') {t : Tag} (ha : h.age t) (N : List Nat) (hN : ∀ b ∈ N, h.tag t b) :
    ((∀ b ∈ N, h'.tag t b) ∧ h'.age t ∧ ∀ b ∈ N, h'.w.heap[b]? = h.w.heap[b]?) ∨ ∃ n, t = .ep n ∧ n < h'.ep := by
  cases t with
  | im => exact .inl ⟨fun b hb => ⟨k.stable (hN b hb).1, by rw [k.X]; exact (hN b hb).2⟩, trivial, fun b hb => k.stab b (hN b hb).1⟩
  | b1 => exact .inl ⟨fun b hb => ⟨k.stable (hN b hb).1, by rw [k.Y]; exact (hN b hb).2⟩, trivial, fun b hb => k.stab b (hN b hb).1⟩
  | bo => exact .inl ⟨fun b hb => k.stable (hN b hb), trivial, fun b hb => k.stab b (hN b hb)⟩
  | ep n =>
    have ha : n ≤ h.ep := ha
    have h1 := k.ep
    by_cases he : h'.ep = n
    · refine .inl ⟨fun b hb => ?_, Nat.le_of_eq he.symm, fun b hb => ?_⟩
      · exact ⟨Nat.lt_of_lt_of_le (hN b hb).1 k.size, (k.top (by omega) b (hN b hb).1 (hN b hb).2).1⟩
      · exact (k.top (by omega) b (hN b hb).1 (hN b hb).2).2
    · exact .inr ⟨n, rfl, by omega⟩

theorem Ev.old {h h' : HS} (k : Ev h h') {o g : Nat} (h1 : g < h.gens o ∨ g ≤ h.gens o ∧ h.objs o = none) : g < h'.gens o ∨ g ≤ h'.gens o ∧ h'.objs o = none := by
  have := k.gens o
  rcases h1 with h1 | ⟨h1, h2⟩
  · exact .inl (by omega)
  · by_cases hg : h'.gens o = g
    · refine .inr ⟨by omega, ?_⟩
      cases hob : h'.objs o with
      | none => rfl
      | some ob' =>
        obtain ⟨ob, j1, _⟩ := k.live o ob' hob (by omega)
        rw [h2] at j1; cases j1
    · exact .inl (by omega)

/-- an object is there as it was, or it is gone -/
theorem Ev.obj {h h' : HS} (k : Ev h h') {o g : Nat} {ob : Ob} (h1 : h.objs o = some ob) (h2 : h.gens o = g) :
    (∃ ob', h'.objs o = some ob' ∧ h'.gens o = g ∧ h'.blk o = h.blk o ∧ h'.cap o = h.cap o ∧ sameShape ob ob') ∨ g < h'.gens o ∨ g ≤ h'.gens o ∧ h'.objs o = none := by
  have := k.gens o
  by_cases hg : h'.gens o = g
  · cases hob : h'.objs o with
    | none => exact .inr (.inr ⟨by omega, rfl⟩)
    | some ob' =>
      obtain ⟨ob1, j1, j2, j3, j4⟩ := k.live o ob' hob (by omega)
      rw [h1] at j1; obtain rfl := Option.some.inj j1
      exact .inl ⟨ob', rfl, hg, j2, j3, j4⟩
  · exact .inr (.inl (by omega))

mutual
theorem VR.ev {h h' : HS} (k : Ev h h') : ∀ {x v}, VR h x v → VR h' x v
  | _, _, .c _ hv => .c _ hv
  | _, _, .bad _ => .bad _
  | _, _, .tr t e rows _ N h1 h2 h3 => by
    rcases k.tag h3 N h2 with ⟨a, b, c⟩ | ⟨n, rfl, hn⟩
    · exact .tr _ _ _ _ _ (h1.frame c) a b
    · obtain ⟨a, cap, rfl, ha, hc⟩ := h1.shape
      exact .trOld _ _ _ _ _ hn ha hc
  | _, _, .trOld _ _ _ _ _ h1 h2 h3 => .trOld _ _ _ _ _ (Nat.lt_of_lt_of_le h1 k.ep) h2 h3
  | _, _, .sl o g e off n b cap rows h1 h2 h3 h4 h5 h6 => by
    rcases k.obj h1 h2 with ⟨ob', j1, j2, j3, j4, j5⟩ | hold
    · cases ob' with
      | slice e' rows' =>
        obtain ⟨rfl, hr⟩ := j5
        exact .sl _ _ _ _ _ _ _ _ j1 j2 (j3.trans h3) (by omega) h5 (by rw [j4]; exact h6)
      | _ => simp [sameShape] at j5
    · exact .slOld _ _ _ _ _ _ _ hold (.inr (by simp)) h5
  | _, _, .slEnd o g e off a rows h1 h2 h3 => by
    rcases k.obj h1 h2 with ⟨ob', j1, j2, j3, j4, j5⟩ | hold
    · cases ob' with
      | slice e' rows' => obtain ⟨rfl, hr⟩ := j5; exact .slEnd _ _ _ _ _ _ j1 j2 (by omega)
      | _ => simp [sameShape] at j5
    · exact .slOld _ _ _ _ _ _ _ hold (.inl rfl) (Nat.le_refl _)
  | _, _, .slOld _ _ _ _ _ _ _ h1 h2 h3 => .slOld _ _ _ _ _ _ _ (k.old h1) h2 h3
  | _, _, .ptr o g i j b ob h1 h2 h3 => by
    rcases k.obj h1 h2 with ⟨ob', j1, j2, j3, j4, j5⟩ | hold
    · rw [← j5.e]
      exact .ptr _ _ _ _ _ _ j1 j2 (j3.trans h3)
    · exact .ptrOld _ _ _ _ _ hold
  | _, _, .ptrOld _ _ _ _ _ h1 => .ptrOld _ _ _ _ _ (k.old h1)
  | _, _, .ip t cells b off vs N h1 h2 h3 h4 => by
    rcases k.tag h4 (b :: N) h3 with ⟨p, q, r⟩ | ⟨n, rfl, hn⟩
    · exact .ip _ _ _ _ _ _ (fun i v hi => by rw [cell_frame (r b (by simp))]; exact h1 i v hi) (h2.frame fun b' hb' => r b' (by simp [hb'])) p q
    · exact .ipOld _ _ _ hn
  | _, _, .ipOld _ _ _ h1 => .ipOld _ _ _ (Nat.lt_of_lt_of_le h1 k.ep)
  | _, _, .ib cells b off vs h1 h2 h3 =>
    .ib _ _ _ _ (fun i v hi => by rw [cell_frame (k.stab b h2)]; exact h1 i v hi) (k.stable h2) (VRs.ev k h3)
  | _, _, .fn f caps vs h1 => .fn _ _ _ (VRs.ev k h1)
  | _, _, .agg cells vs h1 => .agg _ _ (VRs.ev k h1)
  | _, _, .tup cells vs h1 => .tup _ _ (VRs.ev k h1)
  | _, _, .mp o g b es h1 h2 h3 => by
    rcases k.obj h1 h2 with ⟨ob', j1, j2, j3, j4, j5⟩ | hold
    · cases ob' with
      | map es' => exact .mp _ _ _ _ j1 j2 (j3.trans h3)
      | _ => simp [sameShape] at j5
    · exact .mpOld _ _ _ hold
  | _, _, .mpOld _ _ _ h1 => .mpOld _ _ _ (k.old h1)
theorem VRs.ev {h h' : HS} (k : Ev h h') : ∀ {xs vs}, VRs h xs vs → VRs h' xs vs
  | _, _, .nil => .nil
  | _, _, .cons _ _ _ _ r1 r2 => .cons _ _ _ _ (VR.ev k r1) (VRs.ev k r2)
end

end Go.AM
