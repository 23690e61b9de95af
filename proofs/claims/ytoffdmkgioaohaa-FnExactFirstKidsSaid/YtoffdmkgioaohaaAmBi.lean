/- Code one step at a time, with what follows kept aside. -/
import Derived.Test.YtoffdmkgioaohaaAmBh
namespace Go.AM

section
variable {cf : Cfg} {H : Handler} {fn : FuncId} {σ : St} {Q : Ex → St → Prop} {a b r : Code}

theorem WP.parts (h : WP cf H fn (.seq a b) σ Q) : WP cf H fn a σ fun ex σ' => match ex with | .normal => WP cf H fn b σ' Q | ex => Q ex σ' := by
  obtain ⟨k, ex, σ', e1, e2⟩ := h
  cases k with
  | zero => simp [runC] at e1
  | succ k =>
    simp only [runC] at e1
    cases hx : runC cf H fn k a σ with
    | none => rw [hx] at e1; cases e1
    | some y =>
      obtain ⟨e3, s3⟩ := y
      rw [hx] at e1
      cases e3 with
      | normal => exact ⟨k, .normal, s3, hx, k, ex, σ', e1, e2⟩
      | exit i => simp only at e1; cases e1; exact ⟨k, _, _, hx, e2⟩
      | ret => simp only at e1; cases e1; exact ⟨k, _, _, hx, e2⟩

theorem WP.assoc (h : WP cf H fn (.seq a (.seq b r)) σ Q) : WP cf H fn (.seq (.seq a b) r) σ Q := by
  refine WP.seq (WP.seq (h.parts.mono ?_))
  intro ex s hs
  cases ex with
  | normal => exact WP.parts hs
  | exit i => exact hs
  | ret => exact hs

theorem Keep.use {p K : St → Prop} (h : Keep p K) {s : St} (hp : p s) : K s := h s hp
theorem WP.textK {id : Nat} {ops : Array Oper} (ht : cf.tk1 fn = []) (h : ∀ K : St → Prop, Keep (Q .normal) K → EV cf H fn ops ops.toList σ K) : WP cf H fn (.region id ops false) σ Q :=
  WP.text ht (h _ Keep.self)
theorem WP.drawnK {id : Nat} {ops : Array Oper} (ht : cf.tk1 fn = []) (h : ∀ K : St → Prop, Keep (Q .normal) K → TV cf H fn ops ops.toList σ [] K) : WP cf H fn (.region id ops true) σ Q :=
  WP.drawn ht (h _ Keep.self)
theorem WP.textBK {id : Nat} {ops : Array Oper} (h : ∀ K : St → Prop, Keep (Q .normal) K → EV cf H fn ops ops.toList σ fun σ' => K (putBack cf fn ops σ')) : WP cf H fn (.region id ops false) σ Q :=
  WP.textB (h _ Keep.self)
theorem WP.skipS (h : WP cf H fn r σ Q) : WP cf H fn (.seq .skip r) σ Q := WP.seq (WP.skip h)
theorem WP.retS (h : Q .ret σ) : WP cf H fn (.seq .ret r) σ Q := WP.seq (WP.ret h)
theorem WP.exitS {id : Nat} (h : Q (.exit id) σ) : WP cf H fn (.seq (.exit id) r) σ Q := WP.seq (WP.exit h)

/-- one way of two, the rest behind each -/
theorem WP.condS {c : Operand} {t : Bool} (hc : σ.get c = .c (.bool t)) (h1 : t = true → WP cf H fn (.seq a r) σ Q) (h2 : t = false → WP cf H fn (.seq b r) σ Q) : WP cf H fn (.seq (.cond c a b) r) σ Q := by
  refine WP.seq (WP.cond hc ?_)
  cases t with
  | true => exact (h1 rfl).parts
  | false => exact (h2 rfl).parts
theorem WP.condE {c : Operand} {t : Bool} (hc : σ.get c = .c (.bool t)) (h1 : t = true → WP cf H fn a σ Q) (h2 : t = false → WP cf H fn b σ Q) : WP cf H fn (.cond c a b) σ Q := by
  refine WP.cond hc ?_
  cases t with
  | true => exact h1 rfl
  | false => exact h2 rfl

theorem WP.blockS {id : Nat} (h : ∀ K : St → Prop, Keep (fun s => WP cf H fn r s Q) K → WP cf H fn b σ fun ex σ' => match ex with | .normal => K σ' | .exit i => if i = id then K σ' else Q (.exit i) σ' | .ret => Q .ret σ') :
    WP cf H fn (.seq (.block id b) r) σ Q := by
  refine WP.seq (WP.block ((h (fun s => WP cf H fn r s Q) Keep.self).mono ?_))
  intro ex s hs
  cases ex with
  | normal => exact hs
  | exit i =>
    simp only at hs ⊢
    split
    · rename_i e; rw [if_pos e] at hs; exact hs
    · rename_i e; rw [if_neg e] at hs; exact hs
  | ret => exact hs
theorem WP.blockE {id : Nat} (h : WP cf H fn b σ fun ex σ' => match ex with | .normal => Q .normal σ' | .exit i => if i = id then Q .normal σ' else Q (.exit i) σ' | .ret => Q .ret σ') :
    WP cf H fn (.block id b) σ Q := by
  refine WP.block (h.mono ?_)
  intro ex s hs
  cases ex with
  | normal => exact hs
  | exit i => exact hs
  | ret => exact hs

theorem WP.blockK {id : Nat} (h : ∀ K : St → Prop, Keep (Q .normal) K → WP cf H fn b σ fun ex σ' => match ex with | .normal => K σ' | .exit i => if i = id then K σ' else Q (.exit i) σ' | .ret => Q .ret σ') :
    WP cf H fn (.block id b) σ Q := WP.blockE (h _ Keep.self)

/-- a round's end: what holds at the head -/
def Again {ι : Type} (I : ι → St → Prop) (m : ι → Nat) (i : ι) (σ : St) : Prop := ∃ j, m j < m i ∧ I j σ
theorem WP.loopI {ι : Type} (I : ι → St → Prop) (m : ι → Nat) (i : ι) (h0 : I i σ)
    (step : ∀ i σ, I i σ → WP cf H fn b σ fun ex σ' => match ex with | .normal => Again I m i σ' | ex => Q ex σ') : WP cf H fn (.loop b) σ Q :=
  WP.loop I m i h0 step

end
end Go.AM
