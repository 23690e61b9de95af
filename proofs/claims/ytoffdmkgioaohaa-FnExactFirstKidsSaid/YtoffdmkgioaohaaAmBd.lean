/- Words and equations for going through code by rewriting. -/
import Derived.Test.YtoffdmkgioaohaaAmBc
namespace Go.AM

abbrev I (n : Int) : AV := .c (.int .i64 n)
abbrev Bo (b : Bool) : AV := .c (.bool b)
abbrev Sg (s : ByteArray) : AV := .c (.string s)
abbrev nilS : AV := .c (.slice none 0 0)

def St.bump (σ : St) : St := { σ with ep := σ.ep + 1 }

/-- an operation, without what is said beside it -/
def opE (cf : Cfg) (H : Handler) (fn : FuncId) (d : Option Tmp) (op : Op) (σ : St) : Option Delta := evalOp cf H fn ⟨d, op, 0, "", #[], none⟩ σ

/-- operations in the order of the text, and what holds behind them -/
def EV (cf : Cfg) (H : Handler) (fn : FuncId) (ops : Array Oper) (l : List Oper) (σ : St) (K : St → Prop) : Prop := Opt (evalOps cf H fn ops l σ) K

/-- operations whose order is open -/
def TV (cf : Cfg) (H : Handler) (fn : FuncId) (ops : Array Oper) (l : List Oper) (σ : St) (tr : List (List Key × List Key)) (K : St → Prop) : Prop :=
  Opt (traceOps cf H fn ops l σ) fun x => freeOrder ops (tr.reverse ++ x.2) = true ∧ K x.1

/-- the slot that guards -/
def gslot (ops : Array Oper) (j : Nat) : Option Tmp := (ops[j]?).bind (·.dst)
def gslotL : List Oper → Nat → Option Tmp
  | [], _ => none
  | o :: _, 0 => o.dst
  | _ :: l, j + 1 => gslotL l j

/-- what follows, kept aside -/
def Keep (p K : St → Prop) : Prop := ∀ s, p s → K s
theorem Keep.self {p : St → Prop} : Keep p p := fun _ h => h

section
variable {cf : Cfg} {H : Handler} {fn : FuncId} {ops : Array Oper} {σ : St} {Q : Ex → St → Prop} {b : Code}

/-! #### steps -/

theorem WP.seqK {a : Code} (h : ∀ K : St → Prop, Keep (fun s => WP cf H fn b s Q) K → WP cf H fn a σ fun ex σ' => match ex with | .normal => K σ' | ex => Q ex σ') : WP cf H fn (.seq a b) σ Q :=
  WP.seq (h _ Keep.self)

theorem WP.text {id : Nat} (ht : cf.tk1 fn = []) (h : EV cf H fn ops ops.toList σ (Q .normal)) : WP cf H fn (.region id ops false) σ Q := by
  refine WP.region ?_
  obtain ⟨σ', h1, h2⟩ := h
  refine ⟨σ', ?_, h2⟩
  simp [evalRegion, h1, putBack, ht]

theorem WP.textS {id : Nat} (ht : cf.tk1 fn = []) (h : ∀ K : St → Prop, Keep (fun s => WP cf H fn b s Q) K → EV cf H fn ops ops.toList σ K) : WP cf H fn (.seq (.region id ops false) b) σ Q :=
  WP.seq (WP.text ht (h _ Keep.self))

theorem WP.textB {id : Nat} (h : EV cf H fn ops ops.toList σ fun σ' => Q .normal (putBack cf fn ops σ')) : WP cf H fn (.region id ops false) σ Q := by
  refine WP.region ?_
  obtain ⟨σ', h1, h2⟩ := h
  exact ⟨_, by simp only [evalRegion, Bool.false_eq_true, if_false, h1, Option.map_some], h2⟩

theorem WP.textSB {id : Nat} (h : ∀ K : St → Prop, Keep (fun s => WP cf H fn b s Q) K → EV cf H fn ops ops.toList σ fun σ' => K (putBack cf fn ops σ')) : WP cf H fn (.seq (.region id ops false) b) σ Q :=
  WP.seq (WP.textB (h _ Keep.self))

theorem WP.drawn {id : Nat} (ht : cf.tk1 fn = []) (h : TV cf H fn ops ops.toList σ [] (Q .normal)) : WP cf H fn (.region id ops true) σ Q := by
  refine WP.region ?_
  obtain ⟨⟨σ', tr⟩, h1, h2, h3⟩ := h
  refine ⟨σ', ?_, h3⟩
  simp only [List.reverse_nil, List.nil_append] at h2
  simp [evalRegion, h1, h2, putBack, ht]

theorem WP.drawnS {id : Nat} (ht : cf.tk1 fn = []) (h : ∀ K : St → Prop, Keep (fun s => WP cf H fn b s Q) K → TV cf H fn ops ops.toList σ [] K) : WP cf H fn (.seq (.region id ops true) b) σ Q :=
  WP.seq (WP.drawn ht (h _ Keep.self))

theorem opE_eq (o : Oper) : evalOp cf H fn o σ = opE cf H fn o.dst o.op σ := rfl

theorem ev_nil {K : St → Prop} : EV cf H fn ops [] σ K = K σ := by simp [EV, evalOps, Opt]
theorem opt_some {α : Type} {a : α} {p : α → Prop} : Opt (some a) p = p a := by simp [Opt]
theorem opt_none {α : Type} {p : α → Prop} : Opt none p = False := by simp [Opt]
theorem opt_map {α β : Type} {f : α → β} {x : Option α} {p : β → Prop} : Opt (x.map f) p = Opt x fun a => p (f a) := by
  cases x <;> simp [Opt]

/-- behind an operation -/
def EVk (cf : Cfg) (H : Handler) (fn : FuncId) (ops : Array Oper) (d : Option Tmp) (os : List Oper) (σ : St) (K : St → Prop) : Option Delta → Prop
  | some δ => EV cf H fn ops os (σ.apply d δ) K
  | none => False
theorem evk_some {d : Option Tmp} {os : List Oper} {K : St → Prop} (v : AV) (l : List (Nat × Option Ob × Nat)) (e : Bool) : EVk cf H fn ops d os σ K (some ⟨v, l, e⟩) = EV cf H fn ops os (σ.apply d ⟨v, l, e⟩) K := rfl
theorem evk_none {d : Option Tmp} {os : List Oper} {K : St → Prop} : EVk cf H fn ops d os σ K none = False := rfl

theorem ev_cons {d : Option Tmp} {op : Op} {t : TypeId} {ps : String} {af : Array Edge} {os : List Oper} {K : St → Prop} :
    EV cf H fn ops (⟨d, op, t, ps, af, none⟩ :: os) σ K = EVk cf H fn ops d os σ K (opE cf H fn d op σ) := by
  have e : evalOp cf H fn ⟨d, op, t, ps, af, none⟩ σ = opE cf H fn d op σ := rfl
  unfold EV
  simp only [evalOps, guardOf, e]
  cases opE cf H fn d op σ <;> simp [Opt, EVk, EV]

/-- what a guard says -/
def gb (g : Option Tmp) (σ : St) (want : Bool) : Option Bool :=
  match g with
  | some d => match σ.slots d with
    | .c (.bool b) => some (b == want)
    | .c _ => some false
    | _ => none
  | none => some false

theorem gb_eq {o : Oper} {j : Nat} {want : Bool} (hg : o.guard = some (j, want)) : guardOf ops o σ = gb (gslot ops j) σ want := by
  unfold guardOf gb gslot
  simp only [hg]
  cases (ops[j]?).bind (·.dst) with
  | none => rfl
  | some d =>
    simp only
    cases σ.slots d with
    | c v => cases v <;> rfl
    | _ => rfl

def EVb (cf : Cfg) (H : Handler) (fn : FuncId) (ops : Array Oper) (d : Option Tmp) (op : Op) (os : List Oper) (σ : St) (K : St → Prop) : Option Bool → Prop
  | some true => EVk cf H fn ops d os σ K (opE cf H fn d op σ)
  | some false => EV cf H fn ops os (σ.put d (.c undef)) K
  | none => False
theorem evb_true {d : Option Tmp} {op : Op} {os : List Oper} {K : St → Prop} : EVb cf H fn ops d op os σ K (some true) = EVk cf H fn ops d os σ K (opE cf H fn d op σ) := rfl
theorem evb_false {d : Option Tmp} {op : Op} {os : List Oper} {K : St → Prop} : EVb cf H fn ops d op os σ K (some false) = EV cf H fn ops os (σ.put d (.c undef)) K := rfl

theorem ev_guard {d : Option Tmp} {op : Op} {t : TypeId} {ps : String} {af : Array Edge} {j : Nat} {want : Bool} {os : List Oper} {K : St → Prop} :
    EV cf H fn ops (⟨d, op, t, ps, af, some (j, want)⟩ :: os) σ K = EVb cf H fn ops d op os σ K (gb (gslot ops j) σ want) := by
  have e : evalOp cf H fn ⟨d, op, t, ps, af, some (j, want)⟩ σ = opE cf H fn d op σ := rfl
  have g : guardOf ops ⟨d, op, t, ps, af, some (j, want)⟩ σ = gb (gslot ops j) σ want := gb_eq rfl
  unfold EV
  simp only [evalOps, e, g]
  cases gb (gslot ops j) σ want with
  | none => simp [Opt, EVb]
  | some b =>
    cases b with
    | false => simp [EVb, EV]
    | true => simp only [EVb]; cases opE cf H fn d op σ <;> simp [Opt, EVk, EV]

/-! #### open order: the same, with what is read and written -/

def rdKeys (d : Option Tmp) (op : Op) (gk : List Key) (σ : St) : List Key :=
  gk ++ op.operands.toList.flatMap slotKeys ++ opKeys op σ ++ loadKeys ⟨d, op, 0, "", #[], none⟩ σ ++ (match d with | some d => if makes op then (List.range 8).map fun k => .o (site d k) else [] | none => [])
def wrKeys (d : Option Tmp) (δ : Delta) : List Key := (match d with | some d => [Key.s d] | none => []) ++ δ.objs.map (fun x => Key.o x.1) ++ if δ.ep then [Key.e] else []

theorem tv_nil {tr : List (List Key × List Key)} {K : St → Prop} : TV cf H fn ops [] σ tr K = (freeOrder ops tr.reverse = true ∧ K σ) := by simp [TV, traceOps, Opt]

def TVk (cf : Cfg) (H : Handler) (fn : FuncId) (ops : Array Oper) (d : Option Tmp) (os : List Oper) (σ : St) (rd : List Key) (tr : List (List Key × List Key)) (K : St → Prop) : Option Delta → Prop
  | some δ => TV cf H fn ops os (σ.apply d δ) ((rd, wrKeys d δ) :: tr) K
  | none => False
theorem tvk_some {d : Option Tmp} {os : List Oper} {rd : List Key} {tr : List (List Key × List Key)} {K : St → Prop} (v : AV) (l : List (Nat × Option Ob × Nat)) (e : Bool) :
    TVk cf H fn ops d os σ rd tr K (some ⟨v, l, e⟩) = TV cf H fn ops os (σ.apply d ⟨v, l, e⟩) ((rd, wrKeys d ⟨v, l, e⟩) :: tr) K := rfl
theorem tv_cons {d : Option Tmp} {op : Op} {t : TypeId} {ps : String} {af : Array Edge} {os : List Oper} {tr : List (List Key × List Key)} {K : St → Prop} :
    TV cf H fn ops (⟨d, op, t, ps, af, none⟩ :: os) σ tr K = TVk cf H fn ops d os σ (rdKeys d op [] σ) tr K (opE cf H fn d op σ) := by
  have e : evalOp cf H fn ⟨d, op, t, ps, af, none⟩ σ = opE cf H fn d op σ := rfl
  have r : readKeys ops ⟨d, op, t, ps, af, none⟩ σ = rdKeys d op [] σ := rfl
  have wk : ∀ δ, writeKeys ⟨d, op, t, ps, af, none⟩ δ = wrKeys d δ := fun _ => rfl
  unfold TV
  simp only [traceOps, guardOf, e]
  cases opE cf H fn d op σ with
  | none => simp [Opt, TVk]
  | some δ =>
    simp only [TVk, TV]
    cases traceOps cf H fn ops os (σ.apply d δ) with
    | none => simp [Opt]
    | some x => simp only [opt_some, r, wk, List.reverse_cons, List.append_assoc, List.singleton_append]

def gkeys (g : Option Tmp) : List Key := match g with | some d => [.s d] | none => []

def TVb (cf : Cfg) (H : Handler) (fn : FuncId) (ops : Array Oper) (d : Option Tmp) (op : Op) (os : List Oper) (σ : St) (gk : List Key) (tr : List (List Key × List Key)) (K : St → Prop) : Option Bool → Prop
  | some true => TVk cf H fn ops d os σ (rdKeys d op gk σ) tr K (opE cf H fn d op σ)
  | some false => TV cf H fn ops os (σ.put d (.c undef)) ((gk, gkeys d) :: tr) K
  | none => False
theorem tvb_true {d : Option Tmp} {op : Op} {os : List Oper} {gk : List Key} {tr : List (List Key × List Key)} {K : St → Prop} :
    TVb cf H fn ops d op os σ gk tr K (some true) = TVk cf H fn ops d os σ (rdKeys d op gk σ) tr K (opE cf H fn d op σ) := rfl
theorem tvb_false {d : Option Tmp} {op : Op} {os : List Oper} {gk : List Key} {tr : List (List Key × List Key)} {K : St → Prop} :
    TVb cf H fn ops d op os σ gk tr K (some false) = TV cf H fn ops os (σ.put d (.c undef)) ((gk, gkeys d) :: tr) K := rfl

theorem tv_guard {d : Option Tmp} {op : Op} {t : TypeId} {ps : String} {af : Array Edge} {j : Nat} {want : Bool} {os : List Oper} {tr : List (List Key × List Key)} {K : St → Prop} :
    TV cf H fn ops (⟨d, op, t, ps, af, some (j, want)⟩ :: os) σ tr K = TVb cf H fn ops d op os σ (gkeys (gslot ops j)) tr K (gb (gslot ops j) σ want) := by
  have e : evalOp cf H fn ⟨d, op, t, ps, af, some (j, want)⟩ σ = opE cf H fn d op σ := rfl
  have r : readKeys ops ⟨d, op, t, ps, af, some (j, want)⟩ σ = rdKeys d op (gkeys (gslot ops j)) σ := rfl
  have wk : ∀ δ, writeKeys ⟨d, op, t, ps, af, some (j, want)⟩ δ = wrKeys d δ := fun _ => rfl
  have g : guardKeys ops ⟨d, op, t, ps, af, some (j, want)⟩ = gkeys (gslot ops j) := rfl
  have gg : guardOf ops ⟨d, op, t, ps, af, some (j, want)⟩ σ = gb (gslot ops j) σ want := gb_eq rfl
  unfold TV
  simp only [traceOps, e, gg]
  cases gb (gslot ops j) σ want with
  | none => simp [Opt, TVb]
  | some b =>
    cases b with
    | false =>
      simp only [TVb, TV]
      cases traceOps cf H fn ops os (σ.put d (.c undef)) with
      | none => simp [Opt]
      | some x => simp only [opt_some, g, List.reverse_cons, List.append_assoc, List.singleton_append]; cases d <;> rfl
    | true =>
      simp only [TVb]
      cases opE cf H fn d op σ with
      | none => simp [Opt, TVk]
      | some δ =>
        simp only [TVk, TV]
        cases traceOps cf H fn ops os (σ.apply d δ) with
        | none => simp [Opt]
        | some x => simp only [opt_some, r, wk, List.reverse_cons, List.append_assoc, List.singleton_append]

end
end Go.AM
