/- Equations for calls. -/
import Derived.Test.YtoffdmkgioaohaaAmBe
namespace Go.AM

def viewAll (σ : St) : List AV → Option (List AV)
  | [] => some []
  | v :: vs => match σ.view 6 v with
    | some x => match viewAll σ vs with
      | some xs => some (x :: xs)
      | none => none
    | none => none
theorem viewAll_eq (σ : St) : ∀ vs : List AV, vs.mapM (σ.view 6) = viewAll σ vs
  | [] => rfl
  | v :: vs => by
    rw [List.mapM_cons, viewAll_eq σ vs]
    simp only [viewAll]
    cases σ.view 6 v with
    | none => rfl
    | some x => cases viewAll σ vs <;> rfl
/-- some values as they are seen -/
def viewsK (σ : St) (k : Nat) : List AV → Option (List AV)
  | [] => some []
  | v :: vs => match σ.view k v with
    | some x => match viewsK σ k vs with
      | some xs => some (x :: xs)
      | none => none
    | none => none
theorem viewsK_eq (σ : St) (k : Nat) : ∀ vs : List AV, vs.mapM (σ.view k) = viewsK σ k vs
  | [] => rfl
  | v :: vs => by
    rw [List.mapM_cons, viewsK_eq σ k vs]
    simp only [viewsK]
    cases σ.view k v with
    | none => rfl
    | some x => cases viewsK σ k vs <;> rfl

/-- what comes back of a call -/
def ans (σ : St) (e : Nat) (T : List Nat) (ep : Bool) : Option Out → Option Delta
  | some (v, obs) =>
    if obs.length < T.length ∨ 8 < obs.length - T.length then none else
    match ren3 outTag (outMap σ e T (obs.length - T.length)) v, backObjs σ e T (obs.length - T.length) 0 obs with
    | some v', some obs' => some ⟨v', obs', ep⟩
    | _, _ => none
  | none => none

def callP (P : Program) (σ : St) (e : Nat) (h : List AV → List Ob → Option Out) (ts : List TypeId) : Option (List AV) → Option Delta
  | some as => ans σ e [] false (h (nrmArgs P [] 0 ts as) [])
  | none => none

def callM (P : Program) (σ : St) (e : Nat) (fl : Bool) (mv : List Nat) (h : List AV → List Ob → Option Out) (ts : List TypeId) (args : List AV) (T : List Nat) : Option Delta :=
  if fl = true ∧ T.all (fun o => flatOb (σ.objs o)) = false then none else
  match passArgs σ T { σ with objs := fun o => if T.contains o then none else σ.objs o, ep := if fl then σ.ep else σ.ep + 1 } mv 0 args with
  | some as => match passObjs σ T T with
    | some obs => ans σ e T (!fl) (h (nrmArgs P mv 0 ts as) obs)
    | none => none
  | none => none

section
variable {cf : Cfg} {H : Handler} {σ : St}

theorem call_pure {f e : Nat} {F : Func} {ts : List TypeId} {args : List AV} (hF : cf.P.funcs[f]? = some F) (hn : (F.name == "runtime.NumGoroutine" || F.body.isNone) = false) (hts : F.params.toList = ts) (hm : cf.mv f = []) :
    opCall cf H σ e f args = callP cf.P σ e (H f) ts (viewAll σ args) := by
  unfold opCall
  rw [hF]
  simp only [hn, Bool.false_eq_true, if_false, hm, viewAll_eq, hts]
  cases viewAll σ args with
  | none => rfl
  | some as =>
    simp only [callP]
    cases H f (nrmArgs cf.P [] 0 ts as) [] with
    | none => rfl
    | some out =>
      obtain ⟨v, obs⟩ := out
      simp only [ans, List.length_nil, Nat.not_lt_zero, false_or, Nat.sub_zero]
      split
      · rfl
      · split <;> simp_all

theorem call_moved {f e : Nat} {F : Func} {ts : List TypeId} {args : List AV} {m : Nat} {mv : List Nat} {fl : Bool} (hF : cf.P.funcs[f]? = some F) (hn : (F.name == "runtime.NumGoroutine" || F.body.isNone) = false) (hts : F.params.toList = ts)
    (hm : cf.mv f = m :: mv) (hfl : cf.fl f = fl) :
    opCall cf H σ e f args = callM cf.P σ e fl (m :: mv) (H f) ts args (withBoxes σ.objs (movedRefs (m :: mv) 0 args)) := by
  unfold opCall
  rw [hF]
  simp only [hn, Bool.false_eq_true, if_false, hm, hts, hfl]
  unfold callM
  split
  · rfl
  · cases passArgs σ (withBoxes σ.objs (movedRefs (m :: mv) 0 args)) { σ with objs := fun o => if (withBoxes σ.objs (movedRefs (m :: mv) 0 args)).contains o then none else σ.objs o, ep := if fl then σ.ep else σ.ep + 1 } (m :: mv) 0 args with
    | none => rfl
    | some as =>
      simp only
      cases passObjs σ (withBoxes σ.objs (movedRefs (m :: mv) 0 args)) (withBoxes σ.objs (movedRefs (m :: mv) 0 args)) with
      | none => rfl
      | some obs =>
        simp only
        cases H f (nrmArgs cf.P (m :: mv) 0 ts as) obs with
        | none => rfl
        | some out =>
          obtain ⟨v, obs⟩ := out
          simp only [ans]
          split
          · rfl
          · split <;> simp_all

/-! #### views -/
theorem vw_c (k : Nat) (v : Value) : σ.view (k + 1) (.c v) = some (.c v) := rfl
theorem vw_fix (k : Nat) {t : Tag} {e : Nat} {rows : List (List AV)} (ht : t.fixed = true) : σ.view (k + 1) (.tr t e rows) = some (.tr t.up e rows) := by
  cases t <;> simp_all [Tag.fixed, Tag.up, St.view]
theorem vw_im (k : Nat) {e : Nat} {rows : List (List AV)} : σ.view (k + 1) (.tr .im e rows) = some (.tr .im e rows) := rfl
theorem vw_b1 (k : Nat) {e : Nat} {rows : List (List AV)} : σ.view (k + 1) (.tr .b1 e rows) = some (.tr .b1 e rows) := rfl
theorem vw_bo (k : Nat) {e : Nat} {rows : List (List AV)} : σ.view (k + 1) (.tr .bo e rows) = some (.tr .b1 e rows) := rfl
theorem vw_ep (k : Nat) {n e : Nat} {rows : List (List AV)} : σ.view (k + 1) (.tr (.ep n) e rows) = if n = σ.ep then some (.tr .bo e rows) else none := rfl
theorem vw_ipfix (k : Nat) {t : Tag} {cells : List AV} (ht : t.fixed = true) : σ.view (k + 1) (.ip t cells) = some (.ip t.up cells) := by
  cases t <;> simp_all [Tag.fixed, Tag.up, St.view]
theorem vw_ipep (k : Nat) {n : Nat} {cells : List AV} : σ.view (k + 1) (.ip (.ep n) cells) = if n = σ.ep then some (.ip .bo cells) else none := rfl
theorem vw_sl (k : Nat) {o g e off n : Nat} : σ.view (k + 1) (.sl o g e off n) = (σ.rows e (.sl o g e off n)).map (.tr .bo e) := rfl
def vwOb (σ : St) (k i j : Nat) : Option Ob → Option AV
  | some (.box cells) => if i = 0 ∧ j ≤ cells.length then (viewsK σ k (cells.drop j)).map .ib else none
  | some (.slice _ rows) => match rows[i]? with
    | some r => some (.ip .bo (r.drop j))
    | none => none
  | _ => none
theorem vw_ptr (k : Nat) {o g i j : Nat} : σ.view (k + 1) (.ptr o g i j) = if σ.gens o = g then vwOb σ k i j (σ.objs o) else none := by
  simp only [St.view, ← viewsK_eq, vwOb]
  split
  · cases σ.objs o with
    | none => rfl
    | some ob =>
      cases ob with
      | box cells => rfl
      | slice e rows => simp only; cases rows[i]? <;> rfl
      | map es => rfl
  · rfl
theorem vw_ib (k : Nat) {cells : List AV} : σ.view (k + 1) (.ib cells) = (viewsK σ k cells).map .ib := by simp only [St.view, viewsK_eq]
theorem vw_fn (k : Nat) {f : FuncId} {cells : List AV} : σ.view (k + 1) (.fn f cells) = (viewsK σ k cells).map (.fn f) := by simp only [St.view, viewsK_eq]
theorem vw_agg (k : Nat) {cells : List AV} : σ.view (k + 1) (.agg cells) = (viewsK σ k cells).map .agg := by simp only [St.view, viewsK_eq]
theorem vwK_nil (k : Nat) : viewsK σ k [] = some [] := rfl
theorem vwK_cons (k : Nat) (v : AV) (vs : List AV) : viewsK σ k (v :: vs) = match σ.view k v with
    | some x => match viewsK σ k vs with
      | some xs => some (x :: xs)
      | none => none
    | none => none := rfl
theorem rows_fix {t : Tag} {e e' : Nat} {rows : List (List AV)} (ht : t.fixed = true) : σ.rows e (.tr t e' rows) = if e' = e then some rows else none := by
  simp only [St.rows, tagOK_fixed ht, true_and]
theorem rows_ep {n e e' : Nat} {rows : List (List AV)} : σ.rows e (.tr (.ep n) e' rows) = if n = σ.ep ∧ e' = e then some rows else none := by
  simp [St.rows, St.tagOK]
def rowsOb (g g' e e' off n : Nat) : Option Ob → Option (List (List AV))
  | some (.slice _ rows) => if g' = g ∧ e' = e then some ((rows.drop off).take n) else none
  | _ => none
theorem rows_sl {o g e e' off n : Nat} : σ.rows e (.sl o g e' off n) = rowsOb g (σ.gens o) e e' off n (σ.objs o) := by
  simp only [St.rows]
  cases σ.objs o with
  | none => rfl
  | some ob => cases ob <;> rfl
theorem rows_nil {e : Nat} : σ.rows e (.c (.slice none 0 0)) = some [] := rfl

end
end Go.AM
