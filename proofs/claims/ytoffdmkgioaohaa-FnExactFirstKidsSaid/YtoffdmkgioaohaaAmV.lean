/- Calls: the call itself. -/
import Derived.Test.YtoffdmkgioaohaaAmU
namespace Go.AM

section
variable {P : Program} {o : Oper} {σ : St} {a : Act} {h : HS}

theorem run_call {w : World} {c : Call} {x : Operand} {f : FuncId} {F : Func} {caps : Array Value} (hop : o.op = .call c) (hc : c.callee = .value x) (hx : a.eval x = .func (.func f) #[] caps)
    (hF : P.funcs[f]? = some F) (hn : (F.name == "runtime.NumGoroutine" || F.body.isNone) = false) :
    (execOp a.eval o).run P w = .ok (.enter f (c.args.map a.eval ++ caps)) w := by
  have h1 : (F.name == "runtime.NumGoroutine") = false := (Bool.or_eq_false_iff.1 hn).1
  have h2 : F.body.isNone = false := (Bool.or_eq_false_iff.1 hn).2
  have e : execOp a.eval o = callFunc f (c.args.map a.eval ++ caps) := by
    unfold execOp
    simp [hop, resolve, hc, Deferred.ofValue, invoke, hx]
  rw [e]
  have h1' : F.name ≠ "runtime.NumGoroutine" := by simpa using h1
  have h2' : F.body ≠ none := by rintro e0; rw [e0] at h2; cases h2
  simp [callFunc, program, Sem.run, hF, h1', h2']


/-- objects that are set one behind the other, each once -/
theorem setObj_fold : ∀ (l : List (Nat × Option Ob × Nat)) (s : St), (l.map (·.1)).Nodup →
    (∀ x ∈ l, (l.foldl St.setObj s).objs x.1 = x.2.1 ∧ (l.foldl St.setObj s).gens x.1 = x.2.2) ∧
    (∀ o, o ∉ l.map (·.1) → (l.foldl St.setObj s).objs o = s.objs o ∧ (l.foldl St.setObj s).gens o = s.gens o) ∧ (l.foldl St.setObj s).ep = s.ep
  | [], s, _ => ⟨by simp, fun _ _ => ⟨rfl, rfl⟩, rfl⟩
  | y :: l, s, nd => by
    simp only [List.map_cons, List.nodup_cons] at nd
    obtain ⟨h1, h2, h3⟩ := setObj_fold l (s.setObj y) nd.2
    simp only [List.foldl_cons]
    refine ⟨?_, ?_, h3⟩
    · intro x hx
      rcases List.mem_cons.1 hx with rfl | hx
      · obtain ⟨k1, k2⟩ := h2 x.1 nd.1
        exact ⟨by rw [k1]; simp [St.setObj], by rw [k2]; simp [St.setObj]⟩
      · exact h1 x hx
    · intro o ho
      simp only [List.map_cons, List.mem_cons, not_or] at ho
      obtain ⟨k1, k2⟩ := h2 o ho.2
      exact ⟨by rw [k1]; simp [St.setObj, ho.1], by rw [k2]; simp [St.setObj, ho.1]⟩


theorem backObjs_get {d : Nat} {T : List Nat} {nn : Nat} : ∀ {k : Nat} {outs : List (Nat × Option Ob)} {l : List (Nat × Option Ob × Nat)}, backObjs σ d T nn k outs = some l →
    ∀ (j g : Nat) (ob : Option Ob), outs[j]? = some (g, ob) → (ob = none → ∃ o, T[k + j]? = some o ∧ (isNew d nn o = true ∨ (o, none, σ.gens o + g) ∈ l)) ∧
      ∀ ob0, ob = some ob0 → ∃ o g' ob1, outMap σ d T nn (k + j) g = some (o, g') ∧ renOb outTag (outMap σ d T nn) ob0 = some ob1 ∧ (o, some ob1, g') ∈ l
  | k, [], l, hb, j, g, ob, hj => by simp at hj
  | k, (g0, none) :: rest, l, hb, j, g, ob, hj => by
    simp only [backObjs] at hb
    split at hb
    · rename_i o rest' h1 h2
      have ih := backObjs_get h2
      cases j with
      | zero =>
        simp at hj
        obtain ⟨rfl, rfl⟩ := hj
        refine ⟨fun _ => ⟨o, by simpa using h1, ?_⟩, by simp⟩
        split at hb
        · rename_i hn; exact .inl hn
        · cases hb; exact .inr (by simp)
      | succ j =>
        obtain ⟨i1, i2⟩ := ih j g ob (by simpa using hj)
        rw [show k + (j + 1) = k + 1 + j by omega]
        split at hb
        · cases hb; exact ⟨i1, i2⟩
        · cases hb
          refine ⟨fun e => ?_, fun ob0 e => ?_⟩
          · obtain ⟨o', q1, q2⟩ := i1 e; exact ⟨o', q1, q2.imp id fun h => by simp [h]⟩
          · obtain ⟨o', g', ob1, q1, q2, q3⟩ := i2 ob0 e; exact ⟨o', g', ob1, q1, q2, by simp [q3]⟩
    · cases hb
  | k, (g0, some ob0) :: rest, l, hb, j, g, ob, hj => by
    simp only [backObjs] at hb
    split at hb
    · rename_i o g' ob1 rest' h1 h2 h3
      cases hb
      have ih := backObjs_get h3
      cases j with
      | zero =>
        simp at hj
        obtain ⟨rfl, rfl⟩ := hj
        exact ⟨by simp, fun _ e => by cases e; exact ⟨o, g', ob1, by simpa using h1, h2, by simp⟩⟩
      | succ j =>
        obtain ⟨i1, i2⟩ := ih j g ob (by simpa using hj)
        rw [show k + (j + 1) = k + 1 + j by omega]
        refine ⟨fun e => ?_, fun ob0 e => ?_⟩
        · obtain ⟨o', q1, q2⟩ := i1 e; exact ⟨o', q1, q2.imp id fun h => by simp [h]⟩
        · obtain ⟨o', g', ob1, q1, q2, q3⟩ := i2 ob0 e; exact ⟨o', g', ob1, q1, q2, by simp [q3]⟩
    · cases hb


/-- the object's place behind a call, by its number -/
def placeOf (d : Nat) (T : List Nat) (nn j o : Nat) : Prop :=
  (T[j]? = some o ∧ isNew d nn o = false) ∨ (T.length ≤ j ∧ j < T.length + nn ∧ o = site d (j - T.length))

theorem placeOf_inj {d : Nat} {T : List Nat} {nn i j o : Nat} (nd : T.Nodup) (h1 : placeOf d T nn i o) (h2 : placeOf d T nn j o) : i = j := by
  have new : ∀ {k : Nat}, T.length ≤ k → k < T.length + nn → isNew d nn (site d (k - T.length)) = true := by
    intro k k1 k2
    simp only [isNew, List.any_eq_true, List.mem_range, beq_iff_eq]
    exact ⟨k - T.length, by omega, rfl⟩
  rcases h1 with ⟨a1, a2⟩ | ⟨a1, a2, a3⟩ <;> rcases h2 with ⟨b1, b2⟩ | ⟨b1, b2, b3⟩
  · exact (List.getElem?_inj (List.getElem?_eq_some_iff.1 a1).1 nd).1 (a1.trans b1.symm)
  · subst b3; rw [new b1 b2] at a2; cases a2
  · subst a3; rw [new a1 a2] at b2; cases b2
  · rw [a3] at b3; simp only [site] at b3; omega


theorem outMap_place {d : Nat} {T : List Nat} {nn k g o g' : Nat} (hm : outMap σ d T nn k g = some (o, g')) : placeOf d T nn k o := by
  unfold outMap at hm
  split at hm
  · rename_i o' hT
    split at hm
    · cases hm
    · rename_i hn; cases hm; exact .inl ⟨hT, by simpa using hn⟩
  · rename_i hT
    split at hm
    · rename_i hk; cases hm
      exact .inr ⟨List.getElem?_eq_none_iff.1 hT, hk, rfl⟩
    · cases hm

theorem backObjs_ids {d : Nat} {T : List Nat} {nn : Nat} (nd : T.Nodup) : ∀ {k : Nat} {outs : List (Nat × Option Ob)} {l : List (Nat × Option Ob × Nat)}, backObjs σ d T nn k outs = some l →
    (∀ x ∈ l, ∃ j, k ≤ j ∧ placeOf d T nn j x.1) ∧ (l.map (·.1)).Nodup
  | k, [], l, hb => by simp [backObjs] at hb; subst hb; simp
  | k, (g0, none) :: rest, l, hb => by
    simp only [backObjs] at hb
    split at hb
    · rename_i o rest' h1 h2
      obtain ⟨i1, i2⟩ := backObjs_ids nd h2
      split at hb
      · cases hb
        exact ⟨fun x hx => by obtain ⟨j, q1, q2⟩ := i1 x hx; exact ⟨j, by omega, q2⟩, i2⟩
      · rename_i hn
        cases hb
        have hp : placeOf d T nn k o := .inl ⟨h1, by simpa using hn⟩
        refine ⟨?_, ?_⟩
        · intro x hx
          rcases List.mem_cons.1 hx with rfl | hx
          · exact ⟨k, Nat.le_refl _, hp⟩
          · obtain ⟨j, q1, q2⟩ := i1 x hx; exact ⟨j, by omega, q2⟩
        · simp only [List.map_cons, List.nodup_cons]
          refine ⟨?_, i2⟩
          intro hm
          obtain ⟨x, hx, he⟩ := List.mem_map.1 hm
          obtain ⟨j, q1, q2⟩ := i1 x hx
          rw [he] at q2
          have := placeOf_inj nd hp q2
          omega
    · cases hb
  | k, (g0, some ob0) :: rest, l, hb => by
    simp only [backObjs] at hb
    split at hb
    · rename_i o g' ob1 rest' h1 h2 h3
      cases hb
      obtain ⟨i1, i2⟩ := backObjs_ids nd h3
      have hp := outMap_place h1
      refine ⟨?_, ?_⟩
      · intro x hx
        rcases List.mem_cons.1 hx with rfl | hx
        · exact ⟨k, Nat.le_refl _, hp⟩
        · obtain ⟨j, q1, q2⟩ := i1 x hx; exact ⟨j, by omega, q2⟩
      · simp only [List.map_cons, List.nodup_cons]
        refine ⟨?_, i2⟩
        intro hm
        obtain ⟨x, hx, he⟩ := List.mem_map.1 hm
        obtain ⟨j, q1, q2⟩ := i1 x hx
        rw [he] at q2
        have := placeOf_inj nd hp q2
        omega
    · cases hb

end
end Go.AM
