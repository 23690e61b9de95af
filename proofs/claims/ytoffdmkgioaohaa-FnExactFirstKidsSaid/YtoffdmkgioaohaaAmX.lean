/- Calls: every call of a function whose answer is told. -/
import Derived.Test.YtoffdmkgioaohaaAmW
namespace Go.AM

section
variable {P : Program} {o : Oper} {σ : St} {a : Act} {h : HS}

theorem setObj_slots : ∀ (l : List (Nat × Option Ob × Nat)) (s : St), (l.foldl St.setObj s).slots = s.slots
  | [], _ => rfl
  | x :: l, s => by simp only [List.foldl_cons]; rw [setObj_slots l]; rfl

theorem apply_slots (σ : St) (d : Option Tmp) (δ : Delta) : (σ.apply d δ).slots = (σ.put d δ.val).slots := by
  cases d <;> simp only [St.apply, St.put] <;> split <;> simp [setObj_slots]
theorem apply_objs (σ : St) (d : Option Tmp) (δ : Delta) : (σ.apply d δ).objs = (δ.objs.foldl St.setObj σ).objs := by
  cases d <;> simp only [St.apply, St.put] <;> split <;> rfl
theorem apply_gens (σ : St) (d : Option Tmp) (δ : Delta) : (σ.apply d δ).gens = (δ.objs.foldl St.setObj σ).gens := by
  cases d <;> simp only [St.apply, St.put] <;> split <;> rfl
theorem setObj_ep : ∀ (l : List (Nat × Option Ob × Nat)) (s : St), (l.foldl St.setObj s).ep = s.ep
  | [], _ => rfl
  | x :: l, s => by simp only [List.foldl_cons]; rw [setObj_ep l]; rfl
theorem apply_ep (σ : St) (d : Option Tmp) (δ : Delta) : (σ.apply d δ).ep = if δ.ep then σ.ep + 1 else σ.ep := by
  cases d <;> simp only [St.apply, St.put] <;> split <;> simp [setObj_ep]

theorem told_call {c : Call} {x : Operand} {d f : Nat} {F : Func} {caps as : List AV} {T : List Nat} {obs : List Ob} {v v' : AV} {outs : List (Nat × Option Ob)} {nn : Nat} {l : List (Nat × Option Ob × Nat)} {ep : Bool}
    (r : Rel σ a h) (hd : ∀ t, o.dst = some t → t < a.tmps.size) (hop : o.op = .call c) (hcx : c.callee = .value x) (hx : σ.get x = .fn f caps)
    (hF : P.funcs[f]? = some F) (hn : (F.name == "runtime.NumGoroutine" || F.body.isNone) = false) (nd : T.Nodup) (hp : passObjs σ T T = some obs)
    (has : ∀ vs, VRs h (AM.vals σ c.args ++ caps) vs → VRs (h.callee T obs) as vs) (told : Told P f as obs (v, outs)) (hlen : outs.length = T.length + nn)
    (hb : backObjs σ d T nn 0 outs = some l) (hv : ren3 outTag (outMap σ d T nn) v = some v')
    (hep : ep = false ∧ (∀ o ∈ T, ∀ ob, h.objs o = some ob → h.sub o = []) ∨ ep = true) : OpOK P o σ { val := v', objs := l, ep := ep } a h := by
  have kx := r.get x
  rw [hx] at kx
  generalize hex : a.eval x = ex at kx
  cases kx with
  | fn _ _ cvs hcaps =>
    have hrun := run_call (P := P) (a := a) (o := o) (w := h.w) hop hcx hex hF hn
    have hargs := has _ ((r.vals c.args).append hcaps)
    refine ⟨fun a' w' => ∃ u h1, a' = a.put o.dst u ∧ Back (h.callee T obs) h1 w' obs.length outs ∧ VR h1 v u, fun Q => ?_, ?_⟩
    · unfold Oper.wp
      rw [hrun, Oper.upon_enter]
      have := told (h.callee T obs) _ (callee_ok r hp nd) rfl rfl rfl hargs
      have e : ((c.args.map a.eval).toList ++ cvs).toArray = c.args.map a.eval ++ cvs.toArray := by simp
      rw [e] at this
      refine Calls.mono this ?_
      intro e w' he
      cases e with
      | returned u => obtain ⟨h1, k1, k2⟩ := he; exact ⟨u, h1, rfl, k1, k2⟩
      | panicked => exact he.elim
      | outgrown => exact he.elim
    · rintro a' w' ⟨u, h1, rfl, bk, hu⟩
      have bh : Behind σ d T nn outs (σ.apply o.dst { val := v', objs := l, ep := ep }) := behind_of nd hb (apply_objs _ _ _) (apply_gens _ _ _)
      obtain ⟨ok, ev, ren⟩ := behind_ok r nd hp hlen bk bh (by
        rw [apply_ep]
        rcases hep with ⟨rfl, k⟩ | rfl
        · exact .inl ⟨rfl, k⟩
        · exact .inr (by simp))
      refine ⟨put_size _ _ _, h.behind h1 d T nn (σ.apply o.dst { val := v', objs := l, ep := ep }), bk.w, ⟨rfl, rfl, rfl, ok, ?_, by rw [put_defers]; exact r.defers⟩, ev⟩
      intro i
      rw [apply_slots]
      exact put_slots (fun i => (r.slots i).ev ev) hd (ren.three hu hv) i

theorem ok_call {cf : Cfg} {H : Handler} (hH : ∀ f args T out, H f args T = some out → Told cf.P f args T out)
    (r : Rel σ a h) (hd : ∀ t, o.dst = some t → t < a.tmps.size) : CallOK cf H o σ a h := by
  intro c x d f caps δ hop hcx hdst hx hev
  unfold opCall at hev
  split at hev
  · rename_i F hF
    split at hev
    · cases hev
    · rename_i hn
      have hn : (F.name == "runtime.NumGoroutine" || F.body.isNone) = false := eq_false_of_ne_true hn
      split at hev
      · split at hev
        · rename_i as h1
          split at hev
          · rename_i v obs h2
            split at hev
            · cases hev
            · split at hev
              · rename_i v' obs' h3 h4
                cases hev
                have hp : passObjs σ [] [] = some [] := rfl
                refine told_call (T := []) (obs := []) r hd hop hcx hx hF hn .nil hp ?_ (hH _ _ _ _ h2) (by simp) h4 h3 (.inl ⟨rfl, by simp⟩)
                intro vs hvs
                have seen : Seen σ σ h (h.callee [] []) := callee_seen r hp (by simp) rfl (.inl ⟨rfl, by simp⟩)
                exact nrmArgs_VR _ _ _ (VRs.mapM (fun _ _ _ => view_ok r.ok seen 6) hvs h1)
              · cases hev
          · cases hev
        · cases hev
      · rename_i mv hmv
        simp only at hev
        split at hev
        · cases hev
        · rename_i hfl
          split at hev
          · rename_i as obs h1 h2
            split at hev
            · rename_i v outs h3
              split at hev
              · cases hev
              · rename_i hlen
                split at hev
                · rename_i v' obs' h4 h5
                  cases hev
                  have hflat : cf.fl f = true → ∀ o ∈ withBoxes σ.objs (movedRefs (cf.mv f) 0 (AM.vals σ c.args ++ caps)), ∀ ob, h.objs o = some ob → h.sub o = [] := by
                    intro hf o ho ob hob
                    have : (withBoxes σ.objs (movedRefs (cf.mv f) 0 (AM.vals σ c.args ++ caps))).all (fun o => flatOb (σ.objs o)) = true := by
                      cases hq : (withBoxes σ.objs (movedRefs (cf.mv f) 0 (AM.vals σ c.args ++ caps))).all (fun o => flatOb (σ.objs o)) with
                      | true => rfl
                      | false => exact absurd ⟨hf, hq⟩ hfl
                    have := List.all_eq_true.1 this o ho
                    rw [← r.objs, hob] at this
                    exact flat_sub r.ok hob this
                  have hol : obs.length = (withBoxes σ.objs (movedRefs (cf.mv f) 0 (AM.vals σ c.args ++ caps))).length := (passObjs_get h2).1
                  refine told_call r hd hop hcx hx hF hn (withBoxes_nodup _ _) h2 ?_ (hH _ _ _ _ h3) (by omega) h5 h4 ?_
                  · intro vs hvs
                    have seen := callee_seen (σv := { σ with objs := fun o => if (withBoxes σ.objs (movedRefs (cf.mv f) 0 (AM.vals σ c.args ++ caps))).contains o then none else σ.objs o, ep := if cf.fl f then σ.ep else σ.ep + 1 })
                      r h2 rfl rfl (by
                        cases hf : cf.fl f with
                        | true => exact .inl ⟨by simp, hflat hf⟩
                        | false => exact .inr (by simp))
                    exact nrmArgs_VR _ _ _ (passArgs_ok r h2 seen _ hvs h1)
                  · cases hf : cf.fl f with
                    | true => exact .inl ⟨rfl, hflat hf⟩
                    | false => exact .inr rfl
                · cases hev
            · cases hev
          · cases hev
  · cases hev

end
end Go.AM
