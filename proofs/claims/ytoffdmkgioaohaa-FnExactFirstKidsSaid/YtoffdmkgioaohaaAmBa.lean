/- Whole regions, and code. -/
import Derived.Test.YtoffdmkgioaohaaAmZ
namespace Go.AM

section
variable {P : Program} {ops : Array Oper} {σ σ' : St} {a : Act} {h : HS} {cf : Cfg} {H : Handler} {fn : FuncId}

theorem spliceV_self {l : List Value} {k : Nat} {v : Value} (hk : l[k]? = some v) : spliceV l k [v] = l := by
  obtain ⟨h1, h2⟩ := List.getElem?_eq_some_iff.1 hk
  unfold spliceV
  rw [List.append_assoc, List.singleton_append, ← h2]
  have : l.drop k = l[k] :: l.drop (k + 1) := List.drop_eq_getElem_cons h1
  simp only [List.length_singleton]
  rw [← this, List.take_append_drop]

theorem splice_set {r : List AV} {j : Nat} {x : AV} (hj : j < r.length) : r.set j x = splice r j [x] := by
  unfold splice
  rw [List.set_eq_take_append_cons_drop, if_pos hj]
  simp

/-- two objects: the one gets back what the other one was -/
def HS.given (h : HS) (p q : Nat) (ob : Ob) (sub : List Nat) : HS :=
  { h with objs := fun o => if o = q then none else if o = p then some ob else h.objs o, sub := fun o => if o = p then sub else h.sub o }

theorem putBack1_ok (r : Rel σ a h) (ds : List Nat) (o : Oper) : ∃ h', h'.w = h.w ∧ Rel (putBack1 ds σ o) a h' ∧ Ev h h' := by
  have same : ∃ h', h'.w = h.w ∧ Rel σ a h' ∧ Ev h h' := ⟨h, rfl, r, Ev.refl h⟩
  unfold putBack1
  split
  · rename_i t p d hop hdst
    split
    · split
      · rename_i ob g i j e' rows' hp ho2
        split
        · rename_i e rows hob
          split
          · rename_i row hrow
            split
            · rename_i o2 g2 e2 off n hcell
              split
              · rename_i hc
                obtain ⟨rfl, rfl, rfl, rfl, rfl, rfl, hne⟩ := hc
                generalize site d 0 = id at *
                have hob' := hob; rw [← r.objs] at hob'
                have ho2' := ho2; rw [← r.objs] at ho2'
                obtain ⟨k0, k1⟩ := r.ok.ob _ _ hob'
                rcases k1 with ⟨_, k1, _⟩ | ⟨b, cs, ty, fr, k1, k2, k3, k4, k5, k6⟩
                · subst k1; simp at hrow
                have hjr : j < row.length := (List.getElem?_eq_some_iff.1 hcell).1
                have hfl : rows.flatten[i * e + j]? = some (.sl id (σ.gens id) e2 0 rows'.length) := by
                  have := flat_drop k0 hrow
                  rw [← List.getElem?_drop, this, List.getElem?_append_left hjr]; exact hcell
                have hkl : i * e + j < cs.toList.length := Nat.lt_of_lt_of_le (List.getElem?_eq_some_iff.1 hfl).1 k5.len
                obtain ⟨v, hv⟩ : ∃ v, cs.toList[i * e + j]? = some v := ⟨_, List.getElem?_eq_getElem hkl⟩
                have hvr := k6 _ _ _ _ _ _ _ hfl hv
                obtain ⟨N, hN, hNs⟩ := sl_owned r hvr ho2 rfl .im
                rw [List.take_length] at hN
                have t1 : TOs h.w [AV.tr .im e2 rows'] [v] N := by simpa using TOs.cons _ _ _ _ _ _ hN (.nil [])
                obtain ⟨A, B, hAB, tt, _⟩ := k5.splice (j := i * e + j) t1 rfl (by have := (List.getElem?_eq_some_iff.1 hfl).1; simp only [List.length_singleton]; exact this)
                have hset : (rows.set i (row.set j (.tr .im e2 rows'))).flatten = splice rows.flatten (i * e + j) [.tr .im e2 rows'] := by
                  rw [splice_set hjr, flat_set k0 hrow (by simp only [List.length_singleton]; exact hjr)]
                rw [spliceV_self hv, ← hset] at tt
                have hbl : h.blocks ob = b :: h.sub ob := by simp [HS.blocks, k1]
                have nd1 := r.ok.nodup _ _ hob'
                have nd2 := r.ok.nodup _ _ ho2'
                have dj := r.ok.disj _ _ _ _ hob' ho2' hne
                let h' := h.given ob id (.slice e (rows.set i (row.set j (.tr .im e2 rows')))) (A ++ N ++ B)
                have memAB : ∀ x, x ∈ A ∨ x ∈ B → x ∈ h.sub ob := fun x hx => hAB.subset (by simpa using hx)
                have hblk : h'.blocks ob = b :: (A ++ N ++ B) := by simp [h', HS.given, HS.blocks, k1]
                have key : HeapOK h' ∧ Ev h h' := by
                  refine reconf (fun q => q = ob) r.ok rfl rfl rfl (Nat.le_refl _) rfl rfl (Nat.le_refl _) ?_ (fun _ => Nat.le_refl _) (fun _ _ => .inl rfl) ?_ ?_ ?_
                  · intro q hq
                    by_cases hqi : q = id
                    · exact .inl (by simp [h', HS.given, hqi])
                    · exact .inr ⟨by simp [h', HS.given, hqi, hq], rfl, rfl, by simp [h', HS.given, hq]⟩
                  · rintro q ob1 rfl hq
                    have hq : Ob.slice e (rows.set i (row.set j (.tr .im e2 rows'))) = ob1 := by
                      simp only [h', HS.given, if_neg hne, if_true] at hq
                      exact Option.some.inj hq
                    subst hq
                    refine ⟨fun ev => ⟨?_, .inr ⟨b, cs, ty, fr, k1, k2, k3, k4, by simpa [h', HS.given] using tt, ?_⟩⟩, ?_, ?_, fun _ => ⟨_, hob', rfl, rfl, rfl, by simp⟩⟩
                    · intro x hx
                      rcases List.mem_or_eq_of_mem_set hx with hx | rfl
                      · exact k0 x hx
                      · rw [List.length_set]; exact k0 row (List.mem_of_getElem? hrow)
                    · have kn : named h rows.flatten cs.toList := k6
                      have := (kn.splice (j := i * e + j) (xs := [.tr .im e2 rows']) (vs := [v]) (named.none (by simp [noSl, plain])) rfl k5.len (by have := (List.getElem?_eq_some_iff.1 hfl).1; simp only [List.length_singleton]; exact this)).ev ev
                      rw [spliceV_self hv, ← hset] at this
                      exact this
                    · rw [hblk]
                      rw [hbl] at nd1 dj
                      have nb : b ∉ h.sub q := (List.nodup_cons.1 nd1).1
                      have nAB : (A ++ B).Nodup := (List.nodup_cons.1 nd1).2.sublist hAB
                      have nN : N.Nodup := nd2.sublist hNs
                      have dN : ∀ x ∈ N, x ≠ b ∧ x ∉ h.sub q := fun x hx => by
                        have := fun y hy => dj y hy
                        exact ⟨fun e => this b (by simp) (e ▸ hNs.subset hx), fun hm => this x (by simp [hm]) (hNs.subset hx)⟩
                      have hp : (b :: (A ++ N ++ B)).Perm (N ++ (b :: (A ++ B))) := by
                        have := List.perm_append_comm_assoc (b :: A) N B
                        simpa only [List.cons_append, List.append_assoc] using this
                      rw [hp.nodup_iff, List.nodup_append]
                      refine ⟨nN, List.nodup_cons.2 ⟨fun hm => nb (memAB _ (by simpa using hm)), nAB⟩, ?_⟩
                      rintro x hx y hy rfl
                      obtain ⟨d1, d2⟩ := dN x hx
                      rcases List.mem_cons.1 hy with hy | hy
                      · exact d1 hy
                      · exact d2 (memAB _ (by simpa using hy))
                    · rw [hblk]
                      intro x hx
                      have cases3 : x ∈ h.blocks q ∨ x ∈ N := by
                        rw [hbl]
                        simp only [List.mem_cons, List.mem_append] at hx
                        rcases hx with rfl | (hx | hx) | hx
                        · exact .inl (by simp)
                        · exact .inl (by simp [memAB x (.inl hx)])
                        · exact .inr hx
                        · exact .inl (by simp [memAB x (.inr hx)])
                      rcases cases3 with hx | hx
                      · exact ⟨r.ok.lt _ _ hob' x hx, .inr ⟨_, _, hob', hx, .inl rfl⟩⟩
                      · exact ⟨r.ok.lt _ _ ho2' x (hNs.subset hx), .inr ⟨_, _, ho2', hNs.subset hx, .inr (by simp [h', HS.given])⟩⟩
                  · rintro q q' ob1 ob2 rfl rfl _ _ hn
                    exact absurd rfl hn
                  · rintro _ q ob1 b' rfl _ hb'
                    exact .inr ⟨_, _, hob', hb'⟩
                obtain ⟨hok, hev⟩ := key
                refine ⟨h', rfl, ⟨?_, ?_, r.ep, hok, fun i => (r.slots i).ev hev, r.defers⟩, hev⟩
                · simp only [h', HS.given, St.setObj, r.objs]
                · simp only [h', HS.given, St.setObj, r.gens]
                  funext i
                  split
                  · rename_i e; rw [e]
                  · split
                    · rename_i e; rw [e]
                    · rfl
              · exact same
            · exact same
          · exact same
        · exact same
      · exact same
    · exact same
  · exact same

theorem putBack_ok (r : Rel σ a h) : ∃ h', h'.w = h.w ∧ Rel (putBack cf fn ops σ) a h' ∧ Ev h h' := by
  unfold putBack
  split
  · exact ⟨h, rfl, r, Ev.refl h⟩
  · have key : ∀ (ds : List Nat) (l : List Oper) (σ : St) (h : HS), Rel σ a h → ∃ h', h'.w = h.w ∧ Rel (l.foldl (putBack1 ds) σ) a h' ∧ Ev h h' := by
      intro ds l
      induction l with
      | nil => intro σ h r; exact ⟨h, rfl, r, Ev.refl h⟩
      | cons o l ih =>
        intro σ h r
        obtain ⟨h1, e1, r1, v1⟩ := putBack1_ok r ds o
        obtain ⟨h2, e2, r2, v2⟩ := ih _ h1 r1
        exact ⟨h2, e2.trans e1, r2, v1.trans v2⟩
    exact key _ _ _ _ r

theorem drawn_ok (r : Rel σ a h) : ∃ h', h'.w = { h.w with drawn := h.w.drawn + 1 } ∧ Rel σ a h' ∧ Ev h h' := by
  let h' : HS := { h with w := { h.w with drawn := h.w.drawn + 1 } }
  have key : HeapOK h' ∧ Ev h h' :=
    reconf (fun _ => False) r.ok rfl rfl rfl (Nat.le_refl _) rfl rfl (Nat.le_refl _) (fun _ _ => .inr ⟨rfl, rfl, rfl, rfl⟩) (fun _ => Nat.le_refl _) (fun _ _ => .inl rfl)
      (fun _ _ k => k.elim) (fun _ _ _ _ k => k.elim) (fun _ _ _ _ k => k.elim)
  exact ⟨h', rfl, ⟨r.objs, r.gens, r.ep, key.1, fun i => (r.slots i).ev key.2, r.defers⟩, key.2⟩

theorem evalRegion_ok (hH : ∀ f args T out, H f args T = some out → Told cf.P f args T out) (hm : cf.P.follows .mixedOrders = true) {Q : Exit → Act → World → Prop} {id : Nat} {draw : Bool}
    (he : evalRegion cf H fn ops draw σ = some σ') (r : Rel σ a h) (hd : ∀ (i : Nat) o, ops[i]? = some o → ∀ t, o.dst = some t → t < a.tmps.size)
    (hQ : ∀ a' h', a'.tmps.size = a.tmps.size → Rel σ' a' h' → Ev h h' → Q .normal a' h'.w) : (Code.region id ops draw).wp cf.P Q a h.w := by
  have last : ∀ {σ2 : St}, putBack cf fn ops σ2 = σ' → ∀ {h0 : HS}, Ev h h0 → ∀ a' h', a'.tmps.size = a.tmps.size → Rel σ2 a' h' → Ev h0 h' → Q .normal a' h'.w := by
    intro σ2 hb h0 ev0 a' h' hsz r' ev
    obtain ⟨h2, e2, r2, v2⟩ := putBack_ok (cf := cf) (fn := fn) (ops := ops) r'
    rw [← e2]
    exact hQ a' h2 hsz (hb ▸ r2) ((ev0.trans ev).trans v2)
  unfold evalRegion at he
  cases draw with
  | false =>
    simp only [Bool.false_eq_true, if_false, Option.map_eq_some_iff] at he
    obtain ⟨σ2, he, hb⟩ := he
    obtain ⟨tr, ht⟩ := evalOps_runI range_ops he
    exact wp_region (runI_ok hH ht r hd (last hb (Ev.refl h)))
  | true =>
    simp only [if_true] at he
    split at he
    · rename_i σ2 t ht
      split at he
      · rename_i hf
        cases he
        obtain ⟨tr, k1, k2, k3⟩ := traceOps_runI range_ops ht
        obtain ⟨h0, e0, r0, v0⟩ := drawn_ok r
        simp only [freeOrder, Bool.and_eq_true, List.all_eq_true] at hf
        obtain ⟨hf1, hf2⟩ := hf
        refine wp_region_any hm ?_
        rw [← e0]
        refine any_ok hH (is := List.range ops.size) ?_ (by simp) List.nodup_range (by simp) ?_ ?_ k1 ?_ r0 hd (last rfl v0)
        · intro j o ho e hmem
          have := hf1 (o, j) (by
            rw [List.mem_iff_getElem?]
            exact ⟨j, by simp [List.getElem?_zipIdx, ho]⟩)
          have := (Array.all_eq_true_iff_forall_mem.1 this) e hmem
          simpa using this
        · intro i
          simp only [List.mem_range]
          constructor
          · intro hi; exact ⟨hi, by simp [Array.getD_eq_getD_getElem?, hi]⟩
          · exact fun k => k.1
        · intro j i hj
          by_cases hlt : j < ops.size <;> simp [Array.getD_eq_getD_getElem?, hlt] at hj
        · rw [List.pairwise_iff_getElem]
          intro i j hi hj hij
          have hsz : tr.length = ops.size := by have := congrArg List.length k3; simpa using this
          have idx : ∀ (q : Nat) (hq : q < tr.length), (tr[q]).i = q := by
            intro q hq
            have : (tr.map (·.i))[q]? = some (tr[q]).i := by simp [hq]
            rw [k3] at this
            simp [show q < ops.size by omega] at this
            exact this.symm
          have := hf2 j (by simp; omega) i (by simp; omega)
          have gi : t[i]? = some ((tr[i]).rd, (tr[i]).wr) := by rw [← k2]; simp [hi]
          have gj : t[j]? = some ((tr[j]).rd, (tr[j]).wr) := by rw [← k2]; simp [hj]
          rw [gi, gj, Bool.or_eq_true] at this
          unfold Free
          rw [idx i hi, idx j hj]
          exact this
      · cases he
    · cases he

/-! #### code -/

def exitOf : Ex → Exit
  | .normal => .normal
  | .exit i => .exit i
  | .ret => .ret

/-- what a loop comes to, from the head of its body on -/
def LoopA (P : Program) (c : Code) (Q : Exit → Act → World → Prop) (a : Act) (w : World) : Prop :=
  ∀ (b : Frame) (k : List Item) (cs : List Frame), ∃ e a' w', Q e a' w' ∧ Arrives P (lone (b.at a (.code c :: .inLoop c :: k)) cs w) b k cs e a' w'

theorem loopA_wp {c : Code} {Q : Exit → Act → World → Prop} {w : World} (hl : LoopA P c Q a w) : (Code.loop c).wp P Q a w := by
  intro b k cs
  obtain ⟨e, a', w', hq, harr⟩ := hl b k cs
  exact ⟨e, a', w', hq, .of_steps (.one step_loop) harr⟩

theorem loopA_step {c : Code} {Q : Exit → Act → World → Prop} {w : World} (hl : c.wp P (Exit.then (LoopA P c Q) Q) a w) : LoopA P c Q a w := by
  intro b k cs
  obtain ⟨e, a₁, w₁, hq, harr⟩ := hl b (.inLoop c :: k) cs
  cases e with
  | normal =>
    obtain ⟨e₂, a₂, w₂, hq₂, harr₂⟩ := hq b k cs
    exact ⟨e₂, a₂, w₂, hq₂, .of_steps (Steps.trans harr (.one step_inLoop)) harr₂⟩
  | exit id => exact ⟨_, a₁, w₁, hq, .pass (x := .inLoop c) rfl (fun _ _ => .inl (by simp)) harr⟩
  | goto l => exact ⟨_, a₁, w₁, hq, .pass (x := .inLoop c) rfl (fun _ _ => .inl (by simp)) harr⟩
  | ret => exact ⟨_, a₁, w₁, hq, .pass (x := .inLoop c) rfl (fun _ _ => .inl (by simp)) harr⟩
  | panic ch => exact ⟨_, a₁, w₁, hq, .pass (x := .inLoop c) rfl (fun _ _ => .inl (by simp)) harr⟩
  | outgrown => exact ⟨_, a₁, w₁, hq, .pass (x := .inLoop c) rfl (fun _ _ => .inl (by simp)) harr⟩

theorem runC_ok (hH : ∀ f args T out, H f args T = some out → Told cf.P f args T out) (hm : cf.P.follows .mixedOrders = true) :
    ∀ (k : Nat) (c : Code) (σ σ' : St) (ex : Ex) (a : Act) (h : HS) (Q : Exit → Act → World → Prop), runC cf H fn k c σ = some (ex, σ') → Rel σ a h → codeOK a.tmps.size c = true →
    (∀ a' h', a'.tmps.size = a.tmps.size → Rel σ' a' h' → Ev h h' → Q (exitOf ex) a' h'.w) → c.wp cf.P Q a h.w ∧ ∀ b, c = .loop b → LoopA cf.P b Q a h.w
  | 0, c, σ, σ', ex, a, h, Q, he, _, _, _ => by simp [runC] at he
  | k + 1, c, σ, σ', ex, a, h, Q, he, r, hc, hQ => by
    have ih := runC_ok hH hm k
    cases c with
    | skip =>
      simp only [runC] at he; cases he
      exact ⟨wp_skip (hQ a h rfl r (Ev.refl h)), by simp⟩
    | region id ops draw =>
      simp only [runC, Option.map_eq_some_iff] at he
      obtain ⟨σ2, he, e2⟩ := he
      cases e2
      refine ⟨evalRegion_ok hH hm he r ?_ hQ, by simp⟩
      intro i o ho t ht
      simp only [codeOK] at hc
      have := Array.all_eq_true_iff_forall_mem.1 hc o (Array.mem_of_getElem? ho)
      simpa [ht] using this
    | seq x y =>
      simp only [codeOK, Bool.and_eq_true] at hc
      simp only [runC] at he
      refine ⟨wp_seq ?_, by simp⟩
      split at he
      · rename_i σ1 h1
        refine (ih x σ σ1 .normal a h _ h1 r hc.1 ?_).1
        intro a1 h1 hsz r1 ev1
        refine (ih y σ1 σ' ex a1 h1 Q he r1 (by rw [hsz]; exact hc.2) ?_).1
        intro a2 h2 hsz2 r2 ev2
        exact hQ a2 h2 (hsz2.trans hsz) r2 (ev1.trans ev2)
      · rename_i hn
        refine (ih x σ σ' ex a h _ he r hc.1 ?_).1
        intro a1 h1 hsz r1 ev1
        cases ex with
        | normal => exact absurd he (hn _)
        | exit i => exact hQ a1 h1 hsz r1 ev1
        | ret => exact hQ a1 h1 hsz r1 ev1
    | cond c x y =>
      simp only [codeOK, Bool.and_eq_true] at hc
      simp only [runC] at he
      split at he
      · rename_i t ht
        have kx := r.get c; rw [ht] at kx
        have kx := kx.inv_c
        refine ⟨wp_cond kx ?_, by simp⟩
        cases t with
        | true => exact (ih x σ σ' ex a h Q (by simpa using he) r hc.1 hQ).1
        | false => exact (ih y σ σ' ex a h Q (by simpa using he) r hc.2 hQ).1
      · cases he
    | block id b =>
      simp only [codeOK] at hc
      simp only [runC] at he
      refine ⟨wp_block ?_, by simp⟩
      split at he
      · rename_i i σ1 h1
        refine (ih b σ σ1 (.exit i) a h _ h1 r hc ?_).1
        intro a1 h2 hsz r1 ev1
        simp only [exitOf, Exit.inBlock]
        split at he
        · rename_i e; cases he
          rw [if_pos e]; exact hQ a1 h2 hsz r1 ev1
        · rename_i e; cases he
          rw [if_neg e]; exact hQ a1 h2 hsz r1 ev1
      · rename_i hn
        refine (ih b σ σ' ex a h _ he r hc ?_).1
        intro a1 h1 hsz r1 ev1
        cases ex with
        | normal => exact hQ a1 h1 hsz r1 ev1
        | exit i => exact absurd he (hn _ _)
        | ret => exact hQ a1 h1 hsz r1 ev1
    | loop b =>
      simp only [codeOK] at hc
      simp only [runC] at he
      suffices hl : LoopA cf.P b Q a h.w from ⟨loopA_wp hl, fun b' e => by cases e; exact hl⟩
      refine loopA_step ?_
      split at he
      · rename_i σ1 h1
        refine (ih b σ σ1 .normal a h _ h1 r hc ?_).1
        intro a1 h2 hsz r1 ev1
        refine (ih (.loop b) σ1 σ' ex a1 h2 Q he r1 (by simp only [codeOK]; rw [hsz]; exact hc) ?_).2 b rfl
        intro a2 h3 hsz2 r2 ev2
        exact hQ a2 h3 (hsz2.trans hsz) r2 (ev1.trans ev2)
      · rename_i hn
        refine (ih b σ σ' ex a h _ he r hc ?_).1
        intro a1 h1 hsz r1 ev1
        cases ex with
        | normal => exact absurd he (hn _)
        | exit i => exact hQ a1 h1 hsz r1 ev1
        | ret => exact hQ a1 h1 hsz r1 ev1
    | exit id =>
      simp only [runC] at he; cases he
      exact ⟨wp_exit (hQ a h rfl r (Ev.refl h)), by simp⟩
    | ret =>
      simp only [runC] at he; cases he
      exact ⟨wp_ret (hQ a h rfl r (Ev.refl h)), by simp⟩
    | _ => simp [runC] at he

end
end Go.AM
