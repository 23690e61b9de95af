/- What a copy of a slice answers: it holds of the program. -/
import Derived.Test.YtoffdmkgioaohaaFnA
namespace Go.AM
open Go.Proofs
set_option maxRecDepth 4000
set_option maxHeartbeats 2000000
set_option linter.unusedSimpArgs false
set_option linter.unusedVariables false

theorem mixed : cf.P.follows .mixedOrders = true := by kernel_rfl

/-- nothing is assumed -/
noncomputable def H0 : Handler := den cf (fun _ => none)
theorem H0_told : ∀ f args T out, H0 f args T = some out → Told cf.P f args T out := den_told (fun f g h => by cases h) mixed

theorem WP.sound {H : Handler} (hH : ∀ f args T out, H f args T = some out → Told cf.P f args T out) {fn : FuncId} {c : Code} {σ : St} {a : Act} {h : HS} {R : Ex → St → Prop} {Q : Exit → Act → World → Prop}
    (r : Rel σ a h) (hc : codeOK a.tmps.size c = true) (hw : WP cf H fn c σ R)
    (hQ : ∀ ex σ', R ex σ' → ∀ a' h', a'.tmps.size = a.tmps.size → Rel σ' a' h' → Ev h h' → Q (exitOf ex) a' h'.w) : c.wp cf.P Q a h.w := by
  obtain ⟨k, ex, σ', h1, h2⟩ := hw
  exact (runC_ok hH mixed k c σ σ' ex a h Q h1 r hc (hQ ex σ' h2)).1

theorem step_op {ops : Array Oper} {Q : Exit → Act → World → Prop} {i : Nat} {o : Oper} {σ : St} {a : Act} {h : HS} {δ : Delta} {K : Act → World → Prop} (ho : ops[i]? = some o) (hg : guardOf ops o σ = some true)
    (r : Rel σ a h) (hok : OpOK cf.P o σ δ a h) (hK : ∀ a' h', a'.tmps.size = a.tmps.size → Rel (σ.apply o.dst δ) a' h' → Ev h h' → K a' h'.w) : wpOp cf.P ops Q i K a h.w := by
  unfold wpOp
  simp only [ho]
  rw [guard_wanted r hg]
  simp only [if_true]
  obtain ⟨next, h1, h2⟩ := hok
  exact .inl (Oper.wp_mono (fun a' w' hn => by obtain ⟨e, h', rfl, r', ev⟩ := h2 a' w' hn; exact hK a' h' e r' ev) (h1 Q))

theorem ops_two {o1 o2 : Oper} {Q : Exit → Act → World → Prop} {σ : St} {a : Act} {h : HS} {δ1 : Delta} (r : Rel σ a h) (g1 : guardOf #[o1, o2] o1 σ = some true) (k1 : OpOK cf.P o1 σ δ1 a h)
    (k : ∀ a' h', a'.tmps.size = a.tmps.size → Rel (σ.apply o1.dst δ1) a' h' → Ev h h' → ∃ δ2, guardOf #[o1, o2] o2 (σ.apply o1.dst δ1) = some true ∧ OpOK cf.P o2 (σ.apply o1.dst δ1) δ2 a' h' ∧
      ∀ a2 h2, a2.tmps.size = a.tmps.size → Rel ((σ.apply o1.dst δ1).apply o2.dst δ2) a2 h2 → Ev h h2 → Q .normal a2 h2.w) : wpOps cf.P #[o1, o2] Q [0, 1] a h.w := by
  rw [wpOps_cons]
  refine step_op rfl g1 r k1 ?_
  intro a' h' hs r' ev
  obtain ⟨δ2, g2, k2, k3⟩ := k a' h' hs r' ev
  rw [wpOps_cons]
  refine step_op rfl g2 r' k2 ?_
  intro a2 h2 hs2 r2 ev2
  exact k3 a2 h2 (hs2.trans hs) r2 (ev.trans ev2)

theorem plain_of {x : AV} (h : isC x = true) : plain x = true := by cases x <;> simp_all [isC, plain]
theorem allPlain_of {rows : List (List AV)} (h : allC rows = true) : allPlain rows = true := by
  simp only [allC, allPlain, List.all_eq_true] at h ⊢
  exact fun r hr x hx => plain_of (h r hr x hx)

/-- some rows: in one walk -/
theorem clone_some {t : Tag} (ht : t.fixed = true) (rows : List (List AV)) (hr : allC rows = true) (hn : ¬ rows = []) (hR : room rows.length 8 = true) :
    H0 166 [.tr t 1 rows] [] = some (.sl 0 0 1 0 rows.length, [(0, some (.slice 1 rows))]) := by
  have hp := allPlain_of hr
  unfold H0
  refine den_of rfl Try.func166 rfl (by kernel_rfl) (by simp [Try.ntmps166]) (by simp) ?_
  repeat' (first
    | refine WP.assoc ?_
    | refine WP.skipS ?_
    | (refine WP.textS rfl ?_; intro K hK; simp [engE, factsE, callsE, bin_trEql, *]; refine hK _ ?_; clear hK K)
    | (refine WP.textK rfl ?_; intro K hK; simp [engE, factsE, callsE, bin_trEql, *]; refine hK _ ?_; clear hK K; (try dsimp only))
    | (refine WP.drawnS rfl ?_; intro K hK; simp [keyE, engE, factsE, callsE, bin_trEql, *]; refine ⟨by kernel_rfl, hK _ ?_⟩; clear hK K)
    | (refine WP.drawnK rfl ?_; intro K hK; simp [keyE, engE, factsE, callsE, bin_trEql, *]; refine ⟨by kernel_rfl, hK _ ?_⟩; clear hK K; (try dsimp only))
    | (refine WP.textSB ?_; intro K hK; simp [putBack, putBack1, engE, factsE, callsE, bin_trEql, *]; refine hK _ ?_; clear hK K)
    | (refine WP.textBK ?_; intro K hK; simp [putBack, putBack1, engE, factsE, callsE, bin_trEql, *]; refine hK _ ?_; clear hK K; (try dsimp only))
    | (refine WP.condS (by simp [engE, *]; rfl) (fun hc => ?_) (fun hc => ?_) <;> (try simp at hc))
    | (refine WP.condE (by simp [engE, *]; rfl) (fun hc => ?_) (fun hc => ?_) <;> (try simp at hc))
    | (refine WP.skip ?_; (try dsimp only))
    | (refine WP.blockS ?_; intro K hK)
    | (refine WP.blockK ?_; intro K hK)
    | (refine WP.exitS ?_; simp only [ite_true, ite_false, reduceIte])
    | (refine WP.exit ?_; simp only [ite_true, ite_false, reduceIte])
    | (refine WP.retS ?_; (try dsimp only); refine ⟨.inr rfl, ?_⟩)
    | (refine WP.ret ?_; (try dsimp only); refine ⟨.inr rfl, ?_⟩)
    | (refine Keep.use (by assumption) ?_; (try dsimp only)))
  all_goals simp [engE, Try.results166, *]

/-- no rows: it depends on whether the slice is nil, which the picture does not tell -/
theorem clone_none {t : Tag} (ht : t.fixed = true) : Told cf.P 166 [.tr t 1 []] [] (.sl 0 0 1 0 0, [(0, some (.slice 1 []))]) := by
  intro h vs ok ho hg he hv
  have r0 : room 0 8 = true := by decide
  have n8 : Try.f166.ntmps = 8 := by kernel_rfl
  obtain ⟨r, hsz⟩ := init_rel (n := Try.f166.ntmps) ok ho hg he hv (by rw [n8]; simp)
  refine calls_of_wp (fn := Try.f166) Try.func166 rfl ?_
  refine wp_seq ?_
  refine WP.sound H0_told (fn := 166) (R := fun ex σ => ex = .normal ∧ σ = (initSt [.tr t 1 []] []).put (some 2) nilS) r (by rw [hsz, n8]; kernel_rfl) ?_ ?_
  · unfold H0
    refine WP.textK rfl ?_; intro K hK; simp [engE, factsE, callsE]; refine hK _ ?_; exact ⟨rfl, rfl⟩
  rintro ex σ1 ⟨rfl, rfl⟩ a1 h1 hs1 r1 ev1
  show Code.wp _ _ _ _ _
  refine wp_seq ?_
  refine wp_seq ?_
  refine wp_region ?_
  show wpOps _ _ _ [0, 1] _ _
  have s1 : a1.tmps.size = 8 := by rw [hs1, hsz, n8]
  have hu : cf.P.underlying 27 = some (.slice 3) := by kernel_rfl
  refine ops_two (δ1 := { val := .tr t 1 [] }) r1 ?_ ?_ ?_
  · rfl
  · refine ok_move (x := .tmp 0) r1 ?_ (.inl rfl)
    intro t e; cases e; rw [s1]; decide
  intro a2 h2 hs2 r2 ev2
  have s2 : a2.tmps.size = 8 := hs2.trans s1
  obtain ⟨x, c, hx⟩ : ∃ x c, a2.eval (.tmp 3) = .slice x 0 c := by
    have k := r2.get (.tmp 3)
    have k : VR h2 (.tr t 1 []) (a2.eval (.tmp 3)) := k
    generalize a2.eval (.tmp 3) = v at k ⊢
    cases k with
    | tr _ _ _ _ N k1 => obtain ⟨ad, cap, rfl, j, _⟩ := k1.shape; exact ⟨_, _, rfl⟩
    | trOld _ _ _ ad cap _ j => exact ⟨_, _, rfl⟩
  refine ⟨{ val := .c (.bool x.isNone) }, rfl, ?_, ?_⟩
  · have hy : a2.eval (.const (.slice none 0 0)) = .slice none 0 0 := rfl
    refine OpOK.pure r2 ?_ (exec_bin (op := .eql) (t := 27) (x := .tmp 3) (y := .const (.slice none 0 0)) rfl ?_ ?_ ?_) (.c _ (by simp))
    · intro t e; cases e; rw [s2]; decide
    · rw [hx]; simp
    · rw [hx]; simp
    · rw [hx, hy]
      exact (run_slices hu _ _ _).1
  intro a3 h3 hs3 r3 ev3
  have s3 : a3.tmps.size = 8 := hs3.trans s1
  show Code.wp _ _ _ _ _
  have evs := ev1.trans ev3
  cases x with
  | none =>
    refine WP.sound H0_told (fn := 166) (R := fun ex σ => ex = .ret ∧ finish cf ([] : List Ob).length Try.f166.results σ = some (nilS, [])) r3 (by rw [s3]; kernel_rfl) ?_ ?_
    · unfold H0
      refine WP.condE (t := true) rfl (fun _ => ?_) (fun e => by cases e)
      repeat' (first
        | refine WP.assoc ?_
        | refine WP.skipS ?_
        | (refine WP.textS rfl ?_; intro K hK; simp [engE, factsE, callsE, *]; refine hK _ ?_; clear hK K)
        | (refine WP.textK rfl ?_; intro K hK; simp [engE, factsE, callsE, *]; refine hK _ ?_; clear hK K; (try dsimp only))
        | (refine WP.drawnS rfl ?_; intro K hK; simp [keyE, engE, factsE, callsE, *]; refine ⟨by kernel_rfl, hK _ ?_⟩; clear hK K)
        | (refine WP.drawnK rfl ?_; intro K hK; simp [keyE, engE, factsE, callsE, *]; refine ⟨by kernel_rfl, hK _ ?_⟩; clear hK K; (try dsimp only))
        | (refine WP.textSB ?_; intro K hK; simp [putBack, putBack1, engE, factsE, callsE, *]; refine hK _ ?_; clear hK K)
        | (refine WP.textBK ?_; intro K hK; simp [putBack, putBack1, engE, factsE, callsE, *]; refine hK _ ?_; clear hK K; (try dsimp only))
        | (refine WP.condS (by simp [engE, *]; rfl) (fun hc => ?_) (fun hc => ?_) <;> (try simp at hc))
        | (refine WP.condE (by simp [engE, *]; rfl) (fun hc => ?_) (fun hc => ?_) <;> (try simp at hc))
        | (refine WP.skip ?_; (try dsimp only))
        | (refine WP.blockS ?_; intro K hK)
        | (refine WP.blockK ?_; intro K hK)
        | (refine WP.exitS ?_; simp only [ite_true, ite_false, reduceIte])
        | (refine WP.exit ?_; simp only [ite_true, ite_false, reduceIte])
        | (refine WP.retS ?_; (try dsimp only); refine ⟨.inr rfl, ?_⟩)
        | (refine WP.ret ?_; (try dsimp only); refine ⟨.inr rfl, ?_⟩)
        | (refine Keep.use (by assumption) ?_; (try dsimp only)))
      refine WP.ret ⟨rfl, ?_⟩
      all_goals simp [engE, Try.results166, *]
    rintro ex σ4 ⟨rfl, hfin⟩ a4 h4 hs4 r4 ev4
    obtain ⟨u, h5, k1, k2, k3⟩ := finish_ok (out := (nilS, [])) hfin r4 (evs.trans ev4) hg
    refine ⟨r4.defers, u, k1, ?_⟩
    have e : u = .slice none 0 0 := k3.inv_c
    subst e
    have no : ∀ o, h5.objs o = none := by intro o; rw [k2.objs]; rfl
    refine ⟨{ h5 with objs := fun o => if o = 0 then some (.slice 1 []) else none, gens := fun _ => 0, blk := fun _ => none, sub := fun _ => [] }, ?_, ?_⟩
    · refine ⟨k2.w, ⟨?_, ?_, ?_, ?_⟩, ?_, ?_, k2.os, k2.tape, k2.output, k2.size, k2.stab, ?_, k2.X, k2.Y, ?_⟩
      · intro o ob e
        simp only at e
        split at e
        · cases e; exact ⟨by simp, .inl ⟨rfl, rfl, rfl⟩⟩
        · cases e
      · intro o ob e b hb; simp [HS.blocks] at hb
      · intro o ob e; simp [HS.blocks]
      · intro o o' ob ob' _ _ _ b hb; simp [HS.blocks] at hb
      · funext o; cases o <;> rfl
      · funext o; cases o <;> rfl
      · rintro b ⟨o, ob, _, hb⟩; simp [HS.blocks] at hb
      · intro o ho; simp at ho
    · exact .slEnd _ _ _ _ _ [] rfl rfl (by simp)
  | some ad =>
    refine WP.sound H0_told (fn := 166) (R := fun ex σ => ex = .normal ∧ σ = ((((initSt [AV.tr t 1 []] []).put (some 2) nilS).apply (some 3) { val := .tr t 1 [] }).apply (some 4) { val := .c (.bool false) })) r3 (by rw [s3]; kernel_rfl) ?_ ?_
    · unfold H0
      refine WP.condE (t := false) rfl (fun e => by cases e) (fun _ => ?_)
      refine WP.skip ⟨rfl, rfl⟩
    rintro ex σ4 ⟨rfl, rfl⟩ a4 h4 hs4 r4 ev4
    show Code.wp _ _ _ _ _
    refine WP.sound H0_told (fn := 166) (R := fun ex σ => ex = .ret ∧ finish cf ([] : List Ob).length Try.f166.results σ = some (.sl 0 0 1 0 0, [(0, some (.slice 1 []))])) r4 (by rw [hs4, s3]; kernel_rfl) ?_ ?_
    · unfold H0
      repeat' (first
        | refine WP.assoc ?_
        | refine WP.skipS ?_
        | (refine WP.textS rfl ?_; intro K hK; simp [engE, factsE, callsE, *]; refine hK _ ?_; clear hK K)
        | (refine WP.textK rfl ?_; intro K hK; simp [engE, factsE, callsE, *]; refine hK _ ?_; clear hK K; (try dsimp only))
        | (refine WP.drawnS rfl ?_; intro K hK; simp [keyE, engE, factsE, callsE, *]; refine ⟨by kernel_rfl, hK _ ?_⟩; clear hK K)
        | (refine WP.drawnK rfl ?_; intro K hK; simp [keyE, engE, factsE, callsE, *]; refine ⟨by kernel_rfl, hK _ ?_⟩; clear hK K; (try dsimp only))
        | (refine WP.textSB ?_; intro K hK; simp [putBack, putBack1, engE, factsE, callsE, *]; refine hK _ ?_; clear hK K)
        | (refine WP.textBK ?_; intro K hK; simp [putBack, putBack1, engE, factsE, callsE, *]; refine hK _ ?_; clear hK K; (try dsimp only))
        | (refine WP.condS (by simp [engE, *]; rfl) (fun hc => ?_) (fun hc => ?_) <;> (try simp at hc))
        | (refine WP.condE (by simp [engE, *]; rfl) (fun hc => ?_) (fun hc => ?_) <;> (try simp at hc))
        | (refine WP.skip ?_; (try dsimp only))
        | (refine WP.blockS ?_; intro K hK)
        | (refine WP.blockK ?_; intro K hK)
        | (refine WP.exitS ?_; simp only [ite_true, ite_false, reduceIte])
        | (refine WP.exit ?_; simp only [ite_true, ite_false, reduceIte])
        | (refine WP.retS ?_; (try dsimp only); refine ⟨.inr rfl, ?_⟩)
        | (refine WP.ret ?_; (try dsimp only); refine ⟨.inr rfl, ?_⟩)
        | (refine Keep.use (by assumption) ?_; (try dsimp only)))
      refine WP.ret ⟨rfl, ?_⟩
      all_goals simp [engE, Try.results166, *]
    rintro ex σ5 ⟨rfl, hfin⟩ a5 h5 hs5 r5 ev5
    obtain ⟨u, h6, k1, k2, k3⟩ := finish_ok hfin r5 ((evs.trans ev4).trans ev5) hg
    exact ⟨r5.defers, u, k1, h6, k2, k3⟩

theorem EX_told : ∀ f g, EX f = some g → ∀ args T out, g args T = some out → Told cf.P f args T out := by
  intro f g hg args T out ho
  unfold EX at hg
  split at hg
  · rename_i hf; subst hf; cases hg
    unfold cloneX at ho
    split at ho
    · split at ho
      · rename_i t e' rows hc
        obtain ⟨h1, h2, rfl, h3⟩ := hc
        cases ho
        by_cases hn : rows = []
        · subst hn; exact clone_none h1
        · exact H0_told _ _ _ _ (clone_some h1 rows h2 hn h3)
      · cases ho
    · cases ho
  · cases hg

theorem D_told : ∀ f args T out, D f args T = some out → Told cf.P f args T out := den_told EX_told mixed

end Go.AM

