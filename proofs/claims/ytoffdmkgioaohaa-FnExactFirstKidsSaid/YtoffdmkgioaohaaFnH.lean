/- The first shortest way through an automaton: the program's. -/
import Derived.Test.YtoffdmkgioaohaaFnG
namespace Go.AM
open Go.Proofs
set_option maxRecDepth 4000
set_option maxHeartbeats 2000000
set_option linter.unusedSimpArgs false
set_option linter.unusedVariables false

/-- the rows of the ways that are not yet looked at -/
def Ways (i : Nat) (s : List Int × List (List Int)) (R : List (List AV)) : Prop :=
  R.length = s.1.length ∧ ∀ (j : Nat) (x : Int) (w : List Int), i ≤ j → s.1[j]? = some x → s.2[j]? = some w → R[j]? = some [I x, .tr .im 1 (rowsI w)]
/-- the states that are known, as the program keeps them -/
def SeenB (n : Nat) (s : List Int) (b : List Bool) : Prop := b.length = n ∧ ∀ x : Nat, x < n → b[x]? = some (decide ((x : Int) ∈ s))

theorem den_firstKids {t : Tag} (ht : t.fixed = true) (m : Mach) (hm : machOK m = true) :
    D 84 [m.av t] [] = some (match sFirst m with
      | some w => (.tup [.sl 0 0 1 0 w.length, Bo true], [(0, some (.slice 1 (rowsI w)))])
      | none => (.tup [nilS, Bo false], [])) := by
  obtain ⟨m1, m2, m3, m4⟩ := machOK_use hm
  have hroom : ∀ k : Nat, k ≤ 4096 → room k 8 = true := fun k hk => room_ok (by omega) (by omega) (by omega)
  have hroom2 : ∀ k : Nat, k ≤ 4096 → room k 32 = true := fun k hk => room_ok (by omega) (by omega) (by omega)
  have hroom3 : room m.1.length 1 = true := room_ok (by omega) (by omega) (by omega)
  have hp : 0 < m.1.length := by omega
  unfold Mach.av
  refine den_of rfl Try.func84 rfl (by kernel_rfl) (by simp [Try.ntmps84]) (by simp) ?_
  repeat' (first
    | refine WP.assoc ?_
    | refine WP.skipS ?_
    | (refine WP.textS rfl ?_; intro K hK; simp [engE, factsE, callsE, rowsB_rep, *]; refine hK _ ?_; clear hK K)
    | (refine WP.textK rfl ?_; intro K hK; simp [engE, factsE, callsE, rowsB_rep, *]; refine hK _ ?_; clear hK K; (try dsimp only))
    | (refine WP.drawnS rfl ?_; intro K hK; simp [keyE, engE, factsE, callsE, rowsB_rep, *]; refine ⟨by kernel_rfl, hK _ ?_⟩; clear hK K)
    | (refine WP.drawnK rfl ?_; intro K hK; simp [keyE, engE, factsE, callsE, rowsB_rep, *]; refine ⟨by kernel_rfl, hK _ ?_⟩; clear hK K; (try dsimp only))
    | (refine WP.textSB ?_; intro K hK; simp [putBack, putBack1, engE, factsE, callsE, rowsB_rep, *]; refine hK _ ?_; clear hK K)
    | (refine WP.textBK ?_; intro K hK; simp [putBack, putBack1, engE, factsE, callsE, rowsB_rep, *]; refine hK _ ?_; clear hK K; (try dsimp only))
    | (refine WP.condS (by simp [engE, *]; rfl) (fun hc => ?_) (fun hc => ?_) <;> (try simp at hc))
    | (refine WP.condE (by simp [engE, *]; rfl) (fun hc => ?_) (fun hc => ?_) <;> (try simp at hc))
    | (refine WP.skip ?_; (try dsimp only))
    | (refine WP.blockS ?_; intro K hK)
    | (refine WP.blockK ?_; intro K hK)
    | (refine WP.exitS ?_; simp only [ite_true, ite_false, reduceIte])
    | (refine WP.exit ?_; simp only [ite_true, ite_false, reduceIte])
    | (refine WP.retS ?_; (try dsimp only); refine ⟨.inr rfl, ?_⟩)
    | (refine WP.ret ?_; (try dsimp only); refine ⟨.inr rfl, ?_⟩)
    | (refine Keep.use (by assumption) ?_; (try dsimp only)))
  refine WP.loopI (ι := Nat × (List Int × List (List Int)) × List (List AV) × List Bool) (fun i σ => Known m.1.length i.2.1 ∧ i.1 ≤ i.2.1.1.length ∧ Ways i.1 i.2.1 i.2.2.1 ∧ SeenB m.1.length i.2.1.1 i.2.2.2 ∧
    σ.slots 1 = .ptr 24 1 0 0 ∧ σ.gens 24 = 1 ∧ σ.objs 24 = some (.box [.tr t 1 (rowsII m.1), .tr t 1 (rowsB m.2)]) ∧
    σ.slots 4 = .sl 104 (σ.gens 104) 2 0 i.2.1.1.length ∧ σ.objs 104 = some (.slice 2 i.2.2.1) ∧ σ.slots 5 = .sl 136 (σ.gens 136) 1 0 m.1.length ∧ σ.objs 136 = some (.slice 1 (rowsB i.2.2.2)) ∧
    σ.slots 6 = I i.1 ∧ sFirst m = sOut m (m.1.length + 1 - i.1) i.1 i.2.1) (fun i => m.1.length + 1 - i.1) (0, ([0], [[]]), [[I 0, .tr .im 1 []]], (List.replicate m.1.length false).set 0 true) ?_ ?_
  · refine ⟨⟨rfl, by simp, by simp; omega, by intro j w h; cases j <;> simp_all⟩, by simp, ⟨by simp, ?_⟩, ⟨by simp, ?_⟩, ?_⟩
    · intro j x w h1 h2 h3
      cases j with
      | zero => simp at h2 h3; subst h2; subst h3; rfl
      | succ j => simp at h2
    · intro x hx
      simp only [List.getElem?_set, List.length_replicate, List.getElem?_replicate]
      by_cases h : x = 0
      · subst h; simp [hp]
      · have h' : ¬ 0 = x := fun e => h e.symm
        simp [h, h', hx]
    · simp [engE, sFirst, *]
  · rintro ⟨i, s, R, sb⟩ σ ⟨kn, i1, wy, sn, i2, i3, i4, i5, i6, i7, i8, i9, i10⟩
    simp only at kn i1 wy sn i2 i3 i4 i5 i6 i7 i8 i9 i10
    have hle := kn.le
    have hlen := kn.len
    have hRl := wy.1
    have hbl := sn.1
    by_cases hk : i < s.1.length
    · have hw2 := w64s (k := i) (by omega)
      have hk2 : i < s.2.length := by omega
      have hkR : i < R.length := by omega
      obtain ⟨x, hx⟩ : ∃ x, s.1[i] = x := ⟨_, rfl⟩
      obtain ⟨way, hway⟩ : ∃ way, s.2[i] = way := ⟨_, rfl⟩
      have hwl := kn.sh i way (by simp [hk2, hway])
      have hR : R[i] = [I x, .tr .im 1 (rowsI way)] := by
        have := wy.2 i x way (Nat.le_refl _) (by simp [hk, hx]) (by simp [hk2, hway])
        simpa [hkR] using this
      have hxb := kn.lo s.1[i] (List.getElem_mem hk)
      rw [hx] at hxb
      obtain ⟨x0, x1⟩ := hxb
      have hx2 : x.toNat < m.2.length := by omega
      have hx1 : x.toNat < m.1.length := by omega
      have e1 : m.1.length + 1 - i = (m.1.length - i) + 1 := by omega
      rw [e1, sOut, if_pos hk] at i10
      have e2 : s.1.getD i 0 = x := by simp [List.getD_eq_getElem?_getD, hk, hx]
      have e3 : s.2.getD i [] = way := by simp [List.getD_eq_getElem?_getD, hk2, hway]
      have e4 : m.2.getD x.toNat false = m.2[x.toNat] := by simp [List.getD_eq_getElem?_getD, hx2]
      have e5 : m.1.getD x.toNat [] = m.1[x.toNat] := by simp [List.getD_eq_getElem?_getD, hx1]
      rw [e2, e3, e4, e5] at i10
      have hr2 := hroom way.length (by omega)
      clear hx e2 e3
      by_cases hf : m.2[x.toNat] = true
      · rw [if_pos hf] at i10
        repeat' (first
          | refine WP.assoc ?_
          | refine WP.skipS ?_
          | (refine WP.textS rfl ?_; intro K hK; simp [engE, factsE, callsE, *]; refine hK _ ?_; clear hK K)
          | (refine WP.textK rfl ?_; intro K hK; simp [engE, factsE, callsE, *]; refine hK _ ?_; clear hK K; (try dsimp only))
          | (refine WP.drawnS rfl ?_; intro K hK; simp [keyE, engE, factsE, callsE, *]; refine ⟨by kernel_rfl, hK _ ?_⟩; clear hK K)
          | (refine WP.drawnK rfl ?_; intro K hK; simp [keyE, engE, factsE, callsE, *]; refine ⟨by kernel_rfl, hK _ ?_⟩; clear hK K; (try dsimp only))
          | (refine WP.textSB ?_; intro K hK; simp [putBack, putBack1, engE, factsE, callsE, *]; refine hK _ ?_; clear hK K)
          | (refine WP.textBK ?_; intro K hK; simp [putBack, putBack1, engE, factsE, callsE, *]; refine hK _ ?_; clear hK K; (try dsimp only))
          | (refine WP.condS (by simp [engE, *]; rfl) (fun hc => ?_) (fun hc => ?_) <;> (try simp at hc))
          | (refine WP.condE (by simp [engE, *]; rfl) (fun hc => ?_) (fun hc => ?_) <;> (try simp at hc))
          | (refine WP.skip ?_; (try dsimp only))
          | (refine WP.blockS ?_; intro K hK)
          | (refine WP.blockK ?_; intro K hK)
          | (refine WP.exitS ?_; simp only [ite_true, ite_false, reduceIte])
          | (refine WP.exit ?_; simp only [ite_true, ite_false, reduceIte])
          | (refine WP.retS ?_; (try dsimp only); refine ⟨.inr rfl, ?_⟩)
          | (refine WP.ret ?_; (try dsimp only); refine ⟨.inr rfl, ?_⟩)
          | (refine Keep.use (by assumption) ?_; (try dsimp only)))
        simp [engE, Try.results84, *]
      · have hf : m.2[x.toNat] = false := by simpa using hf
        rw [if_neg (by simp [hf])] at i10
        obtain ⟨r8, rb⟩ := m4 m.1[x.toNat] (List.getElem_mem hx1)
        obtain ⟨row, hrow⟩ : ∃ row, m.1[x.toNat] = row := ⟨_, rfl⟩
        rw [hrow] at i10
        rw [hrow] at r8 rb
        have wy0 : Ways (i + 1) s (R.set i [I x, .bad]) := by
          refine ⟨by simp [hRl], fun j x' w h1 h2 h3 => ?_⟩
          rw [List.getElem?_set_ne (by omega)]
          exact wy.2 j x' w (by omega) h2 h3
        have hsw : s.2[i]? = some way := by simp [hk2, hway]
        clear hway
        repeat' (first
          | refine WP.assoc ?_
          | refine WP.skipS ?_
          | (refine WP.textS rfl ?_; intro K hK; simp [engE, factsE, callsE, *]; refine hK _ ?_; clear hK K)
          | (refine WP.textK rfl ?_; intro K hK; simp [engE, factsE, callsE, *]; refine hK _ ?_; clear hK K; (try dsimp only))
          | (refine WP.drawnS rfl ?_; intro K hK; simp [keyE, engE, factsE, callsE, *]; refine ⟨by kernel_rfl, hK _ ?_⟩; clear hK K)
          | (refine WP.drawnK rfl ?_; intro K hK; simp [keyE, engE, factsE, callsE, *]; refine ⟨by kernel_rfl, hK _ ?_⟩; clear hK K; (try dsimp only))
          | (refine WP.textSB ?_; intro K hK; simp [putBack, putBack1, engE, factsE, callsE, *]; refine hK _ ?_; clear hK K)
          | (refine WP.textBK ?_; intro K hK; simp [putBack, putBack1, engE, factsE, callsE, *]; refine hK _ ?_; clear hK K; (try dsimp only))
          | (refine WP.condS (by simp [engE, *]; rfl) (fun hc => ?_) (fun hc => ?_) <;> (try simp at hc))
          | (refine WP.condE (by simp [engE, *]; rfl) (fun hc => ?_) (fun hc => ?_) <;> (try simp at hc))
          | (refine WP.skip ?_; (try dsimp only))
          | (refine WP.blockS ?_; intro K hK)
          | (refine WP.blockK ?_; intro K hK)
          | (refine WP.exitS ?_; simp only [ite_true, ite_false, reduceIte])
          | (refine WP.exit ?_; simp only [ite_true, ite_false, reduceIte])
          | (refine WP.retS ?_; (try dsimp only); refine ⟨.inr rfl, ?_⟩)
          | (refine WP.ret ?_; (try dsimp only); refine ⟨.inr rfl, ?_⟩)
          | (refine Keep.use (by assumption) ?_; (try dsimp only)))
        refine WP.loopI (ι := Nat × (List Int × List (List Int)) × List (List AV) × List Bool) (fun q σ => Known m.1.length q.2.1 ∧ i < q.2.1.1.length ∧ q.2.1.2[i]? = some way ∧ q.1 ≤ 8 ∧ Ways (i + 1) q.2.1 q.2.2.1 ∧ SeenB m.1.length q.2.1.1 q.2.2.2 ∧
          σ.slots 1 = .ptr 24 1 0 0 ∧ σ.gens 24 = 1 ∧ σ.objs 24 = some (.box [.tr t 1 (rowsII m.1), .tr t 1 (rowsB m.2)]) ∧
          σ.slots 4 = .sl 104 (σ.gens 104) 2 0 q.2.1.1.length ∧ σ.objs 104 = some (.slice 2 q.2.2.1) ∧ σ.slots 5 = .sl 136 (σ.gens 136) 1 0 m.1.length ∧ σ.objs 136 = some (.slice 1 (rowsB q.2.2.2)) ∧
          σ.slots 6 = I i ∧ σ.slots 7 = .ptr 72 (σ.gens 72) 0 0 ∧ σ.objs 72 = some (.box [I x, .sl 232 (σ.gens 232) 1 0 way.length]) ∧ σ.objs 232 = some (.slice 1 (rowsI way)) ∧
          σ.slots 41 = .tr t 1 (rowsI row) ∧ σ.slots 42 = I 8 ∧ σ.slots 43 = I q.1 ∧ sIn way row 1 s = sIn way (row.drop q.1) (q.1 + 1) q.2.1) (fun q => 8 - q.1) (0, s, R.set i [I x, .bad], sb) ?_ ?_
        · refine ⟨kn, hk, hsw, by simp, wy0, sn, ?_⟩
          simp [engE, *]
        · rintro ⟨q, s', R', sb'⟩ σ ⟨kn', q1, q2, q0, wy', sn', q3, q4, q5, q6, q7, q8, q9, q10, q11, q12, q13, q14, q15, q16, q17⟩
          simp only at kn' q1 q2 q0 wy' sn' q3 q4 q5 q6 q7 q8 q9 q10 q11 q12 q13 q14 q15 q16 q17
          have hle' := kn'.le
          have hlen' := kn'.len
          clear hRl hbl hsw hR wy0 wy sn
          have hRl := wy'.1
          have hbl := sn'.1
          clear i2 i3 i4 i5 i6 i7 i8 i9 hlen
          by_cases hq : q < 8
          · have hql : q < row.length := by omega
            have hq8 : (q : Int) < 8 := by omega
            have hw3 : IntKind.i64.wrap ((q : Int) + 1) = ((q + 1 : Nat) : Int) := w64s (by omega)
            obtain ⟨y, hy⟩ : ∃ y, row[q] = y := ⟨_, rfl⟩
            have hyb := rb row[q] (List.getElem_mem hql)
            rw [hy] at hyb
            rw [List.drop_eq_getElem_cons hql, hy, sIn] at q17
            by_cases h0 : y = -1
            · rw [if_neg (by omega)] at q17
              repeat' (first
                | refine WP.assoc ?_
                | refine WP.skipS ?_
                | (refine WP.textS rfl ?_; intro K hK; simp [engE, factsE, callsE, *]; refine hK _ ?_; clear hK K)
                | (refine WP.textK rfl ?_; intro K hK; simp [engE, factsE, callsE, *]; refine hK _ ?_; clear hK K; (try dsimp only))
                | (refine WP.drawnS rfl ?_; intro K hK; simp [keyE, engE, factsE, callsE, *]; refine ⟨by kernel_rfl, hK _ ?_⟩; clear hK K)
                | (refine WP.drawnK rfl ?_; intro K hK; simp [keyE, engE, factsE, callsE, *]; refine ⟨by kernel_rfl, hK _ ?_⟩; clear hK K; (try dsimp only))
                | (refine WP.textSB ?_; intro K hK; simp [putBack, putBack1, engE, factsE, callsE, *]; refine hK _ ?_; clear hK K)
                | (refine WP.textBK ?_; intro K hK; simp [putBack, putBack1, engE, factsE, callsE, *]; refine hK _ ?_; clear hK K; (try dsimp only))
                | (refine WP.condS (by simp [engE, *]; rfl) (fun hc => ?_) (fun hc => ?_) <;> (try simp at hc))
                | (refine WP.condE (by simp [engE, *]; rfl) (fun hc => ?_) (fun hc => ?_) <;> (try simp at hc))
                | (refine WP.skip ?_; (try dsimp only))
                | (refine WP.blockS ?_; intro K hK)
                | (refine WP.blockK ?_; intro K hK)
                | (refine WP.exitS ?_; simp only [ite_true, ite_false, reduceIte])
                | (refine WP.exit ?_; simp only [ite_true, ite_false, reduceIte])
                | (refine WP.retS ?_; (try dsimp only); refine ⟨.inr rfl, ?_⟩)
                | (refine WP.ret ?_; (try dsimp only); refine ⟨.inr rfl, ?_⟩)
                | (refine Keep.use (by assumption) ?_; (try dsimp only)))
              refine ⟨(q + 1, s', R', sb'), by simp; omega, kn', q1, q2, by simp; omega, wy', sn', ?_⟩
              simp [engE, *]
            · have y0 : 0 ≤ y := by omega
              have y1 : y.toNat < sb'.length := by omega
              have yn : y < (m.1.length : Int) := by omega
              have hsb : sb'[y.toNat] = decide (y ∈ s'.1) := by
                have := sn'.2 y.toNat (by omega)
                rw [Int.toNat_of_nonneg y0] at this
                simpa [y1] using this
              by_cases hm : y ∈ s'.1
              · rw [if_neg (by simp [hm])] at q17
                simp only [hm, decide_true] at hsb
                repeat' (first
                  | refine WP.assoc ?_
                  | refine WP.skipS ?_
                  | (refine WP.textS rfl ?_; intro K hK; simp [engE, factsE, callsE, *]; refine hK _ ?_; clear hK K)
                  | (refine WP.textK rfl ?_; intro K hK; simp [engE, factsE, callsE, *]; refine hK _ ?_; clear hK K; (try dsimp only))
                  | (refine WP.drawnS rfl ?_; intro K hK; simp [keyE, engE, factsE, callsE, *]; refine ⟨by kernel_rfl, hK _ ?_⟩; clear hK K)
                  | (refine WP.drawnK rfl ?_; intro K hK; simp [keyE, engE, factsE, callsE, *]; refine ⟨by kernel_rfl, hK _ ?_⟩; clear hK K; (try dsimp only))
                  | (refine WP.textSB ?_; intro K hK; simp [putBack, putBack1, engE, factsE, callsE, *]; refine hK _ ?_; clear hK K)
                  | (refine WP.textBK ?_; intro K hK; simp [putBack, putBack1, engE, factsE, callsE, *]; refine hK _ ?_; clear hK K; (try dsimp only))
                  | (refine WP.condS (by simp [engE, *]; rfl) (fun hc => ?_) (fun hc => ?_) <;> (try simp at hc))
                  | (refine WP.condE (by simp [engE, *]; rfl) (fun hc => ?_) (fun hc => ?_) <;> (try simp at hc))
                  | (refine WP.skip ?_; (try dsimp only))
                  | (refine WP.blockS ?_; intro K hK)
                  | (refine WP.blockK ?_; intro K hK)
                  | (refine WP.exitS ?_; simp only [ite_true, ite_false, reduceIte])
                  | (refine WP.exit ?_; simp only [ite_true, ite_false, reduceIte])
                  | (refine WP.retS ?_; (try dsimp only); refine ⟨.inr rfl, ?_⟩)
                  | (refine WP.ret ?_; (try dsimp only); refine ⟨.inr rfl, ?_⟩)
                  | (refine Keep.use (by assumption) ?_; (try dsimp only)))
                refine ⟨(q + 1, s', R', sb'), by simp; omega, kn', q1, q2, by simp; omega, wy', sn', ?_⟩
                simp [engE, *]
              · rw [if_pos ⟨y0, hm⟩] at q17
                simp only [hm, decide_false] at hsb
                have kn2 := kn'.add q1 q2 ⟨y0, by omega⟩ hm (q + 1)
                have hr1 := hroom2 (s'.1.length + 1) (by omega)
                have hr4 := hroom (way.length + 1) (by omega)
                have hd := den_Clone (t := .bo) rfl way hr2
                repeat' (first
                  | refine WP.assoc ?_
                  | refine WP.skipS ?_
                  | (refine WP.textS rfl ?_; intro K hK; simp [engE, factsE, callsE, app_one, *]; refine hK _ ?_; clear hK K)
                  | (refine WP.textK rfl ?_; intro K hK; simp [engE, factsE, callsE, app_one, *]; refine hK _ ?_; clear hK K; (try dsimp only))
                  | (refine WP.drawnS rfl ?_; intro K hK; simp [keyE, engE, factsE, callsE, app_one, *]; refine ⟨by kernel_rfl, hK _ ?_⟩; clear hK K)
                  | (refine WP.drawnK rfl ?_; intro K hK; simp [keyE, engE, factsE, callsE, app_one, *]; refine ⟨by kernel_rfl, hK _ ?_⟩; clear hK K; (try dsimp only))
                  | (refine WP.textSB ?_; intro K hK; simp [putBack, putBack1, engE, factsE, callsE, app_one, *]; refine hK _ ?_; clear hK K)
                  | (refine WP.textBK ?_; intro K hK; simp [putBack, putBack1, engE, factsE, callsE, app_one, *]; refine hK _ ?_; clear hK K; (try dsimp only))
                  | (refine WP.condS (by simp [engE, *]; rfl) (fun hc => ?_) (fun hc => ?_) <;> (try simp at hc))
                  | (refine WP.condE (by simp [engE, *]; rfl) (fun hc => ?_) (fun hc => ?_) <;> (try simp at hc))
                  | (refine WP.skip ?_; (try dsimp only))
                  | (refine WP.blockS ?_; intro K hK)
                  | (refine WP.blockK ?_; intro K hK)
                  | (refine WP.exitS ?_; simp only [ite_true, ite_false, reduceIte])
                  | (refine WP.exit ?_; simp only [ite_true, ite_false, reduceIte])
                  | (refine WP.retS ?_; (try dsimp only); refine ⟨.inr rfl, ?_⟩)
                  | (refine WP.ret ?_; (try dsimp only); refine ⟨.inr rfl, ?_⟩)
                  | (refine Keep.use (by assumption) ?_; (try dsimp only)))
                refine ⟨(q + 1, (s'.1 ++ [y], s'.2 ++ [way ++ [(q : Int) + 1]]), R' ++ [[I y, .tr .im 1 (rowsI (way ++ [(q : Int) + 1]))]], sb'.set y.toNat true), by simp; omega, kn2, by simp; omega, by rw [List.getElem?_append_left (by omega)]; exact q2, by simp; omega, ?_, ?_, ?_⟩
                · refine ⟨by simp [hRl], fun j x' w h1 h2 h3 => ?_⟩
                  simp only at h2 h3 ⊢
                  by_cases hj : j < s'.1.length
                  · rw [List.getElem?_append_left hj] at h2
                    rw [List.getElem?_append_left (by omega)] at h3
                    rw [List.getElem?_append_left (by omega)]
                    exact wy'.2 j x' w h1 h2 h3
                  · have hj2 := (List.getElem?_eq_some_iff.1 h2).1
                    have e : j = s'.1.length := by simp at hj2; omega
                    subst e
                    rw [List.getElem?_append_right (by omega)] at h2 h3 ⊢
                    simp [hRl, hlen'] at h2 h3 ⊢
                    subst h2; subst h3; exact ⟨rfl, rfl⟩
                · refine ⟨by simp [hbl], fun z hz => ?_⟩
                  rw [List.getElem?_set]
                  by_cases hzy : y.toNat = z
                  · subst hzy
                    simp [y1, y0]
                    omega
                  · rw [if_neg hzy, sn'.2 z hz]
                    have : (z : Int) ≠ y := by omega
                    simp [this]
                · have t1 : List.take s'.1.length R' = R' := List.take_of_length_le (by omega)
                  have t2 : List.take (way.length + 1) (rowsI (way ++ [(q : Int) + 1])) = rowsI (way ++ [(q : Int) + 1]) := List.take_of_length_le (by simp [rowsI])
                  simp [engE, app_one, *]
          · have e : q = 8 := by omega
            subst e
            have hdr : row.drop 8 = [] := List.drop_eq_nil_of_le (by omega)
            rw [hdr, sIn] at q17
            rw [q17] at i10
            have e9 : m.1.length + 1 - (i + 1) = m.1.length - i := by omega
            repeat' (first
              | refine WP.assoc ?_
              | refine WP.skipS ?_
              | (refine WP.textS rfl ?_; intro K hK; simp [engE, factsE, callsE, *]; refine hK _ ?_; clear hK K)
              | (refine WP.textK rfl ?_; intro K hK; simp [engE, factsE, callsE, *]; refine hK _ ?_; clear hK K; (try dsimp only))
              | (refine WP.drawnS rfl ?_; intro K hK; simp [keyE, engE, factsE, callsE, *]; refine ⟨by kernel_rfl, hK _ ?_⟩; clear hK K)
              | (refine WP.drawnK rfl ?_; intro K hK; simp [keyE, engE, factsE, callsE, *]; refine ⟨by kernel_rfl, hK _ ?_⟩; clear hK K; (try dsimp only))
              | (refine WP.textSB ?_; intro K hK; simp [putBack, putBack1, engE, factsE, callsE, *]; refine hK _ ?_; clear hK K)
              | (refine WP.textBK ?_; intro K hK; simp [putBack, putBack1, engE, factsE, callsE, *]; refine hK _ ?_; clear hK K; (try dsimp only))
              | (refine WP.condS (by simp [engE, *]; rfl) (fun hc => ?_) (fun hc => ?_) <;> (try simp at hc))
              | (refine WP.condE (by simp [engE, *]; rfl) (fun hc => ?_) (fun hc => ?_) <;> (try simp at hc))
              | (refine WP.skip ?_; (try dsimp only))
              | (refine WP.blockS ?_; intro K hK)
              | (refine WP.blockK ?_; intro K hK)
              | (refine WP.exitS ?_; simp only [ite_true, ite_false, reduceIte])
              | (refine WP.exit ?_; simp only [ite_true, ite_false, reduceIte])
              | (refine WP.retS ?_; (try dsimp only); refine ⟨.inr rfl, ?_⟩)
              | (refine WP.ret ?_; (try dsimp only); refine ⟨.inr rfl, ?_⟩)
              | (refine Keep.use (by assumption) ?_; (try dsimp only)))
            refine ⟨(i + 1, s', R', sb'), by simp; omega, kn', by simp; omega, wy', sn', ?_⟩
            simp [engE, *]
    · have e1 : m.1.length + 1 - i = (m.1.length - i) + 1 := by omega
      rw [e1, sOut, if_neg hk] at i10
      repeat' (first
        | refine WP.assoc ?_
        | refine WP.skipS ?_
        | (refine WP.textS rfl ?_; intro K hK; simp [engE, factsE, callsE, *]; refine hK _ ?_; clear hK K)
        | (refine WP.textK rfl ?_; intro K hK; simp [engE, factsE, callsE, *]; refine hK _ ?_; clear hK K; (try dsimp only))
        | (refine WP.drawnS rfl ?_; intro K hK; simp [keyE, engE, factsE, callsE, *]; refine ⟨by kernel_rfl, hK _ ?_⟩; clear hK K)
        | (refine WP.drawnK rfl ?_; intro K hK; simp [keyE, engE, factsE, callsE, *]; refine ⟨by kernel_rfl, hK _ ?_⟩; clear hK K; (try dsimp only))
        | (refine WP.textSB ?_; intro K hK; simp [putBack, putBack1, engE, factsE, callsE, *]; refine hK _ ?_; clear hK K)
        | (refine WP.textBK ?_; intro K hK; simp [putBack, putBack1, engE, factsE, callsE, *]; refine hK _ ?_; clear hK K; (try dsimp only))
        | (refine WP.condS (by simp [engE, *]; rfl) (fun hc => ?_) (fun hc => ?_) <;> (try simp at hc))
        | (refine WP.condE (by simp [engE, *]; rfl) (fun hc => ?_) (fun hc => ?_) <;> (try simp at hc))
        | (refine WP.skip ?_; (try dsimp only))
        | (refine WP.blockS ?_; intro K hK)
        | (refine WP.blockK ?_; intro K hK)
        | (refine WP.exitS ?_; simp only [ite_true, ite_false, reduceIte])
        | (refine WP.exit ?_; simp only [ite_true, ite_false, reduceIte])
        | (refine WP.retS ?_; (try dsimp only); refine ⟨.inr rfl, ?_⟩)
        | (refine WP.ret ?_; (try dsimp only); refine ⟨.inr rfl, ?_⟩)
        | (refine Keep.use (by assumption) ?_; (try dsimp only)))
      simp [engE, Try.results84, *]

end Go.AM

