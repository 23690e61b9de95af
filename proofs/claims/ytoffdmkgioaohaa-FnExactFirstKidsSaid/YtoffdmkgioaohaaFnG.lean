/- The first shortest way through an automaton: the reference's. -/
import Derived.Test.YtoffdmkgioaohaaFnF
namespace Go.AM
open Go.Proofs
set_option maxRecDepth 4000
set_option maxHeartbeats 2000000
set_option linter.unusedSimpArgs false
set_option linter.unusedVariables false

theorem den_Clone {t : Tag} (ht : t.fixed = true) (l : List Int) (h : room l.length 8 = true) : D 166 [.tr t 1 (rowsI l)] [] = some (.sl 0 0 1 0 l.length, [(0, some (.slice 1 (rowsI l)))]) :=
  den_ext rfl (by simp [cloneX, h, ht])

/-! #### in plain words -/
/-- the kids of one state, one by one: states and ways that are known -/
def sIn (way : List Int) : List Int → Int → List Int × List (List Int) → List Int × List (List Int)
  | [], _, s => s
  | n :: row, kind, s => sIn way row (kind + 1) (if 0 ≤ n ∧ n ∉ s.1 then (s.1 ++ [n], s.2 ++ [way ++ [kind]]) else s)
def sOut (m : Mach) : Nat → Nat → List Int × List (List Int) → Option (List Int)
  | 0, _, _ => none
  | f + 1, i, s => if i < s.1.length then
      if m.2.getD (s.1.getD i 0).toNat false = true then some (s.2.getD i [])
      else sOut m f (i + 1) (sIn (s.2.getD i []) (m.1.getD (s.1.getD i 0).toNat []) 1 s)
    else none
def sFirst (m : Mach) : Option (List Int) := sOut m (m.1.length + 1) 0 ([0], [[]])

theorem pigeon : ∀ (n : Nat) (l : List Int), l.Nodup → (∀ x ∈ l, 0 ≤ x ∧ x < n) → l.length ≤ n
  | 0, l, _, hb => by
    cases l with
    | nil => simp
    | cons x l => have := hb x (by simp); omega
  | n + 1, l, nd, hb => by
    by_cases hm : (n : Int) ∈ l
    · have h1 := pigeon n (l.erase n) (nd.erase _) (fun x hx => by
        have hx2 := (nd.mem_erase_iff).1 hx
        have := hb x hx2.2
        omega)
      rw [List.length_erase_of_mem hm] at h1
      omega
    · have := pigeon n l nd (fun x hx => by
        have := hb x hx
        have : x ≠ n := by rintro rfl; exact hm hx
        omega)
      omega

/-- what is known keeps its order -/
structure Known (n : Nat) (s : List Int × List (List Int)) : Prop where
  len : s.2.length = s.1.length
  nd : s.1.Nodup
  lo : ∀ x ∈ s.1, 0 ≤ x ∧ x < n
  sh : ∀ (j : Nat) w, s.2[j]? = some w → w.length ≤ j
theorem Known.le {n : Nat} {s : List Int × List (List Int)} (h : Known n s) : s.1.length ≤ n := pigeon n s.1 h.nd h.lo
theorem Known.add {n : Nat} {s : List Int × List (List Int)} (h : Known n s) {i : Nat} (hi : i < s.1.length) {way : List Int} (hw : s.2[i]? = some way) {x : Int} (hx : 0 ≤ x ∧ x < n) (hn : x ∉ s.1) (kind : Int) :
    Known n (s.1 ++ [x], s.2 ++ [way ++ [kind]]) := by
  refine ⟨by simp [h.len], ?_, ?_, ?_⟩
  · simp only [List.nodup_append]
    refine ⟨h.nd, by simp, ?_⟩
    rintro a ha b hb rfl
    simp at hb; subst hb; exact hn ha
  · intro y hy
    rcases List.mem_append.1 hy with hy | hy
    · exact h.lo y hy
    · simp at hy; subst hy; exact hx
  · intro j w hj
    simp only at hj
    rw [List.getElem?_append] at hj
    split at hj
    · exact h.sh j w hj
    · rename_i hlt
      have h1 := h.sh i way hw
      have h2 := h.len
      rw [List.getElem?_singleton] at hj
      split at hj
      · cases hj; simp; omega
      · cases hj
theorem sIn_first (way : List Int) (row : List Int) : ∀ (kind : Int) (s : List Int × List (List Int)) (i : Nat) (w : List Int), s.2[i]? = some w → (sIn way row kind s).2[i]? = some w := by
  induction row with
  | nil => intro kind s i w h; exact h
  | cons n row ih =>
    intro kind s i w h
    rw [sIn]
    refine ih _ _ _ _ ?_
    split
    · have := (List.getElem?_eq_some_iff.1 h).1
      rw [List.getElem?_append_left this]; exact h
    · exact h

@[simp] theorem rowsI_app (a b : List Int) : rowsI a ++ rowsI b = rowsI (a ++ b) := by simp [rowsI]
theorem rowsI_one (x : Int) : [[I x]] = rowsI [x] := rfl
theorem rowsII_app (a b : List (List Int)) : rowsII a ++ rowsII b = rowsII (a ++ b) := by simp [rowsII]
theorem rowsII_one (x : List Int) : [[.tr .im 1 (rowsI x)]] = rowsII [x] := rfl
theorem app_one (a : List Int) (x : Int) : rowsI a ++ [[I x]] = rowsI (a ++ [x]) := by simp [rowsI]
theorem app_oneI (a : List (List Int)) (x : List Int) : rowsII a ++ [[.tr .im 1 (rowsI x)]] = rowsII (a ++ [x]) := by simp [rowsII]

theorem machOK_use {m : Mach} (h : machOK m = true) : 1 ≤ m.1.length ∧ m.1.length ≤ 512 ∧ m.2.length = m.1.length ∧ ∀ r ∈ m.1, r.length = 8 ∧ ∀ x ∈ r, -1 ≤ x ∧ x ≤ (m.1.length : Int) - 1 := by
  simp only [machOK, Bool.and_eq_true, decide_eq_true_eq, List.all_eq_true, rowOK, cellOK] at h
  exact ⟨h.1.1, h.1.2, h.2.1, fun r hr => ⟨(h.2.2 r hr).1, fun x hx => (h.2.2 r hr).2 x hx⟩⟩

theorem den_l04First {t : Tag} (ht : t.fixed = true) (m : Mach) (hm : machOK m = true) :
    D 80 [m.av t] [] = some (match sFirst m with
      | some w => (.tup [.sl 0 0 1 0 w.length, Bo true], [(0, some (.slice 1 (rowsI w)))])
      | none => (.tup [.sl 0 0 1 0 0, Bo false], [(0, some (.slice 1 []))])) := by
  obtain ⟨m1, m2, m3, m4⟩ := machOK_use hm
  have hroom : ∀ k : Nat, k ≤ 4096 → room k 8 = true := fun k hk => room_ok (by omega) (by omega) (by omega)
  have hroom2 : ∀ k : Nat, k ≤ 4096 → room k 24 = true := fun k hk => room_ok (by omega) (by omega) (by omega)
  unfold Mach.av
  refine den_of rfl Try.func80 rfl (by kernel_rfl) (by simp [Try.ntmps80]) (by simp) ?_
  repeat' (first
    | refine WP.assoc ?_
    | refine WP.skipS ?_
    | (refine WP.textS rfl ?_; intro K hK; simp [engE, factsE, callsE, *]; refine hK _ ?_; clear hK K)
    | (refine WP.textK rfl ?_; intro K hK; simp [engE, factsE, callsE, *]; refine hK _ ?_; clear hK K; (try dsimp only))
    | (refine WP.drawnS rfl ?_; intro K hK; simp [keyE, engE, factsE, callsE, *]; refine ⟨by kernel_rfl, hK _ ?_⟩; clear hK K)
    | (refine WP.drawnK rfl ?_; intro K hK; simp [keyE, engE, factsE, callsE, *]; refine ⟨by kernel_rfl, hK _ ?_⟩; clear hK K; (try dsimp only))
    | (refine WP.textSB ?_; intro K hK; simp [putBack, putBack1, engE, factsE, callsE, *]; refine hK _ ?_; clear hK K)
    | (refine WP.textBK ?_; intro K hK; simp [putBack, putBack1, engE, factsE, callsE, *]; refine hK _ ?_; clear hK K; (try dsimp only))
    | (refine WP.condS (by simp [engE, *]; rfl) (fun hc => ?_) (fun hc => ?_) <;> (try simp at hc))
    | (refine WP.condE (by simp [engE, *]; rfl) (fun hc => ?_) (fun hc => ?_) <;> (try simp at hc))
    | (refine WP.skip ?_; (try dsimp only))
    | (refine WP.blockS ?_; intro K hK)
    | (refine WP.blockK ?_; intro K hK)
    | (refine WP.exitS ?_; simp only [ite_true, ite_false, reduceIte])
    | (refine WP.exit ?_; simp only [ite_true, ite_false, reduceIte])
    | (refine WP.retS ?_; (try dsimp only); refine ⟨.inr rfl, ?_⟩)
    | (refine WP.ret ?_; (try dsimp only); refine ⟨.inr rfl, ?_⟩)
    | (refine Keep.use (by assumption) ?_; (try dsimp only)))
  refine WP.loopI (ι := Nat × (List Int × List (List Int))) (fun i σ => Known m.1.length i.2 ∧ i.1 ≤ i.2.1.length ∧ σ.slots 1 = .ptr 24 1 0 0 ∧ σ.gens 24 = 1 ∧ σ.objs 24 = some (.box [.tr t 1 (rowsII m.1), .tr t 1 (rowsB m.2)]) ∧
    σ.slots 4 = .sl 88 (σ.gens 88) 1 0 i.2.1.length ∧ σ.objs 88 = some (.slice 1 (rowsI i.2.1)) ∧ σ.slots 5 = .sl 104 (σ.gens 104) 1 0 i.2.1.length ∧ σ.objs 104 = some (.slice 1 (rowsII i.2.2)) ∧
    σ.slots 6 = I i.1 ∧ sFirst m = sOut m (m.1.length + 1 - i.1) i.1 i.2) (fun i => m.1.length + 1 - i.1) (0, ([0], [[]])) ?_ ?_
  · refine ⟨⟨rfl, by simp, by simp; omega, by intro j w h; cases j <;> simp_all⟩, ?_⟩
    simp [engE, sFirst, rowsI, rowsII]
  · rintro ⟨i, s⟩ σ ⟨kn, i1, i2, i3, i4, i5, i6, i7, i8, i9, i10⟩
    simp only at kn i1 i2 i3 i4 i5 i6 i7 i8 i9 i10
    have hle := kn.le
    have hlen := kn.len
    by_cases hk : i < s.1.length
    · have hw2 := w64s (k := i) (by omega)
      have hk2 : i < s.2.length := by omega
      obtain ⟨x, hx⟩ : ∃ x, s.1[i] = x := ⟨_, rfl⟩
      have hxb := kn.lo s.1[i] (List.getElem_mem hk)
      rw [hx] at hxb
      obtain ⟨x0, x1⟩ := hxb
      have hx2 : x.toNat < m.2.length := by omega
      have hx1 : x.toNat < m.1.length := by omega
      have e1 : m.1.length + 1 - i = (m.1.length - i) + 1 := by omega
      rw [e1, sOut, if_pos hk] at i10
      have e2 : s.1.getD i 0 = x := by simp [List.getD_eq_getElem?_getD, hk, hx]
      have e3 : s.2.getD i [] = s.2[i] := by simp [List.getD_eq_getElem?_getD, hk2]
      have e4 : m.2.getD x.toNat false = m.2[x.toNat] := by simp [List.getD_eq_getElem?_getD, hx2]
      have e5 : m.1.getD x.toNat [] = m.1[x.toNat] := by simp [List.getD_eq_getElem?_getD, hx1]
      rw [e2, e3, e4, e5] at i10
      by_cases hf : m.2[x.toNat] = true
      · rw [if_pos hf] at i10
        repeat' (first
          | refine WP.assoc ?_
          | refine WP.skipS ?_
          | (refine WP.textS rfl ?_; intro K hK; simp [engE, factsE, callsE, *]; refine hK _ ?_; clear hK K)
          | (refine WP.textK rfl ?_; intro K hK; simp [engE, factsE, callsE, *]; refine hK _ ?_; clear hK K; (try dsimp only))
          | (refine WP.drawnS rfl ?_; intro K hK; simp [keyE, engE, factsE, callsE, *]; refine ⟨by kernel_rfl, hK _ ?_⟩; clear hK K)
          | (refine WP.drawnK rfl ?_; intro K hK; simp [keyE, engE, factsE, callsE, *]; refine ⟨by kernel_rfl, hK _ ?_⟩; clear hK K; (try dsimp only))
          | (refine WP.textSB ?_; intro K hK; simp [putBack, putBack1, engE, factsE, callsE, *]; refine hK _ ?_; clear hK K)
          | (refine WP.textBK ?_; intro K hK; simp [putBack, putBack1, engE, factsE, callsE, *]; refine hK _ ?_; clear hK K; (try dsimp only))
          | (refine WP.condS (by simp [engE, *]; rfl) (fun hc => ?_) (fun hc => ?_) <;> (try simp at hc))
          | (refine WP.condE (by simp [engE, *]; rfl) (fun hc => ?_) (fun hc => ?_) <;> (try simp at hc))
          | (refine WP.skip ?_; (try dsimp only))
          | (refine WP.blockS ?_; intro K hK)
          | (refine WP.blockK ?_; intro K hK)
          | (refine WP.exitS ?_; simp only [ite_true, ite_false, reduceIte])
          | (refine WP.exit ?_; simp only [ite_true, ite_false, reduceIte])
          | (refine WP.retS ?_; (try dsimp only); refine ⟨.inr rfl, ?_⟩)
          | (refine WP.ret ?_; (try dsimp only); refine ⟨.inr rfl, ?_⟩)
          | (refine Keep.use (by assumption) ?_; (try dsimp only)))
        simp [engE, Try.results80, *]
      · have hf : m.2[x.toNat] = false := by simpa using hf
        rw [if_neg (by simp [hf])] at i10
        obtain ⟨r8, rb⟩ := m4 m.1[x.toNat] (List.getElem_mem hx1)
        obtain ⟨way, hway⟩ : ∃ way, s.2[i] = way := ⟨_, rfl⟩
        obtain ⟨row, hrow⟩ : ∃ row, m.1[x.toNat] = row := ⟨_, rfl⟩
        rw [hway, hrow] at i10
        rw [hrow] at r8 rb
        repeat' (first
          | refine WP.assoc ?_
          | refine WP.skipS ?_
          | (refine WP.textS rfl ?_; intro K hK; simp [engE, factsE, callsE, *]; refine hK _ ?_; clear hK K)
          | (refine WP.textK rfl ?_; intro K hK; simp [engE, factsE, callsE, *]; refine hK _ ?_; clear hK K; (try dsimp only))
          | (refine WP.drawnS rfl ?_; intro K hK; simp [keyE, engE, factsE, callsE, *]; refine ⟨by kernel_rfl, hK _ ?_⟩; clear hK K)
          | (refine WP.drawnK rfl ?_; intro K hK; simp [keyE, engE, factsE, callsE, *]; refine ⟨by kernel_rfl, hK _ ?_⟩; clear hK K; (try dsimp only))
          | (refine WP.textSB ?_; intro K hK; simp [putBack, putBack1, engE, factsE, callsE, *]; refine hK _ ?_; clear hK K)
          | (refine WP.textBK ?_; intro K hK; simp [putBack, putBack1, engE, factsE, callsE, *]; refine hK _ ?_; clear hK K; (try dsimp only))
          | (refine WP.condS (by simp [engE, *]; rfl) (fun hc => ?_) (fun hc => ?_) <;> (try simp at hc))
          | (refine WP.condE (by simp [engE, *]; rfl) (fun hc => ?_) (fun hc => ?_) <;> (try simp at hc))
          | (refine WP.skip ?_; (try dsimp only))
          | (refine WP.blockS ?_; intro K hK)
          | (refine WP.blockK ?_; intro K hK)
          | (refine WP.exitS ?_; simp only [ite_true, ite_false, reduceIte])
          | (refine WP.exit ?_; simp only [ite_true, ite_false, reduceIte])
          | (refine WP.retS ?_; (try dsimp only); refine ⟨.inr rfl, ?_⟩)
          | (refine WP.ret ?_; (try dsimp only); refine ⟨.inr rfl, ?_⟩)
          | (refine Keep.use (by assumption) ?_; (try dsimp only)))
        refine WP.loopI (ι := Nat × (List Int × List (List Int))) (fun q σ => Known m.1.length q.2 ∧ i < q.2.1.length ∧ q.2.2[i]? = some way ∧ q.2.1[i]? = some x ∧ q.1 ≤ 8 ∧ σ.slots 1 = .ptr 24 1 0 0 ∧ σ.gens 24 = 1 ∧
          σ.objs 24 = some (.box [.tr t 1 (rowsII m.1), .tr t 1 (rowsB m.2)]) ∧ σ.slots 4 = .sl 88 (σ.gens 88) 1 0 q.2.1.length ∧ σ.objs 88 = some (.slice 1 (rowsI q.2.1)) ∧
          σ.slots 5 = .sl 104 (σ.gens 104) 1 0 q.2.1.length ∧ σ.objs 104 = some (.slice 1 (rowsII q.2.2)) ∧ σ.slots 6 = I i ∧ σ.slots 7 = I (q.1 + 1) ∧ sIn way row 1 s = sIn way (row.drop q.1) (q.1 + 1) q.2) (fun q => 8 - q.1) (0, s) ?_ ?_
        · refine ⟨kn, hk, by simp [hk2, hway], by simp [hk, hx], by simp, ?_⟩
          simp [engE, *]
        · rintro ⟨q, s'⟩ σ ⟨kn', q1, q2, q3, q4, q5, q6, q7, q8, q9, q10, q11, q12, q13, q14⟩
          simp only at kn' q1 q2 q3 q4 q5 q6 q7 q8 q9 q10 q11 q12 q13 q14
          have hle' := kn'.le
          have hlen' := kn'.len
          have hwl := kn'.sh i way q2
          clear hway e3
          clear hk2 e2
          clear hx i3 i4 i5 i6 i7 i8 i9
          have hk2 : i < s'.2.length := by omega
          have hx : s'.1[i] = x := (List.getElem?_eq_some_iff.1 q3).2
          have hwy : s'.2[i] = way := (List.getElem?_eq_some_iff.1 q2).2
          by_cases hq : q < 8
          · have hql : q < row.length := by omega
            have hw3 : IntKind.i64.wrap ((q : Int) + 1 + 1) = ((q + 1 : Nat) : Int) + 1 := by rw [w64] <;> omega
            have hw4 : IntKind.i64.wrap (q : Int) = (q : Int) := by rw [w64] <;> omega
            have hq8 : (q : Int) + 1 ≤ 8 := by omega
            obtain ⟨y, hy⟩ : ∃ y, row[q] = y := ⟨_, rfl⟩
            have hyb := rb row[q] (List.getElem_mem hql)
            rw [hy] at hyb
            rw [List.drop_eq_getElem_cons hql, hy, sIn] at q14
            by_cases h0 : 0 ≤ y
            · have hd := den_l02Has (t := .bo) rfl s'.1 y (by omega)
              by_cases hm : y ∈ s'.1
              · rw [if_neg (by simp [hm])] at q14
                simp only [hm, decide_true] at hd
                repeat' (first
                  | refine WP.assoc ?_
                  | refine WP.skipS ?_
                  | (refine WP.textS rfl ?_; intro K hK; simp [engE, factsE, callsE, *]; refine hK _ ?_; clear hK K)
                  | (refine WP.textK rfl ?_; intro K hK; simp [engE, factsE, callsE, *]; refine hK _ ?_; clear hK K; (try dsimp only))
                  | (refine WP.drawnS rfl ?_; intro K hK; simp [keyE, engE, factsE, callsE, *]; refine ⟨by kernel_rfl, hK _ ?_⟩; clear hK K)
                  | (refine WP.drawnK rfl ?_; intro K hK; simp [keyE, engE, factsE, callsE, *]; refine ⟨by kernel_rfl, hK _ ?_⟩; clear hK K; (try dsimp only))
                  | (refine WP.textSB ?_; intro K hK; simp [putBack, putBack1, engE, factsE, callsE, *]; refine hK _ ?_; clear hK K)
                  | (refine WP.textBK ?_; intro K hK; simp [putBack, putBack1, engE, factsE, callsE, *]; refine hK _ ?_; clear hK K; (try dsimp only))
                  | (refine WP.condS (by simp [engE, *]; rfl) (fun hc => ?_) (fun hc => ?_) <;> (try simp at hc))
                  | (refine WP.condE (by simp [engE, *]; rfl) (fun hc => ?_) (fun hc => ?_) <;> (try simp at hc))
                  | (refine WP.skip ?_; (try dsimp only))
                  | (refine WP.blockS ?_; intro K hK)
                  | (refine WP.blockK ?_; intro K hK)
                  | (refine WP.exitS ?_; simp only [ite_true, ite_false, reduceIte])
                  | (refine WP.exit ?_; simp only [ite_true, ite_false, reduceIte])
                  | (refine WP.retS ?_; (try dsimp only); refine ⟨.inr rfl, ?_⟩)
                  | (refine WP.ret ?_; (try dsimp only); refine ⟨.inr rfl, ?_⟩)
                  | (refine Keep.use (by assumption) ?_; (try dsimp only)))
                refine ⟨(q + 1, s'), by simp; omega, kn', q1, q2, q3, by simp; omega, ?_⟩
                simp [engE, *]
              · rw [if_pos ⟨h0, hm⟩] at q14
                simp only [hm, decide_false] at hd
                have kn2 := kn'.add q1 q2 ⟨h0, by omega⟩ hm (q + 1)
                have hr1 := hroom (s'.1.length + 1) (by omega)
                have hr2 := hroom2 (s'.1.length + 1) (by omega)
                have hr3 := hroom way.length (by omega)
                have hr4 := hroom (way.length + 1) (by omega)
                repeat' (first
                  | refine WP.assoc ?_
                  | refine WP.skipS ?_
                  | (refine WP.textS rfl ?_; intro K hK; simp [engE, factsE, callsE, app_one, app_oneI, *]; refine hK _ ?_; clear hK K)
                  | (refine WP.textK rfl ?_; intro K hK; simp [engE, factsE, callsE, app_one, app_oneI, *]; refine hK _ ?_; clear hK K; (try dsimp only))
                  | (refine WP.drawnS rfl ?_; intro K hK; simp [keyE, engE, factsE, callsE, app_one, app_oneI, *]; refine ⟨by kernel_rfl, hK _ ?_⟩; clear hK K)
                  | (refine WP.drawnK rfl ?_; intro K hK; simp [keyE, engE, factsE, callsE, app_one, app_oneI, *]; refine ⟨by kernel_rfl, hK _ ?_⟩; clear hK K; (try dsimp only))
                  | (refine WP.textSB ?_; intro K hK; simp [putBack, putBack1, engE, factsE, callsE, app_one, app_oneI, *]; refine hK _ ?_; clear hK K)
                  | (refine WP.textBK ?_; intro K hK; simp [putBack, putBack1, engE, factsE, callsE, app_one, app_oneI, *]; refine hK _ ?_; clear hK K; (try dsimp only))
                  | (refine WP.condS (by simp [engE, *]; rfl) (fun hc => ?_) (fun hc => ?_) <;> (try simp at hc))
                  | (refine WP.condE (by simp [engE, *]; rfl) (fun hc => ?_) (fun hc => ?_) <;> (try simp at hc))
                  | (refine WP.skip ?_; (try dsimp only))
                  | (refine WP.blockS ?_; intro K hK)
                  | (refine WP.blockK ?_; intro K hK)
                  | (refine WP.exitS ?_; simp only [ite_true, ite_false, reduceIte])
                  | (refine WP.exit ?_; simp only [ite_true, ite_false, reduceIte])
                  | (refine WP.retS ?_; (try dsimp only); refine ⟨.inr rfl, ?_⟩)
                  | (refine WP.ret ?_; (try dsimp only); refine ⟨.inr rfl, ?_⟩)
                  | (refine Keep.use (by assumption) ?_; (try dsimp only)))
                refine ⟨(q + 1, (s'.1 ++ [y], s'.2 ++ [way ++ [(q : Int) + 1]])), by simp; omega, kn2, by simp; omega, by rw [List.getElem?_append_left hk2]; exact q2, by rw [List.getElem?_append_left q1]; exact q3, by simp; omega, ?_⟩
                have t1 : List.take s'.1.length (rowsII s'.2) = rowsII s'.2 := List.take_of_length_le (by simp [rowsII]; omega)
                have t2 : List.take (way.length + 1) (rowsI (way ++ [(q : Int) + 1])) = rowsI (way ++ [(q : Int) + 1]) := List.take_of_length_le (by simp [rowsI])
                simp [engE, app_one, app_oneI, *]
            · rw [if_neg (by simp [h0])] at q14
              repeat' (first
                | refine WP.assoc ?_
                | refine WP.skipS ?_
                | (refine WP.textS rfl ?_; intro K hK; simp [engE, factsE, callsE, *]; refine hK _ ?_; clear hK K)
                | (refine WP.textK rfl ?_; intro K hK; simp [engE, factsE, callsE, *]; refine hK _ ?_; clear hK K; (try dsimp only))
                | (refine WP.drawnS rfl ?_; intro K hK; simp [keyE, engE, factsE, callsE, *]; refine ⟨by kernel_rfl, hK _ ?_⟩; clear hK K)
                | (refine WP.drawnK rfl ?_; intro K hK; simp [keyE, engE, factsE, callsE, *]; refine ⟨by kernel_rfl, hK _ ?_⟩; clear hK K; (try dsimp only))
                | (refine WP.textSB ?_; intro K hK; simp [putBack, putBack1, engE, factsE, callsE, *]; refine hK _ ?_; clear hK K)
                | (refine WP.textBK ?_; intro K hK; simp [putBack, putBack1, engE, factsE, callsE, *]; refine hK _ ?_; clear hK K; (try dsimp only))
                | (refine WP.condS (by simp [engE, *]; rfl) (fun hc => ?_) (fun hc => ?_) <;> (try simp at hc))
                | (refine WP.condE (by simp [engE, *]; rfl) (fun hc => ?_) (fun hc => ?_) <;> (try simp at hc))
                | (refine WP.skip ?_; (try dsimp only))
                | (refine WP.blockS ?_; intro K hK)
                | (refine WP.blockK ?_; intro K hK)
                | (refine WP.exitS ?_; simp only [ite_true, ite_false, reduceIte])
                | (refine WP.exit ?_; simp only [ite_true, ite_false, reduceIte])
                | (refine WP.retS ?_; (try dsimp only); refine ⟨.inr rfl, ?_⟩)
                | (refine WP.ret ?_; (try dsimp only); refine ⟨.inr rfl, ?_⟩)
                | (refine Keep.use (by assumption) ?_; (try dsimp only)))
              refine ⟨(q + 1, s'), by simp; omega, kn', q1, q2, q3, by simp; omega, ?_⟩
              simp [engE, *]
          · have e : q = 8 := by omega
            subst e
            have hdr : row.drop 8 = [] := List.drop_eq_nil_of_le (by omega)
            rw [hdr, sIn] at q14
            rw [q14] at i10
            have e9 : m.1.length + 1 - (i + 1) = m.1.length - i := by omega
            repeat' (first
              | refine WP.assoc ?_
              | refine WP.skipS ?_
              | (refine WP.textS rfl ?_; intro K hK; simp [engE, factsE, callsE, *]; refine hK _ ?_; clear hK K)
              | (refine WP.textK rfl ?_; intro K hK; simp [engE, factsE, callsE, *]; refine hK _ ?_; clear hK K; (try dsimp only))
              | (refine WP.drawnS rfl ?_; intro K hK; simp [keyE, engE, factsE, callsE, *]; refine ⟨by kernel_rfl, hK _ ?_⟩; clear hK K)
              | (refine WP.drawnK rfl ?_; intro K hK; simp [keyE, engE, factsE, callsE, *]; refine ⟨by kernel_rfl, hK _ ?_⟩; clear hK K; (try dsimp only))
              | (refine WP.textSB ?_; intro K hK; simp [putBack, putBack1, engE, factsE, callsE, *]; refine hK _ ?_; clear hK K)
              | (refine WP.textBK ?_; intro K hK; simp [putBack, putBack1, engE, factsE, callsE, *]; refine hK _ ?_; clear hK K; (try dsimp only))
              | (refine WP.condS (by simp [engE, *]; rfl) (fun hc => ?_) (fun hc => ?_) <;> (try simp at hc))
              | (refine WP.condE (by simp [engE, *]; rfl) (fun hc => ?_) (fun hc => ?_) <;> (try simp at hc))
              | (refine WP.skip ?_; (try dsimp only))
              | (refine WP.blockS ?_; intro K hK)
              | (refine WP.blockK ?_; intro K hK)
              | (refine WP.exitS ?_; simp only [ite_true, ite_false, reduceIte])
              | (refine WP.exit ?_; simp only [ite_true, ite_false, reduceIte])
              | (refine WP.retS ?_; (try dsimp only); refine ⟨.inr rfl, ?_⟩)
              | (refine WP.ret ?_; (try dsimp only); refine ⟨.inr rfl, ?_⟩)
              | (refine Keep.use (by assumption) ?_; (try dsimp only)))
            refine ⟨(i + 1, s'), by simp; omega, kn', by simp; omega, ?_⟩
            simp [engE, *]
    · have e1 : m.1.length + 1 - i = (m.1.length - i) + 1 := by omega
      rw [e1, sOut, if_neg hk] at i10
      repeat' (first
        | refine WP.assoc ?_
        | refine WP.skipS ?_
        | (refine WP.textS rfl ?_; intro K hK; simp [engE, factsE, callsE, *]; refine hK _ ?_; clear hK K)
        | (refine WP.textK rfl ?_; intro K hK; simp [engE, factsE, callsE, *]; refine hK _ ?_; clear hK K; (try dsimp only))
        | (refine WP.drawnS rfl ?_; intro K hK; simp [keyE, engE, factsE, callsE, *]; refine ⟨by kernel_rfl, hK _ ?_⟩; clear hK K)
        | (refine WP.drawnK rfl ?_; intro K hK; simp [keyE, engE, factsE, callsE, *]; refine ⟨by kernel_rfl, hK _ ?_⟩; clear hK K; (try dsimp only))
        | (refine WP.textSB ?_; intro K hK; simp [putBack, putBack1, engE, factsE, callsE, *]; refine hK _ ?_; clear hK K)
        | (refine WP.textBK ?_; intro K hK; simp [putBack, putBack1, engE, factsE, callsE, *]; refine hK _ ?_; clear hK K; (try dsimp only))
        | (refine WP.condS (by simp [engE, *]; rfl) (fun hc => ?_) (fun hc => ?_) <;> (try simp at hc))
        | (refine WP.condE (by simp [engE, *]; rfl) (fun hc => ?_) (fun hc => ?_) <;> (try simp at hc))
        | (refine WP.skip ?_; (try dsimp only))
        | (refine WP.blockS ?_; intro K hK)
        | (refine WP.blockK ?_; intro K hK)
        | (refine WP.exitS ?_; simp only [ite_true, ite_false, reduceIte])
        | (refine WP.exit ?_; simp only [ite_true, ite_false, reduceIte])
        | (refine WP.retS ?_; (try dsimp only); refine ⟨.inr rfl, ?_⟩)
        | (refine WP.ret ?_; (try dsimp only); refine ⟨.inr rfl, ?_⟩)
        | (refine Keep.use (by assumption) ?_; (try dsimp only)))
      simp [engE, Try.results80, *]

end Go.AM

