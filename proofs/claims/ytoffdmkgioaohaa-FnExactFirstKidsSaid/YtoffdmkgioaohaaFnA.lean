/- Lists as slices; what is left behind a list (sz). -/
import Derived.Test.YtoffdmkgioaohaaAmFa
namespace Go.AM
open Go.Proofs
set_option maxRecDepth 4000
set_option maxHeartbeats 2000000
set_option linter.unusedSimpArgs false
set_option linter.unusedVariables false

/-! #### lists as rows -/
def rowsI (l : List Int) : List (List AV) := l.map fun n => [I n]
def rowsB (l : List Bool) : List (List AV) := l.map fun b => [Bo b]
def rowsII (l : List (List Int)) : List (List AV) := l.map fun r => [.tr .im 1 (rowsI r)]
@[simp] theorem rowsI_length (l : List Int) : (rowsI l).length = l.length := by simp [rowsI]
@[simp] theorem rowsB_length (l : List Bool) : (rowsB l).length = l.length := by simp [rowsB]
@[simp] theorem rowsII_length (l : List (List Int)) : (rowsII l).length = l.length := by simp [rowsII]
@[simp] theorem rowsI_at (l : List Int) (k : Nat) (h : k < (rowsI l).length) : (rowsI l)[k] = [I (l[k]'(by simpa [rowsI] using h))] := by simp [rowsI]
@[simp] theorem rowsB_at (l : List Bool) (k : Nat) (h : k < (rowsB l).length) : (rowsB l)[k] = [Bo (l[k]'(by simpa [rowsB] using h))] := by simp [rowsB]
@[simp] theorem rowsII_at (l : List (List Int)) (k : Nat) (h : k < (rowsII l).length) : (rowsII l)[k] = [.tr .im 1 (rowsI (l[k]'(by simpa [rowsII] using h)))] := by simp [rowsII]
@[simp] theorem rowsI_allC (l : List Int) : allC (rowsI l) = true := by simp [rowsI, allC, isC, cellV]
@[simp] theorem rowsB_allC (l : List Bool) : allC (rowsB l) = true := by simp [rowsB, allC, isC, cellV]
@[simp] theorem rowsI_plain (l : List Int) : allPlain (rowsI l) = true := by simp [rowsI, allPlain, plain, cellV]
@[simp] theorem rowsB_plain (l : List Bool) : allPlain (rowsB l) = true := by simp [rowsB, allPlain, plain, cellV]
@[simp] theorem rowsII_plain (l : List (List Int)) : allPlain (rowsII l) = true := by simp [rowsII, allPlain, plain]
theorem w64 {n : Int} (h1 : -9223372036854775808 ≤ n) (h2 : n < 9223372036854775808) : IntKind.i64.wrap n = n := by
  simp [IntKind.wrap, IntKind.bits, IntKind.signed]; omega
theorem w64s {k : Nat} (h : k < 2^62) : IntKind.i64.wrap ((k : Int) + 1) = ((k + 1 : Nat) : Int) := by rw [w64] <;> omega

/-- the program's answers -/
def cloneX (e bytes : Nat) : List AV → List Ob → Option Out
  | [.tr t e' rows], [] => if t.fixed = true ∧ allC rows = true ∧ e = e' ∧ room rows.length bytes = true then some (.sl 0 0 e 0 rows.length, [(0, some (.slice e rows))]) else none
  | _, _ => none
noncomputable def EX : FuncId → Option (List AV → List Ob → Option Out) := fun f =>
  if f = 166 then some (cloneX 1 8) else none
theorem den_ext {f : FuncId} {g : List AV → List Ob → Option Out} {args : List AV} {T : List Ob} {out : Out} (h : EX f = some g) (ho : g args T = some out) : den cf EX f args T = some out :=
  den_iff.2 ⟨1, by simp [runF, h, ho]⟩
noncomputable abbrev D := den cf EX

/-! #### sz -/
def szL (n : Nat) (left : Int) : Int := if left - n < 0 then -1 else left - n
theorem szL_lt {n : Nat} {left : Int} (h : left < 2^61) : szL n left < 2^61 := by unfold szL; split <;> omega

theorem den_szIntS {t : Tag} (ht : t.fixed = true) (l : List Int) (left : Int) (h1 : l.length < 2^63) (h2 : 0 ≤ left) (h3 : left < 2^61) :
    D 159 [.tr t 1 (rowsI l), I left] [] = some (I (szL l.length left), []) := by
  have hw : IntKind.i64.wrap (left - l.length) = left - l.length := w64 (by omega) (by omega)
  refine den_of rfl Try.func159 rfl (by kernel_rfl) (by simp [Try.ntmps159]) (by simp) ?_
  repeat' (first
    | refine WP.assoc ?_
    | refine WP.skipS ?_
    | (refine WP.textS rfl ?_; intro K hK; simp [engE, factsE, callsE, *]; refine hK _ ?_; clear hK K)
    | (refine WP.textK rfl ?_; intro K hK; simp [engE, factsE, callsE, *]; refine hK _ ?_; clear hK K; (try dsimp only))
    | (refine WP.drawnS rfl ?_; intro K hK; simp [keyE, engE, factsE, callsE, *]; refine ⟨by kernel_rfl, hK _ ?_⟩; clear hK K)
    | (refine WP.drawnK rfl ?_; intro K hK; simp [keyE, engE, factsE, callsE, *]; refine ⟨by kernel_rfl, hK _ ?_⟩; clear hK K; (try dsimp only))
    | (refine WP.textSB ?_; intro K hK; simp [putBack, putBack1, engE, factsE, callsE, *]; refine hK _ ?_; clear hK K)
    | (refine WP.textBK ?_; intro K hK; simp [putBack, putBack1, engE, factsE, callsE, *]; refine hK _ ?_; clear hK K; (try dsimp only))
    | (refine WP.condS (by simp [engE, *]; rfl) (fun hc => ?_) (fun hc => ?_) <;> (try simp at hc))
    | (refine WP.condE (by simp [engE, *]; rfl) (fun hc => ?_) (fun hc => ?_) <;> (try simp at hc))
    | (refine WP.skip ?_; (try dsimp only))
    | (refine WP.blockS ?_; intro K hK)
    | (refine WP.blockK ?_; intro K hK)
    | (refine WP.exitS ?_; simp only [ite_true, ite_false, reduceIte])
    | (refine WP.exit ?_; simp only [ite_true, ite_false, reduceIte])
    | (refine WP.retS ?_; (try dsimp only); refine ⟨.inr rfl, ?_⟩)
    | (refine WP.ret ?_; (try dsimp only); refine ⟨.inr rfl, ?_⟩)
    | (refine Keep.use (by assumption) ?_; (try dsimp only)))
  all_goals simp [engE, Try.results159, szL, *]
  all_goals omega

theorem den_szBoolS {t : Tag} (ht : t.fixed = true) (l : List Bool) (left : Int) (h1 : l.length < 2^63) (h2 : 0 ≤ left) (h3 : left < 2^61) :
    D 78 [.tr t 1 (rowsB l), I left] [] = some (I (szL l.length left), []) := by
  have hw : IntKind.i64.wrap (left - l.length) = left - l.length := w64 (by omega) (by omega)
  refine den_of rfl Try.func78 rfl (by kernel_rfl) (by simp [Try.ntmps78]) (by simp) ?_
  repeat' (first
    | refine WP.assoc ?_
    | refine WP.skipS ?_
    | (refine WP.textS rfl ?_; intro K hK; simp [engE, factsE, callsE, *]; refine hK _ ?_; clear hK K)
    | (refine WP.textK rfl ?_; intro K hK; simp [engE, factsE, callsE, *]; refine hK _ ?_; clear hK K; (try dsimp only))
    | (refine WP.drawnS rfl ?_; intro K hK; simp [keyE, engE, factsE, callsE, *]; refine ⟨by kernel_rfl, hK _ ?_⟩; clear hK K)
    | (refine WP.drawnK rfl ?_; intro K hK; simp [keyE, engE, factsE, callsE, *]; refine ⟨by kernel_rfl, hK _ ?_⟩; clear hK K; (try dsimp only))
    | (refine WP.textSB ?_; intro K hK; simp [putBack, putBack1, engE, factsE, callsE, *]; refine hK _ ?_; clear hK K)
    | (refine WP.textBK ?_; intro K hK; simp [putBack, putBack1, engE, factsE, callsE, *]; refine hK _ ?_; clear hK K; (try dsimp only))
    | (refine WP.condS (by simp [engE, *]; rfl) (fun hc => ?_) (fun hc => ?_) <;> (try simp at hc))
    | (refine WP.condE (by simp [engE, *]; rfl) (fun hc => ?_) (fun hc => ?_) <;> (try simp at hc))
    | (refine WP.skip ?_; (try dsimp only))
    | (refine WP.blockS ?_; intro K hK)
    | (refine WP.blockK ?_; intro K hK)
    | (refine WP.exitS ?_; simp only [ite_true, ite_false, reduceIte])
    | (refine WP.exit ?_; simp only [ite_true, ite_false, reduceIte])
    | (refine WP.retS ?_; (try dsimp only); refine ⟨.inr rfl, ?_⟩)
    | (refine WP.ret ?_; (try dsimp only); refine ⟨.inr rfl, ?_⟩)
    | (refine Keep.use (by assumption) ?_; (try dsimp only)))
  all_goals simp [engE, Try.results78, szL, *]
  all_goals omega

def szRows : List (List Int) → Int → Int
  | [], left => left
  | r :: rs, left => if szL r.length left < 0 then -1 else szRows rs (szL r.length left)
def szII (l : List (List Int)) (left : Int) : Int := if left - l.length < 0 then -1 else szRows l (left - l.length)
theorem szRows_lt {l : List (List Int)} : ∀ {left : Int}, left < 2^61 → szRows l left < 2^61 := by
  induction l with
  | nil => intro left h; exact h
  | cons r rs ih => intro left h; simp only [szRows]; split; omega; exact ih (szL_lt h)
theorem szII_lt {l : List (List Int)} {left : Int} (h : left < 2^61) : szII l left < 2^61 := by
  unfold szII; split; omega; exact szRows_lt (by omega)
theorem szRows_ge {l : List (List Int)} : ∀ {left : Int}, 0 ≤ left → -1 ≤ szRows l left := by
  induction l with
  | nil => intro left h; simp [szRows]; omega
  | cons r rs ih => intro left h; simp only [szRows]; split; omega; exact ih (by omega)
theorem szII_ge {l : List (List Int)} {left : Int} : -1 ≤ szII l left := by
  unfold szII; split; omega; exact szRows_ge (by omega)

theorem den_szIntSS {t : Tag} (ht : t.fixed = true) (l : List (List Int)) (left : Int) (h1 : l.length < 2^63) (h4 : ∀ r ∈ l, r.length < 2^63) (h2 : 0 ≤ left) (h3 : left < 2^61) :
    D 77 [.tr t 1 (rowsII l), I left] [] = some (I (szII l left), []) := by
  have hw : IntKind.i64.wrap (left - l.length) = left - l.length := w64 (by omega) (by omega)
  refine den_of rfl Try.func77 rfl (by kernel_rfl) (by simp [Try.ntmps77]) (by simp) ?_
  repeat' (first
    | refine WP.assoc ?_
    | refine WP.skipS ?_
    | (refine WP.textS rfl ?_; intro K hK; simp [engE, factsE, callsE, *]; refine hK _ ?_; clear hK K)
    | (refine WP.textK rfl ?_; intro K hK; simp [engE, factsE, callsE, *]; refine hK _ ?_; clear hK K; (try dsimp only))
    | (refine WP.drawnS rfl ?_; intro K hK; simp [keyE, engE, factsE, callsE, *]; refine ⟨by kernel_rfl, hK _ ?_⟩; clear hK K)
    | (refine WP.drawnK rfl ?_; intro K hK; simp [keyE, engE, factsE, callsE, *]; refine ⟨by kernel_rfl, hK _ ?_⟩; clear hK K; (try dsimp only))
    | (refine WP.textSB ?_; intro K hK; simp [putBack, putBack1, engE, factsE, callsE, *]; refine hK _ ?_; clear hK K)
    | (refine WP.textBK ?_; intro K hK; simp [putBack, putBack1, engE, factsE, callsE, *]; refine hK _ ?_; clear hK K; (try dsimp only))
    | (refine WP.condS (by simp [engE, *]; rfl) (fun hc => ?_) (fun hc => ?_) <;> (try simp at hc))
    | (refine WP.condE (by simp [engE, *]; rfl) (fun hc => ?_) (fun hc => ?_) <;> (try simp at hc))
    | (refine WP.skip ?_; (try dsimp only))
    | (refine WP.blockS ?_; intro K hK)
    | (refine WP.blockK ?_; intro K hK)
    | (refine WP.exitS ?_; simp only [ite_true, ite_false, reduceIte])
    | (refine WP.exit ?_; simp only [ite_true, ite_false, reduceIte])
    | (refine WP.retS ?_; (try dsimp only); refine ⟨.inr rfl, ?_⟩)
    | (refine WP.ret ?_; (try dsimp only); refine ⟨.inr rfl, ?_⟩)
    | (refine Keep.use (by assumption) ?_; (try dsimp only)))
  · simp [engE, Try.results77, szII, *]
  · refine WP.loopI (ι := Nat × Int) (fun i σ => i.1 ≤ l.length ∧ 0 ≤ i.2 ∧ i.2 < 2^61 ∧ σ.slots 0 = .tr t 1 (rowsII l) ∧ σ.slots 5 = I i.1 ∧ σ.slots 1 = I i.2 ∧ szII l left = szRows (l.drop i.1) i.2) (fun i => l.length - i.1) (0, left - l.length) ?_ ?_
    · simp [engE, *]
      simp [szII, *]; omega
    · rintro ⟨k, lf⟩ σ ⟨i1, i2, i3, i4, i5, i6, i8⟩
      simp only at i1 i2 i3 i4 i5 i6 i8
      by_cases hk : k < l.length
      · have hd := den_szIntS (up_fixed ht) l[k] lf (h4 _ (List.getElem_mem hk)) (by omega) i3
        have hw2 : IntKind.i64.wrap ((k : Int) + 1) = ((k + 1 : Nat) : Int) := by rw [w64] <;> omega
        have hz := szL_lt (n := l[k].length) i3
        rw [List.drop_eq_getElem_cons hk, szRows] at i8
        repeat' (first
          | refine WP.assoc ?_
          | refine WP.skipS ?_
          | (refine WP.textS rfl ?_; intro K hK; simp [engE, factsE, callsE, *]; refine hK _ ?_; clear hK K)
          | (refine WP.textK rfl ?_; intro K hK; simp [engE, factsE, callsE, *]; refine hK _ ?_; clear hK K; (try dsimp only))
          | (refine WP.drawnS rfl ?_; intro K hK; simp [keyE, engE, factsE, callsE, *]; refine ⟨by kernel_rfl, hK _ ?_⟩; clear hK K)
          | (refine WP.drawnK rfl ?_; intro K hK; simp [keyE, engE, factsE, callsE, *]; refine ⟨by kernel_rfl, hK _ ?_⟩; clear hK K; (try dsimp only))
          | (refine WP.textSB ?_; intro K hK; simp [putBack, putBack1, engE, factsE, callsE, *]; refine hK _ ?_; clear hK K)
          | (refine WP.textBK ?_; intro K hK; simp [putBack, putBack1, engE, factsE, callsE, *]; refine hK _ ?_; clear hK K; (try dsimp only))
          | (refine WP.condS (by simp [engE, *]; rfl) (fun hc => ?_) (fun hc => ?_) <;> (try simp at hc))
          | (refine WP.condE (by simp [engE, *]; rfl) (fun hc => ?_) (fun hc => ?_) <;> (try simp at hc))
          | (refine WP.skip ?_; (try dsimp only))
          | (refine WP.blockS ?_; intro K hK)
          | (refine WP.blockK ?_; intro K hK)
          | (refine WP.exitS ?_; simp only [ite_true, ite_false, reduceIte])
          | (refine WP.exit ?_; simp only [ite_true, ite_false, reduceIte])
          | (refine WP.retS ?_; (try dsimp only); refine ⟨.inr rfl, ?_⟩)
          | (refine WP.ret ?_; (try dsimp only); refine ⟨.inr rfl, ?_⟩)
          | (refine Keep.use (by assumption) ?_; (try dsimp only)))
        · simp [engE, Try.results77, *]
        · refine ⟨(k + 1, szL l[k].length lf), by simp; omega, ?_⟩
          simp [engE, hw2, Int.not_lt.2 ‹0 ≤ szL l[k].length lf›, *]
          omega
      · repeat' (first
          | refine WP.assoc ?_
          | refine WP.skipS ?_
          | (refine WP.textS rfl ?_; intro K hK; simp [engE, factsE, callsE, *]; refine hK _ ?_; clear hK K)
          | (refine WP.textK rfl ?_; intro K hK; simp [engE, factsE, callsE, *]; refine hK _ ?_; clear hK K; (try dsimp only))
          | (refine WP.drawnS rfl ?_; intro K hK; simp [keyE, engE, factsE, callsE, *]; refine ⟨by kernel_rfl, hK _ ?_⟩; clear hK K)
          | (refine WP.drawnK rfl ?_; intro K hK; simp [keyE, engE, factsE, callsE, *]; refine ⟨by kernel_rfl, hK _ ?_⟩; clear hK K; (try dsimp only))
          | (refine WP.textSB ?_; intro K hK; simp [putBack, putBack1, engE, factsE, callsE, *]; refine hK _ ?_; clear hK K)
          | (refine WP.textBK ?_; intro K hK; simp [putBack, putBack1, engE, factsE, callsE, *]; refine hK _ ?_; clear hK K; (try dsimp only))
          | (refine WP.condS (by simp [engE, *]; rfl) (fun hc => ?_) (fun hc => ?_) <;> (try simp at hc))
          | (refine WP.condE (by simp [engE, *]; rfl) (fun hc => ?_) (fun hc => ?_) <;> (try simp at hc))
          | (refine WP.skip ?_; (try dsimp only))
          | (refine WP.blockS ?_; intro K hK)
          | (refine WP.blockK ?_; intro K hK)
          | (refine WP.exitS ?_; simp only [ite_true, ite_false, reduceIte])
          | (refine WP.exit ?_; simp only [ite_true, ite_false, reduceIte])
          | (refine WP.retS ?_; (try dsimp only); refine ⟨.inr rfl, ?_⟩)
          | (refine WP.ret ?_; (try dsimp only); refine ⟨.inr rfl, ?_⟩)
          | (refine Keep.use (by assumption) ?_; (try dsimp only)))
        have hd : l.drop k = [] := List.drop_eq_nil_of_le (by omega)
        simp [engE, Try.results77, hd, szRows, *]

def Mach : Type := List (List Int) × List Bool
def Mach.av (t : Tag) (m : Mach) : AV := .agg [.tr t 1 (rowsII m.1), .tr t 1 (rowsB m.2)]
def szM (m : Mach) (left : Int) : Int := if szII m.1 left < 0 then -1 else if szL m.2.length (szII m.1 left) < 0 then -1 else szL m.2.length (szII m.1 left)
/-- nothing is too long -/
def Mach.ok (m : Mach) : Prop := m.1.length < 2^60 ∧ (∀ r ∈ m.1, r.length < 2^60) ∧ m.2.length < 2^60
/-- as long as a slice may be -/
def Mach.fit (m : Mach) : Prop := m.1.length < 2^63 ∧ (∀ r ∈ m.1, r.length < 2^63) ∧ m.2.length < 2^63

theorem den_szMachine {t : Tag} (ht : t.fixed = true) (m : Mach) (left : Int) (hm : m.fit) (h2 : 0 ≤ left) (h3 : left < 2^61) :
    D 13 [m.av t, I left] [] = some (I (szM m left), []) := by
  obtain ⟨h1, h4, h5⟩ := hm
  have hs := szII_lt (l := m.1) h3
  have hg := szII_ge (l := m.1) (left := left)
  have hd1 := den_szIntSS (t := t.up) (up_fixed ht) m.1 left h1 h4 h2 h3
  unfold Mach.av
  by_cases hz : szII m.1 left < 0
  · refine den_of rfl Try.func13 rfl (by kernel_rfl) (by simp [Try.ntmps13]) (by simp) ?_
    repeat' (first
      | refine WP.assoc ?_
      | refine WP.skipS ?_
      | (refine WP.textS rfl ?_; intro K hK; simp [engE, factsE, callsE, *]; refine hK _ ?_; clear hK K)
      | (refine WP.textK rfl ?_; intro K hK; simp [engE, factsE, callsE, *]; refine hK _ ?_; clear hK K; (try dsimp only))
      | (refine WP.drawnS rfl ?_; intro K hK; simp [keyE, engE, factsE, callsE, *]; refine ⟨by kernel_rfl, hK _ ?_⟩; clear hK K)
      | (refine WP.drawnK rfl ?_; intro K hK; simp [keyE, engE, factsE, callsE, *]; refine ⟨by kernel_rfl, hK _ ?_⟩; clear hK K; (try dsimp only))
      | (refine WP.textSB ?_; intro K hK; simp [putBack, putBack1, engE, factsE, callsE, *]; refine hK _ ?_; clear hK K)
      | (refine WP.textBK ?_; intro K hK; simp [putBack, putBack1, engE, factsE, callsE, *]; refine hK _ ?_; clear hK K; (try dsimp only))
      | (refine WP.condS (by simp [engE, *]; rfl) (fun hc => ?_) (fun hc => ?_) <;> (try simp at hc))
      | (refine WP.condE (by simp [engE, *]; rfl) (fun hc => ?_) (fun hc => ?_) <;> (try simp at hc))
      | (refine WP.skip ?_; (try dsimp only))
      | (refine WP.blockS ?_; intro K hK)
      | (refine WP.blockK ?_; intro K hK)
      | (refine WP.exitS ?_; simp only [ite_true, ite_false, reduceIte])
      | (refine WP.exit ?_; simp only [ite_true, ite_false, reduceIte])
      | (refine WP.retS ?_; (try dsimp only); refine ⟨.inr rfl, ?_⟩)
      | (refine WP.ret ?_; (try dsimp only); refine ⟨.inr rfl, ?_⟩)
      | (refine Keep.use (by assumption) ?_; (try dsimp only)))
    all_goals simp [engE, Try.results13, szM, *]
  · have hd2 := den_szBoolS (t := t.up) (up_fixed ht) m.2 (szII m.1 left) h5 (by omega) hs
    refine den_of rfl Try.func13 rfl (by kernel_rfl) (by simp [Try.ntmps13]) (by simp) ?_
    repeat' (first
      | refine WP.assoc ?_
      | refine WP.skipS ?_
      | (refine WP.textS rfl ?_; intro K hK; simp [engE, factsE, callsE, *]; refine hK _ ?_; clear hK K)
      | (refine WP.textK rfl ?_; intro K hK; simp [engE, factsE, callsE, *]; refine hK _ ?_; clear hK K; (try dsimp only))
      | (refine WP.drawnS rfl ?_; intro K hK; simp [keyE, engE, factsE, callsE, *]; refine ⟨by kernel_rfl, hK _ ?_⟩; clear hK K)
      | (refine WP.drawnK rfl ?_; intro K hK; simp [keyE, engE, factsE, callsE, *]; refine ⟨by kernel_rfl, hK _ ?_⟩; clear hK K; (try dsimp only))
      | (refine WP.textSB ?_; intro K hK; simp [putBack, putBack1, engE, factsE, callsE, *]; refine hK _ ?_; clear hK K)
      | (refine WP.textBK ?_; intro K hK; simp [putBack, putBack1, engE, factsE, callsE, *]; refine hK _ ?_; clear hK K; (try dsimp only))
      | (refine WP.condS (by simp [engE, *]; rfl) (fun hc => ?_) (fun hc => ?_) <;> (try simp at hc))
      | (refine WP.condE (by simp [engE, *]; rfl) (fun hc => ?_) (fun hc => ?_) <;> (try simp at hc))
      | (refine WP.skip ?_; (try dsimp only))
      | (refine WP.blockS ?_; intro K hK)
      | (refine WP.blockK ?_; intro K hK)
      | (refine WP.exitS ?_; simp only [ite_true, ite_false, reduceIte])
      | (refine WP.exit ?_; simp only [ite_true, ite_false, reduceIte])
      | (refine WP.retS ?_; (try dsimp only); refine ⟨.inr rfl, ?_⟩)
      | (refine WP.ret ?_; (try dsimp only); refine ⟨.inr rfl, ?_⟩)
      | (refine Keep.use (by assumption) ?_; (try dsimp only)))
    all_goals simp [engE, Try.results13, szM, *]
    all_goals omega

end Go.AM

