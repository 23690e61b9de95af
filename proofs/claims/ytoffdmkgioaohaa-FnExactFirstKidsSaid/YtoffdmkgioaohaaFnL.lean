/- From a law's equation to the given statement: the arguments as they are read, and what a call leaves. -/
import Derived.Test.YtoffdmkgioaohaaRows
import Derived.Test.YtoffdmkgioaohaaFnK
import Derived.WalkKit
import Derived.ProofKit
import Derived.OpenShut
import Derived.ReadAgain
import Derived.Deep.Slices
namespace Go.AM
open Go.Proofs Go.ChangeShapes Go.WideShapes Go.Deep
set_option maxRecDepth 4000
set_option linter.unusedSimpArgs false
set_option linter.unusedVariables false

/-! #### how the types' values read -/
/-- each value of type t that reads is the picture f of some a -/
def Reads (P : Program) (t : TypeId) (α : Type) (f : α → List AV) (p : α → Prop) : Prop :=
  ∀ (H : Type) (enc : TypeId × Value → H) (w : World) (base n : Nat) (cs : List Value) (x : DataW H × List MemPlace), DataW.trod enc P w base (fun _ => true) true n t cs = some x →
    ∃ a N, TRs w (f a) cs N ∧ (∀ b ∈ N, b < w.heap.size) ∧ p a ∧ (f a).length = P.cellsOf t ∧ cs.length = P.cellsOf t

section
variable {P : Program} {t : TypeId}

theorem reads_int {k : IntKind} (ht : P.underlying t = some (.int k)) (hc : P.cellsOf t = 1) : Reads P t Int (fun n => [.c (.int k n)]) (fun n => (Lit.int k n).wf = true) := by
  intro H enc w base n cs x h
  obtain ⟨m, rfl, rfl, hw⟩ := DataW.trod_int ht h
  exact ⟨m, [], .cons _ _ [] _ _ [] (.c _ (by simp)) (.nil _), by simp, hw, by simp [hc], by simp [hc]⟩
theorem reads_bool (ht : P.underlying t = some .bool) (hc : P.cellsOf t = 1) : Reads P t Bool (fun b => [Bo b]) (fun _ => True) := by
  intro H enc w base n cs x h
  obtain ⟨m, rfl, rfl⟩ := DataW.trod_bool ht h
  exact ⟨m, [], .cons _ _ [] _ _ [] (.c _ (by simp)) (.nil _), by simp, trivial, by simp [hc], by simp [hc]⟩
theorem reads_str (ht : P.underlying t = some .string) (hc : P.cellsOf t = 1) : Reads P t ByteArray (fun s => [.c (.string s)]) (fun s => s.size ≤ maxLen) := by
  intro H enc w base n cs x h
  obtain ⟨m, rfl, rfl, hw⟩ := DataW.trod_string ht h
  exact ⟨m, [], .cons _ _ [] _ _ [] (.c _ (by simp)) (.nil _), by simp, hw, by simp [hc], by simp [hc]⟩

theorem reads_rows {e : TypeId} {α : Type} {f : α → List AV} {p : α → Prop} (he : Reads P e α f p) (hp : 0 < P.cellsOf e) {H : Type} {enc : TypeId × Value → H} {w : World} {base n b off : Nat} :
    ∀ (m : Nat), (∀ i, i < m → ∃ cs' y, w.cells? base ((⟨b, off, none⟩ : Addr).add (i * P.cellsOf e)) (P.cellsOf e) = some cs' ∧ DataW.trod enc P w base (fun _ => true) true n e cs' = some y) →
      ∃ (l : List α) (vs : List Value) (N : List Nat), l.length = m ∧ TRs w (l.map f).flatten vs N ∧ vs.length = m * P.cellsOf e ∧ (l.map f).flatten.length = vs.length ∧ (∀ b ∈ N, b < w.heap.size) ∧ (∀ a ∈ l, p a) ∧
        (∀ r ∈ l.map f, r.length = P.cellsOf e) ∧ ∀ (k : Nat) (v : Value), vs[k]? = some v → w.cell? ⟨b, off + k, none⟩ = some v
  | 0, _ => ⟨[], [], [], rfl, .nil _, by simp, rfl, by simp, by simp, by simp, by simp⟩
  | m + 1, h => by
    obtain ⟨l, vs, N, l1, l2, l3, l4, l5, l6, l7, l8⟩ := reads_rows he hp m (fun i hi => h i (by omega))
    obtain ⟨cs', y, h1, h2⟩ := h m (by omega)
    obtain ⟨a, M, a1, a2, a3, a4, a5⟩ := he H enc w base n cs' y h2
    refine ⟨l ++ [a], vs ++ cs', N ++ M, by simp [l1], ?_, by simp [l3, a5, Nat.add_mul], by simp [l4, a4, a5], ?_, ?_, ?_, ?_⟩
    · simp only [List.map_append, List.map_cons, List.map_nil, List.flatten_append, List.flatten_cons, List.flatten_nil, List.append_nil]
      exact l2.append l4.symm a1
    · intro b hb
      rcases List.mem_append.1 hb with hb | hb
      · exact l5 b hb
      · exact a2 b hb
    · intro c hc
      rcases List.mem_append.1 hc with hc | hc
      · exact l6 c hc
      · simp at hc; subst hc; exact a3
    · intro r hr
      simp only [List.map_append, List.map_cons, List.map_nil, List.mem_append, List.mem_singleton] at hr
      rcases hr with hr | rfl
      · exact l7 r hr
      · exact a4
    · intro k v hk
      by_cases hlt : k < vs.length
      · rw [List.getElem?_append_left hlt] at hk; exact l8 k v hk
      · rw [List.getElem?_append_right (by omega)] at hk
        obtain ⟨_, _, hg⟩ := World.cells?_some h1
        have hj : k - vs.length < P.cellsOf e := by have := (List.getElem?_eq_some_iff.1 hk).1; omega
        have hg := hg (k - vs.length) hj
        rw [hk, add_plain, add_plain] at hg
        rw [← hg]
        congr 2
        rw [l3] at hlt ⊢
        omega

theorem reads_slice {e : TypeId} {α : Type} {f : α → List AV} {p : α → Prop} (he : Reads P e α f p) (ht : P.underlying t = some (.slice e)) (hc : P.cellsOf t = 1) (hp : 0 < P.cellsOf e) :
    Reads P t (List α) (fun l => [.tr .im (P.cellsOf e) (l.map f)]) (fun l => l.length ≤ maxLen ∧ ∀ a ∈ l, p a) := by
  intro H enc w base n cs x h
  rcases open_slice ht h with ⟨rfl, _⟩ | ⟨a, len, cap, m, k, D, Pl, rfl, hb, hl, hm, hmm, _, hx⟩
  · exact ⟨[], [], .cons _ _ [] _ _ [] (.nil _ _ _) (.nil _), by simp, ⟨by simp, by simp⟩, by simp [hc], by simp [hc]⟩
  · simp only [if_true] at hmm
    have hmm := hmm.symm
    subst hmm
    by_cases h0 : cap = 0
    · subst h0
      have : len = 0 := by omega
      subst this
      exact ⟨[], [], .cons _ _ [] _ _ [] (.nil _ _ _) (.nil _), by simp, ⟨by simp, by simp⟩, by simp [hc], by simp [hc]⟩
    · obtain ⟨cs0, q1, _⟩ := hx 0 (by omega)
      obtain ⟨_, _, q2⟩ := World.cells?_some q1
      have q2 := q2 0 hp
      have hblk := World.cells?_block q1 hp
      obtain ⟨_, q3, _⟩ := World.cells?_some q1
      have hs : a.spot = none := by
        simp only [Nat.zero_mul] at q2
        have e0 : (a.add 0).add 0 = a := by simp [Addr.add]
        rw [e0, List.getElem?_eq_getElem (by omega)] at q2
        unfold World.cell? at q2
        split at q2
        · split at q2
          · cases q2
          · rename_i hsp; simpa using hsp
        · cases q2
      obtain ⟨b, off, sp⟩ := a
      simp only at hs
      subst hs
      obtain ⟨l, vs, N, l1, l2, l3, l4, l5, l6, l7, l8⟩ := reads_rows (w := w) (base := base) (n := k) (b := b) (off := off) (enc := enc) he hp len (fun i hi => by
        obtain ⟨cs', r1, r2⟩ := hx i (by omega)
        exact ⟨cs', _, r1, r2⟩)
      refine ⟨l, b :: N, ?_, ?_, ⟨by omega, l6⟩, by simp [hc], by simp [hc]⟩
      · have k1 : TR w (.tr .im (P.cellsOf e) (l.map f)) (.slice (some ⟨b, off, none⟩) (l.map f).length cap) (b :: N) := .tr _ _ _ b off cap vs N l7 (by simp; omega) l8 l2
        have k2 := TRs.cons _ _ _ [] [] [] k1 (.nil _)
        simpa [l1] using k2
      · intro b' hb'
        rcases List.mem_cons.1 hb' with rfl | hb'
        · simp [Addr.add] at hblk; exact hblk
        · exact l5 b' hb'

theorem reads_two {f0 f1 : Field} {α β : Type} {f : α → List AV} {g : β → List AV} {p : α → Prop} {q : β → Prop} (h0 : Reads P f0.type α f p) (h1 : Reads P f1.type β g q) (ht : P.underlying t = some (.struct #[f0, f1]))
    (o0 : f0.offset = 0) (o1 : f1.offset = P.cellsOf f0.type) (hc : P.cellsOf t = P.cellsOf f0.type + P.cellsOf f1.type) : Reads P t (α × β) (fun x => f x.1 ++ g x.2) (fun x => p x.1 ∧ q x.2) := by
  intro H enc w base n cs x h
  obtain ⟨y0, y1, m, rfl, hl, k0, k1⟩ := trod_struct2 ht h
  rw [o0] at k0; rw [o1] at k1
  obtain ⟨a, N, a1, a2, a3, a4, a5⟩ := h0 _ _ _ _ _ _ _ k0
  obtain ⟨b, M, b1, b2, b3, b4, b5⟩ := h1 _ _ _ _ _ _ _ k1
  refine ⟨(a, b), N ++ M, ?_, ?_, ⟨a3, b3⟩, by simp [a4, b4, hc], by omega⟩
  · have e : cs = (cs.drop 0).take (P.cellsOf f0.type) ++ (cs.drop (P.cellsOf f0.type)).take (P.cellsOf f1.type) := by
      rw [List.drop_zero, List.take_of_length_le (l := cs.drop _) (by simp; omega), List.take_append_drop]
    rw [e]
    exact a1.append (by rw [a4, a5]) b1
  · intro c hc'
    rcases List.mem_append.1 hc' with hc' | hc'
    · exact a2 c hc'
    · exact b2 c hc'
end

end Go.AM

