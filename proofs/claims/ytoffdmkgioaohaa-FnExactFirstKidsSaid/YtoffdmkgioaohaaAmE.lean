/- The operations that leave memory alone. -/
import Derived.Test.YtoffdmkgioaohaaAmD
import Derived.Laws.Sem
import Derived.Laws.Cells
import Derived.Laws.Entries
namespace Go.AM

theorem run_next {P : Program} {s : Sem Value} {w w' : World} {v : Value} (h : s.run P w = .ok v w') :
    (do pure (Next.value (← s)) : Sem Next).run P w = .ok (.value v) w' := by simp [h]
theorem run_skip {P : Program} {s : Sem Unit} {w w' : World} (h : s.run P w = .ok () w') :
    (do s; pure Next.skip : Sem Next).run P w = .ok .skip w' := by simp [h]

section
variable {P : Program} {w : World}
theorem run_size {t : TypeId} {i : TypeInfo} (h : P.info? t = some i) : (sizeOf t).run P w = .ok i.size w := by simp [sizeOf, typeInfo, h]
theorem run_sizeT {t : TypeId} {s : Nat} (h : sizeT P t = some s) : (sizeOf t).run P w = .ok s w := by
  unfold sizeT at h
  cases hi : P.info? t with
  | none => simp [hi] at h
  | some i => simp [hi] at h; rw [run_size hi, h]
theorem run_aggT {t : TypeId} {a : Bool} (h : aggT P t = some a) : (isAgg t).run P w = .ok a w := by
  unfold aggT at h
  cases hu : P.underlying t with
  | none => simp [hu] at h
  | some d => cases d <;> simp [hu] at h <;> subst h <;> simp [isAgg, run_underlying hu]
theorem elemT_eq {t e : TypeId} (h : elemT P t = some e) : P.underlying t = some (.slice e) := by
  unfold elemT at h
  split at h
  · rename_i x hu; cases h; exact hu
  · cases h
theorem intT_eq {t : TypeId} {k : IntKind} (h : intT P t = some k) : P.underlying t = some (.int k) := by
  unfold intT at h
  split at h
  · rename_i x hu; cases h; exact hu
  · cases h
theorem stringT_eq {t : TypeId} (h : stringT P t = true) : P.underlying t = some .string := by
  unfold stringT at h
  split at h
  · assumption
  · cases h

theorem run_binVal {op : BinOp} {t : TypeId} {x y v : Value} (h : binVal op x y = some v) : (binOp op t x y).run P w = .ok v w := by
  unfold binVal at h
  split at h
  · rename_i k a k' b
    split at h
    · split at h
      · cases h
      · rename_i hb; cases h; simp [binOp, Op.shift, hb]
    · split at h
      · cases h
      · rename_i hb; cases h; simp [binOp, Op.shift, hb]
    · rename_i h1 h2
      split at h
      · rename_i e; subst e
        unfold binInt at h
        split at h <;> first
          | (cases h; simp [binOp, Op.intArith, Op.intBits, Op.intCmp]; done)
          | (split at h
             · cases h
             · rename_i hb; cases h; simp [binOp, Op.intDiv, hb])
          | cases h
      · cases h
  · rename_i a b
    split at h
    · split at h
      · cases h
      · rename_i hb; cases h
        have e : IntKind.i64.max = 9223372036854775807 := by decide
        have hb' : ((a.size + b.size : Nat) : Int) ≤ IntKind.i64.max := by rw [e]; omega
        simp [binOp, Op.stringOp]
        simpa [e] using hb'
    · cases h; simp [binOp, Op.stringOp]
    · cases h; simp [binOp, Op.stringOp]
    · cases h
  · cases h

theorem run_eqGuard {op : BinOp} {t : TypeId} {x y : Operand} {a b : Value} (h1 : ¬ (a = .nilIface ∧ b = .nilIface)) (h2 : ∀ xs ys, ¬ (a = .agg xs ∧ b = .agg ys)) :
    (eqGuard op t x y a b).run P w = .ok () w := by
  cases a <;> cases b <;> first
    | exact absurd ⟨rfl, rfl⟩ h1
    | exact absurd ⟨rfl, rfl⟩ (h2 _ _)
    | (cases op <;> simp [eqGuard])

end

/-! #### values -/

theorem VR.inv_c {h : HS} {v u : Value} (r : VR h (.c v) u) : u = v := by cases r; rfl

theorem cells_one {v : Value} (hv : ∀ cs, v ≠ .agg cs) : v.cells = #[v] := by
  cases v <;> first | rfl | exact absurd rfl (hv _)

/-- a value that is no aggregate stands for one cell -/
theorem VR.one {h : HS} {x : AV} {v : Value} (r : VR h x v) (hx : x ≠ .bad) (ha : ∀ cs, x ≠ .agg cs) : ∀ cs, v ≠ .agg cs := by
  cases r with
  | c _ hv => exact hv
  | bad => exact absurd rfl hx
  | agg cells vs r => exact absurd rfl (ha _)
  | tr t e rows v N h1 =>
    obtain ⟨a, cap, rfl, _, _⟩ := h1.shape
    simp
  | _ => simp

theorem VR.cells {h : HS} {x : AV} {v : Value} (r : VR h x v) (hx : x ≠ .bad) : VRs h (cellsOf x) v.cells.toList := by
  by_cases ha : ∃ cs, x = .agg cs
  · obtain ⟨cs, rfl⟩ := ha
    cases r with
    | agg cells vs r => simpa [cellsOf, Value.cells] using r
  · have ha' : ∀ cs, x ≠ .agg cs := fun cs e => ha ⟨cs, e⟩
    have hv := r.one hx ha'
    rw [cells_one hv]
    have : cellsOf x = [x] := by cases x <;> first | rfl | exact absurd rfl (ha' _)
    rw [this]
    exact .cons _ _ _ _ r .nil

theorem bad_cells {x : AV} (hx : (cellsOf x).all storable = true) : x ≠ .bad := by
  rintro rfl; simp [cellsOf, storable] at hx

end Go.AM
