/- One operation of any kind. -/
import Derived.Test.YtoffdmkgioaohaaAmQ
namespace Go.AM

section
variable {o : Oper} {σ : St} {a : Act} {h : HS}

/-- every call of a function, done right -/
def CallOK (cf : Cfg) (H : Handler) (o : Oper) (σ : St) (a : Act) (h : HS) : Prop :=
  ∀ (c : Call) (x : Operand) (d : Nat) (f : FuncId) (caps : List AV) (δ : Delta), o.op = .call c → c.callee = .value x → o.dst = some d → σ.get x = .fn f caps →
    opCall cf H σ d f (vals σ c.args ++ caps) = some δ → OpOK cf.P o σ δ a h

theorem evalOp_ok {cf : Cfg} {H : Handler} {fn : FuncId} {δ : Delta} (r : Rel σ a h) (hd : ∀ t, o.dst = some t → t < a.tmps.size) (hc : CallOK cf H o σ a h)
    (hev : evalOp cf H fn o σ = some δ) : OpOK cf.P o σ δ a h := by
  unfold evalOp at hev
  split at hev
  · rename_i x hop; cases hev; exact ok_move r hd (.inl hop)
  · rename_i x hop; cases hev; exact ok_move r hd (.inr hop)
  · rename_i c x y hop
    split at hev
    · rename_i t hc; cases hev; exact ok_pick r hd hop hc
    · cases hev
  · rename_i t d hop hdst
    split at hev
    · rename_i cells hz
      split at hev
      · cases hev; exact ok_alloc r hd hop hz
      · cases hev
    · cases hev
  · rename_i t x d hop hdst
    simp only at hev
    split at hev
    · rename_i hs; cases hev; exact ok_box r hd hop hs
    · cases hev
  · rename_i t parts hop
    split at hev
    · rename_i cells hz
      obtain ⟨cs, hf, rfl⟩ := Option.map_eq_some_iff.1 hev
      exact ok_build r hd hop hz hf
    · cases hev
  · rename_i t len parts d hop hdst
    split at hev
    · rename_i el h1
      split at hev
      · rename_i e h2
        split at hev
        · rename_i hc
          split at hev
          · rename_i rows ks hp
            cases hev
            exact ok_buildSlice r hd hop h1 h2 hc.1 hc.2.1 hc.2.2.1 hp hc.2.2.2
          · cases hev
        · cases hev
      · cases hev
    · cases hev
  · rename_i t x d hop hdst
    exact ok_loads r hd hop hev
  · rename_i t x y hop
    exact ok_store r hd hop hev
  · rename_i x hop
    split at hev
    · rename_i p g i j hx; cases hev; rw [← hx]; exact ok_nilCheck r hd hop (.inl ⟨_, _, _, _, hx⟩)
    · rename_i t cs hx; cases hev; rw [← hx]; exact ok_nilCheck r hd hop (.inr (.inl ⟨_, _, hx⟩))
    · rename_i cs hx; cases hev; rw [← hx]; exact ok_nilCheck r hd hop (.inr (.inr ⟨_, hx⟩))
    · cases hev
  · rename_i op t x y t' hop
    obtain ⟨z, hz, rfl⟩ := Option.map_eq_some_iff.1 hev
    exact ok_bin r hd hop hz
  · rename_i op t x hop
    obtain ⟨z, hz, rfl⟩ := Option.map_eq_some_iff.1 hev
    exact ok_un r hd hop hz
  · rename_i src dst x hop
    split at hev
    · rename_i q n hx
      split at hev
      · rename_i k d h1 h2; cases hev; exact ok_convInt r hd hop hx h1 h2
      · cases hev
    · rename_i s hx
      split at hev
      · rename_i hc; cases hev; exact ok_convStr r hd hop hx hc.1 hc.2
      · split at hev
        · rename_i el d h1 h2
          split at hev
          · rename_i hc; cases hev; exact ok_convBytes r hd hop hx h1 hc.1 hc.2
          · cases hev
        · cases hev
    · split at hev
      · rename_i el h1
        split at hev
        · rename_i hc
          split at hev
          · rename_i rows hr
            obtain ⟨bs, hb, rfl⟩ := Option.map_eq_some_iff.1 hev
            exact ok_toString r hd hop h1 hc.1 hc.2 hr hb
          · cases hev
        · cases hev
      · cases hev
  · rename_i f first caps hop
    split at hev
    · rename_i hf; cases hev; exact ok_makeFunc r hd hop hf
    · cases hev
  · rename_i t d hop hdst
    cases hev; exact ok_makeMap r hd hop
  · rename_i t x y d hop hdst
    split at hev
    · rename_i el n m h1 hx hy
      split at hev
      · rename_i e bytes z h2 h3 h4
        split at hev
        · rename_i hc
          obtain ⟨rfl, c2, c3, c4, c5, c6⟩ := hc
          cases hev
          exact ok_makeSlice r hd hop h1 h2 h3 h4 hx hy c2 c3 c4 c5
        · cases hev
      · cases hev
    · cases hev
  · rename_i t x lo hi hop
    obtain ⟨z, hz, rfl⟩ := Option.map_eq_some_iff.1 hev
    exact ok_slice r hd hop hz
  · rename_i t x f hop
    split at hev
    · rename_i off s ag p g i j hf hx; cases hev; exact (ok_fieldAddr r hd hop hf).1 _ _ _ _ hx
    · rename_i off s ag tg cells hf hx; cases hev; exact (ok_fieldAddr r hd hop hf).2.1 _ _ hx
    · rename_i off s ag cells hf hx; cases hev; exact (ok_fieldAddr r hd hop hf).2.2 _ hx
    · cases hev
  · rename_i t x f hop
    split at hev
    · rename_i off s ag cells hf hx
      split at hev
      · rename_i hl
        obtain ⟨z, hz, rfl⟩ := Option.map_eq_some_iff.1 hev
        exact ok_field r hd hop hf hx hl hz
      · cases hev
    · cases hev
  · rename_i t x i hop
    split at hev
    · rename_i e q n he hi
      split at hev
      · rename_i hn
        split at hev
        · rename_i tg e' rows hx
          split at hev
          · rename_i hee; subst hee
            split at hev
            · rename_i row hrow; cases hev; exact (ok_indexAddr r hd hop he hi hn).1 _ _ _ hx hrow
            · cases hev
          · cases hev
        · rename_i p g e' off n' hx
          split at hev
          · rename_i hc; cases hev
            obtain ⟨rfl, hc⟩ := hc
            exact (ok_indexAddr r hd hop he hi hn).2 _ _ _ _ hx hc
          · cases hev
        · cases hev
      · cases hev
    · cases hev
  · rename_i t x i hop
    split at hev
    · rename_i s q n hx hi
      split at hev
      · rename_i hc
        split at hev
        · rename_i b hb; cases hev; exact ok_index r hd hop hx hi hc.1 hc.2 hb
        · cases hev
      · cases hev
    · cases hev
  · rename_i t x k ok hop
    split at hev
    · rename_i kt el p g k hu hx hk
      split at hev
      · rename_i es z ho hz hkt
        split at hev
        · rename_i hc; cases hev; exact ok_lookup r hd hop hu hx hk ho hz hkt hc.1 hc.2
        · cases hev
      · cases hev
    · cases hev
  · rename_i t x k y hop
    split at hev
    · rename_i kt el p g k v hu hx hk hy
      split at hev
      · rename_i es ho hkt
        split at hev
        · rename_i hc; cases hev; exact ok_mapUpdate r hd hop hu hx hk hy ho hkt hc.1 hc.2
        · cases hev
      · cases hev
    · cases hev
  · rename_i x i hop
    split at hev
    · rename_i vs hx
      split at hev
      · rename_i v hv; cases hev; exact ok_extract r hd hop hx hv
      · cases hev
    · cases hev
  · rename_i c d hop hdst
    split at hev
    · rename_i b hcb
      by_cases hb : b = .append
      · subst hb
        obtain ⟨s, x, hl, hap⟩ : ∃ s x, vals σ c.args = [s, x] ∧ opAppend cf σ d c.args[0]? c.argTypes s x = some δ := by
          match hl : vals σ c.args with
          | [] => rw [hl] at hev; simp [opBuiltin] at hev
          | [_] => rw [hl] at hev; simp [opBuiltin] at hev
          | [s, x] => exact ⟨s, x, rfl, by rw [hl] at hev; exact hev⟩
          | _ :: _ :: _ :: _ => rw [hl] at hev; simp [opBuiltin] at hev
        exact ok_append r hd hop hcb hl hap
      · exact ok_builtin r hd hop hcb hb hev
    · rename_i x hcx
      split at hev
      · rename_i f caps hx
        exact hc c x d f caps δ hop hcx hdst hx hev
      · cases hev
    · cases hev
  · cases hev

end
end Go.AM
