/- Equations for what operations read and write. -/
import Derived.Test.YtoffdmkgioaohaaAmBi
namespace Go.AM

def stK (e : Nat) : List Key := [.o (8 * e + 16), .o (8 * e + 17), .o (8 * e + 18), .o (8 * e + 19), .o (8 * e + 20), .o (8 * e + 21), .o (8 * e + 22), .o (8 * e + 23)]
def nkIn : AV → List Key
  | .sl o _ _ _ _ => [.o o]
  | .tr (.ep _) _ _ => [.e]
  | _ => []
def lk (σ : St) : AV → List Key
  | .ptr o _ i _ => match σ.objs o with
    | some (.slice _ rows) => match rows[i]? with
      | some r => if r.all isC then [] else [.e]
      | none => []
    | _ => []
  | _ => []
def hkOb (σ : St) (k : Nat) : Option Ob → List Key
  | some (.box cells) => cells.flatMap (heapKeys σ k)
  | _ => []

section
variable {σ : St} {d : Option Tmp} {gk : List Key}

theorem stK_eq (e : Nat) : ((List.range 8).map fun k => Key.o (site e k)) = stK e := by
  simp [stK, site, List.range_succ]
theorem rd_plain {op : Op} (h1 : opKeys op σ = []) (h2 : makes op = false) (h3 : loadKeys ⟨d, op, 0, "", #[], none⟩ σ = []) : rdKeys d op gk σ = gk ++ op.operands.toList.flatMap slotKeys := by
  unfold rdKeys
  rw [h1, h3]
  cases d <;> simp [h2]
theorem rk_move (x : Operand) : rdKeys d (.move x) gk σ = gk ++ slotKeys x := by rw [rd_plain rfl rfl rfl]; simp [Op.operands]
theorem rk_assign (x : Operand) : rdKeys d (.assign x) gk σ = gk ++ slotKeys x := by rw [rd_plain rfl rfl rfl]; simp [Op.operands]
theorem rk_pick (x y z : Operand) : rdKeys d (.pick x y z) gk σ = gk ++ (slotKeys x ++ (slotKeys y ++ slotKeys z)) := by rw [rd_plain rfl rfl rfl]; simp [Op.operands]
theorem rk_nilCheck (x : Operand) : rdKeys d (.nilCheck x) gk σ = gk ++ slotKeys x := by rw [rd_plain rfl rfl rfl]; simp [Op.operands]
theorem rk_binOp (op : BinOp) (t u : TypeId) (x y : Operand) : rdKeys d (.binOp op t x y u) gk σ = gk ++ (slotKeys x ++ slotKeys y) := by rw [rd_plain rfl rfl rfl]; simp [Op.operands]
theorem rk_unOp (op : UnOp) (t : TypeId) (x : Operand) : rdKeys d (.unOp op t x) gk σ = gk ++ slotKeys x := by rw [rd_plain rfl rfl rfl]; simp [Op.operands]
theorem rk_fieldAddr (t : TypeId) (x : Operand) (f : Nat) : rdKeys d (.fieldAddr t x f) gk σ = gk ++ slotKeys x := by rw [rd_plain rfl rfl rfl]; simp [Op.operands]
theorem rk_field (t : TypeId) (x : Operand) (f : Nat) : rdKeys d (.field t x f) gk σ = gk ++ slotKeys x := by rw [rd_plain rfl rfl rfl]; simp [Op.operands]
theorem rk_indexAddr (t : TypeId) (x y : Operand) : rdKeys d (.indexAddr t x y) gk σ = gk ++ (slotKeys x ++ slotKeys y) := by rw [rd_plain rfl rfl rfl]; simp [Op.operands]
theorem rk_index (t : TypeId) (x y : Operand) : rdKeys d (.index t x y) gk σ = gk ++ (slotKeys x ++ slotKeys y) := by rw [rd_plain rfl rfl rfl]; simp [Op.operands]
theorem rk_extract (x : Operand) (i : Nat) : rdKeys d (.extract x i) gk σ = gk ++ slotKeys x := by rw [rd_plain rfl rfl rfl]; simp [Op.operands]
theorem rk_build (t : TypeId) (ps : Array (Nat × Operand)) : rdKeys d (.build t ps) gk σ = gk ++ ps.toList.flatMap fun x => slotKeys x.2 := by rw [rd_plain rfl rfl rfl]; simp [Op.operands, List.flatMap_map]
theorem rk_makeFunc (f : FuncId) (caps : Array Operand) : rdKeys d (.makeFunc (.func f) #[] caps) gk σ = gk ++ caps.toList.flatMap slotKeys := by rw [rd_plain rfl rfl rfl]; simp [Op.operands]
theorem rk_slice0 (t : TypeId) (x : Operand) : rdKeys d (.slice t x none none none) gk σ = gk ++ slotKeys x := by rw [rd_plain rfl rfl rfl]; simp [Op.operands]
theorem rk_slice1 (t : TypeId) (x l : Operand) : rdKeys d (.slice t x (some l) none none) gk σ = gk ++ (slotKeys x ++ slotKeys l) := by rw [rd_plain rfl rfl rfl]; simp [Op.operands]
theorem rk_slice2 (t : TypeId) (x h : Operand) : rdKeys d (.slice t x none (some h) none) gk σ = gk ++ (slotKeys x ++ slotKeys h) := by rw [rd_plain rfl rfl rfl]; simp [Op.operands]
theorem rk_slice3 (t : TypeId) (x l h : Operand) : rdKeys d (.slice t x (some l) (some h) none) gk σ = gk ++ (slotKeys x ++ (slotKeys l ++ slotKeys h)) := by rw [rd_plain rfl rfl rfl]; simp [Op.operands]
theorem rk_alloc (t : TypeId) (e : Nat) : rdKeys (some e) (.alloc t) gk σ = gk ++ stK e := by
  unfold rdKeys; rw [← stK_eq]; simp [Op.operands, opKeys, loadKeys, makes]
theorem rk_box (t : TypeId) (x : Operand) (e : Nat) : rdKeys (some e) (.box t x) gk σ = gk ++ (slotKeys x ++ stK e) := by
  unfold rdKeys; rw [← stK_eq]; simp [Op.operands, opKeys, loadKeys, makes]
theorem rk_load (t : TypeId) (x : Operand) (e : Nat) : rdKeys (some e) (.load t x) gk σ = gk ++ (slotKeys x ++ (nearKeys (σ.get x) ++ (lk σ (σ.get x) ++ stK e))) := by
  have e1 : loadKeys ⟨some e, .load t x, 0, "", #[], none⟩ σ = lk σ (σ.get x) := by
    unfold loadKeys lk
    simp only
    cases σ.get x with
    | ptr o g i j =>
      simp only
      cases σ.objs o with
      | none => rfl
      | some ob => cases ob <;> rfl
    | _ => rfl
  unfold rdKeys
  rw [e1, ← stK_eq]
  simp [Op.operands, opKeys, makes]
theorem rk_store (t : TypeId) (x y : Operand) : rdKeys none (.store t x y) gk σ = gk ++ (slotKeys x ++ (slotKeys y ++ (nearKeys (σ.get x) ++ nearKeys (σ.get y)))) := by
  unfold rdKeys; simp [Op.operands, opKeys, loadKeys]
theorem rk_convert (t u : TypeId) (x : Operand) (e : Nat) : rdKeys (some e) (.convert t u x) gk σ = gk ++ (slotKeys x ++ (nearKeys (σ.get x) ++ stK e)) := by
  unfold rdKeys; rw [← stK_eq]; simp [Op.operands, opKeys, loadKeys, makes]
theorem rk_buildSlice (t : TypeId) (n : Nat) (ps : Array (Nat × Operand)) (e : Nat) : rdKeys (some e) (.buildSlice t n ps) gk σ = gk ++ ((ps.toList.flatMap fun x => slotKeys x.2) ++ ((ps.toList.flatMap fun x => nearKeys (σ.get x.2)) ++ stK e)) := by
  unfold rdKeys; rw [← stK_eq]; simp [Op.operands, opKeys, loadKeys, makes, List.flatMap_map]
theorem rk_makeSlice (t : TypeId) (x y : Operand) (e : Nat) : rdKeys (some e) (.makeSlice t x y) gk σ = gk ++ (slotKeys x ++ (slotKeys y ++ stK e)) := by
  unfold rdKeys; rw [← stK_eq]; simp [Op.operands, opKeys, loadKeys, makes]
theorem rk_makeMap (t : TypeId) (e : Nat) : rdKeys (some e) (.makeMap t none) gk σ = gk ++ stK e := by
  unfold rdKeys; rw [← stK_eq]; simp [Op.operands, opKeys, loadKeys, makes]
theorem rk_lookup (t : TypeId) (x y : Operand) (b : Bool) : rdKeys d (.lookup t x y b) gk σ = gk ++ (slotKeys x ++ (slotKeys y ++ (nearKeys (σ.get x) ++ nearKeys (σ.get y)))) := by
  unfold rdKeys; cases d <;> simp [Op.operands, opKeys, loadKeys, makes]
theorem rk_mapUpdate (t : TypeId) (x y z : Operand) : rdKeys d (.mapUpdate t x y z) gk σ = gk ++ (slotKeys x ++ (slotKeys y ++ (slotKeys z ++ (nearKeys (σ.get x) ++ (nearKeys (σ.get y) ++ nearKeys (σ.get z)))))) := by
  unfold rdKeys; cases d <;> simp [Op.operands, opKeys, loadKeys, makes]
theorem rk_builtin (b : Builtin) (xs : Array Operand) (ts : Array TypeId) (e : Nat) : rdKeys (some e) (.call ⟨.builtin b, xs, ts⟩) gk σ = gk ++ (xs.toList.flatMap slotKeys ++ ((xs.toList.flatMap fun x => nearKeys (σ.get x)) ++ stK e)) := by
  unfold rdKeys; rw [← stK_eq]; simp [Op.operands, Call.operands, opKeys, loadKeys, makes]
theorem rk_call (x : Operand) (xs : Array Operand) (ts : Array TypeId) (e : Nat) : rdKeys (some e) (.call ⟨.value x, xs, ts⟩) gk σ = gk ++ (slotKeys x ++ (xs.toList.flatMap slotKeys ++ (heapKeys σ 9 (σ.get x) ++ ((xs.toList.flatMap fun x => heapKeys σ 9 (σ.get x)) ++ stK e)))) := by
  unfold rdKeys; rw [← stK_eq]; simp [Op.operands, Call.operands, opKeys, loadKeys, makes]

theorem sk_tmp (t : Nat) : slotKeys (.tmp t) = [.s t] := rfl
theorem sk_const (v : Value) : slotKeys (.const v) = [] := rfl
theorem sk_func (f : FuncId) : slotKeys (.func f) = [] := rfl
theorem gk_some (e : Nat) : gkeys (some e) = [.s e] := rfl
theorem gk_none : gkeys none = [] := rfl
theorem wr_some (e : Nat) (v : AV) (l : List (Nat × Option Ob × Nat)) (b : Bool) : wrKeys (some e) ⟨v, l, b⟩ = Key.s e :: (l.map (fun x => Key.o x.1) ++ if b then [Key.e] else []) := rfl
theorem wr_none (v : AV) (l : List (Nat × Option Ob × Nat)) (b : Bool) : wrKeys none ⟨v, l, b⟩ = l.map (fun x => Key.o x.1) ++ if b then [Key.e] else [] := rfl
theorem nk_c (v : Value) : nearKeys (.c v) = [] := rfl
theorem nk_sl (o g e off n : Nat) : nearKeys (.sl o g e off n) = [.o o] := rfl
theorem nk_ptr (o g i j : Nat) : nearKeys (.ptr o g i j) = [.o o] := rfl
theorem nk_mp (o g : Nat) : nearKeys (.mp o g) = [.o o] := rfl
theorem nk_fix {t : Tag} (ht : t.fixed = true) (e : Nat) (rows : List (List AV)) : nearKeys (.tr t e rows) = [] := by cases t <;> simp_all [Tag.fixed, nearKeys]
theorem nk_ep (n e : Nat) (rows : List (List AV)) : nearKeys (.tr (.ep n) e rows) = [.e] := rfl
theorem nk_ipfix {t : Tag} (ht : t.fixed = true) (cs : List AV) : nearKeys (.ip t cs) = [] := by cases t <;> simp_all [Tag.fixed, nearKeys]
theorem nk_ipep (n : Nat) (cs : List AV) : nearKeys (.ip (.ep n) cs) = [.e] := rfl
theorem nk_ib (cs : List AV) : nearKeys (.ib cs) = [] := rfl
theorem nk_fn (f : FuncId) (cs : List AV) : nearKeys (.fn f cs) = [] := rfl
theorem nk_tup (cs : List AV) : nearKeys (.tup cs) = [] := rfl
theorem nk_bad : nearKeys .bad = [] := rfl
theorem nk_agg (cs : List AV) : nearKeys (.agg cs) = cs.flatMap nkIn := by
  have : ∀ x : AV, (match x with | .sl o _ _ _ _ => [Key.o o] | .tr (.ep _) _ _ => [.e] | _ => []) = nkIn x := by
    intro x; cases x with
    | tr t => cases t <;> rfl
    | _ => rfl
  simp only [nearKeys]
  exact flat_congr fun x _ => this x
theorem ni_c (v : Value) : nkIn (.c v) = [] := rfl
theorem ni_sl (o g e off n : Nat) : nkIn (.sl o g e off n) = [.o o] := rfl
theorem ni_fix {t : Tag} (ht : t.fixed = true) (e : Nat) (rows : List (List AV)) : nkIn (.tr t e rows) = [] := by cases t <;> simp_all [Tag.fixed, nkIn]
theorem ni_ep (n e : Nat) (rows : List (List AV)) : nkIn (.tr (.ep n) e rows) = [.e] := rfl
theorem lk_ptr (o g i j : Nat) : lk σ (.ptr o g i j) = match σ.objs o with
    | some (.slice _ rows) => match rows[i]? with
      | some r => if r.all isC then [] else [.e]
      | none => []
    | _ => [] := rfl
theorem lk_ip (t : Tag) (cs : List AV) : lk σ (.ip t cs) = [] := rfl
theorem lk_ib (cs : List AV) : lk σ (.ib cs) = [] := rfl
theorem hk_c (k : Nat) (v : Value) : heapKeys σ (k + 1) (.c v) = [] := rfl
theorem hk_sl (k o g e off n : Nat) : heapKeys σ (k + 1) (.sl o g e off n) = .o o :: hkOb σ k (σ.objs o) := by
  simp only [heapKeys]; cases σ.objs o with
  | none => rfl
  | some ob => cases ob <;> rfl
theorem hk_ptr (k o g i j : Nat) : heapKeys σ (k + 1) (.ptr o g i j) = .o o :: hkOb σ k (σ.objs o) := by
  simp only [heapKeys]; cases σ.objs o with
  | none => rfl
  | some ob => cases ob <;> rfl
theorem hk_mp (k o g : Nat) : heapKeys σ (k + 1) (.mp o g) = [.o o] := rfl
theorem hk_fix (k : Nat) {t : Tag} (ht : t.fixed = true) (e : Nat) (rows : List (List AV)) : heapKeys σ (k + 1) (.tr t e rows) = [] := by cases t <;> simp_all [Tag.fixed, heapKeys]
theorem hk_ep (k n e : Nat) (rows : List (List AV)) : heapKeys σ (k + 1) (.tr (.ep n) e rows) = [.e] := rfl
theorem hk_ipfix (k : Nat) {t : Tag} (ht : t.fixed = true) (cs : List AV) : heapKeys σ (k + 1) (.ip t cs) = [] := by cases t <;> simp_all [Tag.fixed, heapKeys]
theorem hk_ipep (k n : Nat) (cs : List AV) : heapKeys σ (k + 1) (.ip (.ep n) cs) = [.e] := rfl
theorem hk_agg (k : Nat) (cs : List AV) : heapKeys σ (k + 1) (.agg cs) = cs.flatMap (heapKeys σ k) := rfl
theorem hk_tup (k : Nat) (cs : List AV) : heapKeys σ (k + 1) (.tup cs) = cs.flatMap (heapKeys σ k) := rfl
theorem hk_fn (k : Nat) (f : FuncId) (cs : List AV) : heapKeys σ (k + 1) (.fn f cs) = cs.flatMap (heapKeys σ k) := rfl
theorem hk_ib (k : Nat) (cs : List AV) : heapKeys σ (k + 1) (.ib cs) = cs.flatMap (heapKeys σ k) := rfl
theorem hk_bad (k : Nat) : heapKeys σ (k + 1) .bad = [] := rfl
theorem ho_box (k : Nat) (cells : List AV) : hkOb σ k (some (.box cells)) = cells.flatMap (heapKeys σ k) := rfl
theorem ho_slice (k e : Nat) (rows : List (List AV)) : hkOb σ k (some (.slice e rows)) = [] := rfl
theorem ho_map (k : Nat) (es : List (Value × Value)) : hkOb σ k (some (.map es)) = [] := rfl
theorem ho_none (k : Nat) : hkOb σ k none = [] := rfl
theorem stK_open (e : Nat) : stK e = [.o (8 * e + 16), .o (8 * e + 17), .o (8 * e + 18), .o (8 * e + 19), .o (8 * e + 20), .o (8 * e + 21), .o (8 * e + 22), .o (8 * e + 23)] := rfl

end

theorem keyE : type_of% (And.intro (And.intro (And.intro (And.intro (And.intro (And.intro @rk_move @rk_assign) (And.intro @rk_pick @rk_nilCheck)) (And.intro (And.intro @rk_binOp @rk_unOp) (And.intro @rk_fieldAddr (And.intro @rk_field @rk_indexAddr)))) (And.intro (And.intro (And.intro @rk_index @rk_extract) (And.intro @rk_build @rk_makeFunc)) (And.intro (And.intro @rk_slice0 @rk_slice1) (And.intro @rk_slice2 (And.intro @rk_slice3 @rk_alloc))))) (And.intro (And.intro (And.intro (And.intro @rk_box @rk_load) (And.intro @rk_store @rk_convert)) (And.intro (And.intro @rk_buildSlice @rk_makeSlice) (And.intro @rk_makeMap (And.intro @rk_lookup @rk_mapUpdate)))) (And.intro (And.intro (And.intro @rk_builtin @rk_call) (And.intro @sk_tmp (And.intro @sk_const @sk_func))) (And.intro (And.intro @gk_some @gk_none) (And.intro @wr_some (And.intro @wr_none @nk_c)))))) (And.intro (And.intro (And.intro (And.intro (And.intro @nk_sl @nk_ptr) (And.intro @nk_mp @nk_fix)) (And.intro (And.intro @nk_ep @nk_ipfix) (And.intro @nk_ipep (And.intro @nk_ib @nk_fn)))) (And.intro (And.intro (And.intro @nk_tup @nk_bad) (And.intro @nk_agg @ni_c)) (And.intro (And.intro @ni_sl @ni_fix) (And.intro @ni_ep (And.intro @lk_ptr @lk_ip))))) (And.intro (And.intro (And.intro (And.intro @lk_ib @hk_c) (And.intro @hk_sl @hk_ptr)) (And.intro (And.intro @hk_mp @hk_fix) (And.intro @hk_ep (And.intro @hk_ipfix @hk_ipep)))) (And.intro (And.intro (And.intro @hk_agg @hk_tup) (And.intro @hk_fn (And.intro @hk_ib @hk_bad))) (And.intro (And.intro @ho_box @ho_slice) (And.intro @ho_map (And.intro @ho_none @stK_open))))))) :=
  (And.intro (And.intro (And.intro (And.intro (And.intro (And.intro @rk_move @rk_assign) (And.intro @rk_pick @rk_nilCheck)) (And.intro (And.intro @rk_binOp @rk_unOp) (And.intro @rk_fieldAddr (And.intro @rk_field @rk_indexAddr)))) (And.intro (And.intro (And.intro @rk_index @rk_extract) (And.intro @rk_build @rk_makeFunc)) (And.intro (And.intro @rk_slice0 @rk_slice1) (And.intro @rk_slice2 (And.intro @rk_slice3 @rk_alloc))))) (And.intro (And.intro (And.intro (And.intro @rk_box @rk_load) (And.intro @rk_store @rk_convert)) (And.intro (And.intro @rk_buildSlice @rk_makeSlice) (And.intro @rk_makeMap (And.intro @rk_lookup @rk_mapUpdate)))) (And.intro (And.intro (And.intro @rk_builtin @rk_call) (And.intro @sk_tmp (And.intro @sk_const @sk_func))) (And.intro (And.intro @gk_some @gk_none) (And.intro @wr_some (And.intro @wr_none @nk_c)))))) (And.intro (And.intro (And.intro (And.intro (And.intro @nk_sl @nk_ptr) (And.intro @nk_mp @nk_fix)) (And.intro (And.intro @nk_ep @nk_ipfix) (And.intro @nk_ipep (And.intro @nk_ib @nk_fn)))) (And.intro (And.intro (And.intro @nk_tup @nk_bad) (And.intro @nk_agg @ni_c)) (And.intro (And.intro @ni_sl @ni_fix) (And.intro @ni_ep (And.intro @lk_ptr @lk_ip))))) (And.intro (And.intro (And.intro (And.intro @lk_ib @hk_c) (And.intro @hk_sl @hk_ptr)) (And.intro (And.intro @hk_mp @hk_fix) (And.intro @hk_ep (And.intro @hk_ipfix @hk_ipep)))) (And.intro (And.intro (And.intro @hk_agg @hk_tup) (And.intro @hk_fn (And.intro @hk_ib @hk_bad))) (And.intro (And.intro @ho_box @ho_slice) (And.intro @ho_map (And.intro @ho_none @stK_open)))))))

end Go.AM
