/- Equations for operators, built-in functions, renaming; all of them in one. -/
import Derived.Test.YtoffdmkgioaohaaAmBf
namespace Go.AM
set_option linter.unusedSimpArgs false
set_option linter.unusedVariables false

def isSl (P : Program) (t : TypeId) : Bool := (elemT P t).isSome
/-- of what kind an integer becomes -/
def cvT (P : Program) (src dst : TypeId) : Option IntKind := match intT P dst, P.underlying src with | some k, some _ => some k | _, _ => none
def tsT (P : Program) (src dst : TypeId) : Bool := match elemT P src with | some el => decide (intT P el = some .u8) && stringT P dst | none => false
def isPt (P : Program) (t : TypeId) : Bool := match P.underlying t with | some (.pointer _) => true | _ => false
def isBo (P : Program) (t : TypeId) : Bool := match P.underlying t with | some .bool => true | _ => false

section
variable {P : Program} {cf : Cfg} {H : Handler} {fn : FuncId} {σ : St} {d : Option Tmp}

/-! #### operators -/
theorem bin_add (t : TypeId) (k : IntKind) (a b : Int) : bin P .add t (.c (.int k a)) (.c (.int k b)) = some (.c (.int k (k.wrap (a + b)))) := by simp [bin, binVal, binInt]
theorem bin_sub (t : TypeId) (k : IntKind) (a b : Int) : bin P .sub t (.c (.int k a)) (.c (.int k b)) = some (.c (.int k (k.wrap (a - b)))) := by simp [bin, binVal, binInt]
theorem bin_mul (t : TypeId) (k : IntKind) (a b : Int) : bin P .mul t (.c (.int k a)) (.c (.int k b)) = some (.c (.int k (k.wrap (a * b)))) := by simp [bin, binVal, binInt]
theorem bin_quo (t : TypeId) (k : IntKind) (a b : Int) : bin P .quo t (.c (.int k a)) (.c (.int k b)) = if b = 0 then none else some (.c (.int k (k.wrap (a.tdiv b)))) := by
  simp only [bin, binVal, binInt, if_true]; by_cases h : b = 0 <;> simp [h]
theorem bin_rem (t : TypeId) (k : IntKind) (a b : Int) : bin P .rem t (.c (.int k a)) (.c (.int k b)) = if b = 0 then none else some (.c (.int k (a.tmod b))) := by
  simp only [bin, binVal, binInt, if_true]; by_cases h : b = 0 <;> simp [h]
theorem bin_eql (t : TypeId) (k : IntKind) (a b : Int) : bin P .eql t (.c (.int k a)) (.c (.int k b)) = some (.c (.bool (decide (a = b)))) := by simp [bin, binVal, binInt]; rfl
theorem bin_neq (t : TypeId) (k : IntKind) (a b : Int) : bin P .neq t (.c (.int k a)) (.c (.int k b)) = some (.c (.bool (decide (a ≠ b)))) := by simp [bin, binVal, binInt]; rfl
theorem bin_lss (t : TypeId) (k : IntKind) (a b : Int) : bin P .lss t (.c (.int k a)) (.c (.int k b)) = some (.c (.bool (decide (a < b)))) := by simp [bin, binVal, binInt]
theorem bin_leq (t : TypeId) (k : IntKind) (a b : Int) : bin P .leq t (.c (.int k a)) (.c (.int k b)) = some (.c (.bool (decide (a ≤ b)))) := by simp [bin, binVal, binInt]
theorem bin_gtr (t : TypeId) (k : IntKind) (a b : Int) : bin P .gtr t (.c (.int k a)) (.c (.int k b)) = some (.c (.bool (decide (b < a)))) := by simp [bin, binVal, binInt]
theorem bin_geq (t : TypeId) (k : IntKind) (a b : Int) : bin P .geq t (.c (.int k a)) (.c (.int k b)) = some (.c (.bool (decide (b ≤ a)))) := by simp [bin, binVal, binInt]
theorem bin_and (t : TypeId) (k : IntKind) (a b : Int) : bin P .and t (.c (.int k a)) (.c (.int k b)) = some (.c (.int k (k.wrap (BitVec.ofInt k.bits a &&& BitVec.ofInt k.bits b).toNat))) := by simp [bin, binVal, binInt]
theorem bin_or (t : TypeId) (k : IntKind) (a b : Int) : bin P .or t (.c (.int k a)) (.c (.int k b)) = some (.c (.int k (k.wrap (BitVec.ofInt k.bits a ||| BitVec.ofInt k.bits b).toNat))) := by simp [bin, binVal, binInt]
theorem bin_shl (t : TypeId) (k k' : IntKind) (a b : Int) : bin P .shl t (.c (.int k a)) (.c (.int k' b)) = if b < 0 then none else some (.c (.int k (k.wrap (a * 2 ^ min b.toNat k.bits)))) := by
  simp only [bin, binVal]; split <;> simp_all
theorem bin_shr (t : TypeId) (k k' : IntKind) (a b : Int) : bin P .shr t (.c (.int k a)) (.c (.int k' b)) = if b < 0 then none else some (.c (.int k (a.fdiv (2 ^ min b.toNat k.bits)))) := by
  simp only [bin, binVal]; split <;> simp_all
theorem toList_inj {a b : ByteArray} (h : a.toList = b.toList) : a = b := by
  have e : ∀ c : ByteArray, c.toList = c.data.toList := fun c => by
    have key : ∀ (n i : Nat) (r : List UInt8), n = c.size - i → ByteArray.toList.loop c i r = r.reverse ++ c.data.toList.drop i := by
      intro n
      induction n with
      | zero =>
        intro i r hn
        rw [ByteArray.toList.loop]
        have : ¬ i < c.size := by omega
        rw [if_neg this, List.drop_eq_nil_of_le (by simp; have : c.data.size = c.size := rfl; omega)]
        simp
      | succ n ih =>
        intro i r hn
        rw [ByteArray.toList.loop]
        have hi : i < c.size := by omega
        rw [if_pos hi, ih (i + 1) _ (by omega)]
        have hi' : i < c.data.toList.length := by simp; exact hi
        rw [List.drop_eq_getElem_cons hi']
        simp [ByteArray.get!, hi]
    have := key _ 0 [] rfl
    simpa [ByteArray.toList] using this
  rw [e, e] at h
  exact ByteArray.ext (Array.toList_inj.1 h)
theorem str_eq (a b : ByteArray) : (a.toList == b.toList) = decide (a = b) := by
  by_cases h : a = b
  · subst h; simp
  · have : a.toList ≠ b.toList := fun k => h (toList_inj k)
    simp [h, this]
theorem bin_strAdd (t : TypeId) (a b : ByteArray) : bin P .add t (.c (.string a)) (.c (.string b)) = if ((a.size + b.size : Nat) : Int) > 9223372036854775807 then none else some (.c (.string (a ++ b))) := by
  simp only [bin, binVal]; split <;> simp_all
theorem bin_strEql (t : TypeId) (a b : ByteArray) : bin P .eql t (.c (.string a)) (.c (.string b)) = some (.c (.bool (decide (a = b)))) := by
  simp only [bin, binVal, str_eq, Option.map_some]
theorem bin_strNeq (t : TypeId) (a b : ByteArray) : bin P .neq t (.c (.string a)) (.c (.string b)) = some (.c (.bool (decide (a ≠ b)))) := by
  simp [bin, binVal, str_eq]
theorem bin_boolEql (t : TypeId) (a b : Bool) (h : isBo P t = true) : bin P .eql t (.c (.bool a)) (.c (.bool b)) = some (.c (.bool (decide (a = b)))) := by
  have e : (a == b) = decide (a = b) := by cases a <;> cases b <;> rfl
  unfold isBo at h; split at h <;> simp_all [bin]
theorem bin_boolNeq (t : TypeId) (a b : Bool) (h : isBo P t = true) : bin P .neq t (.c (.bool a)) (.c (.bool b)) = some (.c (.bool (decide (a ≠ b)))) := by
  have e : (!(a == b)) = decide (a ≠ b) := by cases a <;> cases b <;> rfl
  unfold isBo at h
  split at h
  · rename_i hu; simp only [bin, hu, e]
  · cases h
theorem bin_nilEql (t : TypeId) (h : isPt P t = true) : bin P .eql t (.c (.pointer none)) (.c (.pointer none)) = some (.c (.bool true)) := by
  unfold isPt at h; split at h <;> simp_all [bin]
theorem bin_nilNeq (t : TypeId) (h : isPt P t = true) : bin P .neq t (.c (.pointer none)) (.c (.pointer none)) = some (.c (.bool false)) := by
  unfold isPt at h; split at h <;> simp_all [bin]
theorem bin_ptrEql (t : TypeId) (o g i j : Nat) (h : isPt P t = true) : bin P .eql t (.ptr o g i j) (.c (.pointer none)) = some (.c (.bool false)) := by
  unfold isPt at h; split at h <;> simp_all [bin]
theorem bin_ptrNeq (t : TypeId) (o g i j : Nat) (h : isPt P t = true) : bin P .neq t (.ptr o g i j) (.c (.pointer none)) = some (.c (.bool true)) := by
  unfold isPt at h; split at h <;> simp_all [bin]
theorem bin_ipEql (t : TypeId) (tg : Tag) (cs : List AV) (h : isPt P t = true) : bin P .eql t (.ip tg cs) (.c (.pointer none)) = some (.c (.bool false)) := by
  unfold isPt at h; split at h <;> simp_all [bin]
theorem bin_ipNeq (t : TypeId) (tg : Tag) (cs : List AV) (h : isPt P t = true) : bin P .neq t (.ip tg cs) (.c (.pointer none)) = some (.c (.bool true)) := by
  unfold isPt at h; split at h <;> simp_all [bin]
theorem bin_ibEql (t : TypeId) (cs : List AV) (h : isPt P t = true) : bin P .eql t (.ib cs) (.c (.pointer none)) = some (.c (.bool false)) := by
  unfold isPt at h; split at h <;> simp_all [bin]
theorem bin_ibNeq (t : TypeId) (cs : List AV) (h : isPt P t = true) : bin P .neq t (.ib cs) (.c (.pointer none)) = some (.c (.bool true)) := by
  unfold isPt at h; split at h <;> simp_all [bin]
theorem bin_trEql (t : TypeId) (tg : Tag) (w : Nat) (rows : List (List AV)) (h : isSl P t = true) (hr : rows.isEmpty = false) : bin P .eql t (.tr tg w rows) (.c (.slice none 0 0)) = some (.c (.bool false)) := by
  unfold isSl elemT at h; split at h <;> simp_all [bin]
theorem bin_trNeq (t : TypeId) (tg : Tag) (w : Nat) (rows : List (List AV)) (h : isSl P t = true) (hr : rows.isEmpty = false) : bin P .neq t (.tr tg w rows) (.c (.slice none 0 0)) = some (.c (.bool true)) := by
  unfold isSl elemT at h; split at h <;> simp_all [bin]
theorem un_not (b : Bool) : un .not (.c (.bool b)) = some (.c (.bool (!b))) := rfl
theorem un_neg (k : IntKind) (n : Int) : un .neg (.c (.int k n)) = some (.c (.int k (k.wrap (0 - n)))) := rfl

/-! #### built-in functions -/
theorem bi_lenS {e : Nat} {src : Option Operand} {t : TypeId} {s : ByteArray} : opBuiltin cf σ e .len src #[t] [.c (.string s)] = if stringT cf.P t then some ⟨.c (.int .i64 s.size), [], false⟩ else none := rfl
theorem bi_lenN {e : Nat} {src : Option Operand} {t : TypeId} : opBuiltin cf σ e .len src #[t] [.c (.slice none 0 0)] = if isSl cf.P t then some ⟨.c (.int .i64 0), [], false⟩ else none := rfl
theorem bi_lenT {e : Nat} {src : Option Operand} {t : TypeId} {tg : Tag} {w : Nat} {rows : List (List AV)} : opBuiltin cf σ e .len src #[t] [.tr tg w rows] = if isSl cf.P t then some ⟨.c (.int .i64 rows.length), [], false⟩ else none := rfl
theorem bi_lenO {e : Nat} {src : Option Operand} {t : TypeId} {o g w off n : Nat} : opBuiltin cf σ e .len src #[t] [.sl o g w off n] = if isSl cf.P t then some ⟨.c (.int .i64 n), [], false⟩ else none := rfl
theorem bi_min {e : Nat} {src : Option Operand} {ts : Array TypeId} {k q : IntKind} {a b : Int} : opBuiltin cf σ e .min src ts [.c (.int k a), .c (.int q b)] = some ⟨.c (.int k (if b < a then b else a)), [], false⟩ := rfl
theorem bi_max {e : Nat} {src : Option Operand} {ts : Array TypeId} {k q : IntKind} {a b : Int} : opBuiltin cf σ e .max src ts [.c (.int k a), .c (.int q b)] = some ⟨.c (.int k (if b > a then b else a)), [], false⟩ := rfl
theorem bi_append {e : Nat} {src : Option Operand} {ts : Array TypeId} {s x : AV} : opBuiltin cf σ e .append src ts [s, x] = opAppend cf σ e src ts s x := rfl

/-! #### slices of slices -/
theorem sx_str {t : TypeId} {s : ByteArray} {lo hi : Option AV} : opSlice P t (.c (.string s)) lo hi = if stringT P t then (cutBounds s.size lo hi).map fun x => .c (.string (s.extract x.1 x.2)) else none := rfl
theorem sx_nil {t : TypeId} {lo hi : Option AV} : opSlice P t (.c (.slice none 0 0)) lo hi = if (elS P t).isSome then (cutBounds 0 lo hi).map fun _ => .c (.slice none 0 0) else none := rfl
theorem sx_tr {t : TypeId} {tg : Tag} {w : Nat} {rows : List (List AV)} {lo hi : Option AV} : opSlice P t (.tr tg w rows) lo hi = if elS P t = some w then (cutBounds rows.length lo hi).map fun x => .tr tg w ((rows.drop x.1).take (x.2 - x.1)) else none := rfl
theorem sx_sl {t : TypeId} {o g w off n : Nat} {lo hi : Option AV} : opSlice P t (.sl o g w off n) lo hi = if elS P t = some w then (cutBounds n lo hi).map fun x => .sl o g w (off + x.1) (x.2 - x.1) else none := rfl
theorem cb_nn {n : Nat} : cutBounds n none none = some (0, n) := by simp [cutBounds]
theorem cb_sn {n : Nat} {k : IntKind} {l : Int} : cutBounds n (some (.c (.int k l))) none = if 0 ≤ l ∧ l ≤ n then some (l.toNat, n) else none := by simp [cutBounds]
theorem cb_ns {n : Nat} {k : IntKind} {h : Int} : cutBounds n none (some (.c (.int k h))) = if 0 ≤ h ∧ h ≤ n then some (0, h.toNat) else none := by simp [cutBounds]
theorem cb_ss {n : Nat} {k q : IntKind} {l h : Int} : cutBounds n (some (.c (.int k l))) (some (.c (.int q h))) = if 0 ≤ l ∧ l ≤ h ∧ h ≤ n then some (l.toNat, h.toNat) else none := by simp [cutBounds]

/-! #### conversions -/
theorem cv_int {src dst : TypeId} {x : Operand} {k : IntKind} {n : Int} (hx : σ.get x = .c (.int k n)) : opE cf H fn d (.convert src dst x) σ = (cvT cf.P src dst).map fun k => ⟨.c (.int k (k.wrap n)), [], false⟩ := by
  unfold opE evalOp cvT
  simp only [hx]
  cases intT cf.P dst with
  | none => rfl
  | some k => cases cf.P.underlying src <;> rfl
theorem cv_str {src dst : TypeId} {x : Operand} {s : ByteArray} (hx : σ.get x = .c (.string s)) (h : stringT cf.P dst = true ∧ (cf.P.underlying src).isSome = true) : opE cf H fn d (.convert src dst x) σ = some ⟨.c (.string s), [], false⟩ := by
  unfold opE evalOp
  simp only [hx, if_pos h]
theorem cv_tr {src dst : TypeId} {x : Operand} {tg : Tag} {w : Nat} {rows : List (List AV)} (hx : σ.get x = .tr tg w rows) (h : tsT cf.P src dst = true) : opE cf H fn d (.convert src dst x) σ = match σ.rows 1 (.tr tg w rows) with
    | some rows => (bytesOfRows rows).map fun bs => ⟨.c (.string ⟨bs.toArray⟩), [], false⟩
    | none => none := by
  unfold tsT at h
  unfold opE evalOp
  simp only [hx]
  cases he : elemT cf.P src with
  | none => simp [he] at h
  | some el =>
    simp only [he] at h ⊢
    rw [if_pos (by simpa using h)]
    rfl
theorem cv_sl {src dst : TypeId} {x : Operand} {o g w off n : Nat} (hx : σ.get x = .sl o g w off n) (h : tsT cf.P src dst = true) : opE cf H fn d (.convert src dst x) σ = match σ.rows 1 (.sl o g w off n) with
    | some rows => (bytesOfRows rows).map fun bs => ⟨.c (.string ⟨bs.toArray⟩), [], false⟩
    | none => none := by
  unfold tsT at h
  unfold opE evalOp
  simp only [hx]
  cases he : elemT cf.P src with
  | none => simp [he] at h
  | some el =>
    simp only [he] at h ⊢
    rw [if_pos (by simpa using h)]
    rfl

/-! #### nil slices -/
theorem nr_nil (mv : List Nat) (i : Nat) (ts : List TypeId) : nrmArgs P mv i ts [] = [] := by cases ts <;> rfl
theorem nr_cons (mv : List Nat) (i : Nat) (t : TypeId) (ts : List TypeId) (v : AV) (vs : List AV) : nrmArgs P mv i (t :: ts) (v :: vs) = (if mv.contains i then v else nrm P t v) :: nrmArgs P mv (i + 1) ts vs := rfl
theorem nr_none (mv : List Nat) (i : Nat) (vs : List AV) : nrmArgs P mv i [] vs = vs := by cases vs <;> rfl
theorem nm_int (t : TypeId) (k : IntKind) (n : Int) : nrm P t (.c (.int k n)) = .c (.int k n) := by
  simp only [nrm]; split <;> first | rfl | (rename_i l _; cases l <;> rfl)
theorem nm_tr (t : TypeId) (tg : Tag) (w : Nat) (rows : List (List AV)) : nrm P t (.tr tg w rows) = .tr tg w rows := rfl
theorem nm_agg (t : TypeId) (cs : List AV) : nrm P t (.agg cs) = .agg (nrmCells (layT P 8 t) cs) := rfl
theorem nm_c (t : TypeId) (v : Value) : nrm P t (.c v) = match layT P 8 t with
    | [l] => nrmCell l (.c v)
    | _ => .c v := rfl
theorem nm_ip (t : TypeId) (tg : Tag) (cs : List AV) : nrm P t (.ip tg cs) = .ip tg cs := rfl
theorem nm_ib (t : TypeId) (cs : List AV) : nrm P t (.ib cs) = match P.underlying t with
    | some (.pointer e) => .ib (nrmCells (layT P 8 e) cs)
    | _ => .ib cs := rfl
theorem nm_fn (t : TypeId) (f : FuncId) (cs : List AV) : nrm P t (.fn f cs) = .fn f cs := rfl
theorem nc_nil (vs : List AV) : nrmCells [] vs = vs := by cases vs <;> rfl
theorem nc_nil2 (ls : List (Option Nat)) : nrmCells ls [] = [] := by cases ls <;> rfl
theorem nc_cons (l : Option Nat) (ls : List (Option Nat)) (v : AV) (vs : List AV) : nrmCells (l :: ls) (v :: vs) = nrmCell l v :: nrmCells ls vs := rfl
theorem n1_none (v : AV) : nrmCell none v = v := by unfold nrmCell; split <;> simp_all
theorem n1_nil (e : Nat) : nrmCell (some e) (.c (.slice none 0 0)) = .tr .im e [] := rfl
theorem n1_tr (l : Option Nat) (tg : Tag) (w : Nat) (rows : List (List AV)) : nrmCell l (.tr tg w rows) = .tr tg w rows := by cases l <;> rfl

/-! #### names anew -/
variable {tg : Tag → Option Tag} {m : Nat → Nat → Option (Nat × Nat)}
theorem rn_c (v : Value) : ren tg m (.c v) = some (.c v) := rfl
theorem rn_sl (o g w off n : Nat) : ren tg m (.sl o g w off n) = match m o g with | some (o', g') => some (.sl o' g' w off n) | none => none := rfl
theorem rn_ptr (o g i j : Nat) : ren tg m (.ptr o g i j) = match m o g with | some (o', g') => some (.ptr o' g' i j) | none => none := rfl
theorem rn_tr (t : Tag) (w : Nat) (rows : List (List AV)) : ren tg m (.tr t w rows) = match tg t with | some t' => some (.tr t' w rows) | none => none := by simp only [ren]; cases tg t <;> rfl
theorem rn_ip (t : Tag) (cs : List AV) : ren tg m (.ip t cs) = match tg t with | some t' => some (.ip t' cs) | none => none := by simp only [ren]; cases tg t <;> rfl
def renAll (f : AV → Option AV) : List AV → Option (List AV)
  | [] => some []
  | v :: vs => match f v with
    | some x => match renAll f vs with
      | some xs => some (x :: xs)
      | none => none
    | none => none
theorem renAll_eq (f : AV → Option AV) : ∀ vs : List AV, vs.mapM f = renAll f vs
  | [] => rfl
  | v :: vs => by
    rw [List.mapM_cons, renAll_eq f vs]
    simp only [renAll]
    cases f v with
    | none => rfl
    | some x => cases renAll f vs <;> rfl
theorem r2_agg (cs : List AV) : ren2 tg m (.agg cs) = (renAll (ren tg m) cs).map .agg := by simp only [ren2, renAll_eq]
theorem r2_c (v : Value) : ren2 tg m (.c v) = some (.c v) := rfl
theorem r2_sl (o g w off n : Nat) : ren2 tg m (.sl o g w off n) = ren tg m (.sl o g w off n) := rfl
theorem r2_ptr (o g i j : Nat) : ren2 tg m (.ptr o g i j) = ren tg m (.ptr o g i j) := rfl
theorem r2_tr (t : Tag) (w : Nat) (rows : List (List AV)) : ren2 tg m (.tr t w rows) = ren tg m (.tr t w rows) := rfl
theorem r2_ip (t : Tag) (cs : List AV) : ren2 tg m (.ip t cs) = ren tg m (.ip t cs) := rfl
theorem r3_tup (cs : List AV) : ren3 tg m (.tup cs) = (renAll (ren2 tg m) cs).map .tup := by simp only [ren3, renAll_eq]
theorem r3_agg (cs : List AV) : ren3 tg m (.agg cs) = ren2 tg m (.agg cs) := rfl
theorem r3_c (v : Value) : ren3 tg m (.c v) = some (.c v) := rfl
theorem r3_sl (o g w off n : Nat) : ren3 tg m (.sl o g w off n) = ren tg m (.sl o g w off n) := rfl
theorem r3_ptr (o g i j : Nat) : ren3 tg m (.ptr o g i j) = ren tg m (.ptr o g i j) := rfl
theorem r3_tr (t : Tag) (w : Nat) (rows : List (List AV)) : ren3 tg m (.tr t w rows) = ren tg m (.tr t w rows) := rfl
theorem r3_ip (t : Tag) (cs : List AV) : ren3 tg m (.ip t cs) = ren tg m (.ip t cs) := rfl
theorem ob_box (cs : List AV) : renOb tg m (.box cs) = (renAll (ren tg m) cs).map .box := by simp only [renOb, renAll_eq]
theorem ob_slice (e : Nat) (rows : List (List AV)) : renOb tg m (.slice e rows) = if allPlain rows then some (.slice e rows) else none := rfl
theorem ra_nil (f : AV → Option AV) : renAll f [] = some [] := rfl
theorem ra_cons (f : AV → Option AV) (v : AV) (vs : List AV) : renAll f (v :: vs) = match f v with
    | some x => match renAll f vs with
      | some xs => some (x :: xs)
      | none => none
    | none => none := rfl
theorem fx_out {t : Tag} : outTag t = match t with | .im => some .im | .b1 => some .bo | _ => none := by cases t <;> rfl

/-! #### what a function hands back -/
def resAll (cf : Cfg) (σ : St) : List ResultVar → Option (List AV)
  | [] => some []
  | x :: xs => match resultOf cf σ x with
    | some v => match resAll cf σ xs with
      | some vs => some (v :: vs)
      | none => none
    | none => none
theorem resAll_eq (cf : Cfg) (σ : St) : ∀ xs : List ResultVar, xs.mapM (resultOf cf σ) = resAll cf σ xs
  | [] => rfl
  | x :: xs => by
    rw [List.mapM_cons, resAll_eq cf σ xs]
    simp only [resAll]
    cases resultOf cf σ x with
    | none => rfl
    | some v => cases resAll cf σ xs <;> rfl
theorem rs_tmp (t : Nat) : resultOf cf σ (.tmp t) = some (σ.slots t) := rfl
def rsOb (g' g i j s : Nat) (a : Bool) : Option Ob → Option AV
  | some (.box cells) => if g' = g ∧ i = 0 ∧ j + s ≤ cells.length then pack a ((cells.drop j).take s) else none
  | _ => none
theorem rs_cell (b : Nat) (t : TypeId) : resultOf cf σ (.cell b t) = match σ.slots b with
    | .ptr o g i j => match tyL cf.P t with
      | some (s, a) => rsOb (σ.gens o) g i j s a (σ.objs o)
      | none => none
    | _ => none := by
  simp only [resultOf, tyL]
  cases σ.slots b with
  | ptr o g i j =>
    simp only
    cases sizeT cf.P t with
    | none => rfl
    | some s =>
      cases aggT cf.P t with
      | none => rfl
      | some a =>
        simp only
        cases σ.objs o with
        | none => rfl
        | some ob => cases ob <;> rfl
  | _ => rfl
def one? : List AV → AV
  | [v] => v
  | vs => .tup vs
def fin (cf : Cfg) (n : Nat) (σ : St) : Option (List AV) → Option Out
  | some vs => finV n σ (one? vs) ((withBoxes σ.objs (refs1 (one? vs) ++ (List.range n).flatMap (boxRefs σ.objs))).filter (n ≤ ·))
  | none => none
  where
  finV (n : Nat) (σ : St) (v : AV) (ex : List Nat) : Option Out :=
    match ren3 expTag (expMap n σ ex) v with
    | some v' => match expObjs n σ ex (List.range n ++ ex) with
      | some obs => some (v', obs)
      | none => none
    | none => none
theorem fin_eq (n : Nat) (rs : Array ResultVar) : finish cf n rs σ = fin cf n σ (resAll cf σ rs.toList) := by
  unfold finish resultsOf
  rw [resAll_eq]
  cases resAll cf σ rs.toList with
  | none => rfl
  | some vs =>
    have key : ∀ v : AV, (match some v with
      | some v =>
        let ex := (withBoxes σ.objs (refs1 v ++ (List.range n).flatMap (boxRefs σ.objs))).filter (n ≤ ·)
        match ren3 expTag (expMap n σ ex) v, expObjs n σ ex (List.range n ++ ex) with
        | some v', some obs => some (v', obs)
        | _, _ => none
      | none => none) = fin.finV n σ v ((withBoxes σ.objs (refs1 v ++ (List.range n).flatMap (boxRefs σ.objs))).filter (n ≤ ·)) := by
      intro v
      simp only [fin.finV]
      cases ren3 expTag (expMap n σ ((withBoxes σ.objs (refs1 v ++ (List.range n).flatMap (boxRefs σ.objs))).filter (n ≤ ·))) v with
      | none => rfl
      | some v' => 
        simp only
        cases expObjs n σ ((withBoxes σ.objs (refs1 v ++ (List.range n).flatMap (boxRefs σ.objs))).filter (n ≤ ·)) (List.range n ++ ((withBoxes σ.objs (refs1 v ++ (List.range n).flatMap (boxRefs σ.objs))).filter (n ≤ ·))) <;> rfl
    cases vs with
    | nil => exact key _
    | cons v vs => cases vs with
      | nil => exact key _
      | cons u us => exact key _

end
end Go.AM
