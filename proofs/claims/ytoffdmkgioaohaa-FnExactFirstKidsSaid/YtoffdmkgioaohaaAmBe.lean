/- Equations for the operations, one by one. -/
import Derived.Test.YtoffdmkgioaohaaAmBd
namespace Go.AM

/-- size and kind of a type -/
def tyL (P : Program) (t : TypeId) : Option (Nat × Bool) :=
  match sizeT P t, aggT P t with
  | some s, some a => some (s, a)
  | _, _ => none
/-- element's size of a slice type -/
def elS (P : Program) (t : TypeId) : Option Nat := (elemT P t).bind (sizeT P)
/-- what append is to know -/
def apT (P : Program) (ts : Array TypeId) : Option (Nat × Nat) :=
  match (ts[0]?).bind (elemT P), ts[1]?.any (fun t => (elemT P t).isSome || stringT P t) with
  | some el, true => match sizeT P el, bytesT P el, zeroT P el with
    | some e, some b, some z => if z.length ≠ e then none else some (e, b)
    | _, _, _ => none
  | _, _ => none
/-- what make is to know -/
def mkT (P : Program) (t : TypeId) : Option (Nat × Nat × List AV) :=
  match elemT P t with
  | some el => match sizeT P el, bytesT P el, zeroT P el with
    | some e, some b, some z => if z.length = e ∧ 0 < e ∧ z.all isC = true then some (e, b, nrmCells (layT P 8 el) z) else none
    | _, _, _ => none
  | none => none
/-- what a slice's literal is to know -/
def bsT (P : Program) (t : TypeId) : Option (Nat × Bool × List (Option Nat)) :=
  match elemT P t with
  | some el => match sizeT P el with
    | some e => if 0 < e then some (e, (zeroT P el).isSome, layT P 8 el) else none
    | none => none
  | none => none
def alT (P : Program) (t : TypeId) : Option (List AV) :=
  match zeroT P t with
  | some cells => if cells.all storable then some cells else none
  | none => none

/-- of a view that stays while the call goes on -/
def Tag.fixed : Tag → Bool
  | .ep _ => false
  | _ => true
def Tag.up : Tag → Tag
  | .bo => .b1
  | t => t

section
variable {cf : Cfg} {H : Handler} {fn : FuncId} {σ : St} {d : Option Tmp}

theorem up_fixed {t : Tag} (h : t.fixed = true) : t.up.fixed = true := by cases t <;> simp_all [Tag.fixed, Tag.up]
theorem tagOK_fixed {t : Tag} (h : t.fixed = true) : σ.tagOK t = true := by cases t <;> simp_all [Tag.fixed, St.tagOK]

/-! #### reading operands -/
theorem get_tmp (t : Nat) : σ.get (.tmp t) = σ.slots t := rfl
theorem get_fn (f : FuncId) : σ.get (.func f) = .fn f [] := rfl
theorem get_int (k : IntKind) (n : Int) : σ.get (.const (.int k n)) = .c (.int k n) := rfl
theorem get_bool (x : Bool) : σ.get (.const (.bool x)) = .c (.bool x) := rfl
theorem get_str (s : ByteArray) : σ.get (.const (.string s)) = .c (.string s) := rfl
theorem get_nilS : σ.get (.const (.slice none 0 0)) = .c (.slice none 0 0) := rfl
theorem get_nilP : σ.get (.const (.pointer none)) = .c (.pointer none) := rfl
theorem vals_nil : vals σ #[] = [] := rfl
theorem vals_one (x : Operand) : vals σ #[x] = [σ.get x] := rfl
theorem vals_two (x y : Operand) : vals σ #[x, y] = [σ.get x, σ.get y] := rfl
theorem vals_three (x y z : Operand) : vals σ #[x, y, z] = [σ.get x, σ.get y, σ.get z] := rfl
theorem vals_four (x y z u : Operand) : vals σ #[x, y, z, u] = [σ.get x, σ.get y, σ.get z, σ.get u] := rfl
theorem vals_five (x y z u v : Operand) : vals σ #[x, y, z, u, v] = [σ.get x, σ.get y, σ.get z, σ.get u, σ.get v] := rfl

/-! #### states -/
theorem at_put (e t : Nat) (v : AV) : (σ.put (some e) v).slots t = if t = e then v else σ.slots t := rfl
theorem put_none (v : AV) : σ.put none v = σ := rfl
theorem put_objs (e : Nat) (v : AV) : (σ.put (some e) v).objs = σ.objs := rfl
theorem put_gens (e : Nat) (v : AV) : (σ.put (some e) v).gens = σ.gens := rfl
theorem put_ep (e : Nat) (v : AV) : (σ.put (some e) v).ep = σ.ep := rfl
theorem set_slots (x : Nat × Option Ob × Nat) : (σ.setObj x).slots = σ.slots := rfl
theorem set_objs (i : Nat) (ob : Option Ob) (g t : Nat) : (σ.setObj (i, ob, g)).objs t = if t = i then ob else σ.objs t := rfl
theorem set_gens (i : Nat) (ob : Option Ob) (g t : Nat) : (σ.setObj (i, ob, g)).gens t = if t = i then g else σ.gens t := rfl
theorem set_ep (x : Nat × Option Ob × Nat) : (σ.setObj x).ep = σ.ep := rfl
theorem bump_slots : σ.bump.slots = σ.slots := rfl
theorem bump_objs : σ.bump.objs = σ.objs := rfl
theorem bump_gens : σ.bump.gens = σ.gens := rfl
theorem bump_ep : σ.bump.ep = σ.ep + 1 := rfl
theorem app_val (v : AV) : σ.apply d ⟨v, [], false⟩ = σ.put d v := rfl
theorem app_bump (v : AV) : σ.apply d ⟨v, [], true⟩ = (σ.put d v).bump := rfl
theorem app_obj (v : AV) (x : Nat × Option Ob × Nat) (l : List (Nat × Option Ob × Nat)) (e : Bool) : σ.apply d ⟨v, x :: l, e⟩ = (σ.setObj x).apply d ⟨v, l, e⟩ := rfl
theorem init_slots (args : List AV) (T : List Ob) (i : Nat) : (initSt args T).slots i = (args[i]?).getD (.c undef) := rfl
theorem init_objs (args : List AV) (T : List Ob) (i : Nat) : (initSt args T).objs i = T[i]? := rfl
theorem init_gens (args : List AV) (T : List Ob) (i : Nat) : (initSt args T).gens i = 0 := rfl
theorem init_ep (args : List AV) (T : List Ob) : (initSt args T).ep = 0 := rfl

/-! #### operations -/
theorem oe_move (x : Operand) : opE cf H fn d (.move x) σ = some ⟨σ.get x, [], false⟩ := rfl
theorem oe_assign (x : Operand) : opE cf H fn d (.assign x) σ = some ⟨σ.get x, [], false⟩ := rfl
theorem oe_pick (c x y : Operand) : opE cf H fn d (.pick c x y) σ = match σ.get c with
    | .c (.bool t) => some ⟨if t then σ.get x else σ.get y, [], false⟩
    | _ => none := rfl
theorem oe_alloc (t : TypeId) (e : Nat) : opE cf H fn (some e) (.alloc t) σ = match alT cf.P t with
    | some cells => some ⟨.ptr (site e 0) (σ.gens (site e 0) + 1) 0 0, [(site e 0, some (.box cells), σ.gens (site e 0) + 1)], false⟩
    | none => none := by
  simp only [opE, evalOp, alT]
  cases zeroT cf.P t with
  | none => rfl
  | some cells =>
    simp only
    by_cases hs : cells.all storable = true
    · rw [if_pos hs, if_pos hs]; rfl
    · rw [if_neg hs, if_neg hs]
theorem oe_box (t : TypeId) (x : Operand) (e : Nat) : opE cf H fn (some e) (.box t x) σ =
    if (cellsOf (σ.get x)).all storable = true then some ⟨.ptr (site e 0) (σ.gens (site e 0) + 1) 0 0, [(site e 0, some (.box (cellsOf (σ.get x))), σ.gens (site e 0) + 1)], false⟩ else none := rfl
theorem oe_build (t : TypeId) (parts : Array (Nat × Operand)) : opE cf H fn d (.build t parts) σ = match structT cf.P t with
    | some cells => (fillRow cf.P t cells (parts.toList.map fun x => (x.1, σ.get x.2))).map fun cs => ⟨.agg cs, [], false⟩
    | none => none := rfl
theorem oe_buildSlice (t : TypeId) (len : Nat) (parts : Array (Nat × Operand)) (e : Nat) : opE cf H fn (some e) (.buildSlice t len parts) σ = match bsT cf.P t with
    | some (s, z, lay) => if parts.size = len ∧ len * s ≤ 16777216 ∧ (len = 0 ∨ z = true) then
        match partRows σ lay s 0 (parts.toList.map fun x => (x.1, σ.get x.2)) with
        | some (rows, ks) => some ⟨.sl (site e 0) (σ.gens (site e 0) + 1) s 0 rows.length, (site e 0, some (.slice s rows), σ.gens (site e 0) + 1) :: killed σ (ks.filter (· ≠ site e 0)), false⟩
        | none => none
      else none
    | none => none := by
  simp only [opE, evalOp, bsT]
  cases elemT cf.P t with
  | none => rfl
  | some el =>
    simp only
    cases sizeT cf.P el with
    | none => rfl
    | some s =>
      simp only
      by_cases h0 : 0 < s
      · rw [if_pos h0]
        simp only
        by_cases hc : parts.size = len ∧ len * s ≤ 16777216 ∧ (len = 0 ∨ (zeroT cf.P el).isSome = true)
        · rw [if_pos ⟨hc.1, hc.2.1, h0, hc.2.2⟩, if_pos hc]; rfl
        · rw [if_neg (fun k => hc ⟨k.1, k.2.1, k.2.2.2⟩), if_neg hc]
      · rw [if_neg h0, if_neg (fun k => h0 k.2.2.1)]
theorem oe_store (t : TypeId) (x y : Operand) : opE cf H fn d (.store t x y) σ = opStore cf σ t (σ.get x) (σ.get y) := rfl
theorem oe_load (t : TypeId) (x : Operand) (e : Nat) : opE cf H fn (some e) (.load t x) σ = opLoad cf fn σ e t (σ.get x) := rfl
theorem oe_nilCheck (x : Operand) : opE cf H fn d (.nilCheck x) σ = match σ.get x with
    | .ptr o g i j => some ⟨.ptr o g i j, [], false⟩
    | .ip t cs => some ⟨.ip t cs, [], false⟩
    | .ib cs => some ⟨.ib cs, [], false⟩
    | _ => none := rfl
theorem oe_binOp (op : BinOp) (t t' : TypeId) (x y : Operand) : opE cf H fn d (.binOp op t x y t') σ = (bin cf.P op t (σ.get x) (σ.get y)).map fun v => ⟨v, [], false⟩ := rfl
theorem oe_unOp (op : UnOp) (t : TypeId) (x : Operand) : opE cf H fn d (.unOp op t x) σ = (un op (σ.get x)).map fun v => ⟨v, [], false⟩ := rfl
theorem oe_makeFunc (f : FuncId) (caps : Array Operand) : opE cf H fn d (.makeFunc (.func f) #[] caps) σ = some ⟨.fn f (vals σ caps), [], false⟩ := rfl
theorem oe_makeMap (t : TypeId) (e : Nat) : opE cf H fn (some e) (.makeMap t none) σ = some ⟨.mp (site e 0) (σ.gens (site e 0) + 1), [(site e 0, some (.map []), σ.gens (site e 0) + 1)], false⟩ := rfl
theorem oe_makeSlice (t : TypeId) (x y : Operand) (e : Nat) : opE cf H fn (some e) (.makeSlice t x y) σ = match mkT cf.P t, σ.get x, σ.get y with
    | some (s, b, z), .c (.int .i64 n), .c (.int .i64 m) =>
      if n = m ∧ 0 ≤ n ∧ room n.toNat b = true then some ⟨.sl (site e 0) (σ.gens (site e 0) + 1) s 0 n.toNat, [(site e 0, some (.slice s (List.replicate n.toNat z)), σ.gens (site e 0) + 1)], false⟩ else none
    | _, _, _ => none := by
  have key : ∀ X Y : AV, (match elemT cf.P t, X, Y with
      | some el, .c (.int .i64 n), .c (.int .i64 m) =>
        match sizeT cf.P el, bytesT cf.P el, zeroT cf.P el with
        | some s, some b, some z =>
          if n = m ∧ 0 ≤ n ∧ room n.toNat b ∧ z.length = s ∧ 0 < s ∧ z.all isC = true then
            some (newOb σ (site e 0) (.slice s (List.replicate n.toNat (nrmCells (layT cf.P 8 el) z))) fun g => .sl (site e 0) g s 0 n.toNat)
          else none
        | _, _, _ => none
      | _, _, _ => none) = match mkT cf.P t, X, Y with
      | some (s, b, z), .c (.int .i64 n), .c (.int .i64 m) =>
        if n = m ∧ 0 ≤ n ∧ room n.toNat b = true then some ⟨.sl (site e 0) (σ.gens (site e 0) + 1) s 0 n.toNat, [(site e 0, some (.slice s (List.replicate n.toNat z)), σ.gens (site e 0) + 1)], false⟩ else none
      | _, _, _ => none := by
    intro X Y
    unfold mkT
    cases elemT cf.P t with
    | none => rfl
    | some el =>
      split
      · rename_i el' n m he
        cases he
        simp only
        cases sizeT cf.P el with
        | none => rfl
        | some s =>
          cases bytesT cf.P el with
          | none => rfl
          | some b =>
            cases zeroT cf.P el with
            | none => rfl
            | some z =>
              simp only
              by_cases hz : z.length = s ∧ 0 < s ∧ z.all isC = true
              · rw [if_pos hz]
                simp only
                by_cases hc : n = m ∧ 0 ≤ n ∧ room n.toNat b = true
                · rw [if_pos ⟨hc.1, hc.2.1, hc.2.2, hz⟩, if_pos hc]; rfl
                · rw [if_neg (fun k => hc ⟨k.1, k.2.1, k.2.2.1⟩), if_neg hc]
              · rw [if_neg hz, if_neg (fun k => hz k.2.2.2)]
      · rename_i hne
        split
        · exact absurd rfl (hne _ _ _ rfl rfl)
        · rfl
  exact key _ _
theorem oe_slice (t : TypeId) (x : Operand) (lo hi : Option Operand) : opE cf H fn d (.slice t x lo hi none) σ = (opSlice cf.P t (σ.get x) (lo.map σ.get) (hi.map σ.get)).map fun v => ⟨v, [], false⟩ := rfl
theorem oe_fieldAddr (t : TypeId) (x : Operand) (f : Nat) : opE cf H fn d (.fieldAddr t x f) σ = match fieldT cf.P t f, σ.get x with
    | some (off, _, _), .ptr o g i j => some ⟨.ptr o g i (j + off), [], false⟩
    | some (off, _, _), .ip tg cells => some ⟨.ip tg (cells.drop off), [], false⟩
    | some (off, _, _), .ib cells => some ⟨.ib (cells.drop off), [], false⟩
    | _, _ => none := rfl
theorem oe_field (t : TypeId) (x : Operand) (f : Nat) : opE cf H fn d (.field t x f) σ = match fieldT cf.P t f, σ.get x with
    | some (off, s, a), .agg cells => if off + s ≤ cells.length then (pack a ((cells.drop off).take s)).map fun v => ⟨v, [], false⟩ else none
    | _, _ => none := rfl
theorem oe_indexAddr (t : TypeId) (x i : Operand) : opE cf H fn d (.indexAddr t x i) σ = match elS cf.P t, σ.get i with
    | some e, .c (.int _ i) =>
      if 0 ≤ i then
        match σ.get x with
        | .tr t e' rows => if e' = e then match rows[i.toNat]? with | some r => some ⟨.ip t r, [], false⟩ | none => none else none
        | .sl o g e' off n => if e' = e ∧ i.toNat < n then some ⟨.ptr o g (off + i.toNat) 0, [], false⟩ else none
        | _ => none
      else none
    | _, _ => none := rfl
theorem oe_index (t : TypeId) (x i : Operand) : opE cf H fn d (.index t x i) σ = match σ.get x, σ.get i with
    | .c (.string s), .c (.int _ i) =>
      if stringT cf.P t ∧ 0 ≤ i then match s[i.toNat]? with | some b => some ⟨.c (.int .u8 b.toNat), [], false⟩ | none => none else none
    | _, _ => none := rfl
theorem oe_extract (x : Operand) (i : Nat) : opE cf H fn d (.extract x i) σ = match σ.get x with
    | .tup vs => match vs[i]? with | some v => some ⟨v, [], false⟩ | none => none
    | _ => none := rfl
theorem oe_builtin (b : Builtin) (args : Array Operand) (ts : Array TypeId) (e : Nat) : opE cf H fn (some e) (.call ⟨.builtin b, args, ts⟩) σ = opBuiltin cf σ e b args[0]? ts (vals σ args) := rfl
theorem oe_call (x : Operand) (args : Array Operand) (ts : Array TypeId) (e : Nat) : opE cf H fn (some e) (.call ⟨.value x, args, ts⟩) σ = match σ.get x with
    | .fn f caps => opCall cf H σ e f (vals σ args ++ caps)
    | _ => none := rfl

/-! #### loads -/
theorem ld_ip {t : TypeId} {e : Nat} {tg : Tag} {cells : List AV} : opLoad cf fn σ e t (.ip tg cells) = match tyL cf.P t with
    | some (s, a) => if σ.tagOK tg = true ∧ s ≤ cells.length then (pack a ((cells.take s).map (retag tg))).map fun v => ⟨v, [], false⟩ else none
    | none => none := by
  unfold opLoad tyL
  split <;> simp_all
theorem ld_ib {t : TypeId} {e : Nat} {cells : List AV} : opLoad cf fn σ e t (.ib cells) = match tyL cf.P t with
    | some (s, a) => if s ≤ cells.length then (pack a (cells.take s)).map fun v => ⟨v, [], false⟩ else none
    | none => none := by
  unfold opLoad tyL
  split <;> simp_all
/-- a load off an object of one's own -/
def ldOb (cf : Cfg) (fn : FuncId) (σ : St) (e o g i j s : Nat) (a : Bool) : Option Ob → Option Delta
  | some (.box cells) => if i = 0 ∧ j + s ≤ cells.length then (pack a ((cells.drop j).take s)).map fun v => ⟨v, [], false⟩ else none
  | some (.slice e2 rows) =>
    match rows[i]? with
    | some r => if j + s ≤ r.length then
        if ((cf.tk1 fn).contains e || (cf.tk2 fn).contains e) = true then
          match splitTr ((r.drop j).take s) with
          | some (pre, e', rows', post) =>
            if o = site e 0 ∨ allPlain rows' = false then none else
            (pack a (pre ++ [.sl (site e 0) (σ.gens (site e 0) + 1) e' 0 rows'.length] ++ post)).map fun u =>
              ⟨u, [(o, some (.slice e2 (rows.set i (splice r j (pre ++ [if (cf.tk1 fn).contains e then .sl (site e 0) (σ.gens (site e 0) + 1) e' 0 rows'.length else .bad] ++ post)))), g),
                (site e 0, some (.slice e' rows'), σ.gens (site e 0) + 1)], true⟩
          | _ => none
        else (pack a (((r.drop j).take s).map (retag (.ep σ.ep)))).map fun v => ⟨v, [], false⟩
      else none
    | none => none
  | _ => none
theorem ld_ptr {t : TypeId} {e o g i j : Nat} : opLoad cf fn σ e t (.ptr o g i j) = match tyL cf.P t with
    | some (s, a) => if σ.gens o = g then ldOb cf fn σ e o g i j s a (σ.objs o) else none
    | none => none := by
  unfold opLoad tyL
  cases sizeT cf.P t with
  | none => rfl
  | some s =>
    cases aggT cf.P t with
    | none => rfl
    | some a =>
      simp only
      split
      · cases σ.objs o with
        | none => rfl
        | some ob => cases ob <;> rfl
      · rfl

/-! #### stores -/
def stOb (cf : Cfg) (σ : St) (o g i j s : Nat) (t : TypeId) (cs : List AV) : Option Ob → Option Delta
  | some (.box cells) => if i = 0 ∧ j + s ≤ cells.length ∧ cs.all storable = true then some ⟨.c undef, [(o, some (.box (splice cells j cs)), g)], false⟩ else none
  | some (.slice e rows) =>
    match rows[i]?, σ.absorb (layT cf.P 8 t) cs with
    | some r, some (xs, ks) =>
      if j + s ≤ r.length ∧ ks.contains o = false ∧ xs.length = s then some ⟨.c undef, (o, some (.slice e (rows.set i (splice r j xs))), g) :: killed σ ks, false⟩ else none
    | _, _ => none
  | _ => none
theorem st_ptr {t : TypeId} {o g i j : Nat} {v : AV} : opStore cf σ t (.ptr o g i j) v = match sizeT cf.P t with
    | some s => if σ.gens o = g ∧ (cellsOf v).length = s then stOb cf σ o g i j s t (cellsOf v) (σ.objs o) else none
    | none => none := by
  unfold opStore
  cases sizeT cf.P t with
  | none => rfl
  | some s =>
    simp only
    split
    · cases σ.objs o with
      | none => rfl
      | some ob => cases ob <;> rfl
    · rfl

/-! #### append -/
theorem ap_eq {e : Nat} {src : Option Operand} {ts : Array TypeId} {s x : AV} : opAppend cf σ e src ts s x = match apT cf.P ts with
    | some (w, bytes) => match moreOf σ w x with
      | some (new, ks) => match s with
        | .c (.slice none 0 0) => if room new.length bytes then
            some ⟨.sl (site e 0) (σ.gens (site e 0) + 1) w 0 new.length, (site e 0, some (.slice w new), σ.gens (site e 0) + 1) :: killed σ (ks.filter (· ≠ site e 0)), false⟩ else none
        | .sl o g e' 0 n => match σ.objs o with
          | some (.slice e2 rows) =>
            if σ.gens o = g ∧ e' = w ∧ e2 = w ∧ n ≤ rows.length ∧ ks.contains o = false ∧ room (n + new.length) bytes then
              if renames src o e = true then
                some ⟨.sl (site e 0) (σ.gens (site e 0) + 1) w 0 (n + new.length), (site e 0, some (.slice w (rows.take n ++ new)), σ.gens (site e 0) + 1) :: killed σ (o :: ks.filter (· ≠ site e 0)), false⟩
              else some ⟨.sl o (g + 1) w 0 (n + new.length), (o, some (.slice w (rows.take n ++ new)), g + 1) :: killed σ ks, false⟩
            else none
          | _ => none
        | _ => none
      | none => none
    | none => none := by
  unfold opAppend apT
  cases (ts[0]?).bind (elemT cf.P) with
  | none => rfl
  | some el =>
    cases ts[1]?.any (fun t => (elemT cf.P t).isSome || stringT cf.P t) with
    | false => rfl
    | true =>
      simp only
      cases sizeT cf.P el with
      | none => rfl
      | some w =>
        cases bytesT cf.P el with
        | none => rfl
        | some bytes =>
          cases zeroT cf.P el with
          | none => rfl
          | some z =>
            simp only
            by_cases hz : z.length ≠ w
            · rw [if_pos hz, if_pos hz]
            · rw [if_neg hz, if_neg hz]; rfl

end
end Go.AM
