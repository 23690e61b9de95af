/- The abstract machine, second part: operations, regions, code, functions. -/
import Derived.Test.YtoffdmkgioaohaaAmA
namespace Go.AM

/-! #### one operation -/

def vals (σ : St) (xs : Array Operand) : List AV := xs.toList.map σ.get

/-- a box of these cells at a place -/
def newOb (σ : St) (id : Nat) (ob : Ob) (v : Nat → AV) : Delta := { val := v (σ.gens id + 1), objs := [(id, some ob, σ.gens id + 1)] }

/-- the one slice among some cells -/
def splitTr : List AV → Option (List AV × Nat × List (List AV) × List AV)
  | .tr _ e rows :: post => if post.all isC then some ([], e, rows, post) else none
  | .c v :: cells => (splitTr cells).map fun (pre, x) => (.c v :: pre, x)
  | _ => none

def opLoad (cf : Cfg) (fn : FuncId) (σ : St) (d : Nat) (t : TypeId) (p : AV) : Option Delta :=
  match sizeT cf.P t, aggT cf.P t with
  | some s, some a =>
    match p with
    | .ip tg cells => if σ.tagOK tg = true ∧ s ≤ cells.length then (pack a ((cells.take s).map (retag tg))).map fun v => { val := v } else none
    | .ib cells => if s ≤ cells.length then (pack a (cells.take s)).map fun v => { val := v } else none
    | .ptr o g i j =>
      if σ.gens o = g then
        match σ.objs o with
        | some (.box cells) => if i = 0 ∧ j + s ≤ cells.length then (pack a ((cells.drop j).take s)).map fun v => { val := v } else none
        | some (.slice e rows) =>
          match rows[i]? with
          | some r =>
            if j + s ≤ r.length then
              if ((cf.tk1 fn).contains d || (cf.tk2 fn).contains d) = true then
                match splitTr ((r.drop j).take s) with
                | some (pre, e', rows', post) =>
                  if o = site d 0 ∨ allPlain rows' = false then none else
                  let v := .sl (site d 0) (σ.gens (site d 0) + 1) e' 0 rows'.length
                  (pack a (pre ++ [v] ++ post)).map fun u =>
                    { val := u,
                      objs := [(o, some (.slice e (rows.set i (splice r j (pre ++ [if (cf.tk1 fn).contains d then v else .bad] ++ post)))), g),
                        (site d 0, some (.slice e' rows'), σ.gens (site d 0) + 1)], ep := true }
                | _ => none
              else (pack a (((r.drop j).take s).map (retag (.ep σ.ep)))).map fun v => { val := v }
            else none
          | none => none
        | _ => none
      else none
    | _ => none
  | _, _ => none

def opStore (cf : Cfg) (σ : St) (t : TypeId) (p v : AV) : Option Delta :=
  match sizeT cf.P t, p with
  | some s, .ptr o g i j =>
    let cs := cellsOf v
    if σ.gens o = g ∧ cs.length = s then
      match σ.objs o with
      | some (.box cells) =>
        if i = 0 ∧ j + s ≤ cells.length ∧ cs.all storable = true then
          some { val := .c undef, objs := [(o, some (.box (splice cells j cs)), g)] }
        else none
      | some (.slice e rows) =>
        match rows[i]?, σ.absorb (layT cf.P 8 t) cs with
        | some r, some (xs, ks) =>
          if j + s ≤ r.length ∧ ks.contains o = false ∧ xs.length = s then
            some { val := .c undef, objs := (o, some (.slice e (rows.set i (splice r j xs))), g) :: killed σ ks }
          else none
        | _, _ => none
      | _ => none
    else none
  | _, _ => none

/-- what append takes from its second operand, and the objects that go with it -/
def moreOf (σ : St) (e : Nat) (x : AV) : Option (List (List AV) × List Nat) :=
  match x with
  | .c (.string b) => if e = 1 then some (byteRows b, []) else none
  | _ =>
    match σ.rows e x with
    | some rows =>
      if allC rows then some (rows, [])
      else match x with
        | .sl o _ _ 0 n => match σ.objs o with
          | some (.slice _ all) => if n = all.length ∧ allPlain rows = true then some (rows, [o]) else none
          | _ => none
        | _ => none
    | none => none

/-- is it this very region's own object? -/
def renames (src : Option Operand) (o d : Nat) : Bool := (match src with | some (.tmp t) => o == site t 0 | _ => false) && o != site d 0

def opAppend (cf : Cfg) (σ : St) (d : Nat) (src : Option Operand) (ts : Array TypeId) (s x : AV) : Option Delta :=
  match (ts[0]?).bind (elemT cf.P), ts[1]?.any (fun t => (elemT cf.P t).isSome || stringT cf.P t) with
  | some el, true =>
    match sizeT cf.P el, bytesT cf.P el, zeroT cf.P el with
    | some e, some bytes, some z =>
      if z.length ≠ e then none else
      match moreOf σ e x with
      | some (new, ks) =>
        match s with
        | .c (.slice none 0 0) =>
          if room new.length bytes then
            some { val := .sl (site d 0) (σ.gens (site d 0) + 1) e 0 new.length,
                   objs := (site d 0, some (.slice e new), σ.gens (site d 0) + 1) :: killed σ (ks.filter (· ≠ site d 0)) }
          else none
        | .sl o g e' 0 n =>
          match σ.objs o with
          | some (.slice e2 rows) =>
            if σ.gens o = g ∧ e' = e ∧ e2 = e ∧ n ≤ rows.length ∧ ks.contains o = false ∧ room (n + new.length) bytes then
              -- what this very region made is named anew; what a variable holds keeps its name
              if renames src o d = true then
                some { val := .sl (site d 0) (σ.gens (site d 0) + 1) e 0 (n + new.length),
                       objs := (site d 0, some (.slice e (rows.take n ++ new)), σ.gens (site d 0) + 1) :: killed σ (o :: ks.filter (· ≠ site d 0)) }
              else
                some { val := .sl o (g + 1) e 0 (n + new.length),
                       objs := (o, some (.slice e (rows.take n ++ new)), g + 1) :: killed σ ks }
            else none
          | _ => none
        | _ => none
      | none => none
    | _, _, _ => none
  | _, _ => none

def cutBounds (n : Nat) (lo hi : Option AV) : Option (Nat × Nat) :=
  match (match lo with | none => some (0 : Int) | some (.c (.int _ l)) => some l | _ => none), (match hi with | none => some (n : Int) | some (.c (.int _ h)) => some h | _ => none) with
  | some l, some h => if 0 ≤ l ∧ l ≤ h ∧ h ≤ n then some (l.toNat, h.toNat) else none
  | _, _ => none

def opSlice (P : Program) (t : TypeId) (x : AV) (lo hi : Option AV) : Option AV :=
  match x with
  | .c (.string s) => if stringT P t then (cutBounds s.size lo hi).map fun (l, h) => .c (.string (s.extract l h)) else none
  | .c (.slice none 0 0) => if ((elemT P t).bind (sizeT P)).isSome then (cutBounds 0 lo hi).map fun _ => .c (.slice none 0 0) else none
  | .tr tg e rows => if (elemT P t).bind (sizeT P) = some e then (cutBounds rows.length lo hi).map fun (l, h) => .tr tg e ((rows.drop l).take (h - l)) else none
  | .sl o g e off n => if (elemT P t).bind (sizeT P) = some e then (cutBounds n lo hi).map fun (l, h) => .sl o g e (off + l) (h - l) else none
  | _ => none

def mapGet (es : List (Value × Value)) (k : Int) : Option Value :=
  match es with
  | [] => none
  | (.int .i64 a, v) :: es => if k = a then some v else mapGet es k
  | _ :: _ => none
def mapKeys (es : List (Value × Value)) : Bool := es.all fun x => match x.1 with | .int .i64 _ => true | _ => false
def mapPut (es : List (Value × Value)) (k : Int) (v : Value) : List (Value × Value) :=
  match es with
  | [] => [(.int .i64 k, v)]
  | (.int .i64 a, u) :: es => if k = a then (.int .i64 a, v) :: es else (.int .i64 a, u) :: mapPut es k v
  | x :: es => x :: es

/-! #### calls -/

/-- the objects that a value hands over -/
def refs1 : AV → List Nat
  | .sl o _ _ _ _ => [o]
  | .ptr o _ _ _ => [o]
  | .agg cs => cs.flatMap fun | .sl o _ _ _ _ => [o] | .ptr o _ _ _ => [o] | _ => []
  | .tup cs => cs.flatMap fun
    | .sl o _ _ _ _ => [o] | .ptr o _ _ _ => [o]
    | .agg cs => cs.flatMap fun | .sl o _ _ _ _ => [o] | .ptr o _ _ _ => [o] | _ => []
    | _ => []
  | _ => []
def boxRefs (objs : Nat → Option Ob) (o : Nat) : List Nat :=
  match objs o with
  | some (.box cells) => cells.flatMap refs1
  | _ => []
def withBoxes (objs : Nat → Option Ob) (os : List Nat) : List Nat :=
  let all := os.flatMap fun o => o :: boxRefs objs o
  all.foldl (fun acc o => if acc.contains o then acc else acc ++ [o]) []

/-- names and ages of objects, put in another way -/
def inTag : Tag → Option Tag
  | .im => some .im
  | .b1 | .bo => some .b1
  | .ep _ => none
def outTag : Tag → Option Tag
  | .im => some .im
  | .b1 => some .bo
  | _ => none
def expTag : Tag → Option Tag
  | .im => some .im
  | .b1 => some .b1
  | _ => none
def ren (tg : Tag → Option Tag) (m : Nat → Nat → Option (Nat × Nat)) : AV → Option AV
  | .sl o g e off n => match m o g with | some (o', g') => some (.sl o' g' e off n) | none => none
  | .ptr o g i j => match m o g with | some (o', g') => some (.ptr o' g' i j) | none => none
  | .c v => some (.c v)
  | .tr t e rows => (tg t).map fun t => .tr t e rows
  | .ip t cells => (tg t).map fun t => .ip t cells
  | _ => none
def ren2 (tg : Tag → Option Tag) (m : Nat → Nat → Option (Nat × Nat)) : AV → Option AV
  | .agg cs => (cs.mapM (ren tg m)).map .agg
  | v => ren tg m v
def ren3 (tg : Tag → Option Tag) (m : Nat → Nat → Option (Nat × Nat)) : AV → Option AV
  | .tup cs => (cs.mapM (ren2 tg m)).map .tup
  | v => ren2 tg m v
def renOb (tg : Tag → Option Tag) (m : Nat → Nat → Option (Nat × Nat)) : Ob → Option Ob
  | .box cells => (cells.mapM (ren tg m)).map .box
  | .slice e rows => if allPlain rows then some (.slice e rows) else none
  | .map _ => none

/-- into the callee: the k-th object that is handed over is number k, of age 0 -/
def inMap (σ : St) (T : List Nat) (o g : Nat) : Option (Nat × Nat) :=
  if σ.gens o = g then (T.idxOf? o).map fun k => (k, 0) else none
/-- one of the nn places where the call's new objects go -/
def isNew (d nn o : Nat) : Bool := (List.range nn).any fun k => o == site d k
/-- back to the caller: what was handed over, then what is new -/
def outMap (σ : St) (d : Nat) (T : List Nat) (nn : Nat) (k g : Nat) : Option (Nat × Nat) :=
  match T[k]? with
  | some o => if isNew d nn o then none else some (o, σ.gens o + g)
  | none => if k < T.length + nn then some (site d (k - T.length), σ.gens (site d (k - T.length)) + 1 + g) else none

def backObjs (σ : St) (d : Nat) (T : List Nat) (nn : Nat) : Nat → List (Nat × Option Ob) → Option (List (Nat × Option Ob × Nat))
  | _, [] => some []
  | k, (g, ob) :: rest =>
    match ob with
    | none =>
      -- what is gone gives its place to what is new
      match T[k]?, backObjs σ d T nn (k + 1) rest with
      | some o, some rest' => if isNew d nn o then some rest' else some ((o, none, σ.gens o + g) :: rest')
      | _, _ => none
    | some ob =>
      match outMap σ d T nn k g, renOb outTag (outMap σ d T nn) ob, backObjs σ d T nn (k + 1) rest with
      | some (o, g'), some ob', some rest' => some ((o, some ob', g') :: rest')
      | _, _, _ => none

/-- an argument as the callee gets it: handed over, or shown -/
def passArg (σ : St) (T : List Nat) (σv : St) (mv : List Nat) (i : Nat) (v : AV) : Option AV :=
  if mv.contains i then ren2 inTag (inMap σ T) v else σv.view 6 v

def passArgs (σ : St) (T : List Nat) (σv : St) (mv : List Nat) : Nat → List AV → Option (List AV)
  | _, [] => some []
  | i, v :: vs =>
    match passArg σ T σv mv i v, passArgs σ T σv mv (i + 1) vs with
    | some x, some xs => some (x :: xs)
    | _, _ => none

def passObjs (σ : St) (T : List Nat) : List Nat → Option (List Ob)
  | [] => some []
  | o :: os =>
    match σ.objs o, passObjs σ T os with
    | some ob, some obs => match renOb inTag (inMap σ T) ob with
      | some ob => some (ob :: obs)
      | none => none
    | _, _ => none

def movedRefs (mv : List Nat) : Nat → List AV → List Nat
  | _, [] => []
  | i, v :: vs => (if mv.contains i then refs1 v else []) ++ movedRefs mv (i + 1) vs

def flatOb : Option Ob → Bool
  | some (.box _) => true
  | some (.slice _ rows) => allC rows
  | _ => false

def opCall (cf : Cfg) (H : Handler) (σ : St) (d : Nat) (f : FuncId) (args : List AV) : Option Delta :=
  match cf.P.funcs[f]? with
  | some F =>
    if (F.name == "runtime.NumGoroutine" || F.body.isNone) = true then none else
    match cf.mv f with
    | [] =>
      match args.mapM (σ.view 6) with
      | some as =>
        match H f (nrmArgs cf.P [] 0 F.params.toList as) [] with
        | some (v, obs) =>
          if 8 < obs.length then none else
          match ren3 outTag (outMap σ d [] obs.length) v, backObjs σ d [] obs.length 0 obs with
          | some v', some obs' => some { val := v', objs := obs' }
          | _, _ => none
        | none => none
      | none => none
    | mv =>
      let T := withBoxes σ.objs (movedRefs mv 0 args)
      let σv := { σ with objs := fun o => if T.contains o then none else σ.objs o, ep := if cf.fl f then σ.ep else σ.ep + 1 }
      if cf.fl f = true ∧ T.all (fun o => flatOb (σ.objs o)) = false then none else
      match passArgs σ T σv mv 0 args, passObjs σ T T with
      | some as, some obs =>
        match H f (nrmArgs cf.P mv 0 F.params.toList as) obs with
        | some (v, obs) =>
          let nn := obs.length - T.length
          if obs.length < T.length ∨ 8 < nn then none else
          match ren3 outTag (outMap σ d T nn) v, backObjs σ d T nn 0 obs with
          | some v', some obs' => some { val := v', objs := obs', ep := !cf.fl f }
          | _, _ => none
        | none => none
      | _, _ => none
  | none => none

def opBuiltin (cf : Cfg) (σ : St) (d : Nat) (b : Builtin) (src : Option Operand) (ts : Array TypeId) (args : List AV) : Option Delta :=
  match b, args with
  | .len, [.c (.string s)] => if (ts[0]?).any (stringT cf.P) then some { val := .c (.int .i64 s.size) } else none
  | .len, [.c (.slice none 0 0)] => if ((ts[0]?).bind (elemT cf.P)).isSome then some { val := .c (.int .i64 0) } else none
  | .len, [.tr _ _ rows] => if ((ts[0]?).bind (elemT cf.P)).isSome then some { val := .c (.int .i64 rows.length) } else none
  | .len, [.sl _ _ _ _ n] => if ((ts[0]?).bind (elemT cf.P)).isSome then some { val := .c (.int .i64 n) } else none
  | .len, [.mp o g] =>
    match σ.objs o, (ts[0]?).bind cf.P.underlying with
    | some (.map es), some (.map _ _) => if σ.gens o = g then some { val := .c (.int .i64 es.length) } else none
    | _, _ => none
  | .min, [.c (.int k a), .c (.int _ b)] => some { val := .c (.int k (if b < a then b else a)) }
  | .max, [.c (.int k a), .c (.int _ b)] => some { val := .c (.int k (if b > a then b else a)) }
  | .append, [s, x] => opAppend cf σ d src ts s x
  | _, _ => none

def fillRow (P : Program) (t : TypeId) (cells : List AV) : List (Nat × AV) → Option (List AV)
  | [] => some cells
  | (i, v) :: rest =>
    match fieldT P t i with
    | some (off, s, _) =>
      let cs := cellsOf v
      if cs.length = s ∧ off + s ≤ cells.length ∧ cs.all storable = true then fillRow P t (splice cells off cs) rest else none
    | none => none

/-- rows out of parts that come in order, each at its place -/
def partRows (σ : St) (lay : List (Option Nat)) (e : Nat) : Nat → List (Nat × AV) → Option (List (List AV) × List Nat)
  | _, [] => some ([], [])
  | i, (j, v) :: rest =>
    if i = j ∧ (cellsOf v).length = e then
      match σ.absorb lay (cellsOf v), partRows σ lay e (i + 1) rest with
      | some (xs, a), some (rows, b) => if xs.length = e ∧ a.all (fun o => !b.contains o) = true then some (xs :: rows, a ++ b) else none
      | _, _ => none
    else none

def evalOp (cf : Cfg) (H : Handler) (fn : FuncId) (o : Oper) (σ : St) : Option Delta :=
  match o.op, o.dst with
  | .move x, _ | .assign x, _ => some { val := σ.get x }
  | .pick c a b, _ =>
    match σ.get c with
    | .c (.bool t) => some { val := if t then σ.get a else σ.get b }
    | _ => none
  | .alloc t, some d =>
    match zeroT cf.P t with
    | some cells => if cells.all storable then some (newOb σ (site d 0) (.box cells) fun g => .ptr (site d 0) g 0 0) else none
    | none => none
  | .box _ x, some d =>
    let cells := cellsOf (σ.get x)
    if cells.all storable then some (newOb σ (site d 0) (.box cells) fun g => .ptr (site d 0) g 0 0) else none
  | .build t parts, _ =>
    match structT cf.P t with
    | some cells => (fillRow cf.P t cells (parts.toList.map fun (i, x) => (i, σ.get x))).map fun cs => { val := .agg cs }
    | none => none
  | .buildSlice t len parts, some d =>
    match elemT cf.P t with
    | some el =>
      match sizeT cf.P el with
      | some e =>
        if parts.size = len ∧ len * e ≤ 16777216 ∧ 0 < e ∧ (len = 0 ∨ (zeroT cf.P el).isSome = true) then
          match partRows σ (layT cf.P 8 el) e 0 (parts.toList.map fun (i, x) => (i, σ.get x)) with
          | some (rows, ks) =>
            some { val := .sl (site d 0) (σ.gens (site d 0) + 1) e 0 rows.length,
                   objs := (site d 0, some (.slice e rows), σ.gens (site d 0) + 1) :: killed σ (ks.filter (· ≠ site d 0)) }
          | none => none
        else none
      | none => none
    | none => none
  | .load t x, some d => opLoad cf fn σ d t (σ.get x)
  | .store t x y, _ => opStore cf σ t (σ.get x) (σ.get y)
  | .nilCheck x, _ =>
    match σ.get x with
    | .ptr o g i j => some { val := .ptr o g i j }
    | .ip t cs => some { val := .ip t cs }
    | .ib cs => some { val := .ib cs }
    | _ => none
  | .binOp op t x y _, _ => (bin cf.P op t (σ.get x) (σ.get y)).map fun v => { val := v }
  | .unOp op _ x, _ => (un op (σ.get x)).map fun v => { val := v }
  | .convert src dst x, d =>
    match σ.get x, d with
    | .c (.int _ n), _ => match intT cf.P dst, cf.P.underlying src with
      | some k, some _ => some { val := .c (.int k (k.wrap n)) }
      | _, _ => none
    | .c (.string s), d =>
      if stringT cf.P dst ∧ (cf.P.underlying src).isSome then some { val := .c (.string s) }
      else match elemT cf.P dst, d with
        | some el, some d =>
          if intT cf.P el = some .u8 ∧ (cf.P.underlying src).isSome then
            some (newOb σ (site d 0) (.slice 1 (byteRows s)) fun g => .sl (site d 0) g 1 0 s.size)
          else none
        | _, _ => none
    | v, _ =>
      match elemT cf.P src with
      | some el =>
        if intT cf.P el = some .u8 ∧ stringT cf.P dst then
          match σ.rows 1 v with
          | some rows => (bytesOfRows rows).map fun bs => { val := .c (.string ⟨bs.toArray⟩) }
          | none => none
        else none
      | none => none
  | .makeFunc (.func f) first caps, _ => if first.size = 0 then some { val := .fn f (vals σ caps) } else none
  | .makeMap _ none, some d => some (newOb σ (site d 0) (.map []) fun g => .mp (site d 0) g)
  | .makeSlice t x y, some d =>
    match elemT cf.P t, σ.get x, σ.get y with
    | some el, .c (.int .i64 n), .c (.int .i64 m) =>
      match sizeT cf.P el, bytesT cf.P el, zeroT cf.P el with
      | some e, some bytes, some z =>
        if n = m ∧ 0 ≤ n ∧ room n.toNat bytes ∧ z.length = e ∧ 0 < e ∧ z.all isC = true then
          some (newOb σ (site d 0) (.slice e (List.replicate n.toNat (nrmCells (layT cf.P 8 el) z))) fun g => .sl (site d 0) g e 0 n.toNat)
        else none
      | _, _, _ => none
    | _, _, _ => none
  | .slice t x lo hi none, _ => (opSlice cf.P t (σ.get x) (lo.map σ.get) (hi.map σ.get)).map fun v => { val := v }
  | .fieldAddr t x f, _ =>
    match fieldT cf.P t f, σ.get x with
    | some (off, _, _), .ptr o g i j => some { val := .ptr o g i (j + off) }
    | some (off, _, _), .ip tg cells => some { val := .ip tg (cells.drop off) }
    | some (off, _, _), .ib cells => some { val := .ib (cells.drop off) }
    | _, _ => none
  | .field t x f, _ =>
    match fieldT cf.P t f, σ.get x with
    | some (off, s, a), .agg cells => if off + s ≤ cells.length then (pack a ((cells.drop off).take s)).map fun v => { val := v } else none
    | _, _ => none
  | .indexAddr t x i, _ =>
    match (elemT cf.P t).bind (sizeT cf.P), σ.get i with
    | some e, .c (.int _ i) =>
      if 0 ≤ i then
        match σ.get x with
        | .tr tg e' rows => if e' = e then match rows[i.toNat]? with | some r => some { val := .ip tg r } | none => none else none
        | .sl o g e' off n => if e' = e ∧ i.toNat < n then some { val := .ptr o g (off + i.toNat) 0 } else none
        | _ => none
      else none
    | _, _ => none
  | .index t x i, _ =>
    match σ.get x, σ.get i with
    | .c (.string s), .c (.int _ i) =>
      if stringT cf.P t ∧ 0 ≤ i then match s[i.toNat]? with | some b => some { val := .c (.int .u8 b.toNat) } | none => none else none
    | _, _ => none
  | .lookup t x k ok, _ =>
    match cf.P.underlying t, σ.get x, σ.get k with
    | some (.map kt el), .mp o g, .c (.int .i64 k) =>
      match σ.objs o, zero1 cf.P el, intT cf.P kt with
      | some (.map es), some z, some .i64 =>
        if σ.gens o = g ∧ mapKeys es = true then
          let v := (mapGet es k).getD z
          some { val := if ok then .tup [.c v, .c (.bool (mapGet es k).isSome)] else .c v }
        else none
      | _, _, _ => none
    | _, _, _ => none
  | .mapUpdate t x k y, _ =>
    match cf.P.underlying t, σ.get x, σ.get k, σ.get y with
    | some (.map kt _), .mp o g, .c (.int .i64 k), .c v =>
      match σ.objs o, intT cf.P kt with
      | some (.map es), some .i64 =>
        if σ.gens o = g ∧ mapKeys es = true then some { val := .c undef, objs := [(o, some (.map (mapPut es k v)), g)] } else none
      | _, _ => none
    | _, _, _, _ => none
  | .extract x i, _ =>
    match σ.get x with
    | .tup vs => match vs[i]? with | some v => some { val := v } | none => none
    | _ => none
  | .call c, some d =>
    match c.callee with
    | .builtin b => opBuiltin cf σ d b c.args[0]? c.argTypes (vals σ c.args)
    | .value x =>
      match σ.get x with
      | .fn f caps => opCall cf H σ d f (vals σ c.args ++ caps)
      | _ => none
    | _ => none
  | _, _ => none

/-! #### regions -/

def guardOf (ops : Array Oper) (o : Oper) (σ : St) : Option Bool :=
  match o.guard with
  | none => some true
  | some (j, want) =>
    match (ops[j]?).bind (·.dst) with
    | some d => match σ.slots d with
      | .c (.bool b) => some (b == want)
      | .c _ => some false
      | _ => none
    | none => some false

def evalOps (cf : Cfg) (H : Handler) (fn : FuncId) (ops : Array Oper) : List Oper → St → Option St
  | [], σ => some σ
  | o :: os, σ =>
    match guardOf ops o σ with
    | some true => match evalOp cf H fn o σ with
      | some δ => evalOps cf H fn ops os (σ.apply o.dst δ)
      | none => none
    | some false => evalOps cf H fn ops os (σ.put o.dst (.c undef))
    | none => none

inductive Key where
  | s (i : Nat)
  | o (i : Nat)
  | e
  deriving DecidableEq

def heapKeys (σ : St) : Nat → AV → List Key
  | 0, _ => []
  | k + 1, v =>
    match v with
    | .sl o _ _ _ _ | .ptr o _ _ _ => .o o :: (match σ.objs o with | some (.box cells) => cells.flatMap (heapKeys σ k) | _ => [])
    | .mp o _ => [.o o]
    | .tr (.ep _) _ _ => [.e]
    | .ip (.ep _) _ => [.e]
    | .agg cs | .tup cs | .fn _ cs | .ib cs => cs.flatMap (heapKeys σ k)
    | _ => []

def slotKeys : Operand → List Key
  | .tmp t => [.s t]
  | _ => []

def guardKeys (ops : Array Oper) (o : Oper) : List Key :=
  match o.guard with
  | none => []
  | some (j, _) => match (ops[j]?).bind (·.dst) with | some d => [.s d] | none => []

/-- whether a load makes a view -/
def loadKeys (o : Oper) (σ : St) : List Key :=
  match o.op with
  | .load _ x => match σ.get x with
    | .ptr o _ i _ => match σ.objs o with
      | some (.slice _ rows) => match rows[i]? with
        | some r => if r.all isC then [] else [.e]
        | none => []
      | _ => []
    | _ => []
  | _ => []

/-- whether an operation makes objects at its place -/
def makes : Op → Bool
  | .alloc _ | .box .. | .buildSlice .. | .load .. | .convert .. | .makeMap .. | .makeSlice .. | .call _ => true
  | _ => false

/-- the objects that a value names by itself -/
def nearKeys : AV → List Key
  | .sl o _ _ _ _ => [.o o]
  | .ptr o _ _ _ => [.o o]
  | .mp o _ => [.o o]
  | .tr (.ep _) _ _ => [.e]
  | .ip (.ep _) _ => [.e]
  | .agg cs => cs.flatMap fun
    | .sl o _ _ _ _ => [.o o]
    | .tr (.ep _) _ _ => [.e]
    | _ => []
  | _ => []

/-- what an operation reads of the heap -/
def opKeys (o : Op) (σ : St) : List Key :=
  match o with
  | .load .. | .store .. | .buildSlice .. | .convert .. | .lookup .. | .mapUpdate .. | .call { callee := .builtin _, .. } =>
    o.operands.toList.flatMap fun x => nearKeys (σ.get x)
  | .call _ => o.operands.toList.flatMap fun x => heapKeys σ 9 (σ.get x)
  | _ => []

def readKeys (ops : Array Oper) (o : Oper) (σ : St) : List Key :=
  guardKeys ops o ++ o.op.operands.toList.flatMap slotKeys ++ opKeys o.op σ ++ loadKeys o σ ++
    (match o.dst with | some d => if makes o.op then (List.range 8).map fun k => .o (site d k) else [] | none => [])

def writeKeys (o : Oper) (δ : Delta) : List Key :=
  (match o.dst with | some d => [.s d] | none => []) ++ δ.objs.map (fun x => .o x.1) ++ if δ.ep then [.e] else []

/-- in the order of the text, with what each operation reads and writes -/
def traceOps (cf : Cfg) (H : Handler) (fn : FuncId) (ops : Array Oper) : List Oper → St → Option (St × List (List Key × List Key))
  | [], σ => some (σ, [])
  | o :: os, σ =>
    match guardOf ops o σ with
    | some true => match evalOp cf H fn o σ with
      | some δ => match traceOps cf H fn ops os (σ.apply o.dst δ) with
        | some (σ', tr) => some (σ', (readKeys ops o σ, writeKeys o δ) :: tr)
        | none => none
      | none => none
    | some false => match traceOps cf H fn ops os (σ.put o.dst (.c undef)) with
      | some (σ', tr) => some (σ', (guardKeys ops o, match o.dst with | some d => [.s d] | none => []) :: tr)
      | none => none
    | none => none

def apart (a b : List Key × List Key) : Bool :=
  a.2.all (fun k => !b.1.contains k && !b.2.contains k) && b.2.all fun k => !a.1.contains k

/-- whatever stands in no order is apart -/
def freeOrder (ops : Array Oper) (tr : List (List Key × List Key)) : Bool :=
  let bef := Region.before ops
  (ops.toList.zipIdx.all fun x => x.1.after.all fun e => e.on < x.2) &&
  (List.range ops.size).all fun j => (List.range j).all fun i =>
    (bef.getD j 0).testBit i || match tr[i]?, tr[j]? with | some a, some b => apart a b | _, _ => false

/-- what a load took for the length of a region goes back -/
def putBack1 (ds : List Nat) (σ : St) (o : Oper) : St :=
  match o.op, o.dst with
  | .load _ (.tmp p), some d =>
    if ds.contains d then
      match σ.slots p, σ.objs (site d 0) with
      | .ptr ob g i j, some (.slice e' rows') =>
        match σ.objs ob with
        | some (.slice e rows) =>
          match rows[i]? with
          | some r =>
            match r[j]? with
            | some (.sl o2 g2 e2 off n) =>
              if o2 = site d 0 ∧ g2 = σ.gens o2 ∧ σ.gens ob = g ∧ e2 = e' ∧ off = 0 ∧ n = rows'.length ∧ ob ≠ o2 then
                (σ.setObj (ob, some (.slice e (rows.set i (r.set j (.tr .im e' rows')))), g)).setObj (o2, none, g2)
              else σ
            | _ => σ
          | none => σ
        | _ => σ
      | _, _ => σ
    else σ
  | _, _ => σ
def putBack (cf : Cfg) (fn : FuncId) (ops : Array Oper) (σ : St) : St :=
  match cf.tk1 fn with
  | [] => σ
  | ds => ops.toList.foldl (putBack1 ds) σ

def evalRegion (cf : Cfg) (H : Handler) (fn : FuncId) (ops : Array Oper) (draw : Bool) (σ : St) : Option St :=
  if draw then
    match traceOps cf H fn ops ops.toList σ with
    | some (σ', tr) => if freeOrder ops tr then some (putBack cf fn ops σ') else none
    | none => none
  else (evalOps cf H fn ops ops.toList σ).map (putBack cf fn ops)

/-! #### code -/

inductive Ex where
  | normal
  | exit (id : Nat)
  | ret
  deriving DecidableEq

def runC (cf : Cfg) (H : Handler) (fn : FuncId) : Nat → Code → St → Option (Ex × St)
  | 0, _, _ => none
  | k + 1, c, σ =>
    match c with
    | .skip => some (.normal, σ)
    | .region _ ops draw => (evalRegion cf H fn ops draw σ).map fun σ' => (.normal, σ')
    | .seq a b =>
      match runC cf H fn k a σ with
      | some (.normal, σ') => runC cf H fn k b σ'
      | r => r
    | .cond c a b =>
      match σ.get c with
      | .c (.bool t) => runC cf H fn k (if t then a else b) σ
      | _ => none
    | .block id b =>
      match runC cf H fn k b σ with
      | some (.exit i, σ') => if i = id then some (.normal, σ') else some (.exit i, σ')
      | r => r
    | .loop b =>
      match runC cf H fn k b σ with
      | some (.normal, σ') => runC cf H fn k (.loop b) σ'
      | r => r
    | .exit id => some (.exit id, σ)
    | .ret => some (.ret, σ)
    | _ => none

/-! #### functions -/

def initSt (args : List AV) (T : List Ob) : St :=
  { slots := fun i => (args[i]?).getD (.c undef), objs := fun o => T[o]?, gens := fun _ => 0, ep := 0 }

def resultOf (cf : Cfg) (σ : St) : ResultVar → Option AV
  | .tmp t => some (σ.slots t)
  | .cell a t =>
    match σ.slots a, sizeT cf.P t, aggT cf.P t with
    | .ptr o g i j, some s, some ag =>
      match σ.objs o with
      | some (.box cells) => if σ.gens o = g ∧ i = 0 ∧ j + s ≤ cells.length then pack ag ((cells.drop j).take s) else none
      | _ => none
    | _, _, _ => none

def resultsOf (cf : Cfg) (rs : Array ResultVar) (σ : St) : Option AV :=
  match rs.toList.mapM (resultOf cf σ) with
  | some [v] => some v
  | some vs => some (.tup vs)
  | none => none

/-- the numbers of what goes out: what was handed over keeps its own -/
def expMap (n : Nat) (σ : St) (ex : List Nat) (o g : Nat) : Option (Nat × Nat) :=
  if o < n then some (o, g) else if σ.gens o = g then (ex.idxOf? o).map fun k => (n + k, 0) else none

def expObjs (n : Nat) (σ : St) (ex : List Nat) : List Nat → Option (List (Nat × Option Ob))
  | [] => some []
  | o :: os =>
    match (match (σ.objs o).bind (renOb expTag (expMap n σ ex)) with | some ob => some (some ob) | none => if o < n then some none else none), expObjs n σ ex os with
    | some ob, some rest => some ((if o < n then σ.gens o else 0, ob) :: rest)
    | _, _ => none

def finish (cf : Cfg) (n : Nat) (rs : Array ResultVar) (σ : St) : Option Out :=
  match resultsOf cf rs σ with
  | some v =>
    let ex := (withBoxes σ.objs (refs1 v ++ (List.range n).flatMap (boxRefs σ.objs))).filter (n ≤ ·)
    match ren3 expTag (expMap n σ ex) v, expObjs n σ ex (List.range n ++ ex) with
    | some v', some obs => some (v', obs)
    | _, _ => none
  | none => none

/-- every place that is written is one of the function's own -/
def codeOK (n : Nat) : Code → Bool
  | .region _ ops _ => ops.all fun o => o.dst.all (· < n)
  | .seq a b => codeOK n a && codeOK n b
  | .cond _ a b => codeOK n a && codeOK n b
  | .block _ a => codeOK n a
  | .loop a => codeOK n a
  | _ => true

def funcOK (F : Func) : Bool := (F.name != "runtime.NumGoroutine") && F.body.any (codeOK F.ntmps)

def runF (cf : Cfg) (E : FuncId → Option (List AV → List Ob → Option Out)) : Nat → Handler
  | 0, _, _, _ => none
  | k + 1, f, args, T =>
    match E f with
    | some g => g args T
    | none =>
      match cf.P.funcs[f]? with
      | some F =>
        match F.body with
        | some c =>
          if funcOK F = true ∧ args.length ≤ F.ntmps ∧ T.length ≤ 16 then
            match runC cf (runF cf E k) f k c (initSt args T) with
            | some (.normal, σ) | some (.ret, σ) => finish cf T.length F.results σ
            | _ => none
          else none
        | none => none
      | none => none

end Go.AM
