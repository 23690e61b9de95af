/- The abstract machine: a deterministic evaluator of the program's code. Slices are lists of rows, memory that a call makes lies in objects that are named by the place that makes them. -/
import Derived.Calls
namespace Go.AM

/-- Of what is read in memory that the call does not own: 'im': nor does any caller; 'b1': nor does its caller; 'bo': it stays as it is while the call goes on; 'ep n': as long as the state's age is n. -/
inductive Tag where
  | im
  | b1
  | bo
  | ep (n : Nat)
  deriving DecidableEq

/-- A value as the abstract machine has it. -/
inductive AV where
  | c (v : Value)
  | tr (t : Tag) (e : Nat) (rows : List (List AV))
  | sl (o g e off n : Nat)
  | ptr (o g i j : Nat)
  | ip (t : Tag) (cells : List AV)
  | ib (cells : List AV)
  | fn (f : FuncId) (caps : List AV)
  | agg (cells : List AV)
  | tup (vs : List AV)
  | mp (o g : Nat)
  | bad
  deriving Inhabited

inductive Ob where
  | box (cells : List AV)
  | slice (e : Nat) (rows : List (List AV))
  | map (es : List (Value × Value))

structure St where
  slots : Nat → AV
  objs : Nat → Option Ob
  gens : Nat → Nat
  ep : Nat

/-- What a function answers: its value, and the objects: first those that were handed over, then new ones. -/
abbrev Out := AV × List (Nat × Option Ob)
abbrev Handler := FuncId → List AV → List Ob → Option Out

structure Cfg where
  P : Program
  /-- the parameters that a function is handed over -/
  mv : FuncId → List Nat
  /-- the loads (by the place that they write) that take an owned slice out of a slice: for the length of a region; for good -/
  tk1 : FuncId → List Nat
  tk2 : FuncId → List Nat
  /-- the objects that are handed over bear no slices -/
  fl : FuncId → Bool

structure Delta where
  val : AV
  objs : List (Nat × Option Ob × Nat) := []
  ep : Bool := false

def St.put (σ : St) (d : Option Tmp) (v : AV) : St :=
  match d with
  | none => σ
  | some d => { σ with slots := fun i => if i = d then v else σ.slots i }

def St.setObj (σ : St) (x : Nat × Option Ob × Nat) : St :=
  { σ with objs := fun i => if i = x.1 then x.2.1 else σ.objs i, gens := fun i => if i = x.1 then x.2.2 else σ.gens i }

def St.apply (σ : St) (d : Option Tmp) (δ : Delta) : St :=
  let σ' := (δ.objs.foldl St.setObj σ).put d δ.val
  if δ.ep then { σ' with ep := σ'.ep + 1 } else σ'

def isAggV : Value → Bool
  | .agg _ => true
  | _ => false
def ofVal : Value → AV
  | .agg cs => if cs.toList.any isAggV then .bad else .agg (cs.toList.map .c)
  | .func (.func f) first caps => if first.size = 0 ∧ caps.size = 0 then .fn f [] else .bad
  | v => .c v

def St.get (σ : St) : Operand → AV
  | .tmp t => σ.slots t
  | .const v => ofVal v
  | .func f => .fn f []
  | .global _ => .bad

def site (d k : Nat) : Nat := 8 * d + 16 + k

/-! #### types -/

def cellV : Value → Bool
  | .agg _ | .tuple _ => false
  | _ => true


def sizeT (P : Program) (t : TypeId) : Option Nat := (P.info? t).map (·.size)
def bytesT (P : Program) (t : TypeId) : Option Nat := (P.info? t).map (·.bytes)
def zeroT (P : Program) (t : TypeId) : Option (List AV) :=
  match (P.info? t).bind (·.zero) with
  | some z => if z.cells.toList.all cellV then some (z.cells.toList.map .c) else none
  | none => none
/-- the zero value of a type of one cell -/
def zero1 (P : Program) (t : TypeId) : Option Value :=
  match (P.info? t).bind (·.zero) with
  | some z => if isAggV z then none else some z
  | none => none
/-- the zero cells of a struct whose fields' sizes are all known -/
def structT (P : Program) (t : TypeId) : Option (List AV) :=
  match P.underlying t with
  | some (.struct fs) => match fs.toList.mapM fun f => (P.info? f.type).map fun i => (f.offset, i.size) with
    | some _ => zeroT P t
    | none => none
  | _ => none
def aggT (P : Program) (t : TypeId) : Option Bool :=
  match P.underlying t with
  | some (.struct _) | some (.array _ _) => some true
  | some _ => some false
  | none => none
/-- the element's type of a slice type -/
def elemT (P : Program) (t : TypeId) : Option TypeId :=
  match P.underlying t with
  | some (.slice e) => some e
  | _ => none
/-- of each cell of a type: the element's size, if it holds a slice -/
def layT (P : Program) : Nat → TypeId → List (Option Nat)
  | 0, _ => []
  | k + 1, t =>
    match P.underlying t with
    | some (.slice e) => [sizeT P e]
    | some (.struct fs) => fs.toList.flatMap fun f => layT P k f.type
    | _ => List.replicate ((sizeT P t).getD 0) none
def fieldT (P : Program) (t : TypeId) (f : Nat) : Option (Nat × Nat × Bool) :=
  match P.underlying t with
  | some (.struct fs) =>
    match fs[f]? with
    | some x => match sizeT P x.type, aggT P x.type with
      | some s, some a => if s = 0 then none else some (x.offset, s, a)
      | _, _ => none
    | none => none
  | _ => none
def intT (P : Program) (t : TypeId) : Option IntKind :=
  match P.underlying t with
  | some (.int k) => some k
  | _ => none
def stringT (P : Program) (t : TypeId) : Bool :=
  match P.underlying t with
  | some .string => true
  | _ => false

/-! #### reading -/

def St.tagOK (σ : St) : Tag → Bool
  | .ep n => n == σ.ep
  | _ => true

def isC : AV → Bool
  | .c v => cellV v
  | _ => false
/-- a cell's value that bears no name -/
def plain : AV → Bool
  | .c v => cellV v
  | .tr .. => true
  | _ => false
def allC (rows : List (List AV)) : Bool := rows.all fun r => r.all isC
def allPlain (rows : List (List AV)) : Bool := rows.all fun r => r.all plain

/-- a value as one cell bears it -/
def storable : AV → Bool
  | .c v => cellV v
  | .agg _ | .tup _ | .bad => false
  | _ => true

/-- the rows of a slice whose elements have e cells -/
def St.rows (σ : St) (e : Nat) : AV → Option (List (List AV))
  | .tr t e' rows => if σ.tagOK t = true ∧ e' = e then some rows else none
  | .sl o g e' off n =>
    match σ.objs o with
    | some (.slice _ rows) => if σ.gens o = g ∧ e' = e then some ((rows.drop off).take n) else none
    | _ => none
  | .c (.slice none 0 0) => some []
  | _ => none

def retag (t : Tag) : AV → AV
  | .tr _ e rows => .tr t e rows
  | .c v => .c v
  | _ => .bad

def cellsOf : AV → List AV
  | .agg cs => cs
  | v => [v]

/-- some cells as a value of a type -/
def pack (a : Bool) (cells : List AV) : Option AV :=
  if a then some (.agg cells) else match cells with | [x] => some x | _ => none

def St.view (σ : St) : Nat → AV → Option AV
  | 0, _ => none
  | k + 1, v =>
    match v with
    | .c v => some (.c v)
    | .tr .im e rows => some (.tr .im e rows)
    | .tr .b1 e rows => some (.tr .b1 e rows)
    | .tr .bo e rows => some (.tr .b1 e rows)
    | .tr (.ep n) e rows => if n = σ.ep then some (.tr .bo e rows) else none
    | .sl o g e off n => (σ.rows e (.sl o g e off n)).map (.tr .bo e)
    | .ptr o g i j =>
      if σ.gens o = g then
        match σ.objs o with
        | some (.box cells) => if i = 0 ∧ j ≤ cells.length then ((cells.drop j).mapM (σ.view k)).map .ib else none
        | some (.slice _ rows) => match rows[i]? with
          | some r => some (.ip .bo (r.drop j))
          | none => none
        | _ => none
      else none
    | .ip .im cells => some (.ip .im cells)
    | .ip .b1 cells => some (.ip .b1 cells)
    | .ip .bo cells => some (.ip .b1 cells)
    | .ip (.ep n) cells => if n = σ.ep then some (.ip .bo cells) else none
    | .ib cells => (cells.mapM (σ.view k)).map .ib
    | .fn f caps => (caps.mapM (σ.view k)).map (.fn f)
    | .agg cells => (cells.mapM (σ.view k)).map .agg
    | .bad => some .bad
    | _ => none

/-- nil slices are read as slices without elements -/
def nrmCell : Option Nat → AV → AV
  | some e, .c (.slice none 0 0) => .tr .im e []
  | _, v => v
def nrmCells : List (Option Nat) → List AV → List AV
  | l :: ls, v :: vs => nrmCell l v :: nrmCells ls vs
  | _, vs => vs
def nrm (P : Program) (t : TypeId) : AV → AV
  | .c v => match layT P 8 t with
    | [l] => nrmCell l (.c v)
    | _ => .c v
  | .agg cells => .agg (nrmCells (layT P 8 t) cells)
  | .ib cells => match P.underlying t with
    | some (.pointer e) => .ib (nrmCells (layT P 8 e) cells)
    | _ => .ib cells
  | v => v
def nrmArgs (P : Program) (mv : List Nat) : Nat → List TypeId → List AV → List AV
  | i, t :: ts, v :: vs => (if mv.contains i then v else nrm P t v) :: nrmArgs P mv (i + 1) ts vs
  | _, _, vs => vs

/-! #### what is written into the cells of a slice -/

/-- one cell: the value that stands there, and the object that goes into it -/
def St.absorb1 (σ : St) : Option Nat → AV → Option (AV × List Nat)
  | some e, .c (.slice none 0 0) => some (.tr .im e [], [])
  | _, .c v => if cellV v then some (.c v, []) else none
  | _, .sl o g e off n =>
    match σ.objs o with
    | some (.slice e' rows) => if σ.gens o = g ∧ off = 0 ∧ e' = e then some (.tr .im e (rows.take n), [o]) else none
    | _ => none
  | _, _ => none
def St.absorb (σ : St) : List (Option Nat) → List AV → Option (List AV × List Nat)
  | l :: ls, v :: vs =>
    match σ.absorb1 l v, σ.absorb ls vs with
    | some (x, a), some (xs, b) => if a.all (fun o => !b.contains o) then some (x :: xs, a ++ b) else none
    | _, _ => none
  | _, [] => some ([], [])
  | [], _ :: _ => none
def killed (σ : St) (os : List Nat) : List (Nat × Option Ob × Nat) := os.map fun o => (o, none, σ.gens o)

def splice (cells : List AV) (j : Nat) (vs : List AV) : List AV := cells.take j ++ vs ++ cells.drop (j + vs.length)

/-! #### operators -/

def binInt (op : BinOp) (k : IntKind) (a b : Int) : Option Value :=
  match op with
  | .add => some (.int k (k.wrap (a + b)))
  | .sub => some (.int k (k.wrap (a - b)))
  | .mul => some (.int k (k.wrap (a * b)))
  | .quo => if b = 0 then none else some (.int k (k.wrap (a.tdiv b)))
  | .rem => if b = 0 then none else some (.int k (a.tmod b))
  | .and => some (.int k (k.wrap (BitVec.ofInt k.bits a &&& BitVec.ofInt k.bits b).toNat))
  | .or => some (.int k (k.wrap (BitVec.ofInt k.bits a ||| BitVec.ofInt k.bits b).toNat))
  | .xor => some (.int k (k.wrap (BitVec.ofInt k.bits a ^^^ BitVec.ofInt k.bits b).toNat))
  | .eql => some (.bool (a == b))
  | .neq => some (.bool (a != b))
  | .lss => some (.bool (decide (a < b)))
  | .leq => some (.bool (decide (a ≤ b)))
  | .gtr => some (.bool (decide (a > b)))
  | .geq => some (.bool (decide (a ≥ b)))
  | _ => none

def binVal (op : BinOp) (x y : Value) : Option Value :=
  match x, y with
  | .int k a, .int k' b =>
    match op with
    | .shl => if b < 0 then none else some (.int k (k.wrap (a * 2 ^ min b.toNat k.bits)))
    | .shr => if b < 0 then none else some (.int k (a.fdiv (2 ^ min b.toNat k.bits)))
    | _ => if k = k' then binInt op k a b else none
  | .string a, .string b =>
    match op with
    | .add => if ((a.size + b.size : Nat) : Int) > 9223372036854775807 then none else some (.string (a ++ b))
    | .eql => some (.bool (a.toList == b.toList))
    | .neq => some (.bool (!(a.toList == b.toList)))
    | _ => none
  | _, _ => none

/-- the operators on two values of type t -/
def bin (P : Program) (op : BinOp) (t : TypeId) (x y : AV) : Option AV :=
  match x, y with
  | .c (.bool a), .c (.bool b) =>
    match op, P.underlying t with
    | .eql, some .bool => some (.c (.bool (a == b)))
    | .neq, some .bool => some (.c (.bool (!(a == b))))
    | _, _ => none
  | .c (.pointer none), .c (.pointer none) =>
    match op, P.underlying t with
    | .eql, some (.pointer _) => some (.c (.bool true))
    | .neq, some (.pointer _) => some (.c (.bool false))
    | _, _ => none
  | .c a, .c b => (binVal op a b).map .c
  | .ptr .., .c (.pointer none) | .ip .., .c (.pointer none) | .ib .., .c (.pointer none) =>
    match op, P.underlying t with
    | .eql, some (.pointer _) => some (.c (.bool false))
    | .neq, some (.pointer _) => some (.c (.bool true))
    | _, _ => none
  | .tr _ _ rows, .c (.slice none 0 0) =>
    match op, P.underlying t with
    | .eql, some (.slice _) => if rows.isEmpty then none else some (.c (.bool false))
    | .neq, some (.slice _) => if rows.isEmpty then none else some (.c (.bool true))
    | _, _ => none
  | _, _ => none

def un (op : UnOp) (x : AV) : Option AV :=
  match op, x with
  | .not, .c (.bool b) => some (.c (.bool (!b)))
  | .neg, .c (.int k n) => some (.c (.int k (k.wrap (0 - n))))
  | _, _ => none

def byteRows (s : ByteArray) : List (List AV) := s.data.toList.map fun b => [.c (.int .u8 b.toNat)]
def bytesOfRows : List (List AV) → Option (List UInt8)
  | [] => some []
  | [.c (.int .u8 n)] :: rows => (bytesOfRows rows).map (UInt8.ofNat n.toNat :: ·)
  | _ :: _ => none

/-- no row of so many bytes is too long -/
def room (n bytes : Nat) : Bool := n * bytes ≤ 1099511627776 && bytes ≤ 65536 && 0 < bytes

end Go.AM
