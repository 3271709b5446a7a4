/- A plain evaluator of the program's code over numbers, bytes and lists: what a call is to answer, with no memory in sight. That it answers as the program does is shown in the texts behind it. No condition. -/
import Derived.Calls
import Derived.Orders
set_option linter.unusedVariables false
namespace Go.Flat

/-- The kinds of plain data. -/
inductive Ty where
  | bool | int (k : IntKind) | str | list (t : Ty) | unit | pair (a b : Ty) | dlist (t : Ty)
  deriving DecidableEq

@[reducible] def Ty.den : Ty → Type
  | .bool => Bool
  | .int _ => Int
  | .str => ByteArray
  | .list t => List t.den
  | .unit => Unit
  | .pair a b => a.den × b.den
  | .dlist t => List t.den

/-- Rows that are handed on to lie in memory for good. -/
def Ty.kept : Ty → Bool
  | .list (.int .u8) => true
  | _ => false
/-- Are the rows in a lent box its own. -/
def Ty.ob : Ty → Bool
  | .pair (.list (.int .u8)) _ => false
  | _ => true

def Ty.dflt : (t : Ty) → t.den
  | .bool => false
  | .int _ => 0
  | .str => ByteArray.empty
  | .list _ => []
  | .unit => ()
  | .pair a b => (a.dflt, b.dflt)
  | .dlist _ => []

/-- The rows of a value that is lent. -/
def Ty.rows : Ty → Ty
  | .list t => .list t
  | .pair a b => .pair a.rows b.rows
  | .dlist t => .dlist t
  | .bool | .int _ | .str | .unit => .unit

/-- How many cells of memory a value of the kind takes. -/
def Ty.sz : Ty → Nat
  | .unit => 0
  | .pair a b => a.sz + b.sz
  | _ => 1

def Ty.isAgg : Ty → Bool
  | .unit | .pair _ _ => true
  | _ => false

/-- What a closure holds: a box of the frame, or a look at what a box held. -/
inductive Cap where
  | ptr (id : Nat)
  | ro (t : Ty) (x : t.den)

inductive Cell where
  | undef
  | void
  | bool (b : Bool)
  | prop (p : Prop) (d : Decidable p)
  | int (k : IntKind) (n : Int)
  | str (s : ByteArray)
  | nil
  | list (fr : Bool) (t : Ty) (l : List t.den)
  | ref (id : Nat)
  | sub (id off len : Nat)
  | ptr (id off : Nat)
  | eptr (id i off : Nat)
  | rptr (fr : Bool) (t : Ty) (x : t.den) (off : Nat)
  | clo (f : FuncId) (caps : List Cap)
  | dref (id : Nat)
  | dptr (id i off : Nat)
  | inn (id i off : Nat)

inductive Comp where
  | cell (c : Cell)
  | agg (cs : List Cell)

inductive Slot where
  | one (c : Comp)
  | tup (cs : List Comp)

@[reducible] def Cell.is (p : Prop) [d : Decidable p] : Cell := .prop p d
@[reducible] def Slot.cell (c : Cell) : Slot := .one (.cell c)
@[reducible] def Slot.undef : Slot := .one (.cell .undef)

def Comp.cells : Comp → List Cell
  | .cell c => [c]
  | .agg cs => cs

/-- May it be written, may it be appended to. -/
inductive Own where
  | open | pinned (n : Nat) | frozen
  deriving DecidableEq

inductive Entry where
  | box (t : Option Ty) (cs : List Cell)
  | arr (t : Ty) (l : List t.den) (o : Own)
  | deep (t : Ty) (l : List t.den) (pin : Option Nat)

structure St where
  n : Nat
  env : Nat → Slot
  sto : Nat → Option Entry

/-- What a call is handed. -/
inductive Arg where
  | val (t : Ty) (x : t.den)
  | clo (f : FuncId) (caps : List Cap)
  | rp (t : Ty) (x : t.den)
  | give (t : Ty) (x : t.den)
  | ioBox (t : Ty) (x : t.den)
  | lend (t : Ty) (x : t.den)
  | kval (t : Ty) (x : t.den)

/-- Its rows lie for good. -/
def Arg.solid : Arg → Arg
  | .val t x => .kval t x
  | a => a

/-- A computation that asks tests and makes calls. -/
inductive T (α : Type) : Type where
  | ret (a : α)
  | fail
  | br (p : Prop) (d : Decidable p) (x y : T α)
  | call (f : FuncId) (t : Ty) (args : List Arg) (k : t.den → T α)

namespace T
def bind {α β : Type} : T α → (α → T β) → T β
  | .ret a, f => f a
  | .fail, _ => .fail
  | .br p d x y, f => .br p d (x.bind f) (y.bind f)
  | .call g t args k, f => .call g t args fun r => (k r).bind f

instance : Monad T where
  pure := T.ret
  bind := T.bind

def ofOption {α : Type} : Option α → T α
  | some a => .ret a
  | none => .fail

def test {α : Type} (p : Prop) [d : Decidable p] (x y : T α) : T α := .br p d x y

def run {α R : Type} (callF : FuncId → (t : Ty) → List Arg → Option t.den) : T α → (α → Option R) → Option R
  | .ret a, κ => κ a
  | .fail, _ => none
  | .br p d x y, κ => @ite _ p d (x.run callF κ) (y.run callF κ)
  | .call f t args k, κ => (callF f t args).bind fun r => (k r).run callF κ
end T

/-- How a function takes its arguments: those whose number is listed are lent to be written; whether the lists of its results are its caller's own. -/
structure Sig where
  io : List Nat := []
  own : Bool := true
  lend : Option Nat := none
  /-- What the box holds that the function makes and points to: it is told by 'lend := some 1000'. -/
  made : Ty := .unit

def Sig.isMk (s : Sig) : Bool := match s.lend with
  | some n => Nat.beq n 1000
  | none => false

structure Cfg where
  P : Program
  tt : List (Nat × Option Ty)
  vars : List (Nat × List Nat) := []
  sigs : List (Nat × Sig) := []
  prim : FuncId → Option ((t : Ty) → List Arg → Option t.den) := fun _ => none
  tabs : List (String × List Int) := []
  mono : Bool := false
  /-- The types of whole elements that are given up by a store. -/
  gives : List Nat := []
  /-- The types of pointers to boxes that may be lent to functions that are held in variables. -/
  ptrs : List Nat := []
  /-- Functions whose arguments' rows lie for good, as far as they can tell. -/
  solids : List Nat := []
  /-- Slots and types of written out rows that are not written, nor appended to. -/
  brows : List (Nat × Nat) := []
  /-- The types of arguments whose rows lie for good. -/
  keepT : List Nat := []
  /-- Slots and types of loads that take an element out of a row, which is given up. -/
  takes : List (Nat × Nat) := []

def assoc {α : Type} : List (Nat × α) → Nat → Option α
  | [], _ => none
  | (k, v) :: r, n => bif Nat.beq k n then some v else assoc r n

def hasPair : List (Nat × Nat) → Nat → Nat → Bool
  | [], _, _ => false
  | (a, b) :: r, x, y => (Nat.beq a x && Nat.beq b y) || hasPair r x y
def Cfg.brow (C : Cfg) (d : Option Tmp) (t : TypeId) : Bool := match d with
  | some d => hasPair C.brows d t
  | none => false
def Cfg.take (C : Cfg) (d : Option Tmp) (t : TypeId) : Bool := match d with
  | some d => hasPair C.takes d t
  | none => false
def Cfg.solidArgs (C : Cfg) (f : FuncId) (as : List Arg) : List Arg := bif C.solids.contains f then as.map Arg.solid else as
def Cfg.ty (C : Cfg) (t : TypeId) : Option Ty := (assoc C.tt t).bind id
def Cfg.sig (C : Cfg) (f : FuncId) : Sig := (assoc C.sigs f).getD {}
/-- The number of cells of a type, and whether it is a struct. -/
def Cfg.shape (C : Cfg) (t : TypeId) : Option (Nat × Bool) := (assoc C.tt t).map fun
  | some t => (t.sz, t.isAgg)
  | none => (1, false)
def Cfg.fieldAt (C : Cfg) (t : TypeId) (i : Nat) : Option (Nat × TypeId) :=
  match C.P.underlying t with
  | some (.struct fs) => (fs[i]?).map fun f => (f.offset, f.type)
  | _ => none
/-- Where a field that takes cells lies. -/
def Cfg.placeOf (C : Cfg) (t : TypeId) (i : Nat) : Option Nat :=
  match C.fieldAt t i with
  | some (off, u) => match C.shape u with
    | some (n + 1, _) => some off
    | _ => none
  | none => none
def Cfg.elem (C : Cfg) (t : TypeId) : Option (TypeId × Ty) :=
  match C.P.underlying t with
  | some (.slice e) => (C.ty e).map fun T => (e, T)
  | _ => none

/-- The element of a list, behind the test of its index. -/
def rd (t : Ty) (l : List t.den) (i : Int) : t.den := l.getD i.toNat t.dflt
def setAt (t : Ty) (l : List t.den) (i : Int) (f : t.den → t.den) : List t.den := l.set i.toNat (f (rd t l i))
def bt (s : ByteArray) (i : Int) : Int := ((s.data.getD i.toNat 0).toNat : Int)
def bytesOf (s : ByteArray) : List Int := s.data.toList.map fun b => (b.toNat : Int)
def ofBytes (l : List Int) : ByteArray := ⟨(l.map fun n => UInt8.ofNat n.toNat).toArray⟩

def cellsOf (fr : Bool) : (t : Ty) → t.den → List Cell
  | .bool, b => [.prop (b = true) (instDecidableEqBool b true)]
  | .int k, n => [.int k n]
  | .str, s => [.str s]
  | .list t, l => [.list fr t l]
  | .unit, _ => []
  | .pair a b, x => cellsOf fr a x.1 ++ cellsOf fr b x.2
  | .dlist t, l => [.list fr t l]

def zeroCells : Ty → List Cell
  | .bool => [.bool false]
  | .int k => [.int k 0]
  | .str => [.str ByteArray.empty]
  | .list _ => [.nil]
  | .unit => []
  | .pair a b => zeroCells a ++ zeroCells b
  | .dlist _ => [.nil]

def zeroBox : Option Ty → List Cell
  | some u => zeroCells u
  | none => [.undef]

def boxSz : Option Ty → Nat
  | some u => u.sz
  | none => 1

def compOf (fr : Bool) (t : Ty) (x : t.den) : Comp :=
  if t.isAgg then .agg (cellsOf fr t x) else match cellsOf fr t x with
    | [c] => .cell c
    | cs => .agg cs

def compOfCells (agg : Bool) (cs : List Cell) : Comp :=
  if agg then .agg cs else match cs with
    | [c] => .cell c
    | cs => .agg cs

/-- For what a list is read: for a look, to lie in memory for good, to be handed back. -/
inductive Mode where
  | look | keep | give

def castList {t u : Ty} (l : List t.den) : Option (List u.den) := if h : t = u then some (h ▸ l) else none

/-- A list out of a cell; behind it the numbers of the rows that are to be laid for good, or handed back. -/
def listOf (σ : Nat → Option Entry) (m : Mode) (t : Ty) : Cell → Option (List t.den × List Nat)
  | .nil => some ([], [])
  | .list fr u l => match m, fr with
    | .look, _ | .keep, true => (castList l).map (·, [])
    | _, _ => none
  | .ref id => match σ id with
    | some (.arr u l o) => match m, o with
      | .give, .open => (castList l).map (·, [id])
      | .give, _ => none
      | .keep, .pinned _ => none
      | _, _ => (castList l).map (·, [id])
    | _ => none
  | .sub id off len => match σ id with
    | some (.arr u l o) => match m, o with
      | .give, .open => (castList ((l.drop off).take len)).map (·, [id])
      | .give, _ => none
      | .keep, .pinned _ => none
      | _, _ => (castList ((l.drop off).take len)).map (·, [id])
    | _ => none
  | _ => none

/-- The same of a row whose rows are owned. -/
def dlistOf (σ : Nat → Option Entry) (m : Mode) (t : Ty) : Cell → Option (List t.den × List Nat)
  | .nil => some ([], [])
  | .list fr u l => match m, fr with
    | .look, _ | .keep, true => (castList l).map (·, [])
    | _, _ => none
  | .dref id => match σ id with
    | some (.deep u l pin) => match m, pin with
      | .look, _ => (castList l).map (·, [id])
      | .give, none => (castList l).map (·, [id])
      | _, _ => none
    | _ => none
  | _ => none

def ofCells (σ : Nat → Option Entry) (m : Mode) : (t : Ty) → List Cell → Option (t.den × List Cell × List Nat)
  | .bool, .bool b :: r => some (b, r, [])
  | .bool, .prop p d :: r => some (@decide p d, r, [])
  | .int k, .int k' n :: r => if k' = k then some (n, r, []) else none
  | .str, .str s :: r => some (s, r, [])
  | .list t, c :: r => (listOf σ m t c).map fun (l, ids) => (l, r, ids)
  | .dlist t, c :: r => (dlistOf σ m t c).map fun (l, ids) => (l, r, ids)
  | .unit, r => some ((), r, [])
  | .pair a b, cs => match ofCells σ m a cs with
    | some (x, r, ids) => (match ofCells σ m b r with
      | some (y, r', ids') => some ((x, y), r', ids ++ ids')
      | none => none)
    | none => none
  | _, _ => none

/-- All cells, no more. -/
def ofCellsAll (σ : Nat → Option Entry) (m : Mode) (t : Ty) (cs : List Cell) : Option (t.den × List Nat) :=
  match ofCells σ m t cs with
  | some (x, [], ids) => some (x, ids)
  | _ => none

def upd {α : Type} (f : Nat → α) (i : Nat) (v : α) : Nat → α := fun j => bif Nat.beq j i then v else f j

def freezeAll (σ : Nat → Option Entry) : List Nat → (Nat → Option Entry)
  | [] => σ
  | id :: r => match σ id with
    | some (.arr t l _) => freezeAll (upd σ id (some (.arr t l .frozen))) r
    | _ => freezeAll σ r

def siteKey (d j : Nat) : Nat := 4 * (64 * d + j)
def headKey (p : Nat) : Nat := 4 * p + 1
def parKey (i j : Nat) : Nat := 4 * (64 * i + j) + 2
def ioKey (id j : Nat) : Nat := 4 * (64 * id + j) + 3

/-- 'n' holds how many temporaries there are, and how many of the first may not be written. -/
def inN (d n : Nat) : Bool := Nat.blt d (n / 1048576) && Nat.ble (n % 1048576) d

def St.put (s : St) (dst : Option Tmp) (v : Slot) : T St :=
  match dst with
  | none => .ret s
  | some d => bif inN d s.n then .ret { s with env := upd s.env d v } else .fail

def St.alloc (s : St) (key : Nat) (e : Entry) : T St :=
  match s.sto key with
  | none => .ret { s with sto := upd s.sto key (some e) }
  | some _ => .fail

def ofConst : Value → Slot
  | .bool b => .cell (.bool b)
  | .int k n => .cell (.int k n)
  | .string s => .cell (.str s)
  | .slice none 0 0 => .cell .nil
  | _ => .undef

def St.ev (s : St) : Operand → Slot
  | .tmp t => s.env t
  | .const v => ofConst v
  | .func f => .cell (.clo f [])
  | .global _ => .undef

def St.int (s : St) (x : Operand) : T (IntKind × Int) :=
  match s.ev x with
  | .one (.cell (.int k n)) => .ret (k, n)
  | _ => .fail

def St.comp (s : St) (x : Operand) : T Comp :=
  match s.ev x with
  | .one c => .ret c
  | _ => .fail

/-- The cells of an element of a row whose rows are owned: the rows within are not to be had, but from a row that was lent. -/
def cellsD (id i : Nat) (p : Bool) : (t : Ty) → t.den → Nat → List Cell
  | .list _, _, o => [if p then .inn id i o else .undef]
  | .dlist _, _, _ => [.undef]
  | .pair a b, x, o => cellsD id i p a x.1 o ++ cellsD id i p b x.2 (o + a.sz)
  | .bool, x, _ => cellsOf true .bool x
  | .int k, x, _ => cellsOf true (.int k) x
  | .str, x, _ => cellsOf true .str x
  | .unit, _, _ => []

def St.cellsAt (s : St) (n : Nat) (agg : Bool) : Cell → T Comp
  | .ptr id off => match s.sto id with
    | some (.box _ cs) => if off + n ≤ cs.length then .ret (compOfCells agg ((cs.drop off).take n)) else .fail
    | _ => .fail
  | .eptr id i off => match s.sto id with
    | some (.arr t l _) => if off + n ≤ t.sz then .ret (compOfCells agg (((cellsOf true t (l.getD i t.dflt)).drop off).take n)) else .fail
    | _ => .fail
  | .rptr fr t x off => if off + n ≤ t.sz then .ret (compOfCells agg (((cellsOf fr t x).drop off).take n)) else .fail
  | .dptr id i off => match s.sto id with
    | some (.deep t l pin) => if off + n ≤ t.sz then .ret (compOfCells agg (((cellsD id i pin.isSome t (l.getD i t.dflt) 0).drop off).take n)) else .fail
    | _ => .fail
  | _ => .fail

def splice (cs : List Cell) (off : Nat) (new : List Cell) : List Cell := cs.take off ++ new ++ cs.drop (off + new.length)

/-- Is it known what it is. -/
def Cell.known : Cell → Bool
  | .undef | .void => false
  | _ => true
def Comp.known : Comp → Bool
  | .cell c => c.known
  | .agg _ => true

/-- No way leads to the box from here on. -/
def Cap.isPtr (id : Nat) : Cap → Bool
  | .ptr i => Nat.beq i id
  | .ro _ _ => false
def Cell.forget (id : Nat) : Cell → Cell
  | .ptr i o => bif Nat.beq i id then .undef else .ptr i o
  | .clo f caps => bif caps.any (Cap.isPtr id) then .undef else .clo f caps
  | c => c
def Comp.forget (id : Nat) : Comp → Comp
  | .cell c => .cell (c.forget id)
  | .agg cs => .agg (cs.map (·.forget id))
def Slot.forget (id : Nat) : Slot → Slot
  | .one c => .one (c.forget id)
  | .tup cs => .tup (cs.map (·.forget id))
def Entry.forget (id : Nat) : Entry → Entry
  | .box t cs => .box t (cs.map (·.forget id))
  | e => e
def St.forget (s : St) (id : Nat) : St :=
  { s with env := fun t => (s.env t).forget id, sto := upd (fun k => (s.sto k).map (·.forget id)) id none }

def Cell.kill (id : Nat) : Cell → Cell
  | .ref i => bif Nat.beq i id then .undef else .ref i
  | .sub i o l => bif Nat.beq i id then .undef else .sub i o l
  | .eptr i k o => bif Nat.beq i id then .undef else .eptr i k o
  | .dref i => bif Nat.beq i id then .undef else .dref i
  | .dptr i k o => bif Nat.beq i id then .undef else .dptr i k o
  | .inn i k o => bif Nat.beq i id then .undef else .inn i k o
  | c => c
def Comp.kill (id : Nat) : Comp → Comp
  | .cell c => .cell (c.kill id)
  | .agg cs => .agg (cs.map (·.kill id))
def Slot.kill (id : Nat) : Slot → Slot
  | .one c => .one (c.kill id)
  | .tup cs => .tup (cs.map (·.kill id))
def Entry.kill (id : Nat) : Entry → Entry
  | .box t cs => .box t (cs.map (·.kill id))
  | e => e
/-- No other way leads to the row from here on. -/
def St.kill (s : St) (id : Nat) : St :=
  { s with env := fun t => (s.env t).kill id, sto := fun k => (s.sto k).map (·.kill id) }
def St.drop (s : St) (id : Nat) : St := { s.kill id with sto := upd (s.kill id).sto id none }
def nodup : List Nat → Bool
  | [] => true
  | x :: r => !r.contains x && nodup r
def St.dropAll (s : St) : List Nat → St
  | [] => s
  | id :: r => (s.drop id).dropAll r

/-- Which cells of a type are lists. -/
def lflags : Ty → List Bool
  | .list _ | .dlist _ => [true]
  | .pair a b => lflags a ++ lflags b
  | .unit => []
  | .bool | .int _ | .str => [false]
/-- No rows whose rows are owned, within. -/
def Ty.nod : Ty → Bool
  | .dlist _ => false
  | .list t => t.nod
  | .pair a b => a.nod && b.nod
  | .bool | .int _ | .str | .unit => true
/-- A plain cell of a value is written. -/
def setCell : (t : Ty) → Nat → t.den → Cell → Option t.den
  | .bool, 0, _, .bool b => some b
  | .bool, 0, _, .prop p d => some (@decide p d)
  | .int k, 0, _, .int k' n => if k' = k then some n else none
  | .str, 0, _, .str s => some s
  | .pair a b, o, x, c => if o < a.sz then (setCell a o x.1 c).map (·, x.2) else (setCell b (o - a.sz) x.2 c).map (x.1, ·)
  | _, _, _, _ => none
def setOne (t : Ty) (n off : Nat) (new : List Cell) (x : t.den) : Option t.den := match new with
  | [c] => bif Nat.beq n 1 then setCell t off x c else none
  | _ => none

/-- A row within a value is put in another's place. -/
def putList (σ : Nat → Option Entry) : (t : Ty) → Nat → t.den → Cell → Option (t.den × List Nat)
  | .list t, 0, _, c => listOf σ .give t c
  | .pair a b, o, x, c => if o < a.sz then (putList σ a o x.1 c).map (fun y => ((y.1, x.2), y.2)) else (putList σ b (o - a.sz) x.2 c).map (fun y => ((x.1, y.1), y.2))
  | _, _, _, _ => none
/-- A whole value, or a row within it, is put in another's place. -/
def putPart (σ : Nat → Option Entry) (t : Ty) (n off : Nat) (new : List Cell) (x : t.den) : Option (t.den × List Nat) :=
  if off = 0 ∧ n = t.sz ∧ new.length = n then ofCellsAll σ .give t new else match new with
  | [c] => bif Nat.beq n 1 then putList σ t off x c else none
  | _ => none

/-- A store into an element of a row whose rows are owned: of plain cells, or of a whole element, or of a row within it, whose rows are given up to the row. -/
def storeD (g : Bool) (s : St) (n : Nat) (new : List Cell) (id i off : Nat) : T St :=
  match s.sto id with
  | some (.deep t l pin) =>
    (match setOne t n off new (l.getD i t.dflt) with
    | some x => .ret { s with sto := upd s.sto id (some (.deep t (l.set i x) pin)) }
    | none => if pin = none ∧ t.nod = true ∧ g = true then (match putPart s.sto t n off new (l.getD i t.dflt) with
      | some (x, ids) => bif nodup ids && !ids.contains id then .ret { s.dropAll ids with sto := upd (s.dropAll ids).sto id (some (.deep t (l.set i x) none)) } else .fail
      | none => .fail) else .fail)
  | _ => .fail

/-- A store. -/
def St.store (s : St) (g : Bool) (n : Nat) (new : List Cell) : Cell → T St
  | .ptr id off => match s.sto id with
    | some (.box t cs) => if off + n ≤ cs.length ∧ new.length = n then .ret { s with sto := upd s.sto id (some (.box t (splice cs off new))) } else .fail
    | _ => .fail
  | .eptr id i off => match s.sto id with
    | some (.arr t l o) => if o = .frozen then .fail else if off + n ≤ t.sz ∧ new.length = n then
        (match ofCellsAll s.sto .keep t (splice (cellsOf true t (l.getD i t.dflt)) off new) with
        | some (x, ids) => if ids.contains id then .fail else .ret { s with sto := upd (freezeAll s.sto ids) id (some (.arr t (l.set i x) o)) }
        | none => .fail) else .fail
    | _ => .fail
  | .dptr id i off => storeD g s n new id i off
  | _ => .fail


def St.free (s : St) : List Nat → St
  | [] => s
  | id :: r => St.free { s.kill id with sto := upd (s.kill id).sto id none } r

/-- The most bytes that a row may come to hold by one append, or be made with. -/
def mostBytes : Nat := 211106232532992

/-- Whole numbers. -/
def binInt (op : BinOp) (k : IntKind) (a b : Int) : T Cell :=
  match op with
  | .add => .ret (.int k (k.wrap (a + b)))
  | .sub => .ret (.int k (k.wrap (a - b)))
  | .mul => .ret (.int k (k.wrap (a * b)))
  | .quo => .test (b = 0) .fail (.ret (.int k (k.wrap (a.tdiv b))))
  | .rem => .test (b = 0) .fail (.ret (.int k (a.tmod b)))
  | .and => .ret (.int k (k.wrap (BitVec.ofInt k.bits a &&& BitVec.ofInt k.bits b).toNat))
  | .or => .ret (.int k (k.wrap (BitVec.ofInt k.bits a ||| BitVec.ofInt k.bits b).toNat))
  | .xor => .ret (.int k (k.wrap (BitVec.ofInt k.bits a ^^^ BitVec.ofInt k.bits b).toNat))
  | .andNot => .ret (.int k (k.wrap (BitVec.ofInt k.bits a &&& ~~~BitVec.ofInt k.bits b).toNat))
  | .eql => .ret (.is (a = b))
  | .neq => .ret (.is (a ≠ b))
  | .lss => .ret (.is (a < b))
  | .leq => .ret (.is (a ≤ b))
  | .gtr => .ret (.is (b < a))
  | .geq => .ret (.is (b ≤ a))
  | _ => .fail

def shiftInt (op : BinOp) (k : IntKind) (a b : Int) : T Cell :=
  match op with
  | .shl => .test (b < 0) .fail (.ret (.int k (k.wrap (a * 2 ^ (min b.toNat k.bits)))))
  | .shr => .test (b < 0) .fail (.ret (.int k (a.fdiv (2 ^ (min b.toNat k.bits)))))
  | _ => .fail

def Cell.asBool : Cell → Option Bool
  | .bool b => some b
  | .prop p d => some (@decide p d)
  | _ => none

/-- Are two structs of plain cells one and the same. -/
def eqCells : List Cell → List Cell → Option (Σ' p : Prop, Decidable p)
  | [], [] => some ⟨True, .isTrue trivial⟩
  | [x], [y] => eqOne x y
  | x :: xs, y :: ys => match eqOne x y, eqCells xs ys with
    | some ⟨p, d⟩, some ⟨q, e⟩ => some ⟨p ∧ q, @instDecidableAnd p q d e⟩
    | _, _ => none
  | _, _ => none
where
  dec (p : Prop) [d : Decidable p] : Option (Σ' p : Prop, Decidable p) := some ⟨p, d⟩
  eqOne : Cell → Cell → Option (Σ' p : Prop, Decidable p)
  | .int k a, .int k' b => if k = k' then dec (a = b) else none
  | .str a, .str b => dec (a = b)
  | .bool a, .bool b => dec (a = b)
  | .prop p d, .prop q e => dec (@decide p d = @decide q e)
  | .prop p d, .bool b => dec (@decide p d = b)
  | .bool b, .prop p d => dec (b = @decide p d)
  | _, _ => none

def Ty.plain : Ty → Bool
  | .list _ | .dlist _ => false
  | .pair a b => a.plain && b.plain
  | _ => true

/-- How deep a struct's structs lie. -/
def Ty.ht : Ty → Nat
  | .pair a b => Nat.max (a.ht + 1) b.ht
  | _ => 0

/-- A test of two values of the type 'U'. -/
def eqComps (U : Ty) (x y : Comp) : Option (Σ' p : Prop, Decidable p) :=
  match x, y with
  | .cell a, .cell b => match a, b with
    | .str s, .str u => eqCells.dec (s = u)
    | a, b => if U = .bool ∧ a.asBool.isSome then eqCells.eqOne a b else none
  | .agg cs, .agg ds => if U.isAgg && U.plain && Nat.blt U.ht 100 && (ofCellsAll (fun _ => none) .look U cs).isSome && (ofCellsAll (fun _ => none) .look U ds).isSome then eqCells cs ds else none
  | _, _ => none

def binOp (U : Option Ty) (op : BinOp) (x y : Comp) : T Cell :=
  match op, x, y with
  | .shl, .cell (.int k a), .cell (.int _ b) => shiftInt .shl k a b
  | .shr, .cell (.int k a), .cell (.int _ b) => shiftInt .shr k a b
  | op, .cell (.int k a), .cell (.int k' b) => if k = k' then binInt op k a b else .fail
  | .add, .cell (.str a), .cell (.str b) => .test (a.size + b.size ≤ mostBytes) (.ret (.str (a ++ b))) .fail
  | .eql, x, y => match U.bind (eqComps · x y) with
    | some ⟨p, d⟩ => .ret (.prop p d)
    | none => .fail
  | .neq, x, y => match U.bind (eqComps · x y) with
    | some ⟨p, d⟩ => .ret (.prop (¬ p) (@instDecidableNot p d))
    | none => .fail
  | _, _, _ => .fail

def unOp (op : UnOp) (x : Comp) : T Cell :=
  match op, x with
  | .not, .cell (.bool b) => .ret (.bool (!b))
  | .not, .cell (.prop p d) => .ret (.prop (¬ p) (@instDecidableNot p d))
  | .neg, .cell (.int k n) => .ret (.int k (k.wrap (-n)))
  | _, _ => .fail

/-- The list behind a cell, to be looked at. -/
def St.look (s : St) (t : Ty) (c : Cell) : T (List t.den) := T.ofOption ((listOf s.sto .look t c).map (·.1))

/-- What is appended. -/
def St.appendee (s : St) : TypeDesc → (t : Ty) → Cell → T (List t.den)
  | .string, .int .u8, .str b => .ret (bytesOf b)
  | .slice _, t, c => s.look t c
  | _, _, _ => .fail

/-- The length of a list, or of a text. -/
def St.len (s : St) : TypeDesc → Cell → T Int
  | .string, .str s => .ret (s.size : Int)
  | .slice _, .nil => .ret 0
  | .slice _, .list _ _ l => .ret (l.length : Int)
  | .slice _, .ref id => match s.sto id with
    | some (.arr _ l _) => .ret (l.length : Int)
    | _ => .fail
  | .slice _, .sub _ _ n => .ret (n : Int)
  | .slice _, .dref id => match s.sto id with
    | some (.deep _ l _) => .ret (l.length : Int)
    | _ => .fail
  | _, _ => .fail

/-- The bounds of a slice expression. -/
def bounds (n : Int) (lo hi : Option Int) : T (Int × Int) :=
  match hi with
  | some h => .test (0 ≤ h) (.test (h ≤ n) (low h) .fail) .fail
  | none => low n
where low (h : Int) : T (Int × Int) :=
  match lo with
  | some l => .test (0 ≤ l) (.test (l ≤ h) (.ret (l, h)) .fail) .fail
  | none => .ret (0, h)

def sliceStr (b : ByteArray) (lo hi : Option Int) : T Cell := (bounds b.size lo hi).bind fun (l, h) => .ret (.str (b.extract l.toNat h.toNat))

def sliceCell (s : St) (u : Ty) (lo hi : Option Int) : Cell → T Cell
  | .nil => (bounds 0 lo hi).bind fun _ => .ret .nil
  | .list fr t l => if t = u then (bounds l.length lo hi).bind fun (a, h) => .ret (.list fr t ((l.drop a.toNat).take (h.toNat - a.toNat))) else .fail
  | .ref id => match s.sto id with
    | some (.arr t l _) => if t = u then (bounds l.length lo hi).bind fun (a, h) => .ret (.sub id a.toNat (h.toNat - a.toNat)) else .fail
    | _ => .fail
  | .sub id off n => match s.sto id with
    | some (.arr t l _) => if t = u then (bounds n lo hi).bind fun (a, h) => .ret (.sub id (off + a.toNat) (h.toNat - a.toNat)) else .fail
    | _ => .fail
  | _ => .fail

def indexCell (s : St) (u : Ty) (i : Int) : Cell → T Cell
  | .list fr t l => if t = u then .test (0 ≤ i) (.test (i < (l.length : Int)) (.ret (.rptr true t (rd t l i) 0)) .fail) .fail else .fail
  | .ref id => match s.sto id with
    | some (.arr t l _) => if t = u then .test (0 ≤ i) (.test (i < (l.length : Int)) (.ret (.eptr id i.toNat 0)) .fail) .fail else .fail
    | _ => .fail
  | .sub id off n => match s.sto id with
    | some (.arr t l _) => if t = u then .test (0 ≤ i) (.test (i < (n : Int)) (.ret (.eptr id (off + i.toNat) 0)) .fail) .fail else .fail
    | _ => .fail
  | .dref id => match s.sto id with
    | some (.deep t l _) => if t = u then .test (0 ≤ i) (.test (i < (l.length : Int)) (.ret (.dptr id i.toNat 0)) .fail) .fail else .fail
    | _ => .fail
  | _ => .fail

def Cfg.dty (C : Cfg) (t : TypeId) : Option Ty := match C.ty t with
  | some (.dlist u) => some u
  | _ => none
def Cfg.bytes (C : Cfg) (t : TypeId) : Nat := (C.P.bytesOf t)
def Cfg.bytesOk (C : Cfg) (t : TypeId) : Bool := Nat.ble 1 (C.bytes t) && Nat.ble (C.bytes t) 1048576

def capRo (s : St) : Cap → Option Cap
  | .ro t x => some (.ro t x)
  | .ptr id => match s.sto id with
    | some (.box (some t) cs) => (ofCellsAll s.sto .look t cs).map fun (x, _) => .ro t x
    | _ => none

def capsRo (s : St) : List Cap → Option (List Cap)
  | [] => some []
  | c :: r => match capRo s c, capsRo s r with
    | some c, some r => some (c :: r)
    | _, _ => none

def aggOk (t : Ty) : Comp → Bool
  | .agg _ => t.isAgg
  | .cell _ => !t.isAgg

/-- A value as a call takes it. -/
def toArgVal (C : Cfg) (s : St) (t : TypeId) (v : Comp) : Option Arg :=
  match C.ty t with
  | some u => bif v.known && aggOk u v then bif C.keepT.contains t then (match ofCellsAll s.sto .keep u v.cells with
      | some (x, []) => some (.kval u x)
      | _ => none) else bif u.kept then (match ofCellsAll s.sto .keep u v.cells with
      | some (x, []) => some (.val u x)
      | _ => none) else (ofCellsAll s.sto .look u v.cells).map fun (x, _) => .val u x else none
  | none => match v with
    | .cell (.clo f caps) => (capsRo s caps).map (.clo f)
    | .cell (.ptr id 0) => match capRo s (.ptr id) with
      | some (.ro t x) => some (.rp t x)
      | _ => none
    | .cell (.rptr _ t x 0) => some (.rp t x)
    | _ => none

/-- A row or a box that a call is lent. -/
def toArgIo (s : St) : Comp → Option Arg
  | .cell (.ref id) => match s.sto id with
    | some (.arr u l .open) => some (.give (.list u) l)
    | _ => none
  | .cell (.ptr id 0) => match s.sto id with
    | some (.box (some u) cs) => (ofCellsAll s.sto .give u cs).map fun (x, _) => .ioBox u x
    | _ => none
  | _ => none

def toArg (C : Cfg) (s : St) (io : Bool) (t : TypeId) (v : Comp) : Option Arg := bif io then toArgIo s v else toArgVal C s t v

def capArg : Cap → Option Arg
  | .ro t x => some (.rp t x)
  | .ptr _ => none

def toArgs (C : Cfg) (s : St) (io : List Nat) : Nat → List TypeId → List Comp → Option (List Arg)
  | _, _, [] => some []
  | i, t :: ts, v :: vs => match toArg C s (io.contains i) t v, toArgs C s io (i + 1) ts vs with
    | some a, some r => some (a :: r)
    | _, _ => none
  | _, [], _ :: _ => none

def Cell.isDref : Cell → Bool
  | .dref _ => true
  | _ => false
def capDeep (s : St) : Cap → Bool
  | .ptr id => match s.sto id with
    | some (.box _ cs) => cs.any Cell.isDref
    | _ => false
  | .ro _ _ => false
/-- Does a row whose rows are owned come in by this. -/
def cellDeep (s : St) : Cell → Bool
  | .dref _ => true
  | .ptr id _ => capDeep s (.ptr id)
  | .clo _ caps => caps.any (capDeep s)
  | _ => false
def argDeep (s : St) (vs : List Comp) (caps : List Cap) : Bool := vs.any (fun v => v.cells.any (cellDeep s)) || caps.any (capDeep s)
/-- No rows within rows, but for such as are owned. -/
def Ty.cut : Ty → Bool
  | .list t => t.plain
  | .dlist t => t.cut
  | .pair a b => a.cut && b.cut
  | .bool | .int _ | .str | .unit => true

def resTy (C : Cfg) (ts : List TypeId) : Option Ty :=
  match ts with
  | [t] => C.ty t
  | ts => go ts
where go : List TypeId → Option Ty
  | [] => some .unit
  | t :: r => match C.ty t, go r with
    | some a, some b => some (.pair a b)
    | _, _ => none

def hasIo : List Arg → Bool
  | [] => false
  | .give _ _ :: _ => true
  | .ioBox _ _ :: _ => true
  | _ :: r => hasIo r

/-- Cells of a value that a call has handed back: each list a row of its own. -/
def regCells (own : Bool) (key : Nat → Nat) : (t : Ty) → t.den → Nat → List Cell × List (Nat × Entry) × Nat
  | .list t, l, j => if own then ([.ref (key j)], [(key j, .arr t l .open)], j + 1) else ([.list true t l], [], j)
  | .dlist t, l, j => if own then ([.dref (key j)], [(key j, .deep t l none)], j + 1) else ([.list true t l], [], j)
  | .pair a b, x, j => match regCells own key a x.1 j with
    | (c, es, j) => match regCells own key b x.2 j with
      | (d, fs, j) => (c ++ d, es ++ fs, j)
  | t, x, j => (cellsOf true t x, [], j)

def allocAll (s : St) : List (Nat × Entry) → T St
  | [] => .ret s
  | (k, e) :: r => (s.alloc k e).bind fun s => allocAll s r

def regComps (own : Bool) (key : Nat → Nat) : (t : Ty) → t.den → Nat → List Comp × List (Nat × Entry)
  | .pair a b, x, j => match regCells own key a x.1 j with
    | (c, es, j) => match regComps own key b x.2 j with
      | (d, fs) => (compOfCells a.isAgg c :: d, es ++ fs)
  | _, _, _ => ([], [])

/-- The slot of a result. -/
def regSlot (own one : Bool) (key : Nat → Nat) (t : Ty) (x : t.den) : Slot × List (Nat × Entry) :=
  if one then match regCells own key t x 0 with
    | (c, es, _) => (.one (compOfCells t.isAgg c), es)
  else match regComps own key t x 0 with
    | (cs, es) => (.tup cs, es)

def idsOf : List Cell → List Nat
  | [] => []
  | .ref id :: r => id :: idsOf r
  | .sub id _ _ :: r => id :: idsOf r
  | _ :: r => idsOf r

def callOld (C : Cfg) (s : St) (o : Oper) (f : FuncId) (vs : List Comp) (caps : List Cap) : T St :=
  match C.P.funcs[f]?, o.dst with
  | some fn, dst =>
    let sig := C.sig f
    match toArgs C s sig.io 0 fn.params.toList vs, (capsRo s caps).bind (·.mapM capArg), resTy C fn.resultTypes.toList with
    | some args, some cargs, some rt =>
      let key := siteKey (dst.getD 0)
      if hasIo args || (argDeep s vs caps || C.solids.contains f) && !(sig.own && rt.cut) then .fail else .call f rt (C.solidArgs f args ++ cargs) fun r =>
        match regSlot sig.own (Nat.beq fn.resultTypes.size 1) key rt r with
        | (v, es) => (allocAll s es).bind fun s => s.put dst v
    | _, _, _ => .fail
  | _, _ => .fail

/-- A value whose rows are one's own, and the numbers of these. -/
def lendOf (σ : Nat → Option Entry) : (t : Ty) → List Cell → Option (t.den × List Cell × List (Option Nat))
  | .list _, .nil :: r => some ([], r, [none])
  | .list t, .ref id :: r => match σ id with
    | some (.arr _ l o) => if o = .frozen then none else (castList l).map fun l => (l, r, [some id])
    | _ => none
  | .list _, _ => none
  | .dlist _, .nil :: r => some ([], r, [none])
  | .dlist t, .dref id :: r => match σ id with
    | some (.deep _ l _) => (castList l).map fun l => (l, r, [some id])
    | _ => none
  | .dlist _, _ => none
  | .pair a b, cs => match lendOf σ a cs with
    | some (x, r, ids) => (match lendOf σ b r with
      | some (y, r', ids') => some ((x, y), r', ids ++ ids')
      | none => none)
    | none => none
  | t, cs => (ofCells σ .look t cs).map fun x => (x.1, x.2.1, [])


def killAll (v : Comp) : List Nat → Comp
  | [] => v
  | id :: r => killAll (v.kill id) r

/-- The rows as they come back. -/
def setRows : (T : Ty) → T.rows.den → List (Option Nat) → St → Option (St × List (Option Nat))
  | .list _, _, none :: r, s => some (s, r)
  | .list t, l, some id :: r, s => match s.sto id with
    | some (.arr u _ o) => if h : t = u then some ({ s with sto := upd s.sto id (some (.arr u (h ▸ l) o)) }, r) else none
    | _ => none
  | .list _, _, [], _ => none
  | .dlist _, _, none :: r, s => some (s, r)
  | .dlist t, l, some id :: r, s => match s.sto id with
    | some (.deep u _ p) => if h : t = u then some ({ s with sto := upd s.sto id (some (.deep u (h ▸ l) p)) }, r) else none
    | _ => none
  | .dlist _, _, [], _ => none
  | .pair a b, x, ids, s => match setRows a x.1 ids s with
    | some (s, r) => setRows b x.2 r s
    | none => none
  | .bool, _, ids, s => some (s, ids)
  | .int _, _, ids, s => some (s, ids)
  | .str, _, ids, s => some (s, ids)
  | .unit, _, ids, s => some (s, ids)

/-- The arguments of a call to which 'a' is lent, as the argument of number 'i'. -/
def toArgsL (C : Cfg) (s : St) (i : Nat) (a : Arg) : Nat → List TypeId → List Comp → Option (List Arg)
  | _, _, [] => some []
  | n, t :: ts, v :: vs => match bif Nat.beq n i then some a else toArgVal C s t v, toArgsL C s i a (n + 1) ts vs with
    | some a, some r => some (a :: r)
    | _, _ => none
  | _, [], _ :: _ => none

/-- A call to which a value is given away, its rows with it: the argument of number 'i'. -/
def callGive (C : Cfg) (s : St) (o : Oper) (f : FuncId) (vs : List Comp) (caps : List Cap) (i : Nat) : T St :=
  match C.P.funcs[f]?, vs[i]? with
  | some fn, some v => match (fn.params.toList[i]?).bind C.ty with
    | some T => if v.known && aggOk T v then match ofCellsAll s.sto .give T v.cells with
      | some (x, ids) => bif nodup ids then
        match toArgsL C (s.dropAll ids) i (.give T x) 0 fn.params.toList (vs.map (killAll · ids)), (capsRo (s.dropAll ids) caps).bind (·.mapM capArg), resTy C fn.resultTypes.toList with
        | some args, some cargs, some rt => if argDeep (s.dropAll ids) (vs.map (killAll · ids)) caps then .fail else .call f rt (args ++ cargs) fun r =>
          match regSlot (C.sig f).own (Nat.beq fn.resultTypes.size 1) (siteKey (o.dst.getD 0)) rt r with
          | (v, es) => (allocAll (s.dropAll ids) es).bind fun s => s.put o.dst v
        | _, _, _ => .fail
        else .fail
      | none => .fail
      else .fail
    | none => .fail
  | _, _ => .fail

/-- A call to which the rows of a value are lent: the argument of number 'i'. -/
def callLend (C : Cfg) (s : St) (o : Oper) (f : FuncId) (vs : List Comp) (caps : List Cap) (i : Nat) : T St :=
  match C.P.funcs[f]?, vs[i]? with
  | some fn, some v => match (fn.params.toList[i]?).bind C.ty with
    | some T => if v.known && aggOk T v then match lendOf s.sto T v.cells with
      | some (x, [], ids) => bif nodup (ids.filterMap id) then
        match toArgsL C (s.dropAll (ids.filterMap id)) i (.lend T x) 0 fn.params.toList (vs.map (killAll · (ids.filterMap id))), (capsRo (s.dropAll (ids.filterMap id)) caps).bind (·.mapM capArg), resTy C fn.resultTypes.toList with
        | some args, some cargs, some rt => if argDeep (s.dropAll (ids.filterMap id)) (vs.map (killAll · (ids.filterMap id))) caps then .fail else .call f (.pair rt T.rows) (args ++ cargs) fun r => match setRows T r.2 ids s with
          | some (s2, []) => match regSlot (C.sig f).own (Nat.beq fn.resultTypes.size 1) (siteKey (o.dst.getD 0)) rt r.1 with
            | (v, es) => (allocAll s2 es).bind fun s => s.put o.dst v
          | _ => .fail
        | _, _, _ => .fail
        else .fail
      | _ => .fail
      else .fail
    | none => .fail
  | _, _ => .fail

/-- A call to which a box is lent: the argument of number 'i'. -/
def callBox (C : Cfg) (s : St) (o : Oper) (f : FuncId) (vs : List Comp) (caps : List Cap) (i id : Nat) : T St :=
  match C.P.funcs[f]?, s.sto id with
  | some fn, some (.box (some T) cs) => match ofCellsAll s.sto (bif T.ob then .give else .keep) T cs with
    | some (x, ids) => bif nodup ids && (T.ob || ids.isEmpty) then
      match toArgsL C ((s.dropAll ids).forget id) i (.ioBox T x) 0 fn.params.toList (vs.map fun v => (killAll v ids).forget id), (capsRo ((s.dropAll ids).forget id) caps).bind (·.mapM capArg), resTy C fn.resultTypes.toList with
      | some args, some cargs, some rt => if argDeep ((s.dropAll ids).forget id) (vs.map fun v => (killAll v ids).forget id) caps then .fail else .call f (.pair rt T) (args ++ cargs) fun r =>
        match regCells T.ob (ioKey id) T r.2 0, regSlot true (Nat.beq fn.resultTypes.size 1) (siteKey (o.dst.getD 0)) rt r.1 with
        | (bc, es2, _), (v, es) => (allocAll { s.dropAll ids with sto := upd (s.dropAll ids).sto id (some (.box none (List.replicate T.sz .undef))) } (es2 ++ es)).bind fun s => St.put { s with sto := upd s.sto id (some (.box (some T) bc)) } o.dst v
      | _, _, _ => .fail
      else .fail
    | none => .fail
  | _, _ => .fail

/-- A list within an element, by its cell. -/
def listAt : (u : Ty) → Nat → u.den → Option (Σ t : Ty, List t.den)
  | .list t, 0, l => some ⟨t, l⟩
  | .pair a b, o, x => if o < a.sz then listAt a o x.1 else listAt b (o - a.sz) x.2
  | _, _, _ => none
def setList : (u : Ty) → Nat → u.den → (t : Ty) → List t.den → Option u.den
  | .list t, 0, _, t', l => castList l
  | .pair a b, o, x, t, l => if o < a.sz then (setList a o x.1 t l).map (·, x.2) else (setList b (o - a.sz) x.2 t l).map (x.1, ·)
  | _, _, _, _, _ => none

/-- A call to which a row within an element of a row is lent. -/
def callInn (C : Cfg) (s : St) (o : Oper) (f : FuncId) (vs : List Comp) (i id j off : Nat) : T St :=
  match C.P.funcs[f]?, s.sto id with
  | some fn, some (.deep u l (some n)) => (match listAt u off (l.getD j u.dflt) with
    | some ⟨t, x⟩ => match toArgsL C (s.drop id) i (.lend (.list t) x) 0 fn.params.toList (vs.map (Comp.kill id)), resTy C fn.resultTypes.toList with
      | some args, some rt => if argDeep (s.drop id) (vs.map (Comp.kill id)) [] then .fail else .call f (.pair rt (.list t)) args fun r => match setList u off (l.getD j u.dflt) t r.2 with
        | some y => match regSlot (C.sig f).own (Nat.beq fn.resultTypes.size 1) (siteKey (o.dst.getD 0)) rt r.1 with
          | (v, es) => (allocAll { s with sto := upd s.sto id (some (.deep u (l.set j y) (some n))) } es).bind fun s => s.put o.dst v
        | none => .fail
      | _, _ => .fail
    | none => .fail)
  | _, _ => .fail

/-- Is a box among what it is handed. -/
def _root_.Go.Oper.lends (o : Oper) (C : Cfg) : Bool := match o.op with
  | .call c => c.argTypes.toList.any (C.ptrs.contains ·)
  | _ => false

/-- A call that makes a box and points to it. -/
def callMk (C : Cfg) (s : St) (o : Oper) (f : FuncId) (vs : List Comp) : T St :=
  match C.P.funcs[f]?, o.dst with
  | some fn, some d => match toArgs C s [] 0 fn.params.toList vs with
    | some args => if hasIo args || argDeep s vs [] then .fail else .call f (C.sig f).made args fun r =>
      match regCells false (siteKey d) (C.sig f).made r 0 with
      | (cs, _, _) => (s.alloc (siteKey d 0) (.box (some (C.sig f).made) cs)).bind fun s => s.put (some d) (.cell (.ptr (siteKey d 0) 0))
    | none => .fail
  | _, _ => .fail

def callOp (C : Cfg) (s : St) (o : Oper) (g : Operand) (f : FuncId) (vs : List Comp) (caps : List Cap) : T St :=
  match (C.sig f).lend with
  | some i => bif (C.sig f).isMk then (match g, caps with
      | .func _, [] => callMk C s o f vs
      | _, _ => .fail) else (match vs[i]? with
    | some (.cell (.ptr id 0)) => (match g with
      | .func _ => callBox C s o f vs caps i id
      | _ => bif o.lends C then callBox C s o f vs caps i id else .fail)
    | some (.cell (.inn id j off)) => (match g with
      | .func _ => callInn C s o f vs i id j off
      | _ => .fail)
    | _ => (match g with
      | .func _ => callLend C s o f vs caps i
      | _ => .fail))
  | none => match (C.sig f).io with
  | [] => callOld C s o f vs caps
  | i :: _ => match g with
    | .func _ => callGive C s o f vs caps i
    | _ => .fail

def compsOf (s : St) : List Operand → Option (List Comp)
  | [] => some []
  | x :: r => match s.ev x, compsOf s r with
    | .one c, some r => some (c :: r)
    | _, _ => none

def optInt (s : St) : Option Operand → T (Option Int)
  | none => .ret none
  | some x => (s.int x).bind fun (_, n) => .ret (some n)

/-- The parts of a struct. -/
def buildCells (C : Cfg) (s : St) (t : TypeId) : List (Nat × Operand) → List Cell → Option (List Cell)
  | [], cs => some cs
  | (i, x) :: r, cs => match C.fieldAt t i, s.ev x with
    | some (off, u), .one v => match C.shape u with
      | some (n, _) => if v.known ∧ v.cells.length = n ∧ off + n ≤ cs.length then buildCells C s t r (splice cs off v.cells) else none
      | none => none
    | _, _ => none

/-- The elements of a slice that is written out. -/
def buildElems (s : St) (t : Ty) : List (Nat × Operand) → List t.den → List Nat → Option (List t.den × List Nat)
  | [], l, ids => some (l, ids)
  | (i, x) :: r, l, ids => match s.ev x with
    | .one v => match ofCellsAll s.sto .keep t v.cells with
      | some (y, js) => if v.known ∧ i < l.length then buildElems s t r (l.set i y) (ids ++ js) else none
      | none => none
    | _ => none

/-- The same; the rows of the elements are given up. -/
def buildElemsD (s : St) (t : Ty) : List (Nat × Operand) → List t.den → List Nat → Option (List t.den × List Nat)
  | [], l, ids => some (l, ids)
  | (i, x) :: r, l, ids => match s.ev x with
    | .one v => match ofCellsAll s.sto .give t v.cells with
      | some (y, js) => if v.known ∧ i < l.length then buildElemsD s t r (l.set i y) (ids ++ js) else none
      | none => none
    | _ => none

def buildDeep (s : St) (u : Ty) (dst : Option Tmp) (n : Nat) (parts : List (Nat × Operand)) : T St :=
  match dst with
  | some d => if n * u.sz ≤ 16777216 ∧ u.nod = true then (match buildElemsD s u parts (List.replicate n u.dflt) [] with
    | some (l, ids) => bif nodup ids && nodup (parts.map (·.1)) then ((s.dropAll ids).alloc (siteKey d 0) (.deep u l none)).bind fun s => s.put (some d) (.cell (.dref (siteKey d 0))) else .fail
    | none => .fail) else .fail
  | none => .fail

/-- Append to a row whose rows are owned: what is appended is given up. -/
def St.appendD (s : St) (C : Cfg) (e : TypeId) (u : Ty) (d : Tmp) (a b : Cell) : T St :=
  match b with
  | .dref id2 => match s.sto id2 with
    | some (.deep v2 lb none) => match castList (u := u) lb with
      | some lb => (match a with
        | .nil => .test (lb.length * C.bytes e ≤ mostBytes) (((s.drop id2).alloc (siteKey d 0) (.deep u lb none)).bind fun s => s.put (some d) (.cell (.dref (siteKey d 0)))) .fail
        | .dref id => if id = id2 then .fail else match s.sto id with
          | some (.deep v l none) => (match castList (u := u) l with
            | some l => .test ((l.length + lb.length) * C.bytes e ≤ mostBytes) (({ (s.drop id2).kill id with sto := upd ((s.drop id2).kill id).sto id (some (.deep u (l ++ lb) none)) }).put (some d) (.cell (.dref id))) .fail
            | none => .fail)
          | _ => .fail
        | _ => .fail)
      | none => .fail
    | _ => .fail
  | _ => .fail

/-- A row written out that lies for good. -/
def buildKept (C : Cfg) (s : St) (dst : Option Tmp) (t : TypeId) (n : Nat) (parts : List (Nat × Operand)) : T St := match C.elem t, dst with
  | some (_, u), some d => if n * u.sz ≤ 16777216 then (match buildElems s u parts (List.replicate n u.dflt) [] with
    | some (l, []) => s.put (some d) (.cell (.list true u l))
    | _ => .fail) else .fail
  | _, _ => .fail
/-- An element is taken out of a row whose rows are owned; the row is given up. -/
def takeT (C : Cfg) (s : St) (dst : Option Tmp) (t : TypeId) (x : Slot) : T St := match C.ty t, x, dst with
  | some u, .one (.cell (.dptr id i 0)), some d => if u.isAgg = true then (match s.sto id with
    | some (.deep v l none) => (match castList (u := u) l with
      | some l => (match regCells true (siteKey d) u (l.getD i u.dflt) 0 with
        | (cs, es, _) => (allocAll (s.drop id) es).bind fun s => s.put dst (.one (.agg cs)))
      | none => .fail)
    | _ => .fail) else .fail
  | _, _, _ => .fail

def capOf : Comp → Option Cap
  | .cell (.ptr id 0) => some (.ptr id)
  | .cell (.rptr _ t x 0) => some (.ro t x)
  | _ => none

/-- Append, behind the row in the cell 'a'. -/
def St.append (s : St) (C : Cfg) (e : TypeId) (u : Ty) (d : Tmp) (a : Cell) (lb : List u.den) : T St :=
  match a with
  | .nil => .test (lb.length * C.bytes e ≤ mostBytes) ((s.alloc (siteKey d 0) (.arr u lb .open)).bind fun s => s.put (some d) (.cell (.ref (siteKey d 0)))) .fail
  | .ref id => match s.sto id with
    | some (.arr v l .open) => match castList (u := u) l with
      | some l => .test ((l.length + lb.length) * C.bytes e ≤ mostBytes) (({ s.kill id with sto := upd (s.kill id).sto id (some (.arr u (l ++ lb) .open)) }).put (some d) (.cell (.ref id))) .fail
      | none => .fail
    | _ => .fail
  | .sub id off n => match s.sto id with
    | some (.arr v l .open) => match castList (u := u) l with
      | some l => .test ((n + lb.length) * C.bytes e ≤ mostBytes) (({ s.kill id with sto := upd (s.kill id).sto id (some (.arr u ((l.drop off).take n ++ lb) .open)) }).put (some d) (.cell (.ref id))) .fail
      | none => .fail
    | _ => .fail
  | _ => .fail

def opT (C : Cfg) (o : Oper) (s : St) : T (St) :=
  match o.op with
  | .move x | .assign x =>
    match s.ev x with
    | .one (.cell .nil) => match C.dty o.type with
      | some _ => s.put o.dst (.cell .nil)
      | none => match C.elem o.type, o.dst with
        | some (_, t), some d => (s.alloc (siteKey d 0) (.arr t [] .open)).bind fun s => s.put o.dst (.cell (.ref (siteKey d 0)))
        | _, _ => s.put o.dst (.cell .nil)
    | v => s.put o.dst v
  | .pick c a b => match s.ev c with
    | .one (.cell (.bool true)) => s.put o.dst (s.ev a)
    | .one (.cell (.bool false)) => s.put o.dst (s.ev b)
    | .one (.cell (.prop p d)) => .br p d (s.put o.dst (s.ev a)) (s.put o.dst (s.ev b))
    | _ => .fail
  | .alloc t => match assoc C.tt t, o.dst with
    | some ty, some d => (s.alloc (siteKey d 0) (.box ty (zeroBox ty))).bind fun s => s.put o.dst (.cell (.ptr (siteKey d 0) 0))
    | _, _ => .fail
  | .box t x => match assoc C.tt t, o.dst, s.ev x with
    | some ty, some d, .one v => if v.known && v.cells.length = boxSz ty then
        (s.alloc (siteKey d 0) (.box ty v.cells)).bind fun s => s.put o.dst (.cell (.ptr (siteKey d 0) 0)) else .fail
    | _, _, _ => .fail
  | .build t parts => match C.ty t with
    | some u => if u.isAgg then (match buildCells C s t parts.toList (zeroCells u) with
      | some cs => s.put o.dst (.one (.agg cs))
      | none => .fail) else .fail
    | none => .fail
  | .buildSlice t n parts => bif C.brow o.dst t then buildKept C s o.dst t n parts.toList else match C.dty t with
    | some _ => (match C.elem t with
      | some (_, u) => buildDeep s u o.dst n parts.toList
      | none => .fail)
    | none => match C.elem t, o.dst with
    | some (_, u), some d => if n * u.sz ≤ 16777216 then (match buildElems s u parts.toList (List.replicate n u.dflt) [] with
      | some (l, ids) => ({ s with sto := freezeAll s.sto ids }.alloc (siteKey d 0) (.arr u l .open)).bind fun s => s.put o.dst (.cell (.ref (siteKey d 0)))
      | none => .fail) else .fail
    | _, _ => .fail
  | .load t x => bif C.take o.dst t then takeT C s o.dst t (s.ev x) else match C.shape t, s.ev x with
    | some (n, agg), .one (.cell p) => (s.cellsAt n agg p).bind fun v => s.put o.dst (.one v)
    | _, _ => .fail
  | .store t p x => match C.shape t, s.ev p, s.ev x with
    | some (n, _), .one (.cell p), .one v => if v.known then (s.store (C.gives.contains t) n v.cells p).bind fun s => s.put o.dst .undef else .fail
    | _, _, _ => .fail
  | .nilCheck x => match s.ev x with
    | .one (.cell (.ptr id off)) => s.put o.dst (.cell (.ptr id off))
    | .one (.cell (.eptr id i off)) => s.put o.dst (.cell (.eptr id i off))
    | .one (.cell (.rptr fr t x off)) => s.put o.dst (.cell (.rptr fr t x off))
    | .one (.cell (.dptr id i off)) => s.put o.dst (.cell (.dptr id i off))
    | _ => .fail
  | .binOp op t x y _ => (s.comp x).bind fun a => (s.comp y).bind fun b => (binOp (C.ty t) op a b).bind fun c => s.put o.dst (.cell c)
  | .unOp op _ x => (s.comp x).bind fun a => (unOp op a).bind fun c => s.put o.dst (.cell c)
  | .convert src dst x => match C.P.underlying src, C.P.underlying dst, s.ev x with
    | some _, some (.int k), .one (.cell (.int _ n)) => s.put o.dst (.cell (.int k (k.wrap n)))
    | some _, some .string, .one (.cell (.str b)) => s.put o.dst (.cell (.str b))
    | some (.slice e), some .string, .one (.cell c) => if C.ty e = some (.int .u8) then (s.look (.int .u8) c).bind fun l => s.put o.dst (.cell (.str (ofBytes l))) else .fail
    | _, _, _ => .fail
  | .makeSlice t l c => match C.elem t, o.dst with
    | some (e, u), some d => if C.bytesOk e then (s.int l).bind fun (_, l) => (s.int c).bind fun (_, c) =>
        .test (0 ≤ l) (.test (l ≤ c) (.test (c * (C.bytes e : Int) ≤ mostBytes)
          (bif (C.dty t).isSome then (s.alloc (siteKey d 0) (.deep u (List.replicate l.toNat u.dflt) none)).bind fun s => s.put o.dst (.cell (.dref (siteKey d 0)))
          else (s.alloc (siteKey d 0) (.arr u (List.replicate l.toNat u.dflt) .open)).bind fun s => s.put o.dst (.cell (.ref (siteKey d 0)))) .fail) .fail) .fail else .fail
    | _, _ => .fail
  | .slice t x lo hi none => match C.P.underlying t, s.ev x with
    | some .string, .one (.cell (.str b)) => (optInt s lo).bind fun lo => (optInt s hi).bind fun hi => (sliceStr b lo hi).bind fun c => s.put o.dst (.cell c)
    | some (.slice e), .one (.cell c) => match C.ty e with
      | some u => (optInt s lo).bind fun lo => (optInt s hi).bind fun hi => (sliceCell s u lo hi c).bind fun c => s.put o.dst (.cell c)
      | none => .fail
    | _, _ => .fail
  | .fieldAddr t x i => match C.placeOf t i, s.ev x with
    | some off, .one (.cell (.ptr id o')) => s.put o.dst (.cell (.ptr id (o' + off)))
    | some off, .one (.cell (.eptr id j o')) => s.put o.dst (.cell (.eptr id j (o' + off)))
    | some off, .one (.cell (.rptr fr u y o')) => s.put o.dst (.cell (.rptr fr u y (o' + off)))
    | some off, .one (.cell (.dptr id j o')) => s.put o.dst (.cell (.dptr id j (o' + off)))
    | _, _ => .fail
  | .field t x i => match C.fieldAt t i, s.ev x with
    | some (off, u), .one (.agg cs) => match C.shape u with
      | some (n, agg) => if off + n ≤ cs.length then s.put o.dst (.one (compOfCells agg ((cs.drop off).take n))) else .fail
      | none => .fail
    | _, _ => .fail
  | .indexAddr t x ix => (s.int ix).bind fun (_, i) => match C.elem t, s.ev x with
    | some (_, u), .one (.cell c) => (indexCell s u i c).bind fun c => s.put o.dst (.cell c)
    | _, _ => .fail
  | .index t x ix => (s.int ix).bind fun (_, i) => match C.P.underlying t, s.ev x with
    | some .string, .one (.cell (.str b)) => .test (0 ≤ i) (.test (i < (b.size : Int)) (s.put o.dst (.cell (.int .u8 (bt b i)))) .fail) .fail
    | _, _ => .fail
  | .makeFunc (.func f) first captured => if first.size = 0 then match (compsOf s captured.toList).bind (·.mapM capOf) with
      | some caps => s.put o.dst (.cell (.clo f caps))
      | none => .fail
    else .fail
  | .extract x i => match s.ev x with
    | .tup cs => match cs[i]? with
      | some c => s.put o.dst (.one c)
      | none => .fail
    | _ => .fail
  | .call { callee := .value g, args, .. } => match s.ev g, compsOf s args.toList with
    | .one (.cell (.clo f caps)), some vs => callOp C s o g f vs caps
    | _, _ => .fail
  | .call { callee := .builtin .len, args, argTypes } => match args.toList, (argTypes[0]?).bind C.P.underlying with
    | [x], some d => match s.ev x with
      | .one (.cell c) => (s.len d c).bind fun n => s.put o.dst (.cell (.int .i64 n))
      | _ => .fail
    | _, _ => .fail
  | .call { callee := .builtin .append, args, argTypes } => match args.toList, argTypes.toList, o.dst with
    | [x, y], [t, ty], some d => match s.ev x, s.ev y, C.elem t, C.P.underlying ty with
      | .one (.cell a), .one (.cell b), some (e, u), some ds => if C.bytesOk e then (bif (C.dty t).isSome then (match ds with | .slice _ => s.appendD C e u d a b | _ => .fail) else (s.appendee ds u b).bind fun lb => s.append C e u d a lb) else .fail
      | _, _, _, _ => .fail
    | _, _, _ => .fail
  | .call { callee := .builtin .clear, args, argTypes } => match args.toList, (argTypes[0]?).bind C.elem with
    | [x], some (_, u) => match s.ev x with
      | .one (.cell (.sub id off n)) => match s.sto id with
        | some (.arr v l o') => if o' = .frozen then .fail else if v = u then ({ s with sto := upd s.sto id (some (.arr v (l.take off ++ List.replicate n v.dflt ++ l.drop (off + n)) o')) }).put o.dst .undef else .fail
        | _ => .fail
      | _ => .fail
    | _, _ => .fail
  | .call { callee := .builtin .min, args, .. } => match args.toList.map s.ev with
    | .one (.cell (.int k a)) :: r => mm min k a r s
    | _ => .fail
  | .call { callee := .builtin .max, args, .. } => match args.toList.map s.ev with
    | .one (.cell (.int k a)) :: r => mm max k a r s
    | _ => .fail
  | _ => .fail
where mm (g : Int → Int → Int) (k : IntKind) (a : Int) : List Slot → St → T St
  | [], s => s.put o.dst (.cell (.int k a))
  | .one (.cell (.int k' b)) :: r, s => if k' = k then mm g k (g a b) r s else .fail
  | _, _ => .fail

def guardDst (ops : List Oper) (j : Nat) : Option Tmp := (ops[j]?).bind (·.dst)

/-- Is the value of the operation at i asked by a guard. -/
def isGuard (ops : List Oper) (i : Nat) : Bool := ops.any fun o => match o.guard with
  | some (j, _) => Nat.beq j i
  | none => false

/-- A test that a guard asks is decided where it is made. -/
def decideDst (s : St) (d : Option Tmp) : T St :=
  match d with
  | some d => match s.env d with
    | .one (.cell (.prop p dec)) => .br p dec (.ret { s with env := upd s.env d (.cell (.bool true)) }) (.ret { s with env := upd s.env d (.cell (.bool false)) })
    | _ => .ret s
  | none => .ret s

def stepT (C : Cfg) (ops : List Oper) (i : Nat) (o : Oper) (s : St) : T St :=
  let go : T St := (opT C o s).bind fun s => bif isGuard ops i then decideDst s o.dst else .ret s
  match o.guard with
  | none => go
  | some (j, want) => match guardDst ops j with
    | some d => match s.env d with
      | .one (.cell (.bool b)) => bif b == want then go else s.put o.dst (.cell .void)
      | .one (.cell .void) => s.put o.dst (.cell .void)
      | _ => .fail
    | none => .fail

def opsT (C : Cfg) (ops : List Oper) : List (Oper × Nat) → St → T St
  | [], s => .ret s
  | (o, i) :: r, s => (stepT C ops i o s).bind (opsT C ops r)

/-! ### Regions whose order is open: what may be done in either order. -/
def mmV (g : Int → Int → Int) (k : IntKind) (a : Int) : List Slot → T (Slot × List (Nat × Entry))
  | [] => .ret (.cell (.int k a), [])
  | .one (.cell (.int k' b)) :: r => if k' = k then mmV g k (g a b) r else .fail
  | _ => .fail

def callVOld (C : Cfg) (s : St) (d : Tmp) (f : FuncId) (vs : List Comp) (caps : List Cap) : T (Slot × List (Nat × Entry)) :=
  match C.P.funcs[f]? with
  | some fn => match toArgs C s (C.sig f).io 0 fn.params.toList vs, (capsRo s caps).bind (·.mapM capArg), resTy C fn.resultTypes.toList with
    | some args, some cargs, some rt => if hasIo args || (argDeep s vs caps || C.solids.contains f) && !((C.sig f).own && rt.cut) then .fail else .call f rt (C.solidArgs f args ++ cargs) fun r => .ret (regSlot (C.sig f).own (Nat.beq fn.resultTypes.size 1) (siteKey d) rt r)
    | _, _, _ => .fail
  | none => .fail

def callV (C : Cfg) (s : St) (d : Tmp) (f : FuncId) (vs : List Comp) (caps : List Cap) : T (Slot × List (Nat × Entry)) :=
  match (C.sig f).lend with
  | some _ => .fail
  | none => match (C.sig f).io with
  | [] => callVOld C s d f vs caps
  | _ => .fail

/-- The value of an operation that changes nothing but its slot, and the rows that it makes. -/
def valT (C : Cfg) (o : Oper) (s : St) : T (Slot × List (Nat × Entry)) :=
  match o.op with
  | .move x | .assign x => match s.ev x with
    | .one (.cell .nil) => match C.dty o.type with
      | some _ => .ret (.cell .nil, [])
      | none => match C.elem o.type, o.dst with
        | some (_, t), some d => .ret (.cell (.ref (siteKey d 0)), [(siteKey d 0, .arr t [] .open)])
        | _, _ => .ret (.cell .nil, [])
    | v => .ret (v, [])
  | .pick c a b => match s.ev c with
    | .one (.cell (.bool true)) => .ret (s.ev a, [])
    | .one (.cell (.bool false)) => .ret (s.ev b, [])
    | .one (.cell (.prop p d)) => .br p d (.ret (s.ev a, [])) (.ret (s.ev b, []))
    | _ => .fail
  | .load t x => match C.shape t, s.ev x with
    | some (n, agg), .one (.cell p) => (s.cellsAt n agg p).bind fun v => .ret (.one v, [])
    | _, _ => .fail
  | .nilCheck x => match s.ev x with
    | .one (.cell (.ptr id off)) => .ret (.cell (.ptr id off), [])
    | .one (.cell (.eptr id i off)) => .ret (.cell (.eptr id i off), [])
    | .one (.cell (.rptr fr t x off)) => .ret (.cell (.rptr fr t x off), [])
    | .one (.cell (.dptr id i off)) => .ret (.cell (.dptr id i off), [])
    | _ => .fail
  | .binOp op t x y _ => (s.comp x).bind fun a => (s.comp y).bind fun b => (binOp (C.ty t) op a b).bind fun c => .ret (.cell c, [])
  | .unOp op _ x => (s.comp x).bind fun a => (unOp op a).bind fun c => .ret (.cell c, [])
  | .convert src dst x => match C.P.underlying src, C.P.underlying dst, s.ev x with
    | some _, some (.int k), .one (.cell (.int _ n)) => .ret (.cell (.int k (k.wrap n)), [])
    | some _, some .string, .one (.cell (.str b)) => .ret (.cell (.str b), [])
    | some (.slice e), some .string, .one (.cell c) => if C.ty e = some (.int .u8) then (s.look (.int .u8) c).bind fun l => .ret (.cell (.str (ofBytes l)), []) else .fail
    | _, _, _ => .fail
  | .slice t x lo hi none => match C.P.underlying t, s.ev x with
    | some .string, .one (.cell (.str b)) => (optInt s lo).bind fun lo => (optInt s hi).bind fun hi => (sliceStr b lo hi).bind fun c => .ret (.cell c, [])
    | some (.slice e), .one (.cell c) => match C.ty e with
      | some u => (optInt s lo).bind fun lo => (optInt s hi).bind fun hi => (sliceCell s u lo hi c).bind fun c => .ret (.cell c, [])
      | none => .fail
    | _, _ => .fail
  | .fieldAddr t x i => match C.placeOf t i, s.ev x with
    | some off, .one (.cell (.ptr id o')) => .ret (.cell (.ptr id (o' + off)), [])
    | some off, .one (.cell (.eptr id j o')) => .ret (.cell (.eptr id j (o' + off)), [])
    | some off, .one (.cell (.rptr fr u y o')) => .ret (.cell (.rptr fr u y (o' + off)), [])
    | some off, .one (.cell (.dptr id j o')) => .ret (.cell (.dptr id j (o' + off)), [])
    | _, _ => .fail
  | .field t x i => match C.fieldAt t i, s.ev x with
    | some (off, u), .one (.agg cs) => match C.shape u with
      | some (n, agg) => if off + n ≤ cs.length then .ret (.one (compOfCells agg ((cs.drop off).take n)), []) else .fail
      | none => .fail
    | _, _ => .fail
  | .indexAddr t x ix => (s.int ix).bind fun (_, i) => match C.elem t, s.ev x with
    | some (_, u), .one (.cell c) => (indexCell s u i c).bind fun c => .ret (.cell c, [])
    | _, _ => .fail
  | .index t x ix => (s.int ix).bind fun (_, i) => match C.P.underlying t, s.ev x with
    | some .string, .one (.cell (.str b)) => .test (0 ≤ i) (.test (i < (b.size : Int)) (.ret (.cell (.int .u8 (bt b i)), [])) .fail) .fail
    | _, _ => .fail
  | .makeFunc (.func f) first captured => if first.size = 0 then match (compsOf s captured.toList).bind (·.mapM capOf) with
      | some caps => .ret (.cell (.clo f caps), [])
      | none => .fail
    else .fail
  | .extract x i => match s.ev x with
    | .tup cs => match cs[i]? with
      | some c => .ret (.one c, [])
      | none => .fail
    | _ => .fail
  | .call { callee := .value g, args, .. } => match o.dst, s.ev g, compsOf s args.toList with
    | some d, .one (.cell (.clo f caps)), some vs => callV C s d f vs caps
    | _, _, _ => .fail
  | .call { callee := .builtin .len, args, argTypes } => match args.toList, (argTypes[0]?).bind C.P.underlying with
    | [x], some d => match s.ev x with
      | .one (.cell c) => (s.len d c).bind fun n => .ret (.cell (.int .i64 n), [])
      | _ => .fail
    | _, _ => .fail
  | .call { callee := .builtin .min, args, .. } => match args.toList.map s.ev with
    | .one (.cell (.int k a)) :: r => mmV min k a r
    | _ => .fail
  | .call { callee := .builtin .max, args, .. } => match args.toList.map s.ev with
    | .one (.cell (.int k a)) :: r => mmV max k a r
    | _ => .fail
  | .build t parts => match C.ty t with
    | some u => if u.isAgg then (match buildCells C s t parts.toList (zeroCells u) with
      | some cs => .ret (.one (.agg cs), [])
      | none => .fail) else .fail
    | none => .fail
  | .box t x => match assoc C.tt t, o.dst, s.ev x with
    | some ty, some d, .one v => if v.known && v.cells.length = boxSz ty then .ret (.cell (.ptr (siteKey d 0) 0), [(siteKey d 0, .box ty v.cells)]) else .fail
    | _, _, _ => .fail
  | .alloc t => match assoc C.tt t, o.dst with
    | some ty, some d => .ret (.cell (.ptr (siteKey d 0) 0), [(siteKey d 0, .box ty (zeroBox ty))])
    | _, _ => .fail
  | .buildSlice t n parts => match C.elem t, o.dst with
    | some (_, u), some d => if n * u.sz ≤ 16777216 then (match buildElems s u parts.toList (List.replicate n u.dflt) [] with
      | some (l, []) => bif C.brow o.dst t then .ret (.cell (.list true u l), []) else .ret (.cell (.ref (siteKey d 0)), [(siteKey d 0, .arr u l .open)])
      | _ => .fail) else .fail
    | _, _ => .fail
  | .makeSlice t l c => match C.elem t, o.dst with
    | some (e, u), some d => if C.bytesOk e then (s.int l).bind fun (_, l) => (s.int c).bind fun (_, c) =>
        .test (0 ≤ l) (.test (l ≤ c) (.test (c * (C.bytes e : Int) ≤ mostBytes)
          (.ret (.cell (.ref (siteKey d 0)), [(siteKey d 0, .arr u (List.replicate l.toNat u.dflt) .open)])) .fail) .fail) .fail else .fail
    | _, _ => .fail
  | _ => .fail

/-- The temporaries that an operation looks at. -/
def readsOf (ops : List Oper) (o : Oper) : List Tmp :=
  (o.op.operands.toList.filterMap fun | .tmp t => some t | _ => none) ++ (match o.guard with
    | some (j, _) => (guardDst ops j).toList
    | none => [])

/-- Does it change nothing but its slot. -/
def quietOp (C : Cfg) (o : Oper) : Bool := o.dst.isSome && match o.op with
  | .move _ | .assign _ | .pick .. | .nilCheck _ | .binOp .. | .unOp .. | .convert .. | .slice _ _ _ _ none | .fieldAddr .. | .field .. | .indexAddr .. | .index .. | .makeFunc (.func _) _ _ | .extract .. | .build .. | .box .. | .alloc _ => true
  | .load t _ => !C.take o.dst t
  | .makeSlice t _ _ => (C.dty t).isNone
  | .buildSlice t _ _ => C.brow o.dst t || ((C.dty t).isNone && match C.elem t with
    | some (_, u) => u.plain
    | none => false)
  | .call { callee := .value (.func f), .. } => (C.sig f).io.isEmpty && (C.sig f).lend.isNone
  | .call { callee := .value _, .. } => !o.lends C
  | .call { callee := .builtin .len, .. } | .call { callee := .builtin .min, .. } | .call { callee := .builtin .max, .. } => true
  | _ => false

def commQ (C : Cfg) (ops : List Oper) (a b : Oper) : Bool :=
  quietOp C a && quietOp C b && (match a.dst, b.dst with
    | some x, some y => !Nat.beq x y && !(readsOf ops b).contains x && !(readsOf ops a).contains y
    | _, _ => false)

/-- Does it look at slots alone. -/
def slotOp (o : Oper) : Bool := match o.op with
  | .extract .. | .binOp .. | .unOp .. | .pick .. | .field .. | .nilCheck _ | .fieldAddr .. | .build .. => true
  | _ => false
def storeOp (C : Cfg) (o : Oper) : Bool := o.dst.isNone && match o.op with
  | .store t _ _ => !C.gives.contains t
  | _ => false
/-- A look at slots beside a store. -/
def commS (C : Cfg) (ops : List Oper) (a b : Oper) : Bool :=
  quietOp C a && slotOp a && storeOp C b && (match a.dst with
    | some x => !(readsOf ops b).contains x
    | none => false)

def commB (C : Cfg) (ops : List Oper) (a b : Oper) : Bool := commQ C ops a b || commS C ops a b || commS C ops b a

/-- Those behind which each operation comes. -/
def ancList : List Oper → List Nat → List Nat
  | [], acc => acc
  | o :: r, acc => ancList r (acc ++ [o.after.toList.foldl (fun s e => if Region.binds .any e then s ||| 2 ^ e.on ||| acc.getD e.on 0 else s) 0])

def pairsOk (cm : Oper → Oper → Bool) (b : Oper) (anc : Nat) : List Oper → Nat → Bool
  | [], _ => true
  | a :: r, j => (anc.testBit j || cm a b) && pairsOk cm b anc r (j + 1)

def allPairsOk (cm : Oper → Oper → Bool) (ops : List Oper) : List Oper → List Nat → Nat → Bool
  | o :: r, a :: as, i => pairsOk cm o a (ops.take i) 0 && o.after.toList.all (fun e => !Region.binds .any e || Nat.blt e.on i) && allPairsOk cm ops r as (i + 1)
  | [], _, _ => true
  | _, _, _ => false

def drawOk (C : Cfg) (ops : List Oper) : Bool := allPairsOk (commB C ops) ops ops (ancList ops []) 0

/-- The first leads into a box, the second elsewhere. -/
def sepP : Slot → Slot → Bool
  | .one (.cell (.ptr i _)), .one (.cell (.ptr j _)) => !Nat.beq i j
  | .one (.cell (.ptr _ _)), .one (.cell (.eptr _ _ _)) => true
  | .one (.cell (.ptr _ _)), .one (.cell (.rptr _ _ _ _)) => true
  | _, _ => false

def dstsOf (ops : List Oper) : List Tmp := ops.filterMap (·.dst)

/-- A load beside a store into a box, by what the pointers are at the region's start. -/
def commL (C : Cfg) (ops : List Oper) (s : St) (a b : Oper) : Bool := match a.op, a.dst, b.op, b.dst with
  | .load _ (.tmp p), some d, .store t (.tmp q) _, none => quietOp C a && !C.gives.contains t && !(dstsOf ops).contains p && !(dstsOf ops).contains q && !(readsOf ops b).contains d && sepP (s.env q) (s.env p)
  | _, _, _, _ => false

def commY (C : Cfg) (ops : List Oper) (s : St) (a b : Oper) : Bool := commB C ops a b || commL C ops s a b || commL C ops s b a

def drawDyn (C : Cfg) (ops : List Oper) (s : St) : Bool := ops.all (fun o => quietOp C o || storeOp C o) && allPairsOk (commY C ops s) ops ops (ancList ops []) 0

inductive Ex where
  | normal | exit (id : Nat) | ret

/-! ### The heads of loops: the slots that live on, under new numbers. -/
def Cell.ids : Cell → List Nat
  | .ref id | .sub id _ _ | .ptr id _ | .eptr id _ _ | .dref id | .dptr id _ _ | .inn id _ _ => [id]
  | .clo _ caps => caps.filterMap fun | .ptr id => some id | _ => none
  | _ => []
def Comp.ids (c : Comp) : List Nat := c.cells.flatMap Cell.ids
def Slot.ids : Slot → List Nat
  | .one c => c.ids
  | .tup cs => cs.flatMap Comp.ids

/-! ### Appends in regions whose order is open -/
def Entry.noIds : Entry → Bool
  | .box _ cs => cs.all fun c => c.ids.isEmpty
  | .arr _ _ _ => true
  | .deep _ _ n => n.isNone

def appOp (o : Oper) : Option (Tmp × Tmp × Tmp) := match o.op, o.dst with
  | .call { callee := .builtin .append, args, .. }, some d => match args.toList with
    | [.tmp x, .tmp y] => some (x, y, d)
    | _ => none
  | _, _ => none

def freeOp (C : Cfg) (o : Oper) : Bool := match o.op with
  | .move _ | .assign _ | .fieldAddr .. | .indexAddr .. | .load .. | .slice _ _ _ _ none | .build .. | .binOp .. | .buildSlice .. => true
  | .call { callee := .value (.func f), .. } => match C.P.funcs[f]? with
    | some fn => Nat.beq fn.resultTypes.size 1 && (match resTy C fn.resultTypes.toList with
      | some (.list _) => true
      | some (.dlist _) => true
      | some t => t.plain
      | none => false)
    | none => false
  | _ => false

/-- 'xt': the slots of the rows that are appended to, whose numbers are in 'K'; 'R': slots that lead to none of these, but to numbers in 'U'. -/
structure Dr where
  xt : List Tmp
  R : List Tmp
  K : List Nat
  U : List Nat

def disj (a b : List Nat) : Bool := a.all fun x => !b.contains x
def subs (a b : List Nat) : Bool := a.all fun x => b.contains x

def growXt (xt : List Tmp) (o : Oper) : List Tmp := match o.dst with
  | some x => bif xt.contains x then (match o.op with
      | .move (.tmp y) | .assign (.tmp y) => y :: xt
      | _ => match appOp o with
        | some (t, _, _) => t :: xt
        | none => xt) else xt
  | none => xt
def growDq (ops : List Oper) (dq : List Tmp) (o : Oper) : List Tmp := match o.dst with
  | some x => bif (appOp o).isSome || (readsOf ops o).any (fun t => dq.contains t) then x :: dq else dq
  | none => dq

def drOf (ops : List Oper) (s : St) : Dr :=
  let xt := (ops.reverse ++ ops.reverse).foldl growXt (ops.filterMap fun o => (appOp o).map (·.1))
  let dq := ops.foldl (growDq ops) xt
  let R := ((ops.filter fun o => o.dst.isSome && (appOp o).isNone).flatMap (readsOf ops)).filter fun t => !dq.contains t
  { xt, R, K := xt.flatMap fun t => siteKey t 0 :: (s.env t).ids,
    U := (R.flatMap fun t => (s.env t).ids) ++ ((dstsOf ops).filter fun t => R.contains t).map fun t => siteKey t 0 }

def flatApp (C : Cfg) (o : Oper) : Bool := match o.op with
  | .call { argTypes, .. } => ((argTypes[0]?).bind C.dty).isNone
  | _ => false
def opChk (C : Cfg) (ops : List Oper) (D : Dr) (s : St) (o : Oper) : Bool := o.guard.isNone && match o.dst with
  | some x => match appOp o with
    | some (t, _, _) => flatApp C o && !D.R.contains x && D.xt.contains t && (!D.xt.contains x || D.K.contains (siteKey x 0))
    | none => quietOp C o && (!D.R.contains x || (freeOp C o && subs (readsOf ops o) D.R && D.U.contains (siteKey x 0))) &&
      (!D.xt.contains x || (match o.op with
        | .move (.tmp y) | .assign (.tmp y) => D.xt.contains y && D.K.contains (siteKey x 0)
        | .buildSlice .. => D.K.contains (siteKey x 0)
        | .call { callee := .value (.func _), .. } => freeOp C o && D.K.contains (siteKey x 0)
        | _ => false))
  | none => storeOp C o && match o.op with
    | .store _ (.tmp q) _ => !(dstsOf ops).contains q && disj (s.env q).ids D.U
    | _ => false

def startChk (D : Dr) (s : St) : Bool :=
  disj D.K D.U && D.R.all (fun r => subs (s.env r).ids D.U && (s.env r).ids.all fun i => match s.sto i with
    | some e => e.noIds
    | none => true) && D.xt.all (fun t => subs (s.env t).ids D.K)

/-- An operation that does not lead to rows that are appended to, beside an append. -/
def commA (C : Cfg) (ops : List Oper) (D : Dr) (a b : Oper) : Bool := match a.dst, appOp b with
  | some x, some (_, _, d) => quietOp C a && freeOp C a && !(readsOf ops b).contains x && !Nat.beq x d && !(readsOf ops a).contains d && subs (readsOf ops a) D.R
  | _, _ => false
def commX (C : Cfg) (ops : List Oper) (D : Dr) (a b : Oper) : Bool := commB C ops a b || commA C ops D a b || commA C ops D b a

/-- Does it come behind all that stand ahead of it, and append nothing. -/
def allBelow (ops : List Oper) (i : Nat) : Bool := (match (ancList ops [])[i]? with
  | some m => (List.range i).all fun k => m.testBit k
  | none => false) && (match ops[i]? with
  | some o => o.guard.isNone && (appOp o).isNone
  | none => false)
/-- From here on the order is fixed. -/
def tails (ops : List Oper) (j : Nat) : Bool := (List.range ops.length).all fun i => Nat.blt i j || allBelow ops i

def drawApp (C : Cfg) (ops : List Oper) (s : St) : Bool := let D := drOf ((ops.zipIdx.filter fun x => !tails ops x.2).map (·.1)) s
  ops.zipIdx.all (fun x => tails ops x.2 || opChk C ops D s x.1) && startChk D s && allPairsOk (commX C ops D) ops ops (ancList ops []) 0

def ptrSlot : Slot → Bool
  | .one (.cell (.ptr _ _)) => true
  | _ => false
/-- A pointer that is copied, beside an append. -/
def commM (C : Cfg) (ops : List Oper) (s0 : St) (a b : Oper) : Bool := match a.op, a.dst, appOp b with
  | .move (.tmp z), some x, some (_, _, d) => flatApp C b && ptrSlot (s0.env z) && !(dstsOf ops).contains z && !(readsOf ops b).contains x && !Nat.beq x d
  | _, _, _ => false
/-- A call to which a value is given away. -/
def giveOp (C : Cfg) (o : Oper) : Option Tmp := match o.op, o.dst with
  | .call { callee := .value (.func f), .. }, some d => if ((C.sig f).lend.isNone && !(C.sig f).io.isEmpty) = true then some d else none
  | _, _ => none
def commG (C : Cfg) (ops : List Oper) (s0 : St) (a b : Oper) : Bool := match a.op, a.dst, giveOp C b with
  | .move (.tmp z), some x, some d => ptrSlot (s0.env z) && !(dstsOf ops).contains z && !(readsOf ops b).contains x && !Nat.beq x d
  | _, _, _ => false
def commZ (C : Cfg) (ops : List Oper) (s0 : St) (a b : Oper) : Bool := commB C ops a b || commM C ops s0 a b || commM C ops s0 b a || commG C ops s0 a b || commG C ops s0 b a
def drawMov (C : Cfg) (ops : List Oper) (s : St) : Bool :=
  ops.all (fun o => o.guard.isNone && (quietOp C o || storeOp C o || ((appOp o).isSome && flatApp C o) || (giveOp C o).isSome)) && allPairsOk (commZ C ops s) ops ops (ancList ops []) 0

/-- A call that is lent a box: its destination, and the slot of the pointer. -/
def boxOp (C : Cfg) (o : Oper) : Option (Tmp × Tmp) := match o.op, o.dst with
  | .call { callee := .value (.func f), args, .. }, some d => match (C.sig f).lend, C.P.funcs[f]? with
    | some i, some fn => match args.toList[i]? with
      | some (.tmp t) => bif (C.sig f).isMk || ((fn.params.toList[i]?).bind C.ty).isSome then none else some (d, t)
      | _ => none
    | _, _ => none
  | _, _ => none
/-- Does a slot point to a box whose rows lie for good, and to another one than 'bad'. -/
def slotOk (s0 : St) (bad : Option Nat) : Slot → Bool
  | .one (.cell (.ptr id 0)) => (match s0.sto id with
    | some (.box (some T) _) => !T.ob
    | _ => false) && !(bad == some id)
  | .one (.cell .undef) => true
  | _ => false
def candOk (ops : List Oper) (s0 : St) (bad : Option Nat) (t : Tmp) : Bool := slotOk s0 bad (s0.env t) && ops.all fun o => !(o.dst == some t) || (match o.op with
  | .move (.tmp z) => !(dstsOf ops).contains z && ptrSlot (s0.env z) && slotOk s0 bad (s0.env z)
  | _ => false)
/-- What copies a slot, or looks into a box, beside a call that is lent another box. -/
def commW (C : Cfg) (ops : List Oper) (s0 : St) (a b : Oper) : Bool := match a.op, a.dst, boxOp C b with
  | .move (.tmp z), some x, some (d, t) => ptrSlot (s0.env z) && !(dstsOf ops).contains z && !(readsOf ops b).contains x && !Nat.beq x d && candOk ops s0 none t
  | .load _ (.tmp z), some x, some (d, t) => quietOp C a && !(dstsOf ops).contains z && !(readsOf ops b).contains x && !Nat.beq x d && (match s0.env z with
    | .one (.cell (.ptr id _)) => candOk ops s0 (some id) t
    | _ => false)
  | _, _, _ => false
def commV (C : Cfg) (ops : List Oper) (s0 : St) (a b : Oper) : Bool := commB C ops a b || commW C ops s0 a b || commW C ops s0 b a
def drawBox (C : Cfg) (ops : List Oper) (s : St) : Bool :=
  ops.zipIdx.all (fun x => tails ops x.2 || (x.1.guard.isNone && (quietOp C x.1 || storeOp C x.1 || (match boxOp C x.1 with
    | some (_, t) => candOk ops s none t
    | none => false)))) && ops.all (fun o => o.guard.isNone) && allPairsOk (commV C ops s) ops ops (ancList ops []) 0

/-! ### Looks beside what gives rows up -/
def Slot.kills (K : List Nat) (v : Slot) : Slot := K.foldl (fun v id => v.kill id) v
def Entry.kills (K : List Nat) (e : Entry) : Entry := K.foldl (fun e id => e.kill id) e

/-- Does it copy a slot, or look into a box, and make no row. -/
def lookOp (C : Cfg) (o : Oper) : Bool := match o.op with
  | .move (.tmp _) => (C.dty o.type).isSome || (C.elem o.type).isNone
  | .nilCheck _ | .fieldAddr .. | .load .. | .slice _ _ _ _ none => true
  | _ => false
def drawLook (C : Cfg) (ops : List Oper) (s : St) : Bool := false

/-! ### Looks beside calls that are lent boxes, and beside stores into boxes -/
def notNil : Slot → Bool
  | .one (.cell .nil) => false
  | _ => true
/-- Does it look, and make no row. -/
def lookE (C : Cfg) (nn : List Tmp) (o : Oper) : Bool := lookOp C o || match o.op with
  | .move (.tmp z) => nn.contains z
  | .indexAddr .. | .index .. | .binOp .. | .unOp .. | .extract .. | .build .. | .field .. => true
  | .buildSlice t _ _ => C.brow o.dst t
  | .call { callee := .builtin .len, .. } => true
  | _ => false
/-- A call that answers one plain value. -/
def plainRes (C : Cfg) (o : Oper) : Bool := match o.op with
  | .call { callee := .value (.func f), .. } => match C.P.funcs[f]? with
    | some fn => Nat.beq fn.resultTypes.size 1 && (match resTy C fn.resultTypes.toList with
      | some t => t.plain
      | none => false)
    | none => false
  | _ => false
/-- The numbers to which a slot may lead that holds a pointer. -/
def ptrIds (ops : List Oper) (s0 : St) (t : Tmp) : List Nat := (s0.env t).ids ++ ops.flatMap fun o => bif o.dst == some t then (match o.op with
  | .move (.tmp z) => (s0.env z).ids
  | _ => []) else []
/-- A store into a box: the slot of the pointer. -/
def bstoreOp (C : Cfg) (ops : List Oper) (s0 : St) (o : Oper) : Option Tmp := match o.op, o.dst with
  | .store t (.tmp q) _, none => bif !C.gives.contains t && !(dstsOf ops).contains q && ptrSlot (s0.env q) then some q else none
  | _, _ => none
/-- 'LS': slots of looks; 'Z': other slots that they look at; 'NN': slots that hold no nil; 'P': where the looks lead. -/
structure De where
  LS : List Tmp
  Z : List Tmp
  NN : List Tmp
  P : List Nat
def boxIds (s : St) (i : Nat) : List Nat := match s.sto i with
  | some (.box _ cs) => cs.flatMap Cell.ids
  | _ => []
def growE (C : Cfg) (ops : List Oper) (s : St) (bad : List Nat) (nn LS : List Tmp) (o : Oper) : List Tmp := match o.dst with
  | some x => bif ((boxOp C o).isSome && plainRes C o) || (quietOp C o && lookE C nn o && (readsOf ops o).all (fun r => LS.contains r || (!(dstsOf ops).contains r && disj ((s.env r).ids ++ (s.env r).ids.flatMap (boxIds s)) bad))) then x :: LS else LS
  | none => LS
def deOf (C : Cfg) (ops : List Oper) (s : St) (cut : Nat) : De :=
  let nt := ops.take cut
  let bad := nt.flatMap fun o => match boxOp C o with
    | some (_, t) => ptrIds ops s t
    | none => match bstoreOp C ops s o with
      | some q => (s.env q).ids
      | none => []
  let NN := (nt.flatMap (readsOf ops)).filter fun r => !(dstsOf ops).contains r && notNil (s.env r)
  let LS := nt.foldl (growE C ops s bad NN) []
  let Z := ((nt.filter fun o => (boxOp C o).isNone && match o.dst with
    | some x => LS.contains x
    | none => false).flatMap (readsOf ops)).filter fun r => !(dstsOf ops).contains r
  let base := (LS ++ Z).flatMap fun t => (s.env t).ids
  { LS, Z, NN, P := base ++ base.flatMap (boxIds s) }
def startE (ops : List Oper) (D : De) (s : St) : Bool :=
  D.P.all (fun i => match s.sto i with
    | some (.box _ cs) => cs.all fun c => subs c.ids D.P
    | some _ => true
    | none => false) && D.LS.all (fun t => subs (s.env t).ids D.P) && D.Z.all (fun t => subs (s.env t).ids D.P) && D.NN.all fun t => !(dstsOf ops).contains t && notNil (s.env t)
/-- A call that is lent a box, or a store into a box, apart from where the looks lead. -/
def sideOk (C : Cfg) (ops : List Oper) (s0 : St) (D : De) (o : Oper) : Bool := match boxOp C o with
  | some (d, t) => candOk ops s0 none t && disj (ptrIds ops s0 t) D.P && !D.Z.contains d && (!D.LS.contains d || plainRes C o)
  | none => match bstoreOp C ops s0 o with
    | some q => disj (s0.env q).ids D.P
    | none => false
def opChkE (C : Cfg) (ops : List Oper) (s0 : St) (D : De) (o : Oper) : Bool := sideOk C ops s0 D o || (quietOp C o && match o.dst with
  | none => false
  | some x => bif D.LS.contains x then lookE C D.NN o && (readsOf ops o).all (fun r => D.LS.contains r || D.Z.contains r) else !D.Z.contains x)
def commE1 (C : Cfg) (ops : List Oper) (s0 : St) (D : De) (a b : Oper) : Bool := quietOp C a && lookE C D.NN a && sideOk C ops s0 D b && (readsOf ops a).all (fun r => D.LS.contains r || D.Z.contains r) && (match a.dst with
  | some x => D.LS.contains x && !(readsOf ops b).contains x && !(b.dst == some x)
  | none => false) && match b.dst with
  | some d => !(readsOf ops a).contains d
  | none => true
def commE (C : Cfg) (ops : List Oper) (s0 : St) (D : De) (a b : Oper) : Bool := commV C ops s0 a b || commE1 C ops s0 D a b || commE1 C ops s0 D b a
/-- From here on, where no order is fixed, either will do by the text alone. -/
def cutOk (C : Cfg) (ops : List Oper) (j : Nat) : Bool := (List.range ops.length).all fun i => Nat.blt i j || (match (ancList ops [])[i]?, ops[i]? with
  | some m, some o => (List.range i).all fun k => m.testBit k || (Nat.ble j k && match ops[k]? with
    | some p => commB C ops p o
    | none => false)
  | _, _ => false)
def cutOf (C : Cfg) (ops : List Oper) : Nat := ((List.range ops.length).find? (cutOk C ops)).getD ops.length
def drawSide (C : Cfg) (ops : List Oper) (s : St) : Bool := let c := cutOf C ops; let D := deOf C ops s c
  cutOk C ops c && ops.zipIdx.all (fun x => Nat.ble c x.2 || opChkE C ops s D x.1) && ops.all (fun o => o.guard.isNone) && startE ops D s && allPairsOk (commE C ops s D) ops ops (ancList ops []) 0

def addNew (acc : List Nat) : List Nat → List Nat
  | [] => acc
  | x :: r => if acc.contains x then addNew acc r else addNew (acc ++ [x]) r

/-- All that can be reached. -/
def reach (σ : Nat → Option Entry) : Nat → Nat → List Nat → List Nat
  | 0, _, acc => acc
  | n + 1, p, acc => match acc[p]? with
    | none => acc
    | some id => match σ id with
      | some (.box _ cs) => reach σ n (p + 1) (addNew acc (cs.flatMap Cell.ids))
      | _ => reach σ n (p + 1) acc

def posOf : List Nat → Nat → Nat → Option Nat
  | [], _, _ => none
  | x :: r, id, p => bif Nat.beq x id then some p else posOf r id (p + 1)

def renId (order : List Nat) (id : Nat) : Option Nat := (posOf order id 0).map headKey

def capsRen (r : Nat → Option Nat) : List Cap → Option (List Cap)
  | [] => some []
  | .ro t x :: cs => (capsRen r cs).map (.ro t x :: ·)
  | .ptr id :: cs => match r id, capsRen r cs with
    | some id, some cs => some (.ptr id :: cs)
    | _, _ => none
/-- A cell under new numbers; what has none is lost. -/
def Cell.ren (r : Nat → Option Nat) : Cell → Cell
  | .ref id => match r id with
    | some id => .ref id
    | none => .undef
  | .sub id o n => match r id with
    | some id => .sub id o n
    | none => .undef
  | .ptr id o => match r id with
    | some id => .ptr id o
    | none => .undef
  | .eptr id i o => match r id with
    | some id => .eptr id i o
    | none => .undef
  | .clo f caps => match capsRen r caps with
    | some caps => .clo f caps
    | none => .undef
  | .dref id => match r id with
    | some id => .dref id
    | none => .undef
  | .dptr id i o => match r id with
    | some id => .dptr id i o
    | none => .undef
  | .inn id i o => match r id with
    | some id => .inn id i o
    | none => .undef
  | .bool b => .prop (b = true) (instDecidableEqBool b true)
  | .prop p d => .prop (@decide p d = true) (instDecidableEqBool (@decide p d) true)
  | c => c
def Comp.ren (r : Nat → Option Nat) : Comp → Comp
  | .cell c => .cell (c.ren r)
  | .agg cs => .agg (cs.map (Cell.ren r))
def Slot.ren (r : Nat → Option Nat) : Slot → Slot
  | .one c => .one (c.ren r)
  | .tup cs => .tup (cs.map (Comp.ren r))
def Entry.ren (r : Nat → Option Nat) : Entry → Entry
  | .box t cs => .box t (cs.map (Cell.ren r))
  | e => e

/-- What a loop's head hands to its next round. -/
structure Head where
  vals : List Slot
  sto : List Entry

def envOf : List Nat → List Slot → Nat → Slot
  | k :: ks, v :: vs, t => bif Nat.beq k t then v else envOf ks vs t
  | _, _, _ => .undef

def stoOf : List Entry → Nat → Nat → Option Entry
  | [], _, _ => none
  | e :: r, p, k => bif Nat.beq k (headKey p) then some e else stoOf r (p + 1) k

def Head.st (n : Nat) (keep : List Nat) (h : Head) : St := { n, env := envOf keep h.vals, sto := stoOf h.sto 0 }

def Slot.alive : Slot → Bool
  | .one (.cell .undef) | .one (.cell .void) => false
  | _ => true

def seqOpt {α : Type} : List (Option α) → Option (List α)
  | [] => some []
  | some a :: r => match seqOpt r with
    | some l => some (a :: l)
    | none => none
  | none :: _ => none

def headOf (keep : List Nat) (s : St) : Option Head :=
  let vals := keep.map s.env
  let order := reach s.sto 256 0 (addNew [] (vals.flatMap Slot.ids))
  let r := renId order
  match seqOpt (order.map fun id => (s.sto id).map (Entry.ren r)) with
  | some es => some { vals := vals.map (Slot.ren r), sto := es }
  | none => none

section
variable {R : Type}
abbrev K (R : Type) := Ex → St → Option R

/-- Behind a round of a loop: the next one, or what stands behind. -/
def againK (keep : List Nat) (n : Nat) (again : Head → Option R) (κ : K R) : K R := fun x s => match x with
  | .normal => bif Nat.beq s.n n then (match headOf keep s with
    | some h => again h
    | none => none) else none
  | x => κ x s

/-- The rounds of a loop. -/
def iter (keep : List Nat) (n : Nat) (body : St → K R → Option R) (κ : K R) : Nat → Head → Option R
  | 0, _ => none
  | m + 1, h => body (h.st n keep) (againK keep n (iter keep n body κ m) κ)

def seqK (next : St → Option R) (κ : K R) : K R := fun x s => match x with
  | .normal => next s
  | x => κ x s

def blockK (id : Nat) (κ : K R) : K R := fun x s => match x with
  | .exit i => bif Nat.beq i id then κ .normal s else κ (.exit i) s
  | x => κ x s

def keepOf (vars : List Nat) (s : St) : List Nat := vars.filter fun t => (s.env t).alive

def codeC (C : Cfg) (callF : FuncId → (t : Ty) → List Arg → Option t.den) (vars : List Nat) (k : Nat) : Code → St → K R → Option R
  | .skip, s, κ => κ .normal s
  | .ret, s, κ => κ .ret s
  | .exit id, s, κ => κ (.exit id) s
  | .seq a b, s, κ => codeC C callF vars k a s (seqK (fun s => codeC C callF vars k b s κ) κ)
  | .block id b, s, κ => codeC C callF vars k b s (blockK id κ)
  | .cond c a b, s, κ => match s.ev c with
    | .one (.cell (.bool true)) => codeC C callF vars k a s κ
    | .one (.cell (.bool false)) => codeC C callF vars k b s κ
    | .one (.cell (.prop p d)) => @ite _ p d (codeC C callF vars k a s κ) (codeC C callF vars k b s κ)
    | _ => none
  | .region _ ops draw, s, κ => bif draw && !(drawOk C ops.toList || drawDyn C ops.toList s || drawApp C ops.toList s || drawMov C ops.toList s || (drawBox C ops.toList s || (drawLook C ops.toList s || drawSide C ops.toList s))) then none else
    (opsT C ops.toList ops.toList.zipIdx s).run callF (κ .normal)
  | .loop b, s, κ =>
    let keep := keepOf vars s
    match headOf keep s with
    | some h => iter keep s.n (fun s κ => codeC C callF vars k b s κ) κ k h
    | none => none
  | _, _, _ => none
end

/-- The rows of an argument that is lent, by their numbers. -/
def pinFrom : List (Nat × Entry) → Nat → List (Nat × Entry)
  | [], _ => []
  | (k, .arr t l _) :: r, j => (k, .arr t l (.pinned j)) :: pinFrom r (j + 1)
  | (k, .deep t l _) :: r, j => (k, .deep t l (some j)) :: pinFrom r (j + 1)
  | x :: r, j => x :: pinFrom r (j + 1)

def parSlot (i : Nat) : Arg → Slot × List (Nat × Entry)
  | .val t x => (.one (compOf t.kept t x), [])
  | .kval t x => (.one (compOf true t x), [])
  | .clo f caps => (.cell (.clo f caps), [])
  | .rp t x => (.cell (.rptr false t x 0), [])
  | .give t x => match regCells true (parKey i) t x 0 with
    | (cs, es, _) => (.one (compOfCells t.isAgg cs), es)
  | .ioBox t x => match regCells t.ob (fun j => parKey i (j + 1)) t x 0 with
    | (cs, es, _) => (.cell (.ptr (parKey i 0) 0), (parKey i 0, .box (some t) cs) :: es)
  | .lend t x => match regCells true (parKey i) t x 0 with
    | (cs, es, _) => (.one (compOfCells t.isAgg cs), pinFrom es 0)

def parSlots : Nat → List Arg → List Slot × List (Nat × Entry)
  | _, [] => ([], [])
  | i, a :: r => match parSlot i a, parSlots (i + 1) r with
    | (v, es), (vs, fs) => (v :: vs, es ++ fs)

def initSt (lo : Nat) (fn : Func) (args : List Arg) : St :=
  match parSlots 0 args with
  | (vs, es) => { n := (args.length + (fn.ntmps - args.length)) * 1048576 + lo, env := fun t => (vs[t]?).getD .undef, sto := assoc es }

/-- The values of the result variables. -/
def resComps (C : Cfg) (s : St) : List ResultVar → Option (List Comp)
  | [] => some []
  | .tmp t :: r => match s.env t, resComps C s r with
    | .one c, some r => some (c :: r)
    | _, _ => none
  | .cell a t :: r => match C.shape t, s.env a, resComps C s r with
    | some (n, agg), .one (.cell p), some r => match s.cellsAt n agg p with
      | .ret c => some (c :: r)
      | _ => none
    | _, _, _ => none

/-- What the arguments are, by kind: 0 handed, or a row given away; 2 a box that is lent. -/
def Arg.kind : Arg → Nat
  | .ioBox _ _ => 2
  | _ => 0

/-- The argument that is lent. -/
def findLend : List Arg → Nat → Option (Nat × Ty)
  | [], _ => none
  | .lend t _ :: _, i => some (i, t)
  | _ :: r, i => findLend r (i + 1)

/-- The box that is lent. -/
def findBox : List Arg → Nat → Option (Nat × Ty)
  | [], _ => none
  | .ioBox t _ :: _, i => some (i, t)
  | _ :: r, i => findBox r (i + 1)

def ofIo (s : St) : Nat → List Nat → (t : Ty) → Option (t.den × List Nat)
  | _, [], .unit => some ((), [])
  | i, 1 :: r, .pair (.list u) b => match s.sto (parKey i 0), ofIo s (i + 1) r b with
    | some (.arr _ l (.pinned _)), some (y, ids) => match castList (u := u) l with
      | some l => some ((l, y), parKey i 0 :: ids)
      | none => none
    | _, _ => none
  | i, 2 :: r, .pair a b => match s.sto (parKey i 0), ofIo s (i + 1) r b with
    | some (.box _ cs), some (y, ids) => match ofCellsAll s.sto .give a cs with
      | some (x, js) => some ((x, y), js ++ ids)
      | none => none
    | _, _ => none
  | i, 0 :: r, t => ofIo s (i + 1) r t
  | _, _, _ => none

def tupOk : Ty → List Comp → Bool
  | .unit, [] => true
  | .pair a b, c :: cs => aggOk a c && Nat.beq c.cells.length a.sz && tupOk b cs
  | _, _ => false
/-- Are the results of the shape of their type. -/
def shapeOk (one : Bool) (t : Ty) (vs : List Comp) : Bool :=
  if one then (match vs with
    | [c] => aggOk t c
    | _ => false) else tupOk t vs

/-- What a call answers. -/
def retK (C : Cfg) (own : Bool) (fn : Func) (kinds : List Nat) (t : Ty) : K t.den := fun x s => match x with
  | .exit _ => none
  | _ => bif Nat.beq fn.results.size fn.resultTypes.size && !kinds.any (!Nat.beq 0 ·) then
    (match resComps C s fn.results.toList with
    | some vs => bif vs.all Comp.known && shapeOk (Nat.beq fn.resultTypes.size 1) t vs then
        (match ofCellsAll s.sto (bif own then Mode.give else Mode.keep) t (vs.flatMap Comp.cells) with
        | some (x, ids) => bif !own || nodup ids then some x else none
        | none => none) else none
    | none => none) else none

/-- The rows that were lent, as they are in the end. -/
def backOf (σ : Nat → Option Entry) : (T : Ty) → List Cell → Nat → Option (T.rows.den × List Cell × Nat)
  | .list t, .ref id :: r, j => match σ id with
    | some (.arr _ l (.pinned n)) => if n = j then (castList (u := t) l).map fun l => (l, r, j + 1) else none
    | _ => none
  | .dlist t, .dref id :: r, j => match σ id with
    | some (.deep _ l (some n)) => if n = j then (castList (u := t) l).map fun l => (l, r, j + 1) else none
    | _ => none
  | .pair a b, cs, j => match backOf σ a cs j with
    | some (x, r, j) => (match backOf σ b r j with
      | some (y, r, j) => some ((x, y), r, j)
      | none => none)
    | none => none
  | .unit, r, j => some ((), r, j)
  | .bool, _ :: r, j => some ((), r, j)
  | .int _, _ :: r, j => some ((), r, j)
  | .str, _ :: r, j => some ((), r, j)
  | _, _, _ => none

/-- What a call answers to which the argument of number 'i' is lent. -/
def retL (C : Cfg) (own : Bool) (fn : Func) (i : Nat) (T : Ty) : (t : Ty) → K t.den
  | .pair rt T' => fun x s => if h : T.rows = T' then (match retK C own fn [] rt x s, s.env i with
    | some y, .one c => (match backOf s.sto T c.cells 0 with
      | some (z, [], _) => some (y, h ▸ z)
      | _ => none)
    | _, _ => none) else none
  | _ => fun _ _ => none

/-- The results, and what the box holds that the argument of number 'i' points to. -/
def boxRes (C : Cfg) (fn : Func) (i : Nat) (T rt : Ty) (s : St) : Option (rt.den × T.den) :=
  bif Nat.beq fn.results.size fn.resultTypes.size then
    (match resComps C s fn.results.toList, s.env i with
    | some vs, .one (.cell (.ptr id 0)) => (match s.sto id with
      | some (.box _ cs) => bif vs.all Comp.known && shapeOk (Nat.beq fn.resultTypes.size 1) rt vs then
        (match ofCellsAll s.sto .give rt (vs.flatMap Comp.cells), ofCellsAll s.sto (bif T.ob then .give else .keep) T cs with
        | some (y, ids), some (z, js) => bif nodup (ids ++ js) && (T.ob || js.isEmpty) then some (y, z) else none
        | _, _ => none) else none
      | _ => none)
    | _, _ => none) else none

/-- What a call answers to which a box is lent. -/
def retB (C : Cfg) (fn : Func) (i : Nat) (T : Ty) : (t : Ty) → K t.den
  | .pair rt T' => fun x s => if h : T = T' then match x with
    | .exit _ => none
    | _ => match boxRes C fn i T rt s with
      | some r => some (r.1, h ▸ r.2)
      | none => none
    else none
  | _ => fun _ _ => none

/-- What the box holds that a call makes. -/
def retM (C : Cfg) (fn : Func) (t : Ty) : K t.den := fun x s => match x with
  | .exit _ => none
  | _ => bif Nat.beq fn.results.size fn.resultTypes.size && Nat.beq fn.resultTypes.size 1 then
    (match resComps C s fn.results.toList with
    | some [.cell (.ptr id 0)] => (match s.sto id with
      | some (.box (some u) cs) => if u = t then (match ofCellsAll s.sto .keep t cs with
        | some (z, []) => some z
        | _ => none) else none
      | _ => none)
    | _ => none) else none

def run (C : Cfg) : Nat → FuncId → (t : Ty) → List Arg → Option t.den
  | 0, _, _, _ => none
  | k + 1, f, t, args => match C.prim f with
    | some p => p t args
    | none => match C.P.funcs[f]? with
      | some fn => match fn.body with
        | some c => match findLend args 0 with
          | none => (match findBox args 0 with
            | none => bif (C.sig f).isMk then codeC C (run C k) ((assoc C.vars f).getD []) k c (initSt 0 fn args) (retM C fn t) else codeC C (run C k) ((assoc C.vars f).getD []) k c (initSt 0 fn args) (retK C (C.sig f).own fn (args.map Arg.kind) t)
            | some (i, T) => bif Nat.blt i 1000 then codeC C (run C k) ((assoc C.vars f).getD []) k c (initSt (i + 1) fn args) (retB C fn i T t) else none)
          | some (i, T) => codeC C (run C k) ((assoc C.vars f).getD []) k c (initSt 0 fn args) (retL C (C.sig f).own fn i T t)
        | none => none
      | none => none

/-! ### A loop by its place in its function. -/
inductive Way where
  | l | r | b | t | e | p

def codeAt : Code → List Way → Code
  | c, [] => c
  | .seq a _, .l :: w => codeAt a w
  | .seq _ b, .r :: w => codeAt b w
  | .block _ b, .b :: w => codeAt b w
  | .cond _ a _, .t :: w => codeAt a w
  | .cond _ _ b, .e :: w => codeAt b w
  | .loop b, .p :: w => codeAt b w
  | _, _ => .refuse ""

/-- A loop round another one: what it keeps, and the rounds that it has left. -/
structure Out where
  keep : List Nat
  left : Nat

def plugAt {R : Type} (C : Cfg) (callF : FuncId → (t : Ty) → List Arg → Option t.den) (vars : List Nat) (k n : Nat) : Code → List Way → List Out → K R → K R
  | .seq a b, .l :: w, os, κ => plugAt C callF vars k n a w os (seqK (fun s => codeC C callF vars k b s κ) κ)
  | .seq _ b, .r :: w, os, κ => plugAt C callF vars k n b w os κ
  | .block id b, .b :: w, os, κ => plugAt C callF vars k n b w os (blockK id κ)
  | .cond _ a _, .t :: w, os, κ => plugAt C callF vars k n a w os κ
  | .cond _ _ b, .e :: w, os, κ => plugAt C callF vars k n b w os κ
  | .loop b, .p :: w, o :: os, κ => plugAt C callF vars k n b w os (againK o.keep n (iter o.keep n (fun s κ => codeC C callF vars k b s κ) κ o.left) κ)
  | _, _, _, κ => κ

/-- A function's loop at the place 'w', from a head on. -/
def loopRun (C : Cfg) (k : Nat) (f : FuncId) (t : Ty) (kinds : List Nat) (w : List Way) (outs : List Out) (keep : List Nat) (m : Nat) (h : Head) : Option t.den :=
  match C.P.funcs[f]? with
  | some fn => match fn.body with
    | some c => match codeAt c w with
      | .loop b =>
        let vars := (assoc C.vars f).getD []
        let n := (kinds.length + (fn.ntmps - kinds.length)) * 1048576 + 0
        iter keep n (fun s κ => codeC C (run C k) vars k b s κ) (plugAt C (run C k) vars k n c w outs (retK C (C.sig f).own fn kinds t)) m h
      | _ => none
    | none => none
  | none => none

/-- The same of a function to which the argument of number 'i' is lent. -/
def loopRunL (C : Cfg) (k : Nat) (f : FuncId) (t : Ty) (i : Nat) (T : Ty) (nargs : Nat) (w : List Way) (outs : List Out) (keep : List Nat) (m : Nat) (h : Head) : Option t.den :=
  match C.P.funcs[f]? with
  | some fn => match fn.body with
    | some c => match codeAt c w with
      | .loop b =>
        let vars := (assoc C.vars f).getD []
        let n := (nargs + (fn.ntmps - nargs)) * 1048576 + 0
        iter keep n (fun s κ => codeC C (run C k) vars k b s κ) (plugAt C (run C k) vars k n c w outs (retL C (C.sig f).own fn i T t)) m h
      | _ => none
    | none => none
  | none => none

/-- The same of a function to which a box is lent. -/
def loopRunB (C : Cfg) (k : Nat) (f : FuncId) (t : Ty) (i : Nat) (T : Ty) (nargs : Nat) (w : List Way) (outs : List Out) (keep : List Nat) (m : Nat) (h : Head) : Option t.den :=
  match C.P.funcs[f]? with
  | some fn => match fn.body with
    | some c => match codeAt c w with
      | .loop b =>
        let vars := (assoc C.vars f).getD []
        let n := (nargs + (fn.ntmps - nargs)) * 1048576 + (i + 1)
        iter keep n (fun s κ => codeC C (run C k) vars k b s κ) (plugAt C (run C k) vars k n c w outs (retB C fn i T t)) m h
      | _ => none
    | none => none
  | none => none

/-- The same of a function that makes a box. -/
def loopRunM (C : Cfg) (k : Nat) (f : FuncId) (t : Ty) (nargs : Nat) (w : List Way) (outs : List Out) (keep : List Nat) (m : Nat) (h : Head) : Option t.den :=
  match C.P.funcs[f]? with
  | some fn => match fn.body with
    | some c => match codeAt c w with
      | .loop b =>
        let vars := (assoc C.vars f).getD []
        let n := (nargs + (fn.ntmps - nargs)) * 1048576 + 0
        iter keep n (fun s κ => codeC C (run C k) vars k b s κ) (plugAt C (run C k) vars k n c w outs (retM C fn t)) m h
      | _ => none
    | none => none
  | none => none

end Go.Flat
