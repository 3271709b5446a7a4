/- A plain evaluator of the program's code over numbers, bytes and lists: what a call is to answer, with no memory in sight. That it answers as the program does is shown in the texts behind it. No condition. -/
import Derived.Calls
import Derived.Orders
set_option linter.unusedVariables false
namespace Go.Flat
inductive Ty where
 | bool | int (k : IntKind) | str | list (t : Ty) | unit | pair (a b : Ty) | dh (t : Ty)
 deriving DecidableEq
@[reducible] def Ty.den : Ty -> Type
 | .bool => Bool
 | .int _ => Int
 | .str => ByteArray
 | .list t => List t.den
 | .unit => Unit
 | .pair a b => a.den × b.den
 | .dh t => List t.den
def Ty.kept : Ty -> Bool
 | .list (.int .u8) => true
 | _ => false
def Ty.ob : Ty -> Bool
 | .pair (.list (.int .u8)) _ => false
 | _ => true
def Ty.dflt : (t : Ty) -> t.den
 | .bool => false
 | .int _ => 0
 | .str => ByteArray.empty
 | .list _ => []
 | .unit => ()
 | .pair a b => (a.dflt, b.dflt)
 | .dh _ => []
def Ty.rows : Ty -> Ty
 | .list t => .list t
 | .pair a b => .pair a.rows b.rows
 | .dh t => .dh t
 | .bool | .int _ | .str | .unit => .unit
def Ty.sz : Ty -> Nat
 | .unit => 0
 | .pair a b => a.sz + b.sz
 | _ => 1
def Ty.isAgg : Ty -> Bool
 | .unit | .pair _ _ => true
 | _ => false
inductive Cap where
 | ptr (id : Nat)
 | ro (t : Ty) (x : t.den)
inductive Cell where
 | undef
 | void
 | bool (b : Bool)
 | prop (p : Prop) (d : Decidable p)
 | int (k : IntKind) (n : Int)
 | str (s : ByteArray)
 | nil
 | list (fr : Bool) (t : Ty) (l : List t.den)
 | ref (id : Nat)
 | sub (id off len : Nat)
 | ptr (id off : Nat)
 | lD (id i off : Nat)
 | pF (fr : Bool) (t : Ty) (x : t.den) (off : Nat)
 | oq (f : FuncId) (caps : List Cap)
 | nk (id : Nat)
 | ny (id i off : Nat)
 | inn (id i off : Nat)
inductive aH where
 | cell (c : Cell)
 | agg (cs : List Cell)
inductive Slot where
 | one (c : aH)
 | Co (cs : List aH)
@[reducible] def Cell.is (p : Prop) [d : Decidable p] : Cell := .prop p d
@[reducible] def Slot.cell (c : Cell) : Slot := .one (.cell c)
@[reducible] def Slot.undef : Slot := .one (.cell .undef)
def aH.cells : aH -> List Cell
 | .cell c => [c]
 | .agg cs => cs
inductive Own where
 | open | pinned (n : Nat) | frozen
 deriving DecidableEq
inductive Entry where
 | box (t : Option Ty) (cs : List Cell)
 | arr (t : Ty) (l : List t.den) (o : Own)
 | deep (t : Ty) (l : List t.den) (pin : Option Nat)
structure St where
 n : Nat
 env : Nat -> Slot
 ak : Nat -> Option Entry
inductive Arg where
 | val (t : Ty) (x : t.den)
 | oq (f : FuncId) (caps : List Cap)
 | rp (t : Ty) (x : t.den)
 | give (t : Ty) (x : t.den)
 | gJ (t : Ty) (x : t.den)
 | lend (t : Ty) (x : t.den)
 | Ug (t : Ty) (x : t.den)
def Arg.solid : Arg -> Arg
 | .val t x => .Ug t x
 | a => a
inductive T (α : Type) : Type where
 | ret (a : α)
 | fail
 | br (p : Prop) (d : Decidable p) (x y : T α)
 | call (f : FuncId) (t : Ty) (args : List Arg) (k : t.den -> T α)
namespace T
def bind {α β : Type} : T α -> (α -> T β) -> T β
 | .ret a, f => f a
 | .fail, _ => .fail
 | .br p d x y, f => .br p d (x.bind f) (y.bind f)
 | .call g t args k, f => .call g t args fun r => (k r).bind f
instance : Monad T where
 pure := T.ret
 bind := T.bind
def ofOption {α : Type} : Option α -> T α
 | some a => .ret a
 | none => .fail
def test {α : Type} (p : Prop) [d : Decidable p] (x y : T α) : T α := .br p d x y
def run {α R : Type} (ah : FuncId -> (t : Ty) -> List Arg -> Option t.den) : T α -> (α -> Option R) -> Option R
 | .ret a, κ => κ a
 | .fail, _ => none
 | .br p d x y, κ => @ite _ p d (x.run ah κ) (y.run ah κ)
 | .call f t args k, κ => (ah f t args).bind fun r => (k r).run ah κ
end T
structure ZV where
 io : List Nat := []
 own : Bool := true
 lend : Option Nat := none
 made : Ty := .unit
def ZV.xU (s : ZV) : Bool := match s.lend with
 | some n => Nat.beq n 1000
 | none => false
structure dA where
 P : Program
 tt : List (Nat × Option Ty)
 vars : List (Nat × List Nat) := []
 sigs : List (Nat × ZV) := []
 Lj : FuncId -> Option ((t : Ty) -> List Arg -> Option t.den) := fun _ => none
 tabs : List (String × List Int) := []
 mono : Bool := false
 gives : List Nat := []
 ptrs : List Nat := []
 DC : List Nat := []
 Yo : List (Nat × Nat) := []
 Uh : List Nat := []
 takes : List (Nat × Nat) := []
def assoc {α : Type} : List (Nat × α) -> Nat -> Option α
 | [], _ => none
 | (k, v) :: r, n => bif Nat.beq k n then some v else assoc r n
def Ll : List (Nat × Nat) -> Nat -> Nat -> Bool
 | [], _, _ => false
 | (a, b) :: r, x, y => (Nat.beq a x && Nat.beq b y) || Ll r x y
def dA.Sv (C : dA) (d : Option Tmp) (t : TypeId) : Bool := match d with
 | some d => Ll C.Yo d t
 | none => false
def dA.take (C : dA) (d : Option Tmp) (t : TypeId) : Bool := match d with
 | some d => Ll C.takes d t
 | none => false
def dA.xk (C : dA) (f : FuncId) (as : List Arg) : List Arg := bif C.DC.contains f then as.map Arg.solid else as
def dA.ty (C : dA) (t : TypeId) : Option Ty := (assoc C.tt t).bind id
def dA.sig (C : dA) (f : FuncId) : ZV := (assoc C.sigs f).getD {}
def dA.shape (C : dA) (t : TypeId) : Option (Nat × Bool) := (assoc C.tt t).map fun
 | some t => (t.sz, t.isAgg)
 | none => (1, false)
def dA.fieldAt (C : dA) (t : TypeId) (i : Nat) : Option (Nat × TypeId) :=
 match C.P.underlying t with
 | some (.struct fs) => (fs[i]?).map fun f => (f.offset, f.type)
 | _ => none
def dA.placeOf (C : dA) (t : TypeId) (i : Nat) : Option Nat :=
 match C.fieldAt t i with
 | some (off, u) => match C.shape u with
  | some (n + 1, _) => some off
  | _ => none
 | none => none
def dA.elem (C : dA) (t : TypeId) : Option (TypeId × Ty) :=
 match C.P.underlying t with
 | some (.slice e) => (C.ty e).map fun T => (e, T)
 | _ => none
def rd (t : Ty) (l : List t.den) (i : Int) : t.den := l.getD i.toNat t.dflt
def setAt (t : Ty) (l : List t.den) (i : Int) (f : t.den -> t.den) : List t.den := l.set i.toNat (f (rd t l i))
def bt (s : ByteArray) (i : Int) : Int := ((s.data.getD i.toNat 0).toNat : Int)
def bytesOf (s : ByteArray) : List Int := s.data.toList.map fun b => (b.toNat : Int)
def ofBytes (l : List Int) : ByteArray := ⟨(l.map fun n => UInt8.ofNat n.toNat).toArray⟩
def cellsOf (fr : Bool) : (t : Ty) -> t.den -> List Cell
 | .bool, b => [.prop (b = true) (instDecidableEqBool b true)]
 | .int k, n => [.int k n]
 | .str, s => [.str s]
 | .list t, l => [.list fr t l]
 | .unit, _ => []
 | .pair a b, x => cellsOf fr a x.1 ++ cellsOf fr b x.2
 | .dh t, l => [.list fr t l]
def zeroCells : Ty -> List Cell
 | .bool => [.bool false]
 | .int k => [.int k 0]
 | .str => [.str ByteArray.empty]
 | .list _ => [.nil]
 | .unit => []
 | .pair a b => zeroCells a ++ zeroCells b
 | .dh _ => [.nil]
def Al : Option Ty -> List Cell
 | some u => zeroCells u
 | none => [.undef]
def Ui : Option Ty -> Nat
 | some u => u.sz
 | none => 1
def zh (fr : Bool) (t : Ty) (x : t.den) : aH :=
 if t.isAgg then .agg (cellsOf fr t x) else match cellsOf fr t x with
  | [c] => .cell c
  | cs => .agg cs
def bG (agg : Bool) (cs : List Cell) : aH :=
 if agg then .agg cs else match cs with
  | [c] => .cell c
  | cs => .agg cs
inductive Mode where
 | look | keep | give
def gq {t u : Ty} (l : List t.den) : Option (List u.den) := if h : t = u then some (h ▸ l) else none
def iZ (σ : Nat -> Option Entry) (m : Mode) (t : Ty) : Cell -> Option (List t.den × List Nat)
 | .nil => some ([], [])
 | .list fr u l => match m, fr with
  | .look, _ | .keep, true => (gq l).map (·, [])
  | _, _ => none
 | .ref id => match σ id with
  | some (.arr u l o) => match m, o with
   | .give, .open => (gq l).map (·, [id])
   | .give, _ => none
   | .keep, .pinned _ => none
   | _, _ => (gq l).map (·, [id])
  | _ => none
 | .sub id off len => match σ id with
  | some (.arr u l o) => match m, o with
   | .give, .open => (gq ((l.drop off).take len)).map (·, [id])
   | .give, _ => none
   | .keep, .pinned _ => none
   | _, _ => (gq ((l.drop off).take len)).map (·, [id])
  | _ => none
 | _ => none
def kI (σ : Nat -> Option Entry) (m : Mode) (t : Ty) : Cell -> Option (List t.den × List Nat)
 | .nil => some ([], [])
 | .list fr u l => match m, fr with
  | .look, _ | .keep, true => (gq l).map (·, [])
  | _, _ => none
 | .nk id => match σ id with
  | some (.deep u l pin) => match m, pin with
   | .look, _ => (gq l).map (·, [id])
   | .give, none => (gq l).map (·, [id])
   | _, _ => none
  | _ => none
 | _ => none
def aG (σ : Nat -> Option Entry) (m : Mode) : (t : Ty) -> List Cell -> Option (t.den × List Cell × List Nat)
 | .bool, .bool b :: r => some (b, r, [])
 | .bool, .prop p d :: r => some (@decide p d, r, [])
 | .int k, .int k' n :: r => if k' = k then some (n, r, []) else none
 | .str, .str s :: r => some (s, r, [])
 | .list t, c :: r => (iZ σ m t c).map fun (l, ids) => (l, r, ids)
 | .dh t, c :: r => (kI σ m t c).map fun (l, ids) => (l, r, ids)
 | .unit, r => some ((), r, [])
 | .pair a b, cs => match aG σ m a cs with
  | some (x, r, ids) => (match aG σ m b r with
   | some (y, r', rD) => some ((x, y), r', ids ++ rD)
   | none => none)
  | none => none
 | _, _ => none
def bH (σ : Nat -> Option Entry) (m : Mode) (t : Ty) (cs : List Cell) : Option (t.den × List Nat) :=
 match aG σ m t cs with
 | some (x, [], ids) => some (x, ids)
 | _ => none
def upd {α : Type} (f : Nat -> α) (i : Nat) (v : α) : Nat -> α := fun j => bif Nat.beq j i then v else f j
def dz (σ : Nat -> Option Entry) : List Nat -> (Nat -> Option Entry)
 | [] => σ
 | id :: r => match σ id with
  | some (.arr t l _) => dz (upd σ id (some (.arr t l .frozen))) r
  | _ => dz σ r
def aJ (d j : Nat) : Nat := 4 * (64 * d + j)
def jk (p : Nat) : Nat := 4 * p + 1
def gX (i j : Nat) : Nat := 4 * (64 * i + j) + 2
def Ki (id j : Nat) : Nat := 4 * (64 * id + j) + 3
def uF (d n : Nat) : Bool := Nat.blt d (n / 1048576) && Nat.ble (n % 1048576) d
def St.put (s : St) (dst : Option Tmp) (v : Slot) : T St :=
 match dst with
 | none => .ret s
 | some d => bif uF d s.n then .ret { s with env := upd s.env d v } else .fail
def St.alloc (s : St) (key : Nat) (e : Entry) : T St :=
 match s.ak key with
 | none => .ret { s with ak := upd s.ak key (some e) }
 | some _ => .fail
def ofConst : Value -> Slot
 | .bool b => .cell (.bool b)
 | .int k n => .cell (.int k n)
 | .string s => .cell (.str s)
 | .slice none 0 0 => .cell .nil
 | _ => .undef
def St.ev (s : St) : Operand -> Slot
 | .tmp t => s.env t
 | .const v => ofConst v
 | .func f => .cell (.oq f [])
 | .global _ => .undef
def St.int (s : St) (x : Operand) : T (IntKind × Int) :=
 match s.ev x with
 | .one (.cell (.int k n)) => .ret (k, n)
 | _ => .fail
def St.comp (s : St) (x : Operand) : T aH :=
 match s.ev x with
 | .one c => .ret c
 | _ => .fail
def cellsD (id i : Nat) (p : Bool) : (t : Ty) -> t.den -> Nat -> List Cell
 | .list _, _, o => [if p then .inn id i o else .undef]
 | .dh _, _, _ => [.undef]
 | .pair a b, x, o => cellsD id i p a x.1 o ++ cellsD id i p b x.2 (o + a.sz)
 | .bool, x, _ => cellsOf true .bool x
 | .int k, x, _ => cellsOf true (.int k) x
 | .str, x, _ => cellsOf true .str x
 | .unit, _, _ => []
def St.jN (s : St) (n : Nat) (agg : Bool) : Cell -> T aH
 | .ptr id off => match s.ak id with
  | some (.box _ cs) => if off + n <= cs.length then .ret (bG agg ((cs.drop off).take n)) else .fail
  | _ => .fail
 | .lD id i off => match s.ak id with
  | some (.arr t l _) => if off + n <= t.sz then .ret (bG agg (((cellsOf true t (l.getD i t.dflt)).drop off).take n)) else .fail
  | _ => .fail
 | .pF fr t x off => if off + n <= t.sz then .ret (bG agg (((cellsOf fr t x).drop off).take n)) else .fail
 | .ny id i off => match s.ak id with
  | some (.deep t l pin) => if off + n <= t.sz then .ret (bG agg (((cellsD id i pin.isSome t (l.getD i t.dflt) 0).drop off).take n)) else .fail
  | _ => .fail
 | _ => .fail
def splice (cs : List Cell) (off : Nat) (new : List Cell) : List Cell := cs.take off ++ new ++ cs.drop (off + new.length)
def Cell.known : Cell -> Bool
 | .undef | .void => false
 | _ => true
def aH.known : aH -> Bool
 | .cell c => c.known
 | .agg _ => true
def Cap.Kj (id : Nat) : Cap -> Bool
 | .ptr i => Nat.beq i id
 | .ro _ _ => false
def Cell.forget (id : Nat) : Cell -> Cell
 | .ptr i o => bif Nat.beq i id then .undef else .ptr i o
 | .oq f caps => bif caps.any (Cap.Kj id) then .undef else .oq f caps
 | c => c
def aH.forget (id : Nat) : aH -> aH
 | .cell c => .cell (c.forget id)
 | .agg cs => .agg (cs.map (·.forget id))
def Slot.forget (id : Nat) : Slot -> Slot
 | .one c => .one (c.forget id)
 | .Co cs => .Co (cs.map (·.forget id))
def Entry.forget (id : Nat) : Entry -> Entry
 | .box t cs => .box t (cs.map (·.forget id))
 | e => e
def St.forget (s : St) (id : Nat) : St :=
 { s with env := fun t => (s.env t).forget id, ak := upd (fun k => (s.ak k).map (·.forget id)) id none }
def Cell.kill (id : Nat) : Cell -> Cell
 | .ref i => bif Nat.beq i id then .undef else .ref i
 | .sub i o l => bif Nat.beq i id then .undef else .sub i o l
 | .lD i k o => bif Nat.beq i id then .undef else .lD i k o
 | .nk i => bif Nat.beq i id then .undef else .nk i
 | .ny i k o => bif Nat.beq i id then .undef else .ny i k o
 | .inn i k o => bif Nat.beq i id then .undef else .inn i k o
 | c => c
def aH.kill (id : Nat) : aH -> aH
 | .cell c => .cell (c.kill id)
 | .agg cs => .agg (cs.map (·.kill id))
def Slot.kill (id : Nat) : Slot -> Slot
 | .one c => .one (c.kill id)
 | .Co cs => .Co (cs.map (·.kill id))
def Entry.kill (id : Nat) : Entry -> Entry
 | .box t cs => .box t (cs.map (·.kill id))
 | e => e
def St.kill (s : St) (id : Nat) : St :=
 { s with env := fun t => (s.env t).kill id, ak := fun k => (s.ak k).map (·.kill id) }
def St.drop (s : St) (id : Nat) : St := { s.kill id with ak := upd (s.kill id).ak id none }
def nodup : List Nat -> Bool
 | [] => true
 | x :: r => !r.contains x && nodup r
def St.bW (s : St) : List Nat -> St
 | [] => s
 | id :: r => (s.drop id).bW r
def oD : Ty -> List Bool
 | .list _ | .dh _ => [true]
 | .pair a b => oD a ++ oD b
 | .unit => []
 | .bool | .int _ | .str => [false]
def Ty.ZJ : Ty -> Bool
 | .dh _ => false
 | .list t => t.ZJ
 | .pair a b => a.ZJ && b.ZJ
 | .bool | .int _ | .str | .unit => true
def setCell : (t : Ty) -> Nat -> t.den -> Cell -> Option t.den
 | .bool, 0, _, .bool b => some b
 | .bool, 0, _, .prop p d => some (@decide p d)
 | .int k, 0, _, .int k' n => if k' = k then some n else none
 | .str, 0, _, .str s => some s
 | .pair a b, o, x, c => if o < a.sz then (setCell a o x.1 c).map (·, x.2) else (setCell b (o - a.sz) x.2 c).map (x.1, ·)
 | _, _, _, _ => none
def Uj (g : Bool) (s : St) (n : Nat) (new : List Cell) (id i off : Nat) : T St := .fail
def St.store (s : St) (g : Bool) (n : Nat) (new : List Cell) : Cell -> T St
 | .ptr id off => match s.ak id with
  | some (.box t cs) => if off + n <= cs.length /\ new.length = n then .ret { s with ak := upd s.ak id (some (.box t (splice cs off new))) } else .fail
  | _ => .fail
 | .lD id i off => match s.ak id with
  | some (.arr t l o) => if o = .frozen then .fail else if off + n <= t.sz /\ new.length = n then
    (match bH s.ak .keep t (splice (cellsOf true t (l.getD i t.dflt)) off new) with
    | some (x, ids) => if ids.contains id then .fail else .ret { s with ak := upd (dz s.ak ids) id (some (.arr t (l.set i x) o)) }
    | none => .fail) else .fail
  | _ => .fail
 | .ny id i off => Uj g s n new id i off
 | _ => .fail
def fH : Nat := 211106232532992
def Bt (op : BinOp) (k : IntKind) (a b : Int) : T Cell :=
 match op with
 | .add => .ret (.int k (k.wrap (a + b)))
 | .sub => .ret (.int k (k.wrap (a - b)))
 | .mul => .ret (.int k (k.wrap (a * b)))
 | .quo => .test (b = 0) .fail (.ret (.int k (k.wrap (a.tdiv b))))
 | .rem => .test (b = 0) .fail (.ret (.int k (a.tmod b)))
 | .and => .ret (.int k (k.wrap (BitVec.ofInt k.bits a &&& BitVec.ofInt k.bits b).toNat))
 | .or => .ret (.int k (k.wrap (BitVec.ofInt k.bits a ||| BitVec.ofInt k.bits b).toNat))
 | .xor => .ret (.int k (k.wrap (BitVec.ofInt k.bits a ^^^ BitVec.ofInt k.bits b).toNat))
 | .andNot => .ret (.int k (k.wrap (BitVec.ofInt k.bits a &&& ~~~BitVec.ofInt k.bits b).toNat))
 | .eql => .ret (.is (a = b))
 | .neq => .ret (.is (a ≠ b))
 | .lss => .ret (.is (a < b))
 | .leq => .ret (.is (a <= b))
 | .gtr => .ret (.is (b < a))
 | .geq => .ret (.is (b <= a))
 | _ => .fail
def xq (op : BinOp) (k : IntKind) (a b : Int) : T Cell :=
 match op with
 | .shl => .test (b < 0) .fail (.ret (.int k (k.wrap (a * 2 ^ (min b.toNat k.bits)))))
 | .shr => .test (b < 0) .fail (.ret (.int k (a.fdiv (2 ^ (min b.toNat k.bits)))))
 | _ => .fail
def Cell.asBool : Cell -> Option Bool
 | .bool b => some b
 | .prop p d => some (@decide p d)
 | _ => none
def mV : List Cell -> List Cell -> Option (Σ' p : Prop, Decidable p)
 | [], [] => some ⟨True, .isTrue trivial⟩
 | [x], [y] => Kk x y
 | x :: xs, y :: ys => match Kk x y, mV xs ys with
  | some ⟨p, d⟩, some ⟨q, e⟩ => some ⟨p /\ q, @instDecidableAnd p q d e⟩
  | _, _ => none
 | _, _ => none
where
 dec (p : Prop) [d : Decidable p] : Option (Σ' p : Prop, Decidable p) := some ⟨p, d⟩
 Kk : Cell -> Cell -> Option (Σ' p : Prop, Decidable p)
 | .int k a, .int k' b => if k = k' then dec (a = b) else none
 | .str a, .str b => dec (a = b)
 | .bool a, .bool b => dec (a = b)
 | .prop p d, .prop q e => dec (@decide p d = @decide q e)
 | .prop p d, .bool b => dec (@decide p d = b)
 | .bool b, .prop p d => dec (b = @decide p d)
 | _, _ => none
def Ty.plain : Ty -> Bool
 | .list _ | .dh _ => false
 | .pair a b => a.plain && b.plain
 | _ => true
def Ty.ht : Ty -> Nat
 | .pair a b => Nat.max (a.ht + 1) b.ht
 | _ => 0
def Ga (U : Ty) (x y : aH) : Option (Σ' p : Prop, Decidable p) :=
 match x, y with
 | .cell a, .cell b => match a, b with
  | .str s, .str u => mV.dec (s = u)
  | a, b => if U = .bool /\ a.asBool.isSome then mV.Kk a b else none
 | .agg cs, .agg ds => if U.isAgg && U.plain && Nat.blt U.ht 100 && (bH (fun _ => none) .look U cs).isSome && (bH (fun _ => none) .look U ds).isSome then mV cs ds else none
 | _, _ => none
def binOp (U : Option Ty) (op : BinOp) (x y : aH) : T Cell :=
 match op, x, y with
 | .shl, .cell (.int k a), .cell (.int _ b) => xq .shl k a b
 | .shr, .cell (.int k a), .cell (.int _ b) => xq .shr k a b
 | op, .cell (.int k a), .cell (.int k' b) => if k = k' then Bt op k a b else .fail
 | .add, .cell (.str a), .cell (.str b) => .test (a.size + b.size <= fH) (.ret (.str (a ++ b))) .fail
 | .eql, x, y => match U.bind (Ga · x y) with
  | some ⟨p, d⟩ => .ret (.prop p d)
  | none => .fail
 | .neq, x, y => match U.bind (Ga · x y) with
  | some ⟨p, d⟩ => .ret (.prop (¬ p) (@instDecidableNot p d))
  | none => .fail
 | _, _, _ => .fail
def unOp (op : UnOp) (x : aH) : T Cell :=
 match op, x with
 | .not, .cell (.bool b) => .ret (.bool (!b))
 | .not, .cell (.prop p d) => .ret (.prop (¬ p) (@instDecidableNot p d))
 | .neg, .cell (.int k n) => .ret (.int k (k.wrap (-n)))
 | _, _ => .fail
def St.look (s : St) (t : Ty) (c : Cell) : T (List t.den) := T.ofOption ((iZ s.ak .look t c).map (·.1))
def St.Cq (s : St) : TypeDesc -> (t : Ty) -> Cell -> T (List t.den)
 | .string, .int .u8, .str b => .ret (bytesOf b)
 | .slice _, t, c => s.look t c
 | _, _, _ => .fail
def St.len (s : St) : TypeDesc -> Cell -> T Int
 | .string, .str s => .ret (s.size : Int)
 | .slice _, .nil => .ret 0
 | .slice _, .list _ _ l => .ret (l.length : Int)
 | .slice _, .ref id => match s.ak id with
  | some (.arr _ l _) => .ret (l.length : Int)
  | _ => .fail
 | .slice _, .sub _ _ n => .ret (n : Int)
 | .slice _, .nk id => match s.ak id with
  | some (.deep _ l _) => .ret (l.length : Int)
  | _ => .fail
 | _, _ => .fail
def bounds (n : Int) (lo hi : Option Int) : T (Int × Int) :=
 match hi with
 | some h => .test (0 <= h) (.test (h <= n) (low h) .fail) .fail
 | none => low n
where low (h : Int) : T (Int × Int) :=
 match lo with
 | some l => .test (0 <= l) (.test (l <= h) (.ret (l, h)) .fail) .fail
 | none => .ret (0, h)
def zi (b : ByteArray) (lo hi : Option Int) : T Cell := (bounds b.size lo hi).bind fun (l, h) => .ret (.str (b.extract l.toNat h.toNat))
def jY (s : St) (u : Ty) (lo hi : Option Int) : Cell -> T Cell
 | .nil => (bounds 0 lo hi).bind fun _ => .ret .nil
 | .list fr t l => if t = u then (bounds l.length lo hi).bind fun (a, h) => .ret (.list fr t ((l.drop a.toNat).take (h.toNat - a.toNat))) else .fail
 | .ref id => match s.ak id with
  | some (.arr t l _) => if t = u then (bounds l.length lo hi).bind fun (a, h) => .ret (.sub id a.toNat (h.toNat - a.toNat)) else .fail
  | _ => .fail
 | .sub id off n => match s.ak id with
  | some (.arr t l _) => if t = u then (bounds n lo hi).bind fun (a, h) => .ret (.sub id (off + a.toNat) (h.toNat - a.toNat)) else .fail
  | _ => .fail
 | _ => .fail
def lF (s : St) (u : Ty) (i : Int) : Cell -> T Cell
 | .list fr t l => if t = u then .test (0 <= i) (.test (i < (l.length : Int)) (.ret (.pF true t (rd t l i) 0)) .fail) .fail else .fail
 | .ref id => match s.ak id with
  | some (.arr t l _) => if t = u then .test (0 <= i) (.test (i < (l.length : Int)) (.ret (.lD id i.toNat 0)) .fail) .fail else .fail
  | _ => .fail
 | .sub id off n => match s.ak id with
  | some (.arr t l _) => if t = u then .test (0 <= i) (.test (i < (n : Int)) (.ret (.lD id (off + i.toNat) 0)) .fail) .fail else .fail
  | _ => .fail
 | .nk id => match s.ak id with
  | some (.deep t l _) => if t = u then .test (0 <= i) (.test (i < (l.length : Int)) (.ret (.ny id i.toNat 0)) .fail) .fail else .fail
  | _ => .fail
 | _ => .fail
def dA.MN (C : dA) (t : TypeId) : Option Ty := match C.ty t with
 | some (.dh u) => some u
 | _ => none
def dA.bytes (C : dA) (t : TypeId) : Nat := (C.P.bytesOf t)
def dA.wm (C : dA) (t : TypeId) : Bool := Nat.ble 1 (C.bytes t) && Nat.ble (C.bytes t) 1048576
def xu (s : St) : Cap -> Option Cap
 | .ro t x => some (.ro t x)
 | .ptr id => match s.ak id with
  | some (.box (some t) cs) => (bH s.ak .look t cs).map fun (x, _) => .ro t x
  | _ => none
def kF (s : St) : List Cap -> Option (List Cap)
 | [] => some []
 | c :: r => match xu s c, kF s r with
  | some c, some r => some (c :: r)
  | _, _ => none
def EK (t : Ty) : aH -> Bool
 | .agg _ => t.isAgg
 | .cell _ => !t.isAgg
def nA (C : dA) (s : St) (t : TypeId) (v : aH) : Option Arg :=
 match C.ty t with
 | some u => bif v.known && EK u v then bif C.Uh.contains t then (match bH s.ak .keep u v.cells with
   | some (x, []) => some (.Ug u x)
   | _ => none) else bif u.kept then (match bH s.ak .keep u v.cells with
   | some (x, []) => some (.val u x)
   | _ => none) else (bH s.ak .look u v.cells).map fun (x, _) => .val u x else none
 | none => match v with
  | .cell (.oq f caps) => (kF s caps).map (.oq f)
  | .cell (.ptr id 0) => match xu s (.ptr id) with
   | some (.ro t x) => some (.rp t x)
   | _ => none
  | .cell (.pF _ t x 0) => some (.rp t x)
  | _ => none
def Gb (s : St) : aH -> Option Arg
 | .cell (.ref id) => match s.ak id with
  | some (.arr u l .open) => some (.give (.list u) l)
  | _ => none
 | .cell (.ptr id 0) => match s.ak id with
  | some (.box (some u) cs) => (bH s.ak .give u cs).map fun (x, _) => .gJ u x
  | _ => none
 | _ => none
def toArg (C : dA) (s : St) (io : Bool) (t : TypeId) (v : aH) : Option Arg := bif io then Gb s v else nA C s t v
def tT : Cap -> Option Arg
 | .ro t x => some (.rp t x)
 | .ptr _ => none
def pG (C : dA) (s : St) (io : List Nat) : Nat -> List TypeId -> List aH -> Option (List Arg)
 | _, _, [] => some []
 | i, t :: ts, v :: vs => match toArg C s (io.contains i) t v, pG C s io (i + 1) ts vs with
  | some a, some r => some (a :: r)
  | _, _ => none
 | _, [], _ :: _ => none
def Cell.YH : Cell -> Bool
 | .nk _ => true
 | _ => false
def kJ (s : St) : Cap -> Bool
 | .ptr id => match s.ak id with
  | some (.box _ cs) => cs.any Cell.YH
  | _ => false
 | .ro _ _ => false
def kK (s : St) : Cell -> Bool
 | .nk _ => true
 | .ptr id _ => kJ s (.ptr id)
 | .oq _ caps => caps.any (kJ s)
 | _ => false
def jO (s : St) (vs : List aH) (caps : List Cap) : Bool := vs.any (fun v => v.cells.any (kK s)) || caps.any (kJ s)
def Ty.cut : Ty -> Bool
 | .list t => t.plain
 | .dh t => t.cut
 | .pair a b => a.cut && b.cut
 | .bool | .int _ | .str | .unit => true
def resTy (C : dA) (ts : List TypeId) : Option Ty :=
 match ts with
 | [t] => C.ty t
 | ts => go ts
where go : List TypeId -> Option Ty
 | [] => some .unit
 | t :: r => match C.ty t, go r with
  | some a, some b => some (.pair a b)
  | _, _ => none
def yL : List Arg -> Bool
 | [] => false
 | .give _ _ :: _ => true
 | .gJ _ _ :: _ => true
 | _ :: r => yL r
def aR (own : Bool) (key : Nat -> Nat) : (t : Ty) -> t.den -> Nat -> List Cell × List (Nat × Entry) × Nat
 | .list t, l, j => if own then ([.ref (key j)], [(key j, .arr t l .open)], j + 1) else ([.list true t l], [], j)
 | .dh t, l, j => if own then ([.nk (key j)], [(key j, .deep t l none)], j + 1) else ([.list true t l], [], j)
 | .pair a b, x, j => match aR own key a x.1 j with
  | (c, es, j) => match aR own key b x.2 j with
   | (d, fs, j) => (c ++ d, es ++ fs, j)
 | t, x, j => (cellsOf true t x, [], j)
def nC (s : St) : List (Nat × Entry) -> T St
 | [] => .ret s
 | (k, e) :: r => (s.alloc k e).bind fun s => nC s r
def nD (own : Bool) (key : Nat -> Nat) : (t : Ty) -> t.den -> Nat -> List aH × List (Nat × Entry)
 | .pair a b, x, j => match aR own key a x.1 j with
  | (c, es, j) => match nD own key b x.2 j with
   | (d, fs) => (bG a.isAgg c :: d, es ++ fs)
 | _, _, _ => ([], [])
def jc (own one : Bool) (key : Nat -> Nat) (t : Ty) (x : t.den) : Slot × List (Nat × Entry) :=
 if one then match aR own key t x 0 with
  | (c, es, _) => (.one (bG t.isAgg c), es)
 else match nD own key t x 0 with
  | (cs, es) => (.Co cs, es)
def Lm (C : dA) (s : St) (o : Oper) (f : FuncId) (vs : List aH) (caps : List Cap) : T St :=
 match C.P.funcs[f]?, o.dst with
 | some fn, dst =>
  let sig := C.sig f
  match pG C s sig.io 0 fn.params.toList vs, (kF s caps).bind (·.mapM tT), resTy C fn.resultTypes.toList with
  | some args, some xw, some rt =>
   let key := aJ (dst.getD 0)
   if yL args || (jO s vs caps || C.DC.contains f) && !(sig.own && rt.cut) then .fail else .call f rt (C.xk f args ++ xw) fun r =>
    match jc sig.own (Nat.beq fn.resultTypes.size 1) key rt r with
    | (v, es) => (nC s es).bind fun s => s.put dst v
  | _, _, _ => .fail
 | _, _ => .fail
def sD (v : aH) : List Nat -> aH
 | [] => v
 | id :: r => sD (v.kill id) r
def lg (C : dA) (s : St) (i : Nat) (a : Arg) : Nat -> List TypeId -> List aH -> Option (List Arg)
 | _, _, [] => some []
 | n, t :: ts, v :: vs => match bif Nat.beq n i then some a else nA C s t v, lg C s i a (n + 1) ts vs with
  | some a, some r => some (a :: r)
  | _, _ => none
 | _, [], _ :: _ => none
def qo (C : dA) (s : St) (o : Oper) (f : FuncId) (vs : List aH) (caps : List Cap) (i : Nat) : T St :=
 match C.P.funcs[f]?, vs[i]? with
 | some fn, some v => match (fn.params.toList[i]?).bind C.ty with
  | some T => if v.known && EK T v then match bH s.ak .give T v.cells with
   | some (x, ids) => bif nodup ids then
    match lg C (s.bW ids) i (.give T x) 0 fn.params.toList (vs.map (sD · ids)), (kF (s.bW ids) caps).bind (·.mapM tT), resTy C fn.resultTypes.toList with
    | some args, some xw, some rt => if jO (s.bW ids) (vs.map (sD · ids)) caps then .fail else .call f rt (args ++ xw) fun r =>
     match jc (C.sig f).own (Nat.beq fn.resultTypes.size 1) (aJ (o.dst.getD 0)) rt r with
     | (v, es) => (nC (s.bW ids) es).bind fun s => s.put o.dst v
    | _, _, _ => .fail
    else .fail
   | none => .fail
   else .fail
  | none => .fail
 | _, _ => .fail
def mW (C : dA) (s : St) (o : Oper) (f : FuncId) (vs : List aH) (caps : List Cap) (i id : Nat) : T St :=
 match C.P.funcs[f]?, s.ak id with
 | some fn, some (.box (some T) cs) => match bH s.ak (bif T.ob then .give else .keep) T cs with
  | some (x, ids) => bif nodup ids && (T.ob || ids.isEmpty) then
   match lg C ((s.bW ids).forget id) i (.gJ T x) 0 fn.params.toList (vs.map fun v => (sD v ids).forget id), (kF ((s.bW ids).forget id) caps).bind (·.mapM tT), resTy C fn.resultTypes.toList with
   | some args, some xw, some rt => if jO ((s.bW ids).forget id) (vs.map fun v => (sD v ids).forget id) caps then .fail else .call f (.pair rt T) (args ++ xw) fun r =>
    match aR T.ob (Ki id) T r.2 0, jc true (Nat.beq fn.resultTypes.size 1) (aJ (o.dst.getD 0)) rt r.1 with
    | (bc, es2, _), (v, es) => (nC { s.bW ids with ak := upd (s.bW ids).ak id (some (.box none (List.replicate T.sz .undef))) } (es2 ++ es)).bind fun s => St.put { s with ak := upd s.ak id (some (.box (some T) bc)) } o.dst v
   | _, _, _ => .fail
   else .fail
  | none => .fail
 | _, _ => .fail
def _root_.Go.Oper.Kl (o : Oper) (C : dA) : Bool := match o.op with
 | .call c => c.argTypes.toList.any (C.ptrs.contains ·)
 | _ => false
def OQ (C : dA) (s : St) (o : Oper) (f : FuncId) (vs : List aH) : T St :=
 match C.P.funcs[f]?, o.dst with
 | some fn, some d => match pG C s [] 0 fn.params.toList vs with
  | some args => if yL args || jO s vs [] then .fail else .call f (C.sig f).made args fun r =>
   match aR false (aJ d) (C.sig f).made r 0 with
   | (cs, _, _) => (s.alloc (aJ d 0) (.box (some (C.sig f).made) cs)).bind fun s => s.put (some d) (.cell (.ptr (aJ d 0) 0))
  | none => .fail
 | _, _ => .fail
def DF (C : dA) (s : St) (o : Oper) (g : Operand) (f : FuncId) (vs : List aH) (caps : List Cap) : T St :=
 match (C.sig f).lend with
 | some i => bif (C.sig f).xU then (match g, caps with
   | .func _, [] => OQ C s o f vs
   | _, _ => .fail) else (match vs[i]? with
  | some (.cell (.ptr id 0)) => (match g with
   | .func _ => mW C s o f vs caps i id
   | _ => bif o.Kl C then mW C s o f vs caps i id else .fail)
  | _ => .fail)
 | none => match (C.sig f).io with
 | [] => Lm C s o f vs caps
 | i :: _ => match g with
  | .func _ => qo C s o f vs caps i
  | _ => .fail
def dS (s : St) : List Operand -> Option (List aH)
 | [] => some []
 | x :: r => match s.ev x, dS s r with
  | .one c, some r => some (c :: r)
  | _, _ => none
def rE (s : St) : Option Operand -> T (Option Int)
 | none => .ret none
 | some x => (s.int x).bind fun (_, n) => .ret (some n)
def gK (C : dA) (s : St) (t : TypeId) : List (Nat × Operand) -> List Cell -> Option (List Cell)
 | [], cs => some cs
 | (i, x) :: r, cs => match C.fieldAt t i, s.ev x with
  | some (off, u), .one v => match C.shape u with
   | some (n, _) => if v.known /\ v.cells.length = n /\ off + n <= cs.length then gK C s t r (splice cs off v.cells) else none
   | none => none
  | _, _ => none
def dK (s : St) (t : Ty) : List (Nat × Operand) -> List t.den -> List Nat -> Option (List t.den × List Nat)
 | [], l, ids => some (l, ids)
 | (i, x) :: r, l, ids => match s.ev x with
  | .one v => match bH s.ak .keep t v.cells with
   | some (y, js) => if v.known /\ i < l.length then dK s t r (l.set i y) (ids ++ js) else none
   | none => none
  | _ => none
def DI (C : dA) (s : St) (dst : Option Tmp) (t : TypeId) (n : Nat) (parts : List (Nat × Operand)) : T St := match C.elem t, dst with
 | some (_, u), some d => if n * u.sz <= 16777216 then (match dK s u parts (List.replicate n u.dflt) [] with
  | some (l, []) => s.put (some d) (.cell (.list true u l))
  | _ => .fail) else .fail
 | _, _ => .fail
def capOf : aH -> Option Cap
 | .cell (.ptr id 0) => some (.ptr id)
 | .cell (.pF _ t x 0) => some (.ro t x)
 | _ => none
def St.append (s : St) (C : dA) (e : TypeId) (u : Ty) (d : Tmp) (a : Cell) (lb : List u.den) : T St :=
 match a with
 | .nil => .test (lb.length * C.bytes e <= fH) ((s.alloc (aJ d 0) (.arr u lb .open)).bind fun s => s.put (some d) (.cell (.ref (aJ d 0)))) .fail
 | .ref id => match s.ak id with
  | some (.arr v l .open) => match gq (u := u) l with
   | some l => .test ((l.length + lb.length) * C.bytes e <= fH) (({ s.kill id with ak := upd (s.kill id).ak id (some (.arr u (l ++ lb) .open)) }).put (some d) (.cell (.ref id))) .fail
   | none => .fail
  | _ => .fail
 | .sub id off n => match s.ak id with
  | some (.arr v l .open) => match gq (u := u) l with
   | some l => .test ((n + lb.length) * C.bytes e <= fH) (({ s.kill id with ak := upd (s.kill id).ak id (some (.arr u ((l.drop off).take n ++ lb) .open)) }).put (some d) (.cell (.ref id))) .fail
   | none => .fail
  | _ => .fail
 | _ => .fail
def lN (C : dA) (o : Oper) (s : St) : T (St) :=
 match o.op with
 | .move x | .assign x =>
  match s.ev x with
  | .one (.cell .nil) => match C.MN o.type with
   | some _ => s.put o.dst (.cell .nil)
   | none => match C.elem o.type, o.dst with
    | some (_, t), some d => (s.alloc (aJ d 0) (.arr t [] .open)).bind fun s => s.put o.dst (.cell (.ref (aJ d 0)))
    | _, _ => s.put o.dst (.cell .nil)
  | v => s.put o.dst v
 | .pick c a b => match s.ev c with
  | .one (.cell (.bool true)) => s.put o.dst (s.ev a)
  | .one (.cell (.bool false)) => s.put o.dst (s.ev b)
  | .one (.cell (.prop p d)) => .br p d (s.put o.dst (s.ev a)) (s.put o.dst (s.ev b))
  | _ => .fail
 | .alloc t => match assoc C.tt t, o.dst with
  | some ty, some d => (s.alloc (aJ d 0) (.box ty (Al ty))).bind fun s => s.put o.dst (.cell (.ptr (aJ d 0) 0))
  | _, _ => .fail
 | .box t x => match assoc C.tt t, o.dst, s.ev x with
  | some ty, some d, .one v => if v.known && v.cells.length = Ui ty then
    (s.alloc (aJ d 0) (.box ty v.cells)).bind fun s => s.put o.dst (.cell (.ptr (aJ d 0) 0)) else .fail
  | _, _, _ => .fail
 | .build t parts => match C.ty t with
  | some u => if u.isAgg then (match gK C s t parts.toList (zeroCells u) with
   | some cs => s.put o.dst (.one (.agg cs))
   | none => .fail) else .fail
  | none => .fail
 | .buildSlice t n parts => bif C.Sv o.dst t then DI C s o.dst t n parts.toList else match C.MN t with
  | some _ => .fail
  | none => match C.elem t, o.dst with
  | some (_, u), some d => if n * u.sz <= 16777216 then (match dK s u parts.toList (List.replicate n u.dflt) [] with
   | some (l, ids) => ({ s with ak := dz s.ak ids }.alloc (aJ d 0) (.arr u l .open)).bind fun s => s.put o.dst (.cell (.ref (aJ d 0)))
   | none => .fail) else .fail
  | _, _ => .fail
 | .load t x => bif C.take o.dst t then .fail else match C.shape t, s.ev x with
  | some (n, agg), .one (.cell p) => (s.jN n agg p).bind fun v => s.put o.dst (.one v)
  | _, _ => .fail
 | .store t p x => match C.shape t, s.ev p, s.ev x with
  | some (n, _), .one (.cell p), .one v => if v.known then (s.store (C.gives.contains t) n v.cells p).bind fun s => s.put o.dst .undef else .fail
  | _, _, _ => .fail
 | .nilCheck x => match s.ev x with
  | .one (.cell (.ptr id off)) => s.put o.dst (.cell (.ptr id off))
  | .one (.cell (.lD id i off)) => s.put o.dst (.cell (.lD id i off))
  | .one (.cell (.pF fr t x off)) => s.put o.dst (.cell (.pF fr t x off))
  | .one (.cell (.ny id i off)) => s.put o.dst (.cell (.ny id i off))
  | _ => .fail
 | .binOp op t x y _ => (s.comp x).bind fun a => (s.comp y).bind fun b => (binOp (C.ty t) op a b).bind fun c => s.put o.dst (.cell c)
 | .unOp op _ x => (s.comp x).bind fun a => (unOp op a).bind fun c => s.put o.dst (.cell c)
 | .convert src dst x => match C.P.underlying src, C.P.underlying dst, s.ev x with
  | some _, some (.int k), .one (.cell (.int _ n)) => s.put o.dst (.cell (.int k (k.wrap n)))
  | some _, some .string, .one (.cell (.str b)) => s.put o.dst (.cell (.str b))
  | some (.slice e), some .string, .one (.cell c) => if C.ty e = some (.int .u8) then (s.look (.int .u8) c).bind fun l => s.put o.dst (.cell (.str (ofBytes l))) else .fail
  | _, _, _ => .fail
 | .makeSlice t l c => match C.elem t, o.dst with
  | some (e, u), some d => if C.wm e then (s.int l).bind fun (_, l) => (s.int c).bind fun (_, c) =>
    .test (0 <= l) (.test (l <= c) (.test (c * (C.bytes e : Int) <= fH)
     (bif (C.MN t).isSome then .fail
     else (s.alloc (aJ d 0) (.arr u (List.replicate l.toNat u.dflt) .open)).bind fun s => s.put o.dst (.cell (.ref (aJ d 0)))) .fail) .fail) .fail else .fail
  | _, _ => .fail
 | .slice t x lo hi none => match C.P.underlying t, s.ev x with
  | some .string, .one (.cell (.str b)) => (rE s lo).bind fun lo => (rE s hi).bind fun hi => (zi b lo hi).bind fun c => s.put o.dst (.cell c)
  | some (.slice e), .one (.cell c) => match C.ty e with
   | some u => (rE s lo).bind fun lo => (rE s hi).bind fun hi => (jY s u lo hi c).bind fun c => s.put o.dst (.cell c)
   | none => .fail
  | _, _ => .fail
 | .fieldAddr t x i => match C.placeOf t i, s.ev x with
  | some off, .one (.cell (.ptr id o')) => s.put o.dst (.cell (.ptr id (o' + off)))
  | some off, .one (.cell (.lD id j o')) => s.put o.dst (.cell (.lD id j (o' + off)))
  | some off, .one (.cell (.pF fr u y o')) => s.put o.dst (.cell (.pF fr u y (o' + off)))
  | some off, .one (.cell (.ny id j o')) => s.put o.dst (.cell (.ny id j (o' + off)))
  | _, _ => .fail
 | .field t x i => match C.fieldAt t i, s.ev x with
  | some (off, u), .one (.agg cs) => match C.shape u with
   | some (n, agg) => if off + n <= cs.length then s.put o.dst (.one (bG agg ((cs.drop off).take n))) else .fail
   | none => .fail
  | _, _ => .fail
 | .indexAddr t x ix => (s.int ix).bind fun (_, i) => match C.elem t, s.ev x with
  | some (_, u), .one (.cell c) => (lF s u i c).bind fun c => s.put o.dst (.cell c)
  | _, _ => .fail
 | .index t x ix => (s.int ix).bind fun (_, i) => match C.P.underlying t, s.ev x with
  | some .string, .one (.cell (.str b)) => .test (0 <= i) (.test (i < (b.size : Int)) (s.put o.dst (.cell (.int .u8 (bt b i)))) .fail) .fail
  | _, _ => .fail
 | .makeFunc (.func f) first captured => if first.size = 0 then match (dS s captured.toList).bind (·.mapM capOf) with
   | some caps => s.put o.dst (.cell (.oq f caps))
   | none => .fail
  else .fail
 | .extract x i => match s.ev x with
  | .Co cs => match cs[i]? with
   | some c => s.put o.dst (.one c)
   | none => .fail
  | _ => .fail
 | .call { callee := .value g, args, .. } => match s.ev g, dS s args.toList with
  | .one (.cell (.oq f caps)), some vs => DF C s o g f vs caps
  | _, _ => .fail
 | .call { callee := .builtin .len, args, argTypes } => match args.toList, (argTypes[0]?).bind C.P.underlying with
  | [x], some d => match s.ev x with
   | .one (.cell c) => (s.len d c).bind fun n => s.put o.dst (.cell (.int .i64 n))
   | _ => .fail
  | _, _ => .fail
 | .call { callee := .builtin .append, args, argTypes } => match args.toList, argTypes.toList, o.dst with
  | [x, y], [t, ty], some d => match s.ev x, s.ev y, C.elem t, C.P.underlying ty with
   | .one (.cell a), .one (.cell b), some (e, u), some ds => if C.wm e then (bif (C.MN t).isSome then .fail else (s.Cq ds u b).bind fun lb => s.append C e u d a lb) else .fail
   | _, _, _, _ => .fail
  | _, _, _ => .fail
 | .call { callee := .builtin .clear, args, argTypes } => match args.toList, (argTypes[0]?).bind C.elem with
  | [x], some (_, u) => match s.ev x with
   | .one (.cell (.sub id off n)) => match s.ak id with
    | some (.arr v l o') => if o' = .frozen then .fail else if v = u then ({ s with ak := upd s.ak id (some (.arr v (l.take off ++ List.replicate n v.dflt ++ l.drop (off + n)) o')) }).put o.dst .undef else .fail
    | _ => .fail
   | _ => .fail
  | _, _ => .fail
 | .call { callee := .builtin .min, args, .. } => match args.toList.map s.ev with
  | .one (.cell (.int k a)) :: r => mm min k a r s
  | _ => .fail
 | .call { callee := .builtin .max, args, .. } => match args.toList.map s.ev with
  | .one (.cell (.int k a)) :: r => mm max k a r s
  | _ => .fail
 | _ => .fail
where mm (g : Int -> Int -> Int) (k : IntKind) (a : Int) : List Slot -> St -> T St
 | [], s => s.put o.dst (.cell (.int k a))
 | .one (.cell (.int k' b)) :: r, s => if k' = k then mm g k (g a b) r s else .fail
 | _, _ => .fail
def kL (ops : List Oper) (j : Nat) : Option Tmp := (ops[j]?).bind (·.dst)
def jP (ops : List Oper) (i : Nat) : Bool := ops.any fun o => match o.guard with
 | some (j, _) => Nat.beq j i
 | none => false
def ig (s : St) (d : Option Tmp) : T St :=
 match d with
 | some d => match s.env d with
  | .one (.cell (.prop p dec)) => .br p dec (.ret { s with env := upd s.env d (.cell (.bool true)) }) (.ret { s with env := upd s.env d (.cell (.bool false)) })
  | _ => .ret s
 | none => .ret s
def stepT (C : dA) (ops : List Oper) (i : Nat) (o : Oper) (s : St) : T St :=
 let go : T St := (lN C o s).bind fun s => bif jP ops i then ig s o.dst else .ret s
 match o.guard with
 | none => go
 | some (j, want) => match kL ops j with
  | some d => match s.env d with
   | .one (.cell (.bool b)) => bif b == want then go else s.put o.dst (.cell .void)
   | .one (.cell .void) => s.put o.dst (.cell .void)
   | _ => .fail
  | none => .fail
def DJ (C : dA) (ops : List Oper) : List (Oper × Nat) -> St -> T St
 | [], s => .ret s
 | (o, i) :: r, s => (stepT C ops i o s).bind (DJ C ops r)
def ZW (g : Int -> Int -> Int) (k : IntKind) (a : Int) : List Slot -> T (Slot × List (Nat × Entry))
 | [] => .ret (.cell (.int k a), [])
 | .one (.cell (.int k' b)) :: r => if k' = k then ZW g k (g a b) r else .fail
 | _ => .fail
def zk (C : dA) (s : St) (d : Tmp) (f : FuncId) (vs : List aH) (caps : List Cap) : T (Slot × List (Nat × Entry)) :=
 match C.P.funcs[f]? with
 | some fn => match pG C s (C.sig f).io 0 fn.params.toList vs, (kF s caps).bind (·.mapM tT), resTy C fn.resultTypes.toList with
  | some args, some xw, some rt => if yL args || (jO s vs caps || C.DC.contains f) && !((C.sig f).own && rt.cut) then .fail else .call f rt (C.xk f args ++ xw) fun r => .ret (jc (C.sig f).own (Nat.beq fn.resultTypes.size 1) (aJ d) rt r)
  | _, _, _ => .fail
 | none => .fail
def Gy (C : dA) (s : St) (d : Tmp) (f : FuncId) (vs : List aH) (caps : List Cap) : T (Slot × List (Nat × Entry)) :=
 match (C.sig f).lend with
 | some _ => .fail
 | none => match (C.sig f).io with
 | [] => zk C s d f vs caps
 | _ => .fail
def dG (C : dA) (o : Oper) (s : St) : T (Slot × List (Nat × Entry)) :=
 match o.op with
 | .move x | .assign x => match s.ev x with
  | .one (.cell .nil) => match C.MN o.type with
   | some _ => .ret (.cell .nil, [])
   | none => match C.elem o.type, o.dst with
    | some (_, t), some d => .ret (.cell (.ref (aJ d 0)), [(aJ d 0, .arr t [] .open)])
    | _, _ => .ret (.cell .nil, [])
  | v => .ret (v, [])
 | .pick c a b => match s.ev c with
  | .one (.cell (.bool true)) => .ret (s.ev a, [])
  | .one (.cell (.bool false)) => .ret (s.ev b, [])
  | .one (.cell (.prop p d)) => .br p d (.ret (s.ev a, [])) (.ret (s.ev b, []))
  | _ => .fail
 | .load t x => match C.shape t, s.ev x with
  | some (n, agg), .one (.cell p) => (s.jN n agg p).bind fun v => .ret (.one v, [])
  | _, _ => .fail
 | .nilCheck x => match s.ev x with
  | .one (.cell (.ptr id off)) => .ret (.cell (.ptr id off), [])
  | .one (.cell (.lD id i off)) => .ret (.cell (.lD id i off), [])
  | .one (.cell (.pF fr t x off)) => .ret (.cell (.pF fr t x off), [])
  | .one (.cell (.ny id i off)) => .ret (.cell (.ny id i off), [])
  | _ => .fail
 | .binOp op t x y _ => (s.comp x).bind fun a => (s.comp y).bind fun b => (binOp (C.ty t) op a b).bind fun c => .ret (.cell c, [])
 | .unOp op _ x => (s.comp x).bind fun a => (unOp op a).bind fun c => .ret (.cell c, [])
 | .convert src dst x => match C.P.underlying src, C.P.underlying dst, s.ev x with
  | some _, some (.int k), .one (.cell (.int _ n)) => .ret (.cell (.int k (k.wrap n)), [])
  | some _, some .string, .one (.cell (.str b)) => .ret (.cell (.str b), [])
  | some (.slice e), some .string, .one (.cell c) => if C.ty e = some (.int .u8) then (s.look (.int .u8) c).bind fun l => .ret (.cell (.str (ofBytes l)), []) else .fail
  | _, _, _ => .fail
 | .slice t x lo hi none => match C.P.underlying t, s.ev x with
  | some .string, .one (.cell (.str b)) => (rE s lo).bind fun lo => (rE s hi).bind fun hi => (zi b lo hi).bind fun c => .ret (.cell c, [])
  | some (.slice e), .one (.cell c) => match C.ty e with
   | some u => (rE s lo).bind fun lo => (rE s hi).bind fun hi => (jY s u lo hi c).bind fun c => .ret (.cell c, [])
   | none => .fail
  | _, _ => .fail
 | .fieldAddr t x i => match C.placeOf t i, s.ev x with
  | some off, .one (.cell (.ptr id o')) => .ret (.cell (.ptr id (o' + off)), [])
  | some off, .one (.cell (.lD id j o')) => .ret (.cell (.lD id j (o' + off)), [])
  | some off, .one (.cell (.pF fr u y o')) => .ret (.cell (.pF fr u y (o' + off)), [])
  | some off, .one (.cell (.ny id j o')) => .ret (.cell (.ny id j (o' + off)), [])
  | _, _ => .fail
 | .field t x i => match C.fieldAt t i, s.ev x with
  | some (off, u), .one (.agg cs) => match C.shape u with
   | some (n, agg) => if off + n <= cs.length then .ret (.one (bG agg ((cs.drop off).take n)), []) else .fail
   | none => .fail
  | _, _ => .fail
 | .indexAddr t x ix => (s.int ix).bind fun (_, i) => match C.elem t, s.ev x with
  | some (_, u), .one (.cell c) => (lF s u i c).bind fun c => .ret (.cell c, [])
  | _, _ => .fail
 | .index t x ix => (s.int ix).bind fun (_, i) => match C.P.underlying t, s.ev x with
  | some .string, .one (.cell (.str b)) => .test (0 <= i) (.test (i < (b.size : Int)) (.ret (.cell (.int .u8 (bt b i)), [])) .fail) .fail
  | _, _ => .fail
 | .makeFunc (.func f) first captured => if first.size = 0 then match (dS s captured.toList).bind (·.mapM capOf) with
   | some caps => .ret (.cell (.oq f caps), [])
   | none => .fail
  else .fail
 | .extract x i => match s.ev x with
  | .Co cs => match cs[i]? with
   | some c => .ret (.one c, [])
   | none => .fail
  | _ => .fail
 | .call { callee := .value g, args, .. } => match o.dst, s.ev g, dS s args.toList with
  | some d, .one (.cell (.oq f caps)), some vs => Gy C s d f vs caps
  | _, _, _ => .fail
 | .call { callee := .builtin .len, args, argTypes } => match args.toList, (argTypes[0]?).bind C.P.underlying with
  | [x], some d => match s.ev x with
   | .one (.cell c) => (s.len d c).bind fun n => .ret (.cell (.int .i64 n), [])
   | _ => .fail
  | _, _ => .fail
 | .call { callee := .builtin .min, args, .. } => match args.toList.map s.ev with
  | .one (.cell (.int k a)) :: r => ZW min k a r
  | _ => .fail
 | .call { callee := .builtin .max, args, .. } => match args.toList.map s.ev with
  | .one (.cell (.int k a)) :: r => ZW max k a r
  | _ => .fail
 | .build t parts => match C.ty t with
  | some u => if u.isAgg then (match gK C s t parts.toList (zeroCells u) with
   | some cs => .ret (.one (.agg cs), [])
   | none => .fail) else .fail
  | none => .fail
 | .box t x => match assoc C.tt t, o.dst, s.ev x with
  | some ty, some d, .one v => if v.known && v.cells.length = Ui ty then .ret (.cell (.ptr (aJ d 0) 0), [(aJ d 0, .box ty v.cells)]) else .fail
  | _, _, _ => .fail
 | .alloc t => match assoc C.tt t, o.dst with
  | some ty, some d => .ret (.cell (.ptr (aJ d 0) 0), [(aJ d 0, .box ty (Al ty))])
  | _, _ => .fail
 | .buildSlice t n parts => match C.elem t, o.dst with
  | some (_, u), some d => if n * u.sz <= 16777216 then (match dK s u parts.toList (List.replicate n u.dflt) [] with
   | some (l, []) => bif C.Sv o.dst t then .ret (.cell (.list true u l), []) else .ret (.cell (.ref (aJ d 0)), [(aJ d 0, .arr u l .open)])
   | _ => .fail) else .fail
  | _, _ => .fail
 | .makeSlice t l c => match C.elem t, o.dst with
  | some (e, u), some d => if C.wm e then (s.int l).bind fun (_, l) => (s.int c).bind fun (_, c) =>
    .test (0 <= l) (.test (l <= c) (.test (c * (C.bytes e : Int) <= fH)
     (.ret (.cell (.ref (aJ d 0)), [(aJ d 0, .arr u (List.replicate l.toNat u.dflt) .open)])) .fail) .fail) .fail else .fail
  | _, _ => .fail
 | _ => .fail
def readsOf (ops : List Oper) (o : Oper) : List Tmp :=
 (o.op.operands.toList.filterMap fun | .tmp t => some t | _ => none) ++ (match o.guard with
  | some (j, _) => (kL ops j).toList
  | none => [])
def dI (C : dA) (o : Oper) : Bool := o.dst.isSome && match o.op with
 | .move _ | .assign _ | .pick .. | .nilCheck _ | .binOp .. | .unOp .. | .convert .. | .slice _ _ _ _ none | .fieldAddr .. | .field .. | .indexAddr .. | .index .. | .makeFunc (.func _) _ _ | .extract .. | .build .. | .box .. | .alloc _ => true
 | .load t _ => !C.take o.dst t
 | .makeSlice t _ _ => (C.MN t).isNone
 | .buildSlice t _ _ => C.Sv o.dst t || ((C.MN t).isNone && match C.elem t with
  | some (_, u) => u.plain
  | none => false)
 | .call { callee := .value (.func f), .. } => (C.sig f).io.isEmpty && (C.sig f).lend.isNone
 | .call { callee := .value _, .. } => !o.Kl C
 | .call { callee := .builtin .len, .. } | .call { callee := .builtin .min, .. } | .call { callee := .builtin .max, .. } => true
 | _ => false
def Uk (C : dA) (ops : List Oper) (a b : Oper) : Bool :=
 dI C a && dI C b && (match a.dst, b.dst with
  | some x, some y => !Nat.beq x y && !(readsOf ops b).contains x && !(readsOf ops a).contains y
  | _, _ => false)
def Gz (o : Oper) : Bool := match o.op with
 | .extract .. | .binOp .. | .unOp .. | .pick .. | .field .. | .nilCheck _ | .fieldAddr .. | .build .. => true
 | _ => false
def jl (C : dA) (o : Oper) : Bool := o.dst.isNone && match o.op with
 | .store t _ _ => !C.gives.contains t
 | _ => false
def Km (C : dA) (ops : List Oper) (a b : Oper) : Bool :=
 dI C a && Gz a && jl C b && (match a.dst with
  | some x => !(readsOf ops b).contains x
  | none => false)
def yM (C : dA) (ops : List Oper) (a b : Oper) : Bool := Uk C ops a b || Km C ops a b || Km C ops b a
def jd : List Oper -> List Nat -> List Nat
 | [], acc => acc
 | o :: r, acc => jd r (acc ++ [o.after.toList.foldl (fun s e => if Region.binds .any e then s ||| 2 ^ e.on ||| acc.getD e.on 0 else s) 0])
def Cr (cm : Oper -> Oper -> Bool) (b : Oper) (ZX : Nat) : List Oper -> Nat -> Bool
 | [], _ => true
 | a :: r, j => (ZX.testBit j || cm a b) && Cr cm b ZX r (j + 1)
def jh (cm : Oper -> Oper -> Bool) (ops : List Oper) : List Oper -> List Nat -> Nat -> Bool
 | o :: r, a :: as, i => Cr cm o a (ops.take i) 0 && o.after.toList.all (fun e => !Region.binds .any e || Nat.blt e.on i) && jh cm ops r as (i + 1)
 | [], _, _ => true
 | _, _, _ => false
def OT (C : dA) (ops : List Oper) : Bool := jh (yM C ops) ops ops (jd ops []) 0
def OU : Slot -> Slot -> Bool
 | .one (.cell (.ptr i _)), .one (.cell (.ptr j _)) => !Nat.beq i j
 | .one (.cell (.ptr _ _)), .one (.cell (.lD _ _ _)) => true
 | .one (.cell (.ptr _ _)), .one (.cell (.pF _ _ _ _)) => true
 | _, _ => false
def dstsOf (ops : List Oper) : List Tmp := ops.filterMap (·.dst)
def Kn (C : dA) (ops : List Oper) (s : St) (a b : Oper) : Bool := match a.op, a.dst, b.op, b.dst with
 | .load _ (.tmp p), some d, .store t (.tmp q) _, none => dI C a && !C.gives.contains t && !(dstsOf ops).contains p && !(dstsOf ops).contains q && !(readsOf ops b).contains d && OU (s.env q) (s.env p)
 | _, _, _, _ => false
def QB (C : dA) (ops : List Oper) (s : St) (a b : Oper) : Bool := yM C ops a b || Kn C ops s a b || Kn C ops s b a
def Gf (C : dA) (ops : List Oper) (s : St) : Bool := ops.all (fun o => dI C o || jl C o) && jh (QB C ops s) ops ops (jd ops []) 0
inductive Ex where
 | normal | exit (id : Nat) | ret
def Cell.ids : Cell -> List Nat
 | .ref id | .sub id _ _ | .ptr id _ | .lD id _ _ | .nk id | .ny id _ _ | .inn id _ _ => [id]
 | .oq _ caps => caps.filterMap fun | .ptr id => some id | _ => none
 | _ => []
def aH.ids (c : aH) : List Nat := c.cells.flatMap Cell.ids
def Slot.ids : Slot -> List Nat
 | .one c => c.ids
 | .Co cs => cs.flatMap aH.ids
def Entry.mh : Entry -> Bool
 | .box _ cs => cs.all fun c => c.ids.isEmpty
 | .arr _ _ _ => true
 | .deep _ _ n => n.isNone
def nE (o : Oper) : Option (Tmp × Tmp × Tmp) := match o.op, o.dst with
 | .call { callee := .builtin .append, args, .. }, some d => match args.toList with
  | [.tmp x, .tmp y] => some (x, y, d)
  | _ => none
 | _, _ => none
def zl (C : dA) (o : Oper) : Bool := match o.op with
 | .move _ | .assign _ | .fieldAddr .. | .indexAddr .. | .load .. | .slice _ _ _ _ none | .build .. | .binOp .. | .buildSlice .. => true
 | .call { callee := .value (.func f), .. } => match C.P.funcs[f]? with
  | some fn => Nat.beq fn.resultTypes.size 1 && (match resTy C fn.resultTypes.toList with
   | some (.list _) => true
   | some (.dh _) => true
   | some t => t.plain
   | none => false)
  | none => false
 | _ => false
structure Dr where
 xt : List Tmp
 R : List Tmp
 K : List Nat
 U : List Nat
def Sw (a b : List Nat) : Bool := a.all fun x => !b.contains x
def subs (a b : List Nat) : Bool := a.all fun x => b.contains x
def YI (xt : List Tmp) (o : Oper) : List Tmp := match o.dst with
 | some x => bif xt.contains x then (match o.op with
   | .move (.tmp y) | .assign (.tmp y) => y :: xt
   | _ => match nE o with
    | some (t, _, _) => t :: xt
    | none => xt) else xt
 | none => xt
def YJ (ops : List Oper) (dq : List Tmp) (o : Oper) : List Tmp := match o.dst with
 | some x => bif (nE o).isSome || (readsOf ops o).any (fun t => dq.contains t) then x :: dq else dq
 | none => dq
def acO (ops : List Oper) (s : St) : Dr :=
 let xt := (ops.reverse ++ ops.reverse).foldl YI (ops.filterMap fun o => (nE o).map (·.1))
 let dq := ops.foldl (YJ ops) xt
 let R := ((ops.filter fun o => o.dst.isSome && (nE o).isNone).flatMap (readsOf ops)).filter fun t => !dq.contains t
 { xt, R, K := xt.flatMap fun t => aJ t 0 :: (s.env t).ids, U := (R.flatMap fun t => (s.env t).ids) ++ ((dstsOf ops).filter fun t => R.contains t).map fun t => aJ t 0 }
def oP (C : dA) (o : Oper) : Bool := match o.op with
 | .call { argTypes, .. } => ((argTypes[0]?).bind C.MN).isNone
 | _ => false
def Ko (C : dA) (ops : List Oper) (D : Dr) (s : St) (o : Oper) : Bool := o.guard.isNone && match o.dst with
 | some x => match nE o with
  | some (t, _, _) => oP C o && !D.R.contains x && D.xt.contains t && (!D.xt.contains x || D.K.contains (aJ x 0))
  | none => dI C o && (!D.R.contains x || (zl C o && subs (readsOf ops o) D.R && D.U.contains (aJ x 0))) &&
   (!D.xt.contains x || (match o.op with
    | .move (.tmp y) | .assign (.tmp y) => D.xt.contains y && D.K.contains (aJ x 0)
    | .buildSlice .. => D.K.contains (aJ x 0)
    | .call { callee := .value (.func _), .. } => zl C o && D.K.contains (aJ x 0)
    | _ => false))
 | none => jl C o && match o.op with
  | .store _ (.tmp q) _ => !(dstsOf ops).contains q && Sw (s.env q).ids D.U
  | _ => false
def GA (D : Dr) (s : St) : Bool :=
 Sw D.K D.U && D.R.all (fun r => subs (s.env r).ids D.U && (s.env r).ids.all fun i => match s.ak i with
  | some e => e.mh
  | none => true) && D.xt.all (fun t => subs (s.env t).ids D.K)
def Kq (C : dA) (ops : List Oper) (D : Dr) (a b : Oper) : Bool := match a.dst, nE b with
 | some x, some (_, _, d) => dI C a && zl C a && !(readsOf ops b).contains x && !Nat.beq x d && !(readsOf ops a).contains d && subs (readsOf ops a) D.R
 | _, _ => false
def Ul (C : dA) (ops : List Oper) (D : Dr) (a b : Oper) : Bool := yM C ops a b || Kq C ops D a b || Kq C ops D b a
def xA (ops : List Oper) (i : Nat) : Bool := (match (jd ops [])[i]? with
 | some m => (List.range i).all fun k => m.testBit k
 | none => false) && (match ops[i]? with
 | some o => o.guard.isNone && (nE o).isNone
 | none => false)
def tails (ops : List Oper) (j : Nat) : Bool := (List.range ops.length).all fun i => Nat.blt i j || xA ops i
def Gg (C : dA) (ops : List Oper) (s : St) : Bool := let D := acO ((ops.zipIdx.filter fun x => !tails ops x.2).map (·.1)) s
 ops.zipIdx.all (fun x => tails ops x.2 || Ko C ops D s x.1) && GA D s && jh (Ul C ops D) ops ops (jd ops []) 0
def fD : Slot -> Bool
 | .one (.cell (.ptr _ _)) => true
 | _ => false
def Kr (C : dA) (ops : List Oper) (s0 : St) (a b : Oper) : Bool := match a.op, a.dst, nE b with
 | .move (.tmp z), some x, some (_, _, d) => oP C b && fD (s0.env z) && !(dstsOf ops).contains z && !(readsOf ops b).contains x && !Nat.beq x d
 | _, _, _ => false
def tV (C : dA) (o : Oper) : Option Tmp := match o.op, o.dst with
 | .call { callee := .value (.func f), .. }, some d => if ((C.sig f).lend.isNone && !(C.sig f).io.isEmpty) = true then some d else none
 | _, _ => none
def Kt (C : dA) (ops : List Oper) (s0 : St) (a b : Oper) : Bool := match a.op, a.dst, tV C b with
 | .move (.tmp z), some x, some d => fD (s0.env z) && !(dstsOf ops).contains z && !(readsOf ops b).contains x && !Nat.beq x d
 | _, _, _ => false
def Um (C : dA) (ops : List Oper) (s0 : St) (a b : Oper) : Bool := yM C ops a b || Kr C ops s0 a b || Kr C ops s0 b a || Kt C ops s0 a b || Kt C ops s0 b a
def Gh (C : dA) (ops : List Oper) (s : St) : Bool :=
 ops.all (fun o => o.guard.isNone && (dI C o || jl C o || ((nE o).isSome && oP C o) || (tV C o).isSome)) && jh (Um C ops s) ops ops (jd ops []) 0
def rz (C : dA) (o : Oper) : Option (Tmp × Tmp) := match o.op, o.dst with
 | .call { callee := .value (.func f), args, .. }, some d => match (C.sig f).lend, C.P.funcs[f]? with
  | some i, some fn => match args.toList[i]? with
   | some (.tmp t) => bif (C.sig f).xU || ((fn.params.toList[i]?).bind C.ty).isSome then none else some (d, t)
   | _ => none
  | _, _ => none
 | _, _ => none
def GD (s0 : St) (bad : Option Nat) : Slot -> Bool
 | .one (.cell (.ptr id 0)) => (match s0.ak id with
  | some (.box (some T) _) => !T.ob
  | _ => false) && !(bad == some id)
 | .one (.cell .undef) => true
 | _ => false
def pI (ops : List Oper) (s0 : St) (bad : Option Nat) (t : Tmp) : Bool := GD s0 bad (s0.env t) && ops.all fun o => !(o.dst == some t) || (match o.op with
 | .move (.tmp z) => !(dstsOf ops).contains z && fD (s0.env z) && GD s0 bad (s0.env z)
 | _ => false)
def EL (C : dA) (ops : List Oper) (s0 : St) (a b : Oper) : Bool := match a.op, a.dst, rz C b with
 | .move (.tmp z), some x, some (d, t) => fD (s0.env z) && !(dstsOf ops).contains z && !(readsOf ops b).contains x && !Nat.beq x d && pI ops s0 none t
 | .load _ (.tmp z), some x, some (d, t) => dI C a && !(dstsOf ops).contains z && !(readsOf ops b).contains x && !Nat.beq x d && (match s0.env z with
  | .one (.cell (.ptr id _)) => pI ops s0 (some id) t
  | _ => false)
 | _, _, _ => false
def MO (C : dA) (ops : List Oper) (s0 : St) (a b : Oper) : Bool := yM C ops a b || EL C ops s0 a b || EL C ops s0 b a
def Gi (C : dA) (ops : List Oper) (s : St) : Bool :=
 ops.zipIdx.all (fun x => tails ops x.2 || (x.1.guard.isNone && (dI C x.1 || jl C x.1 || (match rz C x.1 with
  | some (_, t) => pI ops s none t
  | none => false)))) && ops.all (fun o => o.guard.isNone) && jh (MO C ops s) ops ops (jd ops []) 0
def OV (C : dA) (o : Oper) : Bool := match o.op with
 | .move (.tmp _) => (C.MN o.type).isSome || (C.elem o.type).isNone
 | .nilCheck _ | .fieldAddr .. | .load .. | .slice _ _ _ _ none => true
 | _ => false
def Ct (C : dA) (ops : List Oper) (s : St) : Bool := false
def notNil : Slot -> Bool
 | .one (.cell .nil) => false
 | _ => true
def GH (C : dA) (nn : List Tmp) (o : Oper) : Bool := OV C o || match o.op with
 | .move (.tmp z) => nn.contains z
 | .indexAddr .. | .index .. | .binOp .. | .unOp .. | .extract .. | .build .. | .field .. => true
 | .buildSlice t _ _ => C.Sv o.dst t
 | .call { callee := .builtin .len, .. } => true
 | _ => false
def xB (C : dA) (o : Oper) : Bool := match o.op with
 | .call { callee := .value (.func f), .. } => match C.P.funcs[f]? with
  | some fn => Nat.beq fn.resultTypes.size 1 && (match resTy C fn.resultTypes.toList with
   | some t => t.plain
   | none => false)
  | none => false
 | _ => false
def OW (ops : List Oper) (s0 : St) (t : Tmp) : List Nat := (s0.env t).ids ++ ops.flatMap fun o => bif o.dst == some t then (match o.op with
 | .move (.tmp z) => (s0.env z).ids
 | _ => []) else []
def zm (C : dA) (ops : List Oper) (s0 : St) (o : Oper) : Option Tmp := match o.op, o.dst with
 | .store t (.tmp q) _, none => bif !C.gives.contains t && !(dstsOf ops).contains q && fD (s0.env q) then some q else none
 | _, _ => none
structure De where
 LS : List Tmp
 Z : List Tmp
 NN : List Tmp
 P : List Nat
def Un (s : St) (i : Nat) : List Nat := match s.ak i with
 | some (.box _ cs) => cs.flatMap Cell.ids
 | _ => []
def ZY (C : dA) (ops : List Oper) (s : St) (bad : List Nat) (nn LS : List Tmp) (o : Oper) : List Tmp := match o.dst with
 | some x => bif ((rz C o).isSome && xB C o) || (dI C o && GH C nn o && (readsOf ops o).all (fun r => LS.contains r || (!(dstsOf ops).contains r && Sw ((s.env r).ids ++ (s.env r).ids.flatMap (Un s)) bad))) then x :: LS else LS
 | none => LS
def aac (C : dA) (ops : List Oper) (s : St) (cut : Nat) : De :=
 let nt := ops.take cut
 let bad := nt.flatMap fun o => match rz C o with
  | some (_, t) => OW ops s t
  | none => match zm C ops s o with
   | some q => (s.env q).ids
   | none => []
 let NN := (nt.flatMap (readsOf ops)).filter fun r => !(dstsOf ops).contains r && notNil (s.env r)
 let LS := nt.foldl (ZY C ops s bad NN) []
 let Z := ((nt.filter fun o => (rz C o).isNone && match o.dst with
  | some x => LS.contains x
  | none => false).flatMap (readsOf ops)).filter fun r => !(dstsOf ops).contains r
 let base := (LS ++ Z).flatMap fun t => (s.env t).ids
 { LS, Z, NN, P := base ++ base.flatMap (Un s) }
def OX (ops : List Oper) (D : De) (s : St) : Bool :=
 D.P.all (fun i => match s.ak i with
  | some (.box _ cs) => cs.all fun c => subs c.ids D.P
  | some _ => true
  | none => false) && D.LS.all (fun t => subs (s.env t).ids D.P) && D.Z.all (fun t => subs (s.env t).ids D.P) && D.NN.all fun t => !(dstsOf ops).contains t && notNil (s.env t)
def GI (C : dA) (ops : List Oper) (s0 : St) (D : De) (o : Oper) : Bool := match rz C o with
 | some (d, t) => pI ops s0 none t && Sw (OW ops s0 t) D.P && !D.Z.contains d && (!D.LS.contains d || xB C o)
 | none => match zm C ops s0 o with
  | some q => Sw (s0.env q).ids D.P
  | none => false
def OY (C : dA) (ops : List Oper) (s0 : St) (D : De) (o : Oper) : Bool := GI C ops s0 D o || (dI C o && match o.dst with
 | none => false
 | some x => bif D.LS.contains x then GH C D.NN o && (readsOf ops o).all (fun r => D.LS.contains r || D.Z.contains r) else !D.Z.contains x)
def DK (C : dA) (ops : List Oper) (s0 : St) (D : De) (a b : Oper) : Bool := dI C a && GH C D.NN a && GI C ops s0 D b && (readsOf ops a).all (fun r => D.LS.contains r || D.Z.contains r) && (match a.dst with
 | some x => D.LS.contains x && !(readsOf ops b).contains x && !(b.dst == some x)
 | none => false) && match b.dst with
 | some d => !(readsOf ops a).contains d
 | none => true
def Uo (C : dA) (ops : List Oper) (s0 : St) (D : De) (a b : Oper) : Bool := MO C ops s0 a b || DK C ops s0 D a b || DK C ops s0 D b a
def Yp (C : dA) (ops : List Oper) (j : Nat) : Bool := (List.range ops.length).all fun i => Nat.blt i j || (match (jd ops [])[i]?, ops[i]? with
 | some m, some o => (List.range i).all fun k => m.testBit k || (Nat.ble j k && match ops[k]? with
  | some p => yM C ops p o
  | none => false)
 | _, _ => false)
def Uq (C : dA) (ops : List Oper) : Nat := ((List.range ops.length).find? (Yp C ops)).getD ops.length
def Cu (C : dA) (ops : List Oper) (s : St) : Bool := let c := Uq C ops; let D := aac C ops s c
 Yp C ops c && ops.zipIdx.all (fun x => Nat.ble c x.2 || OY C ops s D x.1) && ops.all (fun o => o.guard.isNone) && OX ops D s && jh (Uo C ops s D) ops ops (jd ops []) 0
def Bu (acc : List Nat) : List Nat -> List Nat
 | [] => acc
 | x :: r => if acc.contains x then Bu acc r else Bu (acc ++ [x]) r
def reach (σ : Nat -> Option Entry) : Nat -> Nat -> List Nat -> List Nat
 | 0, _, acc => acc
 | n + 1, p, acc => match acc[p]? with
  | none => acc
  | some id => match σ id with
   | some (.box _ cs) => reach σ n (p + 1) (Bu acc (cs.flatMap Cell.ids))
   | _ => reach σ n (p + 1) acc
def posOf : List Nat -> Nat -> Nat -> Option Nat
 | [], _, _ => none
 | x :: r, id, p => bif Nat.beq x id then some p else posOf r id (p + 1)
def EM (order : List Nat) (id : Nat) : Option Nat := (posOf order id 0).map jk
def qp (r : Nat -> Option Nat) : List Cap -> Option (List Cap)
 | [] => some []
 | .ro t x :: cs => (qp r cs).map (.ro t x :: ·)
 | .ptr id :: cs => match r id, qp r cs with
  | some id, some cs => some (.ptr id :: cs)
  | _, _ => none
def Cell.ren (r : Nat -> Option Nat) : Cell -> Cell
 | .ref id => match r id with
  | some id => .ref id
  | none => .undef
 | .sub id o n => match r id with
  | some id => .sub id o n
  | none => .undef
 | .ptr id o => match r id with
  | some id => .ptr id o
  | none => .undef
 | .lD id i o => match r id with
  | some id => .lD id i o
  | none => .undef
 | .oq f caps => match qp r caps with
  | some caps => .oq f caps
  | none => .undef
 | .nk id => match r id with
  | some id => .nk id
  | none => .undef
 | .ny id i o => match r id with
  | some id => .ny id i o
  | none => .undef
 | .inn id i o => match r id with
  | some id => .inn id i o
  | none => .undef
 | .bool b => .prop (b = true) (instDecidableEqBool b true)
 | .prop p d => .prop (@decide p d = true) (instDecidableEqBool (@decide p d) true)
 | c => c
def aH.ren (r : Nat -> Option Nat) : aH -> aH
 | .cell c => .cell (c.ren r)
 | .agg cs => .agg (cs.map (Cell.ren r))
def Slot.ren (r : Nat -> Option Nat) : Slot -> Slot
 | .one c => .one (c.ren r)
 | .Co cs => .Co (cs.map (aH.ren r))
def Entry.ren (r : Nat -> Option Nat) : Entry -> Entry
 | .box t cs => .box t (cs.map (Cell.ren r))
 | e => e
structure Head where
 vals : List Slot
 ak : List Entry
def Ku : List Nat -> List Slot -> Nat -> Slot
 | k :: ks, v :: vs, t => bif Nat.beq k t then v else Ku ks vs t
 | _, _, _ => .undef
def Cv : List Entry -> Nat -> Nat -> Option Entry
 | [], _, _ => none
 | e :: r, p, k => bif Nat.beq k (jk p) then some e else Cv r (p + 1) k
def Head.st (n : Nat) (keep : List Nat) (h : Head) : St := { n, env := Ku keep h.vals, ak := Cv h.ak 0 }
def Slot.alive : Slot -> Bool
 | .one (.cell .undef) | .one (.cell .void) => false
 | _ => true
def Bv {α : Type} : List (Option α) -> Option (List α)
 | [] => some []
 | some a :: r => match Bv r with
  | some l => some (a :: l)
  | none => none
 | none :: _ => none
def GJ (keep : List Nat) (s : St) : Option Head :=
 let vals := keep.map s.env
 let order := reach s.ak 256 0 (Bu [] (vals.flatMap Slot.ids))
 let r := EM order
 match Bv (order.map fun id => (s.ak id).map (Entry.ren r)) with
 | some es => some { vals := vals.map (Slot.ren r), ak := es }
 | none => none
section
variable {R : Type}
abbrev K (R : Type) := Ex -> St -> Option R
def OZ (keep : List Nat) (n : Nat) (again : Head -> Option R) (κ : K R) : K R := fun x s => match x with
 | .normal => bif Nat.beq s.n n then (match GJ keep s with
  | some h => again h
  | none => none) else none
 | x => κ x s
def iter (keep : List Nat) (n : Nat) (body : St -> K R -> Option R) (κ : K R) : Nat -> Head -> Option R
 | 0, _ => none
 | m + 1, h => body (h.st n keep) (OZ keep n (iter keep n body κ m) κ)
def aad (next : St -> Option R) (κ : K R) : K R := fun x s => match x with
 | .normal => next s
 | x => κ x s
def Pb (id : Nat) (κ : K R) : K R := fun x s => match x with
 | .exit i => bif Nat.beq i id then κ .normal s else κ (.exit i) s
 | x => κ x s
def GK (vars : List Nat) (s : St) : List Nat := vars.filter fun t => (s.env t).alive
def YK (C : dA) (ah : FuncId -> (t : Ty) -> List Arg -> Option t.den) (ops : Array Oper) (draw : Bool) (s : St) (κ : K R) : Option R :=
 bif draw && !(OT C ops.toList || Gf C ops.toList s || Gg C ops.toList s || Gh C ops.toList s || (Gi C ops.toList s || (Ct C ops.toList s || Cu C ops.toList s))) then none else
  (DJ C ops.toList ops.toList.zipIdx s).run ah (κ .normal)
def once (keep : List Nat) (n : Nat) (next : St -> Option R) : Nat -> Head -> Option R
 | 0, _ => none
 | _ + 1, h => next (h.st n keep)
def Ur (vars : List Nat) (id : Nat) : Bool := vars.any fun v => Nat.beq (v / 4096) (256 + id)
def Yq (vars : List Nat) (id i : Nat) : Bool := vars.any (Nat.beq (1048576 + id * 4096 + i))
def MP (C : dA) (ah : FuncId -> (t : Ty) -> List Arg -> Option t.den) (vars : List Nat) (k : Nat) (ops : List Oper) (id : Nat) (κ : St -> Option R) : List (Oper × Nat) -> St -> Option R
 | [], s => κ s
 | (o, i) :: r, s => bif Yq vars id i then (match GJ (GK vars s) s with
  | some h => once (GK vars s) s.n (fun s => (stepT C ops i o s).run ah (MP C ah vars k ops id κ r)) k h
  | none => none) else (stepT C ops i o s).run ah (MP C ah vars k ops id κ r)
def kY (C : dA) (ah : FuncId -> (t : Ty) -> List Arg -> Option t.den) (vars : List Nat) (k : Nat) : Code -> St -> K R -> Option R
 | .skip, s, κ => κ .normal s
 | .ret, s, κ => κ .ret s
 | .exit id, s, κ => κ (.exit id) s
 | .seq a b, s, κ => kY C ah vars k a s (aad (fun s => kY C ah vars k b s κ) κ)
 | .block id b, s, κ => kY C ah vars k b s (Pb id κ)
 | .cond c a b, s, κ => match s.ev c with
  | .one (.cell (.bool true)) => kY C ah vars k a s κ
  | .one (.cell (.bool false)) => kY C ah vars k b s κ
  | .one (.cell (.prop p d)) => @ite _ p d (kY C ah vars k a s κ) (kY C ah vars k b s κ)
  | _ => none
 | .region id ops draw, s, κ => bif !draw && Ur vars id then MP C ah vars k ops.toList id (κ .normal) ops.toList.zipIdx s else YK C ah ops draw s κ
 | .loop b, s, κ =>
  let keep := GK vars s
  match GJ keep s with
  | some h => iter keep s.n (fun s κ => kY C ah vars k b s κ) κ k h
  | none => none
 | _, _, _ => none
end
def Gj : List (Nat × Entry) -> Nat -> List (Nat × Entry)
 | [], _ => []
 | (k, .arr t l _) :: r, j => (k, .arr t l (.pinned j)) :: Gj r (j + 1)
 | (k, .deep t l _) :: r, j => (k, .deep t l (some j)) :: Gj r (j + 1)
 | x :: r, j => x :: Gj r (j + 1)
def gH (i : Nat) : Arg -> Slot × List (Nat × Entry)
 | .val t x => (.one (zh t.kept t x), [])
 | .Ug t x => (.one (zh true t x), [])
 | .oq f caps => (.cell (.oq f caps), [])
 | .rp t x => (.cell (.pF false t x 0), [])
 | .give t x => match aR true (gX i) t x 0 with
  | (cs, es, _) => (.one (bG t.isAgg cs), es)
 | .gJ t x => match aR t.ob (fun j => gX i (j + 1)) t x 0 with
  | (cs, es, _) => (.cell (.ptr (gX i 0) 0), (gX i 0, .box (some t) cs) :: es)
 | .lend t x => match aR true (gX i) t x 0 with
  | (cs, es, _) => (.one (bG t.isAgg cs), Gj es 0)
def dV : Nat -> List Arg -> List Slot × List (Nat × Entry)
 | _, [] => ([], [])
 | i, a :: r => match gH i a, dV (i + 1) r with
  | (v, es), (vs, fs) => (v :: vs, es ++ fs)
def xV (lo : Nat) (fn : Func) (args : List Arg) : St :=
 match dV 0 args with
 | (vs, es) => { n := (args.length + (fn.ntmps - args.length)) * 1048576 + lo, env := fun t => (vs[t]?).getD .undef, ak := assoc es }
def jJ (C : dA) (s : St) : List ResultVar -> Option (List aH)
 | [] => some []
 | .tmp t :: r => match s.env t, jJ C s r with
  | .one c, some r => some (c :: r)
  | _, _ => none
 | .cell a t :: r => match C.shape t, s.env a, jJ C s r with
  | some (n, agg), .one (.cell p), some r => match s.jN n agg p with
   | .ret c => some (c :: r)
   | _ => none
  | _, _, _ => none
def Arg.kind : Arg -> Nat
 | .gJ _ _ => 2
 | _ => 0
def lG : List Arg -> Nat -> Option (Nat × Ty)
 | [], _ => none
 | .lend t _ :: _, i => some (i, t)
 | _ :: r, i => lG r (i + 1)
def oQ : List Arg -> Nat -> Option (Nat × Ty)
 | [], _ => none
 | .gJ t _ :: _, i => some (i, t)
 | _ :: r, i => oQ r (i + 1)
def zn : Ty -> List aH -> Bool
 | .unit, [] => true
 | .pair a b, c :: cs => EK a c && Nat.beq c.cells.length a.sz && zn b cs
 | _, _ => false
def uK (one : Bool) (t : Ty) (vs : List aH) : Bool :=
 if one then (match vs with
  | [c] => EK t c
  | _ => false) else zn t vs
def Us (C : dA) (own : Bool) (fn : Func) (kinds : List Nat) (t : Ty) : K t.den := fun x s => match x with
 | .exit _ => none
 | _ => bif Nat.beq fn.results.size fn.resultTypes.size && !kinds.any (!Nat.beq 0 ·) then
  (match jJ C s fn.results.toList with
  | some vs => bif vs.all aH.known && uK (Nat.beq fn.resultTypes.size 1) t vs then
    (match bH s.ak (bif own then Mode.give else Mode.keep) t (vs.flatMap aH.cells) with
    | some (x, ids) => bif !own || nodup ids then some x else none
    | none => none) else none
  | none => none) else none
def Lp (C : dA) (fn : Func) (i : Nat) (T rt : Ty) (s : St) : Option (rt.den × T.den) :=
 bif Nat.beq fn.results.size fn.resultTypes.size then
  (match jJ C s fn.results.toList, s.env i with
  | some vs, .one (.cell (.ptr id 0)) => (match s.ak id with
   | some (.box _ cs) => bif vs.all aH.known && uK (Nat.beq fn.resultTypes.size 1) rt vs then
    (match bH s.ak .give rt (vs.flatMap aH.cells), bH s.ak (bif T.ob then .give else .keep) T cs with
    | some (y, ids), some (z, js) => bif nodup (ids ++ js) && (T.ob || js.isEmpty) then some (y, z) else none
    | _, _ => none) else none
   | _ => none)
  | _, _ => none) else none
def Sy (C : dA) (fn : Func) (i : Nat) (T : Ty) : (t : Ty) -> K t.den
 | .pair rt T' => fun x s => if h : T = T' then match x with
  | .exit _ => none
  | _ => match Lp C fn i T rt s with
   | some r => some (r.1, h ▸ r.2)
   | none => none
  else none
 | _ => fun _ _ => none
def Ww (C : dA) (fn : Func) (t : Ty) : K t.den := fun x s => match x with
 | .exit _ => none
 | _ => bif Nat.beq fn.results.size fn.resultTypes.size && Nat.beq fn.resultTypes.size 1 then
  (match jJ C s fn.results.toList with
  | some [.cell (.ptr id 0)] => (match s.ak id with
   | some (.box (some u) cs) => if u = t then (match bH s.ak .keep t cs with
    | some (z, []) => some z
    | _ => none) else none
   | _ => none)
  | _ => none) else none
def run (C : dA) : Nat -> FuncId -> (t : Ty) -> List Arg -> Option t.den
 | 0, _, _, _ => none
 | k + 1, f, t, args => match C.Lj f with
  | some p => p t args
  | none => match C.P.funcs[f]? with
   | some fn => match fn.body with
    | some c => match lG args 0 with
     | none => (match oQ args 0 with
      | none => bif (C.sig f).xU then kY C (run C k) ((assoc C.vars f).getD []) k c (xV 0 fn args) (Ww C fn t) else kY C (run C k) ((assoc C.vars f).getD []) k c (xV 0 fn args) (Us C (C.sig f).own fn (args.map Arg.kind) t)
      | some (i, T) => bif Nat.blt i 1000 then kY C (run C k) ((assoc C.vars f).getD []) k c (xV (i + 1) fn args) (Sy C fn i T t) else none)
     | some _ => none
    | none => none
   | none => none
inductive Way where
 | l | r | b | t | e | p
def wK : Code -> List Way -> Code
 | c, [] => c
 | .seq a _, .l :: w => wK a w
 | .seq _ b, .r :: w => wK b w
 | .block _ b, .b :: w => wK b w
 | .cond _ a _, .t :: w => wK a w
 | .cond _ _ b, .e :: w => wK b w
 | .loop b, .p :: w => wK b w
 | _, _ => .refuse ""
structure Out where
 keep : List Nat
 left : Nat
def wL {R : Type} (C : dA) (ah : FuncId -> (t : Ty) -> List Arg -> Option t.den) (vars : List Nat) (k n : Nat) : Code -> List Way -> List Out -> K R -> K R
 | .seq a b, .l :: w, os, κ => wL C ah vars k n a w os (aad (fun s => kY C ah vars k b s κ) κ)
 | .seq _ b, .r :: w, os, κ => wL C ah vars k n b w os κ
 | .block id b, .b :: w, os, κ => wL C ah vars k n b w os (Pb id κ)
 | .cond _ a _, .t :: w, os, κ => wL C ah vars k n a w os κ
 | .cond _ _ b, .e :: w, os, κ => wL C ah vars k n b w os κ
 | .loop b, .p :: w, o :: os, κ => wL C ah vars k n b w os (OZ o.keep n (iter o.keep n (fun s κ => kY C ah vars k b s κ) κ o.left) κ)
 | _, _, _, κ => κ
def cB (C : dA) (k : Nat) (f : FuncId) (t : Ty) (kinds : List Nat) (w : List Way) (outs : List Out) (keep : List Nat) (m : Nat) (h : Head) : Option t.den :=
 match C.P.funcs[f]? with
 | some fn => match fn.body with
  | some c => match wK c w with
   | .loop b =>
    let vars := (assoc C.vars f).getD []
    let n := (kinds.length + (fn.ntmps - kinds.length)) * 1048576 + 0
    iter keep n (fun s κ => kY C (run C k) vars k b s κ) (wL C (run C k) vars k n c w outs (Us C (C.sig f).own fn kinds t)) m h
   | _ => none
  | none => none
 | none => none
def YL (C : dA) (k : Nat) (f : FuncId) (t : Ty) (kinds : List Nat) (w : List Way) (i : Nat) (outs : List Out) (keep : List Nat) (m : Nat) (h : Head) : Option t.den :=
 match C.P.funcs[f]? with
 | some fn => match fn.body with
  | some c => match wK c w with
   | .region id ops _ => match ops.toList.zipIdx.drop i with
    | (o, i) :: r =>
     let vars := (assoc C.vars f).getD []
     let n := (kinds.length + (fn.ntmps - kinds.length)) * 1048576 + 0
     once keep n (fun s => (stepT C ops.toList i o s).run (run C k) (MP C (run C k) vars k ops.toList id (wL C (run C k) vars k n c w outs (Us C (C.sig f).own fn kinds t) .normal) r)) m h
    | [] => none
   | _ => none
  | none => none
 | none => none
def nG (C : dA) (k : Nat) (f : FuncId) (t : Ty) (i : Nat) (T : Ty) (nargs : Nat) (w : List Way) (outs : List Out) (keep : List Nat) (m : Nat) (h : Head) : Option t.den :=
 match C.P.funcs[f]? with
 | some fn => match fn.body with
  | some c => match wK c w with
   | .loop b =>
    let vars := (assoc C.vars f).getD []
    let n := (nargs + (fn.ntmps - nargs)) * 1048576 + (i + 1)
    iter keep n (fun s κ => kY C (run C k) vars k b s κ) (wL C (run C k) vars k n c w outs (Sy C fn i T t)) m h
   | _ => none
  | none => none
 | none => none
def Ut (C : dA) (k : Nat) (f : FuncId) (t : Ty) (nargs : Nat) (w : List Way) (outs : List Out) (keep : List Nat) (m : Nat) (h : Head) : Option t.den :=
 match C.P.funcs[f]? with
 | some fn => match fn.body with
  | some c => match wK c w with
   | .loop b =>
    let vars := (assoc C.vars f).getD []
    let n := (nargs + (fn.ntmps - nargs)) * 1048576 + 0
    iter keep n (fun s κ => kY C (run C k) vars k b s κ) (wL C (run C k) vars k n c w outs (Ww C fn t)) m h
   | _ => none
  | none => none
 | none => none
end Go.Flat
