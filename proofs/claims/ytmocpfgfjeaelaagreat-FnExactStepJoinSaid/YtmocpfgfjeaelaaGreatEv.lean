/- A plain evaluator of the program's code over numbers, bytes and lists: what a call is to answer, with no memory in sight. That it answers as the program does is shown in the texts behind it. No condition. -/
import Derived.Calls
import Derived.Orders
set_option linter.unusedVariables false
namespace Go.Flat
inductive Ty where
 | bool | int (k:IntKind) | str | list (t:Ty) | unit | pair (a b:Ty) | aG (t:Ty)
 deriving DecidableEq
@[reducible] def Ty.den:Ty->Type
 | .bool=>Bool
 | .int _=>Int
 | .str=>ByteArray
 | .list t=>List t.den
 | .unit=>Unit
 | .pair a b=>a.den × b.den
 | .aG t=>List t.den
def Ty.kept:Ty->Bool
 | .list (.int .u8)=>true
 | _=>false
def Ty.ob:Ty->Bool
 | .pair (.list (.int .u8)) _=>false
 | _=>true
def Ty.dflt:(t:Ty)->t.den
 | .bool=>false
 | .int _=>0
 | .str=>ByteArray.empty
 | .list _=>[]
 | .unit=>()
 | .pair a b=>(a.dflt,b.dflt)
 | .aG _=>[]
def Ty.rows:Ty->Ty
 | .list t=>.list t
 | .pair a b=>.pair a.rows b.rows
 | .aG t=>.aG t
 | .bool | .int _ | .str | .unit=>.unit
def Ty.sz:Ty->Nat
 | .unit=>0
 | .pair a b=>a.sz+b.sz
 | _=>1
def Ty.isAgg:Ty->Bool
 | .unit | .pair _ _=>true
 | _=>false
inductive Cap where
 | ptr (id:Nat)
 | ro (t:Ty) (x:t.den)
inductive Cell where
 | undef
 | void
 | bool (b:Bool)
 | prop (p:Prop) (d:Decidable p)
 | int (k:IntKind) (n:Int)
 | str (s:ByteArray)
 | nil
 | list (fr:Bool) (t:Ty) (l:List t.den)
 | ref (id:Nat)
 | sub (id off len:Nat)
 | ptr (id off:Nat)
 | ko (id i off:Nat)
 | nH (fr:Bool) (t:Ty) (x:t.den) (off:Nat)
 | qY (f:FuncId) (caps:List Cap)
 | fE (id:Nat)
 | kJ (id i off:Nat)
 | inn (id i off:Nat)
inductive av where
 | cell (c:Cell)
 | agg (cs:List Cell)
inductive Slot where
 | one (c:av)
 | wN (cs:List av)
@[reducible] def Cell.is (p:Prop) [d:Decidable p]:Cell:=.prop p d
@[reducible] def Slot.cell (c:Cell):Slot:=.one (.cell c)
@[reducible] def Slot.undef:Slot:=.one (.cell .undef)
def av.cells:av->List Cell
 | .cell c=>[c]
 | .agg cs=>cs
inductive Own where
 | open | pinned (n:Nat) | frozen
 deriving DecidableEq
inductive Entry where
 | box (t:Option Ty) (cs:List Cell)
 | arr (t:Ty) (l:List t.den) (o:Own)
 | deep (t:Ty) (l:List t.den) (pin:Option Nat)
structure St where
 n:Nat
 env:Nat->Slot
 aj:Nat->Option Entry
inductive Arg where
 | val (t:Ty) (x:t.den)
 | qY (f:FuncId) (caps:List Cap)
 | rp (t:Ty) (x:t.den)
 | give (t:Ty) (x:t.den)
 | mQ (t:Ty) (x:t.den)
 | lend (t:Ty) (x:t.den)
 | Nl (t:Ty) (x:t.den)
def Arg.solid:Arg->Arg
 | .val t x=>.Nl t x
 | a=>a
inductive T (α:Type):Type where
 | ret (a:α)
 | fail
 | br (p:Prop) (d:Decidable p) (x y:T α)
 | call (f:FuncId) (t:Ty) (args:List Arg) (k:t.den->T α)
namespace T
def bind {α β:Type}:T α->(α->T β)->T β
 | .ret a,f=>f a
 | .fail,_=>.fail
 | .br p d x y,f=>.br p d (x.bind f) (y.bind f)
 | .call g t args k,f=>.call g t args fun r=>(k r).bind f
instance:Monad T where
 pure:=T.ret
 bind:=T.bind
def ofOption {α:Type}:Option α->T α
 | some a=>.ret a
 | none=>.fail
def test {α:Type} (p:Prop) [d:Decidable p] (x y:T α):T α:=.br p d x y
def run {α R:Type} (ah:FuncId->(t:Ty)->List Arg->Option t.den):T α->(α->Option R)->Option R
 | .ret a,κ=>κ a
 | .fail,_=>none
 | .br p d x y,κ=>@ite _ p d (x.run ah κ) (y.run ah κ)
 | .call f t args k,κ=>(ah f t args).bind fun r=>(k r).run ah κ
end T
structure VT where
 io:List Nat:=[]
 own:Bool:=true
 lend:Option Nat:=none
 made:Ty:=.unit
def VT.wI (s:VT):Bool:=match s.lend with
 | some n=>Nat.beq n 1000
 | none=>false
structure aZ where
 P:Program
 tt:List (Nat × Option Ty)
 vars:List (Nat × List Nat):=[]
 sigs:List (Nat × VT):=[]
 Ld:FuncId->Option ((t:Ty)->List Arg->Option t.den):=fun _=>none
 tabs:List (String × List Int):=[]
 mono:Bool:=false
 gives:List Nat:=[]
 ptrs:List Nat:=[]
 zF:List Nat:=[]
 Un:List (Nat × Nat):=[]
 QY:List Nat:=[]
 takes:List (Nat × Nat):=[]
 Le:List Nat:=[]
def assoc {α:Type}:List (Nat × α)->Nat->Option α
 | [],_=>none
 | (k,v) :: r,n=>bif Nat.beq k n then some v else assoc r n
def JN:List (Nat × Nat)->Nat->Nat->Bool
 | [],_,_=>false
 | (a,b) :: r,x,y=>(Nat.beq a x && Nat.beq b y) || JN r x y
def aZ.Lf (C:aZ) (d:Option Tmp) (t:TypeId):Bool:=match d with
 | some d=>JN C.Un d t
 | none=>false
def aZ.take (C:aZ) (d:Option Tmp) (t:TypeId):Bool:=match d with
 | some d=>JN C.takes d t
 | none=>false
def aZ.tV (C:aZ) (f:FuncId) (as:List Arg):List Arg:=bif C.zF.contains f then as.map Arg.solid else as
def aZ.ty (C:aZ) (t:TypeId):Option Ty:=(assoc C.tt t).bind id
def aZ.sig (C:aZ) (f:FuncId):VT:=(assoc C.sigs f).getD {}
def aZ.shape (C:aZ) (t:TypeId):Option (Nat × Bool):=(assoc C.tt t).map fun
 | some t=>(t.sz,t.isAgg)
 | none=>(1,false)
def aZ.fieldAt (C:aZ) (t:TypeId) (i:Nat):Option (Nat × TypeId):=
 match C.P.underlying t with
 | some (.struct fs)=>(fs[i]?).map fun f=>(f.offset,f.type)
 | _=>none
def aZ.placeOf (C:aZ) (t:TypeId) (i:Nat):Option Nat:=
 match C.fieldAt t i with
 | some (off,u)=>match C.shape u with
  | some (n+1,_)=>some off
  | _=>none
 | none=>none
def aZ.elem (C:aZ) (t:TypeId):Option (TypeId × Ty):=
 match C.P.underlying t with
 | some (.slice e)=>(C.ty e).map fun T=>(e,T)
 | _=>none
def rd (t:Ty) (l:List t.den) (i:Int):t.den:=l.getD i.toNat t.dflt
def setAt (t:Ty) (l:List t.den) (i:Int) (f:t.den->t.den):List t.den:=l.set i.toNat (f (rd t l i))
def bt (s:ByteArray) (i:Int):Int:=((s.data.getD i.toNat 0).toNat:Int)
def bytesOf (s:ByteArray):List Int:=s.data.toList.map fun b=>(b.toNat:Int)
def ofBytes (l:List Int):ByteArray:=⟨(l.map fun n=>UInt8.ofNat n.toNat).toArray⟩
def cellsOf (fr:Bool):(t:Ty)->t.den->List Cell
 | .bool,b=>[.prop (b=true) (instDecidableEqBool b true)]
 | .int k,n=>[.int k n]
 | .str,s=>[.str s]
 | .list t,l=>[.list fr t l]
 | .unit,_=>[]
 | .pair a b,x=>cellsOf fr a x.1++cellsOf fr b x.2
 | .aG t,l=>[.list fr t l]
def zeroCells:Ty->List Cell
 | .bool=>[.bool false]
 | .int k=>[.int k 0]
 | .str=>[.str ByteArray.empty]
 | .list _=>[.nil]
 | .unit=>[]
 | .pair a b=>zeroCells a++zeroCells b
 | .aG _=>[.nil]
def yw:Option Ty->List Cell
 | some u=>zeroCells u
 | none=>[.undef]
def QZ:Option Ty->Nat
 | some u=>u.sz
 | none=>1
def wO (fr:Bool) (t:Ty) (x:t.den):av:=
 if t.isAgg then .agg (cellsOf fr t x) else match cellsOf fr t x with
  | [c]=>.cell c
  | cs=>.agg cs
def aP (agg:Bool) (cs:List Cell):av:=
 if agg then .agg cs else match cs with
  | [c]=>.cell c
  | cs=>.agg cs
inductive Mode where
 | look | keep | give
def bJ {t u:Ty} (l:List t.den):Option (List u.den):=if h:t=u then some (h ▸ l) else none
def gN (σ:Nat->Option Entry) (m:Mode) (t:Ty):Cell->Option (List t.den × List Nat)
 | .nil=>some ([],[])
 | .list fr u l=>match m,fr with
  | .look,_ | .keep,true=>(bJ l).map (·,[])
  | _,_=>none
 | .ref id=>match σ id with
  | some (.arr u l o)=>match m,o with
   | .give,.open=>(bJ l).map (·,[id])
   | .give,_=>none
   | .keep,.pinned _=>none
   | _,_=>(bJ l).map (·,[id])
  | _=>none
 | .sub id off len=>match σ id with
  | some (.arr u l o)=>match m,o with
   | .give,.open=>(bJ ((l.drop off).take len)).map (·,[id])
   | .give,_=>none
   | .keep,.pinned _=>none
   | _,_=>(bJ ((l.drop off).take len)).map (·,[id])
  | _=>none
 | _=>none
def iV (σ:Nat->Option Entry) (m:Mode) (t:Ty):Cell->Option (List t.den × List Nat)
 | .nil=>some ([],[])
 | .list fr u l=>match m,fr with
  | .look,_ | .keep,true=>(bJ l).map (·,[])
  | _,_=>none
 | .fE id=>match σ id with
  | some (.deep u l pin)=>match m,pin with
   | .look,_=>(bJ l).map (·,[id])
   | .give,none=>(bJ l).map (·,[id])
   | _,_=>none
  | _=>none
 | _=>none
def au (σ:Nat->Option Entry) (m:Mode):(t:Ty)->List Cell->Option (t.den × List Cell × List Nat)
 | .bool,.bool b :: r=>some (b,r,[])
 | .bool,.prop p d :: r=>some (@decide p d,r,[])
 | .int k,.int k' n :: r=>if k'=k then some (n,r,[]) else none
 | .str,.str s :: r=>some (s,r,[])
 | .list t,c :: r=>(gN σ m t c).map fun (l,ids)=>(l,r,ids)
 | .aG t,c :: r=>(iV σ m t c).map fun (l,ids)=>(l,r,ids)
 | .unit,r=>some ((),r,[])
 | .pair a b,cs=>match au σ m a cs with
  | some (x,r,ids)=>(match au σ m b r with
   | some (y,r',iQ)=>some ((x,y),r',ids++iQ)
   | none=>none)
  | none=>none
 | _,_=>none
def aL (σ:Nat->Option Entry) (m:Mode) (t:Ty) (cs:List Cell):Option (t.den × List Nat):=
 match au σ m t cs with
 | some (x,[],ids)=>some (x,ids)
 | _=>none
def upd {α:Type} (f:Nat->α) (i:Nat) (v:α):Nat->α:=fun j=>bif Nat.beq j i then v else f j
def bB (σ:Nat->Option Entry):List Nat->(Nat->Option Entry)
 | []=>σ
 | id :: r=>match σ id with
  | some (.arr t l _)=>bB (upd σ id (some (.arr t l .frozen))) r
  | _=>bB σ r
def ak (d j:Nat):Nat:=4*(64*d+j)
def iG (p:Nat):Nat:=4*p+1
def dA (i j:Nat):Nat:=4*(64*i+j)+2
def IJ (id j:Nat):Nat:=4*(64*id+j)+3
def mR (d n:Nat):Bool:=Nat.blt d (n / 1048576) && Nat.ble (n % 1048576) d
def St.put (s:St) (dst:Option Tmp) (v:Slot):T St:=
 match dst with
 | none=>.ret s
 | some d=>bif mR d s.n then .ret { s with env:=upd s.env d v } else .fail
def St.alloc (s:St) (key:Nat) (e:Entry):T St:=
 match s.aj key with
 | none=>.ret { s with aj:=upd s.aj key (some e) }
 | some _=>.fail
def ofConst:Value->Slot
 | .bool b=>.cell (.bool b)
 | .int k n=>.cell (.int k n)
 | .string s=>.cell (.str s)
 | .slice none 0 0=>.cell .nil
 | _=>.undef
def St.ev (s:St):Operand->Slot
 | .tmp t=>s.env t
 | .const v=>ofConst v
 | .func f=>.cell (.qY f [])
 | .global _=>.undef
def St.int (s:St) (x:Operand):T (IntKind × Int):=
 match s.ev x with
 | .one (.cell (.int k n))=>.ret (k,n)
 | _=>.fail
def St.comp (s:St) (x:Operand):T av:=
 match s.ev x with
 | .one c=>.ret c
 | _=>.fail
def cellsD (id i:Nat) (p:Bool):(t:Ty)->t.den->Nat->List Cell
 | .list _,_,o=>[if p then .inn id i o else .undef]
 | .aG _,_,_=>[.undef]
 | .pair a b,x,o=>cellsD id i p a x.1 o++cellsD id i p b x.2 (o+a.sz)
 | .bool,x,_=>cellsOf true .bool x
 | .int k,x,_=>cellsOf true (.int k) x
 | .str,x,_=>cellsOf true .str x
 | .unit,_,_=>[]
def St.gu (s:St) (n:Nat) (agg:Bool):Cell->T av
 | .ptr id off=>match s.aj id with
  | some (.box _ cs)=>if off+n<=cs.length then .ret (aP agg ((cs.drop off).take n)) else .fail
  | _=>.fail
 | .ko id i off=>match s.aj id with
  | some (.arr t l _)=>if off+n<=t.sz then .ret (aP agg (((cellsOf true t (l.getD i t.dflt)).drop off).take n)) else .fail
  | _=>.fail
 | .nH fr t x off=>if off+n<=t.sz then .ret (aP agg (((cellsOf fr t x).drop off).take n)) else .fail
 | .kJ id i off=>match s.aj id with
  | some (.deep t l pin)=>if off+n<=t.sz then .ret (aP agg (((cellsD id i pin.isSome t (l.getD i t.dflt) 0).drop off).take n)) else .fail
  | _=>.fail
 | _=>.fail
def splice (cs:List Cell) (off:Nat) (new:List Cell):List Cell:=cs.take off++new++cs.drop (off+new.length)
def Cell.known:Cell->Bool
 | .undef | .void=>false
 | _=>true
def av.known:av->Bool
 | .cell c=>c.known
 | .agg _=>true
def Cap.IK (id:Nat):Cap->Bool
 | .ptr i=>Nat.beq i id
 | .ro _ _=>false
def Cell.forget (id:Nat):Cell->Cell
 | .ptr i o=>bif Nat.beq i id then .undef else .ptr i o
 | .qY f caps=>bif caps.any (Cap.IK id) then .undef else .qY f caps
 | c=>c
def av.forget (id:Nat):av->av
 | .cell c=>.cell (c.forget id)
 | .agg cs=>.agg (cs.map (·.forget id))
def Slot.forget (id:Nat):Slot->Slot
 | .one c=>.one (c.forget id)
 | .wN cs=>.wN (cs.map (·.forget id))
def Entry.forget (id:Nat):Entry->Entry
 | .box t cs=>.box t (cs.map (·.forget id))
 | e=>e
def St.forget (s:St) (id:Nat):St:=
 { s with env:=fun t=>(s.env t).forget id,aj:=upd (fun k=>(s.aj k).map (·.forget id)) id none }
def Cell.kill (id:Nat):Cell->Cell
 | .ref i=>bif Nat.beq i id then .undef else .ref i
 | .sub i o l=>bif Nat.beq i id then .undef else .sub i o l
 | .ko i k o=>bif Nat.beq i id then .undef else .ko i k o
 | .fE i=>bif Nat.beq i id then .undef else .fE i
 | .kJ i k o=>bif Nat.beq i id then .undef else .kJ i k o
 | .inn i k o=>bif Nat.beq i id then .undef else .inn i k o
 | c=>c
def av.kill (id:Nat):av->av
 | .cell c=>.cell (c.kill id)
 | .agg cs=>.agg (cs.map (·.kill id))
def Slot.kill (id:Nat):Slot->Slot
 | .one c=>.one (c.kill id)
 | .wN cs=>.wN (cs.map (·.kill id))
def Entry.kill (id:Nat):Entry->Entry
 | .box t cs=>.box t (cs.map (·.kill id))
 | e=>e
def St.kill (s:St) (id:Nat):St:=
 { s with env:=fun t=>(s.env t).kill id,aj:=fun k=>(s.aj k).map (·.kill id) }
def St.drop (s:St) (id:Nat):St:={ s.kill id with aj:=upd (s.kill id).aj id none }
def nodup:List Nat->Bool
 | []=>true
 | x :: r=>!r.contains x && nodup r
def St.aJ (s:St):List Nat->St
 | []=>s
 | id :: r=>(s.drop id).aJ r
def jq:Ty->List Bool
 | .list _ | .aG _=>[true]
 | .pair a b=>jq a++jq b
 | .unit=>[]
 | .bool | .int _ | .str=>[false]
def Ty.Ti:Ty->Bool
 | .aG _=>false
 | .list t=>t.Ti
 | .pair a b=>a.Ti && b.Ti
 | .bool | .int _ | .str | .unit=>true
def setCell:(t:Ty)->Nat->t.den->Cell->Option t.den
 | .bool,0,_,.bool b=>some b
 | .bool,0,_,.prop p d=>some (@decide p d)
 | .int k,0,_,.int k' n=>if k'=k then some n else none
 | .str,0,_,.str s=>some s
 | .pair a b,o,x,c=>if o<a.sz then (setCell a o x.1 c).map (·,x.2) else (setCell b (o - a.sz) x.2 c).map (x.1,·)
 | _,_,_,_=>none
def Ra (t:Ty) (n off:Nat) (new:List Cell) (x:t.den):Option t.den:=match new with
 | [c]=>bif Nat.beq n 1 then setCell t off x c else none
 | _=>none
def jI (σ:Nat->Option Entry):(t:Ty)->Nat->t.den->Cell->Option (t.den × List Nat)
 | .list t,0,_,c=>gN σ .give t c
 | .pair a b,o,x,c=>if o<a.sz then (jI σ a o x.1 c).map (fun y=>((y.1,x.2),y.2)) else (jI σ b (o - a.sz) x.2 c).map (fun y=>((x.1,y.1),y.2))
 | _,_,_,_=>none
def JO (σ:Nat->Option Entry) (t:Ty) (n off:Nat) (new:List Cell) (x:t.den):Option (t.den × List Nat):=
 if off=0/\n=t.sz/\new.length=n then aL σ .give t new else match new with
 | [c]=>bif Nat.beq n 1 then jI σ t off x c else none
 | _=>none
def Fa (g:Bool) (s:St) (n:Nat) (new:List Cell) (id i off:Nat):T St:=
 match s.aj id with
 | some (.deep t l pin)=>
  (match Ra t n off new (l.getD i t.dflt) with
  | some x=>.ret { s with aj:=upd s.aj id (some (.deep t (l.set i x) pin)) }
  | none=>if pin=none/\t.Ti=true/\g=true then (match JO s.aj t n off new (l.getD i t.dflt) with
   | some (x,ids)=>bif nodup ids && !ids.contains id then .ret { s.aJ ids with aj:=upd (s.aJ ids).aj id (some (.deep t (l.set i x) none)) } else .fail
   | none=>.fail) else .fail)
 | _=>.fail
def St.store (s:St) (g:Bool) (n:Nat) (new:List Cell):Cell->T St
 | .ptr id off=>match s.aj id with
  | some (.box t cs)=>if off+n<=cs.length/\new.length=n then .ret { s with aj:=upd s.aj id (some (.box t (splice cs off new))) } else .fail
  | _=>.fail
 | .ko id i off=>match s.aj id with
  | some (.arr t l o)=>if o=.frozen then .fail else if off+n<=t.sz/\new.length=n then
    (match aL s.aj .keep t (splice (cellsOf true t (l.getD i t.dflt)) off new) with
    | some (x,ids)=>if ids.contains id then .fail else .ret { s with aj:=upd (bB s.aj ids) id (some (.arr t (l.set i x) o)) }
    | none=>.fail) else .fail
  | _=>.fail
 | .kJ id i off=>Fa g s n new id i off
 | _=>.fail
def bN:Nat:=211106232532992
def zG (op:BinOp) (k:IntKind) (a b:Int):T Cell:=
 match op with
 | .add=>.ret (.int k (k.wrap (a+b)))
 | .sub=>.ret (.int k (k.wrap (a - b)))
 | .mul=>.ret (.int k (k.wrap (a*b)))
 | .quo=>.test (b=0) .fail (.ret (.int k (k.wrap (a.tdiv b))))
 | .rem=>.test (b=0) .fail (.ret (.int k (a.tmod b)))
 | .and=>.ret (.int k (k.wrap (BitVec.ofInt k.bits a &&& BitVec.ofInt k.bits b).toNat))
 | .or=>.ret (.int k (k.wrap (BitVec.ofInt k.bits a ||| BitVec.ofInt k.bits b).toNat))
 | .xor=>.ret (.int k (k.wrap (BitVec.ofInt k.bits a ^^^ BitVec.ofInt k.bits b).toNat))
 | .andNot=>.ret (.int k (k.wrap (BitVec.ofInt k.bits a &&& ~~~BitVec.ofInt k.bits b).toNat))
 | .eql=>.ret (.is (a=b))
 | .neq=>.ret (.is (a ≠ b))
 | .lss=>.ret (.is (a<b))
 | .leq=>.ret (.is (a<=b))
 | .gtr=>.ret (.is (b<a))
 | .geq=>.ret (.is (b<=a))
 | _=>.fail
def tX (op:BinOp) (k:IntKind) (a b:Int):T Cell:=
 match op with
 | .shl=>.test (b<0) .fail (.ret (.int k (k.wrap (a*2 ^ (min b.toNat k.bits)))))
 | .shr=>.test (b<0) .fail (.ret (.int k (a.fdiv (2 ^ (min b.toNat k.bits)))))
 | _=>.fail
def Cell.asBool:Cell->Option Bool
 | .bool b=>some b
 | .prop p d=>some (@decide p d)
 | _=>none
def lD:List Cell->List Cell->Option (Σ' p:Prop,Decidable p)
 | [],[]=>some ⟨True,.isTrue trivial⟩
 | [x],[y]=>IL x y
 | x :: xs,y :: ys=>match IL x y,lD xs ys with
  | some ⟨p,d⟩,some ⟨q,e⟩=>some ⟨p/\q,@instDecidableAnd p q d e⟩
  | _,_=>none
 | _,_=>none
where
 dec (p:Prop) [d:Decidable p]:Option (Σ' p:Prop,Decidable p):=some ⟨p,d⟩
 IL:Cell->Cell->Option (Σ' p:Prop,Decidable p)
 | .int k a,.int k' b=>if k=k' then dec (a=b) else none
 | .str a,.str b=>dec (a=b)
 | .bool a,.bool b=>dec (a=b)
 | .prop p d,.prop q e=>dec (@decide p d=@decide q e)
 | .prop p d,.bool b=>dec (@decide p d=b)
 | .bool b,.prop p d=>dec (b=@decide p d)
 | _,_=>none
def Ty.plain:Ty->Bool
 | .list _ | .aG _=>false
 | .pair a b=>a.plain && b.plain
 | _=>true
def Ty.ht:Ty->Nat
 | .pair a b=>Nat.max (a.ht+1) b.ht
 | _=>0
def EH (U:Ty) (x y:av):Option (Σ' p:Prop,Decidable p):=
 match x,y with
 | .cell a,.cell b=>match a,b with
  | .str s,.str u=>lD.dec (s=u)
  | a,b=>if U=.bool/\a.asBool.isSome then lD.IL a b else none
 | .agg cs,.agg ds=>if U.isAgg && U.plain && Nat.blt U.ht 100 && (aL (fun _=>none) .look U cs).isSome && (aL (fun _=>none) .look U ds).isSome then lD cs ds else none
 | _,_=>none
def binOp (U:Option Ty) (op:BinOp) (x y:av):T Cell:=
 match op,x,y with
 | .shl,.cell (.int k a),.cell (.int _ b)=>tX .shl k a b
 | .shr,.cell (.int k a),.cell (.int _ b)=>tX .shr k a b
 | op,.cell (.int k a),.cell (.int k' b)=>if k=k' then zG op k a b else .fail
 | .add,.cell (.str a),.cell (.str b)=>.test (a.size+b.size<=bN) (.ret (.str (a++b))) .fail
 | .eql,x,y=>match U.bind (EH · x y) with
  | some ⟨p,d⟩=>.ret (.prop p d)
  | none=>.fail
 | .neq,x,y=>match U.bind (EH · x y) with
  | some ⟨p,d⟩=>.ret (.prop (¬ p) (@instDecidableNot p d))
  | none=>.fail
 | _,_,_=>.fail
def unOp (op:UnOp) (x:av):T Cell:=
 match op,x with
 | .not,.cell (.bool b)=>.ret (.bool (!b))
 | .not,.cell (.prop p d)=>.ret (.prop (¬ p) (@instDecidableNot p d))
 | .neg,.cell (.int k n)=>.ret (.int k (k.wrap (-n)))
 | _,_=>.fail
def St.look (s:St) (t:Ty) (c:Cell):T (List t.den):=T.ofOption ((gN s.aj .look t c).map (·.1))
def St.wP (s:St):TypeDesc->(t:Ty)->Cell->T (List t.den)
 | .string,.int .u8,.str b=>.ret (bytesOf b)
 | .slice _,t,c=>s.look t c
 | _,_,_=>.fail
def St.len (s:St):TypeDesc->Cell->T Int
 | .string,.str s=>.ret (s.size:Int)
 | .slice _,.nil=>.ret 0
 | .slice _,.list _ _ l=>.ret (l.length:Int)
 | .slice _,.ref id=>match s.aj id with
  | some (.arr _ l _)=>.ret (l.length:Int)
  | _=>.fail
 | .slice _,.sub _ _ n=>.ret (n:Int)
 | .slice _,.fE id=>match s.aj id with
  | some (.deep _ l _)=>.ret (l.length:Int)
  | _=>.fail
 | _,_=>.fail
def bounds (n:Int) (lo hi:Option Int):T (Int × Int):=
 match hi with
 | some h=>.test (0<=h) (.test (h<=n) (low h) .fail) .fail
 | none=>low n
where low (h:Int):T (Int × Int):=
 match lo with
 | some l=>.test (0<=l) (.test (l<=h) (.ret (l,h)) .fail) .fail
 | none=>.ret (0,h)
def wQ (b:ByteArray) (lo hi:Option Int):T Cell:=(bounds b.size lo hi).bind fun (l,h)=>.ret (.str (b.extract l.toNat h.toNat))
def jg (s:St) (u:Ty) (lo hi:Option Int):Cell->T Cell
 | .nil=>(bounds 0 lo hi).bind fun _=>.ret .nil
 | .list fr t l=>if t=u then (bounds l.length lo hi).bind fun (a,h)=>.ret (.list fr t ((l.drop a.toNat).take (h.toNat - a.toNat))) else .fail
 | .ref id=>match s.aj id with
  | some (.arr t l _)=>if t=u then (bounds l.length lo hi).bind fun (a,h)=>.ret (.sub id a.toNat (h.toNat - a.toNat)) else .fail
  | _=>.fail
 | .sub id off n=>match s.aj id with
  | some (.arr t l _)=>if t=u then (bounds n lo hi).bind fun (a,h)=>.ret (.sub id (off+a.toNat) (h.toNat - a.toNat)) else .fail
  | _=>.fail
 | _=>.fail
def jG (s:St) (u:Ty) (i:Int):Cell->T Cell
 | .list fr t l=>if t=u then .test (0<=i) (.test (i<(l.length:Int)) (.ret (.nH true t (rd t l i) 0)) .fail) .fail else .fail
 | .ref id=>match s.aj id with
  | some (.arr t l _)=>if t=u then .test (0<=i) (.test (i<(l.length:Int)) (.ret (.ko id i.toNat 0)) .fail) .fail else .fail
  | _=>.fail
 | .sub id off n=>match s.aj id with
  | some (.arr t l _)=>if t=u then .test (0<=i) (.test (i<(n:Int)) (.ret (.ko id (off+i.toNat) 0)) .fail) .fail else .fail
  | _=>.fail
 | .fE id=>match s.aj id with
  | some (.deep t l _)=>if t=u then .test (0<=i) (.test (i<(l.length:Int)) (.ret (.kJ id i.toNat 0)) .fail) .fail else .fail
  | _=>.fail
 | _=>.fail
def aZ.Fb (C:aZ) (t:TypeId):Option Ty:=match C.ty t with
 | some (.aG u)=>some u
 | _=>none
def aZ.bytes (C:aZ) (t:TypeId):Nat:=(C.P.bytesOf t)
def aZ.nk (C:aZ) (t:TypeId):Bool:=Nat.ble 1 (C.bytes t) && Nat.ble (C.bytes t) 1048576
def tY (s:St):Cap->Option Cap
 | .ro t x=>some (.ro t x)
 | .ptr id=>match s.aj id with
  | some (.box (some t) cs)=>(aL s.aj .look t cs).map fun (x,_)=>.ro t x
  | _=>none
def iW (s:St):List Cap->Option (List Cap)
 | []=>some []
 | c :: r=>match tY s c,iW s r with
  | some c,some r=>some (c :: r)
  | _,_=>none
def Aq (t:Ty):av->Bool
 | .agg _=>t.isAgg
 | .cell _=>!t.isAgg
def lN (C:aZ) (s:St) (t:TypeId) (v:av):Option Arg:=
 match C.ty t with
 | some u=>bif v.known && Aq u v then bif C.QY.contains t then (match aL s.aj .keep u v.cells with
   | some (x,[])=>some (.Nl u x)
   | _=>none) else bif u.kept then (match aL s.aj .keep u v.cells with
   | some (x,[])=>some (.val u x)
   | _=>none) else (aL s.aj .look u v.cells).map fun (x,_)=>.val u x else none
 | none=>match v with
  | .cell (.qY f caps)=>(iW s caps).map (.qY f)
  | .cell (.ptr id 0)=>match tY s (.ptr id) with
   | some (.ro t x)=>some (.rp t x)
   | _=>none
  | .cell (.nH _ t x 0)=>some (.rp t x)
  | _=>none
def EI (s:St):av->Option Arg
 | .cell (.ref id)=>match s.aj id with
  | some (.arr u l .open)=>some (.give (.list u) l)
  | _=>none
 | .cell (.ptr id 0)=>match s.aj id with
  | some (.box (some u) cs)=>(aL s.aj .give u cs).map fun (x,_)=>.mQ u x
  | _=>none
 | _=>none
def toArg (C:aZ) (s:St) (io:Bool) (t:TypeId) (v:av):Option Arg:=bif io then EI s v else lN C s t v
def oH:Cap->Option Arg
 | .ro t x=>some (.rp t x)
 | .ptr _=>none
def nI (C:aZ) (s:St) (io:List Nat):Nat->List TypeId->List av->Option (List Arg)
 | _,_,[]=>some []
 | i,t :: ts,v :: vs=>match toArg C s (io.contains i) t v,nI C s io (i+1) ts vs with
  | some a,some r=>some (a :: r)
  | _,_=>none
 | _,[],_ :: _=>none
def Cell.UD:Cell->Bool
 | .fE _=>true
 | _=>false
def jJ (s:St):Cap->Bool
 | .ptr id=>match s.aj id with
  | some (.box _ cs)=>cs.any Cell.UD
  | _=>false
 | .ro _ _=>false
def jK (s:St):Cell->Bool
 | .fE _=>true
 | .ptr id _=>jJ s (.ptr id)
 | .qY _ caps=>caps.any (jJ s)
 | _=>false
def gY (s:St) (vs:List av) (caps:List Cap):Bool:=vs.any (fun v=>v.cells.any (jK s)) || caps.any (jJ s)
def Ty.cut:Ty->Bool
 | .list t=>t.plain
 | .aG t=>t.cut
 | .pair a b=>a.cut && b.cut
 | .bool | .int _ | .str | .unit=>true
def resTy (C:aZ) (ts:List TypeId):Option Ty:=
 match ts with
 | [t]=>C.ty t
 | ts=>go ts
where go:List TypeId->Option Ty
 | []=>some .unit
 | t :: r=>match C.ty t,go r with
  | some a,some b=>some (.pair a b)
  | _,_=>none
def wm:List Arg->Bool
 | []=>false
 | .give _ _ :: _=>true
 | .mQ _ _ :: _=>true
 | _ :: r=>wm r
def aA (own:Bool) (key:Nat->Nat):(t:Ty)->t.den->Nat->List Cell × List (Nat × Entry) × Nat
 | .list t,l,j=>if own then ([.ref (key j)],[(key j,.arr t l .open)],j+1) else ([.list true t l],[],j)
 | .aG t,l,j=>if own then ([.fE (key j)],[(key j,.deep t l none)],j+1) else ([.list true t l],[],j)
 | .pair a b,x,j=>match aA own key a x.1 j with
  | (c,es,j)=>match aA own key b x.2 j with
   | (d,fs,j)=>(c++d,es++fs,j)
 | t,x,j=>(cellsOf true t x,[],j)
def jL (s:St):List (Nat × Entry)->T St
 | []=>.ret s
 | (k,e) :: r=>(s.alloc k e).bind fun s=>jL s r
def lQ (own:Bool) (key:Nat->Nat):(t:Ty)->t.den->Nat->List av × List (Nat × Entry)
 | .pair a b,x,j=>match aA own key a x.1 j with
  | (c,es,j)=>match lQ own key b x.2 j with
   | (d,fs)=>(aP a.isAgg c :: d,es++fs)
 | _,_,_=>([],[])
def fM (own one:Bool) (key:Nat->Nat) (t:Ty) (x:t.den):Slot × List (Nat × Entry):=
 if one then match aA own key t x 0 with
  | (c,es,_)=>(.one (aP t.isAgg c),es)
 else match lQ own key t x 0 with
  | (cs,es)=>(.wN cs,es)
def JQ (C:aZ) (s:St) (o:Oper) (f:FuncId) (vs:List av) (caps:List Cap):T St:=
 match C.P.funcs[f]?,o.dst with
 | some fn,dst=>
  let sig:=C.sig f
  match nI C s sig.io 0 fn.params.toList vs,(iW s caps).bind (·.mapM oH),resTy C fn.resultTypes.toList with
  | some args,some pK,some rt=>
   let key:=ak (dst.getD 0)
   if wm args || (gY s vs caps || C.zF.contains f) && !(sig.own && rt.cut) then .fail else .call f rt (C.tV f args++pK) fun r=>
    match fM sig.own (Nat.beq fn.resultTypes.size 1) key rt r with
    | (v,es)=>(jL s es).bind fun s=>s.put dst v
  | _,_,_=>.fail
 | _,_=>.fail
def jS (σ:Nat->Option Entry):(t:Ty)->List Cell->Option (t.den × List Cell × List (Option Nat))
 | .list _,.nil :: r=>some ([],r,[none])
 | .list t,.ref id :: r=>match σ id with
  | some (.arr _ l o)=>if o=.frozen then none else (bJ l).map fun l=>(l,r,[some id])
  | _=>none
 | .list _,_=>none
 | .aG _,.nil :: r=>some ([],r,[none])
 | .aG t,.fE id :: r=>match σ id with
  | some (.deep _ l _)=>(bJ l).map fun l=>(l,r,[some id])
  | _=>none
 | .aG _,_=>none
 | .pair a b,cs=>match jS σ a cs with
  | some (x,r,ids)=>(match jS σ b r with
   | some (y,r',iQ)=>some ((x,y),r',ids++iQ)
   | none=>none)
  | none=>none
 | t,cs=>(au σ .look t cs).map fun x=>(x.1,x.2.1,[])
def nu (v:av):List Nat->av
 | []=>v
 | id :: r=>nu (v.kill id) r
def setRows:(T:Ty)->T.rows.den->List (Option Nat)->St->Option (St × List (Option Nat))
 | .list _,_,none :: r,s=>some (s,r)
 | .list t,l,some id :: r,s=>match s.aj id with
  | some (.arr u _ o)=>if h:t=u then some ({ s with aj:=upd s.aj id (some (.arr u (h ▸ l) o)) },r) else none
  | _=>none
 | .list _,_,[],_=>none
 | .aG _,_,none :: r,s=>some (s,r)
 | .aG t,l,some id :: r,s=>match s.aj id with
  | some (.deep u _ p)=>if h:t=u then some ({ s with aj:=upd s.aj id (some (.deep u (h ▸ l) p)) },r) else none
  | _=>none
 | .aG _,_,[],_=>none
 | .pair a b,x,ids,s=>match setRows a x.1 ids s with
  | some (s,r)=>setRows b x.2 r s
  | none=>none
 | .bool,_,ids,s=>some (s,ids)
 | .int _,_,ids,s=>some (s,ids)
 | .str,_,ids,s=>some (s,ids)
 | .unit,_,ids,s=>some (s,ids)
def jC (C:aZ) (s:St) (i:Nat) (a:Arg):Nat->List TypeId->List av->Option (List Arg)
 | _,_,[]=>some []
 | n,t :: ts,v :: vs=>match bif Nat.beq n i then some a else lN C s t v,jC C s i a (n+1) ts vs with
  | some a,some r=>some (a :: r)
  | _,_=>none
 | _,[],_ :: _=>none
def nX (C:aZ) (s:St) (o:Oper) (f:FuncId) (vs:List av) (caps:List Cap) (i:Nat):T St:=
 match C.P.funcs[f]?,vs[i]? with
 | some fn,some v=>match (fn.params.toList[i]?).bind C.ty with
  | some T=>if v.known && Aq T v then match aL s.aj .give T v.cells with
   | some (x,ids)=>bif nodup ids then
    match jC C (s.aJ ids) i (.give T x) 0 fn.params.toList (vs.map (nu · ids)),(iW (s.aJ ids) caps).bind (·.mapM oH),resTy C fn.resultTypes.toList with
    | some args,some pK,some rt=>if gY (s.aJ ids) (vs.map (nu · ids)) caps then .fail else .call f rt (args++pK) fun r=>
     match fM (C.sig f).own (Nat.beq fn.resultTypes.size 1) (ak (o.dst.getD 0)) rt r with
     | (v,es)=>(jL (s.aJ ids) es).bind fun s=>s.put o.dst v
    | _,_,_=>.fail
    else .fail
   | none=>.fail
   else .fail
  | none=>.fail
 | _,_=>.fail
def uT (C:aZ) (s:St) (o:Oper) (f:FuncId) (vs:List av):T St:=
 match (C.P.funcs[f]?).bind (fun fn=>(fn.params.toList[0]?).bind C.elem),o.dst,vs with
 | some (e,u),some d,[.cell (.fE id),.cell (.int .i64 i),.cell (.fE id2)]=>if id=id2 then .fail else (match s.aj id,s.aj id2 with
  | some (.deep _ l none),some (.deep _ lb none)=>(match bJ (u:=u) l,bJ (u:=u) lb with
   | some l,some [x]=>.test (0<=i) (.test (i<=(l.length:Int)) (.test ((l.length+1)*C.bytes e<=140737488355328)
     (({ (s.drop id2).kill id with aj:=upd ((s.drop id2).kill id).aj id (some (.deep u (l.take i.toNat++[x]++l.drop i.toNat) none)) }:St).put (some d) (.cell (.fE id))) .fail) .fail) .fail
   | _,_=>.fail)
  | _,_=>.fail)
 | _,_,_=>.fail
def wR (C:aZ) (s:St) (o:Oper) (f:FuncId) (vs:List av) (caps:List Cap) (i:Nat):T St:=
 match C.P.funcs[f]?,vs[i]? with
 | some fn,some v=>match (fn.params.toList[i]?).bind C.ty with
  | some T=>if v.known && Aq T v then match jS s.aj T v.cells with
   | some (x,[],ids)=>bif nodup (ids.filterMap id) then
    match jC C (s.aJ (ids.filterMap id)) i (.lend T x) 0 fn.params.toList (vs.map (nu · (ids.filterMap id))),(iW (s.aJ (ids.filterMap id)) caps).bind (·.mapM oH),resTy C fn.resultTypes.toList with
    | some args,some pK,some rt=>if gY (s.aJ (ids.filterMap id)) (vs.map (nu · (ids.filterMap id))) caps then .fail else .call f (.pair rt T.rows) (args++pK) fun r=>match setRows T r.2 ids s with
     | some (s2,[])=>match fM (C.sig f).own (Nat.beq fn.resultTypes.size 1) (ak (o.dst.getD 0)) rt r.1 with
      | (v,es)=>(jL s2 es).bind fun s=>s.put o.dst v
     | _=>.fail
    | _,_,_=>.fail
    else .fail
   | _=>.fail
   else .fail
  | none=>.fail
 | _,_=>.fail
def lF (C:aZ) (s:St) (o:Oper) (f:FuncId) (vs:List av) (caps:List Cap) (i id:Nat):T St:=
 match C.P.funcs[f]?,s.aj id with
 | some fn,some (.box (some T) cs)=>match aL s.aj (bif T.ob then .give else .keep) T cs with
  | some (x,ids)=>bif nodup ids && (T.ob || ids.isEmpty) then
   match jC C ((s.aJ ids).forget id) i (.mQ T x) 0 fn.params.toList (vs.map fun v=>(nu v ids).forget id),(iW ((s.aJ ids).forget id) caps).bind (·.mapM oH),resTy C fn.resultTypes.toList with
   | some args,some pK,some rt=>if gY ((s.aJ ids).forget id) (vs.map fun v=>(nu v ids).forget id) caps then .fail else .call f (.pair rt T) (args++pK) fun r=>
    match aA T.ob (IJ id) T r.2 0,fM true (Nat.beq fn.resultTypes.size 1) (ak (o.dst.getD 0)) rt r.1 with
    | (bc,es2,_),(v,es)=>(jL { s.aJ ids with aj:=upd (s.aJ ids).aj id (some (.box none (List.replicate T.sz .undef))) } (es2++es)).bind fun s=>St.put { s with aj:=upd s.aj id (some (.box (some T) bc)) } o.dst v
   | _,_,_=>.fail
   else .fail
  | none=>.fail
 | _,_=>.fail
def qm:(u:Ty)->Nat->u.den->Option (Σ t:Ty,List t.den)
 | .list t,0,l=>some ⟨t,l⟩
 | .pair a b,o,x=>if o<a.sz then qm a o x.1 else qm b (o - a.sz) x.2
 | _,_,_=>none
def uU:(u:Ty)->Nat->u.den->(t:Ty)->List t.den->Option u.den
 | .list t,0,_,t',l=>bJ l
 | .pair a b,o,x,t,l=>if o<a.sz then (uU a o x.1 t l).map (·,x.2) else (uU b (o - a.sz) x.2 t l).map (x.1,·)
 | _,_,_,_,_=>none
def EJ (C:aZ) (s:St) (o:Oper) (f:FuncId) (vs:List av) (i id j off:Nat):T St:=
 match C.P.funcs[f]?,s.aj id with
 | some fn,some (.deep u l (some n))=>(match qm u off (l.getD j u.dflt) with
  | some ⟨t,x⟩=>match jC C (s.drop id) i (.lend (.list t) x) 0 fn.params.toList (vs.map (av.kill id)),resTy C fn.resultTypes.toList with
   | some args,some rt=>if gY (s.drop id) (vs.map (av.kill id)) [] then .fail else .call f (.pair rt (.list t)) args fun r=>match uU u off (l.getD j u.dflt) t r.2 with
    | some y=>match fM (C.sig f).own (Nat.beq fn.resultTypes.size 1) (ak (o.dst.getD 0)) rt r.1 with
     | (v,es)=>(jL { s with aj:=upd s.aj id (some (.deep u (l.set j y) (some n))) } es).bind fun s=>s.put o.dst v
    | none=>.fail
   | _,_=>.fail
  | none=>.fail)
 | _,_=>.fail
def _root_.Go.Oper.IQ (o:Oper) (C:aZ):Bool:=match o.op with
 | .call c=>c.argTypes.toList.any (C.ptrs.contains ·)
 | _=>false
def Nn (C:aZ) (s:St) (o:Oper) (f:FuncId) (vs:List av):T St:=
 match C.P.funcs[f]?,o.dst with
 | some fn,some d=>match nI C s [] 0 fn.params.toList vs with
  | some args=>if wm args || gY s vs [] then .fail else .call f (C.sig f).made args fun r=>
   match aA false (ak d) (C.sig f).made r 0 with
   | (cs,_,_)=>(s.alloc (ak d 0) (.box (some (C.sig f).made) cs)).bind fun s=>s.put (some d) (.cell (.ptr (ak d 0) 0))
  | none=>.fail
 | _,_=>.fail
def zH (C:aZ) (s:St) (o:Oper) (g:Operand) (f:FuncId) (vs:List av) (caps:List Cap):T St:=
 match (C.sig f).lend with
 | some i=>bif (C.sig f).wI then (match g,caps with
   | .func _,[]=>Nn C s o f vs
   | _,_=>.fail) else (match vs[i]? with
  | some (.cell (.ptr id 0))=>(match g with
   | .func _=>lF C s o f vs caps i id
   | _=>bif o.IQ C then lF C s o f vs caps i id else .fail)
  | some (.cell (.inn id j off))=>(match g with
   | .func _=>EJ C s o f vs i id j off
   | _=>.fail)
  | _=>(match g with
   | .func _=>wR C s o f vs caps i
   | _=>.fail))
 | none=>match (C.sig f).io with
 | []=>JQ C s o f vs caps
 | i :: _=>match g with
  | .func _=>bif C.Le.contains f then uT C s o f vs else nX C s o f vs caps i
  | _=>.fail
def bg (s:St):List Operand->Option (List av)
 | []=>some []
 | x :: r=>match s.ev x,bg s r with
  | .one c,some r=>some (c :: r)
  | _,_=>none
def oI (s:St):Option Operand->T (Option Int)
 | none=>.ret none
 | some x=>(s.int x).bind fun (_,n)=>.ret (some n)
def fP (C:aZ) (s:St) (t:TypeId):List (Nat × Operand)->List Cell->Option (List Cell)
 | [],cs=>some cs
 | (i,x) :: r,cs=>match C.fieldAt t i,s.ev x with
  | some (off,u),.one v=>match C.shape u with
   | some (n,_)=>if v.known/\v.cells.length=n/\off+n<=cs.length then fP C s t r (splice cs off v.cells) else none
   | none=>none
  | _,_=>none
def bL (s:St) (t:Ty):List (Nat × Operand)->List t.den->List Nat->Option (List t.den × List Nat)
 | [],l,ids=>some (l,ids)
 | (i,x) :: r,l,ids=>match s.ev x with
  | .one v=>match aL s.aj .keep t v.cells with
   | some (y,js)=>if v.known/\i<l.length then bL s t r (l.set i y) (ids++js) else none
   | none=>none
  | _=>none
def dL (s:St) (t:Ty):List (Nat × Operand)->List t.den->List Nat->Option (List t.den × List Nat)
 | [],l,ids=>some (l,ids)
 | (i,x) :: r,l,ids=>match s.ev x with
  | .one v=>match aL s.aj .give t v.cells with
   | some (y,js)=>if v.known/\i<l.length then dL s t r (l.set i y) (ids++js) else none
   | none=>none
  | _=>none
def qU (s:St) (u:Ty) (dst:Option Tmp) (n:Nat) (parts:List (Nat × Operand)):T St:=
 match dst with
 | some d=>if n*u.sz<=16777216/\u.Ti=true then (match dL s u parts (List.replicate n u.dflt) [] with
  | some (l,ids)=>bif nodup ids && nodup (parts.map (·.1)) then ((s.aJ ids).alloc (ak d 0) (.deep u l none)).bind fun s=>s.put (some d) (.cell (.fE (ak d 0))) else .fail
  | none=>.fail) else .fail
 | none=>.fail
def St.rX (s:St) (C:aZ) (e:TypeId) (u:Ty) (d:Tmp) (a b:Cell):T St:=
 match b with
 | .fE id2=>match s.aj id2 with
  | some (.deep v2 lb none)=>match bJ (u:=u) lb with
   | some lb=>(match a with
    | .nil=>.test (lb.length*C.bytes e<=bN) (((s.drop id2).alloc (ak d 0) (.deep u lb none)).bind fun s=>s.put (some d) (.cell (.fE (ak d 0)))) .fail
    | .fE id=>if id=id2 then .fail else match s.aj id with
     | some (.deep v l none)=>(match bJ (u:=u) l with
      | some l=>.test ((l.length+lb.length)*C.bytes e<=bN) (({ (s.drop id2).kill id with aj:=upd ((s.drop id2).kill id).aj id (some (.deep u (l++lb) none)) }).put (some d) (.cell (.fE id))) .fail
      | none=>.fail)
     | _=>.fail
    | _=>.fail)
   | none=>.fail
  | _=>.fail
 | _=>.fail
def BR (C:aZ) (s:St) (dst:Option Tmp) (t:TypeId) (n:Nat) (parts:List (Nat × Operand)):T St:=match C.elem t,dst with
 | some (_,u),some d=>if n*u.sz<=16777216 then (match bL s u parts (List.replicate n u.dflt) [] with
  | some (l,[])=>s.put (some d) (.cell (.list true u l))
  | _=>.fail) else .fail
 | _,_=>.fail
def IU (C:aZ) (s:St) (dst:Option Tmp) (t:TypeId) (x:Slot):T St:=match C.ty t,x,dst with
 | some u,.one (.cell (.kJ id i 0)),some d=>if u.isAgg=true then (match s.aj id with
  | some (.deep v l none)=>(match bJ (u:=u) l with
   | some l=>(match aA true (ak d) u (l.getD i u.dflt) 0 with
    | (cs,es,_)=>(jL (s.drop id) es).bind fun s=>s.put dst (.one (.agg cs)))
   | none=>.fail)
  | _=>.fail) else .fail
 | _,_,_=>.fail
def capOf:av->Option Cap
 | .cell (.ptr id 0)=>some (.ptr id)
 | .cell (.nH _ t x 0)=>some (.ro t x)
 | _=>none
def St.append (s:St) (C:aZ) (e:TypeId) (u:Ty) (d:Tmp) (a:Cell) (lb:List u.den):T St:=
 match a with
 | .nil=>.test (lb.length*C.bytes e<=bN) ((s.alloc (ak d 0) (.arr u lb .open)).bind fun s=>s.put (some d) (.cell (.ref (ak d 0)))) .fail
 | .ref id=>match s.aj id with
  | some (.arr v l .open)=>match bJ (u:=u) l with
   | some l=>.test ((l.length+lb.length)*C.bytes e<=bN) (({ s.kill id with aj:=upd (s.kill id).aj id (some (.arr u (l++lb) .open)) }).put (some d) (.cell (.ref id))) .fail
   | none=>.fail
  | _=>.fail
 | .sub id off n=>match s.aj id with
  | some (.arr v l .open)=>match bJ (u:=u) l with
   | some l=>.test ((n+lb.length)*C.bytes e<=bN) (({ s.kill id with aj:=upd (s.kill id).aj id (some (.arr u ((l.drop off).take n++lb) .open)) }).put (some d) (.cell (.ref id))) .fail
   | none=>.fail
  | _=>.fail
 | _=>.fail
def jT (C:aZ) (o:Oper) (s:St):T (St):=
 match o.op with
 | .move x | .assign x=>
  match s.ev x with
  | .one (.cell .nil)=>match C.Fb o.type with
   | some _=>s.put o.dst (.cell .nil)
   | none=>match C.elem o.type,o.dst with
    | some (_,t),some d=>(s.alloc (ak d 0) (.arr t [] .open)).bind fun s=>s.put o.dst (.cell (.ref (ak d 0)))
    | _,_=>s.put o.dst (.cell .nil)
  | v=>s.put o.dst v
 | .pick c a b=>match s.ev c with
  | .one (.cell (.bool true))=>s.put o.dst (s.ev a)
  | .one (.cell (.bool false))=>s.put o.dst (s.ev b)
  | .one (.cell (.prop p d))=>.br p d (s.put o.dst (s.ev a)) (s.put o.dst (s.ev b))
  | _=>.fail
 | .alloc t=>match assoc C.tt t,o.dst with
  | some ty,some d=>(s.alloc (ak d 0) (.box ty (yw ty))).bind fun s=>s.put o.dst (.cell (.ptr (ak d 0) 0))
  | _,_=>.fail
 | .box t x=>match assoc C.tt t,o.dst,s.ev x with
  | some ty,some d,.one v=>if v.known && v.cells.length=QZ ty then
    (s.alloc (ak d 0) (.box ty v.cells)).bind fun s=>s.put o.dst (.cell (.ptr (ak d 0) 0)) else .fail
  | _,_,_=>.fail
 | .build t parts=>match C.ty t with
  | some u=>if u.isAgg then (match fP C s t parts.toList (zeroCells u) with
   | some cs=>s.put o.dst (.one (.agg cs))
   | none=>.fail) else .fail
  | none=>.fail
 | .buildSlice t n parts=>bif C.Lf o.dst t then BR C s o.dst t n parts.toList else match C.Fb t with
  | some _=>(match C.elem t with
   | some (_,u)=>qU s u o.dst n parts.toList
   | none=>.fail)
  | none=>match C.elem t,o.dst with
  | some (_,u),some d=>if n*u.sz<=16777216 then (match bL s u parts.toList (List.replicate n u.dflt) [] with
   | some (l,ids)=>({ s with aj:=bB s.aj ids }.alloc (ak d 0) (.arr u l .open)).bind fun s=>s.put o.dst (.cell (.ref (ak d 0)))
   | none=>.fail) else .fail
  | _,_=>.fail
 | .load t x=>bif C.take o.dst t then IU C s o.dst t (s.ev x) else match C.shape t,s.ev x with
  | some (n,agg),.one (.cell p)=>(s.gu n agg p).bind fun v=>s.put o.dst (.one v)
  | _,_=>.fail
 | .store t p x=>match C.shape t,s.ev p,s.ev x with
  | some (n,_),.one (.cell p),.one v=>if v.known then (s.store (C.gives.contains t) n v.cells p).bind fun s=>s.put o.dst .undef else .fail
  | _,_,_=>.fail
 | .nilCheck x=>match s.ev x with
  | .one (.cell (.ptr id off))=>s.put o.dst (.cell (.ptr id off))
  | .one (.cell (.ko id i off))=>s.put o.dst (.cell (.ko id i off))
  | .one (.cell (.nH fr t x off))=>s.put o.dst (.cell (.nH fr t x off))
  | .one (.cell (.kJ id i off))=>s.put o.dst (.cell (.kJ id i off))
  | _=>.fail
 | .binOp op t x y _=>(s.comp x).bind fun a=>(s.comp y).bind fun b=>(binOp (C.ty t) op a b).bind fun c=>s.put o.dst (.cell c)
 | .unOp op _ x=>(s.comp x).bind fun a=>(unOp op a).bind fun c=>s.put o.dst (.cell c)
 | .convert src dst x=>match C.P.underlying src,C.P.underlying dst,s.ev x with
  | some _,some (.int k),.one (.cell (.int _ n))=>s.put o.dst (.cell (.int k (k.wrap n)))
  | some _,some .string,.one (.cell (.str b))=>s.put o.dst (.cell (.str b))
  | some (.slice e),some .string,.one (.cell c)=>if C.ty e=some (.int .u8) then (s.look (.int .u8) c).bind fun l=>s.put o.dst (.cell (.str (ofBytes l))) else .fail
  | _,_,_=>.fail
 | .makeSlice t l c=>match C.elem t,o.dst with
  | some (e,u),some d=>if C.nk e then (s.int l).bind fun (_,l)=>(s.int c).bind fun (_,c)=>
    .test (0<=l) (.test (l<=c) (.test (c*(C.bytes e:Int)<=bN)
     (bif (C.Fb t).isSome then (s.alloc (ak d 0) (.deep u (List.replicate l.toNat u.dflt) none)).bind fun s=>s.put o.dst (.cell (.fE (ak d 0)))
     else (s.alloc (ak d 0) (.arr u (List.replicate l.toNat u.dflt) .open)).bind fun s=>s.put o.dst (.cell (.ref (ak d 0)))) .fail) .fail) .fail else .fail
  | _,_=>.fail
 | .slice t x lo hi none=>match C.P.underlying t,s.ev x with
  | some .string,.one (.cell (.str b))=>(oI s lo).bind fun lo=>(oI s hi).bind fun hi=>(wQ b lo hi).bind fun c=>s.put o.dst (.cell c)
  | some (.slice e),.one (.cell c)=>match C.ty e with
   | some u=>(oI s lo).bind fun lo=>(oI s hi).bind fun hi=>(jg s u lo hi c).bind fun c=>s.put o.dst (.cell c)
   | none=>.fail
  | _,_=>.fail
 | .fieldAddr t x i=>match C.placeOf t i,s.ev x with
  | some off,.one (.cell (.ptr id o'))=>s.put o.dst (.cell (.ptr id (o'+off)))
  | some off,.one (.cell (.ko id j o'))=>s.put o.dst (.cell (.ko id j (o'+off)))
  | some off,.one (.cell (.nH fr u y o'))=>s.put o.dst (.cell (.nH fr u y (o'+off)))
  | some off,.one (.cell (.kJ id j o'))=>s.put o.dst (.cell (.kJ id j (o'+off)))
  | _,_=>.fail
 | .field t x i=>match C.fieldAt t i,s.ev x with
  | some (off,u),.one (.agg cs)=>match C.shape u with
   | some (n,agg)=>if off+n<=cs.length then s.put o.dst (.one (aP agg ((cs.drop off).take n))) else .fail
   | none=>.fail
  | _,_=>.fail
 | .indexAddr t x ix=>(s.int ix).bind fun (_,i)=>match C.elem t,s.ev x with
  | some (_,u),.one (.cell c)=>(jG s u i c).bind fun c=>s.put o.dst (.cell c)
  | _,_=>.fail
 | .index t x ix=>(s.int ix).bind fun (_,i)=>match C.P.underlying t,s.ev x with
  | some .string,.one (.cell (.str b))=>.test (0<=i) (.test (i<(b.size:Int)) (s.put o.dst (.cell (.int .u8 (bt b i)))) .fail) .fail
  | _,_=>.fail
 | .makeFunc (.func f) first captured=>if first.size=0 then match (bg s captured.toList).bind (·.mapM capOf) with
   | some caps=>s.put o.dst (.cell (.qY f caps))
   | none=>.fail
  else .fail
 | .extract x i=>match s.ev x with
  | .wN cs=>match cs[i]? with
   | some c=>s.put o.dst (.one c)
   | none=>.fail
  | _=>.fail
 | .call { callee:=.value g,args,.. }=>match s.ev g,bg s args.toList with
  | .one (.cell (.qY f caps)),some vs=>zH C s o g f vs caps
  | _,_=>.fail
 | .call { callee:=.builtin .len,args,argTypes }=>match args.toList,(argTypes[0]?).bind C.P.underlying with
  | [x],some d=>match s.ev x with
   | .one (.cell c)=>(s.len d c).bind fun n=>s.put o.dst (.cell (.int .i64 n))
   | _=>.fail
  | _,_=>.fail
 | .call { callee:=.builtin .append,args,argTypes }=>match args.toList,argTypes.toList,o.dst with
  | [x,y],[t,ty],some d=>match s.ev x,s.ev y,C.elem t,C.P.underlying ty with
   | .one (.cell a),.one (.cell b),some (e,u),some ds=>if C.nk e then (bif (C.Fb t).isSome then (match ds with | .slice _=>s.rX C e u d a b | _=>.fail) else (s.wP ds u b).bind fun lb=>s.append C e u d a lb) else .fail
   | _,_,_,_=>.fail
  | _,_,_=>.fail
 | .call { callee:=.builtin .clear,args,argTypes }=>match args.toList,(argTypes[0]?).bind C.elem with
  | [x],some (_,u)=>match s.ev x with
   | .one (.cell (.sub id off n))=>match s.aj id with
    | some (.arr v l o')=>if o'=.frozen then .fail else if v=u then ({ s with aj:=upd s.aj id (some (.arr v (l.take off++List.replicate n v.dflt++l.drop (off+n)) o')) }).put o.dst .undef else .fail
    | _=>.fail
   | _=>.fail
  | _,_=>.fail
 | .call { callee:=.builtin .min,args,.. }=>match args.toList.map s.ev with
  | .one (.cell (.int k a)) :: r=>mm min k a r s
  | _=>.fail
 | .call { callee:=.builtin .max,args,.. }=>match args.toList.map s.ev with
  | .one (.cell (.int k a)) :: r=>mm max k a r s
  | _=>.fail
 | _=>.fail
where mm (g:Int->Int->Int) (k:IntKind) (a:Int):List Slot->St->T St
 | [],s=>s.put o.dst (.cell (.int k a))
 | .one (.cell (.int k' b)) :: r,s=>if k'=k then mm g k (g a b) r s else .fail
 | _,_=>.fail
def jM (ops:List Oper) (j:Nat):Option Tmp:=(ops[j]?).bind (·.dst)
def iX (ops:List Oper) (i:Nat):Bool:=ops.any fun o=>match o.guard with
 | some (j,_)=>Nat.beq j i
 | none=>false
def gG (s:St) (d:Option Tmp):T St:=
 match d with
 | some d=>match s.env d with
  | .one (.cell (.prop p dec))=>.br p dec (.ret { s with env:=upd s.env d (.cell (.bool true)) }) (.ret { s with env:=upd s.env d (.cell (.bool false)) })
  | _=>.ret s
 | none=>.ret s
def stepT (C:aZ) (ops:List Oper) (i:Nat) (o:Oper) (s:St):T St:=
 let go:T St:=(jT C o s).bind fun s=>bif iX ops i then gG s o.dst else .ret s
 match o.guard with
 | none=>go
 | some (j,want)=>match jM ops j with
  | some d=>match s.env d with
   | .one (.cell (.bool b))=>bif b == want then go else s.put o.dst (.cell .void)
   | .one (.cell .void)=>s.put o.dst (.cell .void)
   | _=>.fail
  | none=>.fail
def BS (C:aZ) (ops:List Oper):List (Oper × Nat)->St->T St
 | [],s=>.ret s
 | (o,i) :: r,s=>(stepT C ops i o s).bind (BS C ops r)
def VU (g:Int->Int->Int) (k:IntKind) (a:Int):List Slot->T (Slot × List (Nat × Entry))
 | []=>.ret (.cell (.int k a),[])
 | .one (.cell (.int k' b)) :: r=>if k'=k then VU g k (g a b) r else .fail
 | _=>.fail
def qZ (C:aZ) (s:St) (d:Tmp) (f:FuncId) (vs:List av) (caps:List Cap):T (Slot × List (Nat × Entry)):=
 match C.P.funcs[f]? with
 | some fn=>match nI C s (C.sig f).io 0 fn.params.toList vs,(iW s caps).bind (·.mapM oH),resTy C fn.resultTypes.toList with
  | some args,some pK,some rt=>if wm args || (gY s vs caps || C.zF.contains f) && !((C.sig f).own && rt.cut) then .fail else .call f rt (C.tV f args++pK) fun r=>.ret (fM (C.sig f).own (Nat.beq fn.resultTypes.size 1) (ak d) rt r)
  | _,_,_=>.fail
 | none=>.fail
def Ar (C:aZ) (s:St) (d:Tmp) (f:FuncId) (vs:List av) (caps:List Cap):T (Slot × List (Nat × Entry)):=
 match (C.sig f).lend with
 | some _=>.fail
 | none=>match (C.sig f).io with
 | []=>qZ C s d f vs caps
 | _=>.fail
def aS (C:aZ) (o:Oper) (s:St):T (Slot × List (Nat × Entry)):=
 match o.op with
 | .move x | .assign x=>match s.ev x with
  | .one (.cell .nil)=>match C.Fb o.type with
   | some _=>.ret (.cell .nil,[])
   | none=>match C.elem o.type,o.dst with
    | some (_,t),some d=>.ret (.cell (.ref (ak d 0)),[(ak d 0,.arr t [] .open)])
    | _,_=>.ret (.cell .nil,[])
  | v=>.ret (v,[])
 | .pick c a b=>match s.ev c with
  | .one (.cell (.bool true))=>.ret (s.ev a,[])
  | .one (.cell (.bool false))=>.ret (s.ev b,[])
  | .one (.cell (.prop p d))=>.br p d (.ret (s.ev a,[])) (.ret (s.ev b,[]))
  | _=>.fail
 | .load t x=>match C.shape t,s.ev x with
  | some (n,agg),.one (.cell p)=>(s.gu n agg p).bind fun v=>.ret (.one v,[])
  | _,_=>.fail
 | .nilCheck x=>match s.ev x with
  | .one (.cell (.ptr id off))=>.ret (.cell (.ptr id off),[])
  | .one (.cell (.ko id i off))=>.ret (.cell (.ko id i off),[])
  | .one (.cell (.nH fr t x off))=>.ret (.cell (.nH fr t x off),[])
  | .one (.cell (.kJ id i off))=>.ret (.cell (.kJ id i off),[])
  | _=>.fail
 | .binOp op t x y _=>(s.comp x).bind fun a=>(s.comp y).bind fun b=>(binOp (C.ty t) op a b).bind fun c=>.ret (.cell c,[])
 | .unOp op _ x=>(s.comp x).bind fun a=>(unOp op a).bind fun c=>.ret (.cell c,[])
 | .convert src dst x=>match C.P.underlying src,C.P.underlying dst,s.ev x with
  | some _,some (.int k),.one (.cell (.int _ n))=>.ret (.cell (.int k (k.wrap n)),[])
  | some _,some .string,.one (.cell (.str b))=>.ret (.cell (.str b),[])
  | some (.slice e),some .string,.one (.cell c)=>if C.ty e=some (.int .u8) then (s.look (.int .u8) c).bind fun l=>.ret (.cell (.str (ofBytes l)),[]) else .fail
  | _,_,_=>.fail
 | .slice t x lo hi none=>match C.P.underlying t,s.ev x with
  | some .string,.one (.cell (.str b))=>(oI s lo).bind fun lo=>(oI s hi).bind fun hi=>(wQ b lo hi).bind fun c=>.ret (.cell c,[])
  | some (.slice e),.one (.cell c)=>match C.ty e with
   | some u=>(oI s lo).bind fun lo=>(oI s hi).bind fun hi=>(jg s u lo hi c).bind fun c=>.ret (.cell c,[])
   | none=>.fail
  | _,_=>.fail
 | .fieldAddr t x i=>match C.placeOf t i,s.ev x with
  | some off,.one (.cell (.ptr id o'))=>.ret (.cell (.ptr id (o'+off)),[])
  | some off,.one (.cell (.ko id j o'))=>.ret (.cell (.ko id j (o'+off)),[])
  | some off,.one (.cell (.nH fr u y o'))=>.ret (.cell (.nH fr u y (o'+off)),[])
  | some off,.one (.cell (.kJ id j o'))=>.ret (.cell (.kJ id j (o'+off)),[])
  | _,_=>.fail
 | .field t x i=>match C.fieldAt t i,s.ev x with
  | some (off,u),.one (.agg cs)=>match C.shape u with
   | some (n,agg)=>if off+n<=cs.length then .ret (.one (aP agg ((cs.drop off).take n)),[]) else .fail
   | none=>.fail
  | _,_=>.fail
 | .indexAddr t x ix=>(s.int ix).bind fun (_,i)=>match C.elem t,s.ev x with
  | some (_,u),.one (.cell c)=>(jG s u i c).bind fun c=>.ret (.cell c,[])
  | _,_=>.fail
 | .index t x ix=>(s.int ix).bind fun (_,i)=>match C.P.underlying t,s.ev x with
  | some .string,.one (.cell (.str b))=>.test (0<=i) (.test (i<(b.size:Int)) (.ret (.cell (.int .u8 (bt b i)),[])) .fail) .fail
  | _,_=>.fail
 | .makeFunc (.func f) first captured=>if first.size=0 then match (bg s captured.toList).bind (·.mapM capOf) with
   | some caps=>.ret (.cell (.qY f caps),[])
   | none=>.fail
  else .fail
 | .extract x i=>match s.ev x with
  | .wN cs=>match cs[i]? with
   | some c=>.ret (.one c,[])
   | none=>.fail
  | _=>.fail
 | .call { callee:=.value g,args,.. }=>match o.dst,s.ev g,bg s args.toList with
  | some d,.one (.cell (.qY f caps)),some vs=>Ar C s d f vs caps
  | _,_,_=>.fail
 | .call { callee:=.builtin .len,args,argTypes }=>match args.toList,(argTypes[0]?).bind C.P.underlying with
  | [x],some d=>match s.ev x with
   | .one (.cell c)=>(s.len d c).bind fun n=>.ret (.cell (.int .i64 n),[])
   | _=>.fail
  | _,_=>.fail
 | .call { callee:=.builtin .min,args,.. }=>match args.toList.map s.ev with
  | .one (.cell (.int k a)) :: r=>VU min k a r
  | _=>.fail
 | .call { callee:=.builtin .max,args,.. }=>match args.toList.map s.ev with
  | .one (.cell (.int k a)) :: r=>VU max k a r
  | _=>.fail
 | .build t parts=>match C.ty t with
  | some u=>if u.isAgg then (match fP C s t parts.toList (zeroCells u) with
   | some cs=>.ret (.one (.agg cs),[])
   | none=>.fail) else .fail
  | none=>.fail
 | .box t x=>match assoc C.tt t,o.dst,s.ev x with
  | some ty,some d,.one v=>if v.known && v.cells.length=QZ ty then .ret (.cell (.ptr (ak d 0) 0),[(ak d 0,.box ty v.cells)]) else .fail
  | _,_,_=>.fail
 | .alloc t=>match assoc C.tt t,o.dst with
  | some ty,some d=>.ret (.cell (.ptr (ak d 0) 0),[(ak d 0,.box ty (yw ty))])
  | _,_=>.fail
 | .buildSlice t n parts=>match C.elem t,o.dst with
  | some (_,u),some d=>if n*u.sz<=16777216 then (match bL s u parts.toList (List.replicate n u.dflt) [] with
   | some (l,[])=>bif C.Lf o.dst t then .ret (.cell (.list true u l),[]) else .ret (.cell (.ref (ak d 0)),[(ak d 0,.arr u l .open)])
   | _=>.fail) else .fail
  | _,_=>.fail
 | .makeSlice t l c=>match C.elem t,o.dst with
  | some (e,u),some d=>if C.nk e then (s.int l).bind fun (_,l)=>(s.int c).bind fun (_,c)=>
    .test (0<=l) (.test (l<=c) (.test (c*(C.bytes e:Int)<=bN)
     (.ret (.cell (.ref (ak d 0)),[(ak d 0,.arr u (List.replicate l.toNat u.dflt) .open)])) .fail) .fail) .fail else .fail
  | _,_=>.fail
 | _=>.fail
def readsOf (ops:List Oper) (o:Oper):List Tmp:=
 (o.op.operands.toList.filterMap fun | .tmp t=>some t | _=>none)++(match o.guard with
  | some (j,_)=>(jM ops j).toList
  | none=>[])
def aT (C:aZ) (o:Oper):Bool:=o.dst.isSome && match o.op with
 | .move _ | .assign _ | .pick .. | .nilCheck _ | .binOp .. | .unOp .. | .convert .. | .slice _ _ _ _ none | .fieldAddr .. | .field .. | .indexAddr .. | .index .. | .makeFunc (.func _) _ _ | .extract .. | .build .. | .box .. | .alloc _=>true
 | .load t _=>!C.take o.dst t
 | .makeSlice t _ _=>(C.Fb t).isNone
 | .buildSlice t _ _=>C.Lf o.dst t || ((C.Fb t).isNone && match C.elem t with
  | some (_,u)=>u.plain
  | none=>false)
 | .call { callee:=.value (.func f),.. }=>(C.sig f).io.isEmpty && (C.sig f).lend.isNone
 | .call { callee:=.value _,.. }=>!o.IQ C
 | .call { callee:=.builtin .len,.. } | .call { callee:=.builtin .min,.. } | .call { callee:=.builtin .max,.. }=>true
 | _=>false
def Rb (C:aZ) (ops:List Oper) (a b:Oper):Bool:=
 aT C a && aT C b && (match a.dst,b.dst with
  | some x,some y=>!Nat.beq x y && !(readsOf ops b).contains x && !(readsOf ops a).contains y
  | _,_=>false)
def Fe (o:Oper):Bool:=match o.op with
 | .extract .. | .binOp .. | .unOp .. | .pick .. | .field .. | .nilCheck _ | .fieldAddr .. | .build ..=>true
 | _=>false
def iH (C:aZ) (o:Oper):Bool:=o.dst.isNone && match o.op with
 | .store t _ _=>!C.gives.contains t
 | _=>false
def IV (C:aZ) (ops:List Oper) (a b:Oper):Bool:=
 aT C a && Fe a && iH C b && (match a.dst with
  | some x=>!(readsOf ops b).contains x
  | none=>false)
def rY (C:aZ) (ops:List Oper) (a b:Oper):Bool:=Rb C ops a b || IV C ops a b || IV C ops b a
def fO:List Oper->List Nat->List Nat
 | [],acc=>acc
 | o :: r,acc=>fO r (acc++[o.after.toList.foldl (fun s e=>if Region.binds .any e then s ||| 2 ^ e.on ||| acc.getD e.on 0 else s) 0])
def Au (cm:Oper->Oper->Bool) (b:Oper) (VW:Nat):List Oper->Nat->Bool
 | [],_=>true
 | a :: r,j=>(VW.testBit j || cm a b) && Au cm b VW r (j+1)
def gP (cm:Oper->Oper->Bool) (ops:List Oper):List Oper->List Nat->Nat->Bool
 | o :: r,a :: as,i=>Au cm o a (ops.take i) 0 && o.after.toList.all (fun e=>!Region.binds .any e || Nat.blt e.on i) && gP cm ops r as (i+1)
 | [],_,_=>true
 | _,_,_=>false
def Np (C:aZ) (ops:List Oper):Bool:=gP (rY C ops) ops ops (fO ops []) 0
def Nq:Slot->Slot->Bool
 | .one (.cell (.ptr i _)),.one (.cell (.ptr j _))=>!Nat.beq i j
 | .one (.cell (.ptr _ _)),.one (.cell (.ko _ _ _))=>true
 | .one (.cell (.ptr _ _)),.one (.cell (.nH _ _ _ _))=>true
 | _,_=>false
def dstsOf (ops:List Oper):List Tmp:=ops.filterMap (·.dst)
def IW (C:aZ) (ops:List Oper) (s:St) (a b:Oper):Bool:=match a.op,a.dst,b.op,b.dst with
 | .load _ (.tmp p),some d,.store t (.tmp q) _,none=>aT C a && !C.gives.contains t && !(dstsOf ops).contains p && !(dstsOf ops).contains q && !(readsOf ops b).contains d && Nq (s.env q) (s.env p)
 | _,_,_,_=>false
def OT (C:aZ) (ops:List Oper) (s:St) (a b:Oper):Bool:=rY C ops a b || IW C ops s a b || IW C ops s b a
def EK (C:aZ) (ops:List Oper) (s:St):Bool:=ops.all (fun o=>aT C o || iH C o) && gP (OT C ops s) ops ops (fO ops []) 0
inductive Ex where
 | normal | exit (id:Nat) | ret
def Cell.ids:Cell->List Nat
 | .ref id | .sub id _ _ | .ptr id _ | .ko id _ _ | .fE id | .kJ id _ _ | .inn id _ _=>[id]
 | .qY _ caps=>caps.filterMap fun | .ptr id=>some id | _=>none
 | _=>[]
def av.ids (c:av):List Nat:=c.cells.flatMap Cell.ids
def Slot.ids:Slot->List Nat
 | .one c=>c.ids
 | .wN cs=>cs.flatMap av.ids
def Entry.kH:Entry->Bool
 | .box _ cs=>cs.all fun c=>c.ids.isEmpty
 | .arr _ _ _=>true
 | .deep _ _ n=>n.isNone
def iM (o:Oper):Option (Tmp × Tmp × Tmp):=match o.op,o.dst with
 | .call { callee:=.builtin .append,args,.. },some d=>match args.toList with
  | [.tmp x,.tmp y]=>some (x,y,d)
  | _=>none
 | _,_=>none
def qo (C:aZ) (o:Oper):Bool:=match o.op with
 | .move _ | .assign _ | .fieldAddr .. | .indexAddr .. | .load .. | .slice _ _ _ _ none | .build .. | .binOp .. | .buildSlice ..=>true
 | .call { callee:=.value (.func f),.. }=>match C.P.funcs[f]? with
  | some fn=>Nat.beq fn.resultTypes.size 1 && (match resTy C fn.resultTypes.toList with
   | some (.list _)=>true
   | some (.aG _)=>true
   | some t=>t.plain
   | none=>false)
  | none=>false
 | _=>false
structure Dr where
 xt:List Tmp
 R:List Tmp
 K:List Nat
 U:List Nat
def JR (a b:List Nat):Bool:=a.all fun x=>!b.contains x
def subs (a b:List Nat):Bool:=a.all fun x=>b.contains x
def UE (xt:List Tmp) (o:Oper):List Tmp:=match o.dst with
 | some x=>bif xt.contains x then (match o.op with
   | .move (.tmp y) | .assign (.tmp y)=>y :: xt
   | _=>match iM o with
    | some (t,_,_)=>t :: xt
    | none=>xt) else xt
 | none=>xt
def UF (ops:List Oper) (dq:List Tmp) (o:Oper):List Tmp:=match o.dst with
 | some x=>bif (iM o).isSome || (readsOf ops o).any (fun t=>dq.contains t) then x :: dq else dq
 | none=>dq
def XT (ops:List Oper) (s:St):Dr:=
 let xt:=(ops.reverse++ops.reverse).foldl UE (ops.filterMap fun o=>(iM o).map (·.1))
 let dq:=ops.foldl (UF ops) xt
 let R:=((ops.filter fun o=>o.dst.isSome && (iM o).isNone).flatMap (readsOf ops)).filter fun t=>!dq.contains t
 { xt,R,K:=xt.flatMap fun t=>ak t 0 :: (s.env t).ids,U:=(R.flatMap fun t=>(s.env t).ids)++((dstsOf ops).filter fun t=>R.contains t).map fun t=>ak t 0 }
def iY (C:aZ) (o:Oper):Bool:=match o.op with
 | .call { argTypes,.. }=>((argTypes[0]?).bind C.Fb).isNone
 | _=>false
def IX (C:aZ) (ops:List Oper) (D:Dr) (s:St) (o:Oper):Bool:=o.guard.isNone && match o.dst with
 | some x=>match iM o with
  | some (t,_,_)=>iY C o && !D.R.contains x && D.xt.contains t && (!D.xt.contains x || D.K.contains (ak x 0))
  | none=>aT C o && (!D.R.contains x || (qo C o && subs (readsOf ops o) D.R && D.U.contains (ak x 0))) &&
   (!D.xt.contains x || (match o.op with
    | .move (.tmp y) | .assign (.tmp y)=>D.xt.contains y && D.K.contains (ak x 0)
    | .buildSlice ..=>D.K.contains (ak x 0)
    | .call { callee:=.value (.func _),.. }=>qo C o && D.K.contains (ak x 0)
    | _=>false))
 | none=>iH C o && match o.op with
  | .store _ (.tmp q) _=>!(dstsOf ops).contains q && JR (s.env q).ids D.U
  | _=>false
def Fg (D:Dr) (s:St):Bool:=
 JR D.K D.U && D.R.all (fun r=>subs (s.env r).ids D.U && (s.env r).ids.all fun i=>match s.aj i with
  | some e=>e.kH
  | none=>true) && D.xt.all (fun t=>subs (s.env t).ids D.K)
def IY (C:aZ) (ops:List Oper) (D:Dr) (a b:Oper):Bool:=match a.dst,iM b with
 | some x,some (_,_,d)=>aT C a && qo C a && !(readsOf ops b).contains x && !Nat.beq x d && !(readsOf ops a).contains d && subs (readsOf ops a) D.R
 | _,_=>false
def Rc (C:aZ) (ops:List Oper) (D:Dr) (a b:Oper):Bool:=rY C ops a b || IY C ops D a b || IY C ops D b a
def tZ (ops:List Oper) (i:Nat):Bool:=(match (fO ops [])[i]? with
 | some m=>(List.range i).all fun k=>m.testBit k
 | none=>false) && (match ops[i]? with
 | some o=>o.guard.isNone && (iM o).isNone
 | none=>false)
def tails (ops:List Oper) (j:Nat):Bool:=(List.range ops.length).all fun i=>Nat.blt i j || tZ ops i
def EL (C:aZ) (ops:List Oper) (s:St):Bool:=let D:=XT ((ops.zipIdx.filter fun x=>!tails ops x.2).map (·.1)) s
 ops.zipIdx.all (fun x=>tails ops x.2 || IX C ops D s x.1) && Fg D s && gP (Rc C ops D) ops ops (fO ops []) 0
def cK:Slot->Bool
 | .one (.cell (.ptr _ _))=>true
 | _=>false
def IZ (C:aZ) (ops:List Oper) (s0:St) (a b:Oper):Bool:=match a.op,a.dst,iM b with
 | .move (.tmp z),some x,some (_,_,d)=>iY C b && cK (s0.env z) && !(dstsOf ops).contains z && !(readsOf ops b).contains x && !Nat.beq x d
 | _,_,_=>false
def qp (C:aZ) (o:Oper):Option Tmp:=match o.op,o.dst with
 | .call { callee:=.value (.func f),.. },some d=>if ((C.sig f).lend.isNone && !(C.sig f).io.isEmpty && !C.Le.contains f)=true then some d else none
 | _,_=>none
def Ja (C:aZ) (ops:List Oper) (s0:St) (a b:Oper):Bool:=match a.op,a.dst,qp C b with
 | .move (.tmp z),some x,some d=>cK (s0.env z) && !(dstsOf ops).contains z && !(readsOf ops b).contains x && !Nat.beq x d
 | _,_,_=>false
def Rf (C:aZ) (ops:List Oper) (s0:St) (a b:Oper):Bool:=rY C ops a b || IZ C ops s0 a b || IZ C ops s0 b a || Ja C ops s0 a b || Ja C ops s0 b a
def EM (C:aZ) (ops:List Oper) (s:St):Bool:=
 ops.all (fun o=>o.guard.isNone && (aT C o || iH C o || ((iM o).isSome && iY C o) || (qp C o).isSome)) && gP (Rf C ops s) ops ops (fO ops []) 0
def oF (C:aZ) (o:Oper):Option (Tmp × Tmp):=match o.op,o.dst with
 | .call { callee:=.value (.func f),args,.. },some d=>match (C.sig f).lend,C.P.funcs[f]? with
  | some i,some fn=>match args.toList[i]? with
   | some (.tmp t)=>bif (C.sig f).wI || ((fn.params.toList[i]?).bind C.ty).isSome then none else some (d,t)
   | _=>none
  | _,_=>none
 | _,_=>none
def Fh (s0:St) (bad:Option Nat):Slot->Bool
 | .one (.cell (.ptr id 0))=>(match s0.aj id with
  | some (.box (some T) _)=>!T.ob
  | _=>false) && !(bad == some id)
 | .one (.cell .undef)=>true
 | _=>false
def nJ (ops:List Oper) (s0:St) (bad:Option Nat) (t:Tmp):Bool:=Fh s0 bad (s0.env t) && ops.all fun o=>!(o.dst == some t) || (match o.op with
 | .move (.tmp z)=>!(dstsOf ops).contains z && cK (s0.env z) && Fh s0 bad (s0.env z)
 | _=>false)
def Dp (C:aZ) (ops:List Oper) (s0:St) (a b:Oper):Bool:=match a.op,a.dst,oF C b with
 | .move (.tmp z),some x,some (d,t)=>cK (s0.env z) && !(dstsOf ops).contains z && !(readsOf ops b).contains x && !Nat.beq x d && nJ ops s0 none t
 | .load _ (.tmp z),some x,some (d,t)=>aT C a && !(dstsOf ops).contains z && !(readsOf ops b).contains x && !Nat.beq x d && (match s0.env z with
  | .one (.cell (.ptr id _))=>nJ ops s0 (some id) t
  | _=>false)
 | _,_,_=>false
def Lg (C:aZ) (ops:List Oper) (s0:St) (a b:Oper):Bool:=rY C ops a b || Dp C ops s0 a b || Dp C ops s0 b a
def EN (C:aZ) (ops:List Oper) (s:St):Bool:=
 ops.zipIdx.all (fun x=>tails ops x.2 || (x.1.guard.isNone && (aT C x.1 || iH C x.1 || (match oF C x.1 with
  | some (_,t)=>nJ ops s none t
  | none=>false)))) && ops.all (fun o=>o.guard.isNone) && gP (Lg C ops s) ops ops (fO ops []) 0
def Slot.kills (K:List Nat) (v:Slot):Slot:=K.foldl (fun v id=>v.kill id) v
def Entry.kills (K:List Nat) (e:Entry):Entry:=K.foldl (fun e id=>e.kill id) e
def wS (C:aZ) (o:Oper):Bool:=match o.op with
 | .move (.tmp _)=>(C.Fb o.type).isSome || (C.elem o.type).isNone
 | .nilCheck _ | .fieldAddr .. | .load .. | .slice _ _ _ _ none=>true
 | _=>false
def kZ (C:aZ) (o:Oper):Option Tmp:=match o.op,o.dst with
 | .call { callee:=.builtin .append,argTypes,.. },some d=>if ((argTypes[0]?).bind C.Fb).isSome=true then some d else none
 | .buildSlice t _ _,some d=>if ((C.Fb t).isSome && !C.Lf (some d) t)=true then some d else none
 | .load t _,some d=>if C.take (some d) t=true then some d else none
 | .call { callee:=.value (.func f),.. },some d=>if ((C.sig f).lend.isNone && !(C.sig f).io.isEmpty && C.Le.contains f)=true then some d else none
 | _,_=>none
def OU (ops:List Oper) (KS:List Tmp) (C:aZ) (o:Oper):Bool:=match o.op with
 | .call { callee:=.value (.func _),.. }=>qo C o
 | .indexAddr ..=>subs (readsOf ops o) KS
 | _=>false
def JU (ops:List Oper) (j:Nat):Bool:=(List.range ops.length).all fun i=>Nat.blt i j || (match (fO ops [])[i]? with
 | some m=>(List.range i).all fun k=>m.testBit k
 | none=>false)
structure Dk where
 LS:List Tmp
 Z:List Tmp
 KS:List Tmp
 P:List Nat
def VX (C:aZ) (ops:List Oper) (KS:List Tmp) (o:Oper):List Tmp:=match o.dst with
 | some x=>bif KS.contains x then (match o.op with
   | .indexAddr ..=>readsOf ops o++KS
   | _=>match kZ C o with
    | some _=>readsOf ops o++KS
    | none=>KS) else KS
 | none=>KS
def UG (C:aZ) (ops:List Oper) (KS:List Tmp) (LS:List Tmp) (o:Oper):List Tmp:=match o.dst with
 | some x=>bif wS C o && (kZ C o).isNone && !KS.contains x && (readsOf ops o).all (fun r=>LS.contains r || !(dstsOf ops).contains r) then x :: LS else LS
 | none=>LS
def VY (C:aZ) (ops:List Oper) (s:St):Dk:=
 let nt:=(ops.zipIdx.filter fun x=>!JU ops x.2).map (·.1)
 let KS:=nt.reverse.foldl (VX C ops) ((nt.filter fun o=>(kZ C o).isSome).flatMap (readsOf ops))
 let LS:=nt.foldl (UG C ops KS) []
 let Z:=((nt.filter fun o=>match o.dst with
  | some x=>LS.contains x
  | none=>false).flatMap (readsOf ops)).filter fun r=>!(dstsOf ops).contains r
 let base:=(LS++Z).flatMap fun t=>(s.env t).ids
 { LS,Z,KS,P:=base++base.flatMap (fun i=>match s.aj i with | some (.box _ cs)=>cs.flatMap Cell.ids | _=>[]) }
def Nr (D:Dk) (s:St):Bool:=
 D.P.all (fun i=>match s.aj i with
  | some (.box _ cs)=>cs.all fun c=>subs c.ids D.P
  | some _=>true
  | none=>false) && D.LS.all (fun t=>subs (s.env t).ids D.P) && D.Z.all (fun t=>subs (s.env t).ids D.P) && D.KS.all fun t=>JR (s.env t).ids D.P
def Ns (C:aZ) (ops:List Oper) (D:Dk) (o:Oper):Bool:=match o.dst with
 | none=>false
 | some x=>match kZ C o with
  | some _=>subs (readsOf ops o) D.KS && !D.LS.contains x && !D.Z.contains x
  | none=>aT C o && (bif D.LS.contains x then wS C o && (readsOf ops o).all (fun r=>D.LS.contains r || D.Z.contains r) && !D.KS.contains x
   else !D.Z.contains x && (!D.KS.contains x || OU ops D.KS C o))
def BU (C:aZ) (ops:List Oper) (D:Dk) (a b:Oper):Bool:=match a.dst,kZ C b with
 | some x,some d=>aT C a && wS C a && D.LS.contains x && (readsOf ops a).all (fun r=>D.LS.contains r || D.Z.contains r) && subs (readsOf ops b) D.KS && !(readsOf ops b).contains x && !Nat.beq x d && !(readsOf ops a).contains d
 | _,_=>false
def Rh (C:aZ) (ops:List Oper) (D:Dk) (a b:Oper):Bool:=rY C ops a b || BU C ops D a b || BU C ops D b a
def Av (C:aZ) (ops:List Oper) (s:St):Bool:=let D:=VY C ops s
 ops.zipIdx.all (fun x=>JU ops x.2 || Ns C ops D x.1) && ops.all (fun o=>o.guard.isNone) && Nr D s && gP (Rh C ops D) ops ops (fO ops []) 0
def notNil:Slot->Bool
 | .one (.cell .nil)=>false
 | _=>true
def Fj (C:aZ) (nn:List Tmp) (o:Oper):Bool:=wS C o || match o.op with
 | .move (.tmp z)=>nn.contains z
 | .indexAddr .. | .index .. | .binOp .. | .unOp .. | .extract .. | .build .. | .field ..=>true
 | .buildSlice t _ _=>C.Lf o.dst t
 | .call { callee:=.builtin .len,.. }=>true
 | _=>false
def uf (C:aZ) (o:Oper):Bool:=match o.op with
 | .call { callee:=.value (.func f),.. }=>match C.P.funcs[f]? with
  | some fn=>Nat.beq fn.resultTypes.size 1 && (match resTy C fn.resultTypes.toList with
   | some t=>t.plain
   | none=>false)
  | none=>false
 | _=>false
def Nt (ops:List Oper) (s0:St) (t:Tmp):List Nat:=(s0.env t).ids++ops.flatMap fun o=>bif o.dst == some t then (match o.op with
 | .move (.tmp z)=>(s0.env z).ids
 | _=>[]) else []
def wT (C:aZ) (ops:List Oper) (s0:St) (o:Oper):Option Tmp:=match o.op,o.dst with
 | .store t (.tmp q) _,none=>bif !C.gives.contains t && !(dstsOf ops).contains q && cK (s0.env q) then some q else none
 | _,_=>none
structure De where
 LS:List Tmp
 Z:List Tmp
 NN:List Tmp
 P:List Nat
def Ri (s:St) (i:Nat):List Nat:=match s.aj i with
 | some (.box _ cs)=>cs.flatMap Cell.ids
 | _=>[]
def VZ (C:aZ) (ops:List Oper) (s:St) (bad:List Nat) (nn LS:List Tmp) (o:Oper):List Tmp:=match o.dst with
 | some x=>bif ((oF C o).isSome && uf C o) || (aT C o && Fj C nn o && (readsOf ops o).all (fun r=>LS.contains r || (!(dstsOf ops).contains r && JR ((s.env r).ids++(s.env r).ids.flatMap (Ri s)) bad))) then x :: LS else LS
 | none=>LS
def Wh (C:aZ) (ops:List Oper) (s:St) (cut:Nat):De:=
 let nt:=ops.take cut
 let bad:=nt.flatMap fun o=>match oF C o with
  | some (_,t)=>Nt ops s t
  | none=>match wT C ops s o with
   | some q=>(s.env q).ids
   | none=>[]
 let NN:=(nt.flatMap (readsOf ops)).filter fun r=>!(dstsOf ops).contains r && notNil (s.env r)
 let LS:=nt.foldl (VZ C ops s bad NN) []
 let Z:=((nt.filter fun o=>(oF C o).isNone && match o.dst with
  | some x=>LS.contains x
  | none=>false).flatMap (readsOf ops)).filter fun r=>!(dstsOf ops).contains r
 let base:=(LS++Z).flatMap fun t=>(s.env t).ids
 { LS,Z,NN,P:=base++base.flatMap (Ri s) }
def Nu (ops:List Oper) (D:De) (s:St):Bool:=
 D.P.all (fun i=>match s.aj i with
  | some (.box _ cs)=>cs.all fun c=>subs c.ids D.P
  | some _=>true
  | none=>false) && D.LS.all (fun t=>subs (s.env t).ids D.P) && D.Z.all (fun t=>subs (s.env t).ids D.P) && D.NN.all fun t=>!(dstsOf ops).contains t && notNil (s.env t)
def Fp (C:aZ) (ops:List Oper) (s0:St) (D:De) (o:Oper):Bool:=match oF C o with
 | some (d,t)=>nJ ops s0 none t && JR (Nt ops s0 t) D.P && !D.Z.contains d && (!D.LS.contains d || uf C o)
 | none=>match wT C ops s0 o with
  | some q=>JR (s0.env q).ids D.P
  | none=>false
def Nv (C:aZ) (ops:List Oper) (s0:St) (D:De) (o:Oper):Bool:=Fp C ops s0 D o || (aT C o && match o.dst with
 | none=>false
 | some x=>bif D.LS.contains x then Fj C D.NN o && (readsOf ops o).all (fun r=>D.LS.contains r || D.Z.contains r) else !D.Z.contains x)
def BX (C:aZ) (ops:List Oper) (s0:St) (D:De) (a b:Oper):Bool:=aT C a && Fj C D.NN a && Fp C ops s0 D b && (readsOf ops a).all (fun r=>D.LS.contains r || D.Z.contains r) && (match a.dst with
 | some x=>D.LS.contains x && !(readsOf ops b).contains x && !(b.dst == some x)
 | none=>false) && match b.dst with
 | some d=>!(readsOf ops a).contains d
 | none=>true
def Rj (C:aZ) (ops:List Oper) (s0:St) (D:De) (a b:Oper):Bool:=Lg C ops s0 a b || BX C ops s0 D a b || BX C ops s0 D b a
def Uo (C:aZ) (ops:List Oper) (j:Nat):Bool:=(List.range ops.length).all fun i=>Nat.blt i j || (match (fO ops [])[i]?,ops[i]? with
 | some m,some o=>(List.range i).all fun k=>m.testBit k || (Nat.ble j k && match ops[k]? with
  | some p=>rY C ops p o
  | none=>false)
 | _,_=>false)
def Rk (C:aZ) (ops:List Oper):Nat:=((List.range ops.length).find? (Uo C ops)).getD ops.length
def Jb (C:aZ) (ops:List Oper) (s:St):Bool:=let c:=Rk C ops;let D:=Wh C ops s c
 Uo C ops c && ops.zipIdx.all (fun x=>Nat.ble c x.2 || Nv C ops s D x.1) && ops.all (fun o=>o.guard.isNone) && Nu ops D s && gP (Rj C ops s D) ops ops (fO ops []) 0
def nK (C:aZ) (ops:List Oper) (s0:St):Nat->Tmp->Option (Nat × Nat)
 | 0,_=>none
 | k+1,p=>bif (dstsOf ops).contains p then (match s0.env p,ops.filter (fun o=>o.dst == some p) with
  | .one (.cell .undef),[o]=>(match o.op with
   | .fieldAddr t (.tmp b) i=>(match C.placeOf t i,nK C ops s0 k b with
    | some off,some (id,o')=>some (id,o'+off)
    | _,_=>none)
   | .nilCheck (.tmp b)=>nK C ops s0 k b
   | .move (.tmp b)=>nK C ops s0 k b
   | _=>none)
  | _,_=>none)
 else (match s0.env p with
  | .one (.cell (.ptr id off))=>some (id,off)
  | _=>none)
def Lh (C:aZ) (ops:List Oper) (s0:St) (p:Tmp):Option (Nat × Nat):=nK C ops s0 4 p
def rZ:Slot->Bool
 | .one (.cell (.int _ _))=>true
 | _=>false
def ru (C:aZ) (ops:List Oper) (s0:St) (o:Oper):Option (List Nat):=match o.op with
 | .load t (.tmp p)=>(match C.take o.dst t,C.shape t,Lh C ops s0 p with
  | false,some (n,_),some (id,off)=>(match s0.aj id with
   | some (.box _ cs)=>some (((cs.drop off).take n).flatMap Cell.ids)
   | _=>none)
  | _,_,_=>none)
 | .move (.tmp z)=>bif !(dstsOf ops).contains z && rZ (s0.env z) then some [] else none
 | _=>none
def qw (C:aZ) (ops:List Oper) (s0:St) (t:Tmp):Option (List Nat):=match s0.env t,ops.filter (fun o=>o.dst == some t) with
 | .one (.cell .undef),[o]=>ru C ops s0 o
 | _,_=>none
def JV (C:aZ) (ops:List Oper) (s0:St) (a b:Oper):Bool:=match a.dst,iM b with
 | some x,some (t,_,d)=>aT C a && iY C b && !(readsOf ops b).contains x && !Nat.beq x d && !(readsOf ops a).contains d && (match a.op with
  | .fieldAddr _ (.tmp z) _=>!(dstsOf ops).contains z && cK (s0.env z)
  | .load _ _=>(match ru C ops s0 a,qw C ops s0 t with
   | some x,some y=>JR x y
   | _,_=>false)
  | _=>qo C a && (readsOf ops a).all (fun r=>qw C ops s0 r == some []))
 | _,_=>false
def Fq (C:aZ) (ops:List Oper) (s0:St) (t:Tmp):Bool:=match s0.env t,ops.filter (fun o=>o.dst == some t) with
 | .one (.cell .undef),[o]=>aT C o && (match o.op with
  | .call { callee:=.value (.func f),.. }=>(C.sig f).own && (match C.P.funcs[f]? with
   | some fn=>Nat.beq fn.resultTypes.size 1
   | none=>false)
  | _=>false)
 | _,_=>false
def OV (t i:Nat):Bool:=Nat.beq (i % 4) 0 && Nat.ble (256*t) i
def BZ (C:aZ) (ops:List Oper) (s0:St) (a b:Oper):Bool:=match a.dst,kZ C b with
 | some x,some d=>aT C a && !(readsOf ops b).contains x && !Nat.beq x d && !(readsOf ops a).contains d && (match Lh C ops s0 x with
  | some (id,_)=>(match s0.aj id with
   | some (.box _ _)=>true
   | _=>false)
  | none=>(match qw C ops s0 x with
   | some P=>P.isEmpty || (readsOf ops b).all (fun r=>Fq C ops s0 r && P.all (fun i=>!OV r i))
   | none=>false))
 | _,_=>false
def Rl (C:aZ) (ops:List Oper) (s0:St) (a b:Oper):Bool:=rY C ops a b || JV C ops s0 a b || JV C ops s0 b a || BZ C ops s0 a b || BZ C ops s0 b a
def Fu (C:aZ) (ops:List Oper) (s:St):Bool:=
 ops.zipIdx.all (fun x=>tails ops x.2 || aT C x.1 || ((iM x.1).isSome && iY C x.1) || (kZ C x.1).isSome) && ops.all (fun o=>o.guard.isNone) && gP (Rl C ops s) ops ops (fO ops []) 0
def Aw (C:aZ) (ops:List Oper) (s:St):Bool:=Jb C ops s || Fu C ops s
def zI (acc:List Nat):List Nat->List Nat
 | []=>acc
 | x :: r=>if acc.contains x then zI acc r else zI (acc++[x]) r
def reach (σ:Nat->Option Entry):Nat->Nat->List Nat->List Nat
 | 0,_,acc=>acc
 | n+1,p,acc=>match acc[p]? with
  | none=>acc
  | some id=>match σ id with
   | some (.box _ cs)=>reach σ n (p+1) (zI acc (cs.flatMap Cell.ids))
   | _=>reach σ n (p+1) acc
def posOf:List Nat->Nat->Nat->Option Nat
 | [],_,_=>none
 | x :: r,id,p=>bif Nat.beq x id then some p else posOf r id (p+1)
def Dq (order:List Nat) (id:Nat):Option Nat:=(posOf order id 0).map iG
def nY (r:Nat->Option Nat):List Cap->Option (List Cap)
 | []=>some []
 | .ro t x :: cs=>(nY r cs).map (.ro t x :: ·)
 | .ptr id :: cs=>match r id,nY r cs with
  | some id,some cs=>some (.ptr id :: cs)
  | _,_=>none
def Cell.ren (r:Nat->Option Nat):Cell->Cell
 | .ref id=>match r id with
  | some id=>.ref id
  | none=>.undef
 | .sub id o n=>match r id with
  | some id=>.sub id o n
  | none=>.undef
 | .ptr id o=>match r id with
  | some id=>.ptr id o
  | none=>.undef
 | .ko id i o=>match r id with
  | some id=>.ko id i o
  | none=>.undef
 | .qY f caps=>match nY r caps with
  | some caps=>.qY f caps
  | none=>.undef
 | .fE id=>match r id with
  | some id=>.fE id
  | none=>.undef
 | .kJ id i o=>match r id with
  | some id=>.kJ id i o
  | none=>.undef
 | .inn id i o=>match r id with
  | some id=>.inn id i o
  | none=>.undef
 | .bool b=>.prop (b=true) (instDecidableEqBool b true)
 | .prop p d=>.prop (@decide p d=true) (instDecidableEqBool (@decide p d) true)
 | c=>c
def av.ren (r:Nat->Option Nat):av->av
 | .cell c=>.cell (c.ren r)
 | .agg cs=>.agg (cs.map (Cell.ren r))
def Slot.ren (r:Nat->Option Nat):Slot->Slot
 | .one c=>.one (c.ren r)
 | .wN cs=>.wN (cs.map (av.ren r))
def Entry.ren (r:Nat->Option Nat):Entry->Entry
 | .box t cs=>.box t (cs.map (Cell.ren r))
 | e=>e
structure Head where
 vals:List Slot
 aj:List Entry
def Jc:List Nat->List Slot->Nat->Slot
 | k :: ks,v :: vs,t=>bif Nat.beq k t then v else Jc ks vs t
 | _,_,_=>.undef
def Ay:List Entry->Nat->Nat->Option Entry
 | [],_,_=>none
 | e :: r,p,k=>bif Nat.beq k (iG p) then some e else Ay r (p+1) k
def Head.st (n:Nat) (keep:List Nat) (h:Head):St:={ n,env:=Jc keep h.vals,aj:=Ay h.aj 0 }
def Slot.alive:Slot->Bool
 | .one (.cell .undef) | .one (.cell .void)=>false
 | _=>true
def zJ {α:Type}:List (Option α)->Option (List α)
 | []=>some []
 | some a :: r=>match zJ r with
  | some l=>some (a :: l)
  | none=>none
 | none :: _=>none
def Fv (keep:List Nat) (s:St):Option Head:=
 let vals:=keep.map s.env
 let order:=reach s.aj 256 0 (zI [] (vals.flatMap Slot.ids))
 let r:=Dq order
 match zJ (order.map fun id=>(s.aj id).map (Entry.ren r)) with
 | some es=>some { vals:=vals.map (Slot.ren r),aj:=es }
 | none=>none
section
variable {R:Type}
abbrev K (R:Type):=Ex->St->Option R
def Nw (keep:List Nat) (n:Nat) (again:Head->Option R) (κ:K R):K R:=fun x s=>match x with
 | .normal=>bif Nat.beq s.n n then (match Fv keep s with
  | some h=>again h
  | none=>none) else none
 | x=>κ x s
def iter (keep:List Nat) (n:Nat) (body:St->K R->Option R) (κ:K R):Nat->Head->Option R
 | 0,_=>none
 | m+1,h=>body (h.st n keep) (Nw keep n (iter keep n body κ m) κ)
def Wi (next:St->Option R) (κ:K R):K R:=fun x s=>match x with
 | .normal=>next s
 | x=>κ x s
def Ny (id:Nat) (κ:K R):K R:=fun x s=>match x with
 | .exit i=>bif Nat.beq i id then κ .normal s else κ (.exit i) s
 | x=>κ x s
def Fw (vars:List Nat) (s:St):List Nat:=vars.filter fun t=>(s.env t).alive
def UH (C:aZ) (ah:FuncId->(t:Ty)->List Arg->Option t.den) (ops:Array Oper) (draw:Bool) (s:St) (κ:K R):Option R:=
 bif draw && !(Np C ops.toList || EK C ops.toList s || EL C ops.toList s || EM C ops.toList s || (EN C ops.toList s || (Av C ops.toList s || Aw C ops.toList s))) then none else
  (BS C ops.toList ops.toList.zipIdx s).run ah (κ .normal)
def once (keep:List Nat) (n:Nat) (next:St->Option R):Nat->Head->Option R
 | 0,_=>none
 | _+1,h=>next (h.st n keep)
def Rm (vars:List Nat) (id:Nat):Bool:=vars.any fun v=>Nat.beq (v / 4096) (256+id)
def Uq (vars:List Nat) (id i:Nat):Bool:=vars.any (Nat.beq (1048576+id*4096+i))
def Nz (C:aZ) (ah:FuncId->(t:Ty)->List Arg->Option t.den) (vars:List Nat) (k:Nat) (ops:List Oper) (id:Nat) (κ:St->Option R):List (Oper × Nat)->St->Option R
 | [],s=>κ s
 | (o,i) :: r,s=>bif Uq vars id i then (match Fv (Fw vars s) s with
  | some h=>once (Fw vars s) s.n (fun s=>(stepT C ops i o s).run ah (Nz C ah vars k ops id κ r)) k h
  | none=>none) else (stepT C ops i o s).run ah (Nz C ah vars k ops id κ r)
def jN (C:aZ) (ah:FuncId->(t:Ty)->List Arg->Option t.den) (vars:List Nat) (k:Nat):Code->St->K R->Option R
 | .skip,s,κ=>κ .normal s
 | .ret,s,κ=>κ .ret s
 | .exit id,s,κ=>κ (.exit id) s
 | .seq a b,s,κ=>jN C ah vars k a s (Wi (fun s=>jN C ah vars k b s κ) κ)
 | .block id b,s,κ=>jN C ah vars k b s (Ny id κ)
 | .cond c a b,s,κ=>match s.ev c with
  | .one (.cell (.bool true))=>jN C ah vars k a s κ
  | .one (.cell (.bool false))=>jN C ah vars k b s κ
  | .one (.cell (.prop p d))=>@ite _ p d (jN C ah vars k a s κ) (jN C ah vars k b s κ)
  | _=>none
 | .region id ops draw,s,κ=>bif !draw && Rm vars id then Nz C ah vars k ops.toList id (κ .normal) ops.toList.zipIdx s else UH C ah ops draw s κ
 | .loop b,s,κ=>
  let keep:=Fw vars s
  match Fv keep s with
  | some h=>iter keep s.n (fun s κ=>jN C ah vars k b s κ) κ k h
  | none=>none
 | _,_,_=>none
end
def pq:List (Nat × Entry)->Nat->List (Nat × Entry)
 | [],_=>[]
 | (k,.arr t l _) :: r,j=>(k,.arr t l (.pinned j)) :: pq r (j+1)
 | (k,.deep t l _) :: r,j=>(k,.deep t l (some j)) :: pq r (j+1)
 | x :: r,j=>x :: pq r (j+1)
def dz (i:Nat):Arg->Slot × List (Nat × Entry)
 | .val t x=>(.one (wO t.kept t x),[])
 | .Nl t x=>(.one (wO true t x),[])
 | .qY f caps=>(.cell (.qY f caps),[])
 | .rp t x=>(.cell (.nH false t x 0),[])
 | .give t x=>match aA true (dA i) t x 0 with
  | (cs,es,_)=>(.one (aP t.isAgg cs),es)
 | .mQ t x=>match aA t.ob (fun j=>dA i (j+1)) t x 0 with
  | (cs,es,_)=>(.cell (.ptr (dA i 0) 0),(dA i 0,.box (some t) cs) :: es)
 | .lend t x=>match aA true (dA i) t x 0 with
  | (cs,es,_)=>(.one (aP t.isAgg cs),pq es 0)
def bW:Nat->List Arg->List Slot × List (Nat × Entry)
 | _,[]=>([],[])
 | i,a :: r=>match dz i a,bW (i+1) r with
  | (v,es),(vs,fs)=>(v :: vs,es++fs)
def qx (lo:Nat) (fn:Func) (args:List Arg):St:=
 match bW 0 args with
 | (vs,es)=>{ n:=(args.length+(fn.ntmps - args.length))*1048576+lo,env:=fun t=>(vs[t]?).getD .undef,aj:=assoc es }
def iU (C:aZ) (s:St):List ResultVar->Option (List av)
 | []=>some []
 | .tmp t :: r=>match s.env t,iU C s r with
  | .one c,some r=>some (c :: r)
  | _,_=>none
 | .cell a t :: r=>match C.shape t,s.env a,iU C s r with
  | some (n,agg),.one (.cell p),some r=>match s.gu n agg p with
   | .ret c=>some (c :: r)
   | _=>none
  | _,_,_=>none
def Arg.kind:Arg->Nat
 | .mQ _ _=>2
 | _=>0
def ku:List Arg->Nat->Option (Nat × Ty)
 | [],_=>none
 | .lend t _ :: _,i=>some (i,t)
 | _ :: r,i=>ku r (i+1)
def ny:List Arg->Nat->Option (Nat × Ty)
 | [],_=>none
 | .mQ t _ :: _,i=>some (i,t)
 | _ :: r,i=>ny r (i+1)
def wU:Ty->List av->Bool
 | .unit,[]=>true
 | .pair a b,c :: cs=>Aq a c && Nat.beq c.cells.length a.sz && wU b cs
 | _,_=>false
def qK (one:Bool) (t:Ty) (vs:List av):Bool:=
 if one then (match vs with
  | [c]=>Aq t c
  | _=>false) else wU t vs
def Li (C:aZ) (own:Bool) (fn:Func) (kinds:List Nat) (t:Ty):K t.den:=fun x s=>match x with
 | .exit _=>none
 | _=>bif Nat.beq fn.results.size fn.resultTypes.size && !kinds.any (!Nat.beq 0 ·) then
  (match iU C s fn.results.toList with
  | some vs=>bif vs.all av.known && qK (Nat.beq fn.resultTypes.size 1) t vs then
    (match aL s.aj (bif own then Mode.give else Mode.keep) t (vs.flatMap av.cells) with
    | some (x,ids)=>bif !own || nodup ids then some x else none
    | none=>none) else none
  | none=>none) else none
def fQ (σ:Nat->Option Entry):(T:Ty)->List Cell->Nat->Option (T.rows.den × List Cell × Nat)
 | .list t,.ref id :: r,j=>match σ id with
  | some (.arr _ l (.pinned n))=>if n=j then (bJ (u:=t) l).map fun l=>(l,r,j+1) else none
  | _=>none
 | .aG t,.fE id :: r,j=>match σ id with
  | some (.deep _ l (some n))=>if n=j then (bJ (u:=t) l).map fun l=>(l,r,j+1) else none
  | _=>none
 | .pair a b,cs,j=>match fQ σ a cs j with
  | some (x,r,j)=>(match fQ σ b r j with
   | some (y,r,j)=>some ((x,y),r,j)
   | none=>none)
  | none=>none
 | .unit,r,j=>some ((),r,j)
 | .bool,_ :: r,j=>some ((),r,j)
 | .int _,_ :: r,j=>some ((),r,j)
 | .str,_ :: r,j=>some ((),r,j)
 | _,_,_=>none
def UJ (C:aZ) (own:Bool) (fn:Func) (i:Nat) (T:Ty):(t:Ty)->K t.den
 | .pair rt T'=>fun x s=>if h:T.rows=T' then (match Li C own fn [] rt x s,s.env i with
  | some y,.one c=>(match fQ s.aj T c.cells 0 with
   | some (z,[],_)=>some (y,h ▸ z)
   | _=>none)
  | _,_=>none) else none
 | _=>fun _ _=>none
def JW (C:aZ) (fn:Func) (i:Nat) (T rt:Ty) (s:St):Option (rt.den × T.den):=
 bif Nat.beq fn.results.size fn.resultTypes.size then
  (match iU C s fn.results.toList,s.env i with
  | some vs,.one (.cell (.ptr id 0))=>(match s.aj id with
   | some (.box _ cs)=>bif vs.all av.known && qK (Nat.beq fn.resultTypes.size 1) rt vs then
    (match aL s.aj .give rt (vs.flatMap av.cells),aL s.aj (bif T.ob then .give else .keep) T cs with
    | some (y,ids),some (z,js)=>bif nodup (ids++js) && (T.ob || js.isEmpty) then some (y,z) else none
    | _,_=>none) else none
   | _=>none)
  | _,_=>none) else none
def PL (C:aZ) (fn:Func) (i:Nat) (T:Ty):(t:Ty)->K t.den
 | .pair rt T'=>fun x s=>if h:T=T' then match x with
  | .exit _=>none
  | _=>match JW C fn i T rt s with
   | some r=>some (r.1,h ▸ r.2)
   | none=>none
  else none
 | _=>fun _ _=>none
def UK (C:aZ) (fn:Func) (t:Ty):K t.den:=fun x s=>match x with
 | .exit _=>none
 | _=>bif Nat.beq fn.results.size fn.resultTypes.size && Nat.beq fn.resultTypes.size 1 then
  (match iU C s fn.results.toList with
  | some [.cell (.ptr id 0)]=>(match s.aj id with
   | some (.box (some u) cs)=>if u=t then (match aL s.aj .keep t cs with
    | some (z,[])=>some z
    | _=>none) else none
   | _=>none)
  | _=>none) else none
def run (C:aZ):Nat->FuncId->(t:Ty)->List Arg->Option t.den
 | 0,_,_,_=>none
 | k+1,f,t,args=>match C.Ld f with
  | some p=>p t args
  | none=>match C.P.funcs[f]? with
   | some fn=>match fn.body with
    | some c=>match ku args 0 with
     | none=>(match ny args 0 with
      | none=>bif (C.sig f).wI then jN C (run C k) ((assoc C.vars f).getD []) k c (qx 0 fn args) (UK C fn t) else jN C (run C k) ((assoc C.vars f).getD []) k c (qx 0 fn args) (Li C (C.sig f).own fn (args.map Arg.kind) t)
      | some (i,T)=>bif Nat.blt i 1000 then jN C (run C k) ((assoc C.vars f).getD []) k c (qx (i+1) fn args) (PL C fn i T t) else none)
     | some (i,T)=>jN C (run C k) ((assoc C.vars f).getD []) k c (qx 0 fn args) (UJ C (C.sig f).own fn i T t)
    | none=>none
   | none=>none
inductive Way where
 | l | r | b | t | e | p
def uV:Code->List Way->Code
 | c,[]=>c
 | .seq a _,.l :: w=>uV a w
 | .seq _ b,.r :: w=>uV b w
 | .block _ b,.b :: w=>uV b w
 | .cond _ a _,.t :: w=>uV a w
 | .cond _ _ b,.e :: w=>uV b w
 | .loop b,.p :: w=>uV b w
 | _,_=>.refuse ""
structure Out where
 keep:List Nat
 left:Nat
def uW {R:Type} (C:aZ) (ah:FuncId->(t:Ty)->List Arg->Option t.den) (vars:List Nat) (k n:Nat):Code->List Way->List Out->K R->K R
 | .seq a b,.l :: w,os,κ=>uW C ah vars k n a w os (Wi (fun s=>jN C ah vars k b s κ) κ)
 | .seq _ b,.r :: w,os,κ=>uW C ah vars k n b w os κ
 | .block id b,.b :: w,os,κ=>uW C ah vars k n b w os (Ny id κ)
 | .cond _ a _,.t :: w,os,κ=>uW C ah vars k n a w os κ
 | .cond _ _ b,.e :: w,os,κ=>uW C ah vars k n b w os κ
 | .loop b,.p :: w,o :: os,κ=>uW C ah vars k n b w os (Nw o.keep n (iter o.keep n (fun s κ=>jN C ah vars k b s κ) κ o.left) κ)
 | _,_,_,κ=>κ
def bF (C:aZ) (k:Nat) (f:FuncId) (t:Ty) (kinds:List Nat) (w:List Way) (outs:List Out) (keep:List Nat) (m:Nat) (h:Head):Option t.den:=
 match C.P.funcs[f]? with
 | some fn=>match fn.body with
  | some c=>match uV c w with
   | .loop b=>
    let vars:=(assoc C.vars f).getD []
    let n:=(kinds.length+(fn.ntmps - kinds.length))*1048576+0
    iter keep n (fun s κ=>jN C (run C k) vars k b s κ) (uW C (run C k) vars k n c w outs (Li C (C.sig f).own fn kinds t)) m h
   | _=>none
  | none=>none
 | none=>none
def ug (C:aZ) (k:Nat) (f:FuncId) (t:Ty) (i:Nat) (T:Ty) (nargs:Nat) (w:List Way) (outs:List Out) (keep:List Nat) (m:Nat) (h:Head):Option t.den:=
 match C.P.funcs[f]? with
 | some fn=>match fn.body with
  | some c=>match uV c w with
   | .loop b=>
    let vars:=(assoc C.vars f).getD []
    let n:=(nargs+(fn.ntmps - nargs))*1048576+0
    iter keep n (fun s κ=>jN C (run C k) vars k b s κ) (uW C (run C k) vars k n c w outs (UJ C (C.sig f).own fn i T t)) m h
   | _=>none
  | none=>none
 | none=>none
def Rn (C:aZ) (k:Nat) (f:FuncId) (t:Ty) (i:Nat) (T:Ty) (nargs:Nat) (w:List Way) (outs:List Out) (keep:List Nat) (m:Nat) (h:Head):Option t.den:=
 match C.P.funcs[f]? with
 | some fn=>match fn.body with
  | some c=>match uV c w with
   | .loop b=>
    let vars:=(assoc C.vars f).getD []
    let n:=(nargs+(fn.ntmps - nargs))*1048576+(i+1)
    iter keep n (fun s κ=>jN C (run C k) vars k b s κ) (uW C (run C k) vars k n c w outs (PL C fn i T t)) m h
   | _=>none
  | none=>none
 | none=>none
end Go.Flat
