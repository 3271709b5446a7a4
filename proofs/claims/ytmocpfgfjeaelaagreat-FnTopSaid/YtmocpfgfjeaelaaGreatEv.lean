/- A plain evaluator of the program's code over numbers, bytes and lists: what a call is to answer, with no memory in sight. That it answers as the program does is shown in the texts behind it. No condition. -/
import Derived.Calls
import Derived.Orders
set_option linter.unusedVariables false
namespace Go.Flat
inductive Ty where
 | bool | int (k:IntKind) | str | list (t:Ty) | unit | pair (a b:Ty) | bR (t:Ty)
 deriving DecidableEq
@[reducible] def Ty.den:Ty->Type
 | .bool=>Bool
 | .int _=>Int
 | .str=>ByteArray
 | .list t=>List t.den
 | .unit=>Unit
 | .pair a b=>a.den × b.den
 | .bR t=>List t.den
def Ty.kept:Ty->Bool
 | .list (.int .u8)=>true
 | _=>false
def Ty.ob:Ty->Bool
 | .pair (.list (.int .u8)) _=>false
 | _=>true
def Ty.dflt:(t:Ty)->t.den
 | .bool=>false
 | .int _=>0
 | .str=>ByteArray.empty
 | .list _=>[]
 | .unit=>()
 | .pair a b=>(a.dflt,b.dflt)
 | .bR _=>[]
def Ty.rows:Ty->Ty
 | .list t=>.list t
 | .pair a b=>.pair a.rows b.rows
 | .bR t=>.bR t
 | .bool | .int _ | .str | .unit=>.unit
def Ty.sz:Ty->Nat
 | .unit=>0
 | .pair a b=>a.sz+b.sz
 | _=>1
def Ty.isAgg:Ty->Bool
 | .unit | .pair _ _=>true
 | _=>false
inductive Cap where
 | ptr (id:Nat)
 | ro (t:Ty) (x:t.den)
inductive Cell where
 | undef
 | void
 | bool (b:Bool)
 | prop (p:Prop) (d:Decidable p)
 | int (k:IntKind) (n:Int)
 | str (s:ByteArray)
 | nil
 | list (fr:Bool) (t:Ty) (l:List t.den)
 | ref (id:Nat)
 | sub (id off len:Nat)
 | ptr (id off:Nat)
 | mJ (id i off:Nat)
 | ru (fr:Bool) (t:Ty) (x:t.den) (off:Nat)
 | nL (f:FuncId) (caps:List Cap)
 | mY (id:Nat)
 | oI (id i off:Nat)
 | inn (id i off:Nat)
inductive aJ where
 | cell (c:Cell)
 | agg (cs:List Cell)
inductive Slot where
 | one (c:aJ)
 | Dm (cs:List aJ)
@[reducible] def Cell.is (p:Prop) [d:Decidable p]:Cell:=.prop p d
@[reducible] def Slot.cell (c:Cell):Slot:=.one (.cell c)
@[reducible] def Slot.undef:Slot:=.one (.cell .undef)
def aJ.cells:aJ->List Cell
 | .cell c=>[c]
 | .agg cs=>cs
inductive Own where
 | open | pinned (n:Nat) | frozen
 deriving DecidableEq
inductive Entry where
 | box (t:Option Ty) (cs:List Cell)
 | arr (t:Ty) (l:List t.den) (o:Own)
 | deep (t:Ty) (l:List t.den) (pin:Option Nat)
structure St where
 n:Nat
 env:Nat->Slot
 ak:Nat->Option Entry
inductive Arg where
 | val (t:Ty) (x:t.den)
 | nL (f:FuncId) (caps:List Cap)
 | rp (t:Ty) (x:t.den)
 | give (t:Ty) (x:t.den)
 | iF (t:Ty) (x:t.den)
 | lend (t:Ty) (x:t.den)
 | UU (t:Ty) (x:t.den)
def Arg.solid:Arg->Arg
 | .val t x=>.UU t x
 | a=>a
inductive T (α:Type):Type where
 | ret (a:α)
 | fail
 | br (p:Prop) (d:Decidable p) (x y:T α)
 | call (f:FuncId) (t:Ty) (args:List Arg) (k:t.den->T α)
namespace T
def bind {α β:Type}:T α->(α->T β)->T β
 | .ret a,f=>f a
 | .fail,_=>.fail
 | .br p d x y,f=>.br p d (x.bind f) (y.bind f)
 | .call g t args k,f=>.call g t args fun r=>(k r).bind f
instance:Monad T where
 pure:=T.ret
 bind:=T.bind
def ofOption {α:Type}:Option α->T α
 | some a=>.ret a
 | none=>.fail
def test {α:Type} (p:Prop) [d:Decidable p] (x y:T α):T α:=.br p d x y
def run {α R:Type} (ah:FuncId->(t:Ty)->List Arg->Option t.den):T α->(α->Option R)->Option R
 | .ret a,κ=>κ a
 | .fail,_=>none
 | .br p d x y,κ=>@ite _ p d (x.run ah κ) (y.run ah κ)
 | .call f t args k,κ=>(ah f t args).bind fun r=>(k r).run ah κ
end T
structure Sig where
 io:List Nat:=[]
 own:Bool:=true
 lend:Option Nat:=none
 made:Ty:=.unit
def Sig.yK (s:Sig):Bool:=match s.lend with
 | some n=>Nat.beq n 1000
 | none=>false
structure dh where
 P:Program
 tt:List (Nat × Option Ty)
 vars:List (Nat × List Nat):=[]
 sigs:List (Nat × Sig):=[]
 MX:FuncId->Option ((t:Ty)->List Arg->Option t.den):=fun _=>none
 tabs:List (String × List Int):=[]
 mono:Bool:=false
 gives:List Nat:=[]
 ptrs:List Nat:=[]
 EF:List Nat:=[]
 YG:List (Nat × Nat):=[]
 UW:List Nat:=[]
 takes:List (Nat × Nat):=[]
def assoc {α:Type}:List (Nat × α)->Nat->Option α
 | [],_=>none
 | (k,v) :: r,n=>bif Nat.beq k n then some v else assoc r n
def MZ:List (Nat × Nat)->Nat->Nat->Bool
 | [],_,_=>false
 | (a,b) :: r,x,y=>(Nat.beq a x && Nat.beq b y) || MZ r x y
def dh.UY (C:dh) (d:Option Tmp) (t:TypeId):Bool:=match d with
 | some d=>MZ C.YG d t
 | none=>false
def dh.take (C:dh) (d:Option Tmp) (t:TypeId):Bool:=match d with
 | some d=>MZ C.takes d t
 | none=>false
def dh.xV (C:dh) (f:FuncId) (as:List Arg):List Arg:=bif C.EF.contains f then as.map Arg.solid else as
def dh.ty (C:dh) (t:TypeId):Option Ty:=(assoc C.tt t).bind id
def dh.sig (C:dh) (f:FuncId):Sig:=(assoc C.sigs f).getD {}
def dh.shape (C:dh) (t:TypeId):Option (Nat × Bool):=(assoc C.tt t).map fun
 | some t=>(t.sz,t.isAgg)
 | none=>(1,false)
def dh.fieldAt (C:dh) (t:TypeId) (i:Nat):Option (Nat × TypeId):=
 match C.P.underlying t with
 | some (.struct fs)=>(fs[i]?).map fun f=>(f.offset,f.type)
 | _=>none
def dh.placeOf (C:dh) (t:TypeId) (i:Nat):Option Nat:=
 match C.fieldAt t i with
 | some (off,u)=>match C.shape u with
  | some (n+1,_)=>some off
  | _=>none
 | none=>none
def dh.elem (C:dh) (t:TypeId):Option (TypeId × Ty):=
 match C.P.underlying t with
 | some (.slice e)=>(C.ty e).map fun T=>(e,T)
 | _=>none
def rd (t:Ty) (l:List t.den) (i:Int):t.den:=l.getD i.toNat t.dflt
def bt (s:ByteArray) (i:Int):Int:=((s.data.getD i.toNat 0).toNat:Int)
def bytesOf (s:ByteArray):List Int:=s.data.toList.map fun b=>(b.toNat:Int)
def ofBytes (l:List Int):ByteArray:=⟨(l.map fun n=>UInt8.ofNat n.toNat).toArray⟩
def cellsOf (fr:Bool):(t:Ty)->t.den->List Cell
 | .bool,b=>[.prop (b=true) (instDecidableEqBool b true)]
 | .int k,n=>[.int k n]
 | .str,s=>[.str s]
 | .list t,l=>[.list fr t l]
 | .unit,_=>[]
 | .pair a b,x=>cellsOf fr a x.1++cellsOf fr b x.2
 | .bR t,l=>[.list fr t l]
def zeroCells:Ty->List Cell
 | .bool=>[.bool false]
 | .int k=>[.int k 0]
 | .str=>[.str ByteArray.empty]
 | .list _=>[.nil]
 | .unit=>[]
 | .pair a b=>zeroCells a++zeroCells b
 | .bR _=>[.nil]
def AV:Option Ty->List Cell
 | some u=>zeroCells u
 | none=>[.undef]
def UZ:Option Ty->Nat
 | some u=>u.sz
 | none=>1
def zN (fr:Bool) (t:Ty) (x:t.den):aJ:=
 if t.isAgg then .agg (cellsOf fr t x) else match cellsOf fr t x with
  | [c]=>.cell c
  | cs=>.agg cs
def bO (agg:Bool) (cs:List Cell):aJ:=
 if agg then .agg cs else match cs with
  | [c]=>.cell c
  | cs=>.agg cs
inductive Mode where
 | look | keep | give
def fM {t u:Ty} (l:List t.den):Option (List u.den):=if h:t=u then some (h ▸ l) else none
def jh (σ:Nat->Option Entry) (m:Mode) (t:Ty):Cell->Option (List t.den × List Nat)
 | .nil=>some ([],[])
 | .list fr u l=>match m,fr with
  | .look,_ | .keep,true=>(fM l).map (·,[])
  | _,_=>none
 | .ref id=>match σ id with
  | some (.arr u l o)=>match m,o with
   | .give,.open=>(fM l).map (·,[id])
   | .give,_=>none
   | .keep,.pinned _=>none
   | _,_=>(fM l).map (·,[id])
  | _=>none
 | .sub id off len=>match σ id with
  | some (.arr u l o)=>match m,o with
   | .give,.open=>(fM ((l.drop off).take len)).map (·,[id])
   | .give,_=>none
   | .keep,.pinned _=>none
   | _,_=>(fM ((l.drop off).take len)).map (·,[id])
  | _=>none
 | _=>none
def kU (σ:Nat->Option Entry) (m:Mode) (t:Ty):Cell->Option (List t.den × List Nat)
 | .nil=>some ([],[])
 | .list fr u l=>match m,fr with
  | .look,_ | .keep,true=>(fM l).map (·,[])
  | _,_=>none
 | .mY id=>match σ id with
  | some (.deep u l pin)=>match m,pin with
   | .look,_=>(fM l).map (·,[id])
   | .give,none=>(fM l).map (·,[id])
   | _,_=>none
  | _=>none
 | _=>none
def aF (σ:Nat->Option Entry) (m:Mode):(t:Ty)->List Cell->Option (t.den × List Cell × List Nat)
 | .bool,.bool b :: r=>some (b,r,[])
 | .bool,.prop p d :: r=>some (@decide p d,r,[])
 | .int k,.int k' n :: r=>if k'=k then some (n,r,[]) else none
 | .str,.str s :: r=>some (s,r,[])
 | .list t,c :: r=>(jh σ m t c).map fun (l,ids)=>(l,r,ids)
 | .bR t,c :: r=>(kU σ m t c).map fun (l,ids)=>(l,r,ids)
 | .unit,r=>some ((),r,[])
 | .pair a b,cs=>match aF σ m a cs with
  | some (x,r,ids)=>(match aF σ m b r with
   | some (y,r',qE)=>some ((x,y),r',ids++qE)
   | none=>none)
  | none=>none
 | _,_=>none
def bG (σ:Nat->Option Entry) (m:Mode) (t:Ty) (cs:List Cell):Option (t.den × List Nat):=
 match aF σ m t cs with
 | some (x,[],ids)=>some (x,ids)
 | _=>none
def upd {α:Type} (f:Nat->α) (i:Nat) (v:α):Nat->α:=fun j=>bif Nat.beq j i then v else f j
def cO (σ:Nat->Option Entry):List Nat->(Nat->Option Entry)
 | []=>σ
 | id :: r=>match σ id with
  | some (.arr t l _)=>cO (upd σ id (some (.arr t l .frozen))) r
  | _=>cO σ r
def aI (d j:Nat):Nat:=4*(64*d+j)
def jA (p:Nat):Nat:=4*p+1
def iA (i j:Nat):Nat:=4*(64*i+j)+2
def Ot (id j:Nat):Nat:=4*(64*id+j)+3
def sF (d n:Nat):Bool:=Nat.blt d (n / 1048576) && Nat.ble (n % 1048576) d
def St.put (s:St) (dst:Option Tmp) (v:Slot):T St:=
 match dst with
 | none=>.ret s
 | some d=>bif sF d s.n then .ret { s with env:=upd s.env d v } else .fail
def St.alloc (s:St) (key:Nat) (e:Entry):T St:=
 match s.ak key with
 | none=>.ret { s with ak:=upd s.ak key (some e) }
 | some _=>.fail
def ofConst:Value->Slot
 | .bool b=>.cell (.bool b)
 | .int k n=>.cell (.int k n)
 | .string s=>.cell (.str s)
 | .slice none 0 0=>.cell .nil
 | _=>.undef
def St.ev (s:St):Operand->Slot
 | .tmp t=>s.env t
 | .const v=>ofConst v
 | .func f=>.cell (.nL f [])
 | .global _=>.undef
def St.int (s:St) (x:Operand):T (IntKind × Int):=
 match s.ev x with
 | .one (.cell (.int k n))=>.ret (k,n)
 | _=>.fail
def St.comp (s:St) (x:Operand):T aJ:=
 match s.ev x with
 | .one c=>.ret c
 | _=>.fail
def cellsD (id i:Nat) (p:Bool):(t:Ty)->t.den->Nat->List Cell
 | .list _,_,o=>[if p then .inn id i o else .undef]
 | .bR _,_,_=>[.undef]
 | .pair a b,x,o=>cellsD id i p a x.1 o++cellsD id i p b x.2 (o+a.sz)
 | .bool,x,_=>cellsOf true .bool x
 | .int k,x,_=>cellsOf true (.int k) x
 | .str,x,_=>cellsOf true .str x
 | .unit,_,_=>[]
def St.iY (s:St) (n:Nat) (agg:Bool):Cell->T aJ
 | .ptr id off=>match s.ak id with
  | some (.box _ cs)=>if off+n<=cs.length then .ret (bO agg ((cs.drop off).take n)) else .fail
  | _=>.fail
 | .mJ id i off=>match s.ak id with
  | some (.arr t l _)=>if off+n<=t.sz then .ret (bO agg (((cellsOf true t (l.getD i t.dflt)).drop off).take n)) else .fail
  | _=>.fail
 | .ru fr t x off=>if off+n<=t.sz then .ret (bO agg (((cellsOf fr t x).drop off).take n)) else .fail
 | .oI id i off=>match s.ak id with
  | some (.deep t l pin)=>if off+n<=t.sz then .ret (bO agg (((cellsD id i pin.isSome t (l.getD i t.dflt) 0).drop off).take n)) else .fail
  | _=>.fail
 | _=>.fail
def splice (cs:List Cell) (off:Nat) (new:List Cell):List Cell:=cs.take off++new++cs.drop (off+new.length)
def Cell.known:Cell->Bool
 | .undef | .void=>false
 | _=>true
def aJ.known:aJ->Bool
 | .cell c=>c.known
 | .agg _=>true
def Cap.LC (id:Nat):Cap->Bool
 | .ptr i=>Nat.beq i id
 | .ro _ _=>false
def Cell.forget (id:Nat):Cell->Cell
 | .ptr i o=>bif Nat.beq i id then .undef else .ptr i o
 | .nL f caps=>bif caps.any (Cap.LC id) then .undef else .nL f caps
 | c=>c
def aJ.forget (id:Nat):aJ->aJ
 | .cell c=>.cell (c.forget id)
 | .agg cs=>.agg (cs.map (·.forget id))
def Slot.forget (id:Nat):Slot->Slot
 | .one c=>.one (c.forget id)
 | .Dm cs=>.Dm (cs.map (·.forget id))
def Entry.forget (id:Nat):Entry->Entry
 | .box t cs=>.box t (cs.map (·.forget id))
 | e=>e
def St.forget (s:St) (id:Nat):St:=
 { s with env:=fun t=>(s.env t).forget id,ak:=upd (fun k=>(s.ak k).map (·.forget id)) id none }
def Cell.kill (id:Nat):Cell->Cell
 | .ref i=>bif Nat.beq i id then .undef else .ref i
 | .sub i o l=>bif Nat.beq i id then .undef else .sub i o l
 | .mJ i k o=>bif Nat.beq i id then .undef else .mJ i k o
 | .mY i=>bif Nat.beq i id then .undef else .mY i
 | .oI i k o=>bif Nat.beq i id then .undef else .oI i k o
 | .inn i k o=>bif Nat.beq i id then .undef else .inn i k o
 | c=>c
def aJ.kill (id:Nat):aJ->aJ
 | .cell c=>.cell (c.kill id)
 | .agg cs=>.agg (cs.map (·.kill id))
def Slot.kill (id:Nat):Slot->Slot
 | .one c=>.one (c.kill id)
 | .Dm cs=>.Dm (cs.map (·.kill id))
def Entry.kill (id:Nat):Entry->Entry
 | .box t cs=>.box t (cs.map (·.kill id))
 | e=>e
def St.kill (s:St) (id:Nat):St:=
 { s with env:=fun t=>(s.env t).kill id,ak:=fun k=>(s.ak k).map (·.kill id) }
def St.drop (s:St) (id:Nat):St:={ s.kill id with ak:=upd (s.kill id).ak id none }
def nodup:List Nat->Bool
 | []=>true
 | x :: r=>!r.contains x && nodup r
def St.bL (s:St):List Nat->St
 | []=>s
 | id :: r=>(s.drop id).bL r
def pE:Ty->List Bool
 | .list _ | .bR _=>[true]
 | .pair a b=>pE a++pE b
 | .unit=>[]
 | .bool | .int _ | .str=>[false]
def Ty.nod:Ty->Bool
 | .bR _=>false
 | .list t=>t.nod
 | .pair a b=>a.nod && b.nod
 | .bool | .int _ | .str | .unit=>true
def setCell:(t:Ty)->Nat->t.den->Cell->Option t.den
 | .bool,0,_,.bool b=>some b
 | .bool,0,_,.prop p d=>some (@decide p d)
 | .int k,0,_,.int k' n=>if k'=k then some n else none
 | .str,0,_,.str s=>some s
 | .pair a b,o,x,c=>if o<a.sz then (setCell a o x.1 c).map (·,x.2) else (setCell b (o - a.sz) x.2 c).map (x.1,·)
 | _,_,_,_=>none
def Va (g:Bool) (s:St) (n:Nat) (new:List Cell) (id i off:Nat):T St:=.fail
def St.store (s:St) (g:Bool) (n:Nat) (new:List Cell):Cell->T St
 | .ptr id off=>match s.ak id with
  | some (.box t cs)=>if off+n<=cs.length/\new.length=n then .ret { s with ak:=upd s.ak id (some (.box t (splice cs off new))) } else .fail
  | _=>.fail
 | .mJ id i off=>match s.ak id with
  | some (.arr t l o)=>if o=.frozen then .fail else if off+n<=t.sz/\new.length=n then
    (match bG s.ak .keep t (splice (cellsOf true t (l.getD i t.dflt)) off new) with
    | some (x,ids)=>if ids.contains id then .fail else .ret { s with ak:=upd (cO s.ak ids) id (some (.arr t (l.set i x) o)) }
    | none=>.fail) else .fail
  | _=>.fail
 | .oI id i off=>Va g s n new id i off
 | _=>.fail
def fF:Nat:=211106232532992
def Ck (op:BinOp) (k:IntKind) (a b:Int):T Cell:=
 match op with
 | .add=>.ret (.int k (k.wrap (a+b)))
 | .sub=>.ret (.int k (k.wrap (a - b)))
 | .mul=>.ret (.int k (k.wrap (a*b)))
 | .quo=>.test (b=0) .fail (.ret (.int k (k.wrap (a.tdiv b))))
 | .rem=>.test (b=0) .fail (.ret (.int k (a.tmod b)))
 | .and=>.ret (.int k (k.wrap (BitVec.ofInt k.bits a &&& BitVec.ofInt k.bits b).toNat))
 | .or=>.ret (.int k (k.wrap (BitVec.ofInt k.bits a ||| BitVec.ofInt k.bits b).toNat))
 | .xor=>.ret (.int k (k.wrap (BitVec.ofInt k.bits a ^^^ BitVec.ofInt k.bits b).toNat))
 | .andNot=>.ret (.int k (k.wrap (BitVec.ofInt k.bits a &&& ~~~BitVec.ofInt k.bits b).toNat))
 | .eql=>.ret (.is (a=b))
 | .neq=>.ret (.is (a ≠ b))
 | .lss=>.ret (.is (a<b))
 | .leq=>.ret (.is (a<=b))
 | .gtr=>.ret (.is (b<a))
 | .geq=>.ret (.is (b<=a))
 | _=>.fail
def xW (op:BinOp) (k:IntKind) (a b:Int):T Cell:=
 match op with
 | .shl=>.test (b<0) .fail (.ret (.int k (k.wrap (a*2 ^ (min b.toNat k.bits)))))
 | .shr=>.test (b<0) .fail (.ret (.int k (a.fdiv (2 ^ (min b.toNat k.bits)))))
 | _=>.fail
def Cell.asBool:Cell->Option Bool
 | .bool b=>some b
 | .prop p d=>some (@decide p d)
 | _=>none
def nO:List Cell->List Cell->Option (Σ' p:Prop,Decidable p)
 | [],[]=>some ⟨True,.isTrue trivial⟩
 | [x],[y]=>LD x y
 | x :: xs,y :: ys=>match LD x y,nO xs ys with
  | some ⟨p,d⟩,some ⟨q,e⟩=>some ⟨p/\q,@instDecidableAnd p q d e⟩
  | _,_=>none
 | _,_=>none
where
 dec (p:Prop) [d:Decidable p]:Option (Σ' p:Prop,Decidable p):=some ⟨p,d⟩
 LD:Cell->Cell->Option (Σ' p:Prop,Decidable p)
 | .int k a,.int k' b=>if k=k' then dec (a=b) else none
 | .str a,.str b=>dec (a=b)
 | .bool a,.bool b=>dec (a=b)
 | .prop p d,.prop q e=>dec (@decide p d=@decide q e)
 | .prop p d,.bool b=>dec (@decide p d=b)
 | .bool b,.prop p d=>dec (b=@decide p d)
 | _,_=>none
def Ty.plain:Ty->Bool
 | .list _ | .bR _=>false
 | .pair a b=>a.plain && b.plain
 | _=>true
def Ty.ht:Ty->Nat
 | .pair a b=>Nat.max (a.ht+1) b.ht
 | _=>0
def Hu (U:Ty) (x y:aJ):Option (Σ' p:Prop,Decidable p):=
 match x,y with
 | .cell a,.cell b=>match a,b with
  | .str s,.str u=>nO.dec (s=u)
  | a,b=>if U=.bool/\a.asBool.isSome then nO.LD a b else none
 | .agg cs,.agg ds=>if U.isAgg && U.plain && Nat.blt U.ht 100 && (bG (fun _=>none) .look U cs).isSome && (bG (fun _=>none) .look U ds).isSome then nO cs ds else none
 | _,_=>none
def binOp (U:Option Ty) (op:BinOp) (x y:aJ):T Cell:=
 match op,x,y with
 | .shl,.cell (.int k a),.cell (.int _ b)=>xW .shl k a b
 | .shr,.cell (.int k a),.cell (.int _ b)=>xW .shr k a b
 | op,.cell (.int k a),.cell (.int k' b)=>if k=k' then Ck op k a b else .fail
 | .add,.cell (.str a),.cell (.str b)=>.test (a.size+b.size<=fF) (.ret (.str (a++b))) .fail
 | .eql,x,y=>match U.bind (Hu · x y) with
  | some ⟨p,d⟩=>.ret (.prop p d)
  | none=>.fail
 | .neq,x,y=>match U.bind (Hu · x y) with
  | some ⟨p,d⟩=>.ret (.prop (¬ p) (@instDecidableNot p d))
  | none=>.fail
 | _,_,_=>.fail
def unOp (op:UnOp) (x:aJ):T Cell:=
 match op,x with
 | .not,.cell (.bool b)=>.ret (.bool (!b))
 | .not,.cell (.prop p d)=>.ret (.prop (¬ p) (@instDecidableNot p d))
 | .neg,.cell (.int k n)=>.ret (.int k (k.wrap (-n)))
 | _,_=>.fail
def St.look (s:St) (t:Ty) (c:Cell):T (List t.den):=T.ofOption ((jh s.ak .look t c).map (·.1))
def St.Dq (s:St):TypeDesc->(t:Ty)->Cell->T (List t.den)
 | .string,.int .u8,.str b=>.ret (bytesOf b)
 | .slice _,t,c=>s.look t c
 | _,_,_=>.fail
def St.len (s:St):TypeDesc->Cell->T Int
 | .string,.str s=>.ret (s.size:Int)
 | .slice _,.nil=>.ret 0
 | .slice _,.list _ _ l=>.ret (l.length:Int)
 | .slice _,.ref id=>match s.ak id with
  | some (.arr _ l _)=>.ret (l.length:Int)
  | _=>.fail
 | .slice _,.sub _ _ n=>.ret (n:Int)
 | .slice _,.mY id=>match s.ak id with
  | some (.deep _ l _)=>.ret (l.length:Int)
  | _=>.fail
 | _,_=>.fail
def bounds (n:Int) (lo hi:Option Int):T (Int × Int):=
 match hi with
 | some h=>.test (0<=h) (.test (h<=n) (low h) .fail) .fail
 | none=>low n
where low (h:Int):T (Int × Int):=
 match lo with
 | some l=>.test (0<=l) (.test (l<=h) (.ret (l,h)) .fail) .fail
 | none=>.ret (0,h)
def Dt (b:ByteArray) (lo hi:Option Int):T Cell:=(bounds b.size lo hi).bind fun (l,h)=>.ret (.str (b.extract l.toNat h.toNat))
def kS (s:St) (u:Ty) (lo hi:Option Int):Cell->T Cell
 | .nil=>(bounds 0 lo hi).bind fun _=>.ret .nil
 | .list fr t l=>if t=u then (bounds l.length lo hi).bind fun (a,h)=>.ret (.list fr t ((l.drop a.toNat).take (h.toNat - a.toNat))) else .fail
 | .ref id=>match s.ak id with
  | some (.arr t l _)=>if t=u then (bounds l.length lo hi).bind fun (a,h)=>.ret (.sub id a.toNat (h.toNat - a.toNat)) else .fail
  | _=>.fail
 | .sub id off n=>match s.ak id with
  | some (.arr t l _)=>if t=u then (bounds n lo hi).bind fun (a,h)=>.ret (.sub id (off+a.toNat) (h.toNat - a.toNat)) else .fail
  | _=>.fail
 | _=>.fail
def oJ (s:St) (u:Ty) (i:Int):Cell->T Cell
 | .list fr t l=>if t=u then .test (0<=i) (.test (i<(l.length:Int)) (.ret (.ru true t (rd t l i) 0)) .fail) .fail else .fail
 | .ref id=>match s.ak id with
  | some (.arr t l _)=>if t=u then .test (0<=i) (.test (i<(l.length:Int)) (.ret (.mJ id i.toNat 0)) .fail) .fail else .fail
  | _=>.fail
 | .sub id off n=>match s.ak id with
  | some (.arr t l _)=>if t=u then .test (0<=i) (.test (i<(n:Int)) (.ret (.mJ id (off+i.toNat) 0)) .fail) .fail else .fail
  | _=>.fail
 | .mY id=>match s.ak id with
  | some (.deep t l _)=>if t=u then .test (0<=i) (.test (i<(l.length:Int)) (.ret (.oI id i.toNat 0)) .fail) .fail else .fail
  | _=>.fail
 | _=>.fail
def dh.QJ (C:dh) (t:TypeId):Option Ty:=match C.ty t with
 | some (.bR u)=>some u
 | _=>none
def dh.bytes (C:dh) (t:TypeId):Nat:=(C.P.bytesOf t)
def dh.wU (C:dh) (t:TypeId):Bool:=Nat.ble 1 (C.bytes t) && Nat.ble (C.bytes t) 1048576
def xX (s:St):Cap->Option Cap
 | .ro t x=>some (.ro t x)
 | .ptr id=>match s.ak id with
  | some (.box (some t) cs)=>(bG s.ak .look t cs).map fun (x,_)=>.ro t x
  | _=>none
def jT (s:St):List Cap->Option (List Cap)
 | []=>some []
 | c :: r=>match xX s c,jT s r with
  | some c,some r=>some (c :: r)
  | _,_=>none
def Du (t:Ty):aJ->Bool
 | .agg _=>t.isAgg
 | .cell _=>!t.isAgg
def nS (C:dh) (s:St) (t:TypeId) (v:aJ):Option Arg:=
 match C.ty t with
 | some u=>bif v.known && Du u v then bif C.UW.contains t then (match bG s.ak .keep u v.cells with
   | some (x,[])=>some (.UU u x)
   | _=>none) else bif u.kept then (match bG s.ak .keep u v.cells with
   | some (x,[])=>some (.val u x)
   | _=>none) else (bG s.ak .look u v.cells).map fun (x,_)=>.val u x else none
 | none=>match v with
  | .cell (.nL f caps)=>(jT s caps).map (.nL f)
  | .cell (.ptr id 0)=>match xX s (.ptr id) with
   | some (.ro t x)=>some (.rp t x)
   | _=>none
  | .cell (.ru _ t x 0)=>some (.rp t x)
  | _=>none
def Hw (s:St):aJ->Option Arg
 | .cell (.ref id)=>match s.ak id with
  | some (.arr u l .open)=>some (.give (.list u) l)
  | _=>none
 | .cell (.ptr id 0)=>match s.ak id with
  | some (.box (some u) cs)=>(bG s.ak .give u cs).map fun (x,_)=>.iF u x
  | _=>none
 | _=>none
def toArg (C:dh) (s:St) (io:Bool) (t:TypeId) (v:aJ):Option Arg:=bif io then Hw s v else nS C s t v
def sK:Cap->Option Arg
 | .ro t x=>some (.rp t x)
 | .ptr _=>none
def qF (C:dh) (s:St) (io:List Nat):Nat->List TypeId->List aJ->Option (List Arg)
 | _,_,[]=>some []
 | i,t :: ts,v :: vs=>match toArg C s (io.contains i) t v,qF C s io (i+1) ts vs with
  | some a,some r=>some (a :: r)
  | _,_=>none
 | _,[],_ :: _=>none
def Cell.Zg:Cell->Bool
 | .mY _=>true
 | _=>false
def kV (s:St):Cap->Bool
 | .ptr id=>match s.ak id with
  | some (.box _ cs)=>cs.any Cell.Zg
  | _=>false
 | .ro _ _=>false
def kW (s:St):Cell->Bool
 | .mY _=>true
 | .ptr id _=>kV s (.ptr id)
 | .nL _ caps=>caps.any (kV s)
 | _=>false
def jB (s:St) (vs:List aJ) (caps:List Cap):Bool:=vs.any (fun v=>v.cells.any (kW s)) || caps.any (kV s)
def Ty.cut:Ty->Bool
 | .list t=>t.plain
 | .bR t=>t.cut
 | .pair a b=>a.cut && b.cut
 | .bool | .int _ | .str | .unit=>true
def resTy (C:dh) (ts:List TypeId):Option Ty:=
 match ts with
 | [t]=>C.ty t
 | ts=>go ts
where go:List TypeId->Option Ty
 | []=>some .unit
 | t :: r=>match C.ty t,go r with
  | some a,some b=>some (.pair a b)
  | _,_=>none
def zB:List Arg->Bool
 | []=>false
 | .give _ _ :: _=>true
 | .iF _ _ :: _=>true
 | _ :: r=>zB r
def aV (own:Bool) (key:Nat->Nat):(t:Ty)->t.den->Nat->List Cell × List (Nat × Entry) × Nat
 | .list t,l,j=>if own then ([.ref (key j)],[(key j,.arr t l .open)],j+1) else ([.list true t l],[],j)
 | .bR t,l,j=>if own then ([.mY (key j)],[(key j,.deep t l none)],j+1) else ([.list true t l],[],j)
 | .pair a b,x,j=>match aV own key a x.1 j with
  | (c,es,j)=>match aV own key b x.2 j with
   | (d,fs,j)=>(c++d,es++fs,j)
 | t,x,j=>(cellsOf true t x,[],j)
def mZ (s:St):List (Nat × Entry)->T St
 | []=>.ret s
 | (k,e) :: r=>(s.alloc k e).bind fun s=>mZ s r
def nT (own:Bool) (key:Nat->Nat):(t:Ty)->t.den->Nat->List aJ × List (Nat × Entry)
 | .pair a b,x,j=>match aV own key a x.1 j with
  | (c,es,j)=>match nT own key b x.2 j with
   | (d,fs)=>(bO a.isAgg c :: d,es++fs)
 | _,_,_=>([],[])
def jI (own one:Bool) (key:Nat->Nat) (t:Ty) (x:t.den):Slot × List (Nat × Entry):=
 if one then match aV own key t x 0 with
  | (c,es,_)=>(.one (bO t.isAgg c),es)
 else match nT own key t x 0 with
  | (cs,es)=>(.Dm cs,es)
def Na (C:dh) (s:St) (o:Oper) (f:FuncId) (vs:List aJ) (caps:List Cap):T St:=
 match C.P.funcs[f]?,o.dst with
 | some fn,dst=>
  let sig:=C.sig f
  match qF C s sig.io 0 fn.params.toList vs,(jT s caps).bind (·.mapM sK),resTy C fn.resultTypes.toList with
  | some args,some wo,some rt=>
   let key:=aI (dst.getD 0)
   if zB args || (jB s vs caps || C.EF.contains f) && !(sig.own && rt.cut) then .fail else .call f rt (C.xV f args++wo) fun r=>
    match jI sig.own (Nat.beq fn.resultTypes.size 1) key rt r with
    | (v,es)=>(mZ s es).bind fun s=>s.put dst v
  | _,_,_=>.fail
 | _,_=>.fail
def lC (σ:Nat->Option Entry):(t:Ty)->List Cell->Option (t.den × List Cell × List (Option Nat))
 | .list _,.nil :: r=>some ([],r,[none])
 | .list t,.ref id :: r=>match σ id with
  | some (.arr _ l o)=>if o=.frozen then none else (fM l).map fun l=>(l,r,[some id])
  | _=>none
 | .list _,_=>none
 | .bR _,.nil :: r=>some ([],r,[none])
 | .bR t,.mY id :: r=>match σ id with
  | some (.deep _ l _)=>(fM l).map fun l=>(l,r,[some id])
  | _=>none
 | .bR _,_=>none
 | .pair a b,cs=>match lC σ a cs with
  | some (x,r,ids)=>(match lC σ b r with
   | some (y,r',qE)=>some ((x,y),r',ids++qE)
   | none=>none)
  | none=>none
 | t,cs=>(aF σ .look t cs).map fun x=>(x.1,x.2.1,[])
def qo (v:aJ):List Nat->aJ
 | []=>v
 | id :: r=>qo (v.kill id) r
def setRows:(T:Ty)->T.rows.den->List (Option Nat)->St->Option (St × List (Option Nat))
 | .list _,_,none :: r,s=>some (s,r)
 | .list t,l,some id :: r,s=>match s.ak id with
  | some (.arr u _ o)=>if h:t=u then some ({ s with ak:=upd s.ak id (some (.arr u (h ▸ l) o)) },r) else none
  | _=>none
 | .list _,_,[],_=>none
 | .bR _,_,none :: r,s=>some (s,r)
 | .bR t,l,some id :: r,s=>match s.ak id with
  | some (.deep u _ p)=>if h:t=u then some ({ s with ak:=upd s.ak id (some (.deep u (h ▸ l) p)) },r) else none
  | _=>none
 | .bR _,_,[],_=>none
 | .pair a b,x,ids,s=>match setRows a x.1 ids s with
  | some (s,r)=>setRows b x.2 r s
  | none=>none
 | .bool,_,ids,s=>some (s,ids)
 | .int _,_,ids,s=>some (s,ids)
 | .str,_,ids,s=>some (s,ids)
 | .unit,_,ids,s=>some (s,ids)
def kX (C:dh) (s:St) (i:Nat) (a:Arg):Nat->List TypeId->List aJ->Option (List Arg)
 | _,_,[]=>some []
 | n,t :: ts,v :: vs=>match bif Nat.beq n i then some a else nS C s t v,kX C s i a (n+1) ts vs with
  | some a,some r=>some (a :: r)
  | _,_=>none
 | _,[],_ :: _=>none
def rE (C:dh) (s:St) (o:Oper) (f:FuncId) (vs:List aJ) (caps:List Cap) (i:Nat):T St:=
 match C.P.funcs[f]?,vs[i]? with
 | some fn,some v=>match (fn.params.toList[i]?).bind C.ty with
  | some T=>if v.known && Du T v then match bG s.ak .give T v.cells with
   | some (x,ids)=>bif nodup ids then
    match kX C (s.bL ids) i (.give T x) 0 fn.params.toList (vs.map (qo · ids)),(jT (s.bL ids) caps).bind (·.mapM sK),resTy C fn.resultTypes.toList with
    | some args,some wo,some rt=>if jB (s.bL ids) (vs.map (qo · ids)) caps then .fail else .call f rt (args++wo) fun r=>
     match jI (C.sig f).own (Nat.beq fn.resultTypes.size 1) (aI (o.dst.getD 0)) rt r with
     | (v,es)=>(mZ (s.bL ids) es).bind fun s=>s.put o.dst v
    | _,_,_=>.fail
    else .fail
   | none=>.fail
   else .fail
  | none=>.fail
 | _,_=>.fail
def zO (C:dh) (s:St) (o:Oper) (f:FuncId) (vs:List aJ) (caps:List Cap) (i:Nat):T St:=
 match C.P.funcs[f]?,vs[i]? with
 | some fn,some v=>match (fn.params.toList[i]?).bind C.ty with
  | some T=>if v.known && Du T v then match lC s.ak T v.cells with
   | some (x,[],ids)=>bif nodup (ids.filterMap id) then
    match kX C (s.bL (ids.filterMap id)) i (.lend T x) 0 fn.params.toList (vs.map (qo · (ids.filterMap id))),(jT (s.bL (ids.filterMap id)) caps).bind (·.mapM sK),resTy C fn.resultTypes.toList with
    | some args,some wo,some rt=>if jB (s.bL (ids.filterMap id)) (vs.map (qo · (ids.filterMap id))) caps then .fail else .call f (.pair rt T.rows) (args++wo) fun r=>match setRows T r.2 ids s with
     | some (s2,[])=>match jI (C.sig f).own (Nat.beq fn.resultTypes.size 1) (aI (o.dst.getD 0)) rt r.1 with
      | (v,es)=>(mZ s2 es).bind fun s=>s.put o.dst v
     | _=>.fail
    | _,_,_=>.fail
    else .fail
   | _=>.fail
   else .fail
  | none=>.fail
 | _,_=>.fail
def qw (C:dh) (s:St) (o:Oper) (f:FuncId) (vs:List aJ) (caps:List Cap) (i id:Nat):T St:=
 match C.P.funcs[f]?,s.ak id with
 | some fn,some (.box (some T) cs)=>match bG s.ak (bif T.ob then .give else .keep) T cs with
  | some (x,ids)=>bif nodup ids && (T.ob || ids.isEmpty) then
   match kX C ((s.bL ids).forget id) i (.iF T x) 0 fn.params.toList (vs.map fun v=>(qo v ids).forget id),(jT ((s.bL ids).forget id) caps).bind (·.mapM sK),resTy C fn.resultTypes.toList with
   | some args,some wo,some rt=>if jB ((s.bL ids).forget id) (vs.map fun v=>(qo v ids).forget id) caps then .fail else .call f (.pair rt T) (args++wo) fun r=>
    match aV T.ob (Ot id) T r.2 0,jI true (Nat.beq fn.resultTypes.size 1) (aI (o.dst.getD 0)) rt r.1 with
    | (bc,es2,_),(v,es)=>(mZ { s.bL ids with ak:=upd (s.bL ids).ak id (some (.box none (List.replicate T.sz .undef))) } (es2++es)).bind fun s=>St.put { s with ak:=upd s.ak id (some (.box (some T) bc)) } o.dst v
   | _,_,_=>.fail
   else .fail
  | none=>.fail
 | _,_=>.fail
def _root_.Go.Oper.LG (o:Oper) (C:dh):Bool:=match o.op with
 | .call c=>c.argTypes.toList.any (C.ptrs.contains ·)
 | _=>false
def QO (C:dh) (s:St) (o:Oper) (f:FuncId) (vs:List aJ):T St:=
 match C.P.funcs[f]?,o.dst with
 | some fn,some d=>match qF C s [] 0 fn.params.toList vs with
  | some args=>if zB args || jB s vs [] then .fail else .call f (C.sig f).made args fun r=>
   match aV false (aI d) (C.sig f).made r 0 with
   | (cs,_,_)=>(s.alloc (aI d 0) (.box (some (C.sig f).made) cs)).bind fun s=>s.put (some d) (.cell (.ptr (aI d 0) 0))
  | none=>.fail
 | _,_=>.fail
def Iu (C:dh) (s:St) (o:Oper) (g:Operand) (f:FuncId) (vs:List aJ) (caps:List Cap):T St:=
 match (C.sig f).lend with
 | some i=>bif (C.sig f).yK then (match g,caps with
   | .func _,[]=>QO C s o f vs
   | _,_=>.fail) else (match vs[i]? with
  | some (.cell (.ptr id 0))=>(match g with
   | .func _=>qw C s o f vs caps i id
   | _=>bif o.LG C then qw C s o f vs caps i id else .fail)
  | _=>(match g with
   | .func _=>zO C s o f vs caps i
   | _=>.fail))
 | none=>match (C.sig f).io with
 | []=>Na C s o f vs caps
 | i :: _=>match g with
  | .func _=>rE C s o f vs caps i
  | _=>.fail
def dY (s:St):List Operand->Option (List aJ)
 | []=>some []
 | x :: r=>match s.ev x,dY s r with
  | .one c,some r=>some (c :: r)
  | _,_=>none
def sM (s:St):Option Operand->T (Option Int)
 | none=>.ret none
 | some x=>(s.int x).bind fun (_,n)=>.ret (some n)
def gM (C:dh) (s:St) (t:TypeId):List (Nat × Operand)->List Cell->Option (List Cell)
 | [],cs=>some cs
 | (i,x) :: r,cs=>match C.fieldAt t i,s.ev x with
  | some (off,u),.one v=>match C.shape u with
   | some (n,_)=>if v.known/\v.cells.length=n/\off+n<=cs.length then gM C s t r (splice cs off v.cells) else none
   | none=>none
  | _,_=>none
def dG (s:St) (t:Ty):List (Nat × Operand)->List t.den->List Nat->Option (List t.den × List Nat)
 | [],l,ids=>some (l,ids)
 | (i,x) :: r,l,ids=>match s.ev x with
  | .one v=>match bG s.ak .keep t v.cells with
   | some (y,js)=>if v.known/\i<l.length then dG s t r (l.set i y) (ids++js) else none
   | none=>none
  | _=>none
def EG (C:dh) (s:St) (dst:Option Tmp) (t:TypeId) (n:Nat) (parts:List (Nat × Operand)):T St:=match C.elem t,dst with
 | some (_,u),some d=>if n*u.sz<=16777216 then (match dG s u parts (List.replicate n u.dflt) [] with
  | some (l,[])=>s.put (some d) (.cell (.list true u l))
  | _=>.fail) else .fail
 | _,_=>.fail
def capOf:aJ->Option Cap
 | .cell (.ptr id 0)=>some (.ptr id)
 | .cell (.ru _ t x 0)=>some (.ro t x)
 | _=>none
def St.append (s:St) (C:dh) (e:TypeId) (u:Ty) (d:Tmp) (a:Cell) (lb:List u.den):T St:=
 match a with
 | .nil=>.test (lb.length*C.bytes e<=fF) ((s.alloc (aI d 0) (.arr u lb .open)).bind fun s=>s.put (some d) (.cell (.ref (aI d 0)))) .fail
 | .ref id=>match s.ak id with
  | some (.arr v l .open)=>match fM (u:=u) l with
   | some l=>.test ((l.length+lb.length)*C.bytes e<=fF) (({ s.kill id with ak:=upd (s.kill id).ak id (some (.arr u (l++lb) .open)) }).put (some d) (.cell (.ref id))) .fail
   | none=>.fail
  | _=>.fail
 | .sub id off n=>match s.ak id with
  | some (.arr v l .open)=>match fM (u:=u) l with
   | some l=>.test ((n+lb.length)*C.bytes e<=fF) (({ s.kill id with ak:=upd (s.kill id).ak id (some (.arr u ((l.drop off).take n++lb) .open)) }).put (some d) (.cell (.ref id))) .fail
   | none=>.fail
  | _=>.fail
 | _=>.fail
def mK (C:dh) (o:Oper) (s:St):T (St):=
 match o.op with
 | .move x | .assign x=>
  match s.ev x with
  | .one (.cell .nil)=>match C.QJ o.type with
   | some _=>s.put o.dst (.cell .nil)
   | none=>match C.elem o.type,o.dst with
    | some (_,t),some d=>(s.alloc (aI d 0) (.arr t [] .open)).bind fun s=>s.put o.dst (.cell (.ref (aI d 0)))
    | _,_=>s.put o.dst (.cell .nil)
  | v=>s.put o.dst v
 | .pick c a b=>match s.ev c with
  | .one (.cell (.bool true))=>s.put o.dst (s.ev a)
  | .one (.cell (.bool false))=>s.put o.dst (s.ev b)
  | .one (.cell (.prop p d))=>.br p d (s.put o.dst (s.ev a)) (s.put o.dst (s.ev b))
  | _=>.fail
 | .alloc t=>match assoc C.tt t,o.dst with
  | some ty,some d=>(s.alloc (aI d 0) (.box ty (AV ty))).bind fun s=>s.put o.dst (.cell (.ptr (aI d 0) 0))
  | _,_=>.fail
 | .box t x=>match assoc C.tt t,o.dst,s.ev x with
  | some ty,some d,.one v=>if v.known && v.cells.length=UZ ty then
    (s.alloc (aI d 0) (.box ty v.cells)).bind fun s=>s.put o.dst (.cell (.ptr (aI d 0) 0)) else .fail
  | _,_,_=>.fail
 | .build t parts=>match C.ty t with
  | some u=>if u.isAgg then (match gM C s t parts.toList (zeroCells u) with
   | some cs=>s.put o.dst (.one (.agg cs))
   | none=>.fail) else .fail
  | none=>.fail
 | .buildSlice t n parts=>bif C.UY o.dst t then EG C s o.dst t n parts.toList else match C.QJ t with
  | some _=>.fail
  | none=>match C.elem t,o.dst with
  | some (_,u),some d=>if n*u.sz<=16777216 then (match dG s u parts.toList (List.replicate n u.dflt) [] with
   | some (l,ids)=>({ s with ak:=cO s.ak ids }.alloc (aI d 0) (.arr u l .open)).bind fun s=>s.put o.dst (.cell (.ref (aI d 0)))
   | none=>.fail) else .fail
  | _,_=>.fail
 | .load t x=>bif C.take o.dst t then .fail else match C.shape t,s.ev x with
  | some (n,agg),.one (.cell p)=>(s.iY n agg p).bind fun v=>s.put o.dst (.one v)
  | _,_=>.fail
 | .store t p x=>match C.shape t,s.ev p,s.ev x with
  | some (n,_),.one (.cell p),.one v=>if v.known then (s.store (C.gives.contains t) n v.cells p).bind fun s=>s.put o.dst .undef else .fail
  | _,_,_=>.fail
 | .nilCheck x=>match s.ev x with
  | .one (.cell (.ptr id off))=>s.put o.dst (.cell (.ptr id off))
  | .one (.cell (.mJ id i off))=>s.put o.dst (.cell (.mJ id i off))
  | .one (.cell (.ru fr t x off))=>s.put o.dst (.cell (.ru fr t x off))
  | .one (.cell (.oI id i off))=>s.put o.dst (.cell (.oI id i off))
  | _=>.fail
 | .binOp op t x y _=>(s.comp x).bind fun a=>(s.comp y).bind fun b=>(binOp (C.ty t) op a b).bind fun c=>s.put o.dst (.cell c)
 | .unOp op _ x=>(s.comp x).bind fun a=>(unOp op a).bind fun c=>s.put o.dst (.cell c)
 | .convert src dst x=>match C.P.underlying src,C.P.underlying dst,s.ev x with
  | some _,some (.int k),.one (.cell (.int _ n))=>s.put o.dst (.cell (.int k (k.wrap n)))
  | some _,some .string,.one (.cell (.str b))=>s.put o.dst (.cell (.str b))
  | some (.slice e),some .string,.one (.cell c)=>if C.ty e=some (.int .u8) then (s.look (.int .u8) c).bind fun l=>s.put o.dst (.cell (.str (ofBytes l))) else .fail
  | _,_,_=>.fail
 | .makeSlice t l c=>match C.elem t,o.dst with
  | some (e,u),some d=>if C.wU e then (s.int l).bind fun (_,l)=>(s.int c).bind fun (_,c)=>
    .test (0<=l) (.test (l<=c) (.test (c*(C.bytes e:Int)<=fF)
     (bif (C.QJ t).isSome then .fail
     else (s.alloc (aI d 0) (.arr u (List.replicate l.toNat u.dflt) .open)).bind fun s=>s.put o.dst (.cell (.ref (aI d 0)))) .fail) .fail) .fail else .fail
  | _,_=>.fail
 | .slice t x lo hi none=>match C.P.underlying t,s.ev x with
  | some .string,.one (.cell (.str b))=>(sM s lo).bind fun lo=>(sM s hi).bind fun hi=>(Dt b lo hi).bind fun c=>s.put o.dst (.cell c)
  | some (.slice e),.one (.cell c)=>match C.ty e with
   | some u=>(sM s lo).bind fun lo=>(sM s hi).bind fun hi=>(kS s u lo hi c).bind fun c=>s.put o.dst (.cell c)
   | none=>.fail
  | _,_=>.fail
 | .fieldAddr t x i=>match C.placeOf t i,s.ev x with
  | some off,.one (.cell (.ptr id o'))=>s.put o.dst (.cell (.ptr id (o'+off)))
  | some off,.one (.cell (.mJ id j o'))=>s.put o.dst (.cell (.mJ id j (o'+off)))
  | some off,.one (.cell (.ru fr u y o'))=>s.put o.dst (.cell (.ru fr u y (o'+off)))
  | some off,.one (.cell (.oI id j o'))=>s.put o.dst (.cell (.oI id j (o'+off)))
  | _,_=>.fail
 | .field t x i=>match C.fieldAt t i,s.ev x with
  | some (off,u),.one (.agg cs)=>match C.shape u with
   | some (n,agg)=>if off+n<=cs.length then s.put o.dst (.one (bO agg ((cs.drop off).take n))) else .fail
   | none=>.fail
  | _,_=>.fail
 | .indexAddr t x ix=>(s.int ix).bind fun (_,i)=>match C.elem t,s.ev x with
  | some (_,u),.one (.cell c)=>(oJ s u i c).bind fun c=>s.put o.dst (.cell c)
  | _,_=>.fail
 | .index t x ix=>(s.int ix).bind fun (_,i)=>match C.P.underlying t,s.ev x with
  | some .string,.one (.cell (.str b))=>.test (0<=i) (.test (i<(b.size:Int)) (s.put o.dst (.cell (.int .u8 (bt b i)))) .fail) .fail
  | _,_=>.fail
 | .makeFunc (.func f) first captured=>if first.size=0 then match (dY s captured.toList).bind (·.mapM capOf) with
   | some caps=>s.put o.dst (.cell (.nL f caps))
   | none=>.fail
  else .fail
 | .extract x i=>match s.ev x with
  | .Dm cs=>match cs[i]? with
   | some c=>s.put o.dst (.one c)
   | none=>.fail
  | _=>.fail
 | .call { callee:=.value g,args,.. }=>match s.ev g,dY s args.toList with
  | .one (.cell (.nL f caps)),some vs=>Iu C s o g f vs caps
  | _,_=>.fail
 | .call { callee:=.builtin .len,args,argTypes }=>match args.toList,(argTypes[0]?).bind C.P.underlying with
  | [x],some d=>match s.ev x with
   | .one (.cell c)=>(s.len d c).bind fun n=>s.put o.dst (.cell (.int .i64 n))
   | _=>.fail
  | _,_=>.fail
 | .call { callee:=.builtin .append,args,argTypes }=>match args.toList,argTypes.toList,o.dst with
  | [x,y],[t,ty],some d=>match s.ev x,s.ev y,C.elem t,C.P.underlying ty with
   | .one (.cell a),.one (.cell b),some (e,u),some ds=>if C.wU e then (bif (C.QJ t).isSome then .fail else (s.Dq ds u b).bind fun lb=>s.append C e u d a lb) else .fail
   | _,_,_,_=>.fail
  | _,_,_=>.fail
 | .call { callee:=.builtin .clear,args,argTypes }=>match args.toList,(argTypes[0]?).bind C.elem with
  | [x],some (_,u)=>match s.ev x with
   | .one (.cell (.sub id off n))=>match s.ak id with
    | some (.arr v l o')=>if o'=.frozen then .fail else if v=u then ({ s with ak:=upd s.ak id (some (.arr v (l.take off++List.replicate n v.dflt++l.drop (off+n)) o')) }).put o.dst .undef else .fail
    | _=>.fail
   | _=>.fail
  | _,_=>.fail
 | .call { callee:=.builtin .min,args,.. }=>match args.toList.map s.ev with
  | .one (.cell (.int k a)) :: r=>mm min k a r s
  | _=>.fail
 | .call { callee:=.builtin .max,args,.. }=>match args.toList.map s.ev with
  | .one (.cell (.int k a)) :: r=>mm max k a r s
  | _=>.fail
 | _=>.fail
where mm (g:Int->Int->Int) (k:IntKind) (a:Int):List Slot->St->T St
 | [],s=>s.put o.dst (.cell (.int k a))
 | .one (.cell (.int k' b)) :: r,s=>if k'=k then mm g k (g a b) r s else .fail
 | _,_=>.fail
def kY (ops:List Oper) (j:Nat):Option Tmp:=(ops[j]?).bind (·.dst)
def jU (ops:List Oper) (i:Nat):Bool:=ops.any fun o=>match o.guard with
 | some (j,_)=>Nat.beq j i
 | none=>false
def iE (s:St) (d:Option Tmp):T St:=
 match d with
 | some d=>match s.env d with
  | .one (.cell (.prop p dec))=>.br p dec (.ret { s with env:=upd s.env d (.cell (.bool true)) }) (.ret { s with env:=upd s.env d (.cell (.bool false)) })
  | _=>.ret s
 | none=>.ret s
def stepT (C:dh) (ops:List Oper) (i:Nat) (o:Oper) (s:St):T St:=
 let go:T St:=(mK C o s).bind fun s=>bif jU ops i then iE s o.dst else .ret s
 match o.guard with
 | none=>go
 | some (j,want)=>match kY ops j with
  | some d=>match s.env d with
   | .one (.cell (.bool b))=>bif b == want then go else s.put o.dst (.cell .void)
   | .one (.cell .void)=>s.put o.dst (.cell .void)
   | _=>.fail
  | none=>.fail
def EH (C:dh) (ops:List Oper):List (Oper × Nat)->St->T St
 | [],s=>.ret s
 | (o,i) :: r,s=>(stepT C ops i o s).bind (EH C ops r)
def mmV (g:Int->Int->Int) (k:IntKind) (a:Int):List Slot->T (Slot × List (Nat × Entry))
 | []=>.ret (.cell (.int k a),[])
 | .one (.cell (.int k' b)) :: r=>if k'=k then mmV g k (g a b) r else .fail
 | _=>.fail
def zP (C:dh) (s:St) (d:Tmp) (f:FuncId) (vs:List aJ) (caps:List Cap):T (Slot × List (Nat × Entry)):=
 match C.P.funcs[f]? with
 | some fn=>match qF C s (C.sig f).io 0 fn.params.toList vs,(jT s caps).bind (·.mapM sK),resTy C fn.resultTypes.toList with
  | some args,some wo,some rt=>if zB args || (jB s vs caps || C.EF.contains f) && !((C.sig f).own && rt.cut) then .fail else .call f rt (C.xV f args++wo) fun r=>.ret (jI (C.sig f).own (Nat.beq fn.resultTypes.size 1) (aI d) rt r)
  | _,_,_=>.fail
 | none=>.fail
def Iw (C:dh) (s:St) (d:Tmp) (f:FuncId) (vs:List aJ) (caps:List Cap):T (Slot × List (Nat × Entry)):=
 match (C.sig f).lend with
 | some _=>.fail
 | none=>match (C.sig f).io with
 | []=>zP C s d f vs caps
 | _=>.fail
def dB (C:dh) (o:Oper) (s:St):T (Slot × List (Nat × Entry)):=
 match o.op with
 | .move x | .assign x=>match s.ev x with
  | .one (.cell .nil)=>match C.QJ o.type with
   | some _=>.ret (.cell .nil,[])
   | none=>match C.elem o.type,o.dst with
    | some (_,t),some d=>.ret (.cell (.ref (aI d 0)),[(aI d 0,.arr t [] .open)])
    | _,_=>.ret (.cell .nil,[])
  | v=>.ret (v,[])
 | .pick c a b=>match s.ev c with
  | .one (.cell (.bool true))=>.ret (s.ev a,[])
  | .one (.cell (.bool false))=>.ret (s.ev b,[])
  | .one (.cell (.prop p d))=>.br p d (.ret (s.ev a,[])) (.ret (s.ev b,[]))
  | _=>.fail
 | .load t x=>match C.shape t,s.ev x with
  | some (n,agg),.one (.cell p)=>(s.iY n agg p).bind fun v=>.ret (.one v,[])
  | _,_=>.fail
 | .nilCheck x=>match s.ev x with
  | .one (.cell (.ptr id off))=>.ret (.cell (.ptr id off),[])
  | .one (.cell (.mJ id i off))=>.ret (.cell (.mJ id i off),[])
  | .one (.cell (.ru fr t x off))=>.ret (.cell (.ru fr t x off),[])
  | .one (.cell (.oI id i off))=>.ret (.cell (.oI id i off),[])
  | _=>.fail
 | .binOp op t x y _=>(s.comp x).bind fun a=>(s.comp y).bind fun b=>(binOp (C.ty t) op a b).bind fun c=>.ret (.cell c,[])
 | .unOp op _ x=>(s.comp x).bind fun a=>(unOp op a).bind fun c=>.ret (.cell c,[])
 | .convert src dst x=>match C.P.underlying src,C.P.underlying dst,s.ev x with
  | some _,some (.int k),.one (.cell (.int _ n))=>.ret (.cell (.int k (k.wrap n)),[])
  | some _,some .string,.one (.cell (.str b))=>.ret (.cell (.str b),[])
  | some (.slice e),some .string,.one (.cell c)=>if C.ty e=some (.int .u8) then (s.look (.int .u8) c).bind fun l=>.ret (.cell (.str (ofBytes l)),[]) else .fail
  | _,_,_=>.fail
 | .slice t x lo hi none=>match C.P.underlying t,s.ev x with
  | some .string,.one (.cell (.str b))=>(sM s lo).bind fun lo=>(sM s hi).bind fun hi=>(Dt b lo hi).bind fun c=>.ret (.cell c,[])
  | some (.slice e),.one (.cell c)=>match C.ty e with
   | some u=>(sM s lo).bind fun lo=>(sM s hi).bind fun hi=>(kS s u lo hi c).bind fun c=>.ret (.cell c,[])
   | none=>.fail
  | _,_=>.fail
 | .fieldAddr t x i=>match C.placeOf t i,s.ev x with
  | some off,.one (.cell (.ptr id o'))=>.ret (.cell (.ptr id (o'+off)),[])
  | some off,.one (.cell (.mJ id j o'))=>.ret (.cell (.mJ id j (o'+off)),[])
  | some off,.one (.cell (.ru fr u y o'))=>.ret (.cell (.ru fr u y (o'+off)),[])
  | some off,.one (.cell (.oI id j o'))=>.ret (.cell (.oI id j (o'+off)),[])
  | _,_=>.fail
 | .field t x i=>match C.fieldAt t i,s.ev x with
  | some (off,u),.one (.agg cs)=>match C.shape u with
   | some (n,agg)=>if off+n<=cs.length then .ret (.one (bO agg ((cs.drop off).take n)),[]) else .fail
   | none=>.fail
  | _,_=>.fail
 | .indexAddr t x ix=>(s.int ix).bind fun (_,i)=>match C.elem t,s.ev x with
  | some (_,u),.one (.cell c)=>(oJ s u i c).bind fun c=>.ret (.cell c,[])
  | _,_=>.fail
 | .index t x ix=>(s.int ix).bind fun (_,i)=>match C.P.underlying t,s.ev x with
  | some .string,.one (.cell (.str b))=>.test (0<=i) (.test (i<(b.size:Int)) (.ret (.cell (.int .u8 (bt b i)),[])) .fail) .fail
  | _,_=>.fail
 | .makeFunc (.func f) first captured=>if first.size=0 then match (dY s captured.toList).bind (·.mapM capOf) with
   | some caps=>.ret (.cell (.nL f caps),[])
   | none=>.fail
  else .fail
 | .extract x i=>match s.ev x with
  | .Dm cs=>match cs[i]? with
   | some c=>.ret (.one c,[])
   | none=>.fail
  | _=>.fail
 | .call { callee:=.value g,args,.. }=>match o.dst,s.ev g,dY s args.toList with
  | some d,.one (.cell (.nL f caps)),some vs=>Iw C s d f vs caps
  | _,_,_=>.fail
 | .call { callee:=.builtin .len,args,argTypes }=>match args.toList,(argTypes[0]?).bind C.P.underlying with
  | [x],some d=>match s.ev x with
   | .one (.cell c)=>(s.len d c).bind fun n=>.ret (.cell (.int .i64 n),[])
   | _=>.fail
  | _,_=>.fail
 | .call { callee:=.builtin .min,args,.. }=>match args.toList.map s.ev with
  | .one (.cell (.int k a)) :: r=>mmV min k a r
  | _=>.fail
 | .call { callee:=.builtin .max,args,.. }=>match args.toList.map s.ev with
  | .one (.cell (.int k a)) :: r=>mmV max k a r
  | _=>.fail
 | .build t parts=>match C.ty t with
  | some u=>if u.isAgg then (match gM C s t parts.toList (zeroCells u) with
   | some cs=>.ret (.one (.agg cs),[])
   | none=>.fail) else .fail
  | none=>.fail
 | .box t x=>match assoc C.tt t,o.dst,s.ev x with
  | some ty,some d,.one v=>if v.known && v.cells.length=UZ ty then .ret (.cell (.ptr (aI d 0) 0),[(aI d 0,.box ty v.cells)]) else .fail
  | _,_,_=>.fail
 | .alloc t=>match assoc C.tt t,o.dst with
  | some ty,some d=>.ret (.cell (.ptr (aI d 0) 0),[(aI d 0,.box ty (AV ty))])
  | _,_=>.fail
 | .buildSlice t n parts=>match C.elem t,o.dst with
  | some (_,u),some d=>if n*u.sz<=16777216 then (match dG s u parts.toList (List.replicate n u.dflt) [] with
   | some (l,[])=>bif C.UY o.dst t then .ret (.cell (.list true u l),[]) else .ret (.cell (.ref (aI d 0)),[(aI d 0,.arr u l .open)])
   | _=>.fail) else .fail
  | _,_=>.fail
 | .makeSlice t l c=>match C.elem t,o.dst with
  | some (e,u),some d=>if C.wU e then (s.int l).bind fun (_,l)=>(s.int c).bind fun (_,c)=>
    .test (0<=l) (.test (l<=c) (.test (c*(C.bytes e:Int)<=fF)
     (.ret (.cell (.ref (aI d 0)),[(aI d 0,.arr u (List.replicate l.toNat u.dflt) .open)])) .fail) .fail) .fail else .fail
  | _,_=>.fail
 | _=>.fail
def readsOf (ops:List Oper) (o:Oper):List Tmp:=
 (o.op.operands.toList.filterMap fun | .tmp t=>some t | _=>none)++(match o.guard with
  | some (j,_)=>(kY ops j).toList
  | none=>[])
def dw (C:dh) (o:Oper):Bool:=o.dst.isSome && match o.op with
 | .move _ | .assign _ | .pick .. | .nilCheck _ | .binOp .. | .unOp .. | .convert .. | .slice _ _ _ _ none | .fieldAddr .. | .field .. | .indexAddr .. | .index .. | .makeFunc (.func _) _ _ | .extract .. | .build .. | .box .. | .alloc _=>true
 | .load t _=>!C.take o.dst t
 | .makeSlice t _ _=>(C.QJ t).isNone
 | .buildSlice t _ _=>C.UY o.dst t || ((C.QJ t).isNone && match C.elem t with
  | some (_,u)=>u.plain
  | none=>false)
 | .call { callee:=.value (.func f),.. }=>(C.sig f).io.isEmpty && (C.sig f).lend.isNone
 | .call { callee:=.value _,.. }=>!o.LG C
 | .call { callee:=.builtin .len,.. } | .call { callee:=.builtin .min,.. } | .call { callee:=.builtin .max,.. }=>true
 | _=>false
def Vb (C:dh) (ops:List Oper) (a b:Oper):Bool:=
 dw C a && dw C b && (match a.dst,b.dst with
  | some x,some y=>!Nat.beq x y && !(readsOf ops b).contains x && !(readsOf ops a).contains y
  | _,_=>false)
def Iy (o:Oper):Bool:=match o.op with
 | .extract .. | .binOp .. | .unOp .. | .pick .. | .field .. | .nilCheck _ | .fieldAddr .. | .build ..=>true
 | _=>false
def jV (C:dh) (o:Oper):Bool:=o.dst.isNone && match o.op with
 | .store t _ _=>!C.gives.contains t
 | _=>false
def LH (C:dh) (ops:List Oper) (a b:Oper):Bool:=
 dw C a && Iy a && jV C b && (match a.dst with
  | some x=>!(readsOf ops b).contains x
  | none=>false)
def zQ (C:dh) (ops:List Oper) (a b:Oper):Bool:=Vb C ops a b || LH C ops a b || LH C ops b a
def jJ:List Oper->List Nat->List Nat
 | [],acc=>acc
 | o :: r,acc=>jJ r (acc++[o.after.toList.foldl (fun s e=>if Region.binds .any e then s ||| 2 ^ e.on ||| acc.getD e.on 0 else s) 0])
def Dv (cm:Oper->Oper->Bool) (b:Oper) (anc:Nat):List Oper->Nat->Bool
 | [],_=>true
 | a :: r,j=>(anc.testBit j || cm a b) && Dv cm b anc r (j+1)
def jm (cm:Oper->Oper->Bool) (ops:List Oper):List Oper->List Nat->Nat->Bool
 | o :: r,a :: as,i=>Dv cm o a (ops.take i) 0 && o.after.toList.all (fun e=>!Region.binds .any e || Nat.blt e.on i) && jm cm ops r as (i+1)
 | [],_,_=>true
 | _,_,_=>false
def QU (C:dh) (ops:List Oper):Bool:=jm (zQ C ops) ops ops (jJ ops []) 0
def QV:Slot->Slot->Bool
 | .one (.cell (.ptr i _)),.one (.cell (.ptr j _))=>!Nat.beq i j
 | .one (.cell (.ptr _ _)),.one (.cell (.mJ _ _ _))=>true
 | .one (.cell (.ptr _ _)),.one (.cell (.ru _ _ _ _))=>true
 | _,_=>false
def dstsOf (ops:List Oper):List Tmp:=ops.filterMap (·.dst)
def LJ (C:dh) (ops:List Oper) (s:St) (a b:Oper):Bool:=match a.op,a.dst,b.op,b.dst with
 | .load _ (.tmp p),some d,.store t (.tmp q) _,none=>dw C a && !C.gives.contains t && !(dstsOf ops).contains p && !(dstsOf ops).contains q && !(readsOf ops b).contains d && QV (s.env q) (s.env p)
 | _,_,_,_=>false
def SA (C:dh) (ops:List Oper) (s:St) (a b:Oper):Bool:=zQ C ops a b || LJ C ops s a b || LJ C ops s b a
def Hy (C:dh) (ops:List Oper) (s:St):Bool:=ops.all (fun o=>dw C o || jV C o) && jm (SA C ops s) ops ops (jJ ops []) 0
inductive Ex where
 | normal | exit (id:Nat) | ret
def Cell.ids:Cell->List Nat
 | .ref id | .sub id _ _ | .ptr id _ | .mJ id _ _ | .mY id | .oI id _ _ | .inn id _ _=>[id]
 | .nL _ caps=>caps.filterMap fun | .ptr id=>some id | _=>none
 | _=>[]
def aJ.ids (c:aJ):List Nat:=c.cells.flatMap Cell.ids
def Slot.ids:Slot->List Nat
 | .one c=>c.ids
 | .Dm cs=>cs.flatMap aJ.ids
def Entry.mP:Entry->Bool
 | .box _ cs=>cs.all fun c=>c.ids.isEmpty
 | .arr _ _ _=>true
 | .deep _ _ n=>n.isNone
def ko (o:Oper):Option (Tmp × Tmp × Tmp):=match o.op,o.dst with
 | .call { callee:=.builtin .append,args,.. },some d=>match args.toList with
  | [.tmp x,.tmp y]=>some (x,y,d)
  | _=>none
 | _,_=>none
def xE (C:dh) (o:Oper):Bool:=match o.op with
 | .move _ | .assign _ | .fieldAddr .. | .indexAddr .. | .load .. | .slice _ _ _ _ none | .build .. | .binOp .. | .buildSlice ..=>true
 | .call { callee:=.value (.func f),.. }=>match C.P.funcs[f]? with
  | some fn=>Nat.beq fn.resultTypes.size 1 && (match resTy C fn.resultTypes.toList with
   | some (.list _)=>true
   | some (.bR _)=>true
   | some t=>t.plain
   | none=>false)
  | none=>false
 | _=>false
structure Dr where
 xt:List Tmp
 R:List Tmp
 K:List Nat
 U:List Nat
def Vd (a b:List Nat):Bool:=a.all fun x=>!b.contains x
def subs (a b:List Nat):Bool:=a.all fun x=>b.contains x
def Zh (xt:List Tmp) (o:Oper):List Tmp:=match o.dst with
 | some x=>bif xt.contains x then (match o.op with
   | .move (.tmp y) | .assign (.tmp y)=>y :: xt
   | _=>match ko o with
    | some (t,_,_)=>t :: xt
    | none=>xt) else xt
 | none=>xt
def Zi (ops:List Oper) (dq:List Tmp) (o:Oper):List Tmp:=match o.dst with
 | some x=>bif (ko o).isSome || (readsOf ops o).any (fun t=>dq.contains t) then x :: dq else dq
 | none=>dq
def ab1 (ops:List Oper) (s:St):Dr:=
 let xt:=(ops.reverse++ops.reverse).foldl Zh (ops.filterMap fun o=>(ko o).map (·.1))
 let dq:=ops.foldl (Zi ops) xt
 let R:=((ops.filter fun o=>o.dst.isSome && (ko o).isNone).flatMap (readsOf ops)).filter fun t=>!dq.contains t
 { xt,R,K:=xt.flatMap fun t=>aI t 0 :: (s.env t).ids,U:=(R.flatMap fun t=>(s.env t).ids)++((dstsOf ops).filter fun t=>R.contains t).map fun t=>aI t 0 }
def jW (C:dh) (o:Oper):Bool:=match o.op with
 | .call { argTypes,.. }=>((argTypes[0]?).bind C.QJ).isNone
 | _=>false
def LK (C:dh) (ops:List Oper) (D:Dr) (s:St) (o:Oper):Bool:=o.guard.isNone && match o.dst with
 | some x=>match ko o with
  | some (t,_,_)=>jW C o && !D.R.contains x && D.xt.contains t && (!D.xt.contains x || D.K.contains (aI x 0))
  | none=>dw C o && (!D.R.contains x || (xE C o && subs (readsOf ops o) D.R && D.U.contains (aI x 0))) &&
   (!D.xt.contains x || (match o.op with
    | .move (.tmp y) | .assign (.tmp y)=>D.xt.contains y && D.K.contains (aI x 0)
    | .buildSlice ..=>D.K.contains (aI x 0)
    | .call { callee:=.value (.func _),.. }=>xE C o && D.K.contains (aI x 0)
    | _=>false))
 | none=>jV C o && match o.op with
  | .store _ (.tmp q) _=>!(dstsOf ops).contains q && Vd (s.env q).ids D.U
  | _=>false
def Iz (D:Dr) (s:St):Bool:=
 Vd D.K D.U && D.R.all (fun r=>subs (s.env r).ids D.U && (s.env r).ids.all fun i=>match s.ak i with
  | some e=>e.mP
  | none=>true) && D.xt.all (fun t=>subs (s.env t).ids D.K)
def LM (C:dh) (ops:List Oper) (D:Dr) (a b:Oper):Bool:=match a.dst,ko b with
 | some x,some (_,_,d)=>dw C a && xE C a && !(readsOf ops b).contains x && !Nat.beq x d && !(readsOf ops a).contains d && subs (readsOf ops a) D.R
 | _,_=>false
def Ve (C:dh) (ops:List Oper) (D:Dr) (a b:Oper):Bool:=zQ C ops a b || LM C ops D a b || LM C ops D b a
def xY (ops:List Oper) (i:Nat):Bool:=(match (jJ ops [])[i]? with
 | some m=>(List.range i).all fun k=>m.testBit k
 | none=>false) && (match ops[i]? with
 | some o=>o.guard.isNone && (ko o).isNone
 | none=>false)
def tails (ops:List Oper) (j:Nat):Bool:=(List.range ops.length).all fun i=>Nat.blt i j || xY ops i
def Hz (C:dh) (ops:List Oper) (s:St):Bool:=let D:=ab1 ((ops.zipIdx.filter fun x=>!tails ops x.2).map (·.1)) s
 ops.zipIdx.all (fun x=>tails ops x.2 || LK C ops D s x.1) && Iz D s && jm (Ve C ops D) ops ops (jJ ops []) 0
def fK:Slot->Bool
 | .one (.cell (.ptr _ _))=>true
 | _=>false
def LP (C:dh) (ops:List Oper) (s0:St) (a b:Oper):Bool:=match a.op,a.dst,ko b with
 | .move (.tmp z),some x,some (_,_,d)=>jW C b && fK (s0.env z) && !(dstsOf ops).contains z && !(readsOf ops b).contains x && !Nat.beq x d
 | _,_,_=>false
def uO (C:dh) (o:Oper):Option Tmp:=match o.op,o.dst with
 | .call { callee:=.value (.func f),.. },some d=>if ((C.sig f).lend.isNone && !(C.sig f).io.isEmpty)=true then some d else none
 | _,_=>none
def LQ (C:dh) (ops:List Oper) (s0:St) (a b:Oper):Bool:=match a.op,a.dst,uO C b with
 | .move (.tmp z),some x,some d=>fK (s0.env z) && !(dstsOf ops).contains z && !(readsOf ops b).contains x && !Nat.beq x d
 | _,_,_=>false
def Vf (C:dh) (ops:List Oper) (s0:St) (a b:Oper):Bool:=zQ C ops a b || LP C ops s0 a b || LP C ops s0 b a || LQ C ops s0 a b || LQ C ops s0 b a
def HV (C:dh) (ops:List Oper) (s:St):Bool:=
 ops.all (fun o=>o.guard.isNone && (dw C o || jV C o || ((ko o).isSome && jW C o) || (uO C o).isSome)) && jm (Vf C ops s) ops ops (jJ ops []) 0
def BO (C:dh) (o:Oper):Option (Tmp × Tmp):=match o.op,o.dst with
 | .call { callee:=.value (.func f),args,.. },some d=>match (C.sig f).lend,C.P.funcs[f]? with
  | some i,some fn=>match args.toList[i]? with
   | some (.tmp t)=>bif (C.sig f).yK || ((fn.params.toList[i]?).bind C.ty).isSome then none else some (d,t)
   | _=>none
  | _,_=>none
 | _,_=>none
def IB (s0:St) (bad:Option Nat):Slot->Bool
 | .one (.cell (.ptr id 0))=>(match s0.ak id with
  | some (.box (some T) _)=>!T.ob
  | _=>false) && !(bad == some id)
 | .one (.cell .undef)=>true
 | _=>false
def uP (ops:List Oper) (s0:St) (bad:Option Nat) (t:Tmp):Bool:=IB s0 bad (s0.env t) && ops.all fun o=>!(o.dst == some t) || (match o.op with
 | .move (.tmp z)=>!(dstsOf ops).contains z && fK (s0.env z) && IB s0 bad (s0.env z)
 | _=>false)
def FU (C:dh) (ops:List Oper) (s0:St) (a b:Oper):Bool:=match a.op,a.dst,BO C b with
 | .move (.tmp z),some x,some (d,t)=>fK (s0.env z) && !(dstsOf ops).contains z && !(readsOf ops b).contains x && !Nat.beq x d && uP ops s0 none t
 | .load _ (.tmp z),some x,some (d,t)=>dw C a && !(dstsOf ops).contains z && !(readsOf ops b).contains x && !Nat.beq x d && (match s0.env z with
  | .one (.cell (.ptr id _))=>uP ops s0 (some id) t
  | _=>false)
 | _,_,_=>false
def Vg (C:dh) (ops:List Oper) (s0:St) (a b:Oper):Bool:=zQ C ops a b || FU C ops s0 a b || FU C ops s0 b a
def HY (C:dh) (ops:List Oper) (s:St):Bool:=
 ops.zipIdx.all (fun x=>tails ops x.2 || (x.1.guard.isNone && (dw C x.1 || jV C x.1 || (match BO C x.1 with
  | some (_,t)=>uP ops s none t
  | none=>false)))) && ops.all (fun o=>o.guard.isNone) && jm (Vg C ops s) ops ops (jJ ops []) 0
def Dw (C:dh) (ops:List Oper) (s:St):Bool:=false
def IC (C:dh) (ops:List Oper) (s0:St) (p:Tmp):Option (Nat × Nat):=bif (dstsOf ops).contains p then (match s0.env p,ops.filter (fun o=>o.dst == some p) with
  | .one (.cell .undef),[o]=>(match o.op with
   | .fieldAddr t (.tmp b) i=>bif (dstsOf ops).contains b then none else (match C.placeOf t i,s0.env b with
    | some off,.one (.cell (.ptr id o'))=>some (id,o'+off)
    | _,_=>none)
   | _=>none)
  | _,_=>none)
 else (match s0.env p with
  | .one (.cell (.ptr id off))=>some (id,off)
  | _=>none)
def wu (C:dh) (ops:List Oper) (s0:St) (o:Oper):Option (List Nat):=match o.op with
 | .load t (.tmp p)=>(match C.shape t,IC C ops s0 p with
  | some (n,_),some (id,off)=>(match s0.ak id with
   | some (.box _ cs)=>some (((cs.drop off).take n).flatMap Cell.ids)
   | _=>none)
  | _,_=>none)
 | _=>none
def yL (C:dh) (ops:List Oper) (s0:St) (t:Tmp):Option (List Nat):=match s0.env t,ops.filter (fun o=>o.dst == some t) with
 | .one (.cell .undef),[o]=>wu C ops s0 o
 | _,_=>none
def Nb (C:dh) (ops:List Oper) (s0:St) (a b:Oper):Bool:=match a.dst,ko b with
 | some x,some (t,_,d)=>dw C a && jW C b && !(readsOf ops b).contains x && !Nat.beq x d && !(readsOf ops a).contains d && (match a.op with
  | .fieldAddr _ (.tmp z) _=>!(dstsOf ops).contains z && fK (s0.env z)
  | .load _ _=>(match wu C ops s0 a,yL C ops s0 t with
   | some x,some y=>Vd x y
   | _,_=>false)
  | _=>xE C a && (readsOf ops a).all (fun r=>yL C ops s0 r == some []))
 | _,_=>false
def Vh (C:dh) (ops:List Oper) (s0:St) (a b:Oper):Bool:=zQ C ops a b || Nb C ops s0 a b || Nb C ops s0 b a
def IE (C:dh) (ops:List Oper) (s:St):Bool:=
 ops.zipIdx.all (fun x=>tails ops x.2 || dw C x.1 || ((ko x.1).isSome && jW C x.1)) && ops.all (fun o=>o.guard.isNone) && jm (Vh C ops s) ops ops (jJ ops []) 0
def Dx (C:dh) (ops:List Oper) (s:St):Bool:=IE C ops s
def Cm (acc:List Nat):List Nat->List Nat
 | []=>acc
 | x :: r=>if acc.contains x then Cm acc r else Cm (acc++[x]) r
def reach (σ:Nat->Option Entry):Nat->Nat->List Nat->List Nat
 | 0,_,acc=>acc
 | n+1,p,acc=>match acc[p]? with
  | none=>acc
  | some id=>match σ id with
   | some (.box _ cs)=>reach σ n (p+1) (Cm acc (cs.flatMap Cell.ids))
   | _=>reach σ n (p+1) acc
def posOf:List Nat->Nat->Nat->Option Nat
 | [],_,_=>none
 | x :: r,id,p=>bif Nat.beq x id then some p else posOf r id (p+1)
def FV (order:List Nat) (id:Nat):Option Nat:=(posOf order id 0).map jA
def rF (r:Nat->Option Nat):List Cap->Option (List Cap)
 | []=>some []
 | .ro t x :: cs=>(rF r cs).map (.ro t x :: ·)
 | .ptr id :: cs=>match r id,rF r cs with
  | some id,some cs=>some (.ptr id :: cs)
  | _,_=>none
def Cell.ren (r:Nat->Option Nat):Cell->Cell
 | .ref id=>match r id with
  | some id=>.ref id
  | none=>.undef
 | .sub id o n=>match r id with
  | some id=>.sub id o n
  | none=>.undef
 | .ptr id o=>match r id with
  | some id=>.ptr id o
  | none=>.undef
 | .mJ id i o=>match r id with
  | some id=>.mJ id i o
  | none=>.undef
 | .nL f caps=>match rF r caps with
  | some caps=>.nL f caps
  | none=>.undef
 | .mY id=>match r id with
  | some id=>.mY id
  | none=>.undef
 | .oI id i o=>match r id with
  | some id=>.oI id i o
  | none=>.undef
 | .inn id i o=>match r id with
  | some id=>.inn id i o
  | none=>.undef
 | .bool b=>.prop (b=true) (instDecidableEqBool b true)
 | .prop p d=>.prop (@decide p d=true) (instDecidableEqBool (@decide p d) true)
 | c=>c
def aJ.ren (r:Nat->Option Nat):aJ->aJ
 | .cell c=>.cell (c.ren r)
 | .agg cs=>.agg (cs.map (Cell.ren r))
def Slot.ren (r:Nat->Option Nat):Slot->Slot
 | .one c=>.one (c.ren r)
 | .Dm cs=>.Dm (cs.map (aJ.ren r))
def Entry.ren (r:Nat->Option Nat):Entry->Entry
 | .box t cs=>.box t (cs.map (Cell.ren r))
 | e=>e
structure Head where
 vals:List Slot
 ak:List Entry
def LU:List Nat->List Slot->Nat->Slot
 | k :: ks,v :: vs,t=>bif Nat.beq k t then v else LU ks vs t
 | _,_,_=>.undef
def Dy:List Entry->Nat->Nat->Option Entry
 | [],_,_=>none
 | e :: r,p,k=>bif Nat.beq k (jA p) then some e else Dy r (p+1) k
def Head.st (n:Nat) (keep:List Nat) (h:Head):St:={ n,env:=LU keep h.vals,ak:=Dy h.ak 0 }
def Slot.alive:Slot->Bool
 | .one (.cell .undef) | .one (.cell .void)=>false
 | _=>true
def Cn {α:Type}:List (Option α)->Option (List α)
 | []=>some []
 | some a :: r=>match Cn r with
  | some l=>some (a :: l)
  | none=>none
 | none :: _=>none
def IG (keep:List Nat) (s:St):Option Head:=
 let vals:=keep.map s.env
 let order:=reach s.ak 256 0 (Cm [] (vals.flatMap Slot.ids))
 let r:=FV order
 match Cn (order.map fun id=>(s.ak id).map (Entry.ren r)) with
 | some es=>some { vals:=vals.map (Slot.ren r),ak:=es }
 | none=>none
section
variable {R:Type}
abbrev K (R:Type):=Ex->St->Option R
def QW (keep:List Nat) (n:Nat) (again:Head->Option R) (κ:K R):K R:=fun x s=>match x with
 | .normal=>bif Nat.beq s.n n then (match IG keep s with
  | some h=>again h
  | none=>none) else none
 | x=>κ x s
def iter (keep:List Nat) (n:Nat) (body:St->K R->Option R) (κ:K R):Nat->Head->Option R
 | 0,_=>none
 | m+1,h=>body (h.st n keep) (QW keep n (iter keep n body κ m) κ)
def aaH (next:St->Option R) (κ:K R):K R:=fun x s=>match x with
 | .normal=>next s
 | x=>κ x s
def QX (id:Nat) (κ:K R):K R:=fun x s=>match x with
 | .exit i=>bif Nat.beq i id then κ .normal s else κ (.exit i) s
 | x=>κ x s
def II (vars:List Nat) (s:St):List Nat:=vars.filter fun t=>(s.env t).alive
def Zj (C:dh) (ah:FuncId->(t:Ty)->List Arg->Option t.den) (ops:Array Oper) (draw:Bool) (s:St) (κ:K R):Option R:=
 bif draw && !(QU C ops.toList || Hy C ops.toList s || Hz C ops.toList s || HV C ops.toList s || (HY C ops.toList s || (Dw C ops.toList s || Dx C ops.toList s))) then none else
  (EH C ops.toList ops.toList.zipIdx s).run ah (κ .normal)
def once (keep:List Nat) (n:Nat) (next:St->Option R):Nat->Head->Option R
 | 0,_=>none
 | _+1,h=>next (h.st n keep)
def Vi (vars:List Nat) (id:Nat):Bool:=vars.any fun v=>Nat.beq (v / 4096) (256+id)
def YH (vars:List Nat) (id i:Nat):Bool:=vars.any (Nat.beq (1048576+id*4096+i))
def QY (C:dh) (ah:FuncId->(t:Ty)->List Arg->Option t.den) (vars:List Nat) (k:Nat) (ops:List Oper) (id:Nat) (κ:St->Option R):List (Oper × Nat)->St->Option R
 | [],s=>κ s
 | (o,i) :: r,s=>bif YH vars id i then (match IG (II vars s) s with
  | some h=>once (II vars s) s.n (fun s=>(stepT C ops i o s).run ah (QY C ah vars k ops id κ r)) k h
  | none=>none) else (stepT C ops i o s).run ah (QY C ah vars k ops id κ r)
def lQ (C:dh) (ah:FuncId->(t:Ty)->List Arg->Option t.den) (vars:List Nat) (k:Nat):Code->St->K R->Option R
 | .skip,s,κ=>κ .normal s
 | .ret,s,κ=>κ .ret s
 | .exit id,s,κ=>κ (.exit id) s
 | .seq a b,s,κ=>lQ C ah vars k a s (aaH (fun s=>lQ C ah vars k b s κ) κ)
 | .block id b,s,κ=>lQ C ah vars k b s (QX id κ)
 | .cond c a b,s,κ=>match s.ev c with
  | .one (.cell (.bool true))=>lQ C ah vars k a s κ
  | .one (.cell (.bool false))=>lQ C ah vars k b s κ
  | .one (.cell (.prop p d))=>@ite _ p d (lQ C ah vars k a s κ) (lQ C ah vars k b s κ)
  | _=>none
 | .region id ops draw,s,κ=>bif !draw && Vi vars id then QY C ah vars k ops.toList id (κ .normal) ops.toList.zipIdx s else Zj C ah ops draw s κ
 | .loop b,s,κ=>
  let keep:=II vars s
  match IG keep s with
  | some h=>iter keep s.n (fun s κ=>lQ C ah vars k b s κ) κ k h
  | none=>none
 | _,_,_=>none
end
def HZ:List (Nat × Entry)->Nat->List (Nat × Entry)
 | [],_=>[]
 | (k,.arr t l _) :: r,j=>(k,.arr t l (.pinned j)) :: HZ r (j+1)
 | (k,.deep t l _) :: r,j=>(k,.deep t l (some j)) :: HZ r (j+1)
 | x :: r,j=>x :: HZ r (j+1)
def gI (i:Nat):Arg->Slot × List (Nat × Entry)
 | .val t x=>(.one (zN t.kept t x),[])
 | .UU t x=>(.one (zN true t x),[])
 | .nL f caps=>(.cell (.nL f caps),[])
 | .rp t x=>(.cell (.ru false t x 0),[])
 | .give t x=>match aV true (iA i) t x 0 with
  | (cs,es,_)=>(.one (bO t.isAgg cs),es)
 | .iF t x=>match aV t.ob (fun j=>iA i (j+1)) t x 0 with
  | (cs,es,_)=>(.cell (.ptr (iA i 0) 0),(iA i 0,.box (some t) cs) :: es)
 | .lend t x=>match aV true (iA i) t x 0 with
  | (cs,es,_)=>(.one (bO t.isAgg cs),HZ es 0)
def eB:Nat->List Arg->List Slot × List (Nat × Entry)
 | _,[]=>([],[])
 | i,a :: r=>match gI i a,eB (i+1) r with
  | (v,es),(vs,fs)=>(v :: vs,es++fs)
def yM (lo:Nat) (fn:Func) (args:List Arg):St:=
 match eB 0 args with
 | (vs,es)=>{ n:=(args.length+(fn.ntmps - args.length))*1048576+lo,env:=fun t=>(vs[t]?).getD .undef,ak:=assoc es }
def jQ (C:dh) (s:St):List ResultVar->Option (List aJ)
 | []=>some []
 | .tmp t :: r=>match s.env t,jQ C s r with
  | .one c,some r=>some (c :: r)
  | _,_=>none
 | .cell a t :: r=>match C.shape t,s.env a,jQ C s r with
  | some (n,agg),.one (.cell p),some r=>match s.iY n agg p with
   | .ret c=>some (c :: r)
   | _=>none
  | _,_,_=>none
def Arg.kind:Arg->Nat
 | .iF _ _=>2
 | _=>0
def lY:List Arg->Nat->Option (Nat × Ty)
 | [],_=>none
 | .lend t _ :: _,i=>some (i,t)
 | _ :: r,i=>lY r (i+1)
def qx:List Arg->Nat->Option (Nat × Ty)
 | [],_=>none
 | .iF t _ :: _,i=>some (i,t)
 | _ :: r,i=>qx r (i+1)
def zR:Ty->List aJ->Bool
 | .unit,[]=>true
 | .pair a b,c :: cs=>Du a c && Nat.beq c.cells.length a.sz && zR b cs
 | _,_=>false
def vJ (one:Bool) (t:Ty) (vs:List aJ):Bool:=
 if one then (match vs with
  | [c]=>Du t c
  | _=>false) else zR t vs
def Xp (C:dh) (own:Bool) (fn:Func) (kinds:List Nat) (t:Ty):K t.den:=fun x s=>match x with
 | .exit _=>none
 | _=>bif Nat.beq fn.results.size fn.resultTypes.size && !kinds.any (!Nat.beq 0 ·) then
  (match jQ C s fn.results.toList with
  | some vs=>bif vs.all aJ.known && vJ (Nat.beq fn.resultTypes.size 1) t vs then
    (match bG s.ak (bif own then Mode.give else Mode.keep) t (vs.flatMap aJ.cells) with
    | some (x,ids)=>bif !own || nodup ids then some x else none
    | none=>none) else none
  | none=>none) else none
def Nc (C:dh) (fn:Func) (i:Nat) (T rt:Ty) (s:St):Option (rt.den × T.den):=
 bif Nat.beq fn.results.size fn.resultTypes.size then
  (match jQ C s fn.results.toList,s.env i with
  | some vs,.one (.cell (.ptr id 0))=>(match s.ak id with
   | some (.box _ cs)=>bif vs.all aJ.known && vJ (Nat.beq fn.resultTypes.size 1) rt vs then
    (match bG s.ak .give rt (vs.flatMap aJ.cells),bG s.ak (bif T.ob then .give else .keep) T cs with
    | some (y,ids),some (z,js)=>bif nodup (ids++js) && (T.ob || js.isEmpty) then some (y,z) else none
    | _,_=>none) else none
   | _=>none)
  | _,_=>none) else none
def TD (C:dh) (fn:Func) (i:Nat) (T:Ty):(t:Ty)->K t.den
 | .pair rt T'=>fun x s=>if h:T=T' then match x with
  | .exit _=>none
  | _=>match Nc C fn i T rt s with
   | some r=>some (r.1,h ▸ r.2)
   | none=>none
  else none
 | _=>fun _ _=>none
def Xq (C:dh) (fn:Func) (t:Ty):K t.den:=fun x s=>match x with
 | .exit _=>none
 | _=>bif Nat.beq fn.results.size fn.resultTypes.size && Nat.beq fn.resultTypes.size 1 then
  (match jQ C s fn.results.toList with
  | some [.cell (.ptr id 0)]=>(match s.ak id with
   | some (.box (some u) cs)=>if u=t then (match bG s.ak .keep t cs with
    | some (z,[])=>some z
    | _=>none) else none
   | _=>none)
  | _=>none) else none
def run (C:dh):Nat->FuncId->(t:Ty)->List Arg->Option t.den
 | 0,_,_,_=>none
 | k+1,f,t,args=>match C.MX f with
  | some p=>p t args
  | none=>match C.P.funcs[f]? with
   | some fn=>match fn.body with
    | some c=>match lY args 0 with
     | none=>(match qx args 0 with
      | none=>bif (C.sig f).yK then lQ C (run C k) ((assoc C.vars f).getD []) k c (yM 0 fn args) (Xq C fn t) else lQ C (run C k) ((assoc C.vars f).getD []) k c (yM 0 fn args) (Xp C (C.sig f).own fn (args.map Arg.kind) t)
      | some (i,T)=>bif Nat.blt i 1000 then lQ C (run C k) ((assoc C.vars f).getD []) k c (yM (i+1) fn args) (TD C fn i T t) else none)
     | some _=>none
    | none=>none
   | none=>none
inductive Way where
 | l | r | b | t | e | p
def yN:Code->List Way->Code
 | c,[]=>c
 | .seq a _,.l :: w=>yN a w
 | .seq _ b,.r :: w=>yN b w
 | .block _ b,.b :: w=>yN b w
 | .cond _ a _,.t :: w=>yN a w
 | .cond _ _ b,.e :: w=>yN b w
 | .loop b,.p :: w=>yN b w
 | _,_=>.refuse ""
structure Out where
 keep:List Nat
 left:Nat
def yO {R:Type} (C:dh) (ah:FuncId->(t:Ty)->List Arg->Option t.den) (vars:List Nat) (k n:Nat):Code->List Way->List Out->K R->K R
 | .seq a b,.l :: w,os,κ=>yO C ah vars k n a w os (aaH (fun s=>lQ C ah vars k b s κ) κ)
 | .seq _ b,.r :: w,os,κ=>yO C ah vars k n b w os κ
 | .block id b,.b :: w,os,κ=>yO C ah vars k n b w os (QX id κ)
 | .cond _ a _,.t :: w,os,κ=>yO C ah vars k n a w os κ
 | .cond _ _ b,.e :: w,os,κ=>yO C ah vars k n b w os κ
 | .loop b,.p :: w,o :: os,κ=>yO C ah vars k n b w os (QW o.keep n (iter o.keep n (fun s κ=>lQ C ah vars k b s κ) κ o.left) κ)
 | _,_,_,κ=>κ
def bq (C:dh) (k:Nat) (f:FuncId) (t:Ty) (kinds:List Nat) (w:List Way) (outs:List Out) (keep:List Nat) (m:Nat) (h:Head):Option t.den:=
 match C.P.funcs[f]? with
 | some fn=>match fn.body with
  | some c=>match yN c w with
   | .loop b=>
    let vars:=(assoc C.vars f).getD []
    let n:=(kinds.length+(fn.ntmps - kinds.length))*1048576+0
    iter keep n (fun s κ=>lQ C (run C k) vars k b s κ) (yO C (run C k) vars k n c w outs (Xp C (C.sig f).own fn kinds t)) m h
   | _=>none
  | none=>none
 | none=>none
def zS (C:dh) (k:Nat) (f:FuncId) (t:Ty) (i:Nat) (T:Ty) (nargs:Nat) (w:List Way) (outs:List Out) (keep:List Nat) (m:Nat) (h:Head):Option t.den:=
 match C.P.funcs[f]? with
 | some fn=>match fn.body with
  | some c=>match yN c w with
   | .loop b=>
    let vars:=(assoc C.vars f).getD []
    let n:=(nargs+(fn.ntmps - nargs))*1048576+(i+1)
    iter keep n (fun s κ=>lQ C (run C k) vars k b s κ) (yO C (run C k) vars k n c w outs (TD C fn i T t)) m h
   | _=>none
  | none=>none
 | none=>none
def Vj (C:dh) (k:Nat) (f:FuncId) (t:Ty) (nargs:Nat) (w:List Way) (outs:List Out) (keep:List Nat) (m:Nat) (h:Head):Option t.den:=
 match C.P.funcs[f]? with
 | some fn=>match fn.body with
  | some c=>match yN c w with
   | .loop b=>
    let vars:=(assoc C.vars f).getD []
    let n:=(nargs+(fn.ntmps - nargs))*1048576+0
    iter keep n (fun s κ=>lQ C (run C k) vars k b s κ) (yO C (run C k) vars k n c w outs (Xq C fn t)) m h
   | _=>none
  | none=>none
 | none=>none
end Go.Flat
