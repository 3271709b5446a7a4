/- impl.SeatPlayers as a function that is told: what it answers, and what its walk owes. No condition. -/
import Derived.Test.YtmocpfgfjeaelaaGreatPrim
import Derived.WalkKit
import Derived.ProofKit
import Derived.Below
import Derived.OwnWalk
set_option linter.unusedVariables false
set_option linter.unusedSimpArgs false
namespace Go.Flat
open Go.RowKit
def lI (next:List Int->List Int × Bool) (can:Nat->Int->Bool) (fq:Nat->Int) (len:Nat) (t:List Int):Nat->List Int × Bool
 | 0=>(t,false)
 | d+1=>if decide (fq (len - (d+1)) ∈ t) || !can (len - (d+1)) (t.length+1) then lI next can fq len t d else
   if (next (t++[fq (len - (d+1))])).2 then ((next (t++[fq (len - (d+1))])).1,true) else lI next can fq len t d
theorem PV {next:List Int->List Int × Bool} {can:Nat->Int->Bool} {fq:Nat->Int} {len k:Nat} {t:List Int} (h:k<len):lI next can fq len t (len - k) =
  if decide (fq k ∈ t) || !can k (t.length+1) then lI next can fq len t (len - (k+1)) else if (next (t++[fq k])).2 then ((next (t++[fq k])).1,true) else lI next can fq len t (len - (k+1)):=by
 obtain ⟨d,hd⟩:∃ d,len - k=d+1:=⟨len - k - 1,by omega⟩
 have h1:len - (d+1)=k:=by omega
 have h2:len - (k+1)=d:=by omega
 rw [hd,h2]
 simp only [lI,h1]
def uH (can:Nat->Int->Bool) (fq:Nat->Int) (len:Nat):Nat->List Int->List Int × Bool
 | 0,t=>(t,true)
 | d+1,t=>lI (uH can fq len d) can fq len t len
theorem Ap {next:List Int->List Int × Bool} {can:Nat->Int->Bool} {fq:Nat->Int} {len:Nat} {t:List Int}:∀ d,(lI next can fq len t d).2=false->(lI next can fq len t d).1=t
 | 0,_=>rfl
 | d+1,h=>by
  unfold lI at h ⊢
  split
  ·rename_i c;rw [if_pos c] at h;exact Ap d h
  ·rename_i c
   rw [if_neg c] at h
   split
   ·rename_i c2;rw [if_pos c2] at h;cases h
   ·rename_i c2;rw [if_neg c2] at h;exact Ap d h
theorem RQ {can:Nat->Int->Bool} {fq:Nat->Int} {len:Nat}:∀ (d:Nat) (t:List Int),(uH can fq len d t).2=false->(uH can fq len d t).1=t
 | 0,t,h=>by cases h
 | d+1,t,h=>Ap len h
@[reducible] def jg:Ty:=.pair (.int .i64) (.pair (.int .i64) (.pair (.int .i64) (.pair (.list (.int .i64)) .unit)))
@[reducible] def vF:Ty:=.pair (.int .i64) (.pair (.int .i64) (.pair (.int .i64) (.pair (.int .i64) .unit)))
def Aq (l:List jg.den) (sc:List vF.den):Prop:=l.length<=1048576/\sc.length<=1048576/\∀ p ∈ l,p.2.2.2.1.length<=1048576
instance (l:List jg.den) (sc:List vF.den):Decidable (Aq l sc):=by unfold Aq;infer_instance
section
variable (pl:List jg.den->Bool) (Ij:List vF.den->Bool) (can:jg.den->List vF.den->Int->Bool)
def pV (l:List jg.den) (sc:List vF.den) (v:Int):List Int × Bool:=
 if pl l=true/\Ij sc=true/\1<=v/\v<=4 then uH (fun k m=>can (rd jg l (k:Int)) sc m) (fun k=>(rd jg l (k:Int)).1) l.length v.toNat [] else ([],false)
def uI:(t:Ty)->List Arg->Option t.den
 | .pair (.list (.int .i64)) (.pair .bool .unit),[.val (.list a) l,.val (.list b) sc,.val (.int .i64) v]=>
  if h:a=jg/\b=vF then (if Aq (h.1 ▸ l) (h.2 ▸ sc) then some ((pV pl Ij can (h.1 ▸ l) (h.2 ▸ sc) v).1,((pV pl Ij can (h.1 ▸ l) (h.2 ▸ sc) v).2,())) else none) else none
 | _,_=>none
theorem PW {l:List jg.den} {sc:List vF.den} {v:Int} (h:Aq l sc) :
  uI pl Ij can (.pair (.list (.int .i64)) (.pair .bool .unit)) [.val (.list jg) l,.val (.list vF) sc,.val (.int .i64) v]=some ((pV pl Ij can l sc v).1,((pV pl Ij can l sc v).2,())):=by
 simp [uI,h]
theorem Cb {t:Ty} {args:List Arg} {r:t.den} (h:uI pl Ij can t args=some r) :
  ∃ (l:List jg.den) (sc:List vF.den) (v:Int),args=[.val (.list jg) l,.val (.list vF) sc,.val (.int .i64) v]/\Aq l sc /\
   ∃ e:Ty.pair (.list (.int .i64)) (.pair .bool .unit)=t,(e ▸ (((pV pl Ij can l sc v).1,((pV pl Ij can l sc v).2,())):(Ty.pair (.list (.int .i64)) (.pair .bool .unit)).den))=r:=by
 unfold uI at h
 split at h
 ·rename_i a l b sc v
  split at h
  ·rename_i hh
   obtain ⟨rfl,rfl⟩:=hh
   split at h
   ·rename_i hc
    exact ⟨l,sc,v,rfl,hc,rfl,by simpa using h⟩
   ·cases h
  ·cases h
 ·cases h
def PX (P:Program) (f:FuncId):Prop:=∀ (l:List jg.den) (sc:List vF.den) (v:Int) (w:World) (A G:Nat->Prop) (lv sv:Value),Aq l sc->(∀ b,A b->b<w.heap.size)->(∀ b,G b->A b)->
 Rd G w.heap (.list jg) A l [lv]->Rd G w.heap (.list vF) A sc [sv]->Calls P f #[lv,sv,.int .i64 v] w fun e w'=>∃ g cp,Below w.heap.size w w' /\
  e=.returned (.tuple #[.slice (some ⟨g,0,none⟩) (pV pl Ij can l sc v).1.length cp,.bool (pV pl Ij can l sc v).2]) /\
  w'.ownsRow w.heap.size 3 1 (.slice (some ⟨g,0,none⟩) (pV pl Ij can l sc v).1.length cp) (pV pl Ij can l sc v).1.length ((pV pl Ij can l sc v).1.map (Value.int .i64))
end
theorem RS {A G:Nat->Prop} {h:Array Obj} {a b c:Arg} {vals:List Value} (hh:gZ A G h [a,b,c] vals):∃ u v x,vals=[u,v,x]/\ArgRel A G h a u/\ArgRel A G h b v/\ArgRel A G h c x:=by
 obtain ⟨hl,ha⟩:=hh
 match vals,hl with
 | [u,v,x],_=>exact ⟨u,v,x,rfl,ha 0 a u rfl rfl,ha 1 b v rfl rfl,ha 2 c x rfl rfl⟩
theorem PY {w:World} {N g n cp:Nat} {xs:List Int} (h:w.ownsRow N 3 1 (.slice (some ⟨g,0,none⟩) n cp) n (xs.map (Value.int .i64))):∃ cur:Array Value,N<=g/\w.heap[g]? = some (.cells cur 3 (0,0))/\xs.length=n/\n<=cp/\cur.size=cp/\∀ (i:Nat) (x:Int),xs[i]? = some x->cur[i]? = some (Value.int .i64 x):=by
 obtain ⟨h1,⟨h2,_⟩ | ⟨g',c',cur,h2,h3,h4,h5,h6,h7,h8⟩⟩:=h
 ·cases h2
 ·cases h2
  rw [List.length_map,Nat.mul_one] at h1
  refine ⟨cur,h3,h4,h1,h5,by omega,fun i x hi=>?_⟩
  have hi2:(xs.map (Value.int .i64))[i]? = some (Value.int .i64 x):=by rw [List.getElem?_map,hi];rfl
  rw [<- h8,List.getElem?_take] at hi2
  split at hi2
  ·rw [Array.getElem?_toList] at hi2;exact hi2
  ·cases hi2
theorem yw {C:dh} {ah:FuncId->(t:Ty)->List Arg->Option t.den} (htab:C.tabs=[]) (ok:Ab C ah) {g:FuncId} {fn:Func} (hg:C.P.funcs[g]? = some fn) (hmk:(C.sig g).yK=false) (hr:fn.resultTypes.size=1)
  {args:List Arg} {b:Bool} (hrun:ah g .bool args=some b) (Cw:∀ a ∈ args,a.sO=false) (w:World) (vals:List Value) (hargs:gZ (fun b=>b<w.heap.size) (fun b=>b<w.heap.size) w.heap args vals) :
  Calls C.P g vals.toArray w fun e w'=>e=.returned (.bool b)/\Below w.heap.size w w':=by
 obtain ⟨hb,H⟩:=ok g fn _ _ _ hg hrun hmk
 refine (H w (fun b=>b<w.heap.size) (fun b=>b<w.heap.size) vals (fun b h=>h) (fun b h=>h) (fun x hx=>by rw [htab] at hx;simp at hx) (fun i j a b h1 h2 h3 h4=>by rw [Cw a (List.mem_of_getElem? h1)] at h3;cases h3) hargs).mono fun e w' hh=>?_
 obtain ⟨v,G',ps,he,hsize,hstr,hsame,_,_,⟨cs,ho,hv⟩,_,_⟩:=hh
 rw [hr] at hv
 have hv:ku false cs v:=hv
 have ho:ps=[]/\cs=[.bool b]:=ho
 obtain ⟨_,rfl⟩:=ho
 have hv:[Value.bool b]=[v]:=hv
 obtain rfl:Value.bool b=v:=by simpa using hv
 exact ⟨he,hstr.1,hstr.2.1,hstr.2.2.1,hsize,hsame⟩
section
variable {C:dh} {f:FuncId} {fn:Func} {pl:List jg.den->Bool} {Ij:List vF.den->Bool} {can:jg.den->List vF.den->Int->Bool}
theorem Ye (hm:C.mono=false) (hf:C.P.funcs[f]? = some fn) (hb:fn.body.isSome=true) (hr:fn.resultTypes.size=2) (hown:(C.sig f).own=true) (hw:PX pl Ij can C.P f) :
  ET C fun g t args=>if g=f then uI pl Ij can t args else none:=by
 refine NJ hf hb (fun t args r T x h=>by obtain ⟨l,sc,v,rfl,_⟩:=Cb pl Ij can h;simp) fun t args r hp w A G vals hA sD htab hargs=>?_
 obtain ⟨l,sc,v,rfl,hok,he,hre⟩:=Cb pl Ij can hp
 subst he
 obtain ⟨u1,u2,u3,rfl,h1,h2,h3⟩:=RS hargs
 obtain rfl:=Ii h3
 obtain ⟨es,h1,hv1⟩:=h1
 obtain ⟨es2,h2,hv2⟩:=h2
 have hv1:es=[u1]:=hv1
 have hv2:es2=[u2]:=hv2
 subst hv1 hv2
 refine (hw l sc v w A G u1 u2 hok hA sD h1 h2).mono fun e w' hh=>?_
 obtain ⟨g,cp,hbel,he,hrow⟩:=hh
 obtain ⟨cur,k1,k2,k3,k4,k5,k6⟩:=PY hrow
 have hgs:g<w'.heap.size:=(Array.getElem?_eq_some_iff.1 k2).1
 have Om:¬ A g:=fun h=>by have:=hA g h;omega
 generalize hR:pV pl Ij can l sc v=R at *
 refine ⟨_,G,[some ⟨g,0,cp,[]⟩],he,hbel.size,⟨hbel.os,hbel.tape,hbel.output,fun h=>by rw [hm] at h;cases h⟩,fun k hk=>hbel.block k (hA k hk),fun _ h=>h,fun _ h=>.inl h, ?_, ?_, ?_⟩
 ·rw [hown,hr]
  refine ⟨[.slice (some ⟨g,0,none⟩) R.1.length cp,.bool R.2], ?_,[.slice (some ⟨g,0,none⟩) R.1.length cp,.bool R.2],rfl, ?_⟩
  ·rw [<- hre]
   refine ⟨[.slice (some ⟨g,0,none⟩) R.1.length cp],[.bool R.2],[some ⟨g,0,cp,[]⟩],[],rfl,rfl, ?_,[.bool R.2],[],[],[],rfl,rfl,⟨rfl,rfl⟩,rfl,rfl⟩
   simp only [cZ,if_true]
   refine ⟨_,_,rfl,rfl,⟨⟨g,0,none⟩,cp,rfl,k4,fun _=>rfl,by show 0+(0+cp)*1<=cp;omega⟩,⟨cur,3,(0,0),k2,Free.zero _,k5,by show 0+R.1.length*1<=cp;omega,fun i x hi=>⟨[.int .i64 x],rfl,fun j u hj=>?_⟩⟩,fun p hp=>by cases hp;rfl⟩
   cases j with
   | zero=>
    have hj:Value.int .i64 x=u:=by simpa using hj
    subst hj
    show cur[0+i*1+0]? = _
    rw [show 0+i*1+0=i by omega]
    exact k6 i x hi
   | succ j=>simp at hj
  ·exact ⟨_,_,rfl,rfl,_,_,rfl,rfl,rfl,rfl⟩
 ·intro b hb
  have hb:b=g:=by simpa [blks,Pl.bs,Pl.FW] using hb
  rw [hb]
  exact ⟨Om,fun h=>Om (sD g h),hgs⟩
 ·simp [blks,Pl.bs,Pl.FW]
end
end Go.Flat
