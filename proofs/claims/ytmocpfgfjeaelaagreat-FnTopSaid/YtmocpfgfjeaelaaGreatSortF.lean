/- slices.SortFunc over rows of structs, by its contract; the comparison by the evaluator. No condition. -/
import Derived.Test.YtmocpfgfjeaelaaGreatIns
import Derived.Shelf.SlSortCmp.NoneTotal
set_option linter.unusedVariables false
set_option linter.unusedSimpArgs false
namespace Go.Flat
open Go.RowKit Go.Sort Go.Proofs Go.Lib
instance acG (T:Ty):Inhabited T.den:=⟨T.dflt⟩
def kD (T:Ty) (cf:T.den->T.den->Int) (l:List T.den):List T.den:=(pdq (Go.Proofs.ltOf cf) l.toArray 0 l.length (Lib.bitLen l.length) true true).toList
def qU (g:FuncId) (T:Ty) (cf:T.den->T.den->Int):(t:Ty)->List Arg->Option t.den
 | .pair .unit (.list u),[.lend (.list a) l,.nL g' []]=>if h:u=T/\a=T/\g'=g then (if l.length<4611686018427387904 then some ((),h.1 ▸ kD T cf (h.2.1 ▸ l)) else none) else none
 | _,_=>none
theorem NK {g:FuncId} {T:Ty} {cf:T.den->T.den->Int} {l:List T.den} (h:l.length<4611686018427387904) :
  qU g T cf (.pair .unit (.list T)) [.lend (.list T) l,.nL g []]=some ((),kD T cf l):=by
 simp [qU,h]
theorem wG {g:FuncId} {T:Ty} {cf:T.den->T.den->Int} {t:Ty} {args:List Arg} {r:t.den} (h:qU g T cf t args=some r) :
  ∃ l:List T.den,args=[.lend (.list T) l,.nL g []]/\l.length<4611686018427387904/\∃ e:Ty.pair .unit (.list T)=t,(e ▸ (((),kD T cf l):(Ty.pair .unit (.list T)).den))=r:=by
 unfold qU at h
 split at h
 ·rename_i u a l g'
  split at h
  ·rename_i hh
   obtain ⟨rfl,rfl,rfl⟩:=hh
   split at h
   ·rename_i hc
    exact ⟨l,rfl,hc,rfl,by simpa using h⟩
   ·cases h
  ·cases h
 ·cases h
theorem Am {T:Ty} {cf:T.den->T.den->Int} (hO:SWO (Go.Proofs.ltOf cf)) (l:List T.den) :
  PermIn 0 l.length l.toArray (kD T cf l).toArray/\SortedIn (Go.Proofs.ltOf cf) 0 l.length (kD T cf l).toArray:=by
 have:=pdq_sorts (Go.Proofs.ltOf cf) hO l.toArray 0 l.length (Lib.bitLen l.length) true true (Nat.zero_le _) (by simp) (Or.inl rfl)
 unfold kD
 simpa using this
theorem EZ {T:Ty} {cf:T.den->T.den->Int} (hO:SWO (Go.Proofs.ltOf cf)) (l:List T.den):(kD T cf l).length=l.length:=by
 simpa using (Am hO l).1.1
theorem RO {T:Ty} {cf:T.den->T.den->Int} (hO:SWO (Go.Proofs.ltOf cf)) (l:List T.den):(kD T cf l).Perm l:=by
 have h:=(Am hO l).1.2.2
 have e:(kD T cf l).length=l.length:=EZ hO l
 have e1:((kD T cf l).toArray.extract 0 l.length).toList=kD T cf l:=by
  rw [<- e]
  simp
 have e2:(l.toArray.extract 0 l.length).toList=l:=by simp
 rw [e1,e2] at h
 exact h
theorem Wm {T:Ty} {cf:T.den->T.den->Int} (hO:SWO (Go.Proofs.ltOf cf)) (l:List T.den):(kD T cf l).Pairwise fun a b=>Go.Proofs.ltOf cf b a=false:=by
 have h:=(Am hO l).2
 have e:(kD T cf l).length=l.length:=EZ hO l
 rw [List.pairwise_iff_getElem]
 intro i j hi hj hij
 have:=h i j (Nat.zero_le _) hij (by omega)
 simpa [hi,hj] using this
def Yd (x y:Int):Int:=if x<y then -1 else if y<x then 1 else 0
def orZ (x y:Int):Int:=if x ≠ 0 then x else y
@[reducible] def NM:Ty:=.pair (.int .i64) (.pair (.int .i64) (.pair (.int .i64) (.pair (.int .i64) .unit)))
def uG (a b:Int × (Int × (Int × (Int × Unit)))):Int:=orZ (Yd a.1 b.1) (orZ (Yd a.2.2.2.1 b.2.2.2.1) (Yd a.2.2.1 b.2.2.1))
def Wn (a b:Int × (Int × (Int × (Int × Unit)))):Prop:=(a.1:Int)<b.1\/(a.1:Int)=b.1/\((a.2.2.2.1:Int)<b.2.2.2.1\/(a.2.2.2.1:Int)=b.2.2.2.1/\(a.2.2.1:Int)<b.2.2.1)
theorem Ea (a b:Int × (Int × (Int × (Int × Unit)))):Go.Proofs.ltOf uG a b=true ↔ Wn a b:=by
 unfold Go.Proofs.ltOf uG orZ Yd Wn
 rw [decide_eq_true_eq]
 repeat' split
 all_goals omega
theorem Bg:SWO (Go.Proofs.ltOf uG) where
 irrefl x:=by rw [Bool.eq_false_iff,Ne,Ea];unfold Wn;omega
 trans x y z h1 h2:=by rw [Ea] at *;unfold Wn at *;omega
 ntrans x y z h1 h2:=by rw [Bool.eq_false_iff,Ne,Ea] at *;unfold Wn at *;omega
def cv:(t:Ty)->t.den->List Value
 | .bool,b=>[.bool b]
 | .int k,n=>[.int k n]
 | .str,s=>[.string s]
 | .pair a b,x=>cv a x.1++cv b x.2
 | .unit,_=>[]
 | .list _,_=>[]
 | .bR _,_=>[]
theorem Ao {G:Nat->Prop} {h:Array Obj}:∀ {t:Ty} {F:Nat->Prop} {x:t.den} {es:List Value},t.plain=true->(Rd G h t F x es ↔ es=cv t x)
 | .bool,_,_,_,_=>Iff.rfl
 | .int _,_,_,_,_=>Iff.rfl
 | .str,_,_,_,_=>Iff.rfl
 | .unit,_,_,_,_=>Iff.rfl
 | .list _,_,_,_,h=>by cases h
 | .bR _,_,_,_,h=>by cases h
 | .pair a b,F,x,es,h=>by
  simp only [Ty.plain,Bool.and_eq_true] at h
  constructor
  ·rintro ⟨c,d,rfl,h1,h2⟩
   rw [(Ao h.1).1 h1,(Ao h.2).1 h2]
   rfl
  ·rintro rfl
   exact ⟨_,_,rfl,(Ao h.1).2 rfl,(Ao h.2).2 rfl⟩
theorem CP {t:Ty} {x:t.den} (h:t.plain=true):(cv t x).length=t.sz:=((Ao (G:=fun _=>False) (h:=#[]) (F:=fun _=>False) h).2 rfl).len
def rowOf (t:Ty) (l:List t.den):List Value:=l.flatMap (cv t)
theorem Bh {t:Ty} (h:t.plain=true):∀ l:List t.den,(rowOf t l).length=l.length*t.sz
 | []=>by simp [rowOf]
 | x :: l=>by
  have:=Bh h l
  simp only [rowOf,List.flatMap_cons,List.length_append,List.length_cons,CP h,Nat.add_mul,Nat.one_mul] at this ⊢
  omega
theorem CQ {G:Nat->Prop} {h:Array Obj} {t:Ty} (hp:t.plain=true) {c:Nat->Option Value}:∀ (l:List t.den) (o:Nat),
  (∀ (i:Nat) x,l[i]? = some x->∃ es,Rd G h t G x es/\∀ (j:Nat) v,es[j]? = some v->c (o+i*t.sz+j)=some v) ↔ ∀ (j:Nat) v,(rowOf t l)[j]? = some v->c (o+j)=some v
 | [],o=>by simp [rowOf]
 | x :: l,o=>by
  have ih:=CQ (G:=G) (h:=h) hp (c:=c) l (o+t.sz)
  have hl:=CP (x:=x) hp
  constructor
  ·intro H j v hj
   have hj:(cv t x++rowOf t l)[j]? = some v:=hj
   by_cases hlt:j<t.sz
   ·rw [List.getElem?_append_left (by omega)] at hj
    obtain ⟨es,h1,h2⟩:=H 0 x rfl
    rw [(Ao hp).1 h1] at h2
    have:=h2 j v hj
    rwa [show o+0*t.sz+j=o+j by omega] at this
   ·rw [List.getElem?_append_right (by omega),hl] at hj
    have:=ih.1 (fun i y hy=>by
     obtain ⟨es,h1,h2⟩:=H (i+1) y (by simpa using hy)
     exact ⟨es,h1,fun k u hk=>by have:=h2 k u hk;rwa [show o+(i+1)*t.sz+k=o+t.sz+i*t.sz+k by rw [Nat.add_mul,Nat.one_mul];omega] at this⟩) (j - t.sz) v hj
    rwa [show o+t.sz+(j - t.sz)=o+j by omega] at this
  ·intro H i y hy
   refine ⟨cv t y,(Ao hp).2 rfl,fun k u hk=>?_⟩
   cases i with
   | zero=>
    simp at hy
    subst hy
    have hlt:k<(cv t x).length:=(List.getElem?_eq_some_iff.1 hk).1
    have:=H k u (by show (cv t x++rowOf t l)[k]? = some u;rw [List.getElem?_append_left hlt];exact hk)
    rwa [show o+0*t.sz+k=o+k by omega]
   | succ i=>
    obtain ⟨es,h1,h2⟩:=ih.2 (fun j v hj=>by
     have:=H (t.sz+j) v (by
      show (cv t x++rowOf t l)[t.sz+j]? = some v
      rw [List.getElem?_append_right (by omega),hl,Nat.add_sub_cancel_left]
      exact hj)
     rwa [show o+(t.sz+j)=o+t.sz+j by omega] at this) i y (by simpa using hy)
    rw [(Ao hp).1 h1] at h2
    have:=h2 k u hk
    rwa [show o+t.sz+i*t.sz+k=o+(i+1)*t.sz+k by rw [Nat.add_mul,Nat.one_mul];omega] at this
theorem ZM {t:Ty} {x:t.den} (h:t.plain=true):∀ v ∈ cv t x,v.oneCell'=true:=fun v hv=>by
 rw [IX]
 exact ((Ao (G:=fun _=>False) (h:=#[]) (F:=fun _=>False) h).2 (rfl:cv t x=cv t x)).one v hv
theorem PS {t:Ty} (hp:t.plain=true):∀ (l:List t.den) (i j:Nat) (x:t.den),l[i]? = some x->j<t.sz->(rowOf t l)[i*t.sz+j]? = (cv t x)[j]?
 | [],i,j,x,h,_=>by simp at h
 | y :: l,0,j,x,h,hj=>by
  obtain rfl:y=x:=by simpa using h
  show (cv t y++rowOf t l)[0*t.sz+j]? = _
  rw [Nat.zero_mul,Nat.zero_add,List.getElem?_append_left (by rw [CP hp];exact hj)]
 | y :: l,i+1,j,x,h,hj=>by
  have:=PS hp l i j x (by simpa using h) hj
  show (cv t y++rowOf t l)[(i+1)*t.sz+j]? = _
  rw [List.getElem?_append_right (by rw [CP hp,Nat.add_mul,Nat.one_mul];omega),CP hp,<- this]
  congr 1
  rw [Nat.add_mul,Nat.one_mul]
  omega
theorem MB {t:Ty} (hp:t.plain=true) (h0:0<t.sz) (l:List t.den):flatK (cv t) t.sz l.toArray=(rowOf t l).toArray:=by
 apply Array.ext
 ·rw [size_flatK]
  simp [Bh hp]
 ·intro i h1 h2
  have hi:i<l.length*t.sz:=by rw [size_flatK] at h1;simpa using h1
  have hq:i / t.sz<l.length:=(Nat.div_lt_iff_lt_mul h0).2 hi
  have hr:i % t.sz<t.sz:=Nat.mod_lt _ h0
  have e1:=get_flatK (cv t) t.sz l.toArray i (by simpa using hi)
  rw [getElem!_pos (flatK (cv t) t.sz l.toArray) i h1] at e1
  rw [e1]
  have e2:=PS hp l (i / t.sz) (i % t.sz) l[i / t.sz] (List.getElem?_eq_getElem hq) hr
  rw [Nat.mul_comm,Nat.div_add_mod] at e2
  have e3:l.toArray[i / t.sz]! = l[i / t.sz]:=by simp [hq]
  rw [e3]
  have e4:(cv t l[i / t.sz])[i % t.sz]? = some ((cv t l[i / t.sz])[i % t.sz]!):=by
   have:i % t.sz<(cv t l[i / t.sz]).length:=by rw [CP hp];exact hr
   rw [getElem!_pos (cv t l[i / t.sz]) (i % t.sz) this,List.getElem?_eq_getElem this]
  rw [e4] at e2
  have e5:(rowOf t l)[i]? = some ((rowOf t l).toArray[i]):=by
   rw [List.getElem_toArray,List.getElem?_eq_getElem (by simpa using h2)]
  rw [e5] at e2
  exact (Option.some.inj e2).symm
section
variable {C:dh} {f g:FuncId} {fn:Func}
theorem Wo {T:Ty} {cf:T.den->T.den->Int} (hT:T.plain=true) (h0:0<T.sz) (hf:C.P.funcs[f]? = some fn) (hb:fn.body.isSome=true) (hr:fn.resultTypes.size=0)
  (hn:∀ (a:Option Addr) (c:Nat) (fv:Value) (w:World),Calls C.P f #[.slice a 0 c,fv] w fun e w'=>e=.returned (.tuple #[])/\w'=w)
  (h1:∀ (bk o c:Nat) (xs:List T.den) (w:World),HoldsK (cv T) T.sz w bk o xs.toArray->bk<w.heap.size->xs.length<4611686018427387904->Calls C.P f #[.slice (some ⟨bk,o,none⟩) xs.length c,.func (.func g) #[] #[]] w fun e w'=>
   e=.returned (.tuple #[])/\∃ n os,w'=sortWorldK (cv T) T.sz w bk o n (kD T cf xs).toArray os) :
  (∀ l:List T.den,(kD T cf l).length=l.length)->ET C fun q t args=>if q=f then qU g T cf t args else none:=by
 intro PU
 refine ⟨?_, ?_, ?_⟩
 rotate_left 2
 ·intro q fn' rt T' x i args r hg hrun hai
  by_cases hgf:q=f
  ·subst hgf
   obtain ⟨l,rfl,_⟩:=wG (by simpa using hrun)
   cases i with
   | zero=>simp at hai
   | succ i=>
    cases i with
    | zero=>simp at hai
    | succ i=>simp at hai
  ·simp [hgf] at hrun
 ·intro q fn' t args r hg hrun
  by_cases hgf:q=f
  ·subst hgf
   rw [hf] at hg
   cases hg
   refine fun _=>⟨hb,fun w A G vals hA sD htab _ hargs=>?_⟩
   obtain ⟨l,rfl,_⟩:=wG (by simpa using hrun)
   obtain ⟨hl,ha⟩:=hargs
   have hlt:0<vals.length:=by rw [hl];simp
   exact (ha 0 _ _ rfl (List.getElem?_eq_getElem hlt)).elim
  ·simp [hgf] at hrun
 ·intro q fn' rt T' x i args r hg hrun hai
  by_cases hgf:q=f
  ·subst hgf
   rw [hf] at hg
   cases hg
   refine ⟨hb,fun w A G vals v0 cs ps hA sD htab hlen hv0 hl hrest=>?_⟩
   obtain ⟨l,rfl,hll,he,hre⟩:=wG (by simpa using hrun)
   have hi:i=0:=by
    cases i with
    | zero=>rfl
    | succ i=>
     cases i with
     | zero=>simp at hai
     | succ i=>simp at hai
   subst hi
   simp only [List.getElem?_cons_zero,Option.some.injEq] at hai
   cases hai
   have hrt:rt=.unit:=by injection he with h1 _;exact h1.symm
   subst hrt
   have hr':r=((),kD T cf l):=hre.symm
   subst hr'
   obtain ⟨vv,fv,rfl⟩:∃ a b,vals=[a,b]:=by
    have hlen:vals.length=2:=hlen
    match vals,hlen with
    | [a,b],_=>exact ⟨a,b,rfl⟩
   simp only [List.getElem?_cons_zero,Option.some.injEq] at hv0
   subst hv0
   obtain rfl:fv=.func (.func g) #[] #[]:=by
    obtain ⟨_,vs,h2,h3,_⟩:=hrest 1 _ _ (by decide) rfl rfl
    obtain rfl:=List.length_eq_zero_iff.1 h3
    exact h2
   obtain ⟨hown,hval,hpA,hnd⟩:=hl
   simp only [cZ,if_true] at hown
   obtain ⟨v,π,rfl,rfl,hs,ha,hfl⟩:=hown
   have hvv:vv=v:=by
    have h:[v]=[vv]:=hval
    simpa using h.symm
   subst hvv
   have res:wF (C.sig q).own (Nat.beq fn.resultTypes.size 1) .unit G w.heap () (.tuple #[]) []:=by
    refine ⟨[],⟨rfl,rfl⟩, ?_⟩
    rw [hr]
    show (if Nat.beq 0 1=true then _ else _)
    rw [if_neg (by decide)]
    exact ⟨[],rfl,rfl,rfl⟩
   have done:l=[]->SliceAt T.sz π 0 0 vv->Calls C.P q #[vv,.func (.func g) #[] #[]] w fun e w'=>∃ v G' qs,e=.returned v/\w.heap.size<=w'.heap.size/\Str C.mono w w'/\(∀ b,A b->w'.heap[b]? = w.heap[b]?)/\(∀ b,G b->G' b)/\(∀ b,G' b->G b\/(¬ A b/\b<w'.heap.size)) /\
    wF (C.sig q).own (Nat.beq fn.resultTypes.size 1) .unit G' w'.heap () v qs/\(∀ b ∈ blks qs,¬ A b/\¬ G' b/\b<w'.heap.size)/\(blks qs).Nodup /\
    yt G' w.heap w'.heap (.list T) l (kD T cf l) [π]/\∀ b ∈ blks [π],¬ G' b/\b ∉ blks qs:=by
    intro h0' hs'
    obtain ⟨a,c,rfl⟩:∃ a c,vv=.slice a 0 c:=by
     cases π with
     | none=>obtain ⟨_,rfl⟩:=hs';exact ⟨_,_,rfl⟩
     | some p=>obtain ⟨a,c,rfl,_⟩:=hs';exact ⟨_,_,rfl⟩
    refine (hn a c _ w).mono fun e w' hh=>?_
    obtain ⟨he,rfl⟩:=hh
    subst h0'
    have hnil:kD T cf []=[]:=List.length_eq_zero_iff.1 (PU [])
    refine ⟨_,G,[],he,Nat.le_refl _,Str.refl _ _,fun _ _=>rfl,fun _ h=>h,fun _ h=>.inl h,res,fun b hb=>(by simp [blks] at hb),by simp [blks],⟨π,rfl, ?_,PU _⟩,fun b hb=>⟨fun hg=>(hpA b hb).1 (sD _ hg),by simp [blks]⟩⟩
    rw [hnil];exact ha
   by_cases hl0:l=[]
   ·refine done hl0 ?_
    subst hl0
    exact hs
   ·cases π with
    | none=>exact absurd ha hl0
    | some p=>
     obtain ⟨a,cap,rfl,hcap,sG,hroom⟩:=hs
     have hpos:0<l.length:=List.length_pos_iff.2 hl0
     obtain rfl:=sG (by omega)
     obtain ⟨c,e0,fz,hh,hfz,hsz,hle,hx⟩:=ha
     have hx:=(CQ hT (c:=fun k=>c[k]?) l p.o).1 hx
     simp only [Nat.zero_mul,Nat.add_zero] at hroom ⊢
     have hbs:p.b<w.heap.size:=(Array.getElem?_eq_some_iff.1 hh).1
     have hcs:p.o+l.length*T.sz<=c.size:=by omega
     have hH:HoldsK (cv T) T.sz w p.b p.o l.toArray:=by
      unfold HoldsK
      rw [MB hT h0]
      intro j hj
      have hj:j<(rowOf T l).length:=by simpa using hj
      have hjl:=hj
      rw [Bh hT] at hjl
      constructor
      ·rw [mQ]
       unfold hcell
       rw [hh]
       show c[p.o+j]? = _
       rw [hx j _ (List.getElem?_eq_getElem hj)]
       simp [hj]
      ·unfold World.frozen?
       simp only [hh]
       have h1:=hfz (p.o+j) (by omega)
       simpa using h1
     have hc:=h1 p.b p.o cap l w hH hbs hll
     refine hc.mono fun e w' hpost=>?_
     obtain ⟨he,n,os,hw⟩:=hpost
     have IW:flatK (cv T) T.sz (kD T cf l).toArray=(rowOf T (kD T cf l)).toArray:=MB hT h0 _
     have hheap:w'.heap=w.heap.modify p.b (Go.Sort.onCells (Go.Sort.putCells id p.o (rowOf T (kD T cf l)).toArray))++os:=by
      rw [hw]
      unfold sortWorldK putRowK
      rw [IW]
      rfl
     have hat:w'.heap[p.b]? = some (.cells (Go.Sort.putCells id p.o (rowOf T (kD T cf l)).toArray c) e0 fz):=by
      rw [hheap,Array.getElem?_append_left (by simpa using hbs),Array.getElem?_modify,if_pos rfl,hh]
      rfl
     have hother:∀ b,b<w.heap.size->b ≠ p.b->w'.heap[b]? = w.heap[b]?:=by
      intro b hb hne
      rw [hheap,Array.getElem?_append_left (by simpa using hb),Array.getElem?_modify,if_neg (fun e=>hne e.symm)]
     have acI:∀ b,A b->b ≠ p.b:=fun b hb e=>(hpA p.b (by simp [blks,Pl.bs])).1 (e ▸ hb)
     refine ⟨_,G,[],he, ?_, ?_,fun b hb=>hother b (hA b hb) (acI b hb),fun _ h=>h,fun _ h=>.inl h, ?_,fun b hb=>(by simp [blks] at hb),by simp [blks],⟨some p,rfl, ?_,PU l⟩,fun b hb=>⟨fun hg=>(hpA b hb).1 (sD _ hg),by simp [blks]⟩⟩
     ·rw [hheap];simp
     ·rw [hw];exact ⟨rfl,rfl,rfl,fun _=>Nat.le_add_right _ _⟩
     ·obtain ⟨cs,k1,k2⟩:=res
      have hcs:cs=[]:=k1.2
      subst hcs
      exact ⟨[],⟨rfl,rfl⟩,k2⟩
     ·have hsize:(Go.Sort.putCells id p.o (rowOf T (kD T cf l)).toArray c).size=c.size:=by simp [Go.Sort.putCells]
      refine ⟨_,e0,fz,hat,by rw [hsize];exact hfz,by rw [hsize];exact hsz,by rw [PU];exact hle,(CQ hT (c:=fun k=>(Go.Sort.putCells id p.o (rowOf T (kD T cf l)).toArray c)[k]?) _ p.o).2 fun j u hj=>?_⟩
      have hjl:=(List.getElem?_eq_some_iff.1 hj).1
      have ZN:=hjl
      rw [Bh hT,PU] at hjl
      have hlt:p.o+j<c.size:=by omega
      show (Go.Sort.putCells id p.o (rowOf T (kD T cf l)).toArray c)[p.o+j]? = some u
      unfold Go.Sort.putCells
      rw [Array.getElem?_mapIdx,Array.getElem?_eq_getElem hlt]
      simp only [Option.map_some,Option.some.injEq]
      rw [if_pos ⟨by omega,by simpa using ZN⟩]
      rw [show p.o+j - p.o=j by omega]
      have e2:=hj
      rw [List.getElem?_eq_getElem ZN] at e2
      simp [ZN]
      exact Option.some.inj e2
  ·simp [hgf] at hrun
theorem Wp {ah:FuncId->(t:Ty)->List Arg->Option t.den} (hm:C.mono=true) (htab:C.tabs=[]) {T:Ty} (hT:T.plain=true) (hagg:T.isAgg=true) (ok:Ab C ah) (hg:C.P.funcs[g]? = some fn) (hmk:(C.sig g).yK=false) (hr:fn.resultTypes.size=1) {x y:T.den} {n:Int}
  (hrun:ah g (.int .i64) [.val T x,.val T y]=some n) (w:World) :
  Calls C.P g #[.agg (cv T x).toArray,.agg (cv T y).toArray] w fun e w'=>e=.returned (.int .i64 n)/\∃ q os,w'=Go.Sort.grow (w.drewN q) os:=by
 obtain ⟨hb,H⟩:=ok g fn _ _ _ hg hrun hmk
 have H:=H w (fun b=>b<w.heap.size) (fun _=>False) [.agg (cv T x).toArray,.agg (cv T y).toArray] (fun b h=>h) (fun b h=>h.elim) (fun x hx=>by rw [htab] at hx;simp at hx) (fun i j a b h1 h2 h3 h4=>by
  have:a.sO=false:=by
   cases i with
   | zero=>simp at h1;subst h1;rfl
   | succ i=>
    cases i with
    | zero=>simp at h1;subst h1;rfl
    | succ i=>simp at h1
  rw [this] at h3;cases h3) ⟨rfl,fun i a v h1 h2=>by
   cases i with
   | zero=>simp at h1 h2;subst h1 h2;exact ⟨cv T x,(Ao hT).2 rfl,by unfold ku;rw [hagg];rfl⟩
   | succ i=>
    cases i with
    | zero=>simp at h1 h2;subst h1 h2;exact ⟨cv T y,(Ao hT).2 rfl,by unfold ku;rw [hagg];rfl⟩
    | succ i=>simp at h1⟩
 refine H.mono fun e w' hh=>?_
 obtain ⟨v,G',ps,he,hsize,hstr,hsame,_,_,⟨cs,ho,hv⟩,_,_⟩:=hh
 rw [hr] at hv
 have hv:ku false cs v:=hv
 have ho:ps=[]/\cs=[.int .i64 n]:=ho
 obtain ⟨_,rfl⟩:=ho
 have hv:[Value.int .i64 n]=[v]:=hv
 obtain rfl:Value.int .i64 n=v:=by simpa using hv
 refine ⟨he,w'.drawn - w.drawn,w'.heap.extract w.heap.size w'.heap.size, ?_⟩
 have hd:=hstr.2.2.2 hm
 have hheap:w'.heap=w.heap++w'.heap.extract w.heap.size w'.heap.size:=by
  apply Array.ext
  ·simp;omega
  ·intro i h1 h2
   by_cases hi:i<w.heap.size
   ·rw [Array.getElem_append_left hi]
    have:=hsame i hi
    rw [Array.getElem?_eq_getElem h1,Array.getElem?_eq_getElem hi] at this
    exact Option.some.inj this
   ·rw [Array.getElem_append_right (by omega),Array.getElem_extract]
    congr 1
    omega
 obtain ⟨o1,o2,o3,_⟩:=hstr
 cases w with
 | mk=>cases w' with
  | mk=>
   simp only [World.drewN,Go.Sort.grow] at *
   subst o1 o2 o3
   congr 1
   omega
end
end Go.Flat
