/- The operations make, append, clear. No condition. -/
import Derived.Test.YtmocpfgfjeaelaaGreatOps7
set_option linter.unusedVariables false
set_option linter.unusedSimpArgs false
namespace Go.Flat
theorem SH {n:Int} (h0:0<=n) (h1:n<9223372036854775808):IntKind.i64.wrap n=n:=by
 unfold IntKind.wrap
 simp only [IntKind.bits,IntKind.signed]
 have h2:n % (2 ^ 64:Int)=n:=Int.emod_eq_of_lt h0 (by omega)
 simp [h2]
 omega
section
variable {C:dh} {ah:FuncId->(t:Ty)->List Arg->Option t.den}
 {dst:Option Tmp} {type:TypeId} {pos:String} {after:Array Edge} {guard:Option (Nat × Bool)}
theorem dh.DJ {C:dh} {t:TypeId} (h:C.wU t=true):1<=C.bytes t/\C.bytes t<=1048576:=by
 unfold dh.wU at h
 simp only [Bool.and_eq_true] at h
 exact ⟨Nat.le_of_ble_eq_true h.1,Nat.le_of_ble_eq_true h.2⟩
theorem dh.OH {C:dh} {t:TypeId} {i:TypeInfo} (h:C.P.info? t=some i):C.bytes t=i.bytes:=by
 unfold dh.bytes Program.bytesOf
 rw [show C.P.info? t=some i from h]
 rfl
theorem Nq (good:Good C) (t:TypeId) (l c:Operand):mM C ah ⟨dst,.makeSlice t l c,type,pos,after,guard⟩:=by
 intro R F0 G s a w pl κ r Q i ht h
 simp only [mK] at h
 split at h
 ·rename_i e u d he
  split at h
  ·rename_i hby
   obtain ⟨hb1,hb2⟩:=dh.DJ hby
   rw [T.run_bind] at h
   obtain ⟨k1,n,hn,h⟩:=IQ i h
   rw [T.run_bind] at h
   obtain ⟨k2,m,hm,h⟩:=IQ i h
   obtain ⟨h0,h⟩:=T.iR ah h
   obtain ⟨h1,h⟩:=T.iR ah h
   obtain ⟨h2,Mf⟩:=T.iR ah h
   clear h
   obtain ⟨ht,hu⟩:=dh.yg he
   obtain ⟨inf,z,hi,hz,hsz,hzv⟩:=good.zeroOf hu
   obtain ⟨n,rfl⟩:=Int.eq_ofNat_of_zero_le h0
   obtain ⟨m,rfl⟩:=Int.eq_ofNat_of_zero_le (Int.le_trans h0 h1)
   have hbe:=dh.OH hi
   have hnm:n<=m:=by omega
   have hmb:m*C.bytes e<=fF:=by
    have h3:(m:Int)*(C.bytes e:Int)<=(fF:Int):=h2
    exact_mod_cast h3
   have hm1:m<=fF:=Nat.le_trans (by calc m=m*1:=by omega
    _<=m*C.bytes e:=Nat.mul_le_mul_left _ hb1) hmb
   unfold fF at hm1 hmb
   have kI:∃ c':Array Value,c'.size=m*u.sz/\(∀ G h,jy G h u (List.replicate n u.dflt) c'.toList 0)/\(∀ G h,Vv G h u (List.replicate n u.dflt) (List.replicate n (IZ u)) c'.toList 0) /\
     (execOp a.eval ⟨some d,.makeSlice t l c,type,pos,after,guard⟩).run C.P w=.ok (.value (.slice (some ⟨w.heap.size,0,none⟩) n m)) (push w c' e):=by
    have w1:IntKind.i64.wrap (n:Int)=n:=SH (by omega) (by omega)
    have w2:IntKind.i64.wrap (m:Int)=m:=SH (by omega) (by omega)
    have t1:¬ ((m:Int)<0):=by omega
    have t2:¬ ((inf.bytes:Int)*(m:Int) > 2 ^ 48):=by
     rw [<- hbe]
     have:((C.bytes e:Int))*(m:Int)=((m*C.bytes e:Nat):Int):=by push_cast;rw [Int.mul_comm]
     rw [this]
     omega
    have t3:¬ ((n:Int)<0):=by omega
    have t4:¬ ((n:Int) > (m:Int)):=by omega
    by_cases hz0:m*inf.size=0
    ·refine ⟨(Array.range 0).map (fun x=>(#[]:Array Value)[x % (#[]:Array Value).size]!),by rw [<- hsz,hz0];simp,fun G h j x hj=>?_, ?_, ?_⟩
     ·rw [List.getElem?_replicate] at hj
      split at hj
      ·simp at hj
       subst hj
       refine ⟨jR u,Ba,fun q v hq=>?_⟩
       have:q<u.sz:=by have:=(List.getElem?_eq_some_iff.1 hq).1;rwa [iN] at this
       rw [hsz] at hz0
       rcases Nat.mul_eq_zero.1 hz0 with h1 | h1 <;> omega
      ·cases hj
     ·intro G h j x qs hj hq
      obtain ⟨hin,rfl⟩:=List.getElem?_eq_some_iff.1 hj
      obtain ⟨_,rfl⟩:=List.getElem?_eq_some_iff.1 hq
      simp only [List.getElem_replicate]
      refine ⟨jR u,DI,fun q v hq=>?_⟩
      have:q<u.sz:=by have:=(List.getElem?_eq_some_iff.1 hq).1;rwa [iN] at this
      rw [hsz] at hz0
      have hin:j<n:=by simpa using hin
      rcases Nat.mul_eq_zero.1 hz0 with h1 | h1 <;> omega
     ·simp only [execOp,Instr.makeSlice,Sem.run_bind,run_underlying ht,Result.andThen_ok,hn,hm,asInt,asIntOf,Sem.run_pure,run_typeInfo hi,w1,w2,t1,t2,t3,t4,decide_false,Bool.or_self,Bool.false_eq_true,if_false,
       run_askRoom,run_sizeOf hi,Int.toNat_natCast,hz0,if_true,newRow,run_newObj]
      rfl
    ·refine ⟨(Array.range (m*inf.size)).map (z.cells[· % z.cells.size]!),by simp [hsz],fun G h=>by rw [hsz];exact IY hzv n m hnm,fun G h=>by rw [hsz];exact TH hzv n m hnm, ?_⟩
     simp only [execOp,Instr.makeSlice,Sem.run_bind,run_underlying ht,Result.andThen_ok,hn,hm,asInt,asIntOf,Sem.run_pure,run_typeInfo hi,w1,w2,t1,t2,t3,t4,decide_false,Bool.or_self,Bool.false_eq_true,if_false,
       run_askRoom,run_sizeOf hi,Int.toNat_natCast,hz0,if_false,zeroValue,hz,newRow,run_newObj]
     rfl
   obtain ⟨c',hcs,hrow,ac3,kI⟩:=kI
   cases hdt:(C.QJ t).isSome with
   | true=>
    rw [hdt] at Mf
    simp at Mf
   | false=>
   rw [hdt] at Mf
   simp only [cond_false] at Mf
   rw [T.run_bind] at Mf
   obtain ⟨hk,hfin⟩:=nW Mf
   simp only [Int.toNat_natCast] at hfin
   obtain ⟨i',fr⟩:=i.new (key:=aI d 0) (E:=.arr u (List.replicate n u.dflt) .open) (c:=c') (e:=e) (w':=push w c' e) hk rfl (fun i'=>by
    refine ⟨⟨c',e,(0,0),Bb w c' e,Free.zero _,rfl,by rw [hcs];simp;exact Nat.mul_le_mul_right _ hnm, ?_⟩,fun p hp=>⟨⟨fun ho=>(by cases ho),by cases hp;rfl⟩,fun _=>(by cases hp;exact i.Xx)⟩⟩
    intro j z hj
    obtain ⟨es2,h1,h2⟩:=hrow _ _ j z hj
    exact ⟨es2,h1,fun q u hq=>by simpa using h2 q u hq⟩)
   refine tT (v:=.cell (.ref (aI d 0))) kI i' fr ?_ hfin
   refine ⟨u,_,.open,upd_same _ _ _, ?_⟩
   show SliceAt _ (upd pl _ _ _) _ _ _
   rw [upd_same,hcs,List.length_replicate]
   exact zX hnm
  ·simp at h
 ·simp at h
theorem OI {R:Type} {F0:lS} {G:Nat->Prop} {s:St} {a:Act} {w:World} {pl:Nat->Option Pl} {t:Ty} {b:Cell} {v:Value} {κ:List t.den->Option R} {r:R} {ty:TypeId} {d:TypeDesc} (hd:C.P.underlying ty=some d)
  (i:Inv F0 G s a w pl) (hb:fB (mem F0 G w.heap s.ak pl) b v) (h:(s.Dq d t b).run ah κ=some r) :
  ∃ lb news,κ lb=some r/\Src C.P t.sz ty v lb.length news w/\jy G w.heap t lb news 0:=by
 unfold St.Dq at h
 split at h
 ·rename_i x
  have hv:v=.string x:=hb
  refine ⟨bytesOf x,byteCells x,h, ?_, ?_⟩
  ·have:=Src.ofString (P:=C.P) w hd x
   have hl:(bytesOf x).length=x.size:=by simp [bytesOf]
   rw [hl,hv]
   exact this
  ·intro j y hj
   refine ⟨[.int .u8 y],rfl,fun q u hq=>?_⟩
   have:q=0:=by have:=(List.getElem?_eq_some_iff.1 hq).1;simpa using this
   subst this
   simp at hq
   subst hq
   unfold bytesOf at hj
   rw [List.getElem?_map] at hj
   obtain ⟨b',hb',rfl⟩:=Option.map_eq_some_iff.1 hj
   simp [byteCells,Ty.sz,hb']
 ·rename_i e
  unfold St.look at h
  cases hl:jh s.ak .look t b with
  | none=>simp [hl,T.ofOption] at h
  | some x=>
   obtain ⟨l,ids⟩:=x
   simp only [hl,Option.map_some,T.ofOption,T.gK] at h
   have hr:=EI (A:=fun _=>True) (G':=G) i.ak hl hb (fun _ h=>h) (fun _ _=>trivial) (fun _ _ _=>trivial) (fun _ _ _ _=>trivial)
   obtain ⟨a',cap,news,hv,hs,hrw⟩:=Me ⟨e,hd⟩ hr
   exact ⟨l,news,h,hs,hrw⟩
 ·simp at h
theorem Ja {F0:lS} {G:Nat->Prop} {s:St} {a:Act} {w:World} {pl:Nat->Option Pl} (good:Good C) (i:Inv F0 G s a w pl) {t e ty YJ:TypeId} {u:Ty} (ht:C.P.underlying t=some (.slice e)) (hu:C.ty e=some u) (hby:C.wU e=true)
  {l lb:List u.den} {π:Option Pl} {off n:Nat} {v y:Value} {news:List Value} (hle:off+n<=l.length) (hs:SliceAt u.sz π off n v) (ha:pR G w.heap u l π) (hF:∀ p,π=some p->¬ (F0 p.b\/G p.b))
  (hsrc:Src C.P u.sz ty y lb.length news w) (hrow:jy G w.heap u lb news 0) (hm:(n+lb.length)*C.bytes e<=fF) :
  ∃ (w':World) (π':Option Pl) (v':Value),(Builtin.append_ #[t,ty] YJ #[v,y]).run C.P w=.ok v' w'/\SliceAt u.sz π' 0 ((l.drop off).take n++lb).length v'/\pR G w'.heap u ((l.drop off).take n++lb) π' /\
   w.heap.size<=w'.heap.size/\Str F0.mono w w'/\(∀ b,b<w.heap.size->(∀ p,π=some p->b ≠ p.b)->w'.heap[b]? = w.heap[b]?)/\(∀ q,π'=some q->(∃ p,π=some p/\q.b=p.b)\/w.heap.size<=q.b)/\zT π':=by
 obtain ⟨inf,z,hi,hz,hsz,hzv⟩:=good.zeroOf hu
 obtain ⟨hb1,hb2⟩:=dh.DJ hby
 have hbe:=dh.OH hi
 have hln:((l.drop off).take n).length=n:=by simp;omega
 have hlen:((l.drop off).take n++lb).length=n+lb.length:=by simp;omega
 have ab5:∀ b,G b->b<w.heap.size:=fun b hb=>i.ak.lt b (.inr hb)
 have hrd:Rd G w.heap (.list u) (fun _=>True) ((l.drop off).take n) [v]:=zU (fun _ h=>h) hle hs ha (fun _ _=>trivial)
 obtain ⟨base,cap,olds,hv,hdst,hold⟩:=Me (P:=C.P) ⟨e,ht⟩ hrd
 rw [hln] at hv
 have grow:cap<n+lb.length->∃ (w':World) (π':Option Pl) (v':Value),(Builtin.append_ #[t,ty] YJ #[v,y]).run C.P w=.ok v' w'/\SliceAt u.sz π' 0 ((l.drop off).take n++lb).length v'/\pR G w'.heap u ((l.drop off).take n++lb) π' /\
   w.heap.size<=w'.heap.size/\Str F0.mono w w'/\(∀ b,b<w.heap.size->(∀ p,π=some p->b ≠ p.b)->w'.heap[b]? = w.heap[b]?)/\(∀ q,π'=some q->(∃ p,π=some p/\q.b=p.b)\/w.heap.size<=q.b)/\zT π':=by
  intro hc
  have hn1:n+lb.length<=fF:=Nat.le_trans (by calc n+lb.length=(n+lb.length)*1:=by omega
   _<=(n+lb.length)*C.bytes e:=Nat.mul_le_mul_left _ hb1) hm
  unfold fF at hn1
  have hrun:=run_append_grow_src (P:=C.P) w t ty YJ e inf z ht hi hz base n cap olds (by
   have:=hdst.cellsD
   rw [hln,hv] at this
   rw [hsz];exact this) y lb.length news (by rw [hsz];exact hsrc) hc (by omega) (by rw [<- hbe];exact Rj hc hb2 hm)
  have hge:=grownCap_ge w (n+lb.length) cap e
  have hos:olds.length=n*u.sz:=by rw [hdst.newsLen,hln]
  have hzs:z.cells.size=u.sz:=by have:=congrArg List.length hzv;rw [iN] at this;simpa using this
  have hsize:((olds++news).toArray++Builtin.zeroCells z.cells (grownCap w (n+lb.length) cap e - (n+lb.length))).size=grownCap w (n+lb.length) cap e*u.sz:=by
   simp [Builtin.zeroCells,hos,hsrc.newsLen,hzs]
   rw [<- Nat.add_mul,<- Nat.add_mul]
   congr 1
   omega
  have hheap:(w.drew.alloc (.cells ((olds++news).toArray++Builtin.zeroCells z.cells (grownCap w (n+lb.length) cap e - (n+lb.length))) e)).heap=(push w ((olds++news).toArray++Builtin.zeroCells z.cells (grownCap w (n+lb.length) cap e - (n+lb.length))) e).heap:=rfl
  refine ⟨_,some ⟨w.heap.size,0,grownCap w (n+lb.length) cap e*u.sz,[]⟩,_,by rw [hv];exact hrun, ?_, ?_, ?_,by exact ⟨rfl,rfl,rfl,fun _=>Nat.le_succ _⟩,fun b hb _=>?_,fun q hq=>by cases hq;exact .inr (Nat.le_refl _),fun q hq=>by cases hq;rfl⟩
  ·rw [hlen]
   exact zX hge
  ·rw [hheap]
   refine ⟨_,e,(0,0),Bb w _ e,Free.zero _,hsize, ?_, ?_⟩
   ·rw [hlen];simp;exact Nat.mul_le_mul_right _ hge
   ·have happ:jy G w.heap u ((l.drop off).take n++lb) (olds++news++(Builtin.zeroCells z.cells (grownCap w (n+lb.length) cap e - (n+lb.length))).toList) 0:=by
     intro j x hj
     rw [List.getElem?_append] at hj
     split at hj
     ·rename_i hlt
      obtain ⟨es,hes,hq⟩:=hold j x hj
      refine ⟨es,hes,fun q u' hu'=>?_⟩
      have:=hq q u' hu'
      rw [List.append_assoc,List.getElem?_append_left ((List.getElem?_eq_some_iff.1 this).1)]
      exact this
     ·rename_i hge'
      obtain ⟨es,hes,hq⟩:=hrow (j - ((l.drop off).take n).length) x hj
      refine ⟨es,hes,fun q u' hu'=>?_⟩
      have h2:=hq q u' hu'
      have hlt:=(List.getElem?_eq_some_iff.1 h2).1
      rw [hln] at h2 hlt hge'
      have hsum:j*u.sz=n*u.sz+(j - n)*u.sz:=by rw [<- Nat.add_mul];congr 1;omega
      rw [List.append_assoc,List.getElem?_append_right (by omega),List.getElem?_append_left (by omega)]
      rw [show 0+j*u.sz+q - olds.length=0+(j - n)*u.sz+q by omega]
      exact h2
    have aaT:=jy.move (G':=G) (h':=(push w ((olds++news).toArray++Builtin.zeroCells z.cells (grownCap w (n+lb.length) cap e - (n+lb.length))) e).heap) (fun _ h=>h) (fun b hb=>yh w _ e b (ab5 b hb)) happ
    intro j x hj
    obtain ⟨es,h1,h2⟩:=aaT j x hj
    exact ⟨es,h1,fun q u' hq=>by
     have:=h2 q u' hq
     rw [<- Array.getElem?_toList]
     simpa using this⟩
  ·rw [hheap];show _<=(w.heap.push _).size;rw [Array.size_push];exact Nat.le_succ _
  ·rw [hheap];exact yh w _ e b hb
 by_cases hc:cap<n+lb.length
 ·exact grow hc
 ·have hroom:n+lb.length<=cap:=by omega
  cases π with
  | none=>
   obtain ⟨hn0,hv0⟩:=hs
   rw [hv0] at hv
   cases hv
   have hl0:lb.length=0:=by omega
   have hlb:lb=[]:=List.eq_nil_of_length_eq_zero hl0
   subst hlb
   have hnews:news=[]:=List.eq_nil_of_length_eq_zero (by rw [hsrc.newsLen];simp)
   subst hnews
   refine ⟨w,none,.slice none 0 0,by rw [hv0];exact run_append_nothing w t ty YJ e inf ht hi none 0 0 (Nat.le_refl _) y (by rw [hsz];simpa using hsrc), ?_, ?_,Nat.le_refl _,Str.refl _ _,fun _ _ _=>rfl,fun q hq=>(by cases hq),fun q hq=>(by cases hq)⟩
   ·rw [hlen];exact ⟨by simp,rfl⟩
   ·show _++[]=[]
    rw [List.append_nil]
    exact List.eq_nil_of_length_eq_zero (by rw [hln])
  | some p=>
   obtain ⟨A,cap',hv0,hnc,sG,hbig⟩:=hs
   rw [hv0] at hv
   cases hv
   obtain ⟨c,e',fz,hh,hfz,hcs,hll,hx⟩:=ha
   have hsub:jy G w.heap u ((l.drop off).take n) c.toList (p.o+off*u.sz):=by
    intro j x hj
    rw [List.getElem?_take] at hj
    split at hj
    ·rw [List.getElem?_drop] at hj
     obtain ⟨es,hes,hq⟩:=hx _ x hj
     refine ⟨es,hes,fun q u' hu'=>?_⟩
     have:=hq q u' hu'
     rw [Nat.add_mul] at this
     rw [Array.getElem?_toList,show p.o+off*u.sz+j*u.sz+q=p.o+(off*u.sz+j*u.sz)+q by omega]
     exact this
    ·cases hj
   by_cases h0:lb=[]
   ·subst h0
    have hnews:news=[]:=List.eq_nil_of_length_eq_zero (by rw [hsrc.newsLen];simp)
    subst hnews
    refine ⟨w,some ⟨p.b,p.o+off*u.sz,p.size,[]⟩,.slice (some A) n cap,by rw [hv0];exact run_append_nothing w t ty YJ e inf ht hi (some A) n cap hnc y (by rw [hsz];simpa using hsrc), ?_, ?_,Nat.le_refl _,Str.refl _ _,fun _ _ _=>rfl,fun q hq=>by cases hq;exact .inl ⟨p,rfl,rfl⟩,fun q hq=>by cases hq;rfl⟩
    ·rw [hlen]
     refine ⟨A,cap,by simp,by simpa using hnc,fun hcap=>by rw [sG hcap];simp, ?_⟩
     show p.o+off*u.sz+(0+cap)*u.sz<=p.size
     rw [Nat.add_mul] at hbig
     rw [Nat.zero_add]
     omega
    ·rw [List.append_nil]
     refine ⟨c,e',fz,hh,hfz,hcs, ?_,fun j x hj=>?_⟩
     ·rw [hln]
      show p.o+off*u.sz+n*u.sz<=p.size
      have:n*u.sz<=cap*u.sz:=Nat.mul_le_mul_right _ hnc
      rw [Nat.add_mul] at hbig
      omega
     ·obtain ⟨es,h1,h2⟩:=hsub j x hj
      exact ⟨es,h1,fun q u' hq=>by simpa using h2 q u' hq⟩
   ·have ads:0<lb.length:=List.length_pos_iff.2 h0
    obtain rfl:=sG (by omega)
    have hfit:p.o+off*u.sz+n*u.sz+news.length<=c.size:=by
     rw [hsrc.newsLen,hcs]
     have:(n+lb.length)*u.sz<=cap*u.sz:=Nat.mul_le_mul_right _ hroom
     rw [Nat.add_mul] at this hbig
     omega
    have hrun:=run_append_room_src (P:=C.P) w t ty YJ e inf ht hi p.b (p.o+off*u.sz) n cap y lb.length news (by rw [hsz];exact hsrc) hroom
     (by rw [hsz];exact zY hh hfit) (by rw [hsz];exact Cu hh hfz hfit)
    rw [hsz,rG p.b e' fz news _ c w hh hfit] at hrun
    have hrow2:=jy.append hsub hrow hsrc.newsLen (by rw [hln];simpa using hfit)
    rw [hln] at hrow2
    refine ⟨_,some ⟨p.b,p.o+off*u.sz,p.size,[]⟩,_,by rw [hv0];exact hrun, ?_, ?_,by simp,by exact ⟨rfl,rfl,rfl,fun _=>Nat.le_refl _⟩,fun b hb hne=>setRow_other w p.b b _ (hne p rfl),fun q hq=>by cases hq;exact .inl ⟨p,rfl,rfl⟩,fun q hq=>by cases hq;rfl⟩
    ·rw [hlen]
     refine ⟨_,cap,rfl,hroom,fun _=>by simp, ?_⟩
     show p.o+off*u.sz+(0+cap)*u.sz<=p.size
     rw [Nat.add_mul] at hbig
     rw [Nat.zero_add]
     omega
    ·refine ⟨_,e',fz,setRow_heap w p.b c _ e' fz hh, ?_, ?_, ?_, ?_⟩
     ·intro o' ho';refine hfz o' ?_;simp at ho';omega
     ·simp;omega
     ·rw [hlen]
      show p.o+off*u.sz+(n+lb.length)*u.sz<=p.size
      have:=hsrc.newsLen
      rw [Nat.add_mul]
      omega
     ·have hrow3:=jy.move (G':=G) (h':=(w.setRow p.b (c.toList.take (p.o+off*u.sz+n*u.sz)++news++c.toList.drop (p.o+off*u.sz+n*u.sz+news.length)).toArray).heap) (fun _ h=>h)
       (fun b hb=>setRow_other w p.b b _ (fun e=>hF p rfl (.inr (e ▸ hb)))) hrow2
      intro j x hj
      obtain ⟨es,h1,h2⟩:=hrow3 j x hj
      exact ⟨es,h1,fun q u' hq=>by simpa using h2 q u' hq⟩
theorem SliceAt.one {sz:Nat} {π:Option Pl} {off n:Nat} {v:Value} (h:SliceAt sz π off n v):one v=true:=by
 cases π with
 | none=>obtain ⟨_,rfl⟩:=h;rfl
 | some p=>obtain ⟨a,cap,rfl,_⟩:=h;rfl
theorem cZ.one {own:Bool} {G:Nat->Prop} {h:Array Obj}:∀ {t:Ty} {x:t.den} {cs:List Value} {ps:List (Option Pl)},cZ own G h t x cs ps->∀ u ∈ cs,one u=true
 | .bool,_,_,_,⟨_,e⟩,u,hu=>by subst e;simp at hu;subst hu;rfl
 | .int _,_,_,_,⟨_,e⟩,u,hu=>by subst e;simp at hu;subst hu;rfl
 | .str,_,_,_,⟨_,e⟩,u,hu=>by subst e;simp at hu;subst hu;rfl
 | .unit,_,_,_,⟨_,e⟩,u,hu=>by subst e;simp at hu
 | .list t,l,cs,ps,H,u,hu=>by
  simp only [cZ] at H
  split at H
  ·obtain ⟨v,π,rfl,rfl,h1,h2,h3⟩:=H
   simp only [List.mem_singleton] at hu
   subst hu
   exact SliceAt.one h1
  ·exact H.2.one u hu
 | .bR t,l,cs,ps,H,u,hu=>by
  simp only [cZ] at H
  split at H
  ·obtain ⟨v,π,rfl,rfl,h1,h2⟩:=H
   simp only [List.mem_singleton] at hu
   subst hu
   exact SliceAt.one h1
  ·exact H.2.one u hu
 | .pair a b,x,cs,ps,⟨c,d,p,q,h1,h2,h3,h4⟩,u,hu=>by
  subst h1
  rcases List.mem_append.1 hu with hu | hu
  ·exact h3.one u hu
  ·exact h4.one u hu
theorem TI (good:Good C) (args:Array Operand) (argTypes:Array TypeId):mM C ah ⟨dst,.call ⟨.builtin .append,args,argTypes⟩,type,pos,after,guard⟩:=by
 intro R F0 G s a w pl κ r Q i ht h
 simp only [mK] at h
 split at h
 ·rename_i x y t ty d hargs ab6
  split at h
  ·rename_i ca cb e u ds hsx hsy he hds
   split at h
   ·rename_i hby
    obtain ⟨ht,hu⟩:=dh.yg he
    have hx:=i.slot x
    have hy:=i.slot y
    rw [hsx] at hx
    rw [hsy] at hy
    have hargs':args=#[x,y]:=by apply Array.ext';simpa using hargs
    have aaU:argTypes=#[t,ty]:=by apply Array.ext';simpa using ab6
    subst hargs' aaU
    have kI:∀ {v':Value} {w':World},(Builtin.append_ #[t,ty] type #[a.eval x,a.eval y]).run C.P w=.ok v' w'->
      (execOp a.eval ⟨some d,.call ⟨.builtin .append,#[x,y],#[t,ty]⟩,type,pos,after,guard⟩).run C.P w=.ok (.value v') w':=by
     intro v' w' hr
     simp only [execOp,resolve,Sem.run_bind,invoke,builtin,Sem.run_pure,Result.andThen_ok,List.map_toArray,List.map_cons,List.map_nil,hr]
    by_cases aaV:(C.QJ t).isSome=true
    ·simp only [aaV,cond_true] at h
     simp at h
    simp only [Bool.eq_false_iff.2 aaV,cond_false] at h
    rw [T.run_bind] at h
    obtain ⟨lb,news,h',hsrc,hrow⟩:=OI hds i hy h
    clear h
    have h:=h'
    clear h'
    have own:∀ {v:Ty} {l:List v.den} {l':List u.den} {id off n:Nat},s.ak id=some (.arr v l .open)->fM (u:=u) l=some l'->off+n<=l.length->SliceAt v.sz (pl id) off n (a.eval x)->
      (T.test ((n+lb.length)*C.bytes e<=fF) (({ s.kill id with ak:=upd (s.kill id).ak id (some (.arr u ((l'.drop off).take n++lb) .open)) }).put (some d) (.cell (.ref id))) .fail).run ah κ=some r->
      Oper.wp C.P ⟨some d,.call ⟨.builtin .append,#[x,y],#[t,ty]⟩,type,pos,after,guard⟩ a w (zJ F0 G w κ r) Q:=by
     intro v l l' id off n hst hcast hle hsl h
     obtain ⟨rfl,rfl⟩:=gQ hcast
     obtain ⟨hm,h⟩:=T.iR ah h
     obtain ⟨ha,hown⟩:=i.ak.ent id _ hst
     have hF:∀ p,pl id=some p->¬ (F0 p.b\/G p.b):=fun p hp=>(hown p hp).2 (by simp)
     obtain ⟨w',π',v',hrun,Zr,ha',hsz,hstr,hh,hnew,IW⟩:=Ja (YJ:=type) good i ht hu hby hle hsl ha hF hsrc hrow hm
     obtain ⟨i',fr⟩:=i.aaS hst (l':=(l.drop off).take n++lb) hF hsz hstr hh ha' IW hnew
     refine tT (v:=.cell (.ref id)) (kI hrun) i' fr ?_ h
     refine ⟨v,_,.open,upd_same _ _ _, ?_⟩
     show SliceAt _ (upd pl id π' id) _ _ _
     rw [upd_same]
     exact Zr
    unfold St.append at h
    split at h
    ·have hx:a.eval x=.slice none 0 0:=hx
     obtain ⟨hm,h⟩:=T.iR ah h
     rw [T.run_bind] at h
     obtain ⟨hk,h⟩:=nW h
     obtain ⟨w',π',v',hrun,Zr,ha',hsz,hstr,hh,hnew,IW⟩:=Ja (YJ:=type) (l:=([]:List u.den)) (lb:=lb) (π:=none) (off:=0) (n:=0) (v:=a.eval x) good i ht hu hby (by simp) ⟨rfl,hx⟩ rfl (fun p hp=>by cases hp) hsrc hrow (by simpa using hm)
     obtain ⟨i1,Nk⟩:=i.grow (w':=w') (G':=G) hsz hstr (fun b hb=>hh b hb (fun p hp=>by cases hp)) (fun _ h=>h) (fun _ h=>.inl h)
     have hq:∀ q,π'=some q->w.heap.size<=q.b:=fun q hq=>by
      rcases hnew q hq with ⟨p,hp,_⟩ | h
      ·cases hp
      ·exact h
     have i2:=i1.add (key:=aI d 0) (E:=.arr u lb .open) (π:=π') hk ⟨(by show pR G w'.heap u lb π';simpa using ha'),fun q hq'=>⟨⟨fun ho=>(by cases ho),IW q hq'⟩,fun _ hF=>Nat.lt_irrefl _ (Nat.lt_of_lt_of_le (i.ak.lt _ hF) (hq q hq'))⟩⟩
      (fun j ej p q hj hp hq' b hb hb'=>by
       simp only [Entry.bs,List.mem_singleton] at hb'
       subst hb'
       exact Nat.lt_irrefl _ (Nat.lt_of_lt_of_le (i.ak.pU hj hp _ hb) (hq q hq')))
     refine tT (v:=.cell (.ref (aI d 0))) (kI hrun) i2 Nk ?_ h
     refine ⟨u,_,.open,upd_same _ _ _, ?_⟩
     show SliceAt _ (upd pl _ π' _) _ _ _
     rw [upd_same]
     simpa using Zr
    ·rename_i id
     obtain ⟨v,l,o,hst,hsl⟩:=hx
     have hst:s.ak id=some (.arr v l o):=hst
     rw [hst] at h
     cases o <;> simp only at h <;> try (simp at h;done)
     split at h
     ·rename_i l' hcast
      obtain ⟨hvu,rfl⟩:=gQ hcast
      subst hvu
      refine own (off:=0) (n:=l.length) hst hcast (by simp) hsl ?_
      simpa using h
     ·simp at h
    ·rename_i id off n
     obtain ⟨v,l,o,hst,hle,hsl⟩:=hx
     have hst:s.ak id=some (.arr v l o):=hst
     rw [hst] at h
     cases o <;> simp only at h <;> try (simp at h;done)
     split at h
     ·rename_i l' hcast
      exact own hst hcast hle hsl h
     ·simp at h
    ·simp at h
   ·simp at h
  ·simp at h
 ·simp at h
end
end Go.Flat
