/- The operations make, append, clear. No condition. -/
import Derived.Test.YtmocpfgfjeaelaaGreatOps7
set_option linter.unusedVariables false
set_option linter.unusedSimpArgs false
namespace Go.Flat
theorem OX {n:Int} (h0:0<=n) (h1:n<9223372036854775808):IntKind.i64.wrap n=n:=by
 unfold IntKind.wrap
 simp only [IntKind.bits,IntKind.signed]
 have h2:n % (2 ^ 64:Int)=n:=Int.emod_eq_of_lt h0 (by omega)
 simp [h2]
 omega
section
variable {C:aZ} {ah:FuncId->(t:Ty)->List Arg->Option t.den}
 {dst:Option Tmp} {type:TypeId} {pos:String} {after:Array Edge} {guard:Option (Nat × Bool)}
theorem aZ.vv {C:aZ} {t:TypeId} (h:C.nk t=true):1<=C.bytes t/\C.bytes t<=1048576:=by
 unfold aZ.nk at h
 simp only [Bool.and_eq_true] at h
 exact ⟨Nat.le_of_ble_eq_true h.1,Nat.le_of_ble_eq_true h.2⟩
theorem aZ.FH {C:aZ} {t:TypeId} {i:TypeInfo} (h:C.P.info? t=some i):C.bytes t=i.bytes:=by
 unfold aZ.bytes Program.bytesOf
 rw [show C.P.info? t=some i from h]
 rfl
theorem Kl (good:Good C) (t:TypeId) (l c:Operand):kD C ah ⟨dst,.makeSlice t l c,type,pos,after,guard⟩:=by
 intro R F0 G s a w pl κ r Q i ht h
 simp only [jT] at h
 split at h
 ·rename_i e u d he
  split at h
  ·rename_i hby
   obtain ⟨hb1,hb2⟩:=aZ.vv hby
   rw [T.run_bind] at h
   obtain ⟨k1,n,hn,h⟩:=FB i h
   rw [T.run_bind] at h
   obtain ⟨k2,m,hm,h⟩:=FB i h
   obtain ⟨h0,h⟩:=T.eF ah h
   obtain ⟨h1,h⟩:=T.eF ah h
   obtain ⟨h2,Dx⟩:=T.eF ah h
   clear h
   obtain ⟨ht,hu⟩:=aZ.qW he
   obtain ⟨inf,z,hi,hz,hsz,hzv⟩:=good.zeroOf hu
   obtain ⟨n,rfl⟩:=Int.eq_ofNat_of_zero_le h0
   obtain ⟨m,rfl⟩:=Int.eq_ofNat_of_zero_le (Int.le_trans h0 h1)
   have hbe:=aZ.FH hi
   have hnm:n<=m:=by omega
   have hmb:m*C.bytes e<=bN:=by
    have h3:(m:Int)*(C.bytes e:Int)<=(bN:Int):=h2
    exact_mod_cast h3
   have hm1:m<=bN:=Nat.le_trans (by calc m=m*1:=by omega
    _<=m*C.bytes e:=Nat.mul_le_mul_left _ hb1) hmb
   unfold bN at hm1 hmb
   have gq:∃ c':Array Value,c'.size=m*u.sz/\(∀ G h,iF G h u (List.replicate n u.dflt) c'.toList 0)/\(∀ G h,oK G h u (List.replicate n u.dflt) (List.replicate n (jV u)) c'.toList 0) /\
     (execOp a.eval ⟨some d,.makeSlice t l c,type,pos,after,guard⟩).run C.P w=.ok (.value (.slice (some ⟨w.heap.size,0,none⟩) n m)) (push w c' e):=by
    have w1:IntKind.i64.wrap (n:Int)=n:=OX (by omega) (by omega)
    have w2:IntKind.i64.wrap (m:Int)=m:=OX (by omega) (by omega)
    have t1:¬ ((m:Int)<0):=by omega
    have t2:¬ ((inf.bytes:Int)*(m:Int) > 2 ^ 48):=by
     rw [<- hbe]
     have:((C.bytes e:Int))*(m:Int)=((m*C.bytes e:Nat):Int):=by push_cast;rw [Int.mul_comm]
     rw [this]
     omega
    have t3:¬ ((n:Int)<0):=by omega
    have t4:¬ ((n:Int) > (m:Int)):=by omega
    by_cases hz0:m*inf.size=0
    ·refine ⟨(Array.range 0).map (fun x=>(#[]:Array Value)[x % (#[]:Array Value).size]!),by rw [<- hsz,hz0];simp,fun G h j x hj=>?_, ?_, ?_⟩
     ·rw [List.getElem?_replicate] at hj
      split at hj
      ·simp at hj
       subst hj
       refine ⟨iN u,yD,fun q v hq=>?_⟩
       have:q<u.sz:=by have:=(List.getElem?_eq_some_iff.1 hq).1;rwa [fH] at this
       rw [hsz] at hz0
       rcases Nat.mul_eq_zero.1 hz0 with h1 | h1 <;> omega
      ·cases hj
     ·intro G h j x qs hj hq
      obtain ⟨hin,rfl⟩:=List.getElem?_eq_some_iff.1 hj
      obtain ⟨_,rfl⟩:=List.getElem?_eq_some_iff.1 hq
      simp only [List.getElem_replicate]
      refine ⟨iN u,xk,fun q v hq=>?_⟩
      have:q<u.sz:=by have:=(List.getElem?_eq_some_iff.1 hq).1;rwa [fH] at this
      rw [hsz] at hz0
      have hin:j<n:=by simpa using hin
      rcases Nat.mul_eq_zero.1 hz0 with h1 | h1 <;> omega
     ·simp only [execOp,Instr.makeSlice,Sem.run_bind,run_underlying ht,Result.andThen_ok,hn,hm,asInt,asIntOf,Sem.run_pure,run_typeInfo hi,w1,w2,t1,t2,t3,t4,decide_false,Bool.or_self,Bool.false_eq_true,if_false,
       run_askRoom,run_sizeOf hi,Int.toNat_natCast,hz0,if_true,newRow,run_newObj]
      rfl
    ·refine ⟨(Array.range (m*inf.size)).map (z.cells[· % z.cells.size]!),by simp [hsz],fun G h=>by rw [hsz];exact FC hzv n m hnm,fun G h=>by rw [hsz];exact Jh hzv n m hnm, ?_⟩
     simp only [execOp,Instr.makeSlice,Sem.run_bind,run_underlying ht,Result.andThen_ok,hn,hm,asInt,asIntOf,Sem.run_pure,run_typeInfo hi,w1,w2,t1,t2,t3,t4,decide_false,Bool.or_self,Bool.false_eq_true,if_false,
       run_askRoom,run_sizeOf hi,Int.toNat_natCast,hz0,if_false,zeroValue,hz,newRow,run_newObj]
     rfl
   obtain ⟨c',hcs,hrow,Wy,gq⟩:=gq
   cases hdt:(C.Fb t).isSome with
   | true=>
    rw [hdt] at Dx
    simp only [cond_true] at Dx
    rw [T.run_bind] at Dx
    obtain ⟨hk,hfin⟩:=jr Dx
    simp only [Int.toNat_natCast] at hfin
    have hz0:((List.replicate n (jV u)).flatten.filterMap id).map Pl.b=[]:=by
     have:(List.replicate n (jV u)).flatten.filterMap id=[]:=by
      rw [List.filterMap_eq_nil_iff]
      intro q hq
      cases q with
      | none=>rfl
      | some q=>exact absurd hq vo
     rw [this];rfl
    obtain ⟨i',fr⟩:=i.UR (key:=ak d 0) (E:=.deep u (List.replicate n u.dflt) none) (c:=c') (e:=e) (w':=push w c' e) (List.replicate n (jV u)) hk rfl (fun _ _ _ _ _ b _ hb=>by simp only [Pl.tT,hz0] at hb;cases hb) (fun i'=>by
     refine ⟨⟨c',e,(0,0),qL w c' e,Free.zero _,rfl,by rw [hcs];simp;exact Nat.mul_le_mul_right _ hnm,by simp,by simp only [Pl.bs,Pl.tT,hz0];simp,fun q hq=>absurd hq vo, ?_⟩,fun p hp=>?_⟩
     ·intro j z qs hj hq
      obtain ⟨es2,h1,h2⟩:=Wy _ _ j z qs hj hq
      exact ⟨es2,h1,fun q u hq=>by simpa using h2 q u hq⟩
     ·cases hp
      refine ⟨fun b hb2=>?_,fun k hk=>by cases hk⟩
      simp only [Pl.bs,Pl.tT,hz0,List.mem_singleton] at hb2
      subst hb2
      exact ⟨by show _<(w.heap.push _).size;rw [Array.size_push];exact Nat.lt_succ_self _,i.PN⟩)
    refine lG (v:=.cell (.fE (ak d 0))) gq i' fr ?_ hfin
    refine ⟨u,_,none,upd_same _ _ _, ?_⟩
    show SliceAt _ (upd pl _ _ _) _ _ _
    rw [upd_same,hcs,List.length_replicate]
    exact nP hnm
   | false=>
   rw [hdt] at Dx
   simp only [cond_false] at Dx
   rw [T.run_bind] at Dx
   obtain ⟨hk,hfin⟩:=jr Dx
   simp only [Int.toNat_natCast] at hfin
   obtain ⟨i',fr⟩:=i.new (key:=ak d 0) (E:=.arr u (List.replicate n u.dflt) .open) (c:=c') (e:=e) (w':=push w c' e) hk rfl (fun i'=>by
    refine ⟨⟨c',e,(0,0),qL w c' e,Free.zero _,rfl,by rw [hcs];simp;exact Nat.mul_le_mul_right _ hnm, ?_⟩,fun p hp=>⟨⟨fun ho=>(by cases ho),by cases hp;rfl⟩,fun _=>(by cases hp;exact i.PN)⟩⟩
    intro j z hj
    obtain ⟨es2,h1,h2⟩:=hrow _ _ j z hj
    exact ⟨es2,h1,fun q u hq=>by simpa using h2 q u hq⟩)
   refine lG (v:=.cell (.ref (ak d 0))) gq i' fr ?_ hfin
   refine ⟨u,_,.open,upd_same _ _ _, ?_⟩
   show SliceAt _ (upd pl _ _ _) _ _ _
   rw [upd_same,hcs,List.length_replicate]
   exact nP hnm
  ·simp at h
 ·simp at h
theorem LG {R:Type} {F0:jo} {G:Nat->Prop} {s:St} {a:Act} {w:World} {pl:Nat->Option Pl} {t:Ty} {b:Cell} {v:Value} {κ:List t.den->Option R} {r:R} {ty:TypeId} {d:TypeDesc} (hd:C.P.underlying ty=some d)
  (i:Inv F0 G s a w pl) (hb:bO (mem F0 G w.heap s.aj pl) b v) (h:(s.wP d t b).run ah κ=some r) :
  ∃ lb news,κ lb=some r/\Src C.P t.sz ty v lb.length news w/\iF G w.heap t lb news 0:=by
 unfold St.wP at h
 split at h
 ·rename_i x
  have hv:v=.string x:=hb
  refine ⟨bytesOf x,byteCells x,h, ?_, ?_⟩
  ·have:=Src.ofString (P:=C.P) w hd x
   have hl:(bytesOf x).length=x.size:=by simp [bytesOf]
   rw [hl,hv]
   exact this
  ·intro j y hj
   refine ⟨[.int .u8 y],rfl,fun q u hq=>?_⟩
   have:q=0:=by have:=(List.getElem?_eq_some_iff.1 hq).1;simpa using this
   subst this
   simp at hq
   subst hq
   unfold bytesOf at hj
   rw [List.getElem?_map] at hj
   obtain ⟨b',hb',rfl⟩:=Option.map_eq_some_iff.1 hj
   simp [byteCells,Ty.sz,hb']
 ·rename_i e
  unfold St.look at h
  cases hl:gN s.aj .look t b with
  | none=>simp [hl,T.ofOption] at h
  | some x=>
   obtain ⟨l,ids⟩:=x
   simp only [hl,Option.map_some,T.ofOption,T.bK] at h
   have hr:=Ca (A:=fun _=>True) (G':=G) i.aj hl hb (fun _ h=>h) (fun _ _=>trivial) (fun _ _ _=>trivial) (fun _ _ _ _=>trivial)
   obtain ⟨a',cap,news,hv,hs,hrw⟩:=Jk ⟨e,hd⟩ hr
   exact ⟨l,news,h,hs,hrw⟩
 ·simp at h
theorem FI {F0:jo} {G:Nat->Prop} {s:St} {a:Act} {w:World} {pl:Nat->Option Pl} (good:Good C) (i:Inv F0 G s a w pl) {t e ty ER:TypeId} {u:Ty} (ht:C.P.underlying t=some (.slice e)) (hu:C.ty e=some u) (hby:C.nk e=true)
  {l lb:List u.den} {π:Option Pl} {off n:Nat} {v y:Value} {news:List Value} (hle:off+n<=l.length) (hs:SliceAt u.sz π off n v) (ha:lS G w.heap u l π) (hF:∀ p,π=some p->¬ (F0 p.b\/G p.b))
  (hsrc:Src C.P u.sz ty y lb.length news w) (hrow:iF G w.heap u lb news 0) (hm:(n+lb.length)*C.bytes e<=bN) :
  ∃ (w':World) (π':Option Pl) (v':Value),(Builtin.append_ #[t,ty] ER #[v,y]).run C.P w=.ok v' w'/\SliceAt u.sz π' 0 ((l.drop off).take n++lb).length v'/\lS G w'.heap u ((l.drop off).take n++lb) π' /\
   w.heap.size<=w'.heap.size/\Str F0.mono w w'/\(∀ b,b<w.heap.size->(∀ p,π=some p->b ≠ p.b)->w'.heap[b]? = w.heap[b]?)/\(∀ q,π'=some q->(∃ p,π=some p/\q.b=p.b)\/w.heap.size<=q.b)/\uX π':=by
 obtain ⟨inf,z,hi,hz,hsz,hzv⟩:=good.zeroOf hu
 obtain ⟨hb1,hb2⟩:=aZ.vv hby
 have hbe:=aZ.FH hi
 have hln:((l.drop off).take n).length=n:=by simp;omega
 have hlen:((l.drop off).take n++lb).length=n+lb.length:=by simp;omega
 have XW:∀ b,G b->b<w.heap.size:=fun b hb=>i.aj.lt b (.inr hb)
 have hrd:Rd G w.heap (.list u) (fun _=>True) ((l.drop off).take n) [v]:=wV (fun _ h=>h) hle hs ha (fun _ _=>trivial)
 obtain ⟨base,cap,olds,hv,hdst,hold⟩:=Jk (P:=C.P) ⟨e,ht⟩ hrd
 rw [hln] at hv
 have grow:cap<n+lb.length->∃ (w':World) (π':Option Pl) (v':Value),(Builtin.append_ #[t,ty] ER #[v,y]).run C.P w=.ok v' w'/\SliceAt u.sz π' 0 ((l.drop off).take n++lb).length v'/\lS G w'.heap u ((l.drop off).take n++lb) π' /\
   w.heap.size<=w'.heap.size/\Str F0.mono w w'/\(∀ b,b<w.heap.size->(∀ p,π=some p->b ≠ p.b)->w'.heap[b]? = w.heap[b]?)/\(∀ q,π'=some q->(∃ p,π=some p/\q.b=p.b)\/w.heap.size<=q.b)/\uX π':=by
  intro hc
  have hn1:n+lb.length<=bN:=Nat.le_trans (by calc n+lb.length=(n+lb.length)*1:=by omega
   _<=(n+lb.length)*C.bytes e:=Nat.mul_le_mul_left _ hb1) hm
  unfold bN at hn1
  have hrun:=run_append_grow_src (P:=C.P) w t ty ER e inf z ht hi hz base n cap olds (by
   have:=hdst.cellsD
   rw [hln,hv] at this
   rw [hsz];exact this) y lb.length news (by rw [hsz];exact hsrc) hc (by omega) (by rw [<- hbe];exact FE hc hb2 hm)
  have hge:=grownCap_ge w (n+lb.length) cap e
  have hos:olds.length=n*u.sz:=by rw [hdst.newsLen,hln]
  have hzs:z.cells.size=u.sz:=by have:=congrArg List.length hzv;rw [fH] at this;simpa using this
  have hsize:((olds++news).toArray++Builtin.zeroCells z.cells (grownCap w (n+lb.length) cap e - (n+lb.length))).size=grownCap w (n+lb.length) cap e*u.sz:=by
   simp [Builtin.zeroCells,hos,hsrc.newsLen,hzs]
   rw [<- Nat.add_mul,<- Nat.add_mul]
   congr 1
   omega
  have hheap:(w.drew.alloc (.cells ((olds++news).toArray++Builtin.zeroCells z.cells (grownCap w (n+lb.length) cap e - (n+lb.length))) e)).heap=(push w ((olds++news).toArray++Builtin.zeroCells z.cells (grownCap w (n+lb.length) cap e - (n+lb.length))) e).heap:=rfl
  refine ⟨_,some ⟨w.heap.size,0,grownCap w (n+lb.length) cap e*u.sz,[]⟩,_,by rw [hv];exact hrun, ?_, ?_, ?_,by exact ⟨rfl,rfl,rfl,fun _=>Nat.le_succ _⟩,fun b hb _=>?_,fun q hq=>by cases hq;exact .inr (Nat.le_refl _),fun q hq=>by cases hq;rfl⟩
  ·rw [hlen]
   exact nP hge
  ·rw [hheap]
   refine ⟨_,e,(0,0),qL w _ e,Free.zero _,hsize, ?_, ?_⟩
   ·rw [hlen];simp;exact Nat.mul_le_mul_right _ hge
   ·have happ:iF G w.heap u ((l.drop off).take n++lb) (olds++news++(Builtin.zeroCells z.cells (grownCap w (n+lb.length) cap e - (n+lb.length))).toList) 0:=by
     intro j x hj
     rw [List.getElem?_append] at hj
     split at hj
     ·rename_i hlt
      obtain ⟨es,hes,hq⟩:=hold j x hj
      refine ⟨es,hes,fun q u' hu'=>?_⟩
      have:=hq q u' hu'
      rw [List.append_assoc,List.getElem?_append_left ((List.getElem?_eq_some_iff.1 this).1)]
      exact this
     ·rename_i hge'
      obtain ⟨es,hes,hq⟩:=hrow (j - ((l.drop off).take n).length) x hj
      refine ⟨es,hes,fun q u' hu'=>?_⟩
      have h2:=hq q u' hu'
      have hlt:=(List.getElem?_eq_some_iff.1 h2).1
      rw [hln] at h2 hlt hge'
      have hsum:j*u.sz=n*u.sz+(j - n)*u.sz:=by rw [<- Nat.add_mul];congr 1;omega
      rw [List.append_assoc,List.getElem?_append_right (by omega),List.getElem?_append_left (by omega)]
      rw [show 0+j*u.sz+q - olds.length=0+(j - n)*u.sz+q by omega]
      exact h2
    have Wz:=iF.move (G':=G) (h':=(push w ((olds++news).toArray++Builtin.zeroCells z.cells (grownCap w (n+lb.length) cap e - (n+lb.length))) e).heap) (fun _ h=>h) (fun b hb=>nZ w _ e b (XW b hb)) happ
    intro j x hj
    obtain ⟨es,h1,h2⟩:=Wz j x hj
    exact ⟨es,h1,fun q u' hq=>by
     have:=h2 q u' hq
     rw [<- Array.getElem?_toList]
     simpa using this⟩
  ·rw [hheap];show _<=(w.heap.push _).size;rw [Array.size_push];exact Nat.le_succ _
  ·rw [hheap];exact nZ w _ e b hb
 by_cases hc:cap<n+lb.length
 ·exact grow hc
 ·have hroom:n+lb.length<=cap:=by omega
  cases π with
  | none=>
   obtain ⟨hn0,hv0⟩:=hs
   rw [hv0] at hv
   cases hv
   have hl0:lb.length=0:=by omega
   have hlb:lb=[]:=List.eq_nil_of_length_eq_zero hl0
   subst hlb
   have hnews:news=[]:=List.eq_nil_of_length_eq_zero (by rw [hsrc.newsLen];simp)
   subst hnews
   refine ⟨w,none,.slice none 0 0,by rw [hv0];exact run_append_nothing w t ty ER e inf ht hi none 0 0 (Nat.le_refl _) y (by rw [hsz];simpa using hsrc), ?_, ?_,Nat.le_refl _,Str.refl _ _,fun _ _ _=>rfl,fun q hq=>(by cases hq),fun q hq=>(by cases hq)⟩
   ·rw [hlen];exact ⟨by simp,rfl⟩
   ·show _++[]=[]
    rw [List.append_nil]
    exact List.eq_nil_of_length_eq_zero (by rw [hln])
  | some p=>
   obtain ⟨A,cap',hv0,hnc,nO,hbig⟩:=hs
   rw [hv0] at hv
   cases hv
   obtain ⟨c,e',fz,hh,hfz,hcs,hll,hx⟩:=ha
   have hsub:iF G w.heap u ((l.drop off).take n) c.toList (p.o+off*u.sz):=by
    intro j x hj
    rw [List.getElem?_take] at hj
    split at hj
    ·rw [List.getElem?_drop] at hj
     obtain ⟨es,hes,hq⟩:=hx _ x hj
     refine ⟨es,hes,fun q u' hu'=>?_⟩
     have:=hq q u' hu'
     rw [Nat.add_mul] at this
     rw [Array.getElem?_toList,show p.o+off*u.sz+j*u.sz+q=p.o+(off*u.sz+j*u.sz)+q by omega]
     exact this
    ·cases hj
   by_cases h0:lb=[]
   ·subst h0
    have hnews:news=[]:=List.eq_nil_of_length_eq_zero (by rw [hsrc.newsLen];simp)
    subst hnews
    refine ⟨w,some ⟨p.b,p.o+off*u.sz,p.size,[]⟩,.slice (some A) n cap,by rw [hv0];exact run_append_nothing w t ty ER e inf ht hi (some A) n cap hnc y (by rw [hsz];simpa using hsrc), ?_, ?_,Nat.le_refl _,Str.refl _ _,fun _ _ _=>rfl,fun q hq=>by cases hq;exact .inl ⟨p,rfl,rfl⟩,fun q hq=>by cases hq;rfl⟩
    ·rw [hlen]
     refine ⟨A,cap,by simp,by simpa using hnc,fun hcap=>by rw [nO hcap];simp, ?_⟩
     show p.o+off*u.sz+(0+cap)*u.sz<=p.size
     rw [Nat.add_mul] at hbig
     rw [Nat.zero_add]
     omega
    ·rw [List.append_nil]
     refine ⟨c,e',fz,hh,hfz,hcs, ?_,fun j x hj=>?_⟩
     ·rw [hln]
      show p.o+off*u.sz+n*u.sz<=p.size
      have:n*u.sz<=cap*u.sz:=Nat.mul_le_mul_right _ hnc
      rw [Nat.add_mul] at hbig
      omega
     ·obtain ⟨es,h1,h2⟩:=hsub j x hj
      exact ⟨es,h1,fun q u' hq=>by simpa using h2 q u' hq⟩
   ·have Zq:0<lb.length:=List.length_pos_iff.2 h0
    obtain rfl:=nO (by omega)
    have hfit:p.o+off*u.sz+n*u.sz+news.length<=c.size:=by
     rw [hsrc.newsLen,hcs]
     have:(n+lb.length)*u.sz<=cap*u.sz:=Nat.mul_le_mul_right _ hroom
     rw [Nat.add_mul] at this hbig
     omega
    have hrun:=run_append_room_src (P:=C.P) w t ty ER e inf ht hi p.b (p.o+off*u.sz) n cap y lb.length news (by rw [hsz];exact hsrc) hroom
     (by rw [hsz];exact sD hh hfit) (by rw [hsz];exact vk hh hfz hfit)
    rw [hsz,mH p.b e' fz news _ c w hh hfit] at hrun
    have hrow2:=iF.append hsub hrow hsrc.newsLen (by rw [hln];simpa using hfit)
    rw [hln] at hrow2
    refine ⟨_,some ⟨p.b,p.o+off*u.sz,p.size,[]⟩,_,by rw [hv0];exact hrun, ?_, ?_,by simp,by exact ⟨rfl,rfl,rfl,fun _=>Nat.le_refl _⟩,fun b hb hne=>setRow_other w p.b b _ (hne p rfl),fun q hq=>by cases hq;exact .inl ⟨p,rfl,rfl⟩,fun q hq=>by cases hq;rfl⟩
    ·rw [hlen]
     refine ⟨_,cap,rfl,hroom,fun _=>by simp, ?_⟩
     show p.o+off*u.sz+(0+cap)*u.sz<=p.size
     rw [Nat.add_mul] at hbig
     rw [Nat.zero_add]
     omega
    ·refine ⟨_,e',fz,setRow_heap w p.b c _ e' fz hh, ?_, ?_, ?_, ?_⟩
     ·intro o' ho';refine hfz o' ?_;simp at ho';omega
     ·simp;omega
     ·rw [hlen]
      show p.o+off*u.sz+(n+lb.length)*u.sz<=p.size
      have:=hsrc.newsLen
      rw [Nat.add_mul]
      omega
     ·have hrow3:=iF.move (G':=G) (h':=(w.setRow p.b (c.toList.take (p.o+off*u.sz+n*u.sz)++news++c.toList.drop (p.o+off*u.sz+n*u.sz+news.length)).toArray).heap) (fun _ h=>h)
       (fun b hb=>setRow_other w p.b b _ (fun e=>hF p rfl (.inr (e ▸ hb)))) hrow2
      intro j x hj
      obtain ⟨es,h1,h2⟩:=hrow3 j x hj
      exact ⟨es,h1,fun q u' hq=>by simpa using h2 q u' hq⟩
theorem SliceAt.one {sz:Nat} {π:Option Pl} {off n:Nat} {v:Value} (h:SliceAt sz π off n v):one v=true:=by
 cases π with
 | none=>obtain ⟨_,rfl⟩:=h;rfl
 | some p=>obtain ⟨a,cap,rfl,_⟩:=h;rfl
theorem aW.one {own:Bool} {G:Nat->Prop} {h:Array Obj}:∀ {t:Ty} {x:t.den} {cs:List Value} {ps:List (Option Pl)},aW own G h t x cs ps->∀ u ∈ cs,one u=true
 | .bool,_,_,_,⟨_,e⟩,u,hu=>by subst e;simp at hu;subst hu;rfl
 | .int _,_,_,_,⟨_,e⟩,u,hu=>by subst e;simp at hu;subst hu;rfl
 | .str,_,_,_,⟨_,e⟩,u,hu=>by subst e;simp at hu;subst hu;rfl
 | .unit,_,_,_,⟨_,e⟩,u,hu=>by subst e;simp at hu
 | .list t,l,cs,ps,H,u,hu=>by
  simp only [aW] at H
  split at H
  ·obtain ⟨v,π,rfl,rfl,h1,h2,h3⟩:=H
   simp only [List.mem_singleton] at hu
   subst hu
   exact SliceAt.one h1
  ·exact H.2.one u hu
 | .aG t,l,cs,ps,H,u,hu=>by
  simp only [aW] at H
  split at H
  ·obtain ⟨v,π,rfl,rfl,h1,h2⟩:=H
   simp only [List.mem_singleton] at hu
   subst hu
   exact SliceAt.one h1
  ·exact H.2.one u hu
 | .pair a b,x,cs,ps,⟨c,d,p,q,h1,h2,h3,h4⟩,u,hu=>by
  subst h1
  rcases List.mem_append.1 hu with hu | hu
  ·exact h3.one u hu
  ·exact h4.one u hu
theorem NP {G:Nat->Prop} {h:Array Obj} {t:Ty} {l:List t.den} {π:Option Pl} (hd:iA G h t l π):∃ (news:List Value) (inn:List (List (Option Pl))),news.length=l.length*t.sz/\inn.length=l.length/\oK G h t l inn news 0/\(∀ u ∈ news,one u=true) /\
  (∀ p,π=some p->inn=p.inn/\∀ j u,news[j]? = some u->hcell h p.b (p.o+j)=some u)/\(π=none->inn=[]):=by
 cases π with
 | none=>
  have hd:l=[]:=hd
  subst hd
  exact ⟨[],[],by simp,rfl,fun i x qs hi=>(by simp at hi),fun u hu=>(by simp at hu),fun p hp=>(by cases hp),fun _=>rfl⟩
 | some p=>
  obtain ⟨c,e,fz,k1,k2,k3,k4,k5,k6,k7,k8⟩:=hd
  have hlen:((c.toList.drop p.o).take (l.length*t.sz)).length=l.length*t.sz:=by simp;omega
  have hrow:oK G h t l p.inn ((c.toList.drop p.o).take (l.length*t.sz)) 0:=by
   intro i x qs hi hq
   obtain ⟨es,hes,hj⟩:=k8 i x qs hi hq
   refine ⟨es,hes,fun j v hv=>?_⟩
   have hil:i<l.length:=(List.getElem?_eq_some_iff.1 hi).1
   have hjl:j<t.sz:=by have:=(List.getElem?_eq_some_iff.1 hv).1;rwa [hes.len] at this
   have hmul:(i+1)*t.sz<=l.length*t.sz:=Nat.mul_le_mul_right _ hil
   rw [Nat.add_mul,Nat.one_mul] at hmul
   rw [List.getElem?_take,if_pos (by omega),List.getElem?_drop]
   have:=hj j v hv
   rw [<- Array.getElem?_toList] at this
   rw [show p.o+(0+i*t.sz+j)=p.o+i*t.sz+j by omega]
   exact this
  refine ⟨_,p.inn,hlen,k5,hrow,fun u hu=>?_,fun q hq=>?_,fun h=>by cases h⟩
  ·obtain ⟨k,hk⟩:=List.mem_iff_getElem?.1 hu
   have hkl:=(List.getElem?_eq_some_iff.1 hk).1
   rw [hlen] at hkl
   have hs:0<t.sz:=by
    rcases Nat.eq_zero_or_pos t.sz with e | e
    ·rw [e] at hkl;omega
    ·exact e
   have hd':k / t.sz<l.length:=(Nat.div_lt_iff_lt_mul hs).2 hkl
   obtain ⟨es,hes,hj⟩:=hrow (k / t.sz) _ _ (List.getElem?_eq_getElem hd') (List.getElem?_eq_getElem (by omega:k / t.sz<p.inn.length))
   have hm:k % t.sz<es.length:=by rw [hes.len];exact Nat.mod_lt _ hs
   have h2:=hj (k % t.sz) _ (List.getElem?_eq_getElem hm)
   rw [show 0+k / t.sz*t.sz+k % t.sz=k by have:=Nat.div_add_mod k t.sz;rw [Nat.mul_comm] at this;omega,hk] at h2
   have h3:=Option.some.inj h2
   rw [h3]
   exact hes.one _ (List.getElem_mem hm)
  ·cases hq
   refine ⟨rfl,fun j u hu=>?_⟩
   unfold hcell
   rw [k1]
   rw [List.getElem?_take] at hu
   split at hu
   ·rw [List.getElem?_drop,Array.getElem?_toList] at hu
    exact hu
   ·cases hu
theorem Dy {P:Program} {w:World} {sz n:Nat} {π:Option Pl} {v:Value} {news:List Value} {tx:TypeId} (hk:∃ e',P.underlying tx=some (.slice e')) (hs:SliceAt sz π 0 n v) (hlen:news.length=n*sz) (hone:∀ u ∈ news,one u=true)
  (hc:∀ p,π=some p->∀ j u,news[j]? = some u->hcell w.heap p.b (p.o+j)=some u):∃ (a:Option Addr) (cap:Nat),v=.slice a n cap/\n<=cap/\Src P sz tx v n news w:=by
 obtain ⟨e',hk⟩:=hk
 cases π with
 | none=>
  obtain ⟨rfl,rfl⟩:=hs
  have hn:news=[]:=List.eq_nil_of_length_eq_zero (by simpa using hlen)
  subst hn
  exact ⟨none,0,rfl,Nat.le_refl _,Src.ofNil w hk 0⟩
 | some p=>
  obtain ⟨a,cap,rfl,hn,nO,hroom⟩:=hs
  refine ⟨some a,cap,rfl,hn,Src.ofSlice w hk a n cap news hlen (fun j u hu=>?_) (fun u hu=>by rw [Ci];exact hone u hu)⟩
  have hpos:0<cap:=by
   rcases Nat.eq_zero_or_pos n with e | e
   ·subst e
    have hn:news=[]:=List.eq_nil_of_length_eq_zero (by simpa using hlen)
    subst hn
    simp at hu
   ·omega
  rw [nO hpos,pR,pz]
  simpa using hc p rfl j u hu
theorem LH {F0:jo} {G:Nat->Prop} {s:St} {a:Act} {w:World} {pl:Nat->Option Pl} (good:Good C) (i:Inv F0 G s a w pl) {t e ty ER:TypeId} {u:Ty} (ht:C.P.underlying t=some (.slice e)) (hu:C.ty e=some u) (hby:C.nk e=true)
  {π:Option Pl} {n m:Nat} {v y:Value} {olds news:List Value} (hs:SliceAt u.sz π 0 n v) (hπ:∀ p,π=some p->∃ c e fz,w.heap[p.b]? = some (.cells c e fz)/\Free fz c.size/\c.size=p.size/\p.o+n*u.sz<=p.size/\∀ j v,olds[j]? = some v->c[p.o+j]? = some v)
  (hol:olds.length=n*u.sz) (hdst:Src C.P u.sz t v n olds w) (hsrc:Src C.P u.sz ty y m news w) (hm:(n+m)*C.bytes e<=bN) :
  ∃ (w':World) (π':Option Pl) (v':Value),(Builtin.append_ #[t,ty] ER #[v,y]).run C.P w=.ok v' w'/\SliceAt u.sz π' 0 (n+m) v' /\
   (∀ p,π'=some p->∃ c e fz,w'.heap[p.b]? = some (.cells c e fz)/\Free fz c.size/\c.size=p.size/\p.o+(n+m)*u.sz<=p.size/\∀ j v,(olds++news)[j]? = some v->c[p.o+j]? = some v)/\(π'=none->n+m=0) /\
   w.heap.size<=w'.heap.size/\Str F0.mono w w'/\(∀ b,b<w.heap.size->(∀ p,π=some p->b ≠ p.b)->w'.heap[b]? = w.heap[b]?)/\(∀ q,π'=some q->((∃ p,π=some p/\q.b=p.b)\/w.heap.size<=q.b)/\q.b<w'.heap.size):=by
 obtain ⟨inf,z,hi,hz,hsz,hzv⟩:=good.zeroOf hu
 obtain ⟨hb1,hb2⟩:=aZ.vv hby
 have hbe:=aZ.FH hi
 have hnl:news.length=m*u.sz:=hsrc.newsLen
 obtain ⟨base,cap,hv,YL⟩:∃ base cap,v=.slice base n cap/\n<=cap:=by
  cases π with
  | none=>obtain ⟨rfl,rfl⟩:=hs;exact ⟨none,0,rfl,Nat.le_refl _⟩
  | some p=>obtain ⟨a',cap,rfl,h1,_⟩:=hs;exact ⟨some a',cap,rfl,h1⟩
 by_cases hc:cap<n+m
 ·have hn1:n+m<=bN:=Nat.le_trans (by calc n+m=(n+m)*1:=by omega
   _<=(n+m)*C.bytes e:=Nat.mul_le_mul_left _ hb1) hm
  unfold bN at hn1
  have hrun:=run_append_grow_src (P:=C.P) w t ty ER e inf z ht hi hz base n cap olds (by
   have:=hdst.cellsD
   rw [hv] at this
   rw [hsz];exact this) y m news (by rw [hsz];exact hsrc) hc (by omega) (by rw [<- hbe];exact FE hc hb2 hm)
  have hge:=grownCap_ge w (n+m) cap e
  have hzs:z.cells.size=u.sz:=by have:=congrArg List.length hzv;rw [fH] at this;simpa using this
  have hsize:((olds++news).toArray++Builtin.zeroCells z.cells (grownCap w (n+m) cap e - (n+m))).size=grownCap w (n+m) cap e*u.sz:=by
   simp [Builtin.zeroCells,hol,hnl,hzs]
   rw [<- Nat.add_mul,<- Nat.add_mul]
   congr 1
   omega
  have hheap:(w.drew.alloc (.cells ((olds++news).toArray++Builtin.zeroCells z.cells (grownCap w (n+m) cap e - (n+m))) e)).heap=(push w ((olds++news).toArray++Builtin.zeroCells z.cells (grownCap w (n+m) cap e - (n+m))) e).heap:=rfl
  refine ⟨_,some ⟨w.heap.size,0,grownCap w (n+m) cap e*u.sz,[]⟩,_,by rw [hv];exact hrun,nP hge,fun p hp=>?_,fun h=>(by cases h), ?_,by exact ⟨rfl,rfl,rfl,fun _=>Nat.le_succ _⟩,fun b hb _=>?_,fun q hq=>?_⟩
  ·cases hp
   rw [hheap]
   refine ⟨_,e,(0,0),qL w _ e,Free.zero _,hsize,by simp;exact Nat.mul_le_mul_right _ hge,fun j v hj=>?_⟩
   rw [Nat.zero_add,<- Array.getElem?_toList]
   simp only [Array.toList_append]
   rw [List.getElem?_append_left (by have:=(List.getElem?_eq_some_iff.1 hj).1;simpa using this)]
   exact hj
  ·rw [hheap];show _<=(w.heap.push _).size;rw [Array.size_push];exact Nat.le_succ _
  ·rw [hheap];exact nZ w _ e b hb
  ·cases hq
   exact ⟨.inr (Nat.le_refl _),by rw [hheap];show _<(w.heap.push _).size;rw [Array.size_push];exact Nat.lt_succ_self _⟩
 ·have hroom:n+m<=cap:=by omega
  cases π with
  | none=>
   obtain ⟨hn0,hv0⟩:=hs
   rw [hv0] at hv
   cases hv
   have hm0:m=0:=by omega
   subst hm0
   have hnews:news=[]:=List.eq_nil_of_length_eq_zero (by rw [hnl];simp)
   subst hnews
   exact ⟨w,none,.slice none 0 0,by rw [hv0];exact run_append_nothing w t ty ER e inf ht hi none 0 0 (Nat.le_refl _) y (by rw [hsz];exact hsrc),⟨rfl,rfl⟩,fun p hp=>(by cases hp),fun _=>rfl,Nat.le_refl _,Str.refl _ _,fun _ _ _=>rfl,fun q hq=>(by cases hq)⟩
  | some p=>
   obtain ⟨A,cap',hv0,hnc,nO,hbig⟩:=hs
   rw [hv0] at hv
   cases hv
   obtain ⟨c,e',fz,hh,hfz,hcs,hll,hx⟩:=hπ p rfl
   have hbs:p.b<w.heap.size:=(Array.getElem?_eq_some_iff.1 hh).1
   by_cases h0:m=0
   ·subst h0
    have hnews:news=[]:=List.eq_nil_of_length_eq_zero (by rw [hnl];simp)
    subst hnews
    refine ⟨w,some p,.slice (some A) n cap,by rw [hv0];exact run_append_nothing w t ty ER e inf ht hi (some A) n cap hnc y (by rw [hsz];exact hsrc),⟨A,cap,rfl,hnc,nO,hbig⟩,fun q hq=>?_,fun h=>(by cases h),Nat.le_refl _,Str.refl _ _,fun _ _ _=>rfl,fun q hq=>(by cases hq;exact ⟨.inl ⟨p,rfl,rfl⟩,hbs⟩)⟩
    cases hq
    exact ⟨c,e',fz,hh,hfz,hcs,by simpa using hll,fun j v hj=>hx j v (by simpa using hj)⟩
   ·obtain rfl:=nO (by omega)
    have hfit:p.o+0*u.sz+n*u.sz+news.length<=c.size:=by
     rw [hnl,hcs]
     have:(n+m)*u.sz<=cap*u.sz:=Nat.mul_le_mul_right _ hroom
     rw [Nat.add_mul] at this hbig
     omega
    have hrun:=run_append_room_src (P:=C.P) w t ty ER e inf ht hi p.b (p.o+0*u.sz) n cap y m news (by rw [hsz];exact hsrc) hroom
     (by rw [hsz];exact sD hh hfit) (by rw [hsz];exact vk hh hfz hfit)
    rw [hsz,mH p.b e' fz news _ c w hh hfit] at hrun
    refine ⟨_,some p,_,by rw [hv0];exact hrun,⟨_,cap,rfl,hroom,fun _=>rfl,hbig⟩,fun q hq=>?_,fun h=>(by cases h),by simp,by exact ⟨rfl,rfl,rfl,fun _=>Nat.le_refl _⟩,fun b hb hne=>by exact setRow_other w p.b b _ (hne p rfl),fun q hq=>by cases hq;exact ⟨.inl ⟨p,rfl,rfl⟩,by simpa using hbs⟩⟩
    cases hq
    refine ⟨_,e',fz,setRow_heap w p.b c _ e' fz hh, ?_, ?_, ?_,fun j v hj=>?_⟩
    ·intro o' ho';refine hfz o' ?_;simp at ho';omega
    ·simp;omega
    ·rw [Nat.add_mul];omega
    ·rw [<- Array.getElem?_toList]
     show (c.toList.take _++news++c.toList.drop _)[_]? = _
     rw [bP (by simpa using hfit)]
     rw [List.getElem?_append] at hj
     split at hj
     ·rename_i hlt
      rw [if_pos (by omega),Array.getElem?_toList]
      exact hx j v hj
     ·rename_i hge
      have:=(List.getElem?_eq_some_iff.1 hj).1
      rw [if_neg (by omega),if_pos (by omega),show p.o+j - (p.o+0*u.sz+n*u.sz)=j - olds.length by omega]
      exact hj
def ib (inn:List (List (Option Pl))):List Nat:=(inn.flatten.filterMap id).map Pl.b
theorem nQ (a b:List (List (Option Pl))):ib (a++b)=ib a++ib b:=by simp [ib]
theorem Jl {G:Nat->Prop} {h h':Array Obj} {u:Ty} {l lb:List u.den} {jF nV:List (List (Option Pl))} {OY RH:List Value} {p:Pl}
  (h1:oK G h u l jF OY 0) (h2:oK G h u lb nV RH 0) (n1:OY.length=l.length*u.sz) (k1:jF.length=l.length) (k2:nV.length=lb.length)
  (hG:∀ b,G b->h'[b]? = h[b]?) (hb:∀ b ∈ ib (jF++nV),h'[b]? = h[b]?)
  (hc:∃ c e fz,h'[p.b]? = some (.cells c e fz)/\Free fz c.size/\c.size=p.size/\p.o+(l.length+lb.length)*u.sz<=p.size/\∀ j v,(OY++RH)[j]? = some v->c[p.o+j]? = some v)
  (hnd:(p.b :: ib (jF++nV)).Nodup) (hfl:∀ q,some q ∈ (jF++nV).flatten->q.inn=[]):iA G h' u (l++lb) (some ⟨p.b,p.o,p.size,jF++nV⟩):=by
 obtain ⟨c,e,fz,g1,g2,g3,g4,g5⟩:=hc
 have mv:∀ {x:u.den} {es:List Value} {qs:List (Option Pl)},qs ∈ jF++nV->aW true G h u x es qs->aW true G h' u x es qs:=by
  intro x es qs hq hes
  refine aW.move (fun _ h=>h) hG (fun b hbq=>hb b ?_) hes
  rw [jH (fun q hq'=>hfl q (List.mem_flatten.2 ⟨qs,hq,hq'⟩))] at hbq
  obtain ⟨q,hq',rfl⟩:=List.mem_map.1 hbq
  simp only [List.mem_filterMap,id] at hq'
  obtain ⟨_,hq',rfl⟩:=hq'
  simp only [ib,List.mem_map,List.mem_filterMap,id]
  exact ⟨q,⟨_,List.mem_flatten.2 ⟨qs,hq,hq'⟩,rfl⟩,rfl⟩
 refine ⟨c,e,fz,g1,g2,g3,by simpa using g4,by simp [k1,k2],hnd,hfl,fun i x qs hi hq=>?_⟩
 have hq:(jF++nV)[i]? = some qs:=hq
 have hqm:qs ∈ jF++nV:=List.mem_of_getElem? hq
 rw [List.getElem?_append] at hi hq
 by_cases hlt:i<l.length
 ·rw [if_pos hlt] at hi
  rw [if_pos (by omega)] at hq
  obtain ⟨es,hes,hj⟩:=h1 i x qs hi hq
  refine ⟨es,mv hqm hes,fun j v hv=>?_⟩
  have hn:=hj j v hv
  have hlt':=(List.getElem?_eq_some_iff.1 hn).1
  have:=g5 (0+i*u.sz+j) v (by rw [List.getElem?_append_left hlt'];exact hn)
  rw [show p.o+i*u.sz+j=p.o+(0+i*u.sz+j) by omega]
  exact this
 ·rw [if_neg hlt] at hi
  rw [if_neg (by omega),k1] at hq
  obtain ⟨es,hes,hj⟩:=h2 _ x qs hi hq
  refine ⟨es,mv hqm hes,fun j v hv=>?_⟩
  have hn:=hj j v hv
  have hsum:i*u.sz=l.length*u.sz+(i - l.length)*u.sz:=by rw [<- Nat.add_mul];congr 1;omega
  have:=g5 (i*u.sz+j) v (by
   rw [List.getElem?_append_right (by omega)]
   rw [show i*u.sz+j - OY.length=0+(i - l.length)*u.sz+j by omega]
   exact hn)
  rw [show p.o+i*u.sz+j=p.o+(i*u.sz+j) by omega]
  exact this
theorem vw {F0:jo} {G:Nat->Prop} {s:St} {a:Act} {w:World} {pl:Nat->Option Pl} (i:Inv F0 G s a w pl) {id:Nat} {u:Ty} {l:List u.den} (hs:s.aj id=some (.deep u l none)) :
  ∃ (news:List Value) (inn:List (List (Option Pl))),news.length=l.length*u.sz/\inn.length=l.length/\oK G w.heap u l inn news 0/\(∀ x ∈ news,one x=true) /\
  (∀ p,pl id=some p->inn=p.inn/\∀ j x,news[j]? = some x->hcell w.heap p.b (p.o+j)=some x)/\(ib inn).Nodup/\(∀ q,some q ∈ inn.flatten->q.inn=[]) /\
  (∀ b ∈ ib inn,b<w.heap.size/\¬ (F0 b\/G b)/\(∀ p,pl id=some p->b ≠ p.b/\b ∈ p.bs)/\pl id ≠ none):=by
 obtain ⟨hd,hF⟩:=i.aj.ent id _ hs
 obtain ⟨news,inn,h1,h2,h3,h4,h5,h6⟩:=NP hd
 refine ⟨news,inn,h1,h2,h3,h4,h5, ?_⟩
 have hF:∀ p,pl id=some p->∀ b ∈ p.bs,b<w.heap.size/\¬ (F0 b\/G b):=fun p hp=>(hF p hp).1
 have hd:iA G w.heap u l (pl id):=hd
 cases hp:pl id with
 | none=>
  rw [h6 hp]
  exact ⟨by simp [ib],fun q hq=>by simp at hq,fun b hb=>by simp [ib] at hb⟩
 | some p=>
  rw [hp] at hd
  obtain ⟨c,e,fz,k1,k2,k3,k4,k5,k6,k7,k8⟩:=hd
  obtain ⟨e1,_⟩:=h5 p hp
  subst e1
  simp only [Pl.bs,List.nodup_cons] at k6
  refine ⟨k6.2,k7,fun b hb=>⟨(hF p hp b (List.mem_cons_of_mem _ hb)).1,(hF p hp b (List.mem_cons_of_mem _ hb)).2,fun q hq=>?_,by simp⟩⟩
  cases hq
  exact ⟨fun e=>k6.1 (e ▸ hb),List.mem_cons_of_mem _ hb⟩
theorem Dz {F0:jo} {G:Nat->Prop} {s:St} {a:Act} {w:World} {pl:Nat->Option Pl} (good:Good C) (i:Inv F0 G s a w pl) {t e ty ER:TypeId} {u:Ty} (ht:C.P.underlying t=some (.slice e)) (hu:C.ty e=some u) (hby:C.nk e=true)
  {π:Option Pl} {l lb:List u.den} {v y:Value} {olds:List Value} {jF:List (List (Option Pl))} {id2:Nat} (hs:SliceAt u.sz π 0 l.length v) (hπ:∀ p,π=some p->∃ c e fz,w.heap[p.b]? = some (.cells c e fz)/\Free fz c.size/\c.size=p.size/\p.o+l.length*u.sz<=p.size/\∀ j v,olds[j]? = some v->c[p.o+j]? = some v)
  (hol:olds.length=l.length*u.sz) (hil:jF.length=l.length) (hrow:oK G w.heap u l jF olds 0) (hone:∀ x ∈ olds,one x=true) (hnd:(ib jF).Nodup) (hfl:∀ q,some q ∈ jF.flatten->q.inn=[])
  (rT:s.aj id2=some (.deep u lb none)) (hin:∀ b ∈ ib jF,b<w.heap.size/\(∀ p,π=some p->b ≠ p.b)/\∀ q,pl id2=some q->b ∉ q.bs) (hp2:∀ p,π=some p->p.b<w.heap.size/\¬ (F0 p.b\/G p.b)/\∀ q,pl id2=some q->p.b ∉ q.bs)
  (hy:SliceAt u.sz (pl id2) 0 lb.length y) (hk:∃ e',C.P.underlying ty=some (.slice e')) (hm:(l.length+lb.length)*C.bytes e<=bN) :
  ∃ (w':World) (π':Option Pl) (v':Value),(Builtin.append_ #[t,ty] ER #[v,y]).run C.P w=.ok v' w'/\SliceAt u.sz π' 0 (l++lb).length v'/\iA G w'.heap u (l++lb) π' /\
   w.heap.size<=w'.heap.size/\Str F0.mono w w'/\(∀ b,b<w.heap.size->(∀ p,π=some p->b ≠ p.b)->w'.heap[b]? = w.heap[b]?) /\
   (∀ q,π'=some q->∀ b ∈ q.bs,b<w'.heap.size/\(w.heap.size<=b\/(∃ p,π=some p/\b=p.b)\/b ∈ ib jF\/∃ p,pl id2=some p/\b ∈ p.bs)):=by
 obtain ⟨news,nV,m1,m2,m3,m4,m5,m6,m7,m8⟩:=vw i rT
 have hdst:Src C.P u.sz t v l.length olds w:=by
  obtain ⟨_,_,_,_,h⟩:=Dy (P:=C.P) (w:=w) ⟨e,ht⟩ hs hol hone (fun p hp j x hx=>by
   obtain ⟨c,e,fz,k1,_,_,_,k5⟩:=hπ p hp
   unfold hcell
   rw [k1]
   exact k5 j x hx)
  exact h
 obtain ⟨_,_,_,_,hsrc⟩:=Dy (P:=C.P) (w:=w) hk hy m1 m4 (fun p hp=>(m5 p hp).2)
 obtain ⟨w',π',v',r1,r2,r3,r4,r5,r6,r7,r8⟩:=LH (ER:=ER) good i ht hu hby hs hπ hol hdst hsrc hm
 refine ⟨w',π'.map fun p=>⟨p.b,p.o,p.size,jF++nV⟩,v',r1, ?_, ?_,r5,r6,r7, ?_⟩
 ·rw [List.length_append]
  cases π' with
  | none=>exact r2
  | some p=>exact r2
 ·cases π' with
  | none=>
   have:=r4 rfl
   show l++lb=[]
   rw [List.eq_nil_of_length_eq_zero (show l.length=0 by omega),List.eq_nil_of_length_eq_zero (show lb.length=0 by omega)]
   rfl
  | some p=>
   have hold:∀ b,b ∈ ib (jF++nV)->b<w.heap.size/\b ≠ p.b/\∀ q,π=some q->b ≠ q.b:=by
    intro b hb
    have hlt:b<w.heap.size/\∀ q,π=some q->b ≠ q.b:=by
     rw [nQ] at hb
     rcases List.mem_append.1 hb with hb | hb
     ·exact ⟨(hin b hb).1,(hin b hb).2.1⟩
     ·refine ⟨(m8 b hb).1,fun q hq e=>?_⟩
      cases h2:pl id2 with
      | none=>exact (m8 b hb).2.2.2 h2
      | some q2=>exact (hp2 q hq).2.2 q2 h2 (e ▸ ((m8 b hb).2.2.1 q2 h2).2)
    refine ⟨hlt.1,fun e=>?_,hlt.2⟩
    rcases (r8 p rfl).1 with ⟨q,hq,e'⟩ | h
    ·exact hlt.2 q hq (e.trans e')
    ·have:=hlt.1;omega
   refine Jl hrow m3 hol hil m2 (fun b hb=>r7 b (i.aj.lt b (.inr hb)) (fun q hq e=>(hp2 q hq).2.1 (.inr (e ▸ hb)))) (fun b hb=>r7 b (hold b hb).1 (hold b hb).2.2) (r3 p rfl) ?_ ?_
   ·rw [List.nodup_cons]
    refine ⟨fun h=>(hold _ h).2.1 rfl, ?_⟩
    rw [nQ]
    refine List.nodup_append.2 ⟨hnd,m6,fun b hb c hc e=>?_⟩
    subst e
    cases h2:pl id2 with
    | none=>exact (m8 b hc).2.2.2 h2
    | some q2=>exact (hin b hb).2.2 q2 h2 ((m8 b hc).2.2.1 q2 h2).2
   ·intro q hq
    rw [List.flatten_append] at hq
    rcases List.mem_append.1 hq with hq | hq
    ·exact hfl q hq
    ·exact m7 q hq
 ·intro q hq b hb
  obtain ⟨p,hp,rfl⟩:=Option.map_eq_some_iff.1 hq
  obtain ⟨h1,h2⟩:=r8 p hp
  rcases List.mem_cons.1 hb with e | hb
  ·have e:b=p.b:=e
   subst e
   exact ⟨h2,by rcases h1 with ⟨q,hq,e'⟩ | h;exact .inr (.inl ⟨q,hq,e'⟩);exact .inl h⟩
  ·have hb:b ∈ ib (jF++nV):=hb
   rw [nQ] at hb
   rcases List.mem_append.1 hb with hb | hb
   ·exact ⟨Nat.lt_of_lt_of_le (hin b hb).1 r5,.inr (.inr (.inl hb))⟩
   ·refine ⟨Nat.lt_of_lt_of_le (m8 b hb).1 r5,.inr (.inr (.inr ?_))⟩
    cases h2:pl id2 with
    | none=>exact absurd h2 (m8 b hb).2.2.2
    | some q2=>exact ⟨q2,rfl,((m8 b hb).2.2.1 q2 h2).2⟩
theorem NQ {F0:jo} {G:Nat->Prop} {s:St} {a:Act} {w:World} {pl:Nat->Option Pl} (good:Good C) (i:Inv F0 G s a w pl) {o:Oper} {R:Type} {κ:St->Option R} {r:R} {Q:Exit->Act->World->Prop} {t e ty ER:TypeId} {u:Ty} {d:Tmp} {ca cb:Cell} {v y:Value} (ht:C.P.underlying t=some (.slice e)) (hu:C.ty e=some u) (hby:C.nk e=true)
  (hx:bO (mem F0 G w.heap s.aj pl) ca v) (hy:bO (mem F0 G w.heap s.aj pl) cb y) (hk:∃ e',C.P.underlying ty=some (.slice e')) (hd:o.dst=some d)
  (gq:∀ {v':Value} {w':World},(Builtin.append_ #[t,ty] ER #[v,y]).run C.P w=.ok v' w'->(execOp a.eval o).run C.P w=.ok (.value v') w') (h:(s.rX C e u d ca cb).run ah κ=some r) :
  Oper.wp C.P o a w (sS F0 G w κ r) Q:=by
 unfold St.rX at h
 split at h
 ·rename_i id2
  split at h
  ·rename_i v2 lb rT
   split at h
   ·rename_i _ hcast
    obtain ⟨rfl,rfl⟩:=bG hcast
    have hsy:SliceAt v2.sz (pl id2) 0 lb.length y:=by
     obtain ⟨t0,l0,p0,h1,h2⟩:=hy
     have h1:s.aj id2=some (.deep t0 l0 p0):=h1
     rw [rT] at h1
     cases h1
     exact h2
    obtain ⟨i1,g1,old⟩:=i.drop (id:=id2) (fun t' cs h'=>by rw [rT] at h';cases h')
    have YM:∀ p,pl id2=some p->∀ b ∈ p.bs,b<w.heap.size/\¬ (F0 b\/G b):=fun p hp=>((i.aj.ent id2 _ rT).2 p hp).1
    split at h
    ·have hx:v=.slice none 0 0:=hx
     obtain ⟨hm,h⟩:=T.eF ah h
     rw [T.run_bind] at h
     obtain ⟨hk',h⟩:=jr h
     obtain ⟨w',π',v',r1,r2,r3,r4,r5,r6,r7⟩:=Dz (ER:=ER) (l:=([]:List v2.den)) (olds:=[]) (jF:=[]) (π:=none) good i ht hu hby ⟨rfl,hx⟩ (fun p hp=>by cases hp) (by simp) rfl (fun i x qs hi=>by simp at hi) (fun x hx=>by simp at hx) (by simp [ib]) (fun q hq=>by simp at hq) rT (fun b hb=>by simp [ib] at hb) (fun p hp=>by cases hp) hsy hk (by simpa using hm)
     obtain ⟨i2,fr⟩:=i1.grow (w':=w') (G':=G) r4 r5 (fun b hb=>r6 b hb (fun p hp=>by cases hp)) (fun _ h=>h) (fun _ h=>.inl h)
     have new:∀ q,π'=some q->∀ b ∈ q.bs,b<w'.heap.size/\(w.heap.size<=b\/∃ p,pl id2=some p/\b ∈ p.bs):=by
      intro q hq b hb
      obtain ⟨h1,h2 | ⟨p,hp,_⟩ | h2 | h2⟩:=r7 q hq b hb
      ·exact ⟨h1,.inl h2⟩
      ·cases hp
      ·simp [ib] at h2
      ·exact ⟨h1,.inr h2⟩
     have i3:=i2.add (key:=ak d 0) (E:=.deep v2 lb none) (π:=π') hk' ⟨r3,fun q hq=>⟨fun b hb=>⟨(new q hq b hb).1,fun hF=>?_⟩,fun k hk=>by cases hk⟩⟩ (fun j ej p q hj hp hq b hb hb'=>?_)
     ·refine lG (v:=.cell (.fE (ak d 0))) (gq r1) i3 fr ?_ (by rw [hd];exact h)
      refine ⟨v2,_,none,upd_same _ _ _, ?_⟩
      show SliceAt _ (upd pl _ π' _) _ _ _
      rw [upd_same]
      simpa using r2
     ·rcases (new q hq b hb).2 with h1 | ⟨p,hp,h1⟩
      ·exact Nat.lt_irrefl _ (Nat.lt_of_lt_of_le (i.aj.lt _ hF) h1)
      ·exact (YM p hp b h1).2 hF
     ·obtain ⟨hne,e',he',rfl⟩:=old j ej hj
      rw [Entry.og] at hb
      rcases (new q hq b hb').2 with h1 | ⟨p2,hp2,h1⟩
      ·exact Nat.lt_irrefl _ (Nat.lt_of_lt_of_le (i.aj.jY he' hp b hb) h1)
      ·exact i.aj.apart' j id2 e' _ p p2 he' rT hne hp hp2 b hb h1
    ·rename_i id
     split at h
     ·simp at h
     rename_i hne
     split at h
     ·rename_i v1 l hst
      split at h
      ·rename_i _ Va
       obtain ⟨rfl,rfl⟩:=bG Va
       obtain ⟨hm,h⟩:=T.eF ah h
       have hsx:SliceAt v1.sz (pl id) 0 l.length v:=by
        obtain ⟨t0,l0,p0,h1,h2⟩:=hx
        have h1:s.aj id=some (.deep t0 l0 p0):=h1
        rw [hst] at h1
        cases h1
        exact h2
       obtain ⟨hd1,hF1⟩:=i.aj.ent id _ hst
       have hF1:∀ p,pl id=some p->∀ b ∈ p.bs,b<w.heap.size/\¬ (F0 b\/G b):=fun p hp=>(hF1 p hp).1
       obtain ⟨olds,jF,m1,m2,m3,m4,m5,m6,m7,m8⟩:=vw i hst
       have ap:∀ p q,pl id=some p->pl id2=some q->∀ b ∈ p.bs,b ∉ q.bs:=fun p q hp hq b hb hb'=>i.aj.apart' id id2 _ _ p q hst rT hne hp hq b hb hb'
       obtain ⟨w',π',v',r1,r2,r3,r4,r5,r6,r7⟩:=Dz (ER:=ER) (l:=l) good i ht hu hby hsx (fun p hp=>by
        have hd1:iA G w.heap v1 l (pl id):=hd1
        rw [hp] at hd1
        obtain ⟨c,e,fz,k1,k2,k3,k4,k5,k6,k7,k8⟩:=hd1
        refine ⟨c,e,fz,k1,k2,k3,k4,fun j x hj=>?_⟩
        have:=(m5 p hp).2 j x hj
        unfold hcell at this
        rw [k1] at this
        exact this) m1 m2 m3 m4 m6 m7 rT (fun b hb=>⟨(m8 b hb).1,fun p hp=>((m8 b hb).2.2.1 p hp).1,fun q hq hbq=>by
         cases h1:pl id with
         | none=>exact (m8 b hb).2.2.2 h1
         | some p=>exact ap p q h1 hq b ((m8 b hb).2.2.1 p h1).2 hbq⟩)
        (fun p hp=>⟨(hF1 p hp p.b p.gI).1,(hF1 p hp p.b p.gI).2,fun q hq=>ap p q hp hq p.b p.gI⟩) hsy hk hm
       have new:∀ q,π'=some q->∀ b ∈ q.bs,b<w'.heap.size/\(w.heap.size<=b\/(∃ p,pl id=some p/\b ∈ p.bs)\/∃ p,pl id2=some p/\b ∈ p.bs):=by
        intro q hq b hb
        obtain ⟨h1,h2 | ⟨p,hp,e⟩ | h2 | h2⟩:=r7 q hq b hb
        ·exact ⟨h1,.inl h2⟩
        ·exact ⟨h1,.inr (.inl ⟨p,hp,e ▸ p.gI⟩)⟩
        ·refine ⟨h1,.inr (.inl ?_)⟩
         cases h3:pl id with
         | none=>exact absurd h3 (m8 b h2).2.2.2
         | some p=>exact ⟨p,rfl,((m8 b h2).2.2.1 p h3).2⟩
        ·exact ⟨h1,.inr (.inr h2)⟩
       have hst':(s.drop id2).aj id=some (.deep v1 l none):=by
        show upd (s.kill id2).aj id2 none id=_
        rw [upd_ne _ _ hne]
        show (s.aj id).map _=_
        rw [hst]
        rfl
       obtain ⟨i',fr⟩:=i1.NM (id:=id) (E':=.deep v1 (l++lb) none) (π':=π') hst' (fun _ _ h=>by cases h) (fun p hp b hb=>(hF1 p hp b hb).2) r4 r5 (fun b hb hb'=>r6 b hb (fun p hp e=>hb' p hp (e ▸ p.gI)))
        ⟨r3,fun q hq=>⟨fun b hb=>⟨(new q hq b hb).1,fun hF=>by
         rcases (new q hq b hb).2 with h1 | ⟨p,hp,h1⟩ | ⟨p,hp,h1⟩
         ·exact Nat.lt_irrefl _ (Nat.lt_of_lt_of_le (i.aj.lt _ hF) h1)
         ·exact (hF1 p hp b h1).2 hF
         ·exact (YM p hp b h1).2 hF⟩,fun k hk=>by cases hk⟩⟩
        (fun j e' q q' hj he hq hq' b hb hb'=>by
         obtain ⟨hne',e'',he',rfl⟩:=old j e' he
         rw [Entry.og] at hb
         rcases (new q' hq' b hb').2 with h1 | ⟨p,hp,h1⟩ | ⟨p,hp,h1⟩
         ·exact Nat.lt_irrefl _ (Nat.lt_of_lt_of_le (i.aj.jY he' hq b hb) h1)
         ·exact i.aj.apart' j id e'' _ q p he' hst hj hq hp b hb h1
         ·exact i.aj.apart' j id2 e'' _ q p he' rT hne' hq hp b hb h1) (fun _ _ _ h=>by cases h) (fun _ _ _ h=>by cases h)
       refine lG (v:=.cell (.fE id)) (gq r1) i' fr ?_ (by rw [hd];exact h)
       refine ⟨v1,_,none,upd_same _ _ _, ?_⟩
       show SliceAt _ (upd pl id π' id) _ _ _
       rw [upd_same]
       exact r2
      ·simp at h
     ·simp at h
    ·simp at h
   ·simp at h
  ·simp at h
 ·simp at h
theorem PV (good:Good C) (args:Array Operand) (argTypes:Array TypeId):kD C ah ⟨dst,.call ⟨.builtin .append,args,argTypes⟩,type,pos,after,guard⟩:=by
 intro R F0 G s a w pl κ r Q i ht h
 simp only [jT] at h
 split at h
 ·rename_i x y t ty d hargs XY
  split at h
  ·rename_i ca cb e u ds hsx hsy he hds
   split at h
   ·rename_i hby
    obtain ⟨ht,hu⟩:=aZ.qW he
    have hx:=i.slot x
    have hy:=i.slot y
    rw [hsx] at hx
    rw [hsy] at hy
    have hargs':args=#[x,y]:=by apply Array.ext';simpa using hargs
    have WA:argTypes=#[t,ty]:=by apply Array.ext';simpa using XY
    subst hargs' WA
    have gq:∀ {v':Value} {w':World},(Builtin.append_ #[t,ty] type #[a.eval x,a.eval y]).run C.P w=.ok v' w'->
      (execOp a.eval ⟨some d,.call ⟨.builtin .append,#[x,y],#[t,ty]⟩,type,pos,after,guard⟩).run C.P w=.ok (.value v') w':=by
     intro v' w' hr
     simp only [execOp,resolve,Sem.run_bind,invoke,builtin,Sem.run_pure,Result.andThen_ok,List.map_toArray,List.map_cons,List.map_nil,hr]
    by_cases WB:(C.Fb t).isSome=true
    ·simp only [WB,cond_true] at h
     split at h
     ·exact NQ good i ht hu hby hx hy ⟨_,hds⟩ rfl gq h
     ·simp at h
    simp only [Bool.eq_false_iff.2 WB,cond_false] at h
    rw [T.run_bind] at h
    obtain ⟨lb,news,h',hsrc,hrow⟩:=LG hds i hy h
    clear h
    have h:=h'
    clear h'
    have own:∀ {v:Ty} {l:List v.den} {l':List u.den} {id off n:Nat},s.aj id=some (.arr v l .open)->bJ (u:=u) l=some l'->off+n<=l.length->SliceAt v.sz (pl id) off n (a.eval x)->
      (T.test ((n+lb.length)*C.bytes e<=bN) (({ s.kill id with aj:=upd (s.kill id).aj id (some (.arr u ((l'.drop off).take n++lb) .open)) }).put (some d) (.cell (.ref id))) .fail).run ah κ=some r->
      Oper.wp C.P ⟨some d,.call ⟨.builtin .append,#[x,y],#[t,ty]⟩,type,pos,after,guard⟩ a w (sS F0 G w κ r) Q:=by
     intro v l l' id off n hst hcast hle hsl h
     obtain ⟨rfl,rfl⟩:=bG hcast
     obtain ⟨hm,h⟩:=T.eF ah h
     obtain ⟨ha,hown⟩:=i.aj.ent id _ hst
     have hF:∀ p,pl id=some p->¬ (F0 p.b\/G p.b):=fun p hp=>(hown p hp).2 (by simp)
     obtain ⟨w',π',v',hrun,Vb,ha',hsz,hstr,hh,hnew,wZ⟩:=FI (ER:=type) good i ht hu hby hle hsl ha hF hsrc hrow hm
     obtain ⟨i',fr⟩:=i.Wx hst (l':=(l.drop off).take n++lb) hF hsz hstr hh ha' wZ hnew
     refine lG (v:=.cell (.ref id)) (gq hrun) i' fr ?_ h
     refine ⟨v,_,.open,upd_same _ _ _, ?_⟩
     show SliceAt _ (upd pl id π' id) _ _ _
     rw [upd_same]
     exact Vb
    unfold St.append at h
    split at h
    ·have hx:a.eval x=.slice none 0 0:=hx
     obtain ⟨hm,h⟩:=T.eF ah h
     rw [T.run_bind] at h
     obtain ⟨hk,h⟩:=jr h
     obtain ⟨w',π',v',hrun,Vb,ha',hsz,hstr,hh,hnew,wZ⟩:=FI (ER:=type) (l:=([]:List u.den)) (lb:=lb) (π:=none) (off:=0) (n:=0) (v:=a.eval x) good i ht hu hby (by simp) ⟨rfl,hx⟩ rfl (fun p hp=>by cases hp) hsrc hrow (by simpa using hm)
     obtain ⟨i1,Kg⟩:=i.grow (w':=w') (G':=G) hsz hstr (fun b hb=>hh b hb (fun p hp=>by cases hp)) (fun _ h=>h) (fun _ h=>.inl h)
     have hq:∀ q,π'=some q->w.heap.size<=q.b:=fun q hq=>by
      rcases hnew q hq with ⟨p,hp,_⟩ | h
      ·cases hp
      ·exact h
     have i2:=i1.add (key:=ak d 0) (E:=.arr u lb .open) (π:=π') hk ⟨(by show lS G w'.heap u lb π';simpa using ha'),fun q hq'=>⟨⟨fun ho=>(by cases ho),wZ q hq'⟩,fun _ hF=>Nat.lt_irrefl _ (Nat.lt_of_lt_of_le (i.aj.lt _ hF) (hq q hq'))⟩⟩
      (fun j ej p q hj hp hq' b hb hb'=>by
       simp only [Entry.bs,List.mem_singleton] at hb'
       subst hb'
       exact Nat.lt_irrefl _ (Nat.lt_of_lt_of_le (i.aj.jY hj hp _ hb) (hq q hq')))
     refine lG (v:=.cell (.ref (ak d 0))) (gq hrun) i2 Kg ?_ h
     refine ⟨u,_,.open,upd_same _ _ _, ?_⟩
     show SliceAt _ (upd pl _ π' _) _ _ _
     rw [upd_same]
     simpa using Vb
    ·rename_i id
     obtain ⟨v,l,o,hst,hsl⟩:=hx
     have hst:s.aj id=some (.arr v l o):=hst
     rw [hst] at h
     cases o <;> simp only at h <;> try (simp at h;done)
     split at h
     ·rename_i l' hcast
      obtain ⟨hvu,rfl⟩:=bG hcast
      subst hvu
      refine own (off:=0) (n:=l.length) hst hcast (by simp) hsl ?_
      simpa using h
     ·simp at h
    ·rename_i id off n
     obtain ⟨v,l,o,hst,hle,hsl⟩:=hx
     have hst:s.aj id=some (.arr v l o):=hst
     rw [hst] at h
     cases o <;> simp only at h <;> try (simp at h;done)
     split at h
     ·rename_i l' hcast
      exact own hst hcast hle hsl h
     ·simp at h
    ·simp at h
   ·simp at h
  ·simp at h
 ·simp at h
end
end Go.Flat
