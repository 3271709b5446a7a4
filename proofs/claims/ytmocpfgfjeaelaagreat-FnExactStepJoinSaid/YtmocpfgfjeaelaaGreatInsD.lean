/- slices.Insert at a row whose elements hold rows, by its cells. No condition. -/
import Derived.Test.YtmocpfgfjeaelaaGreatIns
set_option linter.unusedVariables false
set_option linter.unusedSimpArgs false
namespace Go.Flat
open Go.RowKit
section
variable {C:aZ} {f:FuncId} {fn:Func}
theorem Um {T:Ty} {et:TypeId} (S B:Nat) (Z:Value) (hS:T.sz=S) (hS0:0<S) (VQ:C.bytes et=B) (hB:0<B) (hZ:(Value.cells Z).size=S) (hf:C.P.funcs[f]? = some fn) (hb:fn.body.isSome=true) (hp:(fn.params.toList[0]?).bind C.elem=some (et,T))
  (h1:∀ (b off n c i vb voff vc:Nat) (cs vs:List Value) (w:World),i<n->n+1<=c->n+1<=4611686018427387904->vb ≠ b->cs.length=n*S->vs.length=S->
   (∀ j v,cs[j]? = some v->w.cell? ⟨b,off+j,none⟩=some v)->(∀ j,j<(n+1)*S->(w.cell? ⟨b,off+j,none⟩).isSome=true)->(∀ j,j<(n+1)*S->w.frozen? ⟨b,off+j,none⟩=false)->
   (∀ j v,vs[j]? = some v->w.cell? ⟨vb,voff+j,none⟩=some v)->(∀ v ∈ cs,v.oneCell'=true)->(∀ v ∈ vs,v.oneCell'=true)->
   ∀ (tA tB:TypeId) (kA kB:Nat),w.shape? vb=some (tA,kA)->w.shape? b=some (tB,kB)->kA ≠ 0->kB ≠ 0->w.frozen? ⟨b,kB,none⟩=false->
   Calls C.P f #[.slice (some ⟨b,off,none⟩) n c,.int .i64 i,.slice (some ⟨vb,voff,none⟩) 1 vc] w fun e w'=>
    e=.returned (.slice (some ⟨b,off,none⟩) (n+1) c)/\w'=(w.drew.setCells b (off+(i+1)*S) (cs.drop (i*S))).setCells b (off+i*S) vs)
  (h2:∀ (b off n c vb voff vc:Nat) (vs:List Value) (w:World),n+1<=c->n+1<=4611686018427387904->vs.length=S->(∀ j,j<S->(w.cell? ⟨b,off+n*S+j,none⟩).isSome=true)->(∀ j,j<S->w.frozen? ⟨b,off+n*S+j,none⟩=false)->
   (∀ j v,vs[j]? = some v->w.cell? ⟨vb,voff+j,none⟩=some v)->(∀ v ∈ vs,v.oneCell'=true)->
   Calls C.P f #[.slice (some ⟨b,off,none⟩) n c,.int .i64 n,.slice (some ⟨vb,voff,none⟩) 1 vc] w fun e w'=>
    e=.returned (.slice (some ⟨b,off,none⟩) (n+1) c)/\w'=w.setCells b (off+n*S) vs)
  (h3:∀ (base:Option Addr) (n c vb voff vc:Nat) (cs vs:List Value) (w:World),n<=c->c<n+1->(n+1)*B<=140737488355328->cs.length=n*S->vs.length=S->(base=none->n=0)->
   (∀ a,base=some a->∀ j v,cs[j]? = some v->w.cell? (a.add j)=some v)->(∀ j v,vs[j]? = some v->w.cell? ⟨vb,voff+j,none⟩=some v)->(∀ v ∈ vs,v.oneCell'=true)->
   Calls C.P f #[.slice base n c,.int .i64 n,.slice (some ⟨vb,voff,none⟩) 1 vc] w fun e w'=>
    ∃ m z t,n+1<=m/\e=.returned (.slice (some ⟨w.heap.size,0,none⟩) (n+1) m)/\Value.cells z=Value.cells Z/\w'=w.drew.alloc (.cells ((cs++vs).toArray++Builtin.zeroCells (Value.cells z) (m - (n+1))) t))
  (h4:∀ (b off n c i vb voff vc:Nat) (cs vs:List Value) (w:World),i<n->n<=c->c<n+1->(n+1)*B<=140737488355328->cs.length=n*S->vs.length=S->
   (∀ j v,cs[j]? = some v->w.cell? ⟨b,off+j,none⟩=some v)->(∀ j v,vs[j]? = some v->w.cell? ⟨vb,voff+j,none⟩=some v)->(∀ v ∈ cs,v.oneCell'=true)->(∀ v ∈ vs,v.oneCell'=true)->
   Calls C.P f #[.slice (some ⟨b,off,none⟩) n c,.int .i64 i,.slice (some ⟨vb,voff,none⟩) 1 vc] w fun e w'=>
    ∃ m z t,n+1<=m/\e=.returned (.slice (some ⟨w.heap.size,0,none⟩) (n+1) m)/\Value.cells z=Value.cells Z /\
    w'=(((w.alloc (.cells ((cs.take (i*S)).toArray++Builtin.zeroCells (Value.cells z) (n+1 - i)++Builtin.zeroCells (Value.cells z) (m - (n+1))) t)).drew.setCells w.heap.size (i*S) vs).drew).setCells w.heap.size ((i+1)*S) (cs.drop (i*S))):UM C f:=by
 intro fn' e' u hfn hpar
 rw [hf] at hfn
 cases hfn
 rw [hp] at hpar
 cases hpar
 refine ⟨hb,fun w π p2 v y olds news n i hsv hsy hne hrow hnews hol hnl UC Ni hin hbig=>?_⟩
 rw [VQ] at hbig
 rw [hS] at hol hnl
 obtain ⟨ya,SY,rfl,hyc,VI,_⟩:=hsy
 have:=VI (by omega)
 simp only [Nat.zero_mul,Nat.add_zero] at this
 subst this
 obtain ⟨cy,ey,fy,hyh,hyr⟩:=hnews
 have hvs:∀ (j:Nat) u,news[j]? = some u->w.cell? ⟨p2.b,p2.o+j,none⟩=some u:=fun j u hj=>by
  rw [pz,Hw hyh]
  exact hyr j u hj
 have hn1:n+1<=4611686018427387904:=by
  have:n+1<=(n+1)*B:=Nat.le_mul_of_pos_right _ hB
  omega
 have Zl:i*S<=n*S:=Nat.mul_le_mul_right _ hin
 have hap:∀ (k:Nat) u,(olds.take (i*S)++news++olds.drop (i*S))[k]? = some u->(k<i*S/\olds[k]? = some u)\/(i*S<=k/\k<(i+1)*S/\news[k - i*S]? = some u)\/((i+1)*S<=k/\(olds.drop (i*S))[k - (i+1)*S]? = some u):=by
  intro k u hk
  have hS1:(i+1)*S=i*S+S:=by rw [Nat.add_mul,Nat.one_mul]
  have htl:(olds.take (i*S)).length=i*S:=by rw [List.length_take,hol];omega
  by_cases c1:k<i*S
  ·rw [List.append_assoc,List.getElem?_append_left (by omega),List.getElem?_take,if_pos c1] at hk
   exact .inl ⟨c1,hk⟩
  ·by_cases c2:k<(i+1)*S
   ·rw [List.append_assoc,List.getElem?_append_right (by omega),List.getElem?_append_left (by omega),htl] at hk
    exact .inr (.inl ⟨by omega,c2,hk⟩)
   ·rw [List.getElem?_append_right (by simp only [List.length_append];omega)] at hk
    simp only [List.length_append,htl,hnl] at hk
    exact .inr (.inr ⟨by omega,by rwa [hS1]⟩)
 have hS1:(i+1)*S=i*S+S:=by rw [Nat.add_mul,Nat.one_mul]
 have aaq:(n+1)*S=n*S+S:=by rw [Nat.add_mul,Nat.one_mul]
 have hdl:(olds.drop (i*S)).length=n*S - i*S:=by rw [List.length_drop,hol]
 have fresh:∀ {e0:Ending} {w':World} {m:Nat} {c':Array Value} {e':TypeId},e0=.returned (.slice (some ⟨w.heap.size,0,none⟩) (n+1) m)->n+1<=m->w'.heap[w.heap.size]? = some (.cells c' e' (0,0))->m*S<=c'.size->
   (∀ (k:Nat) u,(olds.take (i*S)++news++olds.drop (i*S))[k]? = some u->c'[k]? = some u)->(∀ b,b<w.heap.size->w'.heap[b]? = w.heap[b]?)->w.heap.size<=w'.heap.size->Str C.mono w w'->
   ∃ p v',e0=.returned v'/\SliceAt T.sz (some p) 0 (n+1) v'/\(∃ c ee fz,w'.heap[p.b]? = some (.cells c ee fz)/\Free fz c.size/\c.size=p.size/\p.o+(n+1)*T.sz<=p.size/\∀ (j:Nat) x,(olds.take (i*T.sz)++news++olds.drop (i*T.sz))[j]? = some x->c[p.o+j]? = some x) /\
    w.heap.size<=w'.heap.size/\Str C.mono w w'/\(∀ b,b<w.heap.size->(∀ p,π=some p->b ≠ p.b)->w'.heap[b]? = w.heap[b]?)/\((∃ q,π=some q/\p.b=q.b)\/w.heap.size<=p.b)/\p.b<w'.heap.size:=by
  intro e0 w' m c' e' he hm hh hcs hk hold hsz hstr
  have hmS:(n+1)*S<=m*S:=Nat.mul_le_mul_right _ hm
  refine ⟨⟨w.heap.size,0,c'.size,[]⟩,_,he,⟨_,m,rfl,hm,fun _=>by simp,by simp only [hS,Nat.zero_add];exact hcs⟩,⟨c',e',(0,0),hh,Free.zero _,rfl,by simp only [hS];omega,by rw [hS];simpa using hk⟩,hsz,hstr,fun b hb _=>hold b hb,.inr (Nat.le_refl _),(Array.getElem?_eq_some_iff.1 hh).1⟩
 cases π with
 | none=>
  obtain ⟨rfl,rfl⟩:=hsv
  obtain rfl:olds=[]:=List.length_eq_zero_iff.1 (by simpa using hol)
  have hi:i=0:=by omega
  subst hi
  refine (h3 none 0 0 p2.b p2.o SY [] news w (by omega) (by omega) (by simpa using hbig) (by simp) hnl (fun _=>rfl) (fun a h=>by cases h) hvs Ni).mono fun e0 w' hpost=>?_
  obtain ⟨m,z,t,hm,he,hz,rfl⟩:=hpost
  refine fresh (m:=m) (c':=(([]++news).toArray++Builtin.zeroCells (Value.cells z) (m - (0+1)))) (e':=t) he hm ?_ ?_ ?_ ?_ ?_ ?_
  ·show (w.heap.push _)[w.heap.size]? = _
   rw [Array.getElem?_push,if_pos rfl]
  ·have:(Value.cells z).size=S:=by rw [hz,hZ]
   simp [Builtin.zeroCells,this,hnl]
   have:m*S=(m - 1)*S+S:=by
    obtain ⟨q,rfl⟩:∃ q,m=q+1:=⟨m - 1,by omega⟩
    rw [Nat.add_sub_cancel,Nat.add_mul,Nat.one_mul]
   omega
  ·intro k u hk
   simp at hk
   have hlt:=(List.getElem?_eq_some_iff.1 hk).1
   rw [Array.getElem?_append_left (by simpa using hlt)]
   simpa using hk
  ·intro b hb
   show (w.heap.push _)[b]? = _
   rw [Array.getElem?_push,if_neg (by omega)]
  ·show w.heap.size<=(w.heap.push _).size
   simp
  ·exact ⟨rfl,rfl,rfl,fun _=>Nat.le_succ _⟩
 | some p=>
 obtain ⟨a,cap,rfl,hcap,nO,hroom⟩:=hsv
 simp only [Nat.zero_mul,Nat.add_zero,Nat.zero_add] at nO hroom
 obtain ⟨c,e,fz,hh,hfz,hsz,hrow⟩:=hrow p rfl
 have OQ:∀ (j:Nat) u,olds[j]? = some u->w.cell? ⟨p.b,p.o+j,none⟩=some u:=fun j u hj=>by
  rw [pz,Hw hh]
  exact hrow j u hj
 have YF:p2.b ≠ p.b:=hne p rfl
 by_cases hfit:n+1<=cap
 ·have ha:=nO (by omega)
  subst ha
  have Zm:(n+1)*S<=cap*S:=Nat.mul_le_mul_right _ hfit
  rw [hS] at hroom
  have same:∀ {e0:Ending} {w':World} {c':Array Value},e0=.returned (.slice (some ⟨p.b,p.o,none⟩) (n+1) cap)->w'.heap[p.b]? = some (.cells c' e fz)->c'.size=c.size->
    (∀ (k:Nat) u,(olds.take (i*S)++news++olds.drop (i*S))[k]? = some u->c'[p.o+k]? = some u)->(∀ b,b ≠ p.b->w'.heap[b]? = w.heap[b]?)->w'.heap.size=w.heap.size->Str C.mono w w'->
    ∃ q v',e0=.returned v'/\SliceAt T.sz (some q) 0 (n+1) v'/\(∃ c ee fz,w'.heap[q.b]? = some (.cells c ee fz)/\Free fz c.size/\c.size=q.size/\q.o+(n+1)*T.sz<=q.size/\∀ (j:Nat) x,(olds.take (i*T.sz)++news++olds.drop (i*T.sz))[j]? = some x->c[q.o+j]? = some x) /\
    w.heap.size<=w'.heap.size/\Str C.mono w w'/\(∀ b,b<w.heap.size->(∀ p',some p=some p'->b ≠ p'.b)->w'.heap[b]? = w.heap[b]?)/\((∃ q',some p=some q'/\q.b=q'.b)\/w.heap.size<=q.b)/\q.b<w'.heap.size:=by
   intro e0 w' c' he hh' hcs hk hold hsz' hstr
   exact ⟨p,_,he,⟨_,cap,rfl,hfit,fun _=>by simp,by simp only [hS,Nat.zero_add];exact hroom⟩,⟨c',e,fz,hh',by rw [hcs];exact hfz,by rw [hcs];exact hsz,by rw [hS];omega,by rw [hS];exact hk⟩,by omega,hstr,fun b _ hb=>hold b (hb p rfl),.inl ⟨p,rfl,rfl⟩,(Array.getElem?_eq_some_iff.1 hh').1⟩
  have Ta:∀ k,k<cap*S->(w.cell? ⟨p.b,p.o+k,none⟩).isSome=true:=fun k hk=>by
   rw [pz,Hw hh]
   rw [Array.getElem?_eq_getElem (by omega)]
   rfl
  have hfree:∀ k,k<cap*S->w.frozen? ⟨p.b,p.o+k,none⟩=false:=fun k hk=>Hy hh hfz (by omega)
  by_cases hend:i=n
  ·have hend:=hend.symm
   subst hend
   refine (h2 p.b p.o n cap p2.b p2.o SY news w hfit hn1 hnl (fun j hj=>by rw [Nat.add_assoc];exact Ta _ (by omega)) (fun j hj=>by rw [Nat.add_assoc];exact hfree _ (by omega)) hvs Ni).mono fun e0 w' hpost=>?_
   obtain ⟨he,rfl⟩:=hpost
   obtain ⟨c1,g1,g2,g3,g4,g5,g6,g7,g8,g9,g10⟩:=uS (vs:=news) (o:=p.o+n*S) hh (by omega)
   refine same he g1 g2 (fun k u hk=>?_) g5 g6 ⟨g7,g8,g9,fun _=>Nat.le_of_eq g10.symm⟩
   rcases hap k u hk with ⟨c1',h⟩ | ⟨c1',c2',h⟩ | ⟨c1',h⟩
   ·rw [g4 _ (.inl (by omega))]
    exact hrow k u h
   ·have:=g3 _ u h
    rwa [show p.o+n*S+(k - n*S)=p.o+k by omega] at this
   ·rw [List.drop_eq_nil_of_le (by omega)] at h
    simp at h
  ·have hlt:i<n:=by omega
   have XC:∃ cA eA fA,w.heap[p2.b]? = some (.cells cA eA fA)/\cA.size ≠ 0:=by
    have h0:news[0]? = some (news[0]'(by omega)):=List.getElem?_eq_getElem _
    have:=hvs 0 _ h0
    rw [pz] at this
    unfold hcell at this
    cases hq:w.heap[p2.b]? with
    | none=>rw [hq] at this;cases this
    | some ob=>
     rw [hq] at this
     cases ob <;> simp at this
     rename_i cA eA fA
     exact ⟨cA,eA,fA,rfl,fun h0=>by
      have hlt:=(Array.getElem?_eq_some_iff.1 this).1
      omega⟩
   obtain ⟨cA,eA,fA,hqA,YG⟩:=XC
   refine (h1 p.b p.o n cap i p2.b p2.o SY olds news w hlt hfit hn1 YF hol hnl OQ (fun j hj=>Ta _ (by omega)) (fun j hj=>hfree _ (by omega)) hvs UC Ni eA e cA.size c.size
    (by unfold World.shape?;rw [hqA]) (by unfold World.shape?;rw [hh]) YG (by omega) (Hy hh hfz (Nat.le_refl _))).mono fun e0 w' hpost=>?_
   obtain ⟨he,rfl⟩:=hpost
   obtain ⟨c1,g1,g2,g3,g4,g5,g6,g7,g8,g9,g10⟩:=uS (w:=w.drew) (vs:=olds.drop (i*S)) (o:=p.o+(i+1)*S) hh (by rw [hdl];omega)
   obtain ⟨c2,k1,k2,k3,k4,k5,k6,k7,k8,k9,k10⟩:=uS (vs:=news) (o:=p.o+i*S) g1 (by omega)
   refine same he k1 (k2.trans g2) (fun k u hk=>?_) (fun b hb=>(k5 b hb).trans (g5 b hb)) (k6.trans g6) ⟨k7.trans g7,k8.trans g8,k9.trans g9,fun _=>by rw [k10,g10];exact Nat.le_succ _⟩
   rcases hap k u hk with ⟨c1',h⟩ | ⟨c1',c2',h⟩ | ⟨c1',h⟩
   ·rw [k4 _ (.inl (by omega)),g4 _ (.inl (by omega))]
    exact hrow k u h
   ·have:=k3 _ u h
    rwa [show p.o+i*S+(k - i*S)=p.o+k by omega] at this
   ·rw [k4 _ (.inr (by omega))]
    have:=g3 _ u h
    rwa [show p.o+(i+1)*S+(k - (i+1)*S)=p.o+k by omega] at this
 ·have XD:cap<n+1:=by omega
  by_cases hend:i=n
  ·have hend:=hend.symm
   subst hend
   refine (h3 (some a) n cap p2.b p2.o SY olds news w hcap XD hbig hol hnl (fun h=>by cases h) (fun a' ha' j u hj=>?_) hvs Ni).mono fun e0 w' hpost=>?_
   ·cases ha'
    have hlt:j<olds.length:=(List.getElem?_eq_some_iff.1 hj).1
    have hc0:0<cap:=by
     rcases Nat.eq_zero_or_pos cap with h0 | h0
     ·have:n=0:=by omega
      rw [hol,this] at hlt
      omega
     ·exact h0
    rw [nO hc0,Addr.add_lit]
    exact OQ j u hj
   obtain ⟨m,z,t,hm,he,hz,rfl⟩:=hpost
   have hzs:(Value.cells z).size=S:=by rw [hz,hZ]
   refine fresh (m:=m) (c':=((olds++news).toArray++Builtin.zeroCells (Value.cells z) (m - (n+1)))) (e':=t) he hm ?_ ?_ ?_ ?_ ?_ ?_
   ·show (w.heap.push _)[w.heap.size]? = _
    rw [Array.getElem?_push,if_pos rfl]
   ·simp [Builtin.zeroCells,hzs,hnl,hol]
    have:m*S=(m - (n+1))*S+(n+1)*S:=by rw [<- Nat.add_mul];congr 1;omega
    omega
   ·intro k u hk
    rw [List.take_of_length_le (by omega),List.drop_eq_nil_of_le (by omega),List.append_nil] at hk
    have hlt:=(List.getElem?_eq_some_iff.1 hk).1
    rw [Array.getElem?_append_left (by simpa using hlt)]
    simpa using hk
   ·intro b hb
    show (w.heap.push _)[b]? = _
    rw [Array.getElem?_push,if_neg (by omega)]
   ·show w.heap.size<=(w.heap.push _).size
    simp
   ·exact ⟨rfl,rfl,rfl,fun _=>Nat.le_succ _⟩
  ·have hlt:i<n:=by omega
   have ha:=nO (by omega)
   subst ha
   refine (h4 p.b p.o n cap i p2.b p2.o SY olds news w hlt hcap XD hbig hol hnl OQ hvs UC Ni).mono fun e0 w' hpost=>?_
   obtain ⟨m,z,t,hm,he,hz,rfl⟩:=hpost
   have hzs:(Value.cells z).size=S:=by rw [hz,hZ]
   generalize hROW:(olds.take (i*S)).toArray++Builtin.zeroCells (Value.cells z) (n+1 - i)++Builtin.zeroCells (Value.cells z) (m - (n+1))=ROW
   have htl:(olds.take (i*S)).length=i*S:=by rw [List.length_take,hol];omega
   have hRs:ROW.size=m*S:=by
    rw [<- hROW]
    simp only [Array.size_append,List.size_toArray,htl,Builtin.zeroCells,Array.size_map,Array.size_range,hzs]
    have e1:i*S+(n+1 - i)*S=(n+1)*S:=by rw [<- Nat.add_mul];congr 1;omega
    have e2:(n+1)*S+(m - (n+1))*S=m*S:=by rw [<- Nat.add_mul];congr 1;omega
    omega
   have hR0:∀ k,k<i*S->ROW[k]? = olds[k]?:=fun k hk=>by
    rw [<- hROW,Array.append_assoc,Array.getElem?_append_left (by simp only [List.size_toArray,htl];exact hk)]
    simp only [List.getElem?_toArray]
    rw [List.getElem?_take,if_pos hk]
   have hmS:(n+1)*S<=m*S:=Nat.mul_le_mul_right _ hm
   have hw1:((w.alloc (.cells ROW t)).drew).heap[w.heap.size]? = some (.cells ROW t (0,0)):=by
    show (w.heap.push _)[w.heap.size]? = _
    rw [Array.getElem?_push,if_pos rfl]
   obtain ⟨c1,g1,g2,g3,g4,g5,g6,g7,g8,g9,g10⟩:=uS (vs:=news) (o:=i*S) hw1 (by omega)
   have hw2:((((w.alloc (.cells ROW t)).drew.setCells w.heap.size (i*S) news).drew)).heap[w.heap.size]? = some (.cells c1 t (0,0)):=g1
   obtain ⟨c2,k1,k2,k3,k4,k5,k6,k7,k8,k9,k10⟩:=uS (vs:=olds.drop (i*S)) (o:=(i+1)*S) hw2 (by rw [hdl];omega)
   refine fresh (m:=m) (c':=c2) (e':=t) he hm k1 (by omega) (fun k u hk=>?_) (fun b hb=>?_) ?_ ⟨k7.trans g7,k8.trans g8,k9.trans g9,fun _=>?_⟩
   ·rcases hap k u hk with ⟨c1',h⟩ | ⟨c1',c2',h⟩ | ⟨c1',h⟩
    ·rw [k4 _ (.inl (by omega)),g4 _ (.inl (by omega)),hR0 k c1']
     exact h
    ·rw [k4 _ (.inl (by omega))]
     have:=g3 _ u h
     rwa [show i*S+(k - i*S)=k by omega] at this
    ·have:=k3 _ u h
     rwa [show (i+1)*S+(k - (i+1)*S)=k by omega] at this
   ·refine (k5 b (by omega)).trans ((g5 b (by omega)).trans ?_)
    show (w.heap.push _)[b]? = _
    rw [Array.getElem?_push,if_neg (by omega)]
   ·rw [k6]
    show w.heap.size<=((w.alloc (.cells ROW t)).drew.setCells w.heap.size (i*S) news).heap.size
    rw [g6]
    show w.heap.size<=(w.heap.push _).size
    simp
   ·rw [k10]
    show w.drawn<=((w.alloc (.cells ROW t)).drew.setCells w.heap.size (i*S) news).drawn+1
    rw [g10]
    show w.drawn<=w.drawn+1+1
    omega
end
end Go.Flat
