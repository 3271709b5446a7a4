/- slices.Insert of one element, slices.Delete: rows of structs without rows, by the walks. No condition. -/
import Derived.Test.YtmocpfgfjeaelaaGreatPrim
set_option linter.unusedVariables false
set_option linter.unusedSimpArgs false
namespace Go.Flat
open Go.RowKit
structure rM (G:Nat->Prop) (h:Array Obj) (T:Ty) (l:List T.den) (rs:List Value):Prop where
 len:rs.length=l.length*T.sz
 at_:∀ (i:Nat) x,l[i]? = some x->Rd G h T G x ((rs.drop (i*T.sz)).take T.sz)
theorem rM.nil {G:Nat->Prop} {h:Array Obj} {T:Ty}:rM G h T [] []:=⟨by simp,fun i x hx=>by simp at hx⟩
theorem rM.single {G:Nat->Prop} {h:Array Obj} {T:Ty} {x:T.den} {es:List Value} (hx:Rd G h T G x es):rM G h T [x] es:=by
 have hl:=hx.len
 refine ⟨by simp [hl],fun i y hy=>?_⟩
 cases i with
 | zero=>
  simp at hy
  subst hy
  simpa [List.take_of_length_le (Nat.le_of_eq hl)] using hx
 | succ i=>simp at hy
theorem rM.app {G:Nat->Prop} {h:Array Obj} {T:Ty} {l k:List T.den} {rs ks:List Value} (H:rM G h T l rs) (K:rM G h T k ks):rM G h T (l++k) (rs++ks):=by
 refine ⟨by rw [List.length_append,List.length_append,H.len,K.len,Nat.add_mul],fun i x hx=>?_⟩
 by_cases hi:i<l.length
 ·rw [List.getElem?_append_left hi] at hx
  have h1:(i+1)*T.sz<=l.length*T.sz:=Nat.mul_le_mul_right _ hi
  rw [Nat.add_mul,Nat.one_mul] at h1
  have h2:=H.len
  rw [List.drop_append_of_le_length (by omega),List.take_append_of_le_length (by rw [List.length_drop];omega)]
  exact H.at_ i x hx
 ·rw [List.getElem?_append_right (by omega)] at hx
  have h1:i*T.sz=l.length*T.sz+(i - l.length)*T.sz:=by rw [<- Nat.add_mul];congr 1;omega
  rw [h1,<- H.len,<- List.drop_drop,List.drop_left]
  exact K.at_ _ x hx
theorem rM.take {G:Nat->Prop} {h:Array Obj} {T:Ty} {l:List T.den} {rs:List Value} (H:rM G h T l rs) {i:Nat} (hi:i<=l.length):rM G h T (l.take i) (rs.take (i*T.sz)):=by
 have h1:i*T.sz<=l.length*T.sz:=Nat.mul_le_mul_right _ hi
 have h2:=H.len
 refine ⟨by rw [List.length_take,List.length_take,Nat.min_eq_left (by omega),Nat.min_eq_left hi],fun k x hx=>?_⟩
 have hk:k<i:=by
  have:=(List.getElem?_eq_some_iff.1 hx).1
  simp at this
  omega
 rw [List.getElem?_take,if_pos hk] at hx
 have h3:(k+1)*T.sz<=i*T.sz:=Nat.mul_le_mul_right _ hk
 rw [Nat.add_mul,Nat.one_mul] at h3
 rw [List.drop_take,List.take_take,Nat.min_eq_left (by omega)]
 exact H.at_ k x hx
theorem rM.drop {G:Nat->Prop} {h:Array Obj} {T:Ty} {l:List T.den} {rs:List Value} (H:rM G h T l rs) {i:Nat} (hi:i<=l.length):rM G h T (l.drop i) (rs.drop (i*T.sz)):=by
 have h1:i*T.sz<=l.length*T.sz:=Nat.mul_le_mul_right _ hi
 have h2:=H.len
 refine ⟨by rw [List.length_drop,List.length_drop,h2,Nat.sub_mul],fun k x hx=>?_⟩
 rw [List.getElem?_drop] at hx
 rw [List.drop_drop,show i*T.sz+k*T.sz=(i+k)*T.sz by rw [Nat.add_mul]]
 exact H.at_ _ x hx
theorem rM.move {G:Nat->Prop} {h h':Array Obj} {T:Ty} {l:List T.den} {rs:List Value} (hs:∀ b,G b->h'[b]? = h[b]?) (H:rM G h T l rs):rM G h' T l rs:=
 ⟨H.len,fun i x hx=>Rd.move (fun _ h=>h) hs (fun _ h=>h) hs (H.at_ i x hx)⟩
theorem rM.one {G:Nat->Prop} {h:Array Obj} {T:Ty} {l:List T.den} {rs:List Value} (H:rM G h T l rs):∀ v ∈ rs,v.oneCell'=true:=fun v hv=>by
 obtain ⟨k,hk,rfl⟩:=List.mem_iff_getElem.1 hv
 have hl:=H.len
 have hS:0<T.sz:=by
  rcases Nat.eq_zero_or_pos T.sz with h0 | h0
  ·rw [h0,Nat.mul_zero] at hl;omega
  ·exact h0
 have hi:k / T.sz<l.length:=Nat.div_lt_of_lt_mul (by rw [Nat.mul_comm];omega)
 have:=H.at_ (k / T.sz) _ (List.getElem?_eq_getElem hi)
 have hd:=Nat.div_add_mod k T.sz
 have hm:=Nat.mod_lt k hS
 rw [IX]
 refine this.one _ (List.mem_of_getElem? (i:=k % T.sz) ?_)
 rw [List.getElem?_take,if_pos hm,List.getElem?_drop,show k / T.sz*T.sz+k % T.sz=k by rw [Nat.mul_comm];exact hd]
 exact List.getElem?_eq_getElem hk
theorem rM.arr {G:Nat->Prop} {h:Array Obj} {T:Ty} {l:List T.den} {rs:List Value} (H:rM G h T l rs) {c:Nat->Option Value} {o:Nat} (hc:∀ (j:Nat) v,rs[j]? = some v->c (o+j)=some v) :
  ∀ (i:Nat) x,l[i]? = some x->∃ es,Rd G h T G x es/\∀ (j:Nat) v,es[j]? = some v->c (o+i*T.sz+j)=some v:=fun i x hx=>by
 refine ⟨_,H.at_ i x hx,fun j v hj=>?_⟩
 have hlt:j<T.sz:=by
  have:=(List.getElem?_eq_some_iff.1 hj).1
  rw [List.length_take] at this
  omega
 rw [List.getElem?_take,if_pos hlt,List.getElem?_drop] at hj
 rw [Nat.add_assoc]
 exact hc _ v hj
theorem Yc {G:Nat->Prop} {h:Array Obj} {T:Ty} {l:List T.den} {c:Array Value} {o:Nat} (hr:o+l.length*T.sz<=c.size) (H:∀ (i:Nat) x,l[i]? = some x->∃ es,Rd G h T G x es/\∀ (j:Nat) v,es[j]? = some v->c[o+i*T.sz+j]? = some v) :
  ∃ rs,rM G h T l rs/\∀ (j:Nat) v,rs[j]? = some v->c[o+j]? = some v:=by
 refine ⟨(c.toList.drop o).take (l.length*T.sz),⟨by rw [List.length_take,List.length_drop,Nat.min_eq_left];simp;omega,fun i x hx=>?_⟩,fun j v hj=>?_⟩
 ·obtain ⟨es,h1,h2⟩:=H i x hx
  have hil:i<l.length:=(List.getElem?_eq_some_iff.1 hx).1
  have h3:(i+1)*T.sz<=l.length*T.sz:=Nat.mul_le_mul_right _ hil
  rw [Nat.add_mul,Nat.one_mul] at h3
  have:(((c.toList.drop o).take (l.length*T.sz)).drop (i*T.sz)).take T.sz=es:=by
   refine List.ext_getElem? fun j=>?_
   by_cases hj:j<T.sz
   ·rw [List.getElem?_take,if_pos hj,List.getElem?_drop,List.getElem?_take,if_pos (by omega),List.getElem?_drop]
    have FY:j<es.length:=by rw [h1.len];exact hj
    rw [List.getElem?_eq_getElem FY]
    have:=h2 j _ (List.getElem?_eq_getElem FY)
    rw [Array.getElem?_toList,<- Nat.add_assoc]
    exact this
   ·rw [List.getElem?_eq_none (by rw [List.length_take];omega),List.getElem?_eq_none (by rw [h1.len];omega)]
  rw [this]
  exact h1
 ·have hlt:j<l.length*T.sz:=by
   have:=(List.getElem?_eq_some_iff.1 hj).1
   rw [List.length_take] at this
   omega
  rw [List.getElem?_take,if_pos hlt,List.getElem?_drop] at hj
  rw [<- Array.getElem?_toList]
  exact hj
theorem sS {w:World} {b o:Nat} {cur:Array Value} {e:TypeId} {fz:Nat × Nat} {vs:List Value} (hg:w.heap[b]? = some (.cells cur e fz)) (hl:o+vs.length<=cur.size) :
  ∃ cur':Array Value,(w.setCells b o vs).heap[b]? = some (.cells cur' e fz)/\cur'.size=cur.size/\(∀ (j:Nat) v,vs[j]? = some v->cur'[o+j]? = some v)/\(∀ k:Nat,k<o\/o+vs.length<=k->cur'[k]? = cur[k]?) /\
   (∀ k,k ≠ b->(w.setCells b o vs).heap[k]? = w.heap[k]?)/\(w.setCells b o vs).heap.size=w.heap.size/\(w.setCells b o vs).os=w.os/\(w.setCells b o vs).tape=w.tape/\(w.setCells b o vs).output=w.output/\(w.setCells b o vs).drawn=w.drawn:=by
 rw [rG b e fz vs o cur w hg hl]
 refine ⟨_,setRow_heap w b cur _ e fz hg,by simp;omega,fun j v hj=>?_,fun k hk=>?_,fun k hk=>setRow_other w b k _ hk,setRow_size w b _,rfl,rfl,rfl,rfl⟩
 ·have hlt:j<vs.length:=(List.getElem?_eq_some_iff.1 hj).1
  simp only [List.getElem?_toArray]
  rw [List.append_assoc,List.getElem?_append_right (by simp;omega),List.getElem?_append_left (by simp;omega)]
  rw [<- hj]
  congr 1
  simp
  omega
 ·simp only [List.getElem?_toArray]
  rcases hk with hk | hk
  ·rw [List.append_assoc,List.getElem?_append_left (by simp;omega),List.getElem?_take,if_pos hk]
   simp
  ·rw [List.getElem?_append_right (by simp;omega),List.getElem?_drop]
   simp
   congr 1
   omega
theorem JJ {C:dh} {f:FuncId} {fn:Func} {T:Ty} (ho:(C.sig f).own=true) (hr:fn.resultTypes.size=1) {A G:Nat->Prop} {w w':World} {l:List T.den} {rs:List Value} (hR:rM G w.heap T l rs) {v:Value} {p:Pl} {c:Array Value} {e:TypeId} {fz:Nat × Nat} {e0:Ending}
  (he:e0=.returned v) (hin:p.inn=[]) (hh:w'.heap[p.b]? = some (.cells c e fz)) (hfz:Free fz c.size) (hsz:c.size=p.size) (hroom:p.o+l.length*T.sz<=p.size) (hrow:∀ (k:Nat) u,rs[k]? = some u->c[p.o+k]? = some u)
  (hv:SliceAt T.sz (some p) 0 l.length v) (Om:¬ A p.b) (sD:∀ b,G b->A b) (hsame:∀ b,A b->w'.heap[b]? = w.heap[b]?) (hsize:w.heap.size<=w'.heap.size) (hstr:Str C.mono w w') :
  ∃ v G' ps,e0=.returned v/\w.heap.size<=w'.heap.size/\Str C.mono w w'/\(∀ b,A b->w'.heap[b]? = w.heap[b]?)/\(∀ b,G b->G' b)/\(∀ b,G' b->G b\/(¬ A b/\b<w'.heap.size)) /\
    wF (C.sig f).own (Nat.beq fn.resultTypes.size 1) (.list T) G' w'.heap l v ps/\(∀ b ∈ blks ps,¬ A b/\¬ G' b/\b<w'.heap.size)/\(blks ps).Nodup:=by
 have hb:∀ b ∈ blks [some p],b=p.b:=fun b hb=>by simpa [blks,Pl.bs,Pl.FW,hin] using hb
 refine ⟨v,G,[some p],he,hsize,hstr,hsame,fun _ h=>h,fun _ h=>.inl h,⟨[v], ?_, ?_⟩,fun b hbb=>?_,by simp [blks,Pl.bs,Pl.FW,hin]⟩
 ·rw [ho]
  simp only [cZ,if_true]
  exact ⟨v,some p,rfl,rfl,hv,⟨c,e,fz,hh,hfz,hsz,hroom,(hR.move fun b hb=>hsame b (sD b hb)).arr (c:=fun k=>c[k]?) hrow⟩,fun q hq=>by cases hq;exact hin⟩
 ·rw [hr]
  show (if Nat.beq 1 1=true then ku false [v] v else _)
  rw [if_pos (show Nat.beq 1 1=true from rfl)]
  rfl
 ·rw [hb b hbb]
  exact ⟨Om,fun h=>Om (sD _ h),(Array.getElem?_eq_some_iff.1 hh).1⟩
def gN (T:Ty) (B:Nat):(t:Ty)->List Arg->Option t.den
 | .list u,[.give (.list a) l,.val (.int .i64) i,.val (.list b) vs]=>if h:u=T/\a=T/\b=T then (if 0<=i/\i<=(l.length:Int)/\vs.length=1/\(l.length+1)*B<=140737488355328 then some (h.1 ▸ ((h.2.1 ▸ l:List T.den).take i.toNat++(h.2.2 ▸ vs)++(h.2.1 ▸ l:List T.den).drop i.toNat)) else none) else none
 | _,_=>none
def kJ (T:Ty):(t:Ty)->List Arg->Option t.den
 | .list u,[.give (.list a) l,.val (.int .i64) i,.val (.int .i64) j]=>if h:u=T/\a=T then (if 0<=i/\i<j/\j<=(l.length:Int)/\l.length<=4611686018427387904 then some (h.1 ▸ ((h.2 ▸ l:List T.den).take i.toNat++(h.2 ▸ l:List T.den).drop j.toNat)) else none) else none
 | _,_=>none
theorem tY {T:Ty} {B:Nat} {l:List T.den} {i:Int} {x:T.den} (h0:0<=i) (h1:i<=(l.length:Int)) (h2:(l.length+1)*B<=140737488355328) :
  gN T B (.list T) [.give (.list T) l,.val (.int .i64) i,.val (.list T) [x]]=some (l.take i.toNat++[x]++l.drop i.toNat):=by
 simp [gN,h0,h1,h2]
theorem BX {T:Ty} {l:List T.den} {i j:Int} (h0:0<=i) (h1:i<j) (h2:j<=(l.length:Int)) (h3:l.length<=4611686018427387904) :
  kJ T (.list T) [.give (.list T) l,.val (.int .i64) i,.val (.int .i64) j]=some (l.take i.toNat++l.drop j.toNat):=by
 simp [kJ,h0,h1,h2,h3]
theorem zF {T:Ty} {B:Nat} {t:Ty} {args:List Arg} {r:t.den} (h:gN T B t args=some r) :
  ∃ (l:List T.den) (i:Nat) (x:T.den),args=[.give (.list T) l,.val (.int .i64) i,.val (.list T) [x]]/\i<=l.length/\(l.length+1)*B<=140737488355328/\∃ e:Ty.list T=t,(e ▸ (l.take i++[x]++l.drop i:(Ty.list T).den))=r:=by
 unfold gN at h
 split at h
 ·rename_i u a l i b vs
  split at h
  ·rename_i hh
   obtain ⟨rfl,rfl,rfl⟩:=hh
   split at h
   ·rename_i hc
    obtain ⟨x,rfl⟩:=List.length_eq_one_iff.1 hc.2.2.1
    obtain ⟨n,rfl⟩:=Int.eq_ofNat_of_zero_le hc.1
    exact ⟨l,n,x,rfl,Int.ofNat_le.1 hc.2.1,hc.2.2.2,rfl,by simpa using h⟩
   ·cases h
  ·cases h
 ·cases h
theorem zG {T:Ty} {t:Ty} {args:List Arg} {r:t.den} (h:kJ T t args=some r) :
  ∃ (l:List T.den) (i j:Nat),args=[.give (.list T) l,.val (.int .i64) i,.val (.int .i64) j]/\i<j/\j<=l.length/\l.length<=4611686018427387904/\∃ e:Ty.list T=t,(e ▸ (l.take i++l.drop j:(Ty.list T).den))=r:=by
 unfold kJ at h
 split at h
 ·rename_i u a l i j
  split at h
  ·rename_i hh
   obtain ⟨rfl,rfl⟩:=hh
   split at h
   ·rename_i hc
    obtain ⟨n,rfl⟩:=Int.eq_ofNat_of_zero_le hc.1
    obtain ⟨m,rfl⟩:=Int.eq_ofNat_of_zero_le (show 0<=j from Int.le_trans hc.1 (Int.le_of_lt hc.2.1))
    exact ⟨l,n,m,rfl,Int.ofNat_lt.1 hc.2.1,Int.ofNat_le.1 hc.2.2.1,hc.2.2.2,rfl,by simpa using h⟩
   ·cases h
  ·cases h
 ·cases h
theorem PN {A G:Nat->Prop} {h:Array Obj} {T:Ty} {l:List T.den} {v:Value} (ha:ArgRel A G h (.give (.list T) l) v) :
  ∃ rs,rM G h T l rs/\((l=[]/\v=.slice none 0 0)\/∃ (p:Pl) (a:Addr) (cap:Nat) (c:Array Value) (e:TypeId) (fz:Nat × Nat),v=.slice (some a) l.length cap/\l.length<=cap/\(0<cap->a=⟨p.b,p.o,none⟩)/\p.o+cap*T.sz<=p.size /\
   h[p.b]? = some (.cells c e fz)/\Free fz c.size/\c.size=p.size/\(∀ (j:Nat) u,rs[j]? = some u->c[p.o+j]? = some u)/\p.inn=[]/\¬ A p.b):=by
 obtain ⟨cs,ps,ho,hv,hn,hnd⟩:=ha
 simp only [cZ,if_true] at ho
 obtain ⟨u,π,rfl,rfl,hs,hr,hf⟩:=ho
 have hv:[u]=[v]:=hv
 obtain rfl:u=v:=by simpa using hv
 cases π with
 | none=>
  have hr:l=[]:=hr
  subst hr
  exact ⟨[],rM.nil,.inl ⟨rfl,by rw [hs.2]⟩⟩
 | some p=>
  obtain ⟨a,cap,h1,h2,h3,h4⟩:=hs
  obtain ⟨c,e,fz,k1,k2,k3,k4,k5⟩:=hr
  obtain ⟨rs,hR,hrs⟩:=Yc (by omega) k5
  exact ⟨rs,hR,.inr ⟨p,a,cap,c,e,fz,h1,h2,fun hc=>by rw [h3 hc];simp,by simpa using h4,k1,k2,k3,hrs,hf p rfl,(hn p.b (by simp [blks,Pl.bs])).1⟩⟩
section
variable {C:dh} {f:FuncId} {fn:Func}
theorem JK {h:Array Obj} {b:Nat} {c:Array Value} {e:TypeId} {fz:Nat × Nat} (hh:h[b]? = some (.cells c e fz)) (k:Nat):hcell h b k=c[k]?:=by unfold hcell;rw [hh]
theorem CO {w:World} {b:Nat} {c:Array Value} {e:TypeId} {fz:Nat × Nat} (hh:w.heap[b]? = some (.cells c e fz)) (hf:Free fz c.size) {k:Nat} (hk:k<=c.size):w.frozen? ⟨b,k,none⟩=false:=by
 have h:=hf k hk
 unfold World.frozen?
 rw [hh]
 simp
 intro h1
 exact Nat.le_of_not_lt fun h2=>h ⟨h1,h2⟩
theorem Bf {T:Ty} (S B:Nat) (Z:Value) (hS:T.sz=S) (hS0:0<S) (hB:0<B) (hZ:(Value.cells Z).size=S) (ho:(C.sig f).own=true) (hf:C.P.funcs[f]? = some fn) (hb:fn.body.isSome=true) (hr:fn.resultTypes.size=1)
  (h1:∀ (b off n c i vb voff vc:Nat) (cs vs:List Value) (w:World),i<n->n+1<=c->n+1<=4611686018427387904->vb ≠ b->cs.length=n*S->vs.length=S->
   (∀ j v,cs[j]? = some v->w.cell? ⟨b,off+j,none⟩=some v)->(∀ j,j<(n+1)*S->(w.cell? ⟨b,off+j,none⟩).isSome=true)->(∀ j,j<(n+1)*S->w.frozen? ⟨b,off+j,none⟩=false)->
   (∀ j v,vs[j]? = some v->w.cell? ⟨vb,voff+j,none⟩=some v)->(∀ v ∈ cs,v.oneCell'=true)->(∀ v ∈ vs,v.oneCell'=true)->
   ∀ (tA tB:TypeId) (kA kB:Nat),w.shape? vb=some (tA,kA)->w.shape? b=some (tB,kB)->kA ≠ 0->kB ≠ 0->w.frozen? ⟨b,kB,none⟩=false->
   Calls C.P f #[.slice (some ⟨b,off,none⟩) n c,.int .i64 i,.slice (some ⟨vb,voff,none⟩) 1 vc] w fun e w'=>
    e=.returned (.slice (some ⟨b,off,none⟩) (n+1) c)/\w'=(w.drew.setCells b (off+(i+1)*S) (cs.drop (i*S))).setCells b (off+i*S) vs)
  (h2:∀ (b off n c vb voff vc:Nat) (vs:List Value) (w:World),n+1<=c->n+1<=4611686018427387904->vs.length=S->(∀ j,j<S->(w.cell? ⟨b,off+n*S+j,none⟩).isSome=true)->(∀ j,j<S->w.frozen? ⟨b,off+n*S+j,none⟩=false)->
   (∀ j v,vs[j]? = some v->w.cell? ⟨vb,voff+j,none⟩=some v)->(∀ v ∈ vs,v.oneCell'=true)->
   Calls C.P f #[.slice (some ⟨b,off,none⟩) n c,.int .i64 n,.slice (some ⟨vb,voff,none⟩) 1 vc] w fun e w'=>
    e=.returned (.slice (some ⟨b,off,none⟩) (n+1) c)/\w'=w.setCells b (off+n*S) vs)
  (h3:∀ (base:Option Addr) (n c vb voff vc:Nat) (cs vs:List Value) (w:World),n<=c->c<n+1->(n+1)*B<=140737488355328->cs.length=n*S->vs.length=S->(base=none->n=0)->
   (∀ a,base=some a->∀ j v,cs[j]? = some v->w.cell? (a.add j)=some v)->(∀ j v,vs[j]? = some v->w.cell? ⟨vb,voff+j,none⟩=some v)->(∀ v ∈ vs,v.oneCell'=true)->
   Calls C.P f #[.slice base n c,.int .i64 n,.slice (some ⟨vb,voff,none⟩) 1 vc] w fun e w'=>
    ∃ m z t,n+1<=m/\e=.returned (.slice (some ⟨w.heap.size,0,none⟩) (n+1) m)/\Value.cells z=Value.cells Z/\w'=w.drew.alloc (.cells ((cs++vs).toArray++Builtin.zeroCells (Value.cells z) (m - (n+1))) t))
  (h4:∀ (b off n c i vb voff vc:Nat) (cs vs:List Value) (w:World),i<n->n<=c->c<n+1->(n+1)*B<=140737488355328->cs.length=n*S->vs.length=S->
   (∀ j v,cs[j]? = some v->w.cell? ⟨b,off+j,none⟩=some v)->(∀ j v,vs[j]? = some v->w.cell? ⟨vb,voff+j,none⟩=some v)->(∀ v ∈ cs,v.oneCell'=true)->(∀ v ∈ vs,v.oneCell'=true)->
   Calls C.P f #[.slice (some ⟨b,off,none⟩) n c,.int .i64 i,.slice (some ⟨vb,voff,none⟩) 1 vc] w fun e w'=>
    ∃ m z t,n+1<=m/\e=.returned (.slice (some ⟨w.heap.size,0,none⟩) (n+1) m)/\Value.cells z=Value.cells Z /\
    w'=(((w.alloc (.cells ((cs.take (i*S)).toArray++Builtin.zeroCells (Value.cells z) (n+1 - i)++Builtin.zeroCells (Value.cells z) (m - (n+1))) t)).drew.setCells w.heap.size (i*S) vs).drew).setCells w.heap.size ((i+1)*S) (cs.drop (i*S))) :
  ET C fun g t args=>if g=f then gN T B t args else none:=by
 refine NJ hf hb (fun t args r U x h=>by obtain ⟨l,i,x,rfl,_⟩:=zF h;simp) fun t args r hp w A G vals hA sD htab hargs=>?_
 obtain ⟨l,i,x,rfl,hil,hbig,rfl,rfl⟩:=zF hp
 obtain ⟨hlen,har⟩:=hargs
 match vals,hlen with
 | [v0,v1,v2],_=>
 have a0:=har 0 _ v0 rfl rfl
 have a1:=Ii (har 1 _ v1 rfl rfl)
 obtain ⟨es,hes,hv2⟩:=har 2 _ v2 rfl rfl
 obtain ⟨av,cv',rfl,_,hvv⟩:=hes
 have hv2:[_]=[v2]:=hv2
 simp only [List.cons.injEq,and_true] at hv2
 subst hv2
 subst a1
 obtain ⟨vb,vo,rfl,hvA,Vx⟩:=hvv (by simp)
 obtain ⟨ex,hex,hcx⟩:=Vx 0 x rfl
 obtain ⟨rs,hR,hcase⟩:=PN a0
 have hcl:rs.length=l.length*S:=by rw [hR.len,hS]
 have hvs:∀ (j:Nat) u,ex[j]? = some u->w.cell? ⟨vb,vo+j,none⟩=some u:=fun j u hj=>by
  rw [mQ]
  have:=hcx j u hj
  rwa [show vo+0*T.sz+j=vo+j by omega] at this
 have hvl:ex.length=S:=by rw [hex.len,hS]
 have PO:∀ v ∈ ex,v.oneCell'=true:=(rM.single hex).one
 have hn1:l.length+1<=4611686018427387904:=by
  have:l.length+1<=(l.length+1)*B:=Nat.le_mul_of_pos_right _ hB
  omega
 have hfin:rM G w.heap T (l.take i++[x]++l.drop i) (rs.take (i*S)++ex++rs.drop (i*S)):=by
  have:=((hR.take hil).app (rM.single hex)).app (hR.drop hil)
  rwa [hS] at this
 have hln:(l.take i++[x]++l.drop i).length=l.length+1:=by simp;omega
 have ade:i*S<=l.length*S:=Nat.mul_le_mul_right _ hil
 have hap:∀ (k:Nat) u,(rs.take (i*S)++ex++rs.drop (i*S))[k]? = some u->(k<i*S/\rs[k]? = some u)\/(i*S<=k/\k<(i+1)*S/\ex[k - i*S]? = some u)\/((i+1)*S<=k/\(rs.drop (i*S))[k - (i+1)*S]? = some u):=by
  intro k u hk
  have hS1:(i+1)*S=i*S+S:=by rw [Nat.add_mul,Nat.one_mul]
  have htl:(rs.take (i*S)).length=i*S:=by rw [List.length_take,hcl];omega
  by_cases c1:k<i*S
  ·rw [List.append_assoc,List.getElem?_append_left (by omega),List.getElem?_take,if_pos c1] at hk
   exact .inl ⟨c1,hk⟩
  ·by_cases c2:k<(i+1)*S
   ·rw [List.append_assoc,List.getElem?_append_right (by omega),List.getElem?_append_left (by omega),htl] at hk
    exact .inr (.inl ⟨by omega,c2,hk⟩)
   ·rw [List.getElem?_append_right (by simp only [List.length_append];omega)] at hk
    simp only [List.length_append,htl,hvl] at hk
    exact .inr (.inr ⟨by omega,by rwa [hS1]⟩)
 have hS1:(i+1)*S=i*S+S:=by rw [Nat.add_mul,Nat.one_mul]
 have adM:(l.length+1)*S=l.length*S+S:=by rw [Nat.add_mul,Nat.one_mul]
 have hdl:(rs.drop (i*S)).length=l.length*S - i*S:=by rw [List.length_drop,hcl]
 have fresh:∀ {e0:Ending} {w':World} {m:Nat} {c':Array Value} {e':TypeId},e0=.returned (.slice (some ⟨w.heap.size,0,none⟩) (l.length+1) m)->l.length+1<=m->w'.heap[w.heap.size]? = some (.cells c' e' (0,0))->m*S<=c'.size->
   (∀ (k:Nat) u,(rs.take (i*S)++ex++rs.drop (i*S))[k]? = some u->c'[k]? = some u)->(∀ b,b<w.heap.size->w'.heap[b]? = w.heap[b]?)->w.heap.size<=w'.heap.size->Str C.mono w w'->
   ∃ v G' ps,e0=.returned v/\w.heap.size<=w'.heap.size/\Str C.mono w w'/\(∀ b,A b->w'.heap[b]? = w.heap[b]?)/\(∀ b,G b->G' b)/\(∀ b,G' b->G b\/(¬ A b/\b<w'.heap.size)) /\
    wF (C.sig f).own (Nat.beq fn.resultTypes.size 1) (.list T) G' w'.heap (l.take i++[x]++l.drop i) v ps/\(∀ b ∈ blks ps,¬ A b/\¬ G' b/\b<w'.heap.size)/\(blks ps).Nodup:=by
  intro e0 w' m c' e' he hm hh hcs hk hold hsz hstr
  have hmS:(l.length+1)*S<=m*S:=Nat.mul_le_mul_right _ hm
  exact JJ (p:=⟨w.heap.size,0,c'.size,[]⟩) ho hr hfin he rfl hh (Free.zero _) rfl (by simp only [hln,hS];omega) (by simpa using hk)
   ⟨_,m,by rw [hln],by rw [hln];exact hm,fun _=>by simp,by simp only [hS,Nat.zero_add];omega⟩ (fun h=>Nat.lt_irrefl _ (hA _ h)) sD (fun b hb=>hold b (hA b hb)) hsz hstr
 rcases hcase with ⟨rfl,rfl⟩ | ⟨p,a,cap,c,e,fz,rfl,hcap,sG,hroom,hh,hfz,hsz,hrow,Vn,Om⟩
 ·obtain rfl:rs=[]:=List.length_eq_zero_iff.1 (by simpa using hcl)
  have hi:i=0:=by simpa using hil
  subst hi
  refine (h3 none 0 0 vb vo cv' [] ex w (by omega) (by omega) (by simpa using hbig) (by simp) hvl (fun _=>rfl) (fun a h=>by cases h) hvs PO).mono fun e0 w' hpost=>?_
  obtain ⟨m,z,t,hm,he,hz,rfl⟩:=hpost
  refine fresh (m:=m) (c':=(([]++ex).toArray++Builtin.zeroCells (Value.cells z) (m - (0+1)))) (e':=t) he hm ?_ ?_ ?_ ?_ ?_ ?_
  ·show (w.heap.push _)[w.heap.size]? = _
   rw [Array.getElem?_push,if_pos rfl]
  ·have:(Value.cells z).size=S:=by rw [hz,hZ]
   simp [Builtin.zeroCells,this,hvl]
   have:m*S=(m - 1)*S+S:=by
    obtain ⟨q,rfl⟩:∃ q,m=q+1:=⟨m - 1,by omega⟩
    rw [Nat.add_sub_cancel,Nat.add_mul,Nat.one_mul]
   omega
  ·intro k u hk
   simp at hk
   have hlt:=(List.getElem?_eq_some_iff.1 hk).1
   rw [Array.getElem?_append_left (by simpa using hlt)]
   simpa using hk
  ·intro b hb
   show (w.heap.push _)[b]? = _
   rw [Array.getElem?_push,if_neg (by omega)]
  ·show w.heap.size<=(w.heap.push _).size
   simp
  ·exact ⟨rfl,rfl,rfl,fun _=>Nat.le_succ _⟩
 have RN:∀ (j:Nat) u,rs[j]? = some u->w.cell? ⟨p.b,p.o+j,none⟩=some u:=fun j u hj=>by
  rw [mQ,JK hh]
  exact hrow j u hj
 have hvA:A vb:=by
  cases hk:(Ty.list T).kept with
  | true=>rw [hk] at hvA;exact sD _ hvA
  | false=>rw [hk] at hvA;exact hvA
 have acE:vb ≠ p.b:=fun e=>Om (e ▸ hvA)
 by_cases hfit:l.length+1<=cap
 ·have ha:=sG (by omega)
  subst ha
  have abr:(l.length+1)*S<=cap*S:=Nat.mul_le_mul_right _ hfit
  rw [hS] at hroom
  have same:∀ {e0:Ending} {w':World} {c':Array Value},e0=.returned (.slice (some ⟨p.b,p.o,none⟩) (l.length+1) cap)->w'.heap[p.b]? = some (.cells c' e fz)->c'.size=c.size->
    (∀ (k:Nat) u,(rs.take (i*S)++ex++rs.drop (i*S))[k]? = some u->c'[p.o+k]? = some u)->(∀ b,b ≠ p.b->w'.heap[b]? = w.heap[b]?)->w'.heap.size=w.heap.size->Str C.mono w w'->
    ∃ v G' ps,e0=.returned v/\w.heap.size<=w'.heap.size/\Str C.mono w w'/\(∀ b,A b->w'.heap[b]? = w.heap[b]?)/\(∀ b,G b->G' b)/\(∀ b,G' b->G b\/(¬ A b/\b<w'.heap.size)) /\
     wF (C.sig f).own (Nat.beq fn.resultTypes.size 1) (.list T) G' w'.heap (l.take i++[x]++l.drop i) v ps/\(∀ b ∈ blks ps,¬ A b/\¬ G' b/\b<w'.heap.size)/\(blks ps).Nodup:=by
   intro e0 w' c' he hh' hcs hk hold hsz' hstr
   exact JJ (p:=p) ho hr hfin he Vn hh' (by rw [hcs];exact hfz) (by rw [hcs];exact hsz) (by rw [hln,hS];omega) hk
    ⟨_,cap,by rw [hln],by rw [hln];exact hfit,fun _=>by simp,by simp only [hS,Nat.zero_add];exact hroom⟩ Om sD (fun b hb=>hold b (fun e=>Om (e ▸ hb))) (by omega) hstr
  have Wj:∀ k,k<cap*S->(w.cell? ⟨p.b,p.o+k,none⟩).isSome=true:=fun k hk=>by
   rw [mQ,JK hh]
   rw [Array.getElem?_eq_getElem (by omega)]
   rfl
  have hfree:∀ k,k<cap*S->w.frozen? ⟨p.b,p.o+k,none⟩=false:=fun k hk=>CO hh hfz (by omega)
  by_cases hend:i=l.length
  ·subst hend
   refine (h2 p.b p.o l.length cap vb vo cv' ex w hfit hn1 hvl (fun j hj=>by rw [Nat.add_assoc];exact Wj _ (by omega)) (fun j hj=>by rw [Nat.add_assoc];exact hfree _ (by omega)) hvs PO).mono fun e0 w' hpost=>?_
   obtain ⟨he,rfl⟩:=hpost
   obtain ⟨c1,g1,g2,g3,g4,g5,g6,g7,g8,g9,g10⟩:=sS (vs:=ex) (o:=p.o+l.length*S) hh (by omega)
   refine same he g1 g2 (fun k u hk=>?_) g5 g6 ⟨g7,g8,g9,fun _=>Nat.le_of_eq g10.symm⟩
   rcases hap k u hk with ⟨c1',h⟩ | ⟨c1',c2',h⟩ | ⟨c1',h⟩
   ·rw [g4 _ (.inl (by omega))]
    exact hrow k u h
   ·have:=g3 _ u h
    rwa [show p.o+l.length*S+(k - l.length*S)=p.o+k by omega] at this
   ·rw [List.drop_eq_nil_of_le (by omega)] at h
    simp at h
  ·have hlt:i<l.length:=by omega
   have Wl:∃ cA eA fA,w.heap[vb]? = some (.cells cA eA fA)/\cA.size ≠ 0:=by
    have h0:ex[0]? = some (ex[0]'(by omega)):=List.getElem?_eq_getElem _
    have:=hvs 0 _ h0
    rw [mQ] at this
    unfold hcell at this
    cases hq:w.heap[vb]? with
    | none=>rw [hq] at this;cases this
    | some ob=>
     rw [hq] at this
     cases ob <;> simp at this
     rename_i cA eA fA
     exact ⟨cA,eA,fA,rfl,fun h0=>by
      have hlt:=(Array.getElem?_eq_some_iff.1 this).1
      omega⟩
   obtain ⟨cA,eA,fA,hqA,acF⟩:=Wl
   refine (h1 p.b p.o l.length cap i vb vo cv' rs ex w hlt hfit hn1 acE hcl hvl RN (fun j hj=>Wj _ (by omega)) (fun j hj=>hfree _ (by omega)) hvs hR.one PO eA e cA.size c.size
    (by unfold World.shape?;rw [hqA]) (by unfold World.shape?;rw [hh]) acF (by omega) (CO hh hfz (Nat.le_refl _))).mono fun e0 w' hpost=>?_
   obtain ⟨he,rfl⟩:=hpost
   obtain ⟨c1,g1,g2,g3,g4,g5,g6,g7,g8,g9,g10⟩:=sS (w:=w.drew) (vs:=rs.drop (i*S)) (o:=p.o+(i+1)*S) hh (by rw [hdl];omega)
   obtain ⟨c2,k1,k2,k3,k4,k5,k6,k7,k8,k9,k10⟩:=sS (vs:=ex) (o:=p.o+i*S) g1 (by omega)
   refine same he k1 (k2.trans g2) (fun k u hk=>?_) (fun b hb=>(k5 b hb).trans (g5 b hb)) (k6.trans g6) ⟨k7.trans g7,k8.trans g8,k9.trans g9,fun _=>by rw [k10,g10];exact Nat.le_succ _⟩
   rcases hap k u hk with ⟨c1',h⟩ | ⟨c1',c2',h⟩ | ⟨c1',h⟩
   ·rw [k4 _ (.inl (by omega)),g4 _ (.inl (by omega))]
    exact hrow k u h
   ·have:=k3 _ u h
    rwa [show p.o+i*S+(k - i*S)=p.o+k by omega] at this
   ·rw [k4 _ (.inr (by omega))]
    have:=g3 _ u h
    rwa [show p.o+(i+1)*S+(k - (i+1)*S)=p.o+k by omega] at this
 ·have abt:cap<l.length+1:=by omega
  by_cases hend:i=l.length
  ·subst hend
   refine (h3 (some a) l.length cap vb vo cv' rs ex w hcap abt hbig hcl hvl (fun h=>by cases h) (fun a' ha' j u hj=>?_) hvs PO).mono fun e0 w' hpost=>?_
   ·cases ha'
    have hlt:j<rs.length:=(List.getElem?_eq_some_iff.1 hj).1
    have hc0:0<cap:=by
     rcases Nat.eq_zero_or_pos cap with h0 | h0
     ·have:l.length=0:=by omega
      rw [hcl,this] at hlt
      omega
     ·exact h0
    rw [sG hc0,Addr.add_lit]
    exact RN j u hj
   obtain ⟨m,z,t,hm,he,hz,rfl⟩:=hpost
   have hzs:(Value.cells z).size=S:=by rw [hz,hZ]
   refine fresh (m:=m) (c':=((rs++ex).toArray++Builtin.zeroCells (Value.cells z) (m - (l.length+1)))) (e':=t) he hm ?_ ?_ ?_ ?_ ?_ ?_
   ·show (w.heap.push _)[w.heap.size]? = _
    rw [Array.getElem?_push,if_pos rfl]
   ·simp [Builtin.zeroCells,hzs,hvl,hcl]
    have:m*S=(m - (l.length+1))*S+(l.length+1)*S:=by rw [<- Nat.add_mul];congr 1;omega
    omega
   ·intro k u hk
    rw [List.take_of_length_le (by omega),List.drop_eq_nil_of_le (by omega),List.append_nil] at hk
    have hlt:=(List.getElem?_eq_some_iff.1 hk).1
    rw [Array.getElem?_append_left (by simpa using hlt)]
    simpa using hk
   ·intro b hb
    show (w.heap.push _)[b]? = _
    rw [Array.getElem?_push,if_neg (by omega)]
   ·show w.heap.size<=(w.heap.push _).size
    simp
   ·exact ⟨rfl,rfl,rfl,fun _=>Nat.le_succ _⟩
  ·have hlt:i<l.length:=by omega
   have ha:=sG (by omega)
   subst ha
   refine (h4 p.b p.o l.length cap i vb vo cv' rs ex w hlt hcap abt hbig hcl hvl RN hvs hR.one PO).mono fun e0 w' hpost=>?_
   obtain ⟨m,z,t,hm,he,hz,rfl⟩:=hpost
   have hzs:(Value.cells z).size=S:=by rw [hz,hZ]
   generalize hROW:(rs.take (i*S)).toArray++Builtin.zeroCells (Value.cells z) (l.length+1 - i)++Builtin.zeroCells (Value.cells z) (m - (l.length+1))=ROW
   have htl:(rs.take (i*S)).length=i*S:=by rw [List.length_take,hcl];omega
   have hRs:ROW.size=m*S:=by
    rw [<- hROW]
    simp only [Array.size_append,List.size_toArray,htl,Builtin.zeroCells,Array.size_map,Array.size_range,hzs]
    have e1:i*S+(l.length+1 - i)*S=(l.length+1)*S:=by rw [<- Nat.add_mul];congr 1;omega
    have e2:(l.length+1)*S+(m - (l.length+1))*S=m*S:=by rw [<- Nat.add_mul];congr 1;omega
    omega
   have hR0:∀ k,k<i*S->ROW[k]? = rs[k]?:=fun k hk=>by
    rw [<- hROW,Array.append_assoc,Array.getElem?_append_left (by simp only [List.size_toArray,htl];exact hk)]
    simp only [List.getElem?_toArray]
    rw [List.getElem?_take,if_pos hk]
   have hmS:(l.length+1)*S<=m*S:=Nat.mul_le_mul_right _ hm
   have hw1:((w.alloc (.cells ROW t)).drew).heap[w.heap.size]? = some (.cells ROW t (0,0)):=by
    show (w.heap.push _)[w.heap.size]? = _
    rw [Array.getElem?_push,if_pos rfl]
   obtain ⟨c1,g1,g2,g3,g4,g5,g6,g7,g8,g9,g10⟩:=sS (vs:=ex) (o:=i*S) hw1 (by omega)
   have hw2:((((w.alloc (.cells ROW t)).drew.setCells w.heap.size (i*S) ex).drew)).heap[w.heap.size]? = some (.cells c1 t (0,0)):=g1
   obtain ⟨c2,k1,k2,k3,k4,k5,k6,k7,k8,k9,k10⟩:=sS (vs:=rs.drop (i*S)) (o:=(i+1)*S) hw2 (by rw [hdl];omega)
   refine fresh (m:=m) (c':=c2) (e':=t) he hm k1 (by omega) (fun k u hk=>?_) (fun b hb=>?_) ?_ ⟨k7.trans g7,k8.trans g8,k9.trans g9,fun _=>?_⟩
   ·rcases hap k u hk with ⟨c1',h⟩ | ⟨c1',c2',h⟩ | ⟨c1',h⟩
    ·rw [k4 _ (.inl (by omega)),g4 _ (.inl (by omega)),hR0 k c1']
     exact h
    ·rw [k4 _ (.inl (by omega))]
     have:=g3 _ u h
     rwa [show i*S+(k - i*S)=k by omega] at this
    ·have:=k3 _ u h
     rwa [show (i+1)*S+(k - (i+1)*S)=k by omega] at this
   ·refine (k5 b (by omega)).trans ((g5 b (by omega)).trans ?_)
    show (w.heap.push _)[b]? = _
    rw [Array.getElem?_push,if_neg (by omega)]
   ·rw [k6]
    show w.heap.size<=((w.alloc (.cells ROW t)).drew.setCells w.heap.size (i*S) ex).heap.size
    rw [g6]
    show w.heap.size<=(w.heap.push _).size
    simp
   ·rw [k10]
    show w.drawn<=((w.alloc (.cells ROW t)).drew.setCells w.heap.size (i*S) ex).drawn+1
    rw [g10]
    show w.drawn<=w.drawn+1+1
    omega
theorem Mx {T:Ty} (S:Nat) (Z:Value) (hS:T.sz=S) (hZ:(Value.cells Z).size=S) (ho:(C.sig f).own=true) (hf:C.P.funcs[f]? = some fn) (hb:fn.body.isSome=true) (hr:fn.resultTypes.size=1)
  (h1:∀ (b off n c i j:Nat) (cs:List Value) (w:World),i<j->j<=n->n<=c->n<=4611686018427387904->cs.length=n*S->(∀ j v,cs[j]? = some v->w.cell? ⟨b,off+j,none⟩=some v)->(∀ j,j<n*S->w.frozen? ⟨b,off+j,none⟩=false)->(∀ v ∈ cs,v.oneCell'=true)->
   Calls C.P f #[.slice (some ⟨b,off,none⟩) n c,.int .i64 i,.int .i64 j] w fun e w'=>
    e=.returned (.slice (some ⟨b,off,none⟩) (i+(n - j)) c)/\w'=(w.drew.setCells b (off+i*S) (cs.drop (j*S))).setCells b (off+(i+(n - j))*S) (Builtin.zeroCells (Value.cells Z) (j - i)).toList) :
  ET C fun g t args=>if g=f then kJ T t args else none:=by
 refine NJ hf hb (fun t args r U x h=>by obtain ⟨l,i,j,rfl,_⟩:=zG h;simp) fun t args r hp w A G vals hA sD htab hargs=>?_
 obtain ⟨l,i,j,rfl,hij,hjl,hl63,rfl,rfl⟩:=zG hp
 obtain ⟨hlen,har⟩:=hargs
 match vals,hlen with
 | [v0,v1,v2],_=>
 have a0:=har 0 _ v0 rfl rfl
 have a1:=Ii (har 1 _ v1 rfl rfl)
 have a2:=Ii (har 2 _ v2 rfl rfl)
 subst a1 a2
 obtain ⟨rs,hR,hcase⟩:=PN a0
 have hcl:rs.length=l.length*S:=by rw [hR.len,hS]
 rcases hcase with ⟨rfl,rfl⟩ | ⟨p,a,cap,c,e,fz,rfl,hcap,sG,hroom,hh,hfz,hsz,hrow,Vn,Om⟩
 ·simp at hjl;omega
 have ha:=sG (by omega)
 subst ha
 rw [hS] at hroom
 have abr:l.length*S<=cap*S:=Nat.mul_le_mul_right _ hcap
 have hiS:i*S<=j*S:=Nat.mul_le_mul_right _ (Nat.le_of_lt hij)
 have hjS:j*S<=l.length*S:=Nat.mul_le_mul_right _ hjl
 have hln:(l.take i++l.drop j).length=i+(l.length - j):=by simp;omega
 have hfin:rM G w.heap T (l.take i++l.drop j) (rs.take (i*S)++rs.drop (j*S)):=by
  have:=(hR.take (by omega:i<=l.length)).app (hR.drop hjl)
  rwa [hS] at this
 have hdl:(rs.drop (j*S)).length=l.length*S - j*S:=by rw [List.length_drop,hcl]
 have htl:(rs.take (i*S)).length=i*S:=by rw [List.length_take,hcl];omega
 have hnS:(i+(l.length - j))*S=i*S+(l.length*S - j*S):=by rw [Nat.add_mul,Nat.sub_mul]
 have hzl:(Builtin.zeroCells (Value.cells Z) (j - i)).toList.length=j*S - i*S:=by simp [Builtin.zeroCells,hZ,Nat.sub_mul]
 refine (h1 p.b p.o l.length cap i j rs w hij hjl hcap hl63 hcl (fun k u hk=>by rw [mQ,JK hh];exact hrow k u hk) (fun k hk=>CO hh hfz (by omega)) hR.one).mono fun e0 w' hpost=>?_
 obtain ⟨he,rfl⟩:=hpost
 obtain ⟨c1,g1,g2,g3,g4,g5,g6,g7,g8,g9,g10⟩:=sS (w:=w.drew) (vs:=rs.drop (j*S)) (o:=p.o+i*S) hh (by rw [hdl];omega)
 obtain ⟨c2,k1,k2,k3,k4,k5,k6,k7,k8,k9,k10⟩:=sS (vs:=(Builtin.zeroCells (Value.cells Z) (j - i)).toList) (o:=p.o+(i+(l.length - j))*S) g1 (by rw [hzl];omega)
 have hcs:c2.size=c.size:=k2.trans g2
 exact JJ (p:=p) ho hr hfin he Vn k1 (by rw [hcs];exact hfz) (by rw [hcs];exact hsz) (by rw [hln,hS];omega) (by
   intro k u hk
   have hlt:k<i*S+(l.length*S - j*S):=by
    have:=(List.getElem?_eq_some_iff.1 hk).1
    simp only [List.length_append,htl,hdl] at this
    exact this
   rw [k4 _ (.inl (by omega))]
   by_cases c1':k<i*S
   ·rw [List.getElem?_append_left (by omega),List.getElem?_take,if_pos c1'] at hk
    rw [g4 _ (.inl (by omega))]
    exact hrow k u hk
   ·rw [List.getElem?_append_right (by omega),htl] at hk
    have:=g3 _ u hk
    rwa [show p.o+i*S+(k - i*S)=p.o+k by omega] at this)
  ⟨_,cap,by rw [hln],by rw [hln];omega,fun _=>by simp,by simp only [hS,Nat.zero_add];exact hroom⟩ Om sD (fun b hb=>(k5 b (fun e=>Om (e ▸ hb))).trans (g5 b (fun e=>Om (e ▸ hb)))) (by rw [k6,g6];exact Nat.le_refl _) ⟨k7.trans g7,k8.trans g8,k9.trans g9,fun _=>by rw [k10,g10];exact Nat.le_succ _⟩
end
end Go.Flat
