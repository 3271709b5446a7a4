/- Whatever the evaluator answers, the program answers: the whole. No condition. -/
import Derived.Test.YtmocpfgfjeaelaaGreatRun1
set_option linter.unusedVariables false
set_option linter.unusedSimpArgs false
namespace Go.Flat
theorem CB (fn:Func) (tmps:Array Value):results fn tmps=(do let vs <- fn.results.mapM (Ic tmps);pure (if h:vs.size=1 then vs[0] else .tuple vs)):=by
 unfold results
 congr 1
def nE (A G:Nat->Prop) (h:Array Obj) (inn:Nat->Nat->Nat->Value):Mem:=⟨A,G,h,fun _=>none,fun _=>none,fun _=>none,fun _=>0,inn⟩
theorem wZ {A G:Nat->Prop} {h:Array Obj} {inn:Nat->Nat->Nat->Value}:∀ {as:List Arg} {us:List Value} (n:Nat),gZ A G h as us->(∀ b ∈ as,b.sO=false)->(eB n as).2=[]/\(eB n as).1.length=us.length /\
  ∀ (j:Nat) s u,(eB n as).1[j]? = some s->us[j]? = some u->gJ (nE A G h inn) s u
 | [],us,n,hr,_=>by
  have:us=[]:=List.eq_nil_of_length_eq_zero hr.1
  subst this
  exact ⟨rfl,rfl,fun j s u hj=>by simp [eB] at hj⟩
 | a :: as,us,n,hr,hno=>by
  cases us with
  | nil=>have:=hr.1;simp at this
  | cons u us=>
   have hr':gZ A G h as us:=⟨by have:=hr.1;simpa using this,fun i a v hi hv=>hr.2 (i+1) a v (by simpa using hi) (by simpa using hv)⟩
   obtain ⟨k1,k2,k3⟩:=wZ (n+1) hr' (fun b hb=>hno b (List.mem_cons_of_mem _ hb))
   have h0:=hr.2 0 a u rfl rfl
   have hs:∃ s,gI n a=(s,[])/\gJ (nE A G h inn) s u:=by
    cases a with
    | val t x=>
     obtain ⟨es,hes,hv⟩:=h0
     refine ⟨_,rfl, ?_⟩
     have:=lD (M:=nE A G h inn) (mg (M:=nE A G h inn) t.kept (by cases hk:t.kept <;> (rw [hk] at hes;exact hes))) hv
     have hc:zN t.kept t x=bO t.isAgg (cellsOf t.kept t x):=by
      unfold zN bO
      split <;> simp_all
     show eY _ (zN t.kept t x) u
     rw [hc]
     exact this
    | UU t x=>
     obtain ⟨es,hes,hv⟩:=h0
     refine ⟨_,rfl, ?_⟩
     have:=lD (M:=nE A G h inn) (mg (M:=nE A G h inn) true hes) hv
     have hc:zN true t x=bO t.isAgg (cellsOf true t x):=by
      unfold zN bO
      split <;> simp_all
     show eY _ (zN true t x) u
     rw [hc]
     exact this
    | nL f caps=>exact ⟨_,rfl,h0⟩
    | rp t x=>exact ⟨_,rfl,h0⟩
    | give _ _=>have:=hno _ List.mem_cons_self;simp [Arg.sO] at this
    | iF _ _=>exact h0.elim
    | lend _ _=>exact h0.elim
   obtain ⟨s,hs,hsr⟩:=hs
   simp only [eB,hs]
   generalize hps:eB (n+1) as=ps at *
   obtain ⟨vs,es⟩:=ps
   simp only at k1 k2 k3 ⊢
   refine ⟨by simp [k1],by simp [k2],fun j s' u' hj hu=>?_⟩
   cases j with
   | zero=>simp at hj hu;subst hj hu;exact hsr
   | succ j=>exact k3 j s' u' (by simpa using hj) (by simpa using hu)
theorem Jl {M:Mem}:∀ {t:Ty} {vs:List aJ} {us:List Value},zR t vs=true->us.length=vs.length->(∀ (j:Nat) c u,vs[j]? = some c->us[j]? = some u->eY M c u)->(∀ c ∈ vs,c.known=true)->
  aH M (vs.flatMap aJ.cells) (us.flatMap fun u=>u.cells.toList)/\Mg t (us.flatMap fun u=>u.cells.toList) us
 | .unit,[],us,_,hl,_,_=>by
  have:us=[]:=List.eq_nil_of_length_eq_zero hl
  subst this
  exact ⟨aH.nil,rfl,rfl⟩
 | .pair a b,c :: vs,us,h,hl,hr,hk=>by
  simp only [zR,Bool.and_eq_true] at h
  obtain ⟨⟨h1,h2⟩,h3⟩:=h
  cases us with
  | nil=>simp at hl
  | cons u us=>
   have hc:=hr 0 c u rfl rfl
   have hkc:=hk c (by simp)
   obtain ⟨k1,k2⟩:=Jl h3 (by simpa using hl) (fun j c u hj hu=>hr (j+1) c u (by simpa using hj) (by simpa using hu)) (fun c hc=>hk c (by simp [hc]))
   have hcells:=gT hkc hc
   have hlen:u.cells.toList.length=a.sz:=by rw [hcells.1];exact Nat.eq_of_beq_eq_true h2
   refine ⟨by simp only [List.flatMap_cons];exact hcells.append k1,u,us,rfl, ?_, ?_⟩
   ·simp only [List.flatMap_cons]
    rw [List.take_left' hlen]
    exact uw hkc h1 hc
   ·simp only [List.flatMap_cons]
    rw [List.drop_left' hlen]
    exact k2
 | .unit,_ :: _,_,h,_,_,_=>by simp [zR] at h
 | .pair _ _,[],_,h,_,_,_=>by simp [zR] at h
 | .bool,_,_,h,_,_,_=>by simp [zR] at h
 | .int _,_,_,h,_,_,_=>by simp [zR] at h
 | .str,_,_,h,_,_,_=>by simp [zR] at h
 | .list _,_,_,h,_,_,_=>by simp [zR] at h
 | .bR _,_,_,h,_,_,_=>by simp [zR] at h
theorem vL {C:dh} {s:St}:∀ {rs:List ResultVar} {vs:List aJ},jQ C s rs=some vs->vs.length=rs.length
 | [],vs,h=>by simp [jQ] at h;subst h;rfl
 | .tmp t :: rs,vs,h=>by
  simp only [jQ] at h
  split at h
  ·rename_i c r hs hr;simp at h;subst h;simp [vL hr]
  ·cases h
 | .cell x t :: rs,vs,h=>by
  simp only [jQ] at h
  split at h
  ·rename_i n agg p r hsh hs hr
   split at h
   ·simp at h;subst h;simp [vL hr]
   ·cases h
  ·cases h
def OW:Entry->Option Nat
 | .arr _ _ (.pinned n)=>some n
 | .deep _ _ (some n)=>some n
 | _=>none
def YN (F0:lS) (G:Nat->Prop) (h:Array Obj) (π:Option Pl) (n:Nat):Entry->Prop
 | .arr u l _=>pR G h u l π/\l.length=F0.len n
 | .deep u l _=>pF G h u l π/\l.length=F0.len n/\∀ p,π=some p->∀ i off,i<l.length->(pE u)[off]? = some true->hcell h p.b (p.o+i*u.sz+off)=some (F0.inn n i off)
 | .box _ _=>False
theorem VO {F0:lS} {G:Nat->Prop} {s:St} {a:Act} {w:World} {pl:Nat->Option Pl} (i:Inv F0 G s a w pl) {id n:Nat} {e:Entry} (hs:s.ak id=some e) (hn:OW e=some n) :
  pl id=F0.pin n/\YN F0 G w.heap (F0.pin n) n e/\∀ p,F0.pin n=some p->e.bs p=p.bs/\∀ b ∈ p.bs,¬ (F0 b\/G b):=by
 have hent:=i.ak.ent id _ hs
 cases e with
 | box _ _=>cases hn
 | arr u l o=>
  cases o <;> simp [OW] at hn
  subst hn
  rename_i n
  obtain ⟨k1,k2⟩:=i.ak.pin id u l n hs
  have k1:pl id=F0.pin n:=k1
  have hent:iG (mem F0 G w.heap s.ak pl) _ (pl id):=hent
  rw [k1] at hent
  refine ⟨k1,⟨hent.1,k2⟩,fun p hp=>?_⟩
  have hfl:=(hent.2 p hp).1.2
  refine ⟨by rw [Pl.wV hfl];rfl,fun b hb=>?_⟩
  rw [Pl.wV hfl] at hb
  simp only [List.mem_singleton] at hb
  subst hb
  exact (hent.2 p hp).2 (by simp)
 | deep u l o=>
  cases o <;> simp [OW] at hn
  subst hn
  rename_i n
  obtain ⟨k1,k2⟩:=i.ak.Dz id u l n hs
  have k1:pl id=F0.pin n:=k1
  have hent:iG (mem F0 G w.heap s.ak pl) _ (pl id):=hent
  rw [k1] at hent
  exact ⟨k1,⟨hent.1,k2,fun p hp=>(hent.2 p hp).2 n rfl⟩,fun p hp=>⟨rfl,fun b hb=>((hent.2 p hp).1 b hb).2⟩⟩
theorem ZC {C:dh} (good:Good C) {F0:lS} {G G':Nat->Prop} {own:Bool} {fn:Func} {t:Ty} {kinds:List Nat} {x:Ex} {s':St} {a':Act} {w w':World} {nP:Nat->Option Pl} {r:t.den} (hx:∀ j,x ≠ .exit j)
  (i':Inv F0 G' s' a' w' nP) (fr:Fr F0 G w G' w') (hret:Xp C own fn kinds t x s'=some r) {R:Ending->World->Prop}
  (hR:∀ v Rc ps,w.heap.size<=w'.heap.size->Str F0.mono w w'->(∀ b,F0 b->w'.heap[b]? = w.heap[b]?)->(∀ b,G b->Rc b)->(∀ b,Rc b->G b\/(¬ F0 b/\b<w'.heap.size))->
   wF own (Nat.beq fn.resultTypes.size 1) t Rc w'.heap r v ps->(∀ b ∈ blks ps,¬ F0 b/\¬ Rc b/\b<w'.heap.size)->(blks ps).Nodup->
   (∀ id e n,s'.ak id=some e->OW e=some n->YN F0 Rc w'.heap (F0.pin n) n e/\∀ p,F0.pin n=some p->∀ b ∈ p.bs,¬ Rc b/\b ∉ blks ps)->R (.returned v) w') :
  bodyPost C.P fn R .normal a' w':=by
 have hret:(bif Nat.beq fn.results.size fn.resultTypes.size && !kinds.any (!Nat.beq 0 ·) then
   (match jQ C s' fn.results.toList with
   | some vs=>bif vs.all aJ.known && vJ (Nat.beq fn.resultTypes.size 1) t vs then
     (match bG s'.ak (bif own then Mode.give else Mode.keep) t (vs.flatMap aJ.cells) with
     | some (x,ids)=>bif !own || nodup ids then some x else none
     | none=>none) else none
   | none=>none) else none)=some r:=by
  cases x with
  | normal=>exact hret
  | ret=>exact hret
  | exit j=>exact absurd rfl (hx j)
 cases hc1:(Nat.beq fn.results.size fn.resultTypes.size && !kinds.any (!Nat.beq 0 ·)) with
 | false=>rw [hc1] at hret;cases hret
 | true=>
 rw [hc1] at hret
 simp only [cond_true] at hret
 cases hvs:jQ C s' fn.results.toList with
 | none=>rw [hvs] at hret;cases hret
 | some vs=>
 rw [hvs] at hret
 simp only at hret
 cases hc2:(vs.all aJ.known && vJ (Nat.beq fn.resultTypes.size 1) t vs) with
 | false=>rw [hc2] at hret;cases hret
 | true=>
 rw [hc2] at hret
 simp only [cond_true] at hret
 cases hof:bG s'.ak (bif own then Mode.give else Mode.keep) t (vs.flatMap aJ.cells) with
 | none=>rw [hof] at hret;cases hret
 | some y=>
 obtain ⟨y,ids⟩:=y
 rw [hof] at hret
 simp only at hret
 cases hc3:(!own || nodup ids) with
 | false=>rw [hc3] at hret;cases hret
 | true=>
 rw [hc3] at hret
 simp only [cond_true,Option.some.injEq] at hret
 subst hret
 simp only [Bool.and_eq_true] at hc1 hc2
 obtain ⟨us,hrun,XN,hur⟩:=uz good i' hvs
 have hsize:fn.results.size=fn.resultTypes.size:=Nat.eq_of_beq_eq_true hc1.1
 have hvl:vs.length=fn.resultTypes.size:=by rw [vL hvs];simpa using hsize
 have Jm:∀ c ∈ vs,c.known=true:=List.all_eq_true.1 hc2.1
 refine ⟨i'.defers.1,(if h:us.toArray.size=1 then us.toArray[0] else .tuple us.toArray), ?_, ?_⟩
 ·rw [CB]
  rw [Array.mapM_eq_mapM_toList]
  simp only [Sem.run_bind,Sem.run_map,hrun,Result.andThen_ok,Sem.run_pure]
 have hcells:∃ cs,aH (mem F0 G' w'.heap s'.ak nP) (vs.flatMap aJ.cells) cs /\
   (if Nat.beq fn.resultTypes.size 1 then ku t.isAgg cs (if h:us.toArray.size=1 then us.toArray[0] else .tuple us.toArray) else ∃ ws:List Value,(if h:us.toArray.size=1 then us.toArray[0] else .tuple us.toArray)=.tuple ws.toArray/\Mg t cs ws):=by
  cases hone:Nat.beq fn.resultTypes.size 1 with
  | true=>
   have h1:fn.resultTypes.size=1:=Nat.eq_of_beq_eq_true hone
   rw [hone] at hc2
   have hsh:=hc2.2
   unfold vJ at hsh
   simp only [if_true] at hsh
   split at hsh
   ·rename_i c
    obtain ⟨u,rfl⟩:∃ u,us=[u]:=List.length_eq_one_iff.1 (by rw [XN];rfl)
    have hcr:=hur 0 c u rfl rfl
    have hkc:=Jm c (by simp)
    refine ⟨u.cells.toList,by simpa using gT hkc hcr, ?_⟩
    simp only [if_true]
    exact uw hkc hsh hcr
   ·cases hsh
  | false=>
   rw [hone] at hc2
   have hsh:=hc2.2
   unfold vJ at hsh
   simp only [Bool.false_eq_true,if_false] at hsh
   obtain ⟨k4,k5⟩:=Jl hsh XN hur Jm
   refine ⟨_,k4, ?_⟩
   simp only [Bool.false_eq_true,if_false]
   have hne:¬ us.toArray.size=1:=by
    have:us.length=fn.resultTypes.size:=by rw [XN,hvl]
    intro e
    have e1:fn.resultTypes.size=1:=by rw [<- this];simpa using e
    rw [e1] at hone
    simp at hone
   exact ⟨us,by rw [dif_neg hne],k5⟩
 obtain ⟨cs,hcr,hval⟩:=hcells
 have hFr:=fr
 cases own with
 | true=>
  simp only [cond_true] at hof
  unfold bG at hof
  split at hof
  ·rename_i y' qE he
   simp at hof
   obtain ⟨rfl,rfl⟩:=hof
   obtain ⟨ws,us',ps,rfl,h1,h2,h3⟩:=Ga i'.ak he hcr
   have:us'=[]:=by have:=h2.1;simpa using this
   subst this
   rw [List.append_nil] at hval
   have hlive:=DF he
   have hbq:∀ b ∈ blks ps,∃ j ∈ qE,∃ q e,nP j=some q/\s'.ak j=some e/\e.bs q=q.bs/\b ∈ q.bs/\¬ (F0 b\/G' b)/\b<w'.heap.size:=by
    intro b hb
    rw [h3] at hb
    obtain ⟨q,hq,Xn⟩:=List.mem_flatMap.1 hb
    obtain ⟨j,hj,hjq⟩:=List.mem_filterMap.1 hq
    obtain ⟨e,he,k1,_,k2⟩:=(hlive j hj).bs i'.ak hjq
    exact ⟨j,hj,q,e,hjq,he,k1,Xn,k2 rfl b Xn,i'.ak.pU he hjq b (k1 ▸ Xn)⟩
   refine hR _ G' ps fr.size fr.str (fun b hb=>fr.h b (.inl hb)) fr.more (fun b hb=>?_) ⟨ws,h1,hval⟩ (fun b hb=>?_) ?_ (fun id e n hs hpn=>?_)
   ·by_cases hlt:F0 b
    ·exact .inl (fr.new b hb hlt)
    ·exact .inr ⟨hlt,i'.ak.lt b (.inr hb)⟩
   ·obtain ⟨_,_,_,_,_,_,_,_,k1,k2⟩:=hbq b hb
    exact ⟨fun h=>k1 (.inl h),fun h=>k1 (.inr h),k2⟩
   ·rw [h3]
    exact oL i'.ak (lF (by simpa using hc3)) hlive
   ·obtain ⟨k1,k2,k3⟩:=VO i' hs hpn
    refine ⟨k2,fun p hp b hb=>⟨fun h=>(k3 p hp).2 b hb (.inr h),fun hbp=>?_⟩⟩
    obtain ⟨j,hj,q,e',hjq,he',k4,acp,_⟩:=hbq b hbp
    have hne:j ≠ id:=fun e0=>by
     subst e0
     rw [hs] at he'
     cases he'
     rcases hlive j hj with ⟨u,l,o,h,ho⟩ | ⟨u,l,o,h,ho⟩
     ·have h:s'.ak j=some (.arr u l o):=h
      rw [hs] at h
      cases h
      rw [ho rfl] at hpn
      cases hpn
     ·have h:s'.ak j=some (.deep u l o):=h
      rw [hs] at h
      cases h
      rw [ho rfl] at hpn
      cases hpn
    exact i'.ak.apart' j id e' e q p he' hs hne hjq (k1.trans hp) b (k4 ▸ acp) ((k3 p hp).1 ▸ hb)
  ·cases hof
 | false=>
  simp only [cond_false] at hof
  have hkeep:=uQ hof
  obtain ⟨Rc,YI,fr',hGi,_⟩:=yQ (ids:=ids) i' (fun j hj t'' l'' n'' he=>by
   obtain ⟨u,l3,o3,h1,h2⟩:=hkeep j hj
   rw [h1] at he
   cases he
   exact h2 n'' rfl)
  have hrd:Rd Rc w'.heap t Rc y cs:=jC i'.ak (fun b hb=>fr'.more b hb) (fun b hb=>fr'.more b hb) (fun hm=>by cases hm) hof hcr (fun j hj q hq=>by
   obtain ⟨u,l3,o3,h1,h2⟩:=hkeep j hj
   exact hGi j hj u l3 o3 h1 q hq) (fun j hj t l n p hd=>by
   obtain ⟨u,l3,o3,h1,h2⟩:=hkeep j hj
   have hd:s'.ak j=some (.deep t l n):=hd
   rw [h1] at hd
   cases hd)
  have frr:=fr.trans fr'
  refine hR _ Rc [] frr.size frr.str (fun b hb=>frr.h b (.inl hb)) frr.more (fun b hb=>?_) ⟨cs,uy hrd,hval⟩ (fun b hb=>by simp [blks] at hb) (by simp [blks]) (fun id e n hs hpn=>?_)
  ·by_cases hlt:F0 b
   ·exact .inl (frr.new b hb hlt)
   ·exact .inr ⟨hlt,YI.ak.lt b (.inr hb)⟩
  ·have hni:id ∉ ids:=fun hid=>by
    obtain ⟨u',l3,o3,h1,h2⟩:=hkeep id hid
    rw [hs] at h1
    cases h1
    cases o3 <;> simp [OW] at hpn
    exact h2 _ rfl
   have hs':cO s'.ak ids id=some e:=(oM hni).trans hs
   obtain ⟨k1,k2,k3⟩:=VO YI hs' hpn
   exact ⟨k2,fun p hp b hb=>⟨fun h=>(k3 p hp).2 b hb (.inr h),by simp [blks]⟩⟩
theorem tX:∀ {as:List Arg} {n i:Nat} {T:Ty},lY as n=some (i,T)->∃ x,n<=i/\as[i - n]? = some (.lend T x)
 | [],n,i,T,h=>by simp [lY] at h
 | a :: as,n,i,T,h=>by
  have go:lY as (n+1)=some (i,T)->∃ x,n<=i/\(a :: as)[i - n]? = some (.lend T x):=fun h=>by
   obtain ⟨x,h1,h2⟩:=tX h
   refine ⟨x,by omega, ?_⟩
   rw [show i - n=(i - (n+1))+1 by omega]
   simpa using h2
  cases a <;> first
   | exact go h
   | (simp only [lY,Option.some.injEq,Prod.mk.injEq] at h;obtain ⟨rfl,rfl⟩:=h;rename_i y;exact ⟨y,Nat.le_refl _,by simp⟩)
theorem BR:∀ {as:List Arg} {n:Nat},lY as n=none->∀ T x,Arg.lend T x ∉ as
 | [],n,_,T,x=>by simp
 | a :: as,n,h,T,x=>by
  have go:lY as (n+1)=none->(∀ T x,a ≠ .lend T x)->Arg.lend T x ∉ a :: as:=fun h ha hm=>by
   rcases List.mem_cons.1 hm with hm | hm
   ·exact ha T x hm.symm
   ·exact BR h T x hm
  cases a <;> first
   | exact go h (by intro _ _ e;cases e)
   | (simp [lY] at h)
def Ad:(T:Ty)->T.den->List Nat
 | .list _,l=>[l.length]
 | .bR _,l=>[l.length]
 | .pair a b,x=>Ad a x.1++Ad b x.2
 | .bool,_=>[]
 | .int _,_=>[]
 | .str,_=>[]
 | .unit,_=>[]
def Mh:Ty->List Nat
 | .list t | .bR t=>[t.sz]
 | .pair a b=>Mh a++Mh b
 | .bool | .int _ | .str | .unit=>[]
theorem DN:∀ {T:Ty} {x:T.den},(Mh T).length=(Ad T x).length
 | .list _,_=>rfl
 | .bR _,_=>rfl
 | .pair a b,x=>by simp [Mh,Ad,DN (x:=x.1),DN (x:=x.2)]
 | .bool,_=>rfl
 | .int _,_=>rfl
 | .str,_=>rfl
 | .unit,_=>rfl
theorem xg {key:Nat->Nat}:∀ {T:Ty} {x:T.den} {j:Nat},(aV true key T x j).2.1.length=(Ad T x).length/\(aV true key T x j).2.2=j+(Ad T x).length /\
  ∀ (m:Nat) k e,(aV true key T x j).2.1[m]? = some (k,e)->k=key (j+m)/\∃ t l,(e=.arr t l .open\/e=.deep t l none)/\(Ad T x)[m]? = some l.length/\(Mh T)[m]? = some t.sz
 | .list t,l,j=>by
  refine ⟨rfl,rfl,fun m k e hm=>?_⟩
  cases m with
  | zero=>simp [aV] at hm;obtain ⟨rfl,rfl⟩:=hm;exact ⟨rfl,t,l,.inl rfl,rfl,rfl⟩
  | succ m=>simp [aV] at hm
 | .bR t,l,j=>by
  refine ⟨rfl,rfl,fun m k e hm=>?_⟩
  cases m with
  | zero=>simp [aV] at hm;obtain ⟨rfl,rfl⟩:=hm;exact ⟨rfl,t,l,.inr rfl,rfl,rfl⟩
  | succ m=>simp [aV] at hm
 | .pair a b,x,j=>by
  obtain ⟨h1,h2,h3⟩:=xg (key:=key) (T:=a) (x:=x.1) (j:=j)
  obtain ⟨h4,h5,h6⟩:=xg (key:=key) (T:=b) (x:=x.2) (j:=(aV true key a x.1 j).2.2)
  simp only [aV,Ad,Mh]
  refine ⟨by simp [h1,h4],by rw [h5,h2];simp;omega,fun m k e hm=>?_⟩
  rw [List.getElem?_append] at hm
  split at hm
  ·rename_i hlt
   obtain ⟨k1,t,l,k2,k3,k4⟩:=h3 m k e hm
   exact ⟨k1,t,l,k2,by rw [List.getElem?_append_left (by rw [<- h1];exact hlt)];exact k3,by rw [List.getElem?_append_left (by rw [DN (x:=x.1),<- h1];exact hlt)];exact k4⟩
  ·rename_i hge
   obtain ⟨k1,t,l,k2,k3,k4⟩:=h6 _ k e hm
   have hge':(aV true key a x.1 j).2.1.length<=m:=Nat.le_of_not_lt hge
   have hjm:(aV true key a x.1 j).2.2+(m - (aV true key a x.1 j).2.1.length)=j+m:=by
    rw [h2,<- h1]
    generalize (aV true key a x.1 j).2.1.length=q at *
    omega
   refine ⟨by rw [k1,hjm],t,l,k2, ?_, ?_⟩
   ·rw [List.getElem?_append_right (by rw [<- h1];exact hge'),<- h1]
    exact k3
   ·rw [List.getElem?_append_right (by rw [DN (x:=x.1),<- h1];exact hge'),DN (x:=x.1),<- h1]
    exact k4
 | .bool,_,j=>⟨rfl,rfl,fun m k e hm=>by simp [aV] at hm⟩
 | .int _,_,j=>⟨rfl,rfl,fun m k e hm=>by simp [aV] at hm⟩
 | .str,_,j=>⟨rfl,rfl,fun m k e hm=>by simp [aV] at hm⟩
 | .unit,_,j=>⟨rfl,rfl,fun m k e hm=>by simp [aV] at hm⟩
theorem xI {key:Nat->Nat}:∀ {T:Ty} {x:T.den} {j:Nat},(aV false key T x j).2.1=[]
 | .bool,_,_=>rfl
 | .int _,_,_=>rfl
 | .str,_,_=>rfl
 | .unit,_,_=>rfl
 | .list _,_,_=>rfl
 | .bR _,_,_=>rfl
 | .pair a b,x,j=>by
  simp only [aV]
  rw [xI (T:=a),xI (T:=b)]
  rfl
theorem Nv {own:Bool} {key:Nat->Nat} {T:Ty} {x:T.den} {j:Nat} (m:Nat) (k:Nat) (e:Entry) (h:(aV own key T x j).2.1[m]? = some (k,e)):k=key (j+m)/\∃ t l,(e=.arr t l .open\/e=.deep t l none):=by
 cases own with
 | true=>
  obtain ⟨h1,t,l,h2,_⟩:=xg.2.2 m k e h
  exact ⟨h1,t,l,h2⟩
 | false=>
  rw [xI] at h
  simp at h
theorem qG {α:Type}:∀ {es:List (Nat × α)} {k:Nat} {e:α},assoc es k=some e->∃ m:Nat,es[m]? = some (k,e)
 | [],k,e,h=>by simp [assoc] at h
 | (k0,e0) :: es,k,e,h=>by
  simp only [assoc] at h
  cases hb:Nat.beq k0 k with
  | true=>rw [hb] at h;simp at h;subst h;rw [Nat.eq_of_beq_eq_true hb];exact ⟨0,rfl⟩
  | false=>
   rw [hb] at h
   obtain ⟨m,hm⟩:=qG (by simpa using h)
   exact ⟨m+1,by simpa using hm⟩
theorem DR {α:Type}:∀ {es:List (Nat × α)} {f:Nat->Nat} (m:Nat) (k:Nat) (e:α),(∀ i j,f i=f j->i=j)->(∀ (n:Nat) k e,es[n]? = some (k,e)->k=f n)->es[m]? = some (k,e)->assoc es k=some e
 | [],f,m,k,e,_,_,h=>by simp at h
 | (k0,e0) :: es,f,m,k,e,hf,hk,h=>by
  simp only [assoc]
  cases m with
  | zero=>simp at h;obtain ⟨rfl,rfl⟩:=h;simp
  | succ m=>
   have h0:=hk 0 k0 e0 rfl
   have hm:=hk (m+1) k e h
   have hne:k0 ≠ k:=fun e=>by rw [h0,hm] at e;have:=hf _ _ e;omega
   have:Nat.beq k0 k=false:=by
    cases hb:Nat.beq k0 k with
    | false=>rfl
    | true=>exact absurd (Nat.eq_of_beq_eq_true hb) hne
   rw [this]
   exact DR (f:=fun n=>f (n+1)) m k e (fun i j h=>by have:=hf _ _ h;omega) (fun n k e hn=>hk (n+1) k e (by simpa using hn)) (by simpa using h)
theorem CF (i:Nat):∀ j k,iA i j=iA i k->j=k:=by intro j k h;unfold iA at h;omega
theorem CG:∀ {ps:List (Option Pl)} {m n:Nat} {p q:Pl},(blks ps).Nodup->ps[m]? = some (some p)->ps[n]? = some (some q)->m ≠ n->∀ b ∈ p.bs,b ∉ q.bs
 | [],m,n,p,q,_,h,_,_=>by simp at h
 | π :: ps,m,n,p,q,hnd,h1,h2,hmn=>by
  rw [sN] at hnd
  obtain ⟨_,hnd',Np⟩:=List.nodup_append.1 hnd
  have mem:∀ {n:Nat} {q:Pl},ps[n]? = some (some q)->∀ b ∈ q.bs,b ∈ blks ps:=fun hn b hb=>List.mem_flatMap.2 ⟨_,List.mem_filterMap.2 ⟨_,List.mem_of_getElem? hn,rfl⟩,hb⟩
  cases m with
  | zero=>
   cases n with
   | zero=>exact absurd rfl hmn
   | succ n=>
    simp at h1
    subst h1
    intro b hb hb'
    exact Np b (by simpa using hb) b (mem (by simpa using h2) b hb') rfl
  | succ m=>
   cases n with
   | zero=>
    simp at h2
    subst h2
    intro b hb hb'
    exact Np b (by simpa using hb') b (mem (by simpa using h1) b hb) rfl
   | succ n=>exact CG hnd' (by simpa using h1) (by simpa using h2) (by omega)
theorem OX {A G:Nat->Prop} {h:Array Obj} {i:Nat} {T:Ty} {x:T.den} {v:Value} {cs:List Value} {ps:List (Option Pl)} (hl:SQ A G h T x v cs ps) :
  ∃ pl:Nat->Option Pl,
   gJ ⟨A,G,h,assoc (gI i (.give T x)).2,pl,fun _=>none,fun _=>0,fun _ _ _=>undef⟩ (gI i (.give T x)).1 v /\
   (∀ id e,assoc (gI i (.give T x)).2 id=some e->((∃ t l,e=.arr t l .open/\pR G h t l (pl id)/\zT (pl id))\/∃ t l,e=.deep t l none/\pF G h t l (pl id))/\∀ p,pl id=some p->∀ b ∈ p.bs,¬ A b/\b<h.size) /\
   ∀ y z ey ez p q,assoc (gI i (.give T x)).2 y=some ey->assoc (gI i (.give T x)).2 z=some ez->y ≠ z->pl y=some p->pl z=some q->∀ b ∈ ey.bs p,b ∉ ez.bs q:=by
 obtain ⟨how,hval,Om,hnd⟩:=hl
 obtain ⟨a1,_,a3⟩:=xg (key:=iA i) (T:=T) (x:=x) (j:=0)
 obtain ⟨⟨r1,r2⟩,k1⟩:=qQ (key:=iA i) 0 how
 simp only [gI]
 generalize hra:aV true (iA i) T x 0=ra at *
 obtain ⟨ca,ea,ja⟩:=ra
 simp only at a1 a3 r1 r2 k1 ⊢
 have hkey:∀ (n:Nat) k e,ea[n]? = some (k,e)->k=iA i n:=fun n k e hn=>by rw [(a3 n k e hn).1];congr 1;omega
 let pl:Nat->Option Pl:=fun k=>(ps[k / 4 - 64*i]?).getD none
 have hpl:∀ n,pl (iA i n)=(ps[n]?).getD none:=fun n=>by
  show (ps[iA i n / 4 - 64*i]?).getD none=_
  have:iA i n / 4 - 64*i=n:=by unfold iA;omega
  rw [this]
 refine ⟨pl, ?_,fun id e he=>?_,fun y z ey ez p q hy hz hyz hp hq=>?_⟩
 ·have c0:aH ⟨A,G,h,assoc ea,pl,fun _=>none,fun _=>0,fun _ _ _=>undef⟩ ca cs:=k1 _ rfl rfl (fun m k e π hm hπ=>by
   refine ⟨DR (f:=iA i) m k e (CF i) hkey hm, ?_⟩
   show pl k=π
   rw [hkey m k e hm,hpl,hπ]
   rfl)
  exact lD c0 hval
 ·obtain ⟨m,hm⟩:=qG he
  have hlt:m<ps.length:=by rw [<- r1];exact (List.getElem?_eq_some_iff.1 hm).1
  have VP:pl id=ps[m]:=by rw [hkey m id e hm,hpl,List.getElem?_eq_getElem hlt];rfl
  refine ⟨?_,fun p hp b hb=>Om b (List.mem_flatMap.2 ⟨p,List.mem_filterMap.2 ⟨_,List.getElem_mem hlt,by rw [<- VP,hp];rfl⟩,hb⟩)⟩
  rw [VP]
  exact r2 m id e ps[m] hm (List.getElem?_eq_getElem hlt)
 ·obtain ⟨m,hm⟩:=qG hy
  obtain ⟨n,hn⟩:=qG hz
  have hlt:m<ps.length:=by rw [<- r1];exact (List.getElem?_eq_some_iff.1 hm).1
  have hlt':n<ps.length:=by rw [<- r1];exact (List.getElem?_eq_some_iff.1 hn).1
  have hmn:m ≠ n:=fun e=>hyz (by rw [hkey m y ey hm,hkey n z ez hn,e])
  rw [hkey m y ey hm,hpl,List.getElem?_eq_getElem hlt] at hp
  rw [hkey n z ez hn,hpl,List.getElem?_eq_getElem hlt'] at hq
  have hp:ps[m]=some p:=hp
  have hq:ps[n]=some q:=hq
  have hsub:∀ (e:Entry) (p:Pl) b,b ∈ e.bs p->b ∈ p.bs:=by
   intro e p b hb
   cases e with
   | deep _ _ _=>exact hb
   | box _ _=>simp only [Entry.bs,List.mem_singleton] at hb;subst hb;exact p.pQ
   | arr _ _ _=>simp only [Entry.bs,List.mem_singleton] at hb;subst hb;exact p.pQ
  exact fun b hb hb'=>CG hnd (by rw [List.getElem?_eq_getElem hlt,hp]) (by rw [List.getElem?_eq_getElem hlt',hq]) hmn b (hsub _ _ _ hb) (hsub _ _ _ hb')
theorem Ae {A G:Nat->Prop} {h:Array Obj} (sD:∀ b,G b->A b):∀ {as:List Arg} {us:List Value} (n:Nat),gZ A G h as us->Jh as->(eB n as).1.length=us.length/\∃ pl:Nat->Option Pl,
  (∀ (j:Nat) s u,(eB n as).1[j]? = some s->us[j]? = some u->gJ ⟨A,G,h,assoc (eB n as).2,pl,fun _=>none,fun _=>0,fun _ _ _=>undef⟩ s u) /\
  (∀ id e,assoc (eB n as).2 id=some e->((∃ t l,e=.arr t l .open/\pR G h t l (pl id)/\zT (pl id))\/∃ t l,e=.deep t l none/\pF G h t l (pl id))/\∀ p,pl id=some p->∀ b ∈ p.bs,¬ A b/\b<h.size) /\
  (∀ x y ex ey p q,assoc (eB n as).2 x=some ex->assoc (eB n as).2 y=some ey->x ≠ y->pl x=some p->pl y=some q->∀ b ∈ ex.bs p,b ∉ ey.bs q)
 | [],us,n,hr,_=>by
  have:us=[]:=List.eq_nil_of_length_eq_zero hr.1
  subst this
  exact ⟨rfl,fun _=>none,fun j s u hj=>by simp [eB] at hj,fun id e he=>by simp [eB,assoc] at he,fun x y ex ey p q hx=>by simp [eB,assoc] at hx⟩
 | a :: as,us,n,hr,hone=>by
  cases us with
  | nil=>have:=hr.1;simp at this
  | cons u us=>
   have hr':gZ A G h as us:=⟨by have:=hr.1;simpa using this,fun i a v hi hv=>hr.2 (i+1) a v (by simpa using hi) (by simpa using hv)⟩
   have hone':Jh as:=fun i j b c hi hj hb hc=>by have:=hone (i+1) (j+1) b c (by simpa using hi) (by simpa using hj) hb hc;omega
   have hgo:∀ {ak:Nat->Option Entry} {pl:Nat->Option Pl},Goes (fun _=>False) (nE A G h (fun _ _ _=>undef)) ⟨A,G,h,ak,pl,fun _=>none,fun _=>0,fun _ _ _=>undef⟩:=⟨fun b hb=>hb,fun b hb=>hb,sD,fun b hb=>rfl,fun id e _ he=>(by simp [nE] at he),rfl⟩
   cases Cw:a.sO with
   | true=>
    have hno:∀ b ∈ as,b.sO=false:=by
     intro b hb
     obtain ⟨j,hj⟩:=List.getElem?_of_mem hb
     cases hbi:b.sO with
     | false=>rfl
     | true=>have:=hone 0 (j+1) a b rfl (by simpa using hj) Cw hbi;omega
    obtain ⟨k1,k2,k3⟩:=wZ (inn:=fun _ _ _=>undef) (n+1) hr' hno
    cases a with
    | give T x=>
     obtain ⟨cs,ps,h1,h2,h3,h4⟩:=hr.2 0 _ u rfl rfl
     obtain ⟨pl,g1,g2,g3⟩:=OX (i:=n) ⟨h1,h2,h3,h4⟩
     have acr:(eB n (.give T x :: as))=((gI n (.give T x)).1 :: (eB (n+1) as).1,(gI n (.give T x)).2++(eB (n+1) as).2):=rfl
     rw [acr,k1]
     simp only [List.append_nil]
     refine ⟨by simp [k2],pl,fun j s' u' hj hu=>?_,g2,g3⟩
     cases j with
     | zero=>simp at hj hu;subst hj hu;exact g1
     | succ j=>exact hgo.slot (fun _ _ h=>h) (k3 j s' u' (by simpa using hj) (by simpa using hu))
    | _=>simp [Arg.sO] at Cw
   | false=>
    obtain ⟨k1,pl,k2,k3,k4⟩:=Ae sD (n+1) hr' hone'
    have hra:gZ A G h [a] [u]:=⟨rfl,fun i b v hi hv=>by
     cases i with
     | zero=>simp at hi hv;subst hi hv;exact hr.2 0 _ _ rfl rfl
     | succ i=>simp at hi⟩
    obtain ⟨m1,m2,m3⟩:=wZ (inn:=fun _ _ _=>undef) n hra (fun b hb=>by simp at hb;rw [hb];exact Cw)
    simp only [eB] at m1 m2 m3 ⊢
    generalize hp0:gI n a=p0 at *
    obtain ⟨s0,e0⟩:=p0
    generalize hps:eB (n+1) as=ps at *
    obtain ⟨vs,es⟩:=ps
    simp only [List.append_nil] at m1 m2 m3 k1 k2 k3 k4 ⊢
    subst m1
    simp only [List.nil_append]
    refine ⟨by simp [k1],pl,fun j s' u' hj hu=>?_,k3,k4⟩
    cases j with
    | zero=>simp at hj hu;subst hj hu;exact hgo.slot (fun _ _ h=>h) (m3 0 _ _ rfl rfl)
    | succ j=>exact k2 j s' u' (by simpa using hj) (by simpa using hu)
theorem BS {A G:Nat->Prop} {h:Array Obj} (sD:∀ b,G b->A b) {i:Nat} {b0:Arg} {pl:Nat->Option Pl} {F0:lS} {v0:Value}
  (hs0:gJ ⟨A,G,h,assoc (gI i b0).2,pl,F0.pin,F0.len,F0.inn⟩ (gI i b0).1 v0):∀ {as:List Arg} {us:List Value} {n:Nat},us.length=as.length->(∀ j a v,n+j ≠ i->as[j]? = some a->us[j]? = some v->a.sO=false/\ArgRel A G h a v)->
   (∀ j,n+j=i->j<as.length->as[j]? = some b0/\us[j]? = some v0)->
   (eB n as).1.length=us.length/\(eB n as).2=(if n<=i/\i<n+as.length then (gI i b0).2 else []) /\
   ∀ (j:Nat) s u,(eB n as).1[j]? = some s->us[j]? = some u->gJ ⟨A,G,h,assoc (gI i b0).2,pl,F0.pin,F0.len,F0.inn⟩ s u
 | [],us,n,hl,_,_=>by
  have:us=[]:=List.eq_nil_of_length_eq_zero hl
  subst this
  refine ⟨rfl, ?_,fun j s u hj=>by simp [eB] at hj⟩
  rw [if_neg (by simp <;> omega)]
  first | done | rfl
 | a :: as,us,n,hl,hr,hi=>by
  cases us with
  | nil=>simp at hl
  | cons u us=>
   obtain ⟨k1,k2,k3⟩:=BS sD hs0 (as:=as) (us:=us) (n:=n+1) (by simpa using hl) (fun j a v hne hj hv=>hr (j+1) a v (by omega) (by simpa using hj) (by simpa using hv)) (fun j hj hlt=>by simpa using hi (j+1) (by omega) (by simpa using hlt))
   have hgo:Goes (fun _=>False) (nE A G h F0.inn) ⟨A,G,h,assoc (gI i b0).2,pl,F0.pin,F0.len,F0.inn⟩:=⟨fun b hb=>hb,fun b hb=>hb,sD,fun b hb=>rfl,fun id e _ he=>(by simp [nE] at he),rfl⟩
   have hone:∃ s0 e0,gI n a=(s0,e0)/\e0=(if n=i then (gI i b0).2 else [])/\gJ ⟨A,G,h,assoc (gI i b0).2,pl,F0.pin,F0.len,F0.inn⟩ s0 u:=by
    by_cases hni:n=i
    ·subst hni
     obtain ⟨h1,h2⟩:=hi 0 rfl (by simp)
     simp at h1 h2
     subst h1 h2
     exact ⟨_,_,rfl,by rw [if_pos rfl];rfl,hs0⟩
    ·obtain ⟨h1,h2⟩:=hr 0 a u (by omega) rfl rfl
     have hra:gZ A G h [a] [u]:=⟨rfl,fun i b v hi hv=>by
      cases i with
      | zero=>simp at hi hv;subst hi hv;exact h2
      | succ i=>simp at hi⟩
     obtain ⟨m1,m2,m3⟩:=wZ (inn:=F0.inn) n hra (fun b hb=>by simp at hb;rw [hb];exact h1)
     simp only [eB] at m1 m2 m3
     generalize hp0:gI n a=p0 at *
     obtain ⟨s0,e0⟩:=p0
     simp only [List.append_nil] at m1 m2 m3
     subst m1
     exact ⟨s0,[],rfl,by rw [if_neg hni],hgo.slot (fun _ _ h=>h) (m3 0 _ _ rfl rfl)⟩
   obtain ⟨s0,e0,hp0,he0,hs1⟩:=hone
   simp only [eB,hp0]
   generalize hps:eB (n+1) as=ps at *
   obtain ⟨vs,es⟩:=ps
   simp only at k1 k2 k3 ⊢
   refine ⟨by simp [k1], ?_,fun j s u' hj hu=>?_⟩
   ·rw [he0,k2]
    by_cases hni:n=i
    ·rw [if_pos hni,if_neg (by omega),if_pos ⟨by omega,by simp;omega⟩,List.append_nil]
    ·rw [if_neg hni,List.nil_append]
     by_cases hc:n+1<=i/\i<n+1+as.length
     ·rw [if_pos hc,if_pos ⟨by omega,by simp;omega⟩]
     ·rw [if_neg hc,if_neg (by simp;omega)]
   ·cases j with
    | zero=>simp at hj hu;subst hj hu;exact hs1
    | succ j=>exact k3 j s u' (by simpa using hj) (by simpa using hu)
theorem yV:∀ {as:List Arg} {n i:Nat} {T:Ty},qx as n=some (i,T)->∃ x,n<=i/\as[i - n]? = some (.iF T x):=by
 intro as
 induction as with
 | nil=>intro n i T h;simp [qx] at h
 | cons a as ih=>
  intro n i T h
  cases a with
  | iF t x=>simp [qx] at h;obtain ⟨rfl,rfl⟩:=h;exact ⟨x,Nat.le_refl _,by simp⟩
  | _=>
   simp only [qx] at h
   obtain ⟨x,h1,h2⟩:=ih h
   refine ⟨x,by omega, ?_⟩
   rw [show i - n=(i - (n+1))+1 by omega]
   simpa using h2
theorem Nw:∀ {as:List Arg} {n:Nat},qx as n=none->∀ T x,Arg.iF T x ∉ as:=by
 intro as
 induction as with
 | nil=>intro n h T x hm;simp at hm
 | cons a as ih=>
  intro n h T x hm
  cases a with
  | iF t y=>simp [qx] at h
  | _=>
   simp only [qx] at h
   rcases List.mem_cons.1 hm with hm | hm
   ·cases hm
   ·exact ih h T x hm
theorem Rs {A G:Nat->Prop} {h:Array Obj} {i:Nat} {T:Ty} {x:T.den} {pb:Nat} {ps:List (Option Pl)} (hl:VF A G h T x pb ps) :
  ∃ pl:Nat->Option Pl,(let M:Mem:=⟨A,G,h,assoc (gI i (.iF T x)).2,pl,fun _=>none,fun _=>0,fun _ _ _=>undef⟩
   gJ M (gI i (.iF T x)).1 (.pointer (some ⟨pb,0,none⟩)) /\
   (∀ id e,assoc (gI i (.iF T x)).2 id=some e->iG M e (pl id)/\(∀ p,pl id=some p->∀ b ∈ e.bs p,¬ A b/\b<h.size)/\(∀ t l n,e ≠ .arr t l (.pinned n))/\∀ t l n,e ≠ .deep t l (some n)) /\
   ∀ y z ey ez p q,assoc (gI i (.iF T x)).2 y=some ey->assoc (gI i (.iF T x)).2 z=some ez->y ≠ z->pl y=some p->pl z=some q->∀ b ∈ ey.bs p,b ∉ ez.bs q):=by
 obtain ⟨⟨c,e0,fz,hpb,hfz,hcs,how⟩,Om,hnd⟩:=hl
 have a3:=Nv (own:=T.ob) (key:=fun j=>iA i (j+1)) (T:=T) (x:=x) (j:=0)
 obtain ⟨⟨r1,r2⟩,k1⟩:=qQ (key:=fun j=>iA i (j+1)) 0 how
 simp only [gI]
 generalize hra:aV T.ob (fun j=>iA i (j+1)) T x 0=ra at *
 obtain ⟨ca,ea,ja⟩:=ra
 simp only at a3 r1 r2 k1 ⊢
 have hkey:∀ (n:Nat) k e,((iA i 0,Entry.box (some T) ca) :: ea)[n]? = some (k,e)->k=iA i n:=fun n k e hn=>by
  cases n with
  | zero=>simp at hn;exact hn.1.symm
  | succ n=>rw [(a3 n k e (by simpa using hn)).1];congr 1;omega
 rw [List.nodup_cons] at hnd
 let pl:Nat->Option Pl:=fun k=>((some ⟨pb,0,T.sz,[]⟩ :: ps)[k / 4 - 64*i]?).getD none
 have hpl:∀ n,pl (iA i n)=((some ⟨pb,0,T.sz,[]⟩ :: ps)[n]?).getD none:=fun n=>by
  show ((some ⟨pb,0,T.sz,[]⟩ :: ps)[iA i n / 4 - 64*i]?).getD none=_
  have:iA i n / 4 - 64*i=n:=by unfold iA;omega
  rw [this]
 have abb:pl (iA i 0)=some ⟨pb,0,T.sz,[]⟩:=by rw [hpl];rfl
 have acs:assoc ((iA i 0,Entry.box (some T) ca) :: ea) (iA i 0)=some (.box (some T) ca):=DR (f:=iA i) 0 _ _ (CF i) hkey rfl
 have hcr:aH ⟨A,G,h,assoc ((iA i 0,Entry.box (some T) ca) :: ea),pl,fun _=>none,fun _=>0,fun _ _ _=>undef⟩ ca c.toList:=k1 _ rfl rfl (fun m k e π hm hπ=>by
  refine ⟨DR (f:=iA i) (m+1) k e (CF i) hkey (by simpa using hm), ?_⟩
  show pl k=π
  rw [hkey (m+1) k e (by simpa using hm),hpl]
  simp [hπ])
 have hsub:∀ (e:Entry) (p:Pl) b,b ∈ e.bs p->b ∈ p.bs:=by
  intro e p b hb
  cases e with
  | deep _ _ _=>exact hb
  | box _ _=>simp only [Entry.bs,List.mem_singleton] at hb;subst hb;exact p.pQ
  | arr _ _ _=>simp only [Entry.bs,List.mem_singleton] at hb;subst hb;exact p.pQ
 have acu:∀ b ∈ blks (some ⟨pb,0,T.sz,[]⟩ :: ps),¬ A b/\b<h.size:=by
  intro b hb
  rw [sN] at hb
  exact Om b (by simpa [Pl.bs,Pl.FW] using hb)
 have hnd':(blks (some ⟨pb,0,T.sz,[]⟩ :: ps)).Nodup:=by
  rw [sN]
  have:(Option.toList (some (⟨pb,0,T.sz,[]⟩:Pl))).flatMap Pl.bs++blks ps=pb :: blks ps:=by simp [Pl.bs,Pl.FW]
  first
   | (rw [this];exact List.nodup_cons.2 hnd)
   | (simpa [Pl.bs,Pl.FW] using hnd)
 refine ⟨pl,⟨_,_,_,acs,abb,rfl,rfl⟩,fun id e he=>?_,fun y z ey ez p q hy hz hyz hp hq=>?_⟩
 ·obtain ⟨m,hm⟩:=qG he
  have hk:=hkey m id e hm
  have hlen:m<(some (⟨pb,0,T.sz,[]⟩:Pl) :: ps).length:=by
   have:=(List.getElem?_eq_some_iff.1 hm).1
   simp only [List.length_cons] at this ⊢
   omega
  have VP:pl id=(some (⟨pb,0,T.sz,[]⟩:Pl) :: ps)[m]:=by rw [hk,hpl,List.getElem?_eq_getElem hlen];rfl
  have hin:∀ p,pl id=some p->∀ b ∈ p.bs,¬ A b/\b<h.size:=fun p hp b hb=>acu b (List.mem_flatMap.2 ⟨p,List.mem_filterMap.2 ⟨_,List.getElem_mem hlen,by rw [<- VP,hp];rfl⟩,hb⟩)
  refine ⟨?_,fun p hp b hb=>hin p hp b (hsub e p b hb), ?_⟩
  ·cases m with
   | zero=>
    simp at hm
    obtain ⟨rfl,rfl⟩:=hm
    rw [abb]
    exact ⟨_,c,e0,fz,rfl,rfl,hpb,hfz,hcs,by have:=hcr.1;simpa using this,fun u hu=>(by cases hu;rw [<- hcs];have:=hcr.1;simpa using this.symm),hcr,(Om pb (by simp)).1⟩
   | succ m=>
    have hm':ea[m]? = some (id,e):=by simpa using hm
    have hlt:m<ps.length:=by simpa using hlen
    have VQ:pl id=ps[m]:=by simpa using VP
    rcases r2 m id e ps[m] hm' (List.getElem?_eq_getElem hlt) with ⟨t,l,rfl,ha,hfl⟩ | ⟨t,l,rfl,ha⟩
    ·exact ⟨by rw [VQ];exact ha,fun p hp=>⟨⟨fun ho=>(by cases ho),hfl p (by rw [<- VQ];exact hp)⟩,fun _=>(hin p hp p.b p.pQ).1⟩⟩
    ·exact ⟨by rw [VQ];exact ha,fun p hp=>⟨fun b hb=>⟨(hin p hp b hb).2,(hin p hp b hb).1⟩,fun k hk=>by cases hk⟩⟩
  ·cases m with
   | zero=>
    simp at hm
    obtain ⟨rfl,rfl⟩:=hm
    exact ⟨fun t l n h=>(by cases h),fun t l n h=>(by cases h)⟩
   | succ m=>
    have hm':ea[m]? = some (id,e):=by simpa using hm
    have hlt:m<ps.length:=by simpa using hlen
    rcases r2 m id e ps[m] hm' (List.getElem?_eq_getElem hlt) with ⟨t,l,rfl,ha,hfl⟩ | ⟨t,l,rfl,ha⟩
    ·exact ⟨fun t l n h=>(by cases h),fun t l n h=>(by cases h)⟩
    ·exact ⟨fun t l n h=>(by cases h),fun t l n h=>(by cases h)⟩
 ·obtain ⟨m,hm⟩:=qG hy
  obtain ⟨n,hn⟩:=qG hz
  have lenOf:∀ {m:Nat} {k:Nat} {e:Entry},((iA i 0,Entry.box (some T) ca) :: ea)[m]? = some (k,e)->m<(some (⟨pb,0,T.sz,[]⟩:Pl) :: ps).length:=by
   intro m k e hm
   have:=(List.getElem?_eq_some_iff.1 hm).1
   simp only [List.length_cons] at this ⊢
   omega
  have hlt:=lenOf hm
  have hlt':=lenOf hn
  have hmn:m ≠ n:=fun e=>hyz (by rw [hkey m y ey hm,hkey n z ez hn,e])
  rw [hkey m y ey hm,hpl,List.getElem?_eq_getElem hlt] at hp
  rw [hkey n z ez hn,hpl,List.getElem?_eq_getElem hlt'] at hq
  have hp:(some (⟨pb,0,T.sz,[]⟩:Pl) :: ps)[m]=some p:=hp
  have hq:(some (⟨pb,0,T.sz,[]⟩:Pl) :: ps)[n]=some q:=hq
  exact fun b hb hb'=>CG hnd' (by rw [List.getElem?_eq_getElem hlt,hp]) (by rw [List.getElem?_eq_getElem hlt',hq]) hmn b (hsub _ _ _ hb) (hsub _ _ _ hb')
theorem XO {C:dh} (good:Good C) {F0:lS} {G G':Nat->Prop} {fn:Func} {rt T:Ty} {i0:Nat} {x:Ex} {s':St} {a':Act} {w w':World} {nP:Nat->Option Pl} {r:rt.den × T.den} {pb:Nat} (hx:∀ j,x ≠ .exit j)
  (i':Inv F0 G' s' a' w' nP) (fr:Fr F0 G w G' w') (hpar:F0.par i0=some (.pointer (some ⟨pb,0,none⟩))) (hret:TD C fn i0 T (.pair rt T) x s'=some r) {R:Ending->World->Prop}
  (hR:∀ v qs ps',w.heap.size<=w'.heap.size->Str F0.mono w w'->(∀ b,F0 b->w'.heap[b]? = w.heap[b]?)->(∀ b,G b->G' b)->(∀ b,G' b->G b\/(¬ F0 b/\b<w'.heap.size))->
   wF true (Nat.beq fn.resultTypes.size 1) rt G' w'.heap r.1 v qs->(∃ c e fz,w'.heap[pb]? = some (.cells c e fz)/\Free fz c.size/\c.size=T.sz/\cZ T.ob G' w'.heap T r.2 c.toList ps')->
   (∀ b ∈ blks qs++blks ps',¬ F0 b/\¬ G' b/\b<w'.heap.size/\b ≠ pb)->(blks qs++blks ps').Nodup->¬ G' pb->R (.returned v) w') :
  bodyPost C.P fn R .normal a' w':=by
 have hret:Nc C fn i0 T rt s'=some r:=by
  cases hb:Nc C fn i0 T rt s' with
  | none=>
   cases x with
   | exit j=>exact absurd rfl (hx j)
   | _=>simp [TD,hb] at hret
  | some y=>
   cases x with
   | exit j=>exact absurd rfl (hx j)
   | _=>simp [TD,hb] at hret;rw [<- hret]
 unfold Nc at hret
 cases hc1:Nat.beq fn.results.size fn.resultTypes.size with
 | false=>rw [hc1] at hret;cases hret
 | true=>
 rw [hc1] at hret
 simp only [cond_true] at hret
 split at hret
 case h_2=>cases hret
 rename_i vs id hvs XP
 split at hret
 case h_2=>cases hret
 rename_i tb cb yR
 cases hc2:(vs.all aJ.known && vJ (Nat.beq fn.resultTypes.size 1) rt vs) with
 | false=>rw [hc2] at hret;cases hret
 | true=>
 rw [hc2] at hret
 simp only [cond_true] at hret
 split at hret
 case h_2=>cases hret
 rename_i y ids z js hof acv
 cases hc4:(nodup (ids++js) && (T.ob || js.isEmpty)) with
 | false=>rw [hc4] at hret;cases hret
 | true=>
 rw [hc4] at hret
 simp only [cond_true,Option.some.injEq] at hret
 subst hret
 simp only [Bool.and_eq_true] at hc2
 rw [Bool.and_eq_true] at hc4
 obtain ⟨hc3,Rq⟩:=hc4
 have hc3:=lF hc3
 obtain ⟨us,hrun,XN,hur⟩:=uz good i' hvs
 have hsize:fn.results.size=fn.resultTypes.size:=Nat.eq_of_beq_eq_true hc1
 have hvl:vs.length=fn.resultTypes.size:=by rw [vL hvs];simpa using hsize
 have Jm:∀ c ∈ vs,c.known=true:=List.all_eq_true.1 hc2.1
 refine ⟨i'.defers.1,(if h:us.toArray.size=1 then us.toArray[0] else .tuple us.toArray), ?_, ?_⟩
 ·rw [CB]
  rw [Array.mapM_eq_mapM_toList]
  simp only [Sem.run_bind,Sem.run_map,hrun,Result.andThen_ok,Sem.run_pure]
 have hcells:∃ cs,aH (mem F0 G' w'.heap s'.ak nP) (vs.flatMap aJ.cells) cs /\
   (if Nat.beq fn.resultTypes.size 1 then ku rt.isAgg cs (if h:us.toArray.size=1 then us.toArray[0] else .tuple us.toArray) else ∃ ws:List Value,(if h:us.toArray.size=1 then us.toArray[0] else .tuple us.toArray)=.tuple ws.toArray/\Mg rt cs ws):=by
  cases hone:Nat.beq fn.resultTypes.size 1 with
  | true=>
   have h1:fn.resultTypes.size=1:=Nat.eq_of_beq_eq_true hone
   rw [hone] at hc2
   have hsh:=hc2.2
   unfold vJ at hsh
   simp only [if_true] at hsh
   split at hsh
   ·rename_i c
    obtain ⟨u,rfl⟩:∃ u,us=[u]:=List.length_eq_one_iff.1 (by rw [XN];rfl)
    have hcr:=hur 0 c u rfl rfl
    have hkc:=Jm c (by simp)
    refine ⟨u.cells.toList,by simpa using gT hkc hcr, ?_⟩
    simp only [if_true]
    exact uw hkc hsh hcr
   ·cases hsh
  | false=>
   rw [hone] at hc2
   have hsh:=hc2.2
   unfold vJ at hsh
   simp only [Bool.false_eq_true,if_false] at hsh
   obtain ⟨k4,k5⟩:=Jl hsh XN hur Jm
   refine ⟨_,k4, ?_⟩
   simp only [Bool.false_eq_true,if_false]
   have hne:¬ us.toArray.size=1:=by
    have:us.length=fn.resultTypes.size:=by rw [XN,hvl]
    intro e
    have e1:fn.resultTypes.size=1:=by rw [<- this];simpa using e
    rw [e1] at hone
    simp at hone
   exact ⟨us,by rw [dif_neg hne],k5⟩
 obtain ⟨cs,hcr,hval⟩:=hcells
 obtain ⟨ps,hown,hblk⟩:=wD i'.ak hof hcr
 have hent:=i'.ak.ent id _ yR
 obtain ⟨p,c,e,fz,hp,ho,VL,hfz,hsz0,hcs,hty,hrel,hnF⟩:=hent
 have hp:nP id=some p:=hp
 have VL:w'.heap[p.b]? = some (.cells c e fz):=VL
 have hnF:¬ (F0 p.b\/G' p.b):=hnF
 have hpb:p.b=pb:=by
  obtain ⟨_,h2⟩:=i'.defers.2 i0 _ hpar
  have hsl:=i'.env i0
  rw [XP] at hsl
  obtain ⟨_,_,p2,_,hp2,_,hv⟩:=hsl
  have hp2:nP id=some p2:=hp2
  rw [hp] at hp2
  cases hp2
  rw [h2] at hv
  cases hv
  rfl
 obtain ⟨⟨ps',YO,abd⟩,ZE⟩:=Jj i'.ak acv Rq hrel
 have hlive:=ng hof
 have hall:∀ j ∈ ids++js,Lv s'.ak .give j:=fun j hj=>(List.mem_append.1 hj).elim (hlive j) (ZE j)
 have hblk2:blks ps++blks ps'=((ids++js).filterMap nP).flatMap Pl.bs:=by
  have e1:blks ps=(ids.filterMap nP).flatMap Pl.bs:=hblk
  have e2:blks ps'=(js.filterMap nP).flatMap Pl.bs:=abd
  rw [e1,e2,List.filterMap_append,List.flatMap_append]
 have hnd:(blks ps++blks ps').Nodup:=by
  rw [hblk2]
  exact oL i'.ak hc3 hall
 subst hpb
 refine hR _ ps ps' fr.size fr.str (fun b hb=>fr.h b (.inl hb)) fr.more (fun b hb=>?_) ⟨cs,hown,hval⟩ ⟨c,e,fz,VL,hfz,YO.len ▸ (by simp),YO⟩ (fun b hb=>?_) hnd (fun h=>hnF (.inr h))
 ·by_cases hlt:F0 b
  ·exact .inl (fr.new b hb hlt)
  ·exact .inr ⟨hlt,i'.ak.lt b (.inr hb)⟩
 ·rw [hblk2] at hb
  obtain ⟨q,hq,Xn⟩:=List.mem_flatMap.1 hb
  obtain ⟨j,hj,hjq⟩:=List.mem_filterMap.1 hq
  obtain ⟨e',he,k1,_,k2⟩:=(hall j hj).bs i'.ak hjq
  have hne:j ≠ id:=fun h=>(hall j hj).OC _ _ (h ▸ yR)
  refine ⟨fun h=>k2 rfl b Xn (.inl h),fun h=>k2 rfl b Xn (.inr h),i'.ak.pU he hjq b (k1 ▸ Xn),fun h=>?_⟩
  exact i'.ak.apart' j id e' _ q p he yR hne hjq hp b (k1 ▸ Xn) (by rw [h];exact Entry.pQ _ p)
theorem XQ {C:dh} (good:Good C) {F0:lS} {G G':Nat->Prop} {fn:Func} {t:Ty} {x:Ex} {s':St} {a':Act} {w w':World} {nP:Nat->Option Pl} {r:t.den} (hx:∀ j,x ≠ .exit j)
  (i':Inv F0 G' s' a' w' nP) (fr:Fr F0 G w G' w') (hret:Xq C fn t x s'=some r) {R:Ending->World->Prop}
  (hR:∀ pb,w.heap.size<=w'.heap.size->Str F0.mono w w'->(∀ b,F0 b->w'.heap[b]? = w.heap[b]?)->(∀ b,G b->G' b)->(∀ b,G' b->G b\/(¬ F0 b/\b<w'.heap.size))->
   (∃ c e fz,w'.heap[pb]? = some (.cells c e fz)/\Free fz c.size/\c.size=t.sz/\cZ false G' w'.heap t r c.toList [])->¬ F0 pb->¬ G' pb->R (.returned (.pointer (some ⟨pb,0,none⟩))) w') :
  bodyPost C.P fn R .normal a' w':=by
 have hret:(bif Nat.beq fn.results.size fn.resultTypes.size && Nat.beq fn.resultTypes.size 1 then
  (match jQ C s' fn.results.toList with
  | some [.cell (.ptr id 0)]=>(match s'.ak id with
   | some (.box (some u) cs)=>if u=t then (match bG s'.ak .keep t cs with
    | some (z,[])=>some z
    | _=>none) else none
   | _=>none)
  | _=>none) else none)=some r:=by
  cases x with
  | normal=>exact hret
  | ret=>exact hret
  | exit j=>exact absurd rfl (hx j)
 cases hc1:(Nat.beq fn.results.size fn.resultTypes.size && Nat.beq fn.resultTypes.size 1) with
 | false=>rw [hc1] at hret;cases hret
 | true=>
 rw [hc1] at hret
 simp only [cond_true] at hret
 split at hret
 case h_2=>cases hret
 rename_i id hvs
 split at hret
 case h_2=>cases hret
 rename_i u cs yR
 split at hret
 case isFalse=>cases hret
 rename_i hut
 subst hut
 split at hret
 case h_2=>cases hret
 rename_i z hof
 obtain rfl:z=r:=Option.some.inj hret
 obtain ⟨us,hrun,XN,hur⟩:=uz good i' hvs
 obtain ⟨v,rfl⟩:∃ v,us=[v]:=List.length_eq_one_iff.1 (by rw [XN];rfl)
 obtain ⟨_,_,p2,hs2,hp2,_,hv⟩:=hur 0 _ v rfl rfl
 have hs2:s'.ak id=some (.box _ _):=hs2
 have hp2:nP id=some p2:=hp2
 obtain ⟨p,c,e,fz,hp,ho,VL,hfz,hsz0,hcs,hty,hrel,hnF⟩:=i'.ak.ent id _ yR
 have hp:nP id=some p:=hp
 have hpp:p2=p:=Option.some.inj (hp2.symm.trans hp)
 rw [hpp] at hv
 have VL:w'.heap[p.b]? = some (.cells c e fz):=VL
 have hnF:¬ (F0 p.b\/G' p.b):=hnF
 have hown:=uy (jC i'.ak (fun _ h=>h) (fun _ h=>h) (fun h=>by cases h) hof hrel (by simp) (by simp))
 refine ⟨i'.defers.1,v, ?_, ?_⟩
 ·rw [CB]
  rw [Array.mapM_eq_mapM_toList]
  simp only [Sem.run_bind,Sem.run_map,hrun,Result.andThen_ok,Sem.run_pure]
  simp
 ·rw [hv]
  refine hR p.b fr.size fr.str (fun b hb=>fr.h b (.inl hb)) fr.more (fun b hb=>?_) ⟨c,e,fz,VL,hfz,by rw [hcs];exact hty _ rfl,hown⟩ (fun h=>hnF (.inl h)) (fun h=>hnF (.inr h))
  by_cases hlt:F0 b
  ·exact .inl (fr.new b hb hlt)
  ·exact .inr ⟨hlt,i'.ak.lt b (.inr hb)⟩
def ET (C:dh) (ah:FuncId->(t:Ty)->List Arg->Option t.den):Prop:=Ab C ah/\Ro C ah/\VG C ah
def Ny (C:dh):Prop:=∀ (f:FuncId) (p:(t:Ty)->List Arg->Option t.den),C.MX f=some p->(C.sig f).yK=false/\ET C fun g t args=>if g=f then p t args else none
theorem ZF {C:dh} (good:Good C) (OL:∀ ah,Ib C ah->Rm C ah) (Gl:Ny C):∀ k,Ib C (run C k):=by
 intro k
 induction k with
 | zero=>exact ⟨fun f fn t args r hf h=>by simp [run] at h,fun f fn rt T x i args r hf h=>by simp [run] at h,fun f fn rt T x i args r hf h=>by simp [run] at h,fun f fn t args r hf h=>by simp [run] at h⟩
 | succ k ih=>
  refine ⟨fun f fn t args r hf h hmk=>?_,fun f fn rt T x i args r hf h hai=>?_,fun f fn rt T x i args r hf h hai=>?_,fun f fn t args r hf h hmk=>?_⟩
  ·simp only [run] at h
   cases hp:C.MX f with
   | some p=>
    rw [hp] at h
    exact (Gl f p hp).2.1 f fn t args r hf (by simpa using h) hmk
   | none=>
    rw [hp] at h
    simp only [hf] at h
    cases hb:fn.body with
    | none=>simp [hb] at h
    | some c=>
     simp only [hb] at h
     refine ⟨rfl,fun w A G vals hA sD htab hone hargs=>?_⟩
     cases hfl:lY args 0 with
     | some iT=>
      obtain ⟨i0,T0⟩:=iT
      obtain ⟨x0,_,h0⟩:=tX hfl
      rw [Nat.sub_zero] at h0
      have hlt:i0<vals.length:=by rw [hargs.1];exact (List.getElem?_eq_some_iff.1 h0).1
      exact (hargs.2 i0 _ _ h0 (List.getElem?_eq_getElem hlt)).elim
     | none=>
     rw [hfl] at h
     simp only at h
     cases Oo:qx args 0 with
     | some iT=>
      obtain ⟨i0,T0⟩:=iT
      obtain ⟨x0,_,h0⟩:=yV Oo
      rw [Nat.sub_zero] at h0
      have hlt:i0<vals.length:=by rw [hargs.1];exact (List.getElem?_eq_some_iff.1 h0).1
      exact (hargs.2 i0 _ _ h0 (List.getElem?_eq_getElem hlt)).elim
     | none=>
     rw [Oo,hmk] at h
     simp only [cond_false] at h
     obtain ⟨k2,SN,k3,k4,k5⟩:=Ae sD 0 hargs hone
     have hi:Inv ⟨A,fun _=>none,fun _=>0,fun _ _ _=>undef,C.mono,fun _=>none⟩ G (yM 0 fn args) { tmps:=vals.toArray++Array.replicate (fn.ntmps - vals.toArray.size) undef,defers:=[] } w SN:=by
      unfold yM
      generalize hps:eB 0 args=ps at *
      obtain ⟨vs,es⟩:=ps
      simp only at k2 k3 k4 k5 ⊢
      have hFm:∀ b,(A b\/G b)->b<w.heap.size:=fun b hb=>hb.elim (hA b) (fun h=>hA b (sD b h))
      have g:Goes (fun _=>False) ⟨A,G,w.heap,assoc es,SN,fun _=>none,fun _=>0,fun _ _ _=>undef⟩ (mem ⟨A,fun _=>none,fun _=>0,fun _ _ _=>undef,C.mono,fun _=>none⟩ G w.heap (assoc es) SN):=
        ⟨fun b hb=>.inl hb,fun b hb=>hb,sD,fun b hb=>rfl,fun id e _ he=>⟨e,he,e.lZ,jo.refl _⟩,rfl⟩
      refine ⟨by simp [hargs.1],fun t=>?_,⟨fun b hb=>.inr hb,hFm,fun id e he=>?_,fun x y ex ey p q hx hy hxy hp hq=>k5 x y ex ey p q hx hy hxy hp hq,fun id t l n he=>(by obtain ⟨⟨t',l',hh,_⟩ | ⟨t',l',hh,_⟩,_⟩:=k4 id _ he <;> cases hh),fun id t l n he=>(by obtain ⟨⟨t',l',hh,_⟩ | ⟨t',l',hh,_⟩,_⟩:=k4 id _ he <;> cases hh)⟩,rfl,fun t v h=>by cases h⟩
      ·show gJ _ ((vs[t]?).getD .undef) _
       cases hv:vs[t]? with
       | none=>exact trivial
       | some s=>
        have hlt:t<vals.length:=by rw [<- k2];exact (List.getElem?_eq_some_iff.1 hv).1
        have hu:(vals.toArray++Array.replicate (fn.ntmps - vals.toArray.size) undef).getD t undef=vals[t]:=by
         rw [Array.getD_eq_getD_getElem?,Array.getElem?_append_left (by simpa using hlt)]
         simp [hlt]
        rw [hu]
        exact g.slot (fun _ _ h=>h) (k3 t s vals[t] hv (List.getElem?_eq_getElem hlt))
      ·obtain ⟨⟨t,l,rfl,h1,hfl⟩ | ⟨t,l,rfl,h1⟩,h2⟩:=k4 id e he
       ·exact ⟨h1,fun p hp=>⟨⟨fun ho=>(by cases ho),hfl p hp⟩,fun _ hb=>(h2 p hp p.b p.pQ).1 (hb.elim (fun h=>h) (sD _))⟩⟩
       ·exact ⟨h1,fun p hp=>⟨fun b hb=>⟨(h2 p hp b hb).2,fun hF=>(h2 p hp b hb).1 (hF.elim (fun h=>h) (sD _))⟩,fun k hk=>by cases hk⟩⟩
     have hcode:=Nu (fun o=>SS good ih o) (OL _ ih) _ k c h hi ⟨htab,fun h=>h⟩
     refine calls_of_wp hf hb (wp_mono hcode fun e a' w' hpost=>?_)
     obtain ⟨x,s',G',nP,hx,hret,i',fr⟩:=hpost
     have fin:(∀ j,x ≠ .exit j)->bodyPost C.P fn _ .normal a' w':=fun hx'=>ZC good hx' i' fr hret (R:=fun e w'=>∃ v G' ps,e=.returned v/\w.heap.size<=w'.heap.size/\Str C.mono w w'/\(∀ b,A b->w'.heap[b]? = w.heap[b]?)/\(∀ b,G b->G' b)/\(∀ b,G' b->G b\/(¬ A b/\b<w'.heap.size)) /\
       wF (C.sig f).own (Nat.beq fn.resultTypes.size 1) t G' w'.heap r v ps/\(∀ b ∈ blks ps,¬ A b/\¬ G' b/\b<w'.heap.size)/\(blks ps).Nodup)
      (fun v Rc ps h1 h2 h3 h4 h5 h6 h7 h8 _=>⟨v,Rc,ps,rfl,h1,h2,h3,h4,h5,h6,h7,h8⟩)
     cases e with
     | normal=>exact fin (by cases x <;> simp [sw] at hx <;> simp)
     | ret=>exact fin (by cases x <;> simp [sw] at hx <;> simp)
     | exit j=>cases x <;> simp [sw] at hx;simp [Xp] at hret
     | goto j=>cases x <;> simp [sw] at hx
     | panic ch=>cases x <;> simp [sw] at hx
     | outgrown=>cases x <;> simp [sw] at hx
  ·simp only [run] at h
   cases hp:C.MX f with
   | some p=>
    rw [hp] at h
    exact (Gl f p hp).2.2.1 f fn rt T x i args r hf (by simpa using h) hai
   | none=>
    rw [hp] at h
    simp only [hf] at h
    cases hb:fn.body with
    | none=>simp [hb] at h
    | some c=>
     simp only [hb] at h
     cases hfl:lY args 0 with
     | none=>exact absurd (List.mem_of_getElem? hai) (BR hfl T x)
     | some iT=>
      rw [hfl] at h
      cases h
  ·simp only [run] at h
   cases hp:C.MX f with
   | some p=>
    rw [hp] at h
    exact (Gl f p hp).2.2.2 f fn rt T x i args r hf (by simpa using h) hai
   | none=>
    rw [hp] at h
    simp only [hf] at h
    cases hb:fn.body with
    | none=>simp [hb] at h
    | some c=>
     simp only [hb] at h
     refine ⟨rfl,fun w A G vals pb ps hA sD htab hlen hv0 hba hargs=>?_⟩
     have hi0:i<args.length:=(List.getElem?_eq_some_iff.1 hai).1
     cases hfl:lY args 0 with
     | some iT=>
      obtain ⟨i1,T1⟩:=iT
      obtain ⟨x1,_,h1⟩:=tX hfl
      rw [Nat.sub_zero] at h1
      have hne:i1 ≠ i:=fun e=>by rw [e,hai] at h1;cases h1
      have hlt:i1<vals.length:=by rw [hlen];exact (List.getElem?_eq_some_iff.1 h1).1
      exact (hargs i1 _ _ hne h1 (List.getElem?_eq_getElem hlt)).2.elim
     | none=>
     rw [hfl] at h
     simp only at h
     cases Oo:qx args 0 with
     | none=>exact absurd (List.mem_of_getElem? hai) (Nw Oo T x)
     | some iT=>
     obtain ⟨i0,T0⟩:=iT
     obtain ⟨x0,_,h0⟩:=yV Oo
     rw [Nat.sub_zero] at h0
     have hii:i0=i:=by
      refine Classical.byContradiction fun hne=>?_
      have hlt:i0<vals.length:=by rw [hlen];exact (List.getElem?_eq_some_iff.1 h0).1
      exact (hargs i0 _ _ hne h0 (List.getElem?_eq_getElem hlt)).2.elim
     subst hii
     rw [hai] at h0
     cases h0
     rw [Oo] at h
     simp only at h
     cases VR:Nat.blt i0 1000 with
     | false=>rw [VR] at h;cases h
     | true=>
     rw [VR] at h
     simp only [cond_true] at h
     have abV:i0<1000:=by simpa using VR
     obtain ⟨SN,hs0,hent,hapart⟩:=Rs (i:=i0) hba
     obtain ⟨k2,k3,k4⟩:=BS sD (F0:=⟨A,fun _=>none,fun _=>0,fun _ _ _=>undef,C.mono,fun t=>if t=i0 then some (.pointer (some ⟨pb,0,none⟩)) else none⟩) hs0 (as:=args) (us:=vals) (n:=0) hlen (fun j a v hne hj hv=>hargs j a v (by omega) hj hv) (fun j hj _=>(show j=i0 by omega) ▸ ⟨hai,hv0⟩)
     rw [if_pos ⟨Nat.zero_le _,by omega⟩] at k3
     have hi:Inv ⟨A,fun _=>none,fun _=>0,fun _ _ _=>undef,C.mono,fun t=>if t=i0 then some (.pointer (some ⟨pb,0,none⟩)) else none⟩ G (yM (i0+1) fn args) { tmps:=vals.toArray++Array.replicate (fn.ntmps - vals.toArray.size) undef,defers:=[] } w SN:=by
      unfold yM
      generalize hps:eB 0 args=pss at *
      obtain ⟨vs,es⟩:=pss
      simp only at k2 k3 k4 ⊢
      subst k3
      have hFm:∀ b,(A b\/G b)->b<w.heap.size:=fun b hb=>hb.elim (hA b) (fun h=>hA b (sD b h))
      have g:Goes (fun _=>False) ⟨A,G,w.heap,assoc (gI i0 (.iF T x)).2,SN,fun _=>none,fun _=>0,fun _ _ _=>undef⟩ (mem ⟨A,fun _=>none,fun _=>0,fun _ _ _=>undef,C.mono,fun t=>if t=i0 then some (.pointer (some ⟨pb,0,none⟩)) else none⟩ G w.heap (assoc (gI i0 (.iF T x)).2) SN):=
        ⟨fun b hb=>.inl hb,fun b hb=>hb,sD,fun b hb=>rfl,fun id e _ he=>⟨e,he,e.lZ,jo.refl _⟩,rfl⟩
      have hget:∀ t (hlt:t<vals.length),(vals.toArray++Array.replicate (fn.ntmps - vals.toArray.size) undef).getD t undef=vals[t]:=fun t hlt=>by
       rw [Array.getD_eq_getD_getElem?,Array.getElem?_append_left (by simpa using hlt)]
       simp [hlt]
      refine ⟨by simp [hlen];omega,fun t=>?_,⟨fun b hb=>.inr hb,hFm,fun id e he=>?_,fun y z ey ez p q hy hz hyz hp hq=>hapart y z ey ez p q hy hz hyz hp hq,fun id t l n he=>absurd rfl ((hent id _ he).2.2.1 t l n),fun id t l n he=>absurd rfl ((hent id _ he).2.2.2 t l n)⟩,rfl,fun t v ht=>?_⟩
      ·show gJ _ ((vs[t]?).getD .undef) _
       cases hv:vs[t]? with
       | none=>exact trivial
       | some s=>
        have hlt:t<vals.length:=by rw [<- k2];exact (List.getElem?_eq_some_iff.1 hv).1
        rw [hget t hlt]
        exact g.slot (fun _ _ h=>h) (k4 t s vals[t] hv (List.getElem?_eq_getElem hlt))
      ·obtain ⟨h1,h2,_⟩:=hent id e he
       exact g.entry (fun _ _ _ _=>rfl) (fun p hp b hb hn hF=>hn (hF.elim (fun h=>h) (sD b))) (fun _ _ h=>h) h1
      ·have ht2:(if t=i0 then some (Value.pointer (some ⟨pb,0,none⟩)) else none)=some v:=ht
       by_cases hti:t=i0
       ·rw [if_pos hti] at ht2
        have hv:v=Value.pointer (some ⟨pb,0,none⟩):=(Option.some.inj ht2).symm
        rw [hv,hti]
        refine ⟨by show i0<((args.length+(fn.ntmps - args.length))*1048576+(i0+1)) % 1048576;omega, ?_⟩
        have hlt:i0<vals.length:=by omega
        show (vals.toArray++Array.replicate (fn.ntmps - vals.toArray.size) undef).getD i0 undef=_
        rw [hget i0 hlt]
        rw [List.getElem?_eq_getElem hlt] at hv0
        exact Option.some.inj hv0
       ·rw [if_neg hti] at ht2
        cases ht2
     have hcode:=Nu (fun o=>SS good ih o) (OL _ ih) _ k c h hi ⟨htab,fun h=>h⟩
     refine calls_of_wp hf hb (wp_mono hcode fun e a' w' hpost=>?_)
     obtain ⟨xx,s',G',nP,hx,hret,i',fr⟩:=hpost
     have fin:(∀ j,xx ≠ .exit j)->bodyPost C.P fn _ .normal a' w':=fun hx'=>XO good hx' i' fr (i0:=i0) (pb:=pb) (by simp) hret (R:=fun e w'=>∃ v G' qs ps',e=.returned v/\w.heap.size<=w'.heap.size/\Str C.mono w w'/\(∀ b,A b->w'.heap[b]? = w.heap[b]?)/\(∀ b,G b->G' b)/\(∀ b,G' b->G b\/(¬ A b/\b<w'.heap.size)) /\
       wF true (Nat.beq fn.resultTypes.size 1) rt G' w'.heap r.1 v qs/\(∃ c e fz,w'.heap[pb]? = some (.cells c e fz)/\Free fz c.size/\c.size=T.sz/\cZ T.ob G' w'.heap T r.2 c.toList ps') /\
       (∀ b ∈ blks qs++blks ps',¬ A b/\¬ G' b/\b<w'.heap.size/\b ≠ pb)/\(blks qs++blks ps').Nodup/\¬ G' pb)
      (fun v qs ps' h1 h2 h3 h4 h5 h6 h7 h8 h9 h10=>⟨v,G',qs,ps',rfl,h1,h2,h3,h4,h5,h6,h7,h8,h9,h10⟩)
     cases e with
     | normal=>exact fin (by cases xx <;> simp [sw] at hx <;> simp)
     | ret=>exact fin (by cases xx <;> simp [sw] at hx <;> simp)
     | exit j=>cases xx <;> simp [sw] at hx;simp [TD] at hret
     | goto j=>cases xx <;> simp [sw] at hx
     | panic ch=>cases xx <;> simp [sw] at hx
     | outgrown=>cases xx <;> simp [sw] at hx
  ·simp only [run] at h
   cases hp:C.MX f with
   | some p=>
    rw [hp] at h
    rw [(Gl f p hp).1] at hmk;cases hmk
   | none=>
    rw [hp] at h
    simp only [hf] at h
    cases hb:fn.body with
    | none=>simp [hb] at h
    | some c=>
     simp only [hb] at h
     refine ⟨rfl,fun w A G vals hA sD htab hone hargs=>?_⟩
     cases hfl:lY args 0 with
     | some iT=>
      obtain ⟨i0,T0⟩:=iT
      obtain ⟨x0,_,h0⟩:=tX hfl
      rw [Nat.sub_zero] at h0
      have hlt:i0<vals.length:=by rw [hargs.1];exact (List.getElem?_eq_some_iff.1 h0).1
      exact (hargs.2 i0 _ _ h0 (List.getElem?_eq_getElem hlt)).elim
     | none=>
     rw [hfl] at h
     simp only at h
     cases Oo:qx args 0 with
     | some iT=>
      obtain ⟨i0,T0⟩:=iT
      obtain ⟨x0,_,h0⟩:=yV Oo
      rw [Nat.sub_zero] at h0
      have hlt:i0<vals.length:=by rw [hargs.1];exact (List.getElem?_eq_some_iff.1 h0).1
      exact (hargs.2 i0 _ _ h0 (List.getElem?_eq_getElem hlt)).elim
     | none=>
     rw [Oo,hmk] at h
     simp only [cond_true] at h
     obtain ⟨k2,SN,k3,k4,k5⟩:=Ae sD 0 hargs hone
     have hi:Inv ⟨A,fun _=>none,fun _=>0,fun _ _ _=>undef,C.mono,fun _=>none⟩ G (yM 0 fn args) { tmps:=vals.toArray++Array.replicate (fn.ntmps - vals.toArray.size) undef,defers:=[] } w SN:=by
      unfold yM
      generalize hps:eB 0 args=ps at *
      obtain ⟨vs,es⟩:=ps
      simp only at k2 k3 k4 k5 ⊢
      have hFm:∀ b,(A b\/G b)->b<w.heap.size:=fun b hb=>hb.elim (hA b) (fun h=>hA b (sD b h))
      have g:Goes (fun _=>False) ⟨A,G,w.heap,assoc es,SN,fun _=>none,fun _=>0,fun _ _ _=>undef⟩ (mem ⟨A,fun _=>none,fun _=>0,fun _ _ _=>undef,C.mono,fun _=>none⟩ G w.heap (assoc es) SN):=
        ⟨fun b hb=>.inl hb,fun b hb=>hb,sD,fun b hb=>rfl,fun id e _ he=>⟨e,he,e.lZ,jo.refl _⟩,rfl⟩
      refine ⟨by simp [hargs.1],fun t=>?_,⟨fun b hb=>.inr hb,hFm,fun id e he=>?_,fun x y ex ey p q hx hy hxy hp hq=>k5 x y ex ey p q hx hy hxy hp hq,fun id t l n he=>(by obtain ⟨⟨t',l',hh,_⟩ | ⟨t',l',hh,_⟩,_⟩:=k4 id _ he <;> cases hh),fun id t l n he=>(by obtain ⟨⟨t',l',hh,_⟩ | ⟨t',l',hh,_⟩,_⟩:=k4 id _ he <;> cases hh)⟩,rfl,fun t v h=>by cases h⟩
      ·show gJ _ ((vs[t]?).getD .undef) _
       cases hv:vs[t]? with
       | none=>exact trivial
       | some s=>
        have hlt:t<vals.length:=by rw [<- k2];exact (List.getElem?_eq_some_iff.1 hv).1
        have hu:(vals.toArray++Array.replicate (fn.ntmps - vals.toArray.size) undef).getD t undef=vals[t]:=by
         rw [Array.getD_eq_getD_getElem?,Array.getElem?_append_left (by simpa using hlt)]
         simp [hlt]
        rw [hu]
        exact g.slot (fun _ _ h=>h) (k3 t s vals[t] hv (List.getElem?_eq_getElem hlt))
      ·obtain ⟨⟨t,l,rfl,h1,hfl⟩ | ⟨t,l,rfl,h1⟩,h2⟩:=k4 id e he
       ·exact ⟨h1,fun p hp=>⟨⟨fun ho=>(by cases ho),hfl p hp⟩,fun _ hb=>(h2 p hp p.b p.pQ).1 (hb.elim (fun h=>h) (sD _))⟩⟩
       ·exact ⟨h1,fun p hp=>⟨fun b hb=>⟨(h2 p hp b hb).2,fun hF=>(h2 p hp b hb).1 (hF.elim (fun h=>h) (sD _))⟩,fun k hk=>by cases hk⟩⟩
     have hcode:=Nu (fun o=>SS good ih o) (OL _ ih) _ k c h hi ⟨htab,fun h=>h⟩
     refine calls_of_wp hf hb (wp_mono hcode fun e a' w' hpost=>?_)
     obtain ⟨x,s',G',nP,hx,hret,i',fr⟩:=hpost
     have fin:(∀ j,x ≠ .exit j)->bodyPost C.P fn _ .normal a' w':=fun hx'=>XQ good hx' i' fr hret (R:=fun e w'=>∃ pb G',e=.returned (.pointer (some ⟨pb,0,none⟩))/\w.heap.size<=w'.heap.size/\Str C.mono w w'/\(∀ b,A b->w'.heap[b]? = w.heap[b]?)/\(∀ b,G b->G' b)/\(∀ b,G' b->G b\/(¬ A b/\b<w'.heap.size)) /\
       (∃ c e fz,w'.heap[pb]? = some (.cells c e fz)/\Free fz c.size/\c.size=t.sz/\cZ false G' w'.heap t r c.toList [])/\¬ A pb/\¬ G' pb)
      (fun pb h1 h2 h3 h4 h5 h6 h7 h8=>⟨pb,G',rfl,h1,h2,h3,h4,h5,h6,h7,h8⟩)
     cases e with
     | normal=>exact fin (by cases x <;> simp [sw] at hx <;> simp)
     | ret=>exact fin (by cases x <;> simp [sw] at hx <;> simp)
     | exit j=>cases x <;> simp [sw] at hx;simp [Xq] at hret
     | goto j=>cases x <;> simp [sw] at hx
     | panic ch=>cases x <;> simp [sw] at hx
     | outgrown=>cases x <;> simp [sw] at hx
end Go.Flat
