/- Whatever the evaluator answers, the program answers: the whole. No condition. -/
import Derived.Test.YtmocpfgfjeaelaaGreatRun1
set_option linter.unusedVariables false
set_option linter.unusedSimpArgs false
namespace Go.Flat
theorem zQ (fn:Func) (tmps:Array Value):results fn tmps=(do let vs <- fn.results.mapM (EU tmps);pure (if h:vs.size=1 then vs[0] else .tuple vs)):=by
 unfold results
 congr 1
def kT (A G:Nat->Prop) (h:Array Obj) (inn:Nat->Nat->Nat->Value):Mem:=⟨A,G,h,fun _=>none,fun _=>none,fun _=>none,fun _=>0,inn⟩
theorem sG {A G:Nat->Prop} {h:Array Obj} {inn:Nat->Nat->Nat->Value}:∀ {as:List Arg} {us:List Value} (n:Nat),iJ A G h as us->(∀ b ∈ as,b.uq=false)->(bW n as).2=[]/\(bW n as).1.length=us.length /\
  ∀ (j:Nat) s u,(bW n as).1[j]? = some s->us[j]? = some u->eY (kT A G h inn) s u
 | [],us,n,hr,_=>by
  have:us=[]:=List.eq_nil_of_length_eq_zero hr.1
  subst this
  exact ⟨rfl,rfl,fun j s u hj=>by simp [bW] at hj⟩
 | a :: as,us,n,hr,hno=>by
  cases us with
  | nil=>have:=hr.1;simp at this
  | cons u us=>
   have hr':iJ A G h as us:=⟨by have:=hr.1;simpa using this,fun i a v hi hv=>hr.2 (i+1) a v (by simpa using hi) (by simpa using hv)⟩
   obtain ⟨k1,k2,k3⟩:=sG (n+1) hr' (fun b hb=>hno b (List.mem_cons_of_mem _ hb))
   have h0:=hr.2 0 a u rfl rfl
   have hs:∃ s,dz n a=(s,[])/\eY (kT A G h inn) s u:=by
    cases a with
    | val t x=>
     obtain ⟨es,hes,hv⟩:=h0
     refine ⟨_,rfl, ?_⟩
     have:=je (M:=kT A G h inn) (kC (M:=kT A G h inn) t.kept (by cases hk:t.kept <;> (rw [hk] at hes;exact hes))) hv
     have hc:wO t.kept t x=aP t.isAgg (cellsOf t.kept t x):=by
      unfold wO aP
      split <;> simp_all
     show dG _ (wO t.kept t x) u
     rw [hc]
     exact this
    | Nl t x=>
     obtain ⟨es,hes,hv⟩:=h0
     refine ⟨_,rfl, ?_⟩
     have:=je (M:=kT A G h inn) (kC (M:=kT A G h inn) true hes) hv
     have hc:wO true t x=aP t.isAgg (cellsOf true t x):=by
      unfold wO aP
      split <;> simp_all
     show dG _ (wO true t x) u
     rw [hc]
     exact this
    | qY f caps=>exact ⟨_,rfl,h0⟩
    | rp t x=>exact ⟨_,rfl,h0⟩
    | give _ _=>have:=hno _ List.mem_cons_self;simp [Arg.uq] at this
    | mQ _ _=>exact h0.elim
    | lend _ _=>exact h0.elim
   obtain ⟨s,hs,hsr⟩:=hs
   simp only [bW,hs]
   generalize hps:bW (n+1) as=ps at *
   obtain ⟨vs,es⟩:=ps
   simp only at k1 k2 k3 ⊢
   refine ⟨by simp [k1],by simp [k2],fun j s' u' hj hu=>?_⟩
   cases j with
   | zero=>simp at hj hu;subst hj hu;exact hsr
   | succ j=>exact k3 j s' u' (by simpa using hj) (by simpa using hu)
theorem FW {M:Mem}:∀ {t:Ty} {vs:List av} {us:List Value},wU t vs=true->us.length=vs.length->(∀ (j:Nat) c u,vs[j]? = some c->us[j]? = some u->dG M c u)->(∀ c ∈ vs,c.known=true)->
  ay M (vs.flatMap av.cells) (us.flatMap fun u=>u.cells.toList)/\Jo t (us.flatMap fun u=>u.cells.toList) us
 | .unit,[],us,_,hl,_,_=>by
  have:us=[]:=List.eq_nil_of_length_eq_zero hl
  subst this
  exact ⟨ay.nil,rfl,rfl⟩
 | .pair a b,c :: vs,us,h,hl,hr,hk=>by
  simp only [wU,Bool.and_eq_true] at h
  obtain ⟨⟨h1,h2⟩,h3⟩:=h
  cases us with
  | nil=>simp at hl
  | cons u us=>
   have hc:=hr 0 c u rfl rfl
   have hkc:=hk c (by simp)
   obtain ⟨k1,k2⟩:=FW h3 (by simpa using hl) (fun j c u hj hu=>hr (j+1) c u (by simpa using hj) (by simpa using hu)) (fun c hc=>hk c (by simp [hc]))
   have hcells:=eZ hkc hc
   have hlen:u.cells.toList.length=a.sz:=by rw [hcells.1];exact Nat.eq_of_beq_eq_true h2
   refine ⟨by simp only [List.flatMap_cons];exact hcells.append k1,u,us,rfl, ?_, ?_⟩
   ·simp only [List.flatMap_cons]
    rw [List.take_left' hlen]
    exact pU hkc h1 hc
   ·simp only [List.flatMap_cons]
    rw [List.drop_left' hlen]
    exact k2
 | .unit,_ :: _,_,h,_,_,_=>by simp [wU] at h
 | .pair _ _,[],_,h,_,_,_=>by simp [wU] at h
 | .bool,_,_,h,_,_,_=>by simp [wU] at h
 | .int _,_,_,h,_,_,_=>by simp [wU] at h
 | .str,_,_,h,_,_,_=>by simp [wU] at h
 | .list _,_,_,h,_,_,_=>by simp [wU] at h
 | .aG _,_,_,h,_,_,_=>by simp [wU] at h
theorem qN {C:aZ} {s:St}:∀ {rs:List ResultVar} {vs:List av},iU C s rs=some vs->vs.length=rs.length
 | [],vs,h=>by simp [iU] at h;subst h;rfl
 | .tmp t :: rs,vs,h=>by
  simp only [iU] at h
  split at h
  ·rename_i c r hs hr;simp at h;subst h;simp [qN hr]
  ·cases h
 | .cell x t :: rs,vs,h=>by
  simp only [iU] at h
  split at h
  ·rename_i n agg p r hsh hs hr
   split at h
   ·simp at h;subst h;simp [qN hr]
   ·cases h
  ·cases h
def DL:Entry->Option Nat
 | .arr _ _ (.pinned n)=>some n
 | .deep _ _ (some n)=>some n
 | _=>none
def Pg (F0:jo) (G:Nat->Prop) (h:Array Obj) (π:Option Pl) (n:Nat):Entry->Prop
 | .arr u l _=>lS G h u l π/\l.length=F0.len n
 | .deep u l _=>iA G h u l π/\l.length=F0.len n/\∀ p,π=some p->∀ i off,i<l.length->(jq u)[off]? = some true->hcell h p.b (p.o+i*u.sz+off)=some (F0.inn n i off)
 | .box _ _=>False
theorem Sg {F0:jo} {G:Nat->Prop} {s:St} {a:Act} {w:World} {pl:Nat->Option Pl} (i:Inv F0 G s a w pl) {id n:Nat} {e:Entry} (hs:s.aj id=some e) (hn:DL e=some n) :
  pl id=F0.pin n/\Pg F0 G w.heap (F0.pin n) n e/\∀ p,F0.pin n=some p->e.bs p=p.bs/\∀ b ∈ p.bs,¬ (F0 b\/G b):=by
 have hent:=i.aj.ent id _ hs
 cases e with
 | box _ _=>cases hn
 | arr u l o=>
  cases o <;> simp [DL] at hn
  subst hn
  rename_i n
  obtain ⟨k1,k2⟩:=i.aj.pin id u l n hs
  have k1:pl id=F0.pin n:=k1
  have hent:fG (mem F0 G w.heap s.aj pl) _ (pl id):=hent
  rw [k1] at hent
  refine ⟨k1,⟨hent.1,k2⟩,fun p hp=>?_⟩
  have hfl:=(hent.2 p hp).1.2
  refine ⟨by rw [Pl.pE hfl];rfl,fun b hb=>?_⟩
  rw [Pl.pE hfl] at hb
  simp only [List.mem_singleton] at hb
  subst hb
  exact (hent.2 p hp).2 (by simp)
 | deep u l o=>
  cases o <;> simp [DL] at hn
  subst hn
  rename_i n
  obtain ⟨k1,k2⟩:=i.aj.yO id u l n hs
  have k1:pl id=F0.pin n:=k1
  have hent:fG (mem F0 G w.heap s.aj pl) _ (pl id):=hent
  rw [k1] at hent
  exact ⟨k1,⟨hent.1,k2,fun p hp=>(hent.2 p hp).2 n rfl⟩,fun p hp=>⟨rfl,fun b hb=>((hent.2 p hp).1 b hb).2⟩⟩
theorem Si {C:aZ} (good:Good C) {F0:jo} {G G':Nat->Prop} {own:Bool} {fn:Func} {t:Ty} {kinds:List Nat} {x:Ex} {s':St} {a':Act} {w w':World} {kK:Nat->Option Pl} {r:t.den} (hx:∀ j,x ≠ .exit j)
  (i':Inv F0 G' s' a' w' kK) (fr:Fr F0 G w G' w') (hret:Li C own fn kinds t x s'=some r) {R:Ending->World->Prop}
  (hR:∀ v Ll ps,w.heap.size<=w'.heap.size->Str F0.mono w w'->(∀ b,F0 b->w'.heap[b]? = w.heap[b]?)->(∀ b,G b->Ll b)->(∀ b,Ll b->G b\/(¬ F0 b/\b<w'.heap.size))->
   zn own (Nat.beq fn.resultTypes.size 1) t Ll w'.heap r v ps->(∀ b ∈ blks ps,¬ F0 b/\¬ Ll b/\b<w'.heap.size)->(blks ps).Nodup->
   (∀ id e n,s'.aj id=some e->DL e=some n->Pg F0 Ll w'.heap (F0.pin n) n e/\∀ p,F0.pin n=some p->∀ b ∈ p.bs,¬ Ll b/\b ∉ blks ps)->R (.returned v) w') :
  bodyPost C.P fn R .normal a' w':=by
 have hret:(bif Nat.beq fn.results.size fn.resultTypes.size && !kinds.any (!Nat.beq 0 ·) then
   (match iU C s' fn.results.toList with
   | some vs=>bif vs.all av.known && qK (Nat.beq fn.resultTypes.size 1) t vs then
     (match aL s'.aj (bif own then Mode.give else Mode.keep) t (vs.flatMap av.cells) with
     | some (x,ids)=>bif !own || nodup ids then some x else none
     | none=>none) else none
   | none=>none) else none)=some r:=by
  cases x with
  | normal=>exact hret
  | ret=>exact hret
  | exit j=>exact absurd rfl (hx j)
 cases hc1:(Nat.beq fn.results.size fn.resultTypes.size && !kinds.any (!Nat.beq 0 ·)) with
 | false=>rw [hc1] at hret;cases hret
 | true=>
 rw [hc1] at hret
 simp only [cond_true] at hret
 cases hvs:iU C s' fn.results.toList with
 | none=>rw [hvs] at hret;cases hret
 | some vs=>
 rw [hvs] at hret
 simp only at hret
 cases hc2:(vs.all av.known && qK (Nat.beq fn.resultTypes.size 1) t vs) with
 | false=>rw [hc2] at hret;cases hret
 | true=>
 rw [hc2] at hret
 simp only [cond_true] at hret
 cases hof:aL s'.aj (bif own then Mode.give else Mode.keep) t (vs.flatMap av.cells) with
 | none=>rw [hof] at hret;cases hret
 | some y=>
 obtain ⟨y,ids⟩:=y
 rw [hof] at hret
 simp only at hret
 cases hc3:(!own || nodup ids) with
 | false=>rw [hc3] at hret;cases hret
 | true=>
 rw [hc3] at hret
 simp only [cond_true,Option.some.injEq] at hret
 subst hret
 simp only [Bool.and_eq_true] at hc1 hc2
 obtain ⟨us,hrun,TL,hur⟩:=pW good i' hvs
 have hsize:fn.results.size=fn.resultTypes.size:=Nat.eq_of_beq_eq_true hc1.1
 have hvl:vs.length=fn.resultTypes.size:=by rw [qN hvs];simpa using hsize
 have FX:∀ c ∈ vs,c.known=true:=List.all_eq_true.1 hc2.1
 refine ⟨i'.defers.1,(if h:us.toArray.size=1 then us.toArray[0] else .tuple us.toArray), ?_, ?_⟩
 ·rw [zQ]
  rw [Array.mapM_eq_mapM_toList]
  simp only [Sem.run_bind,Sem.run_map,hrun,Result.andThen_ok,Sem.run_pure]
 have hcells:∃ cs,ay (mem F0 G' w'.heap s'.aj kK) (vs.flatMap av.cells) cs /\
   (if Nat.beq fn.resultTypes.size 1 then jO t.isAgg cs (if h:us.toArray.size=1 then us.toArray[0] else .tuple us.toArray) else ∃ ws:List Value,(if h:us.toArray.size=1 then us.toArray[0] else .tuple us.toArray)=.tuple ws.toArray/\Jo t cs ws):=by
  cases hone:Nat.beq fn.resultTypes.size 1 with
  | true=>
   have h1:fn.resultTypes.size=1:=Nat.eq_of_beq_eq_true hone
   rw [hone] at hc2
   have hsh:=hc2.2
   unfold qK at hsh
   simp only [if_true] at hsh
   split at hsh
   ·rename_i c
    obtain ⟨u,rfl⟩:∃ u,us=[u]:=List.length_eq_one_iff.1 (by rw [TL];rfl)
    have hcr:=hur 0 c u rfl rfl
    have hkc:=FX c (by simp)
    refine ⟨u.cells.toList,by simpa using eZ hkc hcr, ?_⟩
    simp only [if_true]
    exact pU hkc hsh hcr
   ·cases hsh
  | false=>
   rw [hone] at hc2
   have hsh:=hc2.2
   unfold qK at hsh
   simp only [Bool.false_eq_true,if_false] at hsh
   obtain ⟨k4,k5⟩:=FW hsh TL hur FX
   refine ⟨_,k4, ?_⟩
   simp only [Bool.false_eq_true,if_false]
   have hne:¬ us.toArray.size=1:=by
    have:us.length=fn.resultTypes.size:=by rw [TL,hvl]
    intro e
    have e1:fn.resultTypes.size=1:=by rw [<- this];simpa using e
    rw [e1] at hone
    simp at hone
   exact ⟨us,by rw [dif_neg hne],k5⟩
 obtain ⟨cs,hcr,hval⟩:=hcells
 have hFr:=fr
 cases own with
 | true=>
  simp only [cond_true] at hof
  unfold aL at hof
  split at hof
  ·rename_i y' iQ he
   simp at hof
   obtain ⟨rfl,rfl⟩:=hof
   obtain ⟨ws,us',ps,rfl,h1,h2,h3⟩:=Dv i'.aj he hcr
   have:us'=[]:=by have:=h2.1;simpa using this
   subst this
   rw [List.append_nil] at hval
   have hlive:=AJ he
   have hbq:∀ b ∈ blks ps,∃ j ∈ iQ,∃ q e,kK j=some q/\s'.aj j=some e/\e.bs q=q.bs/\b ∈ q.bs/\¬ (F0 b\/G' b)/\b<w'.heap.size:=by
    intro b hb
    rw [h3] at hb
    obtain ⟨q,hq,Nj⟩:=List.mem_flatMap.1 hb
    obtain ⟨j,hj,hjq⟩:=List.mem_filterMap.1 hq
    obtain ⟨e,he,k1,_,k2⟩:=(hlive j hj).bs i'.aj hjq
    exact ⟨j,hj,q,e,hjq,he,k1,Nj,k2 rfl b Nj,i'.aj.jY he hjq b (k1 ▸ Nj)⟩
   refine hR _ G' ps fr.size fr.str (fun b hb=>fr.h b (.inl hb)) fr.more (fun b hb=>?_) ⟨ws,h1,hval⟩ (fun b hb=>?_) ?_ (fun id e n hs hpn=>?_)
   ·by_cases hlt:F0 b
    ·exact .inl (fr.new b hb hlt)
    ·exact .inr ⟨hlt,i'.aj.lt b (.inr hb)⟩
   ·obtain ⟨_,_,_,_,_,_,_,_,k1,k2⟩:=hbq b hb
    exact ⟨fun h=>k1 (.inl h),fun h=>k1 (.inr h),k2⟩
   ·rw [h3]
    exact jP i'.aj (iR (by simpa using hc3)) hlive
   ·obtain ⟨k1,k2,k3⟩:=Sg i' hs hpn
    refine ⟨k2,fun p hp b hb=>⟨fun h=>(k3 p hp).2 b hb (.inr h),fun hbp=>?_⟩⟩
    obtain ⟨j,hj,q,e',hjq,he',k4,Yl,_⟩:=hbq b hbp
    have hne:j ≠ id:=fun e0=>by
     subst e0
     rw [hs] at he'
     cases he'
     rcases hlive j hj with ⟨u,l,o,h,ho⟩ | ⟨u,l,o,h,ho⟩
     ·have h:s'.aj j=some (.arr u l o):=h
      rw [hs] at h
      cases h
      rw [ho rfl] at hpn
      cases hpn
     ·have h:s'.aj j=some (.deep u l o):=h
      rw [hs] at h
      cases h
      rw [ho rfl] at hpn
      cases hpn
    exact i'.aj.apart' j id e' e q p he' hs hne hjq (k1.trans hp) b (k4 ▸ Yl) ((k3 p hp).1 ▸ hb)
  ·cases hof
 | false=>
  simp only [cond_false] at hof
  have hkeep:=qA hof
  obtain ⟨Ll,Ur,fr',hGi,_⟩:=uZ (ids:=ids) i' (fun j hj t'' l'' n'' he=>by
   obtain ⟨u,l3,o3,h1,h2⟩:=hkeep j hj
   rw [h1] at he
   cases he
   exact h2 n'' rfl)
  have hrd:Rd Ll w'.heap t Ll y cs:=iI i'.aj (fun b hb=>fr'.more b hb) (fun b hb=>fr'.more b hb) (fun hm=>by cases hm) hof hcr (fun j hj q hq=>by
   obtain ⟨u,l3,o3,h1,h2⟩:=hkeep j hj
   exact hGi j hj u l3 o3 h1 q hq) (fun j hj t l n p hd=>by
   obtain ⟨u,l3,o3,h1,h2⟩:=hkeep j hj
   have hd:s'.aj j=some (.deep t l n):=hd
   rw [h1] at hd
   cases hd)
  have WV:=fr.trans fr'
  refine hR _ Ll [] WV.size WV.str (fun b hb=>WV.h b (.inl hb)) WV.more (fun b hb=>?_) ⟨cs,pV hrd,hval⟩ (fun b hb=>by simp [blks] at hb) (by simp [blks]) (fun id e n hs hpn=>?_)
  ·by_cases hlt:F0 b
   ·exact .inl (WV.new b hb hlt)
   ·exact .inr ⟨hlt,Ur.aj.lt b (.inr hb)⟩
  ·have hni:id ∉ ids:=fun hid=>by
    obtain ⟨u',l3,o3,h1,h2⟩:=hkeep id hid
    rw [hs] at h1
    cases h1
    cases o3 <;> simp [DL] at hpn
    exact h2 _ rfl
   have hs':bB s'.aj ids id=some e:=(mI hni).trans hs
   obtain ⟨k1,k2,k3⟩:=Sg Ur hs' hpn
   exact ⟨k2,fun p hp b hb=>⟨fun h=>(k3 p hp).2 b hb (.inr h),by simp [blks]⟩⟩
theorem mW:∀ {as:List Arg} {n i:Nat} {T:Ty},ku as n=some (i,T)->∃ x,n<=i/\as[i - n]? = some (.lend T x)
 | [],n,i,T,h=>by simp [ku] at h
 | a :: as,n,i,T,h=>by
  have go:ku as (n+1)=some (i,T)->∃ x,n<=i/\(a :: as)[i - n]? = some (.lend T x):=fun h=>by
   obtain ⟨x,h1,h2⟩:=mW h
   refine ⟨x,by omega, ?_⟩
   rw [show i - n=(i - (n+1))+1 by omega]
   simpa using h2
  cases a <;> first
   | exact go h
   | (simp only [ku,Option.some.injEq,Prod.mk.injEq] at h;obtain ⟨rfl,rfl⟩:=h;rename_i y;exact ⟨y,Nat.le_refl _,by simp⟩)
theorem zq:∀ {as:List Arg} {n:Nat},ku as n=none->∀ T x,Arg.lend T x ∉ as
 | [],n,_,T,x=>by simp
 | a :: as,n,h,T,x=>by
  have go:ku as (n+1)=none->(∀ T x,a ≠ .lend T x)->Arg.lend T x ∉ a :: as:=fun h ha hm=>by
   rcases List.mem_cons.1 hm with hm | hm
   ·exact ha T x hm.symm
   ·exact zq h T x hm
  cases a <;> first
   | exact go h (by intro _ _ e;cases e)
   | (simp [ku] at h)
def jc:(T:Ty)->T.den->List Nat
 | .list _,l=>[l.length]
 | .aG _,l=>[l.length]
 | .pair a b,x=>jc a x.1++jc b x.2
 | .bool,_=>[]
 | .int _,_=>[]
 | .str,_=>[]
 | .unit,_=>[]
def wC:Ty->List Nat
 | .list t | .aG t=>[t.sz]
 | .pair a b=>wC a++wC b
 | .bool | .int _ | .str | .unit=>[]
theorem vE:∀ {T:Ty} {x:T.den},(wC T).length=(jc T x).length
 | .list _,_=>rfl
 | .aG _,_=>rfl
 | .pair a b,x=>by simp [wC,jc,vE (x:=x.1),vE (x:=x.2)]
 | .bool,_=>rfl
 | .int _,_=>rfl
 | .str,_=>rfl
 | .unit,_=>rfl
theorem uw {G:Nat->Prop} {h:Array Obj}:∀ {T:Ty} {x:T.den} {cs:List Value} {ps:List (Option Pl)},aW true G h T x cs ps->(jc T x).length=ps.length
 | .list t,l,cs,ps,ho=>by
  simp only [aW,if_true] at ho
  obtain ⟨v,π,_,rfl,_⟩:=ho
  rfl
 | .aG t,l,cs,ps,ho=>by
  obtain ⟨v,π,_,rfl,_⟩:=fC.1 ho
  rfl
 | .pair a b,x,cs,ps,⟨c,d,p,q,_,hps,h1,h2⟩=>by subst hps;simp [jc,uw h1,uw h2]
 | .bool,_,_,ps,h=>by rw [h.1];rfl
 | .int _,_,_,ps,h=>by rw [h.1];rfl
 | .str,_,_,ps,h=>by rw [h.1];rfl
 | .unit,_,_,ps,h=>by rw [h.1];rfl
theorem pX {key:Nat->Nat}:∀ {T:Ty} {x:T.den} {j:Nat},(aA true key T x j).2.1.length=(jc T x).length/\(aA true key T x j).2.2=j+(jc T x).length /\
  ∀ (m:Nat) k e,(aA true key T x j).2.1[m]? = some (k,e)->k=key (j+m)/\∃ t l,(e=.arr t l .open\/e=.deep t l none)/\(jc T x)[m]? = some l.length/\(wC T)[m]? = some t.sz
 | .list t,l,j=>by
  refine ⟨rfl,rfl,fun m k e hm=>?_⟩
  cases m with
  | zero=>simp [aA] at hm;obtain ⟨rfl,rfl⟩:=hm;exact ⟨rfl,t,l,.inl rfl,rfl,rfl⟩
  | succ m=>simp [aA] at hm
 | .aG t,l,j=>by
  refine ⟨rfl,rfl,fun m k e hm=>?_⟩
  cases m with
  | zero=>simp [aA] at hm;obtain ⟨rfl,rfl⟩:=hm;exact ⟨rfl,t,l,.inr rfl,rfl,rfl⟩
  | succ m=>simp [aA] at hm
 | .pair a b,x,j=>by
  obtain ⟨h1,h2,h3⟩:=pX (key:=key) (T:=a) (x:=x.1) (j:=j)
  obtain ⟨h4,h5,h6⟩:=pX (key:=key) (T:=b) (x:=x.2) (j:=(aA true key a x.1 j).2.2)
  simp only [aA,jc,wC]
  refine ⟨by simp [h1,h4],by rw [h5,h2];simp;omega,fun m k e hm=>?_⟩
  rw [List.getElem?_append] at hm
  split at hm
  ·rename_i hlt
   obtain ⟨k1,t,l,k2,k3,k4⟩:=h3 m k e hm
   exact ⟨k1,t,l,k2,by rw [List.getElem?_append_left (by rw [<- h1];exact hlt)];exact k3,by rw [List.getElem?_append_left (by rw [vE (x:=x.1),<- h1];exact hlt)];exact k4⟩
  ·rename_i hge
   obtain ⟨k1,t,l,k2,k3,k4⟩:=h6 _ k e hm
   have hge':(aA true key a x.1 j).2.1.length<=m:=Nat.le_of_not_lt hge
   have hjm:(aA true key a x.1 j).2.2+(m - (aA true key a x.1 j).2.1.length)=j+m:=by
    rw [h2,<- h1]
    generalize (aA true key a x.1 j).2.1.length=q at *
    omega
   refine ⟨by rw [k1,hjm],t,l,k2, ?_, ?_⟩
   ·rw [List.getElem?_append_right (by rw [<- h1];exact hge'),<- h1]
    exact k3
   ·rw [List.getElem?_append_right (by rw [vE (x:=x.1),<- h1];exact hge'),vE (x:=x.1),<- h1]
    exact k4
 | .bool,_,j=>⟨rfl,rfl,fun m k e hm=>by simp [aA] at hm⟩
 | .int _,_,j=>⟨rfl,rfl,fun m k e hm=>by simp [aA] at hm⟩
 | .str,_,j=>⟨rfl,rfl,fun m k e hm=>by simp [aA] at hm⟩
 | .unit,_,j=>⟨rfl,rfl,fun m k e hm=>by simp [aA] at hm⟩
theorem sW {key:Nat->Nat}:∀ {T:Ty} {x:T.den} {j:Nat},(aA false key T x j).2.1=[]
 | .bool,_,_=>rfl
 | .int _,_,_=>rfl
 | .str,_,_=>rfl
 | .unit,_,_=>rfl
 | .list _,_,_=>rfl
 | .aG _,_,_=>rfl
 | .pair a b,x,j=>by
  simp only [aA]
  rw [sW (T:=a),sW (T:=b)]
  rfl
theorem Kt {own:Bool} {key:Nat->Nat} {T:Ty} {x:T.den} {j:Nat} (m:Nat) (k:Nat) (e:Entry) (h:(aA own key T x j).2.1[m]? = some (k,e)):k=key (j+m)/\∃ t l,(e=.arr t l .open\/e=.deep t l none):=by
 cases own with
 | true=>
  obtain ⟨h1,t,l,h2,_⟩:=pX.2.2 m k e h
  exact ⟨h1,t,l,h2⟩
 | false=>
  rw [sW] at h
  simp at h
def TM (n:Nat):Entry->Entry
 | .arr t l _=>.arr t l (.pinned n)
 | .deep t l _=>.deep t l (some n)
 | e=>e
theorem FY:∀ {es:List (Nat × Entry)} {j:Nat},(pq es j).length=es.length/\∀ (m:Nat) k e,es[m]? = some (k,e)->(pq es j)[m]? = some (k,TM (j+m) e)
 | [],j=>⟨rfl,fun m k e hm=>by simp at hm⟩
 | (k0,e0) :: es,j=>by
  obtain ⟨h1,h2⟩:=FY (es:=es) (j:=j+1)
  have h0:pq ((k0,e0) :: es) j=(k0,TM j e0) :: pq es (j+1):=by cases e0 <;> rfl
  rw [h0]
  refine ⟨by simp [h1],fun m k e hm=>?_⟩
  cases m with
  | zero=>simp at hm;obtain ⟨rfl,rfl⟩:=hm;rfl
  | succ m=>
   have:=h2 m k e (by simpa using hm)
   rw [show j+(m+1)=j+1+m by omega]
   simpa using this
theorem jv {α:Type}:∀ {es:List (Nat × α)} {k:Nat} {e:α},assoc es k=some e->∃ m:Nat,es[m]? = some (k,e)
 | [],k,e,h=>by simp [assoc] at h
 | (k0,e0) :: es,k,e,h=>by
  simp only [assoc] at h
  cases hb:Nat.beq k0 k with
  | true=>rw [hb] at h;simp at h;subst h;rw [Nat.eq_of_beq_eq_true hb];exact ⟨0,rfl⟩
  | false=>
   rw [hb] at h
   obtain ⟨m,hm⟩:=jv (by simpa using h)
   exact ⟨m+1,by simpa using hm⟩
theorem uy {α:Type}:∀ {es:List (Nat × α)} {f:Nat->Nat} (m:Nat) (k:Nat) (e:α),(∀ i j,f i=f j->i=j)->(∀ (n:Nat) k e,es[n]? = some (k,e)->k=f n)->es[m]? = some (k,e)->assoc es k=some e
 | [],f,m,k,e,_,_,h=>by simp at h
 | (k0,e0) :: es,f,m,k,e,hf,hk,h=>by
  simp only [assoc]
  cases m with
  | zero=>simp at h;obtain ⟨rfl,rfl⟩:=h;simp
  | succ m=>
   have h0:=hk 0 k0 e0 rfl
   have hm:=hk (m+1) k e h
   have hne:k0 ≠ k:=fun e=>by rw [h0,hm] at e;have:=hf _ _ e;omega
   have:Nat.beq k0 k=false:=by
    cases hb:Nat.beq k0 k with
    | false=>rfl
    | true=>exact absurd (Nat.eq_of_beq_eq_true hb) hne
   rw [this]
   exact uy (f:=fun n=>f (n+1)) m k e (fun i j h=>by have:=hf _ _ h;omega) (fun n k e hn=>hk (n+1) k e (by simpa using hn)) (by simpa using h)
theorem rF (i:Nat):∀ j k,dA i j=dA i k->j=k:=by intro j k h;unfold dA at h;omega
def Ma:Cell->Prop
 | .bool _ | .int _ _ | .str _ | .prop _ _=>True
 | _=>False
theorem Ii {M M':Mem} {c:Cell} {v:Value} (hp:Ma c) (h:bO M c v):bO M' c v:=by
 cases c <;> first | exact hp.elim | exact h
theorem rG {key:Nat->Nat}:∀ {T:Ty} {x:T.den} {j:Nat},∀ c ∈ (aA true key T x j).1,Ma c\/(∃ id,c=.ref id)\/∃ id,c=.fE id
 | .list t,l,j,c,hc=>by simp [aA] at hc;exact .inr (.inl ⟨_,hc⟩)
 | .aG t,l,j,c,hc=>by simp [aA] at hc;exact .inr (.inr ⟨_,hc⟩)
 | .pair a b,x,j,c,hc=>by
  simp only [aA] at hc
  rcases List.mem_append.1 hc with hc | hc
  ·exact rG c hc
  ·exact rG c hc
 | .bool,x,j,c,hc=>by simp [aA,cellsOf] at hc;subst hc;exact .inl trivial
 | .int k,x,j,c,hc=>by simp [aA,cellsOf] at hc;subst hc;exact .inl trivial
 | .str,x,j,c,hc=>by simp [aA,cellsOf] at hc;subst hc;exact .inl trivial
 | .unit,x,j,c,hc=>by simp [aA,cellsOf] at hc
def xC (h:Array Obj) (T:Ty) (ps:List (Option Pl)):Nat->Nat->Nat->Value:=fun n i off=>match ps[n]?,(wC T)[n]? with
 | some (some p),some sz=>(hcell h p.b (p.o+i*sz+off)).getD undef
 | _,_=>undef
theorem Jp {G:Nat->Prop} {h:Array Obj} {t:Ty} {l:List t.den} {p:Pl} (hd:iA G h t l (some p)) {i off:Nat} (hi:i<l.length) (hf:(jq t)[off]? = some true):∃ v,hcell h p.b (p.o+i*t.sz+off)=some v:=by
 obtain ⟨c,e,fz,k1,k2,k3,k4,k5,k6,k7,k8⟩:=hd
 obtain ⟨es,h1,h2⟩:=k8 i l[i] p.inn[i] (List.getElem?_eq_getElem hi) (List.getElem?_eq_getElem (by omega))
 have hlt:off<es.length:=by rw [h1.len,<- nL];exact (List.getElem?_eq_some_iff.1 hf).1
 refine ⟨es[off], ?_⟩
 unfold hcell
 rw [k1]
 exact h2 off _ (List.getElem?_eq_getElem hlt)
theorem vF:∀ {ps:List (Option Pl)} {m n:Nat} {p q:Pl},(blks ps).Nodup->ps[m]? = some (some p)->ps[n]? = some (some q)->m ≠ n->∀ b ∈ p.bs,b ∉ q.bs
 | [],m,n,p,q,_,h,_,_=>by simp at h
 | π :: ps,m,n,p,q,hnd,h1,h2,hmn=>by
  rw [oJ] at hnd
  obtain ⟨_,hnd',DW⟩:=List.nodup_append.1 hnd
  have mem:∀ {n:Nat} {q:Pl},ps[n]? = some (some q)->∀ b ∈ q.bs,b ∈ blks ps:=fun hn b hb=>List.mem_flatMap.2 ⟨_,List.mem_filterMap.2 ⟨_,List.mem_of_getElem? hn,rfl⟩,hb⟩
  cases m with
  | zero=>
   cases n with
   | zero=>exact absurd rfl hmn
   | succ n=>
    simp at h1
    subst h1
    intro b hb hb'
    exact DW b (by simpa using hb) b (mem (by simpa using h2) b hb') rfl
  | succ m=>
   cases n with
   | zero=>
    simp at h2
    subst h2
    intro b hb hb'
    exact DW b (by simpa using hb') b (mem (by simpa using h1) b hb) rfl
   | succ n=>exact vF hnd' (by simpa using h1) (by simpa using h2) (by omega)
theorem Mc {A G:Nat->Prop} {h:Array Obj} (sV:∀ b,G b->A b) {i:Nat} {T:Ty} {x:T.den} {v:Value} {cs:List Value} {ps:List (Option Pl)} {mono:Bool} (hl:Kq A G h T x v cs ps) :
  ∃ pl:Nat->Option Pl,(let F0:jo:=⟨A,fun m=>(ps[m]?).getD none,fun m=>((jc T x)[m]?).getD 0,xC h T ps,mono,fun _=>none⟩
   eY ⟨A,G,h,assoc (dz i (.lend T x)).2,pl,F0.pin,F0.len,F0.inn⟩ (dz i (.lend T x)).1 v /\
   (∀ id e,assoc (dz i (.lend T x)).2 id=some e->∃ n,DL e=some n/\pl id=F0.pin n/\Pg F0 G h (pl id) n e/\∀ p,pl id=some p->(∀ t l o,e=.arr t l o->p.inn=[])/\∀ b ∈ p.bs,¬ A b/\b<h.size) /\
   ∀ y z ey ez p q,assoc (dz i (.lend T x)).2 y=some ey->assoc (dz i (.lend T x)).2 z=some ez->y ≠ z->pl y=some p->pl z=some q->∀ b ∈ ey.bs p,b ∉ ez.bs q):=by
 obtain ⟨how,hval,VO,hnd⟩:=hl
 obtain ⟨a1,_,a3⟩:=pX (key:=dA i) (T:=T) (x:=x) (j:=0)
 obtain ⟨⟨r1,r2⟩,k1⟩:=kI (key:=dA i) 0 how
 simp only [dz]
 generalize hra:aA true (dA i) T x 0=ra at *
 obtain ⟨ca,ea,ja⟩:=ra
 simp only at a1 a3 r1 r2 k1 ⊢
 obtain ⟨b1,b2⟩:=FY (es:=ea) (j:=0)
 have hkey:∀ (n:Nat) k e,ea[n]? = some (k,e)->k=dA i n:=fun n k e hn=>by rw [(a3 n k e hn).1];congr 1;omega
 have hkey':∀ (n:Nat) k e,(pq ea 0)[n]? = some (k,e)->k=dA i n/\∃ e0,ea[n]? = some (k,e0)/\e=TM n e0:=by
  intro n k e hn
  have hlt:n<ea.length:=by rw [<- b1];exact (List.getElem?_eq_some_iff.1 hn).1
  have hen:ea[n]? = some (ea[n].1,ea[n].2):=List.getElem?_eq_getElem hlt
  have:=b2 n _ _ hen
  rw [hn] at this
  simp only [Option.some.injEq,Prod.mk.injEq,Nat.zero_add] at this
  obtain ⟨rfl,rfl⟩:=this
  exact ⟨hkey n _ _ hen,_,hen,rfl⟩
 let pl:Nat->Option Pl:=fun k=>(ps[k / 4 - 64*i]?).getD none
 have hpl:∀ n,pl (dA i n)=(ps[n]?).getD none:=fun n=>by
  show (ps[dA i n / 4 - 64*i]?).getD none=_
  have:dA i n / 4 - 64*i=n:=by unfold dA;omega
  rw [this]
 refine ⟨pl, ?_,fun id e he=>?_,fun y z ey ez p q hy hz hyz hp hq=>?_⟩
 ·have c0:ay ⟨A,G,h,assoc ea,pl,fun m=>(ps[m]?).getD none,fun m=>((jc T x)[m]?).getD 0,xC h T ps⟩ ca cs:=k1 _ rfl rfl (fun m k e π hm hπ=>by
   refine ⟨uy (f:=dA i) m k e (rF i) hkey hm, ?_⟩
   show pl k=π
   rw [hkey m k e hm,hpl,hπ]
   rfl)
  refine je ⟨c0.1,fun m c u hc hu=>⟨?_,(c0.2 m c u hc hu).2⟩⟩ hval
  have hcr:=(c0.2 m c u hc hu).1
  have hst:∀ id e,assoc ea id=some e->∃ n,assoc (pq ea 0) id=some (TM n e):=by
   intro id e he
   obtain ⟨m,hm⟩:=jv he
   have:=b2 m id e hm
   exact ⟨0+m,uy (f:=dA i) m id _ (rF i) (fun n k e hn=>(hkey' n k e hn).1) this⟩
  have WW:=rG (key:=dA i) (T:=T) (x:=x) (j:=0)
  rw [hra] at WW
  rcases WW c (List.mem_of_getElem? hc) with hp | ⟨id,rfl⟩ | ⟨id,rfl⟩
  ·exact Ii hp hcr
  ·obtain ⟨t,l,o,h1,h2⟩:=hcr
   obtain ⟨n,h3⟩:=hst id _ h1
   exact ⟨t,l,_,h3,h2⟩
  ·obtain ⟨t,l,o,h1,h2⟩:=hcr
   obtain ⟨n,h3⟩:=hst id _ h1
   exact ⟨t,l,_,h3,h2⟩
 ·obtain ⟨m,hm⟩:=jv he
  obtain ⟨hk,e0,h1,rfl⟩:=hkey' m id e hm
  have hlt:m<ps.length:=by rw [<- r1];exact (List.getElem?_eq_some_iff.1 h1).1
  have FZ:pl id=ps[m]:=by rw [hk,hpl,List.getElem?_eq_getElem hlt];rfl
  obtain ⟨_,t2,l2,he2,hl2,hz2⟩:=a3 m id _ h1
  have hin:∀ p,pl id=some p->∀ b ∈ p.bs,¬ A b/\b<h.size:=fun p hp b hb=>VO b (List.mem_flatMap.2 ⟨p,List.mem_filterMap.2 ⟨_,List.getElem_mem hlt,by rw [<- FZ,hp];rfl⟩,hb⟩)
  have hlen:l2.length=((jc T x)[m]?).getD 0:=by rw [hl2];rfl
  rcases r2 m id _ ps[m] h1 (List.getElem?_eq_getElem hlt) with ⟨t',l',he',ha,hfl⟩ | ⟨t',l',he',ha⟩
  ·subst he'
   rcases he2 with he2 | he2 <;> cases he2
   refine ⟨m,rfl,by rw [hk];exact hpl m,⟨by rw [FZ];exact ha,hlen⟩,fun p hp=>⟨fun t l o _=>hfl p (by rw [<- FZ];exact hp),hin p hp⟩⟩
  ·subst he'
   rcases he2 with he2 | he2 <;> cases he2
   refine ⟨m,rfl,by rw [hk];exact hpl m,⟨by rw [FZ];exact ha,hlen,fun p hp i' off hi hf=>?_⟩,fun p hp=>⟨fun t l o e=>(by cases e),hin p hp⟩⟩
   rw [FZ] at hp
   rw [hp] at ha
   obtain ⟨v',hv'⟩:=Jp ha hi hf
   rw [hv']
   show _=some (xC h T ps m i' off)
   unfold xC
   rw [List.getElem?_eq_getElem hlt,hp,hz2]
   simp [hv']
 ·obtain ⟨m,hm⟩:=jv hy
  obtain ⟨n,hn⟩:=jv hz
  obtain ⟨hk,e1,h1,rfl⟩:=hkey' m y ey hm
  obtain ⟨hk',e2,h1',rfl⟩:=hkey' n z ez hn
  have hlt:m<ps.length:=by rw [<- r1];exact (List.getElem?_eq_some_iff.1 h1).1
  have hlt':n<ps.length:=by rw [<- r1];exact (List.getElem?_eq_some_iff.1 h1').1
  have hmn:m ≠ n:=fun e=>hyz (by rw [hk,hk',e])
  rw [hk,hpl,List.getElem?_eq_getElem hlt] at hp
  rw [hk',hpl,List.getElem?_eq_getElem hlt'] at hq
  have hp:ps[m]=some p:=hp
  have hq:ps[n]=some q:=hq
  have hsub:∀ (e:Entry) (p:Pl) b,b ∈ e.bs p->b ∈ p.bs:=by
   intro e p b hb
   cases e with
   | deep _ _ _=>exact hb
   | box _ _=>simp only [Entry.bs,List.mem_singleton] at hb;subst hb;exact p.gI
   | arr _ _ _=>simp only [Entry.bs,List.mem_singleton] at hb;subst hb;exact p.gI
  exact fun b hb hb'=>vF hnd (by rw [List.getElem?_eq_getElem hlt,hp]) (by rw [List.getElem?_eq_getElem hlt',hq]) hmn b (hsub _ _ _ hb) (hsub _ _ _ hb')
theorem Md {A G:Nat->Prop} {h:Array Obj} {i:Nat} {T:Ty} {x:T.den} {v:Value} {cs:List Value} {ps:List (Option Pl)} (hl:Kq A G h T x v cs ps) :
  ∃ pl:Nat->Option Pl,
   eY ⟨A,G,h,assoc (dz i (.give T x)).2,pl,fun _=>none,fun _=>0,fun _ _ _=>undef⟩ (dz i (.give T x)).1 v /\
   (∀ id e,assoc (dz i (.give T x)).2 id=some e->((∃ t l,e=.arr t l .open/\lS G h t l (pl id)/\uX (pl id))\/∃ t l,e=.deep t l none/\iA G h t l (pl id))/\∀ p,pl id=some p->∀ b ∈ p.bs,¬ A b/\b<h.size) /\
   ∀ y z ey ez p q,assoc (dz i (.give T x)).2 y=some ey->assoc (dz i (.give T x)).2 z=some ez->y ≠ z->pl y=some p->pl z=some q->∀ b ∈ ey.bs p,b ∉ ez.bs q:=by
 obtain ⟨how,hval,VO,hnd⟩:=hl
 obtain ⟨a1,_,a3⟩:=pX (key:=dA i) (T:=T) (x:=x) (j:=0)
 obtain ⟨⟨r1,r2⟩,k1⟩:=kI (key:=dA i) 0 how
 simp only [dz]
 generalize hra:aA true (dA i) T x 0=ra at *
 obtain ⟨ca,ea,ja⟩:=ra
 simp only at a1 a3 r1 r2 k1 ⊢
 have hkey:∀ (n:Nat) k e,ea[n]? = some (k,e)->k=dA i n:=fun n k e hn=>by rw [(a3 n k e hn).1];congr 1;omega
 let pl:Nat->Option Pl:=fun k=>(ps[k / 4 - 64*i]?).getD none
 have hpl:∀ n,pl (dA i n)=(ps[n]?).getD none:=fun n=>by
  show (ps[dA i n / 4 - 64*i]?).getD none=_
  have:dA i n / 4 - 64*i=n:=by unfold dA;omega
  rw [this]
 refine ⟨pl, ?_,fun id e he=>?_,fun y z ey ez p q hy hz hyz hp hq=>?_⟩
 ·have c0:ay ⟨A,G,h,assoc ea,pl,fun _=>none,fun _=>0,fun _ _ _=>undef⟩ ca cs:=k1 _ rfl rfl (fun m k e π hm hπ=>by
   refine ⟨uy (f:=dA i) m k e (rF i) hkey hm, ?_⟩
   show pl k=π
   rw [hkey m k e hm,hpl,hπ]
   rfl)
  exact je c0 hval
 ·obtain ⟨m,hm⟩:=jv he
  have hlt:m<ps.length:=by rw [<- r1];exact (List.getElem?_eq_some_iff.1 hm).1
  have FZ:pl id=ps[m]:=by rw [hkey m id e hm,hpl,List.getElem?_eq_getElem hlt];rfl
  refine ⟨?_,fun p hp b hb=>VO b (List.mem_flatMap.2 ⟨p,List.mem_filterMap.2 ⟨_,List.getElem_mem hlt,by rw [<- FZ,hp];rfl⟩,hb⟩)⟩
  rw [FZ]
  exact r2 m id e ps[m] hm (List.getElem?_eq_getElem hlt)
 ·obtain ⟨m,hm⟩:=jv hy
  obtain ⟨n,hn⟩:=jv hz
  have hlt:m<ps.length:=by rw [<- r1];exact (List.getElem?_eq_some_iff.1 hm).1
  have hlt':n<ps.length:=by rw [<- r1];exact (List.getElem?_eq_some_iff.1 hn).1
  have hmn:m ≠ n:=fun e=>hyz (by rw [hkey m y ey hm,hkey n z ez hn,e])
  rw [hkey m y ey hm,hpl,List.getElem?_eq_getElem hlt] at hp
  rw [hkey n z ez hn,hpl,List.getElem?_eq_getElem hlt'] at hq
  have hp:ps[m]=some p:=hp
  have hq:ps[n]=some q:=hq
  have hsub:∀ (e:Entry) (p:Pl) b,b ∈ e.bs p->b ∈ p.bs:=by
   intro e p b hb
   cases e with
   | deep _ _ _=>exact hb
   | box _ _=>simp only [Entry.bs,List.mem_singleton] at hb;subst hb;exact p.gI
   | arr _ _ _=>simp only [Entry.bs,List.mem_singleton] at hb;subst hb;exact p.gI
  exact fun b hb hb'=>vF hnd (by rw [List.getElem?_eq_getElem hlt,hp]) (by rw [List.getElem?_eq_getElem hlt',hq]) hmn b (hsub _ _ _ hb) (hsub _ _ _ hb')
theorem xD {A G:Nat->Prop} {h:Array Obj} (sV:∀ b,G b->A b):∀ {as:List Arg} {us:List Value} (n:Nat),iJ A G h as us->FQ as->(bW n as).1.length=us.length/\∃ pl:Nat->Option Pl,
  (∀ (j:Nat) s u,(bW n as).1[j]? = some s->us[j]? = some u->eY ⟨A,G,h,assoc (bW n as).2,pl,fun _=>none,fun _=>0,fun _ _ _=>undef⟩ s u) /\
  (∀ id e,assoc (bW n as).2 id=some e->((∃ t l,e=.arr t l .open/\lS G h t l (pl id)/\uX (pl id))\/∃ t l,e=.deep t l none/\iA G h t l (pl id))/\∀ p,pl id=some p->∀ b ∈ p.bs,¬ A b/\b<h.size) /\
  (∀ x y ex ey p q,assoc (bW n as).2 x=some ex->assoc (bW n as).2 y=some ey->x ≠ y->pl x=some p->pl y=some q->∀ b ∈ ex.bs p,b ∉ ey.bs q)
 | [],us,n,hr,_=>by
  have:us=[]:=List.eq_nil_of_length_eq_zero hr.1
  subst this
  exact ⟨rfl,fun _=>none,fun j s u hj=>by simp [bW] at hj,fun id e he=>by simp [bW,assoc] at he,fun x y ex ey p q hx=>by simp [bW,assoc] at hx⟩
 | a :: as,us,n,hr,hone=>by
  cases us with
  | nil=>have:=hr.1;simp at this
  | cons u us=>
   have hr':iJ A G h as us:=⟨by have:=hr.1;simpa using this,fun i a v hi hv=>hr.2 (i+1) a v (by simpa using hi) (by simpa using hv)⟩
   have hone':FQ as:=fun i j b c hi hj hb hc=>by have:=hone (i+1) (j+1) b c (by simpa using hi) (by simpa using hj) hb hc;omega
   have hgo:∀ {aj:Nat->Option Entry} {pl:Nat->Option Pl},Goes (fun _=>False) (kT A G h (fun _ _ _=>undef)) ⟨A,G,h,aj,pl,fun _=>none,fun _=>0,fun _ _ _=>undef⟩:=⟨fun b hb=>hb,fun b hb=>hb,sV,fun b hb=>rfl,fun id e _ he=>(by simp [kT] at he),rfl⟩
   cases zo:a.uq with
   | true=>
    have hno:∀ b ∈ as,b.uq=false:=by
     intro b hb
     obtain ⟨j,hj⟩:=List.getElem?_of_mem hb
     cases hbi:b.uq with
     | false=>rfl
     | true=>have:=hone 0 (j+1) a b rfl (by simpa using hj) zo hbi;omega
    obtain ⟨k1,k2,k3⟩:=sG (inn:=fun _ _ _=>undef) (n+1) hr' hno
    cases a with
    | give T x=>
     obtain ⟨cs,ps,h1,h2,h3,h4⟩:=hr.2 0 _ u rfl rfl
     obtain ⟨pl,g1,g2,g3⟩:=Md (i:=n) ⟨h1,h2,h3,h4⟩
     have Ym:(bW n (.give T x :: as))=((dz n (.give T x)).1 :: (bW (n+1) as).1,(dz n (.give T x)).2++(bW (n+1) as).2):=rfl
     rw [Ym,k1]
     simp only [List.append_nil]
     refine ⟨by simp [k2],pl,fun j s' u' hj hu=>?_,g2,g3⟩
     cases j with
     | zero=>simp at hj hu;subst hj hu;exact g1
     | succ j=>exact hgo.slot (fun _ _ h=>h) (k3 j s' u' (by simpa using hj) (by simpa using hu))
    | _=>simp [Arg.uq] at zo
   | false=>
    obtain ⟨k1,pl,k2,k3,k4⟩:=xD sV (n+1) hr' hone'
    have hra:iJ A G h [a] [u]:=⟨rfl,fun i b v hi hv=>by
     cases i with
     | zero=>simp at hi hv;subst hi hv;exact hr.2 0 _ _ rfl rfl
     | succ i=>simp at hi⟩
    obtain ⟨m1,m2,m3⟩:=sG (inn:=fun _ _ _=>undef) n hra (fun b hb=>by simp at hb;rw [hb];exact zo)
    simp only [bW] at m1 m2 m3 ⊢
    generalize hp0:dz n a=p0 at *
    obtain ⟨s0,e0⟩:=p0
    generalize hps:bW (n+1) as=ps at *
    obtain ⟨vs,es⟩:=ps
    simp only [List.append_nil] at m1 m2 m3 k1 k2 k3 k4 ⊢
    subst m1
    simp only [List.nil_append]
    refine ⟨by simp [k1],pl,fun j s' u' hj hu=>?_,k3,k4⟩
    cases j with
    | zero=>simp at hj hu;subst hj hu;exact hgo.slot (fun _ _ h=>h) (m3 0 _ _ rfl rfl)
    | succ j=>exact k2 j s' u' (by simpa using hj) (by simpa using hu)
theorem xE {σ:Nat->Option Entry} {a b:Ty} {cs:List Cell} {j:Nat}:fQ σ (.pair a b) cs j=match fQ σ a cs j with
  | some (x,r,j)=>(match fQ σ b r j with
   | some (y,r,j)=>some ((x,y),r,j)
   | none=>none)
  | none=>none:=by cases cs <;> rfl
theorem xG {σ:Nat->Option Entry} {G G':Nat->Prop} {h h':Array Obj} {F0:jo} (hσ:∀ id e n,σ id=some e->DL e=some n->Pg F0 G' h' (F0.pin n) n e) :
  ∀ {T:Ty} {x:T.den} {z:T.rows.den} {cs r:List Cell} {ws:List Value} {ps:List (Option Pl)} {j j':Nat},fQ σ T cs j=some (z,r,j')->aW true G h T x ws ps->(∀ (m:Nat) π,ps[m]? = some π->F0.pin (j+m)=π)->(∀ (m:Nat) n,(jc T x)[m]? = some n->F0.len (j+m)=n)->
   (∀ (m:Nat) p sz,ps[m]? = some (some p)->(wC T)[m]? = some sz->∀ i off,F0.inn (j+m) i off=(hcell h p.b (p.o+i*sz+off)).getD undef)->
   rD G' h h' T x z ps/\j'=j+ps.length
 | .list t,l,z,cs,r,ws,ps,j,j',hb,ho,hp,hn,hi=>by
  simp only [aW,if_true] at ho
  obtain ⟨v,π,_,rfl,_⟩:=ho
  cases cs with
  | nil=>simp [fQ] at hb
  | cons c cs=>
   cases c <;> simp only [fQ] at hb <;> try (cases hb;done)
   split at hb
   ·rename_i u l' n hs
    split at hb
    ·rename_i Vn
     subst Vn
     obtain ⟨y,hy,he⟩:=Option.map_eq_some_iff.1 hb
     simp only [Prod.mk.injEq] at he
     obtain ⟨rfl,rfl,rfl⟩:=he
     obtain ⟨rfl,rfl⟩:=bG hy
     obtain ⟨h1,h2⟩:=hσ _ _ _ hs rfl
     have e1:=hp 0 π rfl
     have e2:=hn 0 l.length rfl
     rw [Nat.add_zero] at e1 e2
     exact ⟨⟨π,rfl,by rw [<- e1];exact h1,h2.trans e2⟩,rfl⟩
    ·cases hb
   ·cases hb
 | .aG t,l,z,cs,r,ws,ps,j,j',hb,ho,hp,hn,hi=>by
  obtain ⟨v,π,_,rfl,_,hd⟩:=fC.1 ho
  cases cs with
  | nil=>simp [fQ] at hb
  | cons c cs=>
   cases c <;> simp only [fQ] at hb <;> try (cases hb;done)
   split at hb
   ·rename_i u l' n hs
    split at hb
    ·rename_i Vn
     subst Vn
     obtain ⟨y,hy,he⟩:=Option.map_eq_some_iff.1 hb
     simp only [Prod.mk.injEq] at he
     obtain ⟨rfl,rfl,rfl⟩:=he
     obtain ⟨rfl,rfl⟩:=bG hy
     obtain ⟨h1,h2,h3⟩:=hσ _ _ _ hs rfl
     have e1:=hp 0 π rfl
     have e2:=hn 0 l.length rfl
     rw [Nat.add_zero] at e1 e2
     refine ⟨⟨π,rfl,by rw [<- e1];exact h1,h2.trans e2,fun p hπ i off hil hf=>?_⟩,rfl⟩
     subst hπ
     rw [h3 p e1 i off (by rw [h2,e2];exact hil) hf]
     have:=hi 0 p _ rfl rfl i off
     rw [Nat.add_zero] at this
     rw [this]
     obtain ⟨v',hv'⟩:=Jp hd hil hf
     rw [hv']
     rfl
    ·cases hb
   ·cases hb
 | .pair a b,x,z,cs,r,ws,ps,j,j',hb,ho,hp,hn,hi=>by
  obtain ⟨c,d,p,q,_,rfl,h1,h2⟩:=ho
  rw [xE] at hb
  cases e1:fQ σ a cs j with
  | none=>simp [e1] at hb
  | some y1=>
   obtain ⟨z1,r1,j1⟩:=y1
   simp only [e1] at hb
   cases e2:fQ σ b r1 j1 with
   | none=>simp [e2] at hb
   | some y2=>
    obtain ⟨z2,r2,j2⟩:=y2
    simp [e2] at hb
    obtain ⟨rfl,rfl,rfl⟩:=hb
    obtain ⟨k1,rfl⟩:=xG hσ e1 h1 (fun m π hm=>hp m π (by rw [List.getElem?_append_left (List.getElem?_eq_some_iff.1 hm).1];exact hm)) (fun m n hm=>hn m n (by
     show (jc a x.1++jc b x.2)[m]? = some n
     rw [List.getElem?_append_left (List.getElem?_eq_some_iff.1 hm).1];exact hm)) (fun m pp sz hm hz=>hi m pp sz (by rw [List.getElem?_append_left (List.getElem?_eq_some_iff.1 hm).1];exact hm) (by
     show (wC a++wC b)[m]? = some sz
     rw [List.getElem?_append_left (List.getElem?_eq_some_iff.1 hz).1];exact hz))
    obtain ⟨k2,rfl⟩:=xG hσ e2 h2 (fun m π hm=>by
     rw [Nat.add_assoc]
     exact hp _ π (by rw [List.getElem?_append_right (by omega),Nat.add_sub_cancel_left];exact hm)) (fun m n hm=>by
     rw [Nat.add_assoc]
     refine hn _ n ?_
     show (jc a x.1++jc b x.2)[p.length+m]? = some n
     rw [List.getElem?_append_right (by rw [uw h1];omega),uw h1,Nat.add_sub_cancel_left];exact hm) (fun m pp sz hm hz=>by
     rw [Nat.add_assoc]
     refine hi _ pp sz (by rw [List.getElem?_append_right (by omega),Nat.add_sub_cancel_left];exact hm) ?_
     show (wC a++wC b)[p.length+m]? = some sz
     rw [List.getElem?_append_right (by rw [vE (x:=x.1),uw h1];omega),vE (x:=x.1),uw h1,Nat.add_sub_cancel_left];exact hz)
    exact ⟨⟨p,q,rfl,k1,k2⟩,by simp;omega⟩
 | .bool,x,z,cs,r,ws,ps,j,j',hb,ho,hp,hn,hi=>by
  obtain ⟨rfl,_⟩:=ho
  cases cs with
  | nil=>simp [fQ] at hb
  | cons c cs=>
   have hb:some ((),cs,j)=some (z,r,j'):=by cases c <;> exact hb
   cases hb;exact ⟨rfl,rfl⟩
 | .int k,x,z,cs,r,ws,ps,j,j',hb,ho,hp,hn,hi=>by
  obtain ⟨rfl,_⟩:=ho
  cases cs with
  | nil=>simp [fQ] at hb
  | cons c cs=>
   have hb:some ((),cs,j)=some (z,r,j'):=by cases c <;> exact hb
   cases hb;exact ⟨rfl,rfl⟩
 | .str,x,z,cs,r,ws,ps,j,j',hb,ho,hp,hn,hi=>by
  obtain ⟨rfl,_⟩:=ho
  cases cs with
  | nil=>simp [fQ] at hb
  | cons c cs=>
   have hb:some ((),cs,j)=some (z,r,j'):=by cases c <;> exact hb
   cases hb;exact ⟨rfl,rfl⟩
 | .unit,x,z,cs,r,ws,ps,j,j',hb,ho,hp,hn,hi=>by
  obtain ⟨rfl,_⟩:=ho
  have hb:some ((),cs,j)=some (z,r,j'):=by cases cs with
   | nil=>exact hb
   | cons c cs=>cases c <;> exact hb
  cases hb;exact ⟨rfl,rfl⟩
theorem zR {σ:Nat->Option Entry} {G:Nat->Prop} {h:Array Obj}:∀ {T:Ty} {x:T.den} {z:T.rows.den} {cs r:List Cell} {ws:List Value} {ps:List (Option Pl)} {j j':Nat},fQ σ T cs j=some (z,r,j')->aW true G h T x ws ps->j'=j+ps.length
 | .list t,l,z,cs,r,ws,ps,j,j',hb,ho=>by
  simp only [aW,if_true] at ho
  obtain ⟨v,π,_,rfl,_⟩:=ho
  cases cs with
  | nil=>simp [fQ] at hb
  | cons c cs=>
   cases c <;> simp only [fQ] at hb <;> try (cases hb;done)
   split at hb
   ·split at hb
    ·obtain ⟨y,hy,he⟩:=Option.map_eq_some_iff.1 hb
     simp only [Prod.mk.injEq] at he
     exact he.2.2.symm
    ·cases hb
   ·cases hb
 | .aG t,l,z,cs,r,ws,ps,j,j',hb,ho=>by
  obtain ⟨v,π,_,rfl,_⟩:=fC.1 ho
  cases cs with
  | nil=>simp [fQ] at hb
  | cons c cs=>
   cases c <;> simp only [fQ] at hb <;> try (cases hb;done)
   split at hb
   ·split at hb
    ·obtain ⟨y,hy,he⟩:=Option.map_eq_some_iff.1 hb
     simp only [Prod.mk.injEq] at he
     exact he.2.2.symm
    ·cases hb
   ·cases hb
 | .pair a b,x,z,cs,r,ws,ps,j,j',hb,ho=>by
  obtain ⟨c,d,p,q,_,rfl,h1,h2⟩:=ho
  rw [xE] at hb
  cases e1:fQ σ a cs j with
  | none=>simp [e1] at hb
  | some y1=>
   obtain ⟨z1,r1,j1⟩:=y1
   simp only [e1] at hb
   cases e2:fQ σ b r1 j1 with
   | none=>simp [e2] at hb
   | some y2=>
    obtain ⟨z2,r2,j2⟩:=y2
    simp [e2] at hb
    obtain ⟨rfl,rfl,rfl⟩:=hb
    rw [zR e2 h2,zR e1 h1]
    simp
    omega
 | .bool,x,z,cs,r,ws,ps,j,j',hb,ho=>by
  obtain ⟨rfl,_⟩:=ho
  cases cs with
  | nil=>simp [fQ] at hb
  | cons c cs=>
   have hb:some ((),cs,j)=some (z,r,j'):=by cases c <;> exact hb
   cases hb;rfl
 | .int k,x,z,cs,r,ws,ps,j,j',hb,ho=>by
  obtain ⟨rfl,_⟩:=ho
  cases cs with
  | nil=>simp [fQ] at hb
  | cons c cs=>
   have hb:some ((),cs,j)=some (z,r,j'):=by cases c <;> exact hb
   cases hb;rfl
 | .str,x,z,cs,r,ws,ps,j,j',hb,ho=>by
  obtain ⟨rfl,_⟩:=ho
  cases cs with
  | nil=>simp [fQ] at hb
  | cons c cs=>
   have hb:some ((),cs,j)=some (z,r,j'):=by cases c <;> exact hb
   cases hb;rfl
 | .unit,x,z,cs,r,ws,ps,j,j',hb,ho=>by
  obtain ⟨rfl,_⟩:=ho
  have hb:some ((),cs,j)=some (z,r,j'):=by cases cs with
   | nil=>exact hb
   | cons c cs=>cases c <;> exact hb
  cases hb;rfl
theorem xH {σ:Nat->Option Entry} {G:Nat->Prop} {h:Array Obj}:∀ {T:Ty} {x:T.den} {z:T.rows.den} {cs r:List Cell} {ws:List Value} {ps:List (Option Pl)} {j j':Nat},fQ σ T cs j=some (z,r,j')->aW true G h T x ws ps->
  ∀ m,m<ps.length->∃ id e,σ id=some e/\DL e=some (j+m)
 | .list t,l,z,cs,r,ws,ps,j,j',hb,ho,m,hm=>by
  simp only [aW,if_true] at ho
  obtain ⟨v,π,_,rfl,_⟩:=ho
  have hm:m=0:=by simpa using hm
  subst hm
  cases cs with
  | nil=>simp [fQ] at hb
  | cons c cs=>
   cases c <;> simp only [fQ] at hb <;> try (cases hb;done)
   split at hb
   ·rename_i u l' n hs
    split at hb
    ·rename_i Vn
     subst Vn
     exact ⟨_,_,hs,rfl⟩
    ·cases hb
   ·cases hb
 | .aG t,l,z,cs,r,ws,ps,j,j',hb,ho,m,hm=>by
  obtain ⟨v,π,_,rfl,_⟩:=fC.1 ho
  have hm:m=0:=by simpa using hm
  subst hm
  cases cs with
  | nil=>simp [fQ] at hb
  | cons c cs=>
   cases c <;> simp only [fQ] at hb <;> try (cases hb;done)
   split at hb
   ·rename_i u l' n hs
    split at hb
    ·rename_i Vn
     subst Vn
     exact ⟨_,_,hs,rfl⟩
    ·cases hb
   ·cases hb
 | .pair a b,x,z,cs,r,ws,ps,j,j',hb,ho,m,hm=>by
  obtain ⟨c,d,p,q,_,rfl,h1,h2⟩:=ho
  rw [xE] at hb
  cases e1:fQ σ a cs j with
  | none=>simp [e1] at hb
  | some y1=>
   obtain ⟨z1,r1,j1⟩:=y1
   simp only [e1] at hb
   cases e2:fQ σ b r1 j1 with
   | none=>simp [e2] at hb
   | some y2=>
    obtain ⟨z2,r2,j2⟩:=y2
    by_cases hlt:m<p.length
    ·exact xH e1 h1 m hlt
    ·have hj1:j1=j+p.length:=zR e1 h1
     have hm':m<p.length+q.length:=by rw [<- List.length_append];exact hm
     obtain ⟨id,e,hs,hpn⟩:=xH e2 h2 (m - p.length) (by omega)
     rw [show j1+(m - p.length)=j+m by omega] at hpn
     exact ⟨id,e,hs,hpn⟩
 | .bool,x,z,cs,r,ws,ps,j,j',hb,ho,m,hm=>by obtain ⟨rfl,_⟩:=ho;simp at hm
 | .int k,x,z,cs,r,ws,ps,j,j',hb,ho,m,hm=>by obtain ⟨rfl,_⟩:=ho;simp at hm
 | .str,x,z,cs,r,ws,ps,j,j',hb,ho,m,hm=>by obtain ⟨rfl,_⟩:=ho;simp at hm
 | .unit,x,z,cs,r,ws,ps,j,j',hb,ho,m,hm=>by obtain ⟨rfl,_⟩:=ho;simp at hm
theorem sZ {A G:Nat->Prop} {h:Array Obj} (sV:∀ b,G b->A b) {i:Nat} {b0:Arg} {pl:Nat->Option Pl} {F0:jo} {v0:Value}
  (hs0:eY ⟨A,G,h,assoc (dz i b0).2,pl,F0.pin,F0.len,F0.inn⟩ (dz i b0).1 v0):∀ {as:List Arg} {us:List Value} {n:Nat},us.length=as.length->(∀ j a v,n+j ≠ i->as[j]? = some a->us[j]? = some v->a.uq=false/\ArgRel A G h a v)->
   (∀ j,n+j=i->j<as.length->as[j]? = some b0/\us[j]? = some v0)->
   (bW n as).1.length=us.length/\(bW n as).2=(if n<=i/\i<n+as.length then (dz i b0).2 else []) /\
   ∀ (j:Nat) s u,(bW n as).1[j]? = some s->us[j]? = some u->eY ⟨A,G,h,assoc (dz i b0).2,pl,F0.pin,F0.len,F0.inn⟩ s u
 | [],us,n,hl,_,_=>by
  have:us=[]:=List.eq_nil_of_length_eq_zero hl
  subst this
  refine ⟨rfl, ?_,fun j s u hj=>by simp [bW] at hj⟩
  rw [if_neg (by simp <;> omega)]
  first | done | rfl
 | a :: as,us,n,hl,hr,hi=>by
  cases us with
  | nil=>simp at hl
  | cons u us=>
   obtain ⟨k1,k2,k3⟩:=sZ sV hs0 (as:=as) (us:=us) (n:=n+1) (by simpa using hl) (fun j a v hne hj hv=>hr (j+1) a v (by omega) (by simpa using hj) (by simpa using hv)) (fun j hj hlt=>by simpa using hi (j+1) (by omega) (by simpa using hlt))
   have hgo:Goes (fun _=>False) (kT A G h F0.inn) ⟨A,G,h,assoc (dz i b0).2,pl,F0.pin,F0.len,F0.inn⟩:=⟨fun b hb=>hb,fun b hb=>hb,sV,fun b hb=>rfl,fun id e _ he=>(by simp [kT] at he),rfl⟩
   have hone:∃ s0 e0,dz n a=(s0,e0)/\e0=(if n=i then (dz i b0).2 else [])/\eY ⟨A,G,h,assoc (dz i b0).2,pl,F0.pin,F0.len,F0.inn⟩ s0 u:=by
    by_cases hni:n=i
    ·subst hni
     obtain ⟨h1,h2⟩:=hi 0 rfl (by simp)
     simp at h1 h2
     subst h1 h2
     exact ⟨_,_,rfl,by rw [if_pos rfl];rfl,hs0⟩
    ·obtain ⟨h1,h2⟩:=hr 0 a u (by omega) rfl rfl
     have hra:iJ A G h [a] [u]:=⟨rfl,fun i b v hi hv=>by
      cases i with
      | zero=>simp at hi hv;subst hi hv;exact h2
      | succ i=>simp at hi⟩
     obtain ⟨m1,m2,m3⟩:=sG (inn:=F0.inn) n hra (fun b hb=>by simp at hb;rw [hb];exact h1)
     simp only [bW] at m1 m2 m3
     generalize hp0:dz n a=p0 at *
     obtain ⟨s0,e0⟩:=p0
     simp only [List.append_nil] at m1 m2 m3
     subst m1
     exact ⟨s0,[],rfl,by rw [if_neg hni],hgo.slot (fun _ _ h=>h) (m3 0 _ _ rfl rfl)⟩
   obtain ⟨s0,e0,hp0,he0,hs1⟩:=hone
   simp only [bW,hp0]
   generalize hps:bW (n+1) as=ps at *
   obtain ⟨vs,es⟩:=ps
   simp only at k1 k2 k3 ⊢
   refine ⟨by simp [k1], ?_,fun j s u' hj hu=>?_⟩
   ·rw [he0,k2]
    by_cases hni:n=i
    ·rw [if_pos hni,if_neg (by omega),if_pos ⟨by omega,by simp;omega⟩,List.append_nil]
    ·rw [if_neg hni,List.nil_append]
     by_cases hc:n+1<=i/\i<n+1+as.length
     ·rw [if_pos hc,if_pos ⟨by omega,by simp;omega⟩]
     ·rw [if_neg hc,if_neg (by simp;omega)]
   ·cases j with
    | zero=>simp at hj hu;subst hj hu;exact hs1
    | succ j=>exact k3 j s u' (by simpa using hj) (by simpa using hu)
theorem vG:∀ {as:List Arg} {n i:Nat} {T:Ty},ny as n=some (i,T)->∃ x,n<=i/\as[i - n]? = some (.mQ T x):=by
 intro as
 induction as with
 | nil=>intro n i T h;simp [ny] at h
 | cons a as ih=>
  intro n i T h
  cases a with
  | mQ t x=>simp [ny] at h;obtain ⟨rfl,rfl⟩:=h;exact ⟨x,Nat.le_refl _,by simp⟩
  | _=>
   simp only [ny] at h
   obtain ⟨x,h1,h2⟩:=ih h
   refine ⟨x,by omega, ?_⟩
   rw [show i - n=(i - (n+1))+1 by omega]
   simpa using h2
theorem Ku:∀ {as:List Arg} {n:Nat},ny as n=none->∀ T x,Arg.mQ T x ∉ as:=by
 intro as
 induction as with
 | nil=>intro n h T x hm;simp at hm
 | cons a as ih=>
  intro n h T x hm
  cases a with
  | mQ t y=>simp [ny] at h
  | _=>
   simp only [ny] at h
   rcases List.mem_cons.1 hm with hm | hm
   ·cases hm
   ·exact ih h T x hm
theorem NY {A G:Nat->Prop} {h:Array Obj} {i:Nat} {T:Ty} {x:T.den} {pb:Nat} {ps:List (Option Pl)} (hl:RP A G h T x pb ps) :
  ∃ pl:Nat->Option Pl,(let M:Mem:=⟨A,G,h,assoc (dz i (.mQ T x)).2,pl,fun _=>none,fun _=>0,fun _ _ _=>undef⟩
   eY M (dz i (.mQ T x)).1 (.pointer (some ⟨pb,0,none⟩)) /\
   (∀ id e,assoc (dz i (.mQ T x)).2 id=some e->fG M e (pl id)/\(∀ p,pl id=some p->∀ b ∈ e.bs p,¬ A b/\b<h.size)/\(∀ t l n,e ≠ .arr t l (.pinned n))/\∀ t l n,e ≠ .deep t l (some n)) /\
   ∀ y z ey ez p q,assoc (dz i (.mQ T x)).2 y=some ey->assoc (dz i (.mQ T x)).2 z=some ez->y ≠ z->pl y=some p->pl z=some q->∀ b ∈ ey.bs p,b ∉ ez.bs q):=by
 obtain ⟨⟨c,e0,fz,hpb,hfz,hcs,how⟩,VO,hnd⟩:=hl
 have a3:=Kt (own:=T.ob) (key:=fun j=>dA i (j+1)) (T:=T) (x:=x) (j:=0)
 obtain ⟨⟨r1,r2⟩,k1⟩:=kI (key:=fun j=>dA i (j+1)) 0 how
 simp only [dz]
 generalize hra:aA T.ob (fun j=>dA i (j+1)) T x 0=ra at *
 obtain ⟨ca,ea,ja⟩:=ra
 simp only at a3 r1 r2 k1 ⊢
 have hkey:∀ (n:Nat) k e,((dA i 0,Entry.box (some T) ca) :: ea)[n]? = some (k,e)->k=dA i n:=fun n k e hn=>by
  cases n with
  | zero=>simp at hn;exact hn.1.symm
  | succ n=>rw [(a3 n k e (by simpa using hn)).1];congr 1;omega
 rw [List.nodup_cons] at hnd
 let pl:Nat->Option Pl:=fun k=>((some ⟨pb,0,T.sz,[]⟩ :: ps)[k / 4 - 64*i]?).getD none
 have hpl:∀ n,pl (dA i n)=((some ⟨pb,0,T.sz,[]⟩ :: ps)[n]?).getD none:=fun n=>by
  show ((some ⟨pb,0,T.sz,[]⟩ :: ps)[dA i n / 4 - 64*i]?).getD none=_
  have:dA i n / 4 - 64*i=n:=by unfold dA;omega
  rw [this]
 have WX:pl (dA i 0)=some ⟨pb,0,T.sz,[]⟩:=by rw [hpl];rfl
 have Yn:assoc ((dA i 0,Entry.box (some T) ca) :: ea) (dA i 0)=some (.box (some T) ca):=uy (f:=dA i) 0 _ _ (rF i) hkey rfl
 have hcr:ay ⟨A,G,h,assoc ((dA i 0,Entry.box (some T) ca) :: ea),pl,fun _=>none,fun _=>0,fun _ _ _=>undef⟩ ca c.toList:=k1 _ rfl rfl (fun m k e π hm hπ=>by
  refine ⟨uy (f:=dA i) (m+1) k e (rF i) hkey (by simpa using hm), ?_⟩
  show pl k=π
  rw [hkey (m+1) k e (by simpa using hm),hpl]
  simp [hπ])
 have hsub:∀ (e:Entry) (p:Pl) b,b ∈ e.bs p->b ∈ p.bs:=by
  intro e p b hb
  cases e with
  | deep _ _ _=>exact hb
  | box _ _=>simp only [Entry.bs,List.mem_singleton] at hb;subst hb;exact p.gI
  | arr _ _ _=>simp only [Entry.bs,List.mem_singleton] at hb;subst hb;exact p.gI
 have Yo:∀ b ∈ blks (some ⟨pb,0,T.sz,[]⟩ :: ps),¬ A b/\b<h.size:=by
  intro b hb
  rw [oJ] at hb
  exact VO b (by simpa [Pl.bs,Pl.tT] using hb)
 have hnd':(blks (some ⟨pb,0,T.sz,[]⟩ :: ps)).Nodup:=by
  rw [oJ]
  have:(Option.toList (some (⟨pb,0,T.sz,[]⟩:Pl))).flatMap Pl.bs++blks ps=pb :: blks ps:=by simp [Pl.bs,Pl.tT]
  first
   | (rw [this];exact List.nodup_cons.2 hnd)
   | (simpa [Pl.bs,Pl.tT] using hnd)
 refine ⟨pl,⟨_,_,_,Yn,WX,rfl,rfl⟩,fun id e he=>?_,fun y z ey ez p q hy hz hyz hp hq=>?_⟩
 ·obtain ⟨m,hm⟩:=jv he
  have hk:=hkey m id e hm
  have hlen:m<(some (⟨pb,0,T.sz,[]⟩:Pl) :: ps).length:=by
   have:=(List.getElem?_eq_some_iff.1 hm).1
   simp only [List.length_cons] at this ⊢
   omega
  have FZ:pl id=(some (⟨pb,0,T.sz,[]⟩:Pl) :: ps)[m]:=by rw [hk,hpl,List.getElem?_eq_getElem hlen];rfl
  have hin:∀ p,pl id=some p->∀ b ∈ p.bs,¬ A b/\b<h.size:=fun p hp b hb=>Yo b (List.mem_flatMap.2 ⟨p,List.mem_filterMap.2 ⟨_,List.getElem_mem hlen,by rw [<- FZ,hp];rfl⟩,hb⟩)
  refine ⟨?_,fun p hp b hb=>hin p hp b (hsub e p b hb), ?_⟩
  ·cases m with
   | zero=>
    simp at hm
    obtain ⟨rfl,rfl⟩:=hm
    rw [WX]
    exact ⟨_,c,e0,fz,rfl,rfl,hpb,hfz,hcs,by have:=hcr.1;simpa using this,fun u hu=>(by cases hu;rw [<- hcs];have:=hcr.1;simpa using this.symm),hcr,(VO pb (by simp)).1⟩
   | succ m=>
    have hm':ea[m]? = some (id,e):=by simpa using hm
    have hlt:m<ps.length:=by simpa using hlen
    have Sj:pl id=ps[m]:=by simpa using FZ
    rcases r2 m id e ps[m] hm' (List.getElem?_eq_getElem hlt) with ⟨t,l,rfl,ha,hfl⟩ | ⟨t,l,rfl,ha⟩
    ·exact ⟨by rw [Sj];exact ha,fun p hp=>⟨⟨fun ho=>(by cases ho),hfl p (by rw [<- Sj];exact hp)⟩,fun _=>(hin p hp p.b p.gI).1⟩⟩
    ·exact ⟨by rw [Sj];exact ha,fun p hp=>⟨fun b hb=>⟨(hin p hp b hb).2,(hin p hp b hb).1⟩,fun k hk=>by cases hk⟩⟩
  ·cases m with
   | zero=>
    simp at hm
    obtain ⟨rfl,rfl⟩:=hm
    exact ⟨fun t l n h=>(by cases h),fun t l n h=>(by cases h)⟩
   | succ m=>
    have hm':ea[m]? = some (id,e):=by simpa using hm
    have hlt:m<ps.length:=by simpa using hlen
    rcases r2 m id e ps[m] hm' (List.getElem?_eq_getElem hlt) with ⟨t,l,rfl,ha,hfl⟩ | ⟨t,l,rfl,ha⟩
    ·exact ⟨fun t l n h=>(by cases h),fun t l n h=>(by cases h)⟩
    ·exact ⟨fun t l n h=>(by cases h),fun t l n h=>(by cases h)⟩
 ·obtain ⟨m,hm⟩:=jv hy
  obtain ⟨n,hn⟩:=jv hz
  have lenOf:∀ {m:Nat} {k:Nat} {e:Entry},((dA i 0,Entry.box (some T) ca) :: ea)[m]? = some (k,e)->m<(some (⟨pb,0,T.sz,[]⟩:Pl) :: ps).length:=by
   intro m k e hm
   have:=(List.getElem?_eq_some_iff.1 hm).1
   simp only [List.length_cons] at this ⊢
   omega
  have hlt:=lenOf hm
  have hlt':=lenOf hn
  have hmn:m ≠ n:=fun e=>hyz (by rw [hkey m y ey hm,hkey n z ez hn,e])
  rw [hkey m y ey hm,hpl,List.getElem?_eq_getElem hlt] at hp
  rw [hkey n z ez hn,hpl,List.getElem?_eq_getElem hlt'] at hq
  have hp:(some (⟨pb,0,T.sz,[]⟩:Pl) :: ps)[m]=some p:=hp
  have hq:(some (⟨pb,0,T.sz,[]⟩:Pl) :: ps)[n]=some q:=hq
  exact fun b hb hb'=>vF hnd' (by rw [List.getElem?_eq_getElem hlt,hp]) (by rw [List.getElem?_eq_getElem hlt',hq]) hmn b (hsub _ _ _ hb) (hsub _ _ _ hb')
theorem TN {C:aZ} (good:Good C) {F0:jo} {G G':Nat->Prop} {fn:Func} {rt T:Ty} {i0:Nat} {x:Ex} {s':St} {a':Act} {w w':World} {kK:Nat->Option Pl} {r:rt.den × T.den} {pb:Nat} (hx:∀ j,x ≠ .exit j)
  (i':Inv F0 G' s' a' w' kK) (fr:Fr F0 G w G' w') (hpar:F0.par i0=some (.pointer (some ⟨pb,0,none⟩))) (hret:PL C fn i0 T (.pair rt T) x s'=some r) {R:Ending->World->Prop}
  (hR:∀ v qs ps',w.heap.size<=w'.heap.size->Str F0.mono w w'->(∀ b,F0 b->w'.heap[b]? = w.heap[b]?)->(∀ b,G b->G' b)->(∀ b,G' b->G b\/(¬ F0 b/\b<w'.heap.size))->
   zn true (Nat.beq fn.resultTypes.size 1) rt G' w'.heap r.1 v qs->(∃ c e fz,w'.heap[pb]? = some (.cells c e fz)/\Free fz c.size/\c.size=T.sz/\aW T.ob G' w'.heap T r.2 c.toList ps')->
   (∀ b ∈ blks qs++blks ps',¬ F0 b/\¬ G' b/\b<w'.heap.size/\b ≠ pb)->(blks qs++blks ps').Nodup->¬ G' pb->R (.returned v) w') :
  bodyPost C.P fn R .normal a' w':=by
 have hret:JW C fn i0 T rt s'=some r:=by
  cases hb:JW C fn i0 T rt s' with
  | none=>
   cases x with
   | exit j=>exact absurd rfl (hx j)
   | _=>simp [PL,hb] at hret
  | some y=>
   cases x with
   | exit j=>exact absurd rfl (hx j)
   | _=>simp [PL,hb] at hret;rw [<- hret]
 unfold JW at hret
 cases hc1:Nat.beq fn.results.size fn.resultTypes.size with
 | false=>rw [hc1] at hret;cases hret
 | true=>
 rw [hc1] at hret
 simp only [cond_true] at hret
 split at hret
 case h_2=>cases hret
 rename_i vs id hvs zS
 split at hret
 case h_2=>cases hret
 rename_i tb cb Ke
 cases hc2:(vs.all av.known && qK (Nat.beq fn.resultTypes.size 1) rt vs) with
 | false=>rw [hc2] at hret;cases hret
 | true=>
 rw [hc2] at hret
 simp only [cond_true] at hret
 split at hret
 case h_2=>cases hret
 rename_i y ids z js hof Yp
 cases hc4:(nodup (ids++js) && (T.ob || js.isEmpty)) with
 | false=>rw [hc4] at hret;cases hret
 | true=>
 rw [hc4] at hret
 simp only [cond_true,Option.some.injEq] at hret
 subst hret
 simp only [Bool.and_eq_true] at hc2
 rw [Bool.and_eq_true] at hc4
 obtain ⟨hc3,Lc⟩:=hc4
 have hc3:=iR hc3
 obtain ⟨us,hrun,TL,hur⟩:=pW good i' hvs
 have hsize:fn.results.size=fn.resultTypes.size:=Nat.eq_of_beq_eq_true hc1
 have hvl:vs.length=fn.resultTypes.size:=by rw [qN hvs];simpa using hsize
 have FX:∀ c ∈ vs,c.known=true:=List.all_eq_true.1 hc2.1
 refine ⟨i'.defers.1,(if h:us.toArray.size=1 then us.toArray[0] else .tuple us.toArray), ?_, ?_⟩
 ·rw [zQ]
  rw [Array.mapM_eq_mapM_toList]
  simp only [Sem.run_bind,Sem.run_map,hrun,Result.andThen_ok,Sem.run_pure]
 have hcells:∃ cs,ay (mem F0 G' w'.heap s'.aj kK) (vs.flatMap av.cells) cs /\
   (if Nat.beq fn.resultTypes.size 1 then jO rt.isAgg cs (if h:us.toArray.size=1 then us.toArray[0] else .tuple us.toArray) else ∃ ws:List Value,(if h:us.toArray.size=1 then us.toArray[0] else .tuple us.toArray)=.tuple ws.toArray/\Jo rt cs ws):=by
  cases hone:Nat.beq fn.resultTypes.size 1 with
  | true=>
   have h1:fn.resultTypes.size=1:=Nat.eq_of_beq_eq_true hone
   rw [hone] at hc2
   have hsh:=hc2.2
   unfold qK at hsh
   simp only [if_true] at hsh
   split at hsh
   ·rename_i c
    obtain ⟨u,rfl⟩:∃ u,us=[u]:=List.length_eq_one_iff.1 (by rw [TL];rfl)
    have hcr:=hur 0 c u rfl rfl
    have hkc:=FX c (by simp)
    refine ⟨u.cells.toList,by simpa using eZ hkc hcr, ?_⟩
    simp only [if_true]
    exact pU hkc hsh hcr
   ·cases hsh
  | false=>
   rw [hone] at hc2
   have hsh:=hc2.2
   unfold qK at hsh
   simp only [Bool.false_eq_true,if_false] at hsh
   obtain ⟨k4,k5⟩:=FW hsh TL hur FX
   refine ⟨_,k4, ?_⟩
   simp only [Bool.false_eq_true,if_false]
   have hne:¬ us.toArray.size=1:=by
    have:us.length=fn.resultTypes.size:=by rw [TL,hvl]
    intro e
    have e1:fn.resultTypes.size=1:=by rw [<- this];simpa using e
    rw [e1] at hone
    simp at hone
   exact ⟨us,by rw [dif_neg hne],k5⟩
 obtain ⟨cs,hcr,hval⟩:=hcells
 obtain ⟨ps,hown,hblk⟩:=kE i'.aj hof hcr
 have hent:=i'.aj.ent id _ Ke
 obtain ⟨p,c,e,fz,hp,ho,Sc,hfz,hsz0,hcs,hty,hrel,hnF⟩:=hent
 have hp:kK id=some p:=hp
 have Sc:w'.heap[p.b]? = some (.cells c e fz):=Sc
 have hnF:¬ (F0 p.b\/G' p.b):=hnF
 have hpb:p.b=pb:=by
  obtain ⟨_,h2⟩:=i'.defers.2 i0 _ hpar
  have hsl:=i'.env i0
  rw [zS] at hsl
  obtain ⟨_,_,p2,_,hp2,_,hv⟩:=hsl
  have hp2:kK id=some p2:=hp2
  rw [hp] at hp2
  cases hp2
  rw [h2] at hv
  cases hv
  rfl
 obtain ⟨⟨ps',Uw,WY⟩,Vo⟩:=FU i'.aj Yp Lc hrel
 have hlive:=ig hof
 have hall:∀ j ∈ ids++js,Lv s'.aj .give j:=fun j hj=>(List.mem_append.1 hj).elim (hlive j) (Vo j)
 have hblk2:blks ps++blks ps'=((ids++js).filterMap kK).flatMap Pl.bs:=by
  have e1:blks ps=(ids.filterMap kK).flatMap Pl.bs:=hblk
  have e2:blks ps'=(js.filterMap kK).flatMap Pl.bs:=WY
  rw [e1,e2,List.filterMap_append,List.flatMap_append]
 have hnd:(blks ps++blks ps').Nodup:=by
  rw [hblk2]
  exact jP i'.aj hc3 hall
 subst hpb
 refine hR _ ps ps' fr.size fr.str (fun b hb=>fr.h b (.inl hb)) fr.more (fun b hb=>?_) ⟨cs,hown,hval⟩ ⟨c,e,fz,Sc,hfz,Uw.len ▸ (by simp),Uw⟩ (fun b hb=>?_) hnd (fun h=>hnF (.inr h))
 ·by_cases hlt:F0 b
  ·exact .inl (fr.new b hb hlt)
  ·exact .inr ⟨hlt,i'.aj.lt b (.inr hb)⟩
 ·rw [hblk2] at hb
  obtain ⟨q,hq,Nj⟩:=List.mem_flatMap.1 hb
  obtain ⟨j,hj,hjq⟩:=List.mem_filterMap.1 hq
  obtain ⟨e',he,k1,_,k2⟩:=(hall j hj).bs i'.aj hjq
  have hne:j ≠ id:=fun h=>(hall j hj).wo _ _ (h ▸ Ke)
  refine ⟨fun h=>k2 rfl b Nj (.inl h),fun h=>k2 rfl b Nj (.inr h),i'.aj.jY he hjq b (k1 ▸ Nj),fun h=>?_⟩
  exact i'.aj.apart' j id e' _ q p he Ke hne hjq hp b (k1 ▸ Nj) (by rw [h];exact Entry.gI _ p)
theorem TP {C:aZ} (good:Good C) {F0:jo} {G G':Nat->Prop} {fn:Func} {t:Ty} {x:Ex} {s':St} {a':Act} {w w':World} {kK:Nat->Option Pl} {r:t.den} (hx:∀ j,x ≠ .exit j)
  (i':Inv F0 G' s' a' w' kK) (fr:Fr F0 G w G' w') (hret:UK C fn t x s'=some r) {R:Ending->World->Prop}
  (hR:∀ pb,w.heap.size<=w'.heap.size->Str F0.mono w w'->(∀ b,F0 b->w'.heap[b]? = w.heap[b]?)->(∀ b,G b->G' b)->(∀ b,G' b->G b\/(¬ F0 b/\b<w'.heap.size))->
   (∃ c e fz,w'.heap[pb]? = some (.cells c e fz)/\Free fz c.size/\c.size=t.sz/\aW false G' w'.heap t r c.toList [])->¬ F0 pb->¬ G' pb->R (.returned (.pointer (some ⟨pb,0,none⟩))) w') :
  bodyPost C.P fn R .normal a' w':=by
 have hret:(bif Nat.beq fn.results.size fn.resultTypes.size && Nat.beq fn.resultTypes.size 1 then
  (match iU C s' fn.results.toList with
  | some [.cell (.ptr id 0)]=>(match s'.aj id with
   | some (.box (some u) cs)=>if u=t then (match aL s'.aj .keep t cs with
    | some (z,[])=>some z
    | _=>none) else none
   | _=>none)
  | _=>none) else none)=some r:=by
  cases x with
  | normal=>exact hret
  | ret=>exact hret
  | exit j=>exact absurd rfl (hx j)
 cases hc1:(Nat.beq fn.results.size fn.resultTypes.size && Nat.beq fn.resultTypes.size 1) with
 | false=>rw [hc1] at hret;cases hret
 | true=>
 rw [hc1] at hret
 simp only [cond_true] at hret
 split at hret
 case h_2=>cases hret
 rename_i id hvs
 split at hret
 case h_2=>cases hret
 rename_i u cs Ke
 split at hret
 case isFalse=>cases hret
 rename_i hut
 subst hut
 split at hret
 case h_2=>cases hret
 rename_i z hof
 obtain rfl:z=r:=Option.some.inj hret
 obtain ⟨us,hrun,TL,hur⟩:=pW good i' hvs
 obtain ⟨v,rfl⟩:∃ v,us=[v]:=List.length_eq_one_iff.1 (by rw [TL];rfl)
 obtain ⟨_,_,p2,hs2,hp2,_,hv⟩:=hur 0 _ v rfl rfl
 have hs2:s'.aj id=some (.box _ _):=hs2
 have hp2:kK id=some p2:=hp2
 obtain ⟨p,c,e,fz,hp,ho,Sc,hfz,hsz0,hcs,hty,hrel,hnF⟩:=i'.aj.ent id _ Ke
 have hp:kK id=some p:=hp
 have hpp:p2=p:=Option.some.inj (hp2.symm.trans hp)
 rw [hpp] at hv
 have Sc:w'.heap[p.b]? = some (.cells c e fz):=Sc
 have hnF:¬ (F0 p.b\/G' p.b):=hnF
 have hown:=pV (iI i'.aj (fun _ h=>h) (fun _ h=>h) (fun h=>by cases h) hof hrel (by simp) (by simp))
 refine ⟨i'.defers.1,v, ?_, ?_⟩
 ·rw [zQ]
  rw [Array.mapM_eq_mapM_toList]
  simp only [Sem.run_bind,Sem.run_map,hrun,Result.andThen_ok,Sem.run_pure]
  simp
 ·rw [hv]
  refine hR p.b fr.size fr.str (fun b hb=>fr.h b (.inl hb)) fr.more (fun b hb=>?_) ⟨c,e,fz,Sc,hfz,by rw [hcs];exact hty _ rfl,hown⟩ (fun h=>hnF (.inl h)) (fun h=>hnF (.inr h))
  by_cases hlt:F0 b
  ·exact .inl (fr.new b hb hlt)
  ·exact .inr ⟨hlt,i'.aj.lt b (.inr hb)⟩
def Vp (C:aZ) (ah:FuncId->(t:Ty)->List Arg->Option t.den):Prop:=FR C ah/\Kr C ah/\RQ C ah
def Kv (C:aZ):Prop:=∀ (f:FuncId) (p:(t:Ty)->List Arg->Option t.den),C.Ld f=some p->(C.sig f).wI=false/\Vp C fun g t args=>if g=f then p t args else none
theorem Vq {C:aZ} (good:Good C) (Jm:∀ ah,ET C ah->NT C ah) (DN:Kv C):∀ k,ET C (run C k):=by
 intro k
 induction k with
 | zero=>exact ⟨fun f fn t args r hf h=>by simp [run] at h,fun f fn rt T x i args r hf h=>by simp [run] at h,fun f fn rt T x i args r hf h=>by simp [run] at h,fun f fn t args r hf h=>by simp [run] at h⟩
 | succ k ih=>
  refine ⟨fun f fn t args r hf h hmk=>?_,fun f fn rt T x i args r hf h hai=>?_,fun f fn rt T x i args r hf h hai=>?_,fun f fn t args r hf h hmk=>?_⟩
  ·simp only [run] at h
   cases hp:C.Ld f with
   | some p=>
    rw [hp] at h
    exact (DN f p hp).2.1 f fn t args r hf (by simpa using h) hmk
   | none=>
    rw [hp] at h
    simp only [hf] at h
    cases hb:fn.body with
    | none=>simp [hb] at h
    | some c=>
     simp only [hb] at h
     refine ⟨rfl,fun w A G vals hA sV htab hone hargs=>?_⟩
     cases hfl:ku args 0 with
     | some iT=>
      obtain ⟨i0,T0⟩:=iT
      obtain ⟨x0,_,h0⟩:=mW hfl
      rw [Nat.sub_zero] at h0
      have hlt:i0<vals.length:=by rw [hargs.1];exact (List.getElem?_eq_some_iff.1 h0).1
      exact (hargs.2 i0 _ _ h0 (List.getElem?_eq_getElem hlt)).elim
     | none=>
     rw [hfl] at h
     simp only at h
     cases Qc:ny args 0 with
     | some iT=>
      obtain ⟨i0,T0⟩:=iT
      obtain ⟨x0,_,h0⟩:=vG Qc
      rw [Nat.sub_zero] at h0
      have hlt:i0<vals.length:=by rw [hargs.1];exact (List.getElem?_eq_some_iff.1 h0).1
      exact (hargs.2 i0 _ _ h0 (List.getElem?_eq_getElem hlt)).elim
     | none=>
     rw [Qc,hmk] at h
     simp only [cond_false] at h
     obtain ⟨k2,Lb,k3,k4,k5⟩:=xD sV 0 hargs hone
     have hi:Inv ⟨A,fun _=>none,fun _=>0,fun _ _ _=>undef,C.mono,fun _=>none⟩ G (qx 0 fn args) { tmps:=vals.toArray++Array.replicate (fn.ntmps - vals.toArray.size) undef,defers:=[] } w Lb:=by
      unfold qx
      generalize hps:bW 0 args=ps at *
      obtain ⟨vs,es⟩:=ps
      simp only at k2 k3 k4 k5 ⊢
      have Vr:∀ b,(A b\/G b)->b<w.heap.size:=fun b hb=>hb.elim (hA b) (fun h=>hA b (sV b h))
      have g:Goes (fun _=>False) ⟨A,G,w.heap,assoc es,Lb,fun _=>none,fun _=>0,fun _ _ _=>undef⟩ (mem ⟨A,fun _=>none,fun _=>0,fun _ _ _=>undef,C.mono,fun _=>none⟩ G w.heap (assoc es) Lb):=
        ⟨fun b hb=>.inl hb,fun b hb=>hb,sV,fun b hb=>rfl,fun id e _ he=>⟨e,he,e.jh,gQ.refl _⟩,rfl⟩
      refine ⟨by simp [hargs.1],fun t=>?_,⟨fun b hb=>.inr hb,Vr,fun id e he=>?_,fun x y ex ey p q hx hy hxy hp hq=>k5 x y ex ey p q hx hy hxy hp hq,fun id t l n he=>(by obtain ⟨⟨t',l',hh,_⟩ | ⟨t',l',hh,_⟩,_⟩:=k4 id _ he <;> cases hh),fun id t l n he=>(by obtain ⟨⟨t',l',hh,_⟩ | ⟨t',l',hh,_⟩,_⟩:=k4 id _ he <;> cases hh)⟩,rfl,fun t v h=>by cases h⟩
      ·show eY _ ((vs[t]?).getD .undef) _
       cases hv:vs[t]? with
       | none=>exact trivial
       | some s=>
        have hlt:t<vals.length:=by rw [<- k2];exact (List.getElem?_eq_some_iff.1 hv).1
        have hu:(vals.toArray++Array.replicate (fn.ntmps - vals.toArray.size) undef).getD t undef=vals[t]:=by
         rw [Array.getD_eq_getD_getElem?,Array.getElem?_append_left (by simpa using hlt)]
         simp [hlt]
        rw [hu]
        exact g.slot (fun _ _ h=>h) (k3 t s vals[t] hv (List.getElem?_eq_getElem hlt))
      ·obtain ⟨⟨t,l,rfl,h1,hfl⟩ | ⟨t,l,rfl,h1⟩,h2⟩:=k4 id e he
       ·exact ⟨h1,fun p hp=>⟨⟨fun ho=>(by cases ho),hfl p hp⟩,fun _ hb=>(h2 p hp p.b p.gI).1 (hb.elim (fun h=>h) (sV _))⟩⟩
       ·exact ⟨h1,fun p hp=>⟨fun b hb=>⟨(h2 p hp b hb).2,fun hF=>(h2 p hp b hb).1 (hF.elim (fun h=>h) (sV _))⟩,fun k hk=>by cases hk⟩⟩
     have hcode:=ES (fun o=>LZ good ih o) (Jm _ ih) _ k c h hi ⟨htab,fun h=>h⟩
     refine calls_of_wp hf hb (wp_mono hcode fun e a' w' hpost=>?_)
     obtain ⟨x,s',G',kK,hx,hret,i',fr⟩:=hpost
     have fin:(∀ j,x ≠ .exit j)->bodyPost C.P fn _ .normal a' w':=fun hx'=>Si good hx' i' fr hret (R:=fun e w'=>∃ v G' ps,e=.returned v/\w.heap.size<=w'.heap.size/\Str C.mono w w'/\(∀ b,A b->w'.heap[b]? = w.heap[b]?)/\(∀ b,G b->G' b)/\(∀ b,G' b->G b\/(¬ A b/\b<w'.heap.size)) /\
       zn (C.sig f).own (Nat.beq fn.resultTypes.size 1) t G' w'.heap r v ps/\(∀ b ∈ blks ps,¬ A b/\¬ G' b/\b<w'.heap.size)/\(blks ps).Nodup)
      (fun v Ll ps h1 h2 h3 h4 h5 h6 h7 h8 _=>⟨v,Ll,ps,rfl,h1,h2,h3,h4,h5,h6,h7,h8⟩)
     cases e with
     | normal=>exact fin (by cases x <;> simp [mJ] at hx <;> simp)
     | ret=>exact fin (by cases x <;> simp [mJ] at hx <;> simp)
     | exit j=>cases x <;> simp [mJ] at hx;simp [Li] at hret
     | goto j=>cases x <;> simp [mJ] at hx
     | panic ch=>cases x <;> simp [mJ] at hx
     | outgrown=>cases x <;> simp [mJ] at hx
  ·simp only [run] at h
   cases hp:C.Ld f with
   | some p=>
    rw [hp] at h
    exact (DN f p hp).2.2.1 f fn rt T x i args r hf (by simpa using h) hai
   | none=>
    rw [hp] at h
    simp only [hf] at h
    cases hb:fn.body with
    | none=>simp [hb] at h
    | some c=>
     simp only [hb] at h
     refine ⟨rfl,fun w A G vals v0 cs ps hA sV htab hlen hv0 hla hargs=>?_⟩
     cases hfl:ku args 0 with
     | none=>exact absurd (List.mem_of_getElem? hai) (zq hfl T x)
     | some iT=>
     obtain ⟨i0,T0⟩:=iT
     obtain ⟨x0,_,h0⟩:=mW hfl
     rw [Nat.sub_zero] at h0
     have hii:i0=i:=by
      refine Classical.byContradiction fun hne=>?_
      have hlt:i0<vals.length:=by rw [hlen];exact (List.getElem?_eq_some_iff.1 h0).1
      exact (hargs i0 _ _ hne h0 (List.getElem?_eq_getElem hlt)).2.elim
     subst hii
     rw [hai] at h0
     cases h0
     rw [hfl] at h
     simp only at h
     obtain ⟨Lb,hs0,hent,hapart⟩:=Mc (mono:=C.mono) sV (i:=i0) hla
     simp only at hs0 hent hapart
     have hi0:i0<args.length:=(List.getElem?_eq_some_iff.1 hai).1
     obtain ⟨k2,k3,k4⟩:=sZ sV (F0:=⟨A,fun m=>(ps[m]?).getD none,fun m=>((jc T x)[m]?).getD 0,xC w.heap T ps,C.mono,fun _=>none⟩) hs0 (as:=args) (us:=vals) (n:=0) hlen (fun j a v hne hj hv=>hargs j a v (by omega) hj hv) (fun j hj _=>(show j=i0 by omega) ▸ ⟨hai,hv0⟩)
     rw [if_pos ⟨Nat.zero_le _,by omega⟩] at k3
     have hi:Inv ⟨A,fun m=>(ps[m]?).getD none,fun m=>((jc T x)[m]?).getD 0,xC w.heap T ps,C.mono,fun _=>none⟩ G (qx 0 fn args) { tmps:=vals.toArray++Array.replicate (fn.ntmps - vals.toArray.size) undef,defers:=[] } w Lb:=by
      unfold qx
      generalize hps:bW 0 args=Yq at *
      obtain ⟨vs,es⟩:=Yq
      simp only at k2 k3 k4 ⊢
      subst k3
      have Vr:∀ b,(A b\/G b)->b<w.heap.size:=fun b hb=>hb.elim (hA b) (fun h=>hA b (sV b h))
      have g:Goes (fun _=>False) ⟨A,G,w.heap,assoc (dz i0 (.lend T x)).2,Lb,fun m=>(ps[m]?).getD none,fun m=>((jc T x)[m]?).getD 0,xC w.heap T ps⟩ (mem ⟨A,fun m=>(ps[m]?).getD none,fun m=>((jc T x)[m]?).getD 0,xC w.heap T ps,C.mono,fun _=>none⟩ G w.heap (assoc (dz i0 (.lend T x)).2) Lb):=
        ⟨fun b hb=>.inl hb,fun b hb=>hb,sV,fun b hb=>rfl,fun id e _ he=>⟨e,he,e.jh,gQ.refl _⟩,rfl⟩
      refine ⟨by simp [hlen],fun t=>?_,⟨fun b hb=>.inr hb,Vr,fun id e he=>?_,fun y z ey ez p q hy hz hyz hp hq=>hapart y z ey ez p q hy hz hyz hp hq,fun id t l n he=>?_,fun id t l n he=>?_⟩,rfl,fun t v h=>by cases h⟩
      ·show eY _ ((vs[t]?).getD .undef) _
       cases hv:vs[t]? with
       | none=>exact trivial
       | some s=>
        have hlt:t<vals.length:=by rw [<- k2];exact (List.getElem?_eq_some_iff.1 hv).1
        have hu:(vals.toArray++Array.replicate (fn.ntmps - vals.toArray.size) undef).getD t undef=vals[t]:=by
         rw [Array.getD_eq_getD_getElem?,Array.getElem?_append_left (by simpa using hlt)]
         simp [hlt]
        rw [hu]
        exact g.slot (fun _ _ h=>h) (k4 t s vals[t] hv (List.getElem?_eq_getElem hlt))
      ·obtain ⟨n,h1,h2,h3,h4⟩:=hent id e he
       cases e with
       | box _ _=>cases h1
       | arr t l o=>exact ⟨h3.1,fun p hp=>⟨⟨fun ho=>(by subst ho;cases h1),(h4 p hp).1 t l o rfl⟩,fun _ hb=>((h4 p hp).2 p.b p.gI).1 (hb.elim (fun h=>h) (sV _))⟩⟩
       | deep t l o=>
        refine ⟨h3.1,fun p hp=>⟨fun b hb=>⟨((h4 p hp).2 b hb).2,fun hF=>((h4 p hp).2 b hb).1 (hF.elim (fun h=>h) (sV _))⟩,fun k hk=>?_⟩⟩
        subst hk
        have h1:k=n:=Option.some.inj h1
        subst h1
        exact h3.2.2 p hp
      ·obtain ⟨n',h1,h2,h3,_⟩:=hent id _ he
       have h1:n=n':=Option.some.inj h1
       subst h1
       exact ⟨h2,h3.2⟩
      ·obtain ⟨n',h1,h2,h3,_⟩:=hent id _ he
       have h1:n=n':=Option.some.inj h1
       subst h1
       exact ⟨h2,h3.2.1⟩
     have hcode:=ES (fun o=>LZ good ih o) (Jm _ ih) _ k c h hi ⟨htab,fun h=>h⟩
     refine calls_of_wp hf hb (wp_mono hcode fun e a' w' hpost=>?_)
     obtain ⟨xx,s',G',kK,hx,hret,i',fr⟩:=hpost
     have hret:∃ y,Li C (C.sig f).own fn [] rt xx s'=some r.1/\s'.env i0=.one y/\∃ j,fQ s'.aj T y.cells 0=some (r.2,[],j):=by
      simp only [UJ,dif_pos] at hret
      cases h1:Li C (C.sig f).own fn [] rt xx s' with
      | none=>rw [h1] at hret;cases hret
      | some y=>
       rw [h1] at hret
       cases h2:s'.env i0 with
       | wN _=>rw [h2] at hret;cases hret
       | one c=>
        rw [h2] at hret
        simp only at hret
        cases h3:fQ s'.aj T c.cells 0 with
        | none=>rw [h3] at hret;cases hret
        | some z=>
         obtain ⟨z,rr,j⟩:=z
         rw [h3] at hret
         cases rr with
         | cons _ _=>cases hret
         | nil=>
          simp at hret
          subst hret
          exact ⟨c,rfl,rfl,j,h3⟩
     obtain ⟨y,hret,hy,j,hback⟩:=hret
     have fin:(∀ j,xx ≠ .exit j)->bodyPost C.P fn _ .normal a' w':=fun hx'=>Si good hx' i' fr hret (R:=fun e w'=>∃ v G' qs,e=.returned v/\w.heap.size<=w'.heap.size/\Str C.mono w w'/\(∀ b,A b->w'.heap[b]? = w.heap[b]?)/\(∀ b,G b->G' b)/\(∀ b,G' b->G b\/(¬ A b/\b<w'.heap.size)) /\
       zn (C.sig f).own (Nat.beq fn.resultTypes.size 1) rt G' w'.heap r.1 v qs/\(∀ b ∈ blks qs,¬ A b/\¬ G' b/\b<w'.heap.size)/\(blks qs).Nodup /\
       rD G' w.heap w'.heap T x r.2 ps/\∀ b ∈ blks ps,¬ G' b/\b ∉ blks qs)
      (fun v Ll qs h1 h2 h3 h4 h5 h6 h7 h8 h9=>by
       have hrows:=xG (F0:=⟨A,fun m=>(ps[m]?).getD none,fun m=>((jc T x)[m]?).getD 0,xC w.heap T ps,C.mono,fun _=>none⟩) (G:=G) (h:=w.heap) (fun id e n hs hpn=>(h9 id e n hs hpn).1) hback hla.1 (fun m π hm=>by show (ps[0+m]?).getD none=π;rw [Nat.zero_add,hm];rfl) (fun m n hm=>by show ((jc T x)[0+m]?).getD 0=n;rw [Nat.zero_add,hm];rfl) (fun m p sz hm hz i off=>by
        show xC w.heap T ps (0+m) i off=_
        unfold xC
        rw [Nat.zero_add,hm,hz])
       refine ⟨v,Ll,qs,rfl,h1,h2,h3,h4,h5,h6,h7,h8,hrows.1,fun b hb=>?_⟩
       obtain ⟨p,hp,hbp⟩:=List.mem_flatMap.1 hb
       obtain ⟨p',hp',rfl⟩:=List.mem_filterMap.1 hp
       obtain ⟨m,hm⟩:=List.getElem?_of_mem hp'
       obtain ⟨id,e,hs,hpn⟩:=xH hback hla.1 m (by have:=(List.getElem?_eq_some_iff.1 hm).1;exact this)
       rw [Nat.zero_add] at hpn
       exact (h9 id e m hs hpn).2 p (by show (ps[m]?).getD none=some p;rw [hm];rfl) b hbp)
     cases e with
     | normal=>exact fin (by cases xx <;> simp [mJ] at hx <;> simp)
     | ret=>exact fin (by cases xx <;> simp [mJ] at hx <;> simp)
     | exit j=>cases xx <;> simp [mJ] at hx;simp [Li] at hret
     | goto j=>cases xx <;> simp [mJ] at hx
     | panic ch=>cases xx <;> simp [mJ] at hx
     | outgrown=>cases xx <;> simp [mJ] at hx
  ·simp only [run] at h
   cases hp:C.Ld f with
   | some p=>
    rw [hp] at h
    exact (DN f p hp).2.2.2 f fn rt T x i args r hf (by simpa using h) hai
   | none=>
    rw [hp] at h
    simp only [hf] at h
    cases hb:fn.body with
    | none=>simp [hb] at h
    | some c=>
     simp only [hb] at h
     refine ⟨rfl,fun w A G vals pb ps hA sV htab hlen hv0 hba hargs=>?_⟩
     have hi0:i<args.length:=(List.getElem?_eq_some_iff.1 hai).1
     cases hfl:ku args 0 with
     | some iT=>
      obtain ⟨i1,T1⟩:=iT
      obtain ⟨x1,_,h1⟩:=mW hfl
      rw [Nat.sub_zero] at h1
      have hne:i1 ≠ i:=fun e=>by rw [e,hai] at h1;cases h1
      have hlt:i1<vals.length:=by rw [hlen];exact (List.getElem?_eq_some_iff.1 h1).1
      exact (hargs i1 _ _ hne h1 (List.getElem?_eq_getElem hlt)).2.elim
     | none=>
     rw [hfl] at h
     simp only at h
     cases Qc:ny args 0 with
     | none=>exact absurd (List.mem_of_getElem? hai) (Ku Qc T x)
     | some iT=>
     obtain ⟨i0,T0⟩:=iT
     obtain ⟨x0,_,h0⟩:=vG Qc
     rw [Nat.sub_zero] at h0
     have hii:i0=i:=by
      refine Classical.byContradiction fun hne=>?_
      have hlt:i0<vals.length:=by rw [hlen];exact (List.getElem?_eq_some_iff.1 h0).1
      exact (hargs i0 _ _ hne h0 (List.getElem?_eq_getElem hlt)).2.elim
     subst hii
     rw [hai] at h0
     cases h0
     rw [Qc] at h
     simp only at h
     cases Sk:Nat.blt i0 1000 with
     | false=>rw [Sk] at h;cases h
     | true=>
     rw [Sk] at h
     simp only [cond_true] at h
     have XL:i0<1000:=by simpa using Sk
     obtain ⟨Lb,hs0,hent,hapart⟩:=NY (i:=i0) hba
     obtain ⟨k2,k3,k4⟩:=sZ sV (F0:=⟨A,fun _=>none,fun _=>0,fun _ _ _=>undef,C.mono,fun t=>if t=i0 then some (.pointer (some ⟨pb,0,none⟩)) else none⟩) hs0 (as:=args) (us:=vals) (n:=0) hlen (fun j a v hne hj hv=>hargs j a v (by omega) hj hv) (fun j hj _=>(show j=i0 by omega) ▸ ⟨hai,hv0⟩)
     rw [if_pos ⟨Nat.zero_le _,by omega⟩] at k3
     have hi:Inv ⟨A,fun _=>none,fun _=>0,fun _ _ _=>undef,C.mono,fun t=>if t=i0 then some (.pointer (some ⟨pb,0,none⟩)) else none⟩ G (qx (i0+1) fn args) { tmps:=vals.toArray++Array.replicate (fn.ntmps - vals.toArray.size) undef,defers:=[] } w Lb:=by
      unfold qx
      generalize hps:bW 0 args=Yq at *
      obtain ⟨vs,es⟩:=Yq
      simp only at k2 k3 k4 ⊢
      subst k3
      have Vr:∀ b,(A b\/G b)->b<w.heap.size:=fun b hb=>hb.elim (hA b) (fun h=>hA b (sV b h))
      have g:Goes (fun _=>False) ⟨A,G,w.heap,assoc (dz i0 (.mQ T x)).2,Lb,fun _=>none,fun _=>0,fun _ _ _=>undef⟩ (mem ⟨A,fun _=>none,fun _=>0,fun _ _ _=>undef,C.mono,fun t=>if t=i0 then some (.pointer (some ⟨pb,0,none⟩)) else none⟩ G w.heap (assoc (dz i0 (.mQ T x)).2) Lb):=
        ⟨fun b hb=>.inl hb,fun b hb=>hb,sV,fun b hb=>rfl,fun id e _ he=>⟨e,he,e.jh,gQ.refl _⟩,rfl⟩
      have hget:∀ t (hlt:t<vals.length),(vals.toArray++Array.replicate (fn.ntmps - vals.toArray.size) undef).getD t undef=vals[t]:=fun t hlt=>by
       rw [Array.getD_eq_getD_getElem?,Array.getElem?_append_left (by simpa using hlt)]
       simp [hlt]
      refine ⟨by simp [hlen];omega,fun t=>?_,⟨fun b hb=>.inr hb,Vr,fun id e he=>?_,fun y z ey ez p q hy hz hyz hp hq=>hapart y z ey ez p q hy hz hyz hp hq,fun id t l n he=>absurd rfl ((hent id _ he).2.2.1 t l n),fun id t l n he=>absurd rfl ((hent id _ he).2.2.2 t l n)⟩,rfl,fun t v ht=>?_⟩
      ·show eY _ ((vs[t]?).getD .undef) _
       cases hv:vs[t]? with
       | none=>exact trivial
       | some s=>
        have hlt:t<vals.length:=by rw [<- k2];exact (List.getElem?_eq_some_iff.1 hv).1
        rw [hget t hlt]
        exact g.slot (fun _ _ h=>h) (k4 t s vals[t] hv (List.getElem?_eq_getElem hlt))
      ·obtain ⟨h1,h2,_⟩:=hent id e he
       exact g.entry (fun _ _ _ _=>rfl) (fun p hp b hb hn hF=>hn (hF.elim (fun h=>h) (sV b))) (fun _ _ h=>h) h1
      ·have ht2:(if t=i0 then some (Value.pointer (some ⟨pb,0,none⟩)) else none)=some v:=ht
       by_cases hti:t=i0
       ·rw [if_pos hti] at ht2
        have hv:v=Value.pointer (some ⟨pb,0,none⟩):=(Option.some.inj ht2).symm
        rw [hv,hti]
        refine ⟨by show i0<((args.length+(fn.ntmps - args.length))*1048576+(i0+1)) % 1048576;omega, ?_⟩
        have hlt:i0<vals.length:=by omega
        show (vals.toArray++Array.replicate (fn.ntmps - vals.toArray.size) undef).getD i0 undef=_
        rw [hget i0 hlt]
        rw [List.getElem?_eq_getElem hlt] at hv0
        exact Option.some.inj hv0
       ·rw [if_neg hti] at ht2
        cases ht2
     have hcode:=ES (fun o=>LZ good ih o) (Jm _ ih) _ k c h hi ⟨htab,fun h=>h⟩
     refine calls_of_wp hf hb (wp_mono hcode fun e a' w' hpost=>?_)
     obtain ⟨xx,s',G',kK,hx,hret,i',fr⟩:=hpost
     have fin:(∀ j,xx ≠ .exit j)->bodyPost C.P fn _ .normal a' w':=fun hx'=>TN good hx' i' fr (i0:=i0) (pb:=pb) (by simp) hret (R:=fun e w'=>∃ v G' qs ps',e=.returned v/\w.heap.size<=w'.heap.size/\Str C.mono w w'/\(∀ b,A b->w'.heap[b]? = w.heap[b]?)/\(∀ b,G b->G' b)/\(∀ b,G' b->G b\/(¬ A b/\b<w'.heap.size)) /\
       zn true (Nat.beq fn.resultTypes.size 1) rt G' w'.heap r.1 v qs/\(∃ c e fz,w'.heap[pb]? = some (.cells c e fz)/\Free fz c.size/\c.size=T.sz/\aW T.ob G' w'.heap T r.2 c.toList ps') /\
       (∀ b ∈ blks qs++blks ps',¬ A b/\¬ G' b/\b<w'.heap.size/\b ≠ pb)/\(blks qs++blks ps').Nodup/\¬ G' pb)
      (fun v qs ps' h1 h2 h3 h4 h5 h6 h7 h8 h9 h10=>⟨v,G',qs,ps',rfl,h1,h2,h3,h4,h5,h6,h7,h8,h9,h10⟩)
     cases e with
     | normal=>exact fin (by cases xx <;> simp [mJ] at hx <;> simp)
     | ret=>exact fin (by cases xx <;> simp [mJ] at hx <;> simp)
     | exit j=>cases xx <;> simp [mJ] at hx;simp [PL] at hret
     | goto j=>cases xx <;> simp [mJ] at hx
     | panic ch=>cases xx <;> simp [mJ] at hx
     | outgrown=>cases xx <;> simp [mJ] at hx
  ·simp only [run] at h
   cases hp:C.Ld f with
   | some p=>
    rw [hp] at h
    rw [(DN f p hp).1] at hmk;cases hmk
   | none=>
    rw [hp] at h
    simp only [hf] at h
    cases hb:fn.body with
    | none=>simp [hb] at h
    | some c=>
     simp only [hb] at h
     refine ⟨rfl,fun w A G vals hA sV htab hone hargs=>?_⟩
     cases hfl:ku args 0 with
     | some iT=>
      obtain ⟨i0,T0⟩:=iT
      obtain ⟨x0,_,h0⟩:=mW hfl
      rw [Nat.sub_zero] at h0
      have hlt:i0<vals.length:=by rw [hargs.1];exact (List.getElem?_eq_some_iff.1 h0).1
      exact (hargs.2 i0 _ _ h0 (List.getElem?_eq_getElem hlt)).elim
     | none=>
     rw [hfl] at h
     simp only at h
     cases Qc:ny args 0 with
     | some iT=>
      obtain ⟨i0,T0⟩:=iT
      obtain ⟨x0,_,h0⟩:=vG Qc
      rw [Nat.sub_zero] at h0
      have hlt:i0<vals.length:=by rw [hargs.1];exact (List.getElem?_eq_some_iff.1 h0).1
      exact (hargs.2 i0 _ _ h0 (List.getElem?_eq_getElem hlt)).elim
     | none=>
     rw [Qc,hmk] at h
     simp only [cond_true] at h
     obtain ⟨k2,Lb,k3,k4,k5⟩:=xD sV 0 hargs hone
     have hi:Inv ⟨A,fun _=>none,fun _=>0,fun _ _ _=>undef,C.mono,fun _=>none⟩ G (qx 0 fn args) { tmps:=vals.toArray++Array.replicate (fn.ntmps - vals.toArray.size) undef,defers:=[] } w Lb:=by
      unfold qx
      generalize hps:bW 0 args=ps at *
      obtain ⟨vs,es⟩:=ps
      simp only at k2 k3 k4 k5 ⊢
      have Vr:∀ b,(A b\/G b)->b<w.heap.size:=fun b hb=>hb.elim (hA b) (fun h=>hA b (sV b h))
      have g:Goes (fun _=>False) ⟨A,G,w.heap,assoc es,Lb,fun _=>none,fun _=>0,fun _ _ _=>undef⟩ (mem ⟨A,fun _=>none,fun _=>0,fun _ _ _=>undef,C.mono,fun _=>none⟩ G w.heap (assoc es) Lb):=
        ⟨fun b hb=>.inl hb,fun b hb=>hb,sV,fun b hb=>rfl,fun id e _ he=>⟨e,he,e.jh,gQ.refl _⟩,rfl⟩
      refine ⟨by simp [hargs.1],fun t=>?_,⟨fun b hb=>.inr hb,Vr,fun id e he=>?_,fun x y ex ey p q hx hy hxy hp hq=>k5 x y ex ey p q hx hy hxy hp hq,fun id t l n he=>(by obtain ⟨⟨t',l',hh,_⟩ | ⟨t',l',hh,_⟩,_⟩:=k4 id _ he <;> cases hh),fun id t l n he=>(by obtain ⟨⟨t',l',hh,_⟩ | ⟨t',l',hh,_⟩,_⟩:=k4 id _ he <;> cases hh)⟩,rfl,fun t v h=>by cases h⟩
      ·show eY _ ((vs[t]?).getD .undef) _
       cases hv:vs[t]? with
       | none=>exact trivial
       | some s=>
        have hlt:t<vals.length:=by rw [<- k2];exact (List.getElem?_eq_some_iff.1 hv).1
        have hu:(vals.toArray++Array.replicate (fn.ntmps - vals.toArray.size) undef).getD t undef=vals[t]:=by
         rw [Array.getD_eq_getD_getElem?,Array.getElem?_append_left (by simpa using hlt)]
         simp [hlt]
        rw [hu]
        exact g.slot (fun _ _ h=>h) (k3 t s vals[t] hv (List.getElem?_eq_getElem hlt))
      ·obtain ⟨⟨t,l,rfl,h1,hfl⟩ | ⟨t,l,rfl,h1⟩,h2⟩:=k4 id e he
       ·exact ⟨h1,fun p hp=>⟨⟨fun ho=>(by cases ho),hfl p hp⟩,fun _ hb=>(h2 p hp p.b p.gI).1 (hb.elim (fun h=>h) (sV _))⟩⟩
       ·exact ⟨h1,fun p hp=>⟨fun b hb=>⟨(h2 p hp b hb).2,fun hF=>(h2 p hp b hb).1 (hF.elim (fun h=>h) (sV _))⟩,fun k hk=>by cases hk⟩⟩
     have hcode:=ES (fun o=>LZ good ih o) (Jm _ ih) _ k c h hi ⟨htab,fun h=>h⟩
     refine calls_of_wp hf hb (wp_mono hcode fun e a' w' hpost=>?_)
     obtain ⟨x,s',G',kK,hx,hret,i',fr⟩:=hpost
     have fin:(∀ j,x ≠ .exit j)->bodyPost C.P fn _ .normal a' w':=fun hx'=>TP good hx' i' fr hret (R:=fun e w'=>∃ pb G',e=.returned (.pointer (some ⟨pb,0,none⟩))/\w.heap.size<=w'.heap.size/\Str C.mono w w'/\(∀ b,A b->w'.heap[b]? = w.heap[b]?)/\(∀ b,G b->G' b)/\(∀ b,G' b->G b\/(¬ A b/\b<w'.heap.size)) /\
       (∃ c e fz,w'.heap[pb]? = some (.cells c e fz)/\Free fz c.size/\c.size=t.sz/\aW false G' w'.heap t r c.toList [])/\¬ A pb/\¬ G' pb)
      (fun pb h1 h2 h3 h4 h5 h6 h7 h8=>⟨pb,G',rfl,h1,h2,h3,h4,h5,h6,h7,h8⟩)
     cases e with
     | normal=>exact fin (by cases x <;> simp [mJ] at hx <;> simp)
     | ret=>exact fin (by cases x <;> simp [mJ] at hx <;> simp)
     | exit j=>cases x <;> simp [mJ] at hx;simp [UK] at hret
     | goto j=>cases x <;> simp [mJ] at hx
     | panic ch=>cases x <;> simp [mJ] at hx
     | outgrown=>cases x <;> simp [mJ] at hx
end Go.Flat
