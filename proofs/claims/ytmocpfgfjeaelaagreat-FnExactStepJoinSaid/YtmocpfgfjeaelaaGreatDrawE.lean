/- What looks, beside calls that are lent boxes and stores into boxes. No condition. -/
import Derived.Test.YtmocpfgfjeaelaaGreatDrawD
set_option linter.unusedVariables false
set_option linter.unusedSimpArgs false
namespace Go.Flat
section
variable {C:aZ} {ah:FuncId->(t:Ty)->List Arg->Option t.den} {ops:List Oper} {s0:St}
structure EX (C:aZ) (ah:FuncId->(t:Ty)->List Arg->Option t.den) (ops:List Oper) (j:Nat) (o:Oper) (s s2:St) (id:Nat):Prop where
 n:s2.n=s.n
 env:∀ t,o.dst ≠ some t->s2.env t=s.env t
 aj:∀ i e,i ≠ id->s.aj i=some e->s2.aj i=some e
 plain:uf C o=true->∀ t,o.dst=some t->(s2.env t).ids=[]
 up:∀ x v,x ∉ readsOf ops o->o.dst ≠ some x->(stepT C ops j o ⟨s.n,upd s.env x v,s.aj⟩).run ah some=some ⟨s2.n,upd s2.env x v,s2.aj⟩
theorem Iq {s t:St} {o:Oper} {f:FuncId} {vs:List av} {i id:Nat} {d:Tmp} {fn:Func} {rt:Ty} (hfn:C.P.funcs[f]? = some fn) (hone:Nat.beq fn.resultTypes.size 1=true) (hrt:resTy C fn.resultTypes.toList=some rt) (hp:rt.plain=true) (hd:o.dst=some d) (h:(lF C s o f vs [] i id).run ah some=some t):(t.env d).ids=[]:=by
 unfold lF at h
 split at h
 ·rename_i fn0 U0 cs0 Xl lK
  rw [hfn] at Xl
  cases Xl
  split at h
  ·rename_i y ids hof
   cases hb:(nodup ids && (U0.ob || ids.isEmpty)) with
   | false=>rw [hb] at h;cases h
   | true=>
    rw [hb] at h
    simp only [cond_true] at h
    split at h
    ·rename_i as cs1 rt1 _ _ Xm
     rw [hrt] at Xm
     cases Xm
     split at h
     ·cases h
     ·simp only [T.run] at h
      rw [Option.bind_eq_some_iff] at h
      obtain ⟨r,_,h⟩:=h
      generalize aA U0.ob (IJ id) U0 r.2 0=rc at h
      obtain ⟨bc,es2,jj⟩:=rc
      have hv:(fM true (Nat.beq fn.resultTypes.size 1) (ak (o.dst.getD 0)) rt r.1).1.ids=[]:=by
       simp only [fM,hone,if_true]
       generalize hg:aA true (ak (o.dst.getD 0)) rt r.1 0=rg
       obtain ⟨c,es,_⟩:=rg
       refine List.eq_nil_iff_forall_not_mem.2 fun k hk=>?_
       obtain ⟨c',hc',hk'⟩:=iq (agg:=rt.isAgg) (cs:=c) hk
       rw [(kF (own:=true) (key:=ak (o.dst.getD 0)) (x:=r.1) (j:=0) hp).2 c' (by rw [hg];exact hc')] at hk'
       simp at hk'
      generalize fM true (Nat.beq fn.resultTypes.size 1) (ak (o.dst.getD 0)) rt r.1=rs at h hv
      obtain ⟨u,es⟩:=rs
      simp only [T.run_bind,jd,hd] at h
      rw [Option.bind_eq_some_iff] at h
      obtain ⟨σ,hσ,h⟩:=h
      simp only [St.put] at h
      cases hbd:mR d (s.aJ ids).n with
      | false=>rw [hbd] at h;cases h
      | true=>
       rw [hbd] at h
       simp only [cond_true,T.bK,Option.some.injEq] at h
       subst h
       show ((upd (s.aJ ids).env d u) d).ids=[]
       rw [upd_same]
       exact hv
    ·cases h
  ·cases h
 ·cases h
theorem Vw {o:Oper} {d t:Tmp} (hb:oF C o=some (d,t)):∃ f args ats,o.op=.call ⟨.value (.func f),args,ats⟩:=by
 unfold oF at hb
 split at hb
 ·rename_i f args ats dd h1 h2
  exact ⟨f,args,_,h1⟩
 ·cases hb
theorem SB (hg:∀ o ∈ ops,o.guard=none) {j:Nat} {o:Oper} (ho:o ∈ ops) {d t:Tmp} (hb:oF C o=some (d,t)) (hc:nJ ops s0 none t=true) {s s1:St} (I:tu ops s0 s) (h:(stepT C ops j o s).run ah some=some s1) :
  o.dst=some d/\∃ id,id ∈ (s.env t).ids/\EX C ah ops j o s s1 id:=by
 obtain ⟨hd,f,args,vs,i0,id,U,cs,hr,hvs,hs,Lc,hne,zS,hcall,Cu⟩:=AZ hg ho hb hc I h
 obtain ⟨hn,hkeep,lK,_⟩:=sJ hs Lc hd hcall
 refine ⟨hd,id,by rw [zS];simp [Slot.ids,av.ids,av.cells,Cell.ids],hn,fun z hz=>hkeep z (fun e=>hz (by rw [hd,e])),fun i e hi he=>lK i e hi he,fun hp z hz=>?_,fun x v hx hxd=>?_⟩
 ·rw [hd] at hz
  cases hz
  obtain ⟨f',fn',args',i',hd',hr',ha',hfn',ZO,hs'⟩:=Po hg ho hb (j:=j)
  obtain ⟨g,as,ats,hop⟩:=Vw hb
  unfold uf at hp
  rw [hop] at hp
  simp only at hp
  cases hfg:C.P.funcs[g]? with
  | none=>rw [hfg] at hp;cases hp
  | some fn=>
   rw [hfg] at hp
   simp only [Bool.and_eq_true] at hp
   obtain ⟨hone,hp⟩:=hp
   cases hrt:resTy C fn.resultTypes.toList with
   | none=>rw [hrt] at hp;cases hp
   | some rt=>
    rw [hrt] at hp
    have h':=h
    have hgo:=hg o ho
    unfold stepT at h'
    simp only [hgo,iE hg,cond_false,T.ji] at h'
    have hbb:=hb
    unfold oF at hbb
    obtain ⟨dst,op,type,pos,after,guard⟩:=o
    simp only at hop hd hbb
    subst hop hd
    simp only [hfg] at hbb
    split at hbb
    ·rename_i i1 ZP hl ZQ
     split at hbb
     ·rename_i t1 ht1
      cases hmk:((C.sig g).wI || ((ZP.params.toList[i1]?).bind C.ty).isSome) with
      | true=>rw [hmk] at hbb;cases hbb
      | false=>
       rw [hmk] at hbb
       simp only [cond_false,Option.some.injEq,Prod.mk.injEq] at hbb
       obtain ⟨_,rfl⟩:=hbb
       simp only [Bool.or_eq_false_iff] at hmk
       simp only [jT,St.ev] at h'
       cases Vx:bg s as.toList with
       | none=>rw [Vx] at h';cases h'
       | some vs2=>
        rw [Vx] at h'
        obtain ⟨c,hc1,hc2⟩:=xQ Vx ht1
        rw [zS] at hc2
        cases hc2
        simp only [zH,hl,hmk.1,cond_false,hc1] at h'
        exact Iq hfg hone hrt hp rfl h'
     ·cases hbb
    ·cases hbb
 ·have Yy:x ≠ d:=fun e=>hxd (by rw [hd,e])
  have Sy:bg ⟨s.n,upd s.env x v,s.aj⟩ args=some vs:=by
   rw [<- hvs]
   exact oN (fun u hu (e:u=x)=>hx (by rw [<- e];exact hr u hu ops))
  rw [Cu _ Sy,zW hs Lc hd Yy,hcall]
  rfl
theorem Jz {o:Oper} {q:Tmp} (hb:wT C ops s0 o=some q):∃ t x,o.op=.store t (.tmp q) x/\o.dst=none/\C.gives.contains t=false/\q ∉ dstsOf ops/\cK (s0.env q)=true:=by
 unfold wT at hb
 split at hb
 ·rename_i t q' x h1 h2
  cases hc:(!C.gives.contains t && !(dstsOf ops).contains q' && cK (s0.env q')) with
  | false=>rw [hc] at hb;cases hb
  | true=>
   rw [hc] at hb
   simp only [cond_true,Option.some.injEq] at hb
   subst hb
   simp only [Bool.and_eq_true,Bool.not_eq_true'] at hc
   exact ⟨t,x,h1,h2,hc.1.1,by simpa using hc.1.2,hc.2⟩
 ·cases hb
theorem Vy {v:Slot} (h:cK v=true):∃ id off,v=.one (.cell (.ptr id off)):=by
 unfold cK at h
 split at h
 ·exact ⟨_,_,rfl⟩
 ·cases h
theorem Ov (hg:∀ o ∈ ops,o.guard=none) {j:Nat} {o:Oper} (ho:o ∈ ops) {q:Tmp} (hb:wT C ops s0 o=some q) {s s1:St} (I:tu ops s0 s) (h:(stepT C ops j o s).run ah some=some s1) :
  iH C o=true/\∃ id,id ∈ (s0.env q).ids/\EX C ah ops j o s s1 id:=by
 obtain ⟨t,x,hop,hd,hgv,hq,hpt⟩:=Jz hb
 have hst:iH C o=true:=zU hop hd hgv
 obtain ⟨id,off,hp⟩:=Vy hpt
 have ZR:s.env q=.one (.cell (.ptr id off)):=(I.1 q hq).trans hp
 obtain ⟨hn,he,_⟩:=jw (env':=s.env) hst (fun _ _=>rfl) h
 refine ⟨hst,id,by rw [hp];simp [Slot.ids,av.ids,av.cells,Cell.ids],hn,fun z _=>by rw [he],fun i e hi he'=>?_,fun _ z hz=>(by rw [hd] at hz;cases hz),fun x v hx hxd=>?_⟩
 ·rcases Cr hd hop ZR h with h1 | ⟨ty,cs,cs',h1,h2⟩
  ·rw [h1];exact he'
  ·rw [h2,upd_ne _ _ hi];exact he'
 ·obtain ⟨_,_,h3⟩:=jw (env':=upd s.env x v) hst (fun r hr=>upd_ne _ _ (fun e=>hx (e ▸ hr))) h
  rw [h3,hn,he]
structure MI (D:De) (s:St):Prop where
 shut:Shut s fun i=>i ∈ D.P
 look:∀ t,(t ∈ D.LS\/t ∈ D.Z)->∀ i ∈ (s.env t).ids,i ∈ D.P
theorem Ow {D:De} {s:St} (h:Nu ops D s=true):MI D s/\∀ t ∈ D.NN,t ∉ dstsOf ops/\notNil (s.env t)=true:=by
 unfold Nu at h
 simp only [Bool.and_eq_true] at h
 obtain ⟨⟨⟨h1,h2⟩,h3⟩,h4⟩:=h
 refine ⟨⟨⟨fun i hi=>?_,fun i t cs hi hs c hc j hj=>?_⟩,fun t ht i hi=>?_⟩,fun t ht=>?_⟩
 ·have:=List.all_eq_true.1 h1 i hi
  split at this
  ·rename_i hs;exact ⟨_,hs⟩
  ·rename_i hs;exact ⟨_,hs⟩
  ·cases this
 ·have:=List.all_eq_true.1 h1 i hi
  rw [hs] at this
  exact mK (List.all_eq_true.1 this c hc) j hj
 ·rcases ht with ht | ht
  ·exact mK (List.all_eq_true.1 h2 t ht) i hi
  ·exact mK (List.all_eq_true.1 h3 t ht) i hi
 ·have:=List.all_eq_true.1 h4 t ht
  simp only [Bool.and_eq_true,Bool.not_eq_true'] at this
  exact ⟨by simpa using this.1,this.2⟩
theorem Ir {s:St} {u:Ty} {i:Int} {c c':Cell} (hc:(jG s u i c).run ah some=some c'):∀ i ∈ c'.ids,i ∈ c.ids:=by
 intro i hi
 cases c <;> simp only [jG] at hc <;> try (cases hc;done)
 case list fr t l=>
  split at hc
  ·simp only [T.test,T.run] at hc
   split at hc
   ·split at hc
    ·cases hc;simp [Cell.ids] at hi
    ·cases hc
   ·cases hc
  ·cases hc
 all_goals
  split at hc
  ·split at hc
   ·simp only [T.test,T.run] at hc
    split at hc
    ·split at hc
     ·cases hc
      exact hi
     ·cases hc
    ·cases hc
   ·cases hc
  ·cases hc
theorem Gt {agg:Bool} {cs:List Cell}:∀ i ∈ (aP agg cs).ids,∃ c ∈ cs,i ∈ c.ids:=by
 intro i hi
 unfold aP at hi
 cases agg with
 | true=>simpa [av.ids,av.cells,List.mem_flatMap] using hi
 | false=>
  match cs,hi with
  | [],hi=>simp [av.ids,av.cells] at hi
  | [c],hi=>exact ⟨c,by simp,by simpa [av.ids,av.cells] using hi⟩
  | a :: b :: r,hi=>simpa [av.ids,av.cells,List.mem_flatMap] using hi
theorem Cw {o:Oper} {s:St} {P:Nat->Prop} {nn:List Tmp} (hP:Shut s P) (hnn:∀ t ∈ nn,notNil (s.env t)=true) (hl:Fj C nn o=true) (hr:∀ r ∈ readsOf ops o,∀ i ∈ (s.env r).ids,P i) {v:Slot} {es:List (Nat × Entry)} (h:(aS C o s).run ah some=some (v,es)):es=[]/\∀ i ∈ v.ids,P i:=by
 unfold Fj at hl
 simp only [Bool.or_eq_true] at hl
 rcases hl with hl | hl
 ·exact Bb hP hl hr h
 have rd:∀ x ∈ o.op.operands.toList,∀ i ∈ (s.ev x).ids,P i:=by
  intro x hx i hi
  obtain ⟨t,rfl,ht⟩:=vL hi
  exact hr t (by unfold readsOf;exact List.mem_append_left _ (List.mem_filterMap.2 ⟨_,hx,rfl⟩)) i ht
 obtain ⟨dst,op,type,pos,after,guard⟩:=o
 cases op <;> simp only at hl <;> try (cases hl;done)
 case move x=>
  cases x with
  | tmp z=>
   simp only at hl
   have hz:∀ i ∈ (s.ev (.tmp z)).ids,P i:=rd (.tmp z) (by simp [Op.operands])
   have hnz:=hnn z (by simpa using hl)
   simp only [aS] at h
   split at h
   ·rename_i hq
    have hq:s.env z=.one (.cell .nil):=hq
    rw [hq] at hnz
    cases hnz
   ·cases h
    exact ⟨rfl,hz⟩
  | _=>cases hl
 case indexAddr t x ix=>
  simp only [aS] at h
  rw [T.run_bind] at h
  obtain ⟨_,_,h⟩:=T.aD h
  split at h
  ·rename_i u c hu hx
   rw [T.run_bind] at h
   obtain ⟨c',hc,h⟩:=T.aD h
   cases h
   refine ⟨rfl,fun i hi=>?_⟩
   have hi:i ∈ c'.ids:=by simpa [Slot.ids,av.ids,av.cells] using hi
   exact rd x (by simp [Op.operands]) i (by rw [hx];simpa [Slot.ids,av.ids,av.cells] using Ir hc i hi)
  ·cases h
 case index t x ix=>
  simp only [aS] at h
  rw [T.run_bind] at h
  obtain ⟨_,_,h⟩:=T.aD h
  split at h
  ·simp only [T.test,T.run] at h
   split at h
   ·split at h
    ·cases h
     exact ⟨rfl,fun i hi=>by simp [Slot.ids,av.ids,av.cells,Cell.ids] at hi⟩
    ·cases h
   ·cases h
  ·cases h
 case binOp op t x y t'=>
  simp only [aS,T.run_bind] at h
  obtain ⟨_,_,h⟩:=T.aD h
  obtain ⟨_,_,h⟩:=T.aD h
  obtain ⟨c,hc,h⟩:=T.aD h
  cases h
  refine ⟨rfl,fun i hi=>?_⟩
  have hi:i ∈ c.ids:=by simpa [Slot.ids,av.ids,av.cells] using hi
  rw [Jv hc] at hi
  simp at hi
 case unOp op t x=>
  simp only [aS,T.run_bind] at h
  obtain ⟨a,_,h⟩:=T.aD h
  obtain ⟨c,hc,h⟩:=T.aD h
  cases h
  refine ⟨rfl,fun i hi=>?_⟩
  have hi:i ∈ c.ids:=by simpa [Slot.ids,av.ids,av.cells] using hi
  exfalso
  unfold Go.Flat.unOp at hc
  split at hc <;> first
   | (cases hc;done)
   | (cases hc;simp [Cell.ids] at hi)
 case extract x k=>
  simp only [aS] at h
  split at h
  ·rename_i cs hx
   split at h
   ·rename_i c hc
    cases h
    refine ⟨rfl,fun i hi=>rd x (by simp [Op.operands]) i ?_⟩
    rw [hx]
    exact List.mem_flatMap.2 ⟨c,List.mem_of_getElem? hc,hi⟩
   ·cases h
  ·cases h
 case build t parts=>
  simp only [aS] at h
  split at h
  ·split at h
   ·split at h
    ·rename_i u hu hagg cs hcs
     cases h
     refine ⟨rfl,fun i hi=>?_⟩
     have hi:∃ c ∈ cs,i ∈ c.ids:=by simpa [Slot.ids,av.ids,av.cells,List.mem_flatMap] using hi
     rcases rH hcs hi with ⟨c,hc,hic⟩ | ⟨p,hp,Xc⟩
     ·rw [nD _ c hc] at hic;simp at hic
     ·exact rd p.2 (by simp only [Op.operands,List.mem_map];exact ⟨p,hp,rfl⟩) i Xc
    ·cases h
   ·cases h
  ·cases h
 case field t x k=>
  simp only [aS] at h
  split at h
  ·rename_i off u cs hf hx
   split at h
   ·split at h
    ·cases h
     refine ⟨rfl,fun i hi=>rd x (by simp [Op.operands]) i ?_⟩
     obtain ⟨c,hc,hic⟩:=Gt i hi
     rw [hx]
     have:c ∈ cs:=List.mem_of_mem_drop (List.mem_of_mem_take hc)
     exact List.mem_flatMap.2 ⟨c,this,hic⟩
    ·cases h
   ·cases h
  ·cases h
 case buildSlice t n parts=>
  simp only [aS] at h
  split at h
  ·split at h
   ·split at h
    ·rw [Bool.cond_eq_ite] at h
     split at h
     ·cases h
      exact ⟨rfl,fun i hi=>by simp [Slot.ids,av.ids,av.cells,Cell.ids] at hi⟩
     ·rename_i hn
      exact absurd hl hn
    ·cases h
   ·cases h
  ·cases h
 case call c=>
  obtain ⟨callee,args,argTypes⟩:=c
  cases callee with
  | invoke _ _=>simp at hl
  | value g=>simp at hl
  | builtin b=>
   cases b <;> simp only at hl <;> try (cases hl;done)
   case len=>
    simp only [aS] at h
    split at h
    ·split at h
     ·rw [T.run_bind] at h
      obtain ⟨_,_,h⟩:=T.aD h
      cases h
      exact ⟨rfl,fun i hi=>by simp [Slot.ids,av.ids,av.cells,Cell.ids] at hi⟩
     ·cases h
    ·cases h
variable {D:De}
theorem Gu (hg:∀ o ∈ ops,o.guard=none) {j:Nat} {o:Oper} (ho:o ∈ ops) (hb:Fp C ops s0 D o=true) {s s1:St} (I:tu ops s0 s) (h:(stepT C ops j o s).run ah some=some s1) :
  tu ops s0 s1/\(∀ d,o.dst=some d->d ∉ D.Z/\(d ∈ D.LS->uf C o=true))/\∃ id,id ∉ D.P/\EX C ah ops j o s s1 id:=by
 unfold Fp at hb
 split at hb
 ·rename_i d t hbx
  simp only [Bool.and_eq_true,Bool.not_eq_true',Bool.or_eq_true] at hb
  obtain ⟨⟨⟨h1,h2⟩,h3⟩,h4⟩:=hb
  obtain ⟨hd,id,hid,r⟩:=SB hg ho hbx h1 I h
  refine ⟨ME hg ho hbx h1 I h,fun d' hd'=>?_,id, ?_,r⟩
  ·rw [hd] at hd'
   cases hd'
   refine ⟨by simpa using h3,fun hm=>h4.resolve_left fun e=>?_⟩
   have:D.LS.contains d=true:=by simpa using hm
   rw [this] at e
   cases e
  ·refine vJ h2 id ?_
   unfold Nt
   rcases I.2.1 t with e | ⟨o',ho',hd',hm⟩
   ·rw [e] at hid
    exact List.mem_append_left _ hid
   ·have hcc:=h1
    unfold nJ at hcc
    simp only [Bool.and_eq_true] at hcc
    have:=List.all_eq_true.1 hcc.2 o' ho'
    simp only [hd',beq_self_eq_true,Bool.not_true,Bool.false_or] at this
    split at this
    ·rename_i z hz
     simp only [Bool.and_eq_true,Bool.not_eq_true'] at this
     obtain ⟨⟨k1,k2⟩,k3⟩:=this
     rw [hm z hz (by simpa using k1) k2] at hid
     refine List.mem_append_right _ (List.mem_flatMap.2 ⟨o',ho', ?_⟩)
     simp only [hd',beq_self_eq_true,cond_true,hz]
     exact hid
    ·cases this
 ·split at hb
  ·rename_i q hq
   obtain ⟨hst,id,hid,r⟩:=Ov hg ho hq I h
   exact ⟨Gn hg ho hst I h,fun d hd=>(by rw [(Jz hq).choose_spec.choose_spec.2.1] at hd;cases hd),id,vJ hb id hid,r⟩
  ·cases hb
theorem Qo {j:Nat} {o:Oper} {s s1:St} {id:Nat} (I:MI D s) (hd:∀ d,o.dst=some d->d ∉ D.Z/\(d ∈ D.LS->uf C o=true)) (hid:id ∉ D.P) (r:EX C ah ops j o s s1 id):MI D s1:=by
 have hP:∀ i,i ∈ D.P->s1.aj i=s.aj i:=fun i hi=>by
  obtain ⟨e,he⟩:=I.shut.ent i hi
  rw [he]
  exact r.aj i e (fun e=>hid (e ▸ hi)) he
 refine ⟨I.shut.same hP,fun t ht i hi=>?_⟩
 by_cases htd:o.dst=some t
 ·obtain ⟨h1,h2⟩:=hd t htd
  have h3:=ht.resolve_right h1
  rw [r.plain (h2 h3) t htd] at hi
  simp at hi
 ·rw [r.env t htd] at hi
  exact I.look t ht i hi
theorem Ox (hg:∀ o ∈ ops,o.guard=none) {j:Nat} {o:Oper} (ho:o ∈ ops) (hq:aT C o=true) {x:Tmp} (hx:o.dst=some x)
  (hc:(x ∈ D.LS/\Fj C D.NN o=true/\∀ r ∈ readsOf ops o,r ∈ D.LS\/r ∈ D.Z)\/(x ∉ D.LS/\x ∉ D.Z)) (hz:x ∈ D.LS->x ∉ D.Z\/True)
  {s s2:St} (hnn:∀ t ∈ D.NN,notNil (s.env t)=true) (I:MI D s) (h:(stepT C ops j o s).run ah some=some s2):MI D s2:=by
 obtain ⟨x',v,es,σ,hx',hv,hσ,_,rfl⟩:=mM hg ho hq h
 rw [hx] at hx'
 cases hx'
 have hP:∀ i,i ∈ D.P->σ i=s.aj i:=fun i hi=>by
  obtain ⟨e,he⟩:=I.shut.ent i hi
  rw [he]
  exact eB hσ i e he
 refine ⟨I.shut.same hP,fun t ht i hi=>?_⟩
 have hi:i ∈ (upd s.env x v t).ids:=hi
 by_cases htx:t=x
 ·subst htx
  rw [upd_same] at hi
  rcases hc with ⟨h1,h2,h3⟩ | ⟨h1,h2⟩
  ·exact (Cw I.shut hnn h2 (fun r hr=>I.look r (h3 r hr)) hv).2 i hi
  ·exact (ht.elim h1 h2).elim
 ·rw [upd_ne _ _ htx] at hi
  exact I.look t ht i hi
theorem JA {a b:Oper} (h:BX C ops s0 D a b=true):∃ x,a.dst=some x/\aT C a=true/\Fj C D.NN a=true/\x ∈ D.LS/\(∀ r ∈ readsOf ops a,r ∈ D.LS\/r ∈ D.Z)/\Fp C ops s0 D b=true/\x ∉ readsOf ops b/\b.dst ≠ some x/\∀ d,b.dst=some d->d ∉ readsOf ops a:=by
 unfold BX at h
 simp only [Bool.and_eq_true] at h
 obtain ⟨⟨⟨⟨⟨h1,h2⟩,h3⟩,h4⟩,h5⟩,h6⟩:=h
 split at h5
 ·rename_i x hx
  simp only [Bool.and_eq_true,Bool.not_eq_true'] at h5
  obtain ⟨⟨k1,k2⟩,k3⟩:=h5
  refine ⟨x,hx,h1,h2,by simpa using k1,fun r hr=>?_,h3,by simpa using k2,fun e=>?_,fun d hd=>?_⟩
  ·have:=List.all_eq_true.1 h4 r hr
   simpa using this
  ·rw [e] at k3
   simp at k3
  ·rw [hd] at h6
   simpa using h6
 ·cases h5
theorem Gv (hg:∀ o ∈ ops,o.guard=none) {i j:Nat} {p o:Oper} (hp:p ∈ ops) (ho:o ∈ ops) {s s1 s2:St} (W:tu ops s0 s) (I:MI D s) (hnn:∀ t ∈ D.NN,notNil (s.env t)=true) (hc:BX C ops s0 D p o=true)
  (h1:(stepT C ops i p s).run ah some=some s1) (h2:(stepT C ops j o s1).run ah some=some s2) :
  ∃ s',(stepT C ops j o s).run ah some=some s'/\(stepT C ops i p s').run ah some=some s2:=by
 obtain ⟨x,hx,hq,hl,XN,Ux,hb,hxo,hxd,hdp⟩:=JA hc
 have W1:=rJ hg hp hq W h1
 obtain ⟨x',v,es,σ,hx',hv,hσ,hin,rfl⟩:=mM hg hp hq h1
 rw [hx] at hx'
 cases hx'
 obtain ⟨he,Xj⟩:=Cw I.shut hnn hl (fun r hr=>I.look r (Ux r hr)) hv
 subst he
 simp only [bn,Option.some.injEq] at hσ
 subst hσ
 obtain ⟨_,hd,id,hid,r⟩:=Gu hg ho hb W1 h2
 have hup:(stepT C ops j o ⟨s.n,upd (upd s.env x v) x (s.env x),s.aj⟩).run ah some=some ⟨s2.n,upd s2.env x (s.env x),s2.aj⟩:=r.up x (s.env x) hxo hxd
 have e0:(⟨s.n,upd (upd s.env x v) x (s.env x),s.aj⟩:St)=s:=by
  have:upd (upd s.env x v) x (s.env x)=s.env:=by
   rw [vH]
   funext t
   by_cases ht:t=x
   ·subst ht;exact upd_same _ _ _
   ·exact upd_ne _ _ ht
  rw [this]
 rw [e0] at hup
 refine ⟨_,hup, ?_⟩
 have lK:∀ k,k ∈ D.P->s2.aj k=s.aj k:=fun k hk=>by
  obtain ⟨e,he⟩:=I.shut.ent k hk
  rw [he]
  exact r.aj k e (fun e=>hid (e ▸ hk)) he
 have zS:∀ t,t ∈ readsOf ops p->upd s2.env x (s.env x) t=s.env t:=fun t ht=>by
  by_cases htx:t=x
  ·subst htx;exact upd_same _ _ _
  ·have htd:o.dst ≠ some t:=fun e=>hdp t e ht
   rw [upd_ne _ _ htx,r.env t htd]
   exact upd_ne _ _ htx
 have hv':(aS C p ⟨s2.n,upd s2.env x (s.env x),s2.aj⟩).run ah some=some (v,[]):=by
  rw [yH (ops:=ops) (s:=s) (s1:=⟨s2.n,upd s2.env x (s.env x),s2.aj⟩) I.shut hq zS (fun t ht=>I.look t (Ux t ht)) lK]
  exact hv
 rw [oO hg hp hq hx hv' (by show mR x s2.n=true;rw [r.n];exact hin)]
 have e1:upd (upd s2.env x (s.env x)) x v=s2.env:=by
  rw [vH]
  funext t
  by_cases ht:t=x
  ·subst ht
   rw [upd_same,r.env t hxd]
   show v=upd s.env t v t
   rw [upd_same]
  ·exact upd_ne _ _ ht
 show some (⟨s2.n,upd (upd s2.env x (s.env x)) x v,s2.aj⟩:St)=some s2
 rw [e1]
theorem Gw (hg:∀ o ∈ ops,o.guard=none) {i j:Nat} {p o:Oper} (hp:p ∈ ops) (ho:o ∈ ops) {s s1 s2:St} (W:tu ops s0 s) (I:MI D s) (hnn:∀ t ∈ D.NN,notNil (s.env t)=true) (hc:BX C ops s0 D o p=true)
  (h1:(stepT C ops i p s).run ah some=some s1) (h2:(stepT C ops j o s1).run ah some=some s2) :
  ∃ s',(stepT C ops j o s).run ah some=some s'/\(stepT C ops i p s').run ah some=some s2:=by
 obtain ⟨x,hx,hq,hl,XN,hro,hb,hxp,hxd,hdo⟩:=JA hc
 obtain ⟨_,hd,id,hid,r⟩:=Gu hg hp hb W h1
 have lK:∀ k,k ∈ D.P->s1.aj k=s.aj k:=fun k hk=>by
  obtain ⟨e,he⟩:=I.shut.ent k hk
  rw [he]
  exact r.aj k e (fun e=>hid (e ▸ hk)) he
 have zS:∀ t,t ∈ readsOf ops o->s1.env t=s.env t:=fun t ht=>r.env t (fun e=>hdo t e ht)
 obtain ⟨x',v,es,σ,hx',hv,hσ,hin,rfl⟩:=mM hg ho hq h2
 rw [hx] at hx'
 cases hx'
 have hv:(aS C o s).run ah some=some (v,es):=by
  rw [<- yH (ops:=ops) I.shut hq zS (fun t ht=>I.look t (hro t ht)) lK]
  exact hv
 obtain ⟨he,Xj⟩:=Cw I.shut hnn hl (fun t ht=>I.look t (hro t ht)) hv
 subst he
 simp only [bn,Option.some.injEq] at hσ
 subst hσ
 exact ⟨_,oO hg ho hq hx hv (by rw [<- r.n];exact hin),r.up x v hxp hxd⟩
end
def Xn {C:aZ} {ah:FuncId->(t:Ty)->List Arg->Option t.den} (ops:Array Oper) (D:De) (s0:St) (hg:∀ o ∈ ops.toList,o.guard=none) (cut:Nat)
  (vI:∀ {j:Nat} {o:Oper},cut<=j->ops[j]? = some o->∀ k,k<j->(∃ m,(fO ops.toList [])[j]? = some m/\m.testBit k=true)\/(cut<=k/\∃ p,ops[k]? = some p/\rY C ops.toList p o=true))
  (hq:∀ (j:Nat) (o:Oper),ops[j]? = some o->j<cut->Nv C ops.toList s0 D o=true):Gh C ah ops:=
 have mem:∀ {i:Nat} {o:Oper},ops[i]? = some o->o ∈ ops.toList:=fun h=>Array.mem_toList_iff.2 (Array.mem_of_getElem? h)
 have nn:∀ {s:St},tu ops.toList s0 s->(∀ t ∈ D.NN,t ∉ dstsOf ops.toList/\notNil (s0.env t)=true)->∀ t ∈ D.NN,notNil (s.env t)=true:=fun W h t ht=>by rw [W.1 t (h t ht).1];exact (h t ht).2
 ⟨Rj C ops.toList s0 D,fun s=>tu ops.toList s0 s/\MI D s/\∀ t ∈ D.NN,t ∉ dstsOf ops.toList/\notNil (s0.env t)=true,fun j=>Nat.ble cut j,fun h1 h2=>by rw [Nat.ble_eq] at h1 ⊢;omega,
  fun h1 h2 k hk=>by
   rw [Nat.ble_eq] at h1
   rcases vI h1 h2 k hk with h | h
   ·exact .inl h
   ·exact .inr ⟨by rw [Nat.ble_eq];exact h.1,h.2⟩,
  fun {s s1 o j} hI htl ho h=>by
   obtain ⟨W,I,N⟩:=hI
   have hk:=hq j o ho (by have:¬ cut<=j:=fun hh=>(by rw [Nat.ble_eq_true_of_le hh] at htl;cases htl);omega)
   unfold Nv at hk
   simp only [Bool.or_eq_true] at hk
   rcases hk with hk | hk
   ·obtain ⟨W1,hd,id,hid,r⟩:=Gu hg (mem ho) hk W h
    exact ⟨W1,Qo I hd hid r,N⟩
   ·simp only [Bool.and_eq_true] at hk
    obtain ⟨hqo,hk⟩:=hk
    split at hk
    ·cases hk
    ·rename_i x hx
     refine ⟨rJ hg (mem ho) hqo W h,Ox hg (mem ho) hqo hx ?_ (fun _=>.inr trivial) (nn W N) I h,N⟩
     cases hL:D.LS.contains x with
     | true=>
      rw [hL] at hk
      simp only [cond_true,Bool.and_eq_true] at hk
      refine .inl ⟨by simpa using hL,hk.1,fun r hr=>?_⟩
      have:=List.all_eq_true.1 hk.2 r hr
      simpa using this
     | false=>
      rw [hL] at hk
      exact .inr ⟨by simpa using hL,by simpa using hk⟩,
  fun {i j p o s s1 s2} l hI hp ho hcm h1 h2=>by
   obtain ⟨W,I,N⟩:=hI
   unfold Rj at hcm
   simp only [Bool.or_eq_true] at hcm
   rcases hcm with (hcm | hcm) | hcm
   ·unfold Lg at hcm
    simp only [Bool.or_eq_true] at hcm
    rcases hcm with (hcm | hcm) | hcm
    ·exact nS l hcm h1 h2
    ·exact zw hg (mem hp) (mem ho) W hcm (rJ hg (mem hp) (DT hcm) W h1) h1 h2
    ·exact zx hg (mem hp) (mem ho) l W hcm h1 h2
   ·exact Gv hg (mem hp) (mem ho) W I (nn W N) hcm h1 h2
   ·exact Gw hg (mem hp) (mem ho) W I (nn W N) hcm h1 h2⟩
end Go.Flat
