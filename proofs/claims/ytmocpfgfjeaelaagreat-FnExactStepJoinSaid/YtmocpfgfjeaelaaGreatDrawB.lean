/- A pointer that is copied, beside an append. No condition. -/
import Derived.Test.YtmocpfgfjeaelaaGreatDrawA
set_option linter.unusedVariables false
set_option linter.unusedSimpArgs false
namespace Go.Flat
section
variable {C:aZ} {ah:FuncId->(t:Ty)->List Arg->Option t.den} {ops:List Oper} {s0:St}
theorem om {v:Slot} (h:cK v=true) (id:Nat):v.kill id=v:=by
 unfold cK at h
 split at h
 ·rfl
 ·cases h
theorem Mt {a b:Oper} (h:IZ C ops s0 a b=true):∃ x z t y d,a.op=.move (.tmp z)/\a.dst=some x/\iM b=some (t,y,d)/\iY C b=true/\cK (s0.env z)=true/\z ∉ dstsOf ops/\x ∉ readsOf ops b/\x ≠ d:=by
 unfold IZ at h
 split at h
 ·rename_i z x t y d h1 h2 h3
  simp only [Bool.and_eq_true,Bool.not_eq_true'] at h
  obtain ⟨⟨⟨⟨k1,k2⟩,k3⟩,k4⟩,k5⟩:=h
  refine ⟨x,z,t,y,d,h1,h2,h3,k1,k2,by simpa using k3,by simpa using k4,fun e=>?_⟩
  subst e
  simp at k5
 ·cases h
theorem jZ (hg:∀ o ∈ ops,o.guard=none) {i:Nat} {o:Oper} (ho:o ∈ ops) {x z:Tmp} (h1:o.op=.move (.tmp z)) (h2:o.dst=some x) {s:St} (hp:cK (s.env z)=true) :
  (stepT C ops i o s).run ah some=if mR x s.n=true then some ⟨s.n,upd s.env x (s.env z),s.aj⟩ else none:=by
 have hgo:=hg o ho
 unfold stepT
 simp only [hgo,iE hg,cond_false,T.ji]
 obtain ⟨dst,op,type,pos,after,guard⟩:=o
 simp only at h1 h2
 subst h1 h2
 unfold cK at hp
 split at hp
 ·rename_i q off he
  simp only [jT,St.ev,he,St.put]
  cases hb:mR x s.n <;> simp [T.run]
 ·cases hp
theorem lH {o:Oper} (ho:o ∈ ops) {x:Tmp} (h:o.dst=some x):x ∈ dstsOf ops:=by
 simp only [dstsOf,List.mem_filterMap]
 exact ⟨o,ho,h⟩
def MInv (ops:List Oper) (s0 s:St):Prop:=∀ t,t ∉ dstsOf ops->cK (s0.env t)=true->s.env t=s0.env t
theorem Ky (hg:∀ o ∈ ops,o.guard=none) {i j:Nat} {p o:Oper} (hp:p ∈ ops) (ho:o ∈ ops) {s s1 s2:St} (l:Live s) (I:MInv ops s0 s) (hc:IZ C ops s0 p o=true)
  (h1:(stepT C ops i p s).run ah some=some s1) (h2:(stepT C ops j o s1).run ah some=some s2) :
  ∃ s',(stepT C ops j o s).run ah some=some s'/\(stepT C ops i p s').run ah some=some s2:=by
 obtain ⟨x,z,t,y,d,hop,hx,hb,hfl,hpt,hz,hxo,hxd⟩:=Mt hc
 obtain ⟨hod,hrd⟩:=kU hb
 have htx:t ≠ x:=fun e=>hxo (e ▸ hrd t (by simp) ops)
 have hyx:y ≠ x:=fun e=>hxo (e ▸ hrd y (by simp) ops)
 have hzd:z ≠ d:=fun e=>hz (e ▸ lH ho hod)
 have hpz:cK (s.env z)=true:=by rw [I z hz hpt];exact hpt
 rw [jZ hg hp hop hx hpz] at h1
 split at h1
 ·rename_i hbx
  simp only [Option.some.injEq] at h1
  subst h1
  rw [iK hg ho hfl hb] at h2
  have hvs:qB C o t y ⟨s.n,upd s.env x (s.env z),s.aj⟩=qB C o t y s:=lY (upd_ne _ _ htx) (upd_ne _ _ hyx) (fun _ _=>rfl) (fun _ _=>rfl)
  rw [hvs] at h2
  rw [kM] at h2
  obtain ⟨⟨w,E⟩,hw,h2⟩:=Option.bind_eq_some_iff.1 h2
  cases w with
  | none=>
   simp only [iP] at h2
   split at h2
   ·rename_i hk
    cases hbd:mR d s.n with
    | false=>rw [hbd] at h2;cases h2
    | true=>
     rw [hbd] at h2
     simp only [cond_true,Option.some.injEq] at h2
     subst h2
     refine ⟨⟨s.n,upd s.env d (.cell (.ref (ak d 0))),upd s.aj (ak d 0) (some E)⟩, ?_, ?_⟩
     ·rw [iK hg ho hfl hb,hw]
      simp only [Option.bind_some,iP,hk,hbd,cond_true]
     ·have he:upd s.env d (.cell (.ref (ak d 0))) z=s.env z:=upd_ne _ _ hzd
      rw [jZ hg hp hop hx (by have hq:=hpz;rw [<- he] at hq;exact hq)]
      simp only [hbx,if_true,he]
      rw [iO _ _ _ hxd]
   ·cases h2
  | some id=>
   simp only [iP] at h2
   cases hbd:mR d s.n with
   | false=>rw [hbd] at h2;cases h2
   | true=>
    rw [hbd] at h2
    simp only [cond_true,Option.some.injEq] at h2
    subst h2
    refine ⟨⟨s.n,upd (fun t=>(s.env t).kill id) d (.cell (.ref id)),wJ s.aj id E⟩, ?_, ?_⟩
    ·rw [iK hg ho hfl hb,hw]
     simp only [Option.bind_some,iP,hbd,cond_true]
    ·have he:upd (fun t=>(s.env t).kill id) d (.cell (.ref id)) z=s.env z:=(upd_ne _ _ hzd).trans (om hpz id)
     rw [jZ hg hp hop hx (by have hq:=hpz;rw [<- he] at hq;exact hq)]
     simp only [hbx,if_true,he]
     have Sv:(fun t=>(upd s.env x (s.env z) t).kill id)=upd (fun t=>(s.env t).kill id) x (s.env z):=by
      funext u
      by_cases hu:u=x
      ·subst hu;rw [upd_same,upd_same,om hpz]
      ·rw [upd_ne _ _ hu,upd_ne _ _ hu]
     simp only [Sv]
     rw [iO _ _ _ hxd]
 ·cases h1
theorem Kz (hg:∀ o ∈ ops,o.guard=none) {i j:Nat} {p o:Oper} (hp:p ∈ ops) (ho:o ∈ ops) {s s1 s2:St} (l:Live s) (I:MInv ops s0 s) (hc:IZ C ops s0 o p=true)
  (h1:(stepT C ops i p s).run ah some=some s1) (h2:(stepT C ops j o s1).run ah some=some s2) :
  ∃ s',(stepT C ops j o s).run ah some=some s'/\(stepT C ops i p s').run ah some=some s2:=by
 obtain ⟨x,z,t,y,d,hop,hx,hb,hfl,hpt,hz,hxo,hxd⟩:=Mt hc
 obtain ⟨hod,hrd⟩:=kU hb
 have htx:t ≠ x:=fun e=>hxo (e ▸ hrd t (by simp) ops)
 have hyx:y ≠ x:=fun e=>hxo (e ▸ hrd y (by simp) ops)
 have hzd:z ≠ d:=fun e=>hz (e ▸ lH hp hod)
 have hpz:cK (s.env z)=true:=by rw [I z hz hpt];exact hpt
 have hvs:qB C p t y ⟨s.n,upd s.env x (s.env z),s.aj⟩=qB C p t y s:=lY (upd_ne _ _ htx) (upd_ne _ _ hyx) (fun _ _=>rfl) (fun _ _=>rfl)
 rw [iK hg hp hfl hb] at h1
 rw [kM] at h1
 obtain ⟨⟨w,E⟩,hw,h1⟩:=Option.bind_eq_some_iff.1 h1
 cases w with
 | none=>
  simp only [iP] at h1
  split at h1
  ·rename_i hk
   cases hbd:mR d s.n with
   | false=>rw [hbd] at h1;cases h1
   | true=>
    rw [hbd] at h1
    simp only [cond_true,Option.some.injEq] at h1
    subst h1
    have he:upd s.env d (.cell (.ref (ak d 0))) z=s.env z:=upd_ne _ _ hzd
    rw [jZ hg ho hop hx (by have hq:=hpz;rw [<- he] at hq;exact hq)] at h2
    split at h2
    ·rename_i hbx
     simp only [Option.some.injEq,he] at h2
     subst h2
     refine ⟨⟨s.n,upd s.env x (s.env z),s.aj⟩,by rw [jZ hg ho hop hx hpz,if_pos hbx], ?_⟩
     rw [iK hg hp hfl hb,hvs,hw]
     simp only [Option.bind_some,iP,hk,hbd,cond_true]
     rw [iO _ _ _ hxd]
    ·cases h2
  ·cases h1
 | some id=>
  simp only [iP] at h1
  cases hbd:mR d s.n with
  | false=>rw [hbd] at h1;cases h1
  | true=>
   rw [hbd] at h1
   simp only [cond_true,Option.some.injEq] at h1
   subst h1
   have he:upd (fun t=>(s.env t).kill id) d (.cell (.ref id)) z=s.env z:=(upd_ne _ _ hzd).trans (om hpz id)
   rw [jZ hg ho hop hx (by have hq:=hpz;rw [<- he] at hq;exact hq)] at h2
   split at h2
   ·rename_i hbx
    simp only [Option.some.injEq,he] at h2
    subst h2
    refine ⟨⟨s.n,upd s.env x (s.env z),s.aj⟩,by rw [jZ hg ho hop hx hpz,if_pos hbx], ?_⟩
    rw [iK hg hp hfl hb,hvs,hw]
    simp only [Option.bind_some,iP,hbd,cond_true]
    have Sv:(fun t=>(upd s.env x (s.env z) t).kill id)=upd (fun t=>(s.env t).kill id) x (s.env z):=by
     funext u
     by_cases hu:u=x
     ·subst hu;rw [upd_same,upd_same,om hpz]
     ·rw [upd_ne _ _ hu,upd_ne _ _ hu]
    simp only [Sv]
    rw [iO _ _ _ hxd]
   ·cases h2
theorem KA (hg:∀ o ∈ ops,o.guard=none) {i:Nat} {o:Oper} (ho:o ∈ ops) (hq:(aT C o || iH C o || ((iM o).isSome && iY C o))=true) {s s1:St} (I:MInv ops s0 s) (h:(stepT C ops i o s).run ah some=some s1):MInv ops s0 s1:=by
 simp only [Bool.or_eq_true,Bool.and_eq_true] at hq
 rcases hq with hq | ⟨ha,hfl⟩
 ·intro t ht hpt
  exact (Jt ho (by simpa using hq) h t ht).trans (I t ht hpt)
 ·obtain ⟨⟨t,y,d⟩,ha⟩:=Option.isSome_iff_exists.1 ha
  obtain ⟨hod,_⟩:=kU ha
  have hd:=lH ho hod
  rw [iK hg ho hfl ha,kM] at h
  obtain ⟨⟨w,E⟩,hw,h⟩:=Option.bind_eq_some_iff.1 h
  intro u hu Vt
  have hne:u ≠ d:=fun e=>hu (e ▸ hd)
  cases w with
  | none=>
   simp only [iP] at h
   split at h
   ·cases hbd:mR d s.n with
    | false=>rw [hbd] at h;cases h
    | true=>
     rw [hbd] at h
     simp only [cond_true,Option.some.injEq] at h
     subst h
     exact (upd_ne _ _ hne).trans (I u hu Vt)
   ·cases h
  | some id=>
   simp only [iP] at h
   cases hbd:mR d s.n with
   | false=>rw [hbd] at h;cases h
   | true=>
    rw [hbd] at h
    simp only [cond_true,Option.some.injEq] at h
    subst h
    show upd (fun t=>(s.env t).kill id) d (.cell (.ref id)) u=_
    rw [upd_ne _ _ hne]
    show (s.env u).kill id=_
    rw [I u hu Vt,om Vt]
end
section
variable {C:aZ}
theorem Qj (s:St) (c:Cap):tY s c=tY ⟨0,fun _=>.undef,s.aj⟩ c:=by cases c <;> rfl
theorem Gi (s:St):∀ cs:List Cap,iW s cs=iW ⟨0,fun _=>.undef,s.aj⟩ cs
 | []=>rfl
 | c :: cs=>by simp only [iW];rw [Qj s c,Gi s cs]
theorem KC (s:St) (t:TypeId) (v:av):lN C s t v=lN C ⟨0,fun _=>.undef,s.aj⟩ t v:=by
 unfold lN
 split
 ·rfl
 ·split
  ·rename_i f caps
   show (iW s caps).map _=(iW _ caps).map _
   rw [Gi s caps]
  ·rfl
  ·rfl
  ·rfl
theorem qb (s:St) (i:Nat) (a:Arg):∀ (n:Nat) (ts:List TypeId) (vs:List av),jC C s i a n ts vs=jC C ⟨0,fun _=>.undef,s.aj⟩ i a n ts vs
 | _,_,[]=>by simp [jC]
 | _,[],v :: vs=>by simp [jC]
 | n,t :: ts,v :: vs=>by simp only [jC];rw [KC s t v,qb s i a (n+1) ts vs]
theorem sH (s:St) (vs:List av) (caps:List Cap):gY s vs caps=gY ⟨0,fun _=>.undef,s.aj⟩ vs caps:=by
 have hc:∀ c,jJ s c=jJ ⟨0,fun _=>.undef,s.aj⟩ c:=fun c=>by cases c <;> rfl
 have hcc:∀ cs:List Cap,cs.any (jJ s)=cs.any (jJ ⟨0,fun _=>.undef,s.aj⟩):=fun cs=>by rw [show jJ s=jJ ⟨0,fun _=>.undef,s.aj⟩ from funext hc]
 have hd:∀ c,jK s c=jK ⟨0,fun _=>.undef,s.aj⟩ c:=fun c=>by
  cases c <;> first | rfl | exact hc _ | exact hcc _
 unfold gY
 rw [hcc caps]
 have hv:∀ v:av,v.cells.any (jK s)=v.cells.any (jK ⟨0,fun _=>.undef,s.aj⟩):=fun v=>by rw [show jK s=jK ⟨0,fun _=>.undef,s.aj⟩ from funext hd]
 simp only [hv]
theorem TT {s:St} {x:Tmp} {v:Slot} (hv:cK v=true) (id:Nat):(fun t=>(upd s.env x v t).kill id)=upd (fun t=>(s.env t).kill id) x v:=by
 funext u
 by_cases hu:u=x
 ·subst hu;rw [upd_same,upd_same,om hv]
 ·rw [upd_ne _ _ hu,upd_ne _ _ hu]
theorem Gj {x:Tmp} {v:Slot} (hv:cK v=true):∀ {ids:List Nat} {s:St},(⟨s.n,upd s.env x v,s.aj⟩:St).aJ ids=⟨(s.aJ ids).n,upd (s.aJ ids).env x v,(s.aJ ids).aj⟩
 | [],s=>rfl
 | id :: ids,s=>by
  have e:(⟨s.n,upd s.env x v,s.aj⟩:St).drop id=⟨(s.drop id).n,upd (s.drop id).env x v,(s.drop id).aj⟩:=by
   show (⟨s.n,fun t=>(upd s.env x v t).kill id,_⟩:St)=⟨s.n,upd (fun t=>(s.env t).kill id) x v,_⟩
   rw [TT hv]
   rfl
  show St.aJ (St.drop ⟨s.n,upd s.env x v,s.aj⟩ id) ids=_
  rw [e]
  exact Gj hv (s:=s.drop id)
theorem DR {z:Tmp}:∀ {ids:List Nat} {s:St},cK (s.env z)=true->(s.aJ ids).env z=s.env z
 | [],s,_=>rfl
 | id :: ids,s,h=>by
  have e:(s.drop id).env z=s.env z:=om h id
  show ((s.drop id).aJ ids).env z=_
  rw [DR (by rw [e];exact h),e]
theorem oN {s:St} {x:Tmp} {v:Slot}:∀ {xs:List Operand},(∀ t,Operand.tmp t ∈ xs->t ≠ x)->bg ⟨s.n,upd s.env x v,s.aj⟩ xs=bg s xs
 | [],_=>rfl
 | y :: ys,h=>by
  have hy:St.ev ⟨s.n,upd s.env x v,s.aj⟩ y=s.ev y:=by
   cases y with
   | tmp t=>exact upd_ne _ _ (h t (by simp))
   | _=>rfl
  simp only [bg,hy]
  rw [oN (fun t ht=>h t (by simp [ht]))]
variable {ah:FuncId->(t:Ty)->List Arg->Option t.den}
theorem Mv {s:St} {o:Oper} {f:FuncId} {vs:List av} {i:Nat} {x d:Tmp} {v:Slot} (hv:cK v=true) (hd:o.dst=some d) (hxd:x ≠ d) :
  (nX C ⟨s.n,upd s.env x v,s.aj⟩ o f vs [] i).run ah some=((nX C s o f vs [] i).run ah some).map fun t=>⟨t.n,upd t.env x v,t.aj⟩:=by
 unfold nX
 cases C.P.funcs[f]? with
 | none=>rfl
 | some fn=>
  cases vs[i]? with
  | none=>rfl
  | some w=>
   simp only
   cases (fn.params.toList[i]?).bind C.ty with
   | none=>rfl
   | some T0=>
    simp only
    split
    ·cases aL s.aj .give T0 w.cells with
     | none=>rfl
     | some y=>
      obtain ⟨y,ids⟩:=y
      simp only
      cases nodup ids with
      | false=>rfl
      | true=>
       simp only [cond_true]
       rw [Gj hv]
       rw [qb ⟨_,upd _ x v,_⟩,qb (s.aJ ids),sH ⟨_,upd _ x v,_⟩,sH (s.aJ ids)]
       simp only [iW]
       cases jC C ⟨0,fun _=>.undef,(s.aJ ids).aj⟩ i (.give T0 y) 0 fn.params.toList (vs.map (nu · ids)) with
       | none=>rfl
       | some args=>
        cases ((some []:Option (List Cap)).bind (·.mapM oH)) with
        | none=>rfl
        | some pK=>
         cases resTy C fn.resultTypes.toList with
         | none=>rfl
         | some rt=>
          simp only
          split
          ·rfl
          ·simp only [T.run]
           cases ah f rt (args++pK) with
           | none=>rfl
           | some r=>
            simp only [Option.bind_some]
            generalize fM (C.sig f).own (Nat.beq fn.resultTypes.size 1) (ak (o.dst.getD 0)) rt r=rs
            obtain ⟨u,es⟩:=rs
            simp only [T.run_bind,jd,hd]
            cases bn (s.aJ ids).aj es with
            | none=>rfl
            | some σ=>
             simp only [Option.bind_some,St.put]
             cases mR d (s.aJ ids).n with
             | false=>rfl
             | true=>
              simp only [cond_true,T.bK,Option.map_some]
              rw [iO _ _ _ hxd]
    ·rfl
theorem KD {s t:St} {o:Oper} {f:FuncId} {vs:List av} {i:Nat} {d:Tmp} (hd:o.dst=some d) (h:(nX C s o f vs [] i).run ah some=some t):t.n=s.n/\∀ z,z ≠ d->cK (s.env z)=true->t.env z=s.env z:=by
 unfold nX at h
 split at h
 ·split at h
  ·split at h
   ·split at h
    ·rename_i y ids hof
     cases hnd:nodup ids with
     | false=>rw [hnd] at h;cases h
     | true=>
      rw [hnd] at h
      simp only [cond_true] at h
      split at h
      ·split at h
       ·cases h
       ·simp only [T.run] at h
        rw [Option.bind_eq_some_iff] at h
        obtain ⟨r,_,h⟩:=h
        generalize fM _ _ _ _ r=rs at h
        obtain ⟨u,es⟩:=rs
        simp only [T.run_bind,jd,hd] at h
        rw [Option.bind_eq_some_iff] at h
        obtain ⟨σ,_,h⟩:=h
        simp only [St.put] at h
        cases hb:mR d (s.aJ ids).n with
        | false=>rw [hb] at h;cases h
        | true=>
         rw [hb] at h
         simp only [cond_true,T.bK,Option.some.injEq] at h
         subst h
         exact ⟨Jg,fun z hz hp=>(upd_ne _ _ hz).trans (DR hp)⟩
      ·cases h
    ·cases h
   ·cases h
  ·cases h
 ·cases h
variable {ops:List Oper} {s0:St}
theorem Mw (hg:∀ o ∈ ops,o.guard=none) {j:Nat} {o:Oper} (ho:o ∈ ops) {d:Tmp} (hgo:qp C o=some d):∃ (f:FuncId) (args:List Operand) (i:Nat),o.dst=some d/\(∀ t,Operand.tmp t ∈ args->∀ ops:List Oper,t ∈ readsOf ops o) /\
  ∀ s:St,stepT C ops j o s=match bg s args with
   | some vs=>nX C s o f vs [] i
   | none=>.fail:=by
 unfold qp at hgo
 split at hgo
 ·rename_i f args ats dd h1 h2
  split at hgo
  ·rename_i hc
   simp only [Option.some.injEq] at hgo
   subst hgo
   simp only [Bool.and_eq_true,Bool.not_eq_true'] at hc
   have hnd:=hc.2
   have hc:=hc.1
   cases zo:(C.sig f).io with
   | nil=>rw [zo] at hc;simp at hc
   | cons i r=>
    refine ⟨f,args.toList,i,h2,fun t ht ops'=>?_,fun s=>?_⟩
    ·unfold readsOf
     refine List.mem_append_left _ (List.mem_filterMap.2 ⟨.tmp t, ?_,rfl⟩)
     rw [h1]
     simp only [Op.operands]
     simp [Call.operands,ht]
    ·have hgu:=hg o ho
     unfold stepT
     simp only [hgu,iE hg,cond_false,T.ji]
     obtain ⟨dst,op,type,pos,after,guard⟩:=o
     simp only at h1 h2
     subst h1 h2
     have hl:(C.sig f).lend=none:=by simpa using hc.1
     simp only [jT,St.ev]
     cases bg s args.toList with
     | none=>rfl
     | some vs=>simp only [zH,hl,zo,hnd,cond_false]
  ·cases hgo
 ·cases hgo
theorem Pn (hg:∀ o ∈ ops,o.guard=none) {j:Nat} {o:Oper} (ho:o ∈ ops) {d:Tmp} (hgo:qp C o=some d) {s:St} {x:Tmp} {v:Slot} (hv:cK v=true) (hx:x ∉ readsOf ops o) (hxd:x ≠ d) :
  (stepT C ops j o ⟨s.n,upd s.env x v,s.aj⟩).run ah some=((stepT C ops j o s).run ah some).map fun t=>⟨t.n,upd t.env x v,t.aj⟩:=by
 obtain ⟨f,args,i,hd,hr,hs⟩:=Mw hg ho hgo (j:=j)
 rw [hs,hs,oN (fun t ht (e:t=x)=>hx (by rw [<- e];exact hr t ht ops))]
 cases bg s args with
 | none=>rfl
 | some vs=>exact Mv hv hd hxd
theorem Gl (hg:∀ o ∈ ops,o.guard=none) {j:Nat} {o:Oper} (ho:o ∈ ops) {d:Tmp} (hgo:qp C o=some d) {s t:St} (h:(stepT C ops j o s).run ah some=some t):o.dst=some d/\t.n=s.n/\∀ z,z ≠ d->cK (s.env z)=true->t.env z=s.env z:=by
 obtain ⟨f,args,i,hd,hr,hs⟩:=Mw hg ho hgo (j:=j)
 rw [hs] at h
 cases hc:bg s args with
 | none=>rw [hc] at h;cases h
 | some vs=>rw [hc] at h;exact ⟨hd,KD hd h⟩
theorem Mx {a b:Oper} (h:Ja C ops s0 a b=true):∃ x z d,a.op=.move (.tmp z)/\a.dst=some x/\qp C b=some d/\cK (s0.env z)=true/\z ∉ dstsOf ops/\x ∉ readsOf ops b/\x ≠ d:=by
 unfold Ja at h
 split at h
 ·rename_i z x d h1 h2 h3
  simp only [Bool.and_eq_true,Bool.not_eq_true'] at h
  obtain ⟨⟨⟨k2,k3⟩,k4⟩,k5⟩:=h
  refine ⟨x,z,d,h1,h2,h3,k2,by simpa using k3,by simpa using k4,fun e=>?_⟩
  subst e
  simp at k5
 ·cases h
theorem Gm {o:Oper} {d:Tmp} (h:qp C o=some d):o.dst=some d:=by
 unfold qp at h
 split at h
 ·split at h
  ·simp only [Option.some.injEq] at h
   subst h
   assumption
  ·cases h
 ·cases h
theorem Io (hg:∀ o ∈ ops,o.guard=none) {i j:Nat} {p o:Oper} (hp:p ∈ ops) (ho:o ∈ ops) {s s1 s2:St} (I:MInv ops s0 s) (hc:Ja C ops s0 p o=true)
  (h1:(stepT C ops i p s).run ah some=some s1) (h2:(stepT C ops j o s1).run ah some=some s2) :
  ∃ s',(stepT C ops j o s).run ah some=some s'/\(stepT C ops i p s').run ah some=some s2:=by
 obtain ⟨x,z,d,hop,hx,hb,hpt,hz,hxo,hxd⟩:=Mx hc
 have hzd:z ≠ d:=fun e=>hz (e ▸ lH ho (Gm hb))
 have hpz:cK (s.env z)=true:=by rw [I z hz hpt];exact hpt
 rw [jZ hg hp hop hx hpz] at h1
 split at h1
 ·rename_i hbx
  simp only [Option.some.injEq] at h1
  subst h1
  rw [Pn hg ho hb hpz hxo hxd] at h2
  obtain ⟨t,ht,rfl⟩:=Option.map_eq_some_iff.1 h2
  obtain ⟨_,hn,hk⟩:=Gl hg ho hb ht
  refine ⟨t,ht, ?_⟩
  have he:=hk z hzd hpz
  rw [jZ hg hp hop hx (by rw [he];exact hpz),if_pos (by rw [hn];exact hbx),he]
 ·cases h1
theorem Ip (hg:∀ o ∈ ops,o.guard=none) {i j:Nat} {p o:Oper} (hp:p ∈ ops) (ho:o ∈ ops) {s s1 s2:St} (I:MInv ops s0 s) (hc:Ja C ops s0 o p=true)
  (h1:(stepT C ops i p s).run ah some=some s1) (h2:(stepT C ops j o s1).run ah some=some s2) :
  ∃ s',(stepT C ops j o s).run ah some=some s'/\(stepT C ops i p s').run ah some=some s2:=by
 obtain ⟨x,z,d,hop,hx,hb,hpt,hz,hxo,hxd⟩:=Mx hc
 have hzd:z ≠ d:=fun e=>hz (e ▸ lH hp (Gm hb))
 have hpz:cK (s.env z)=true:=by rw [I z hz hpt];exact hpt
 obtain ⟨_,hn,hk⟩:=Gl hg hp hb h1
 have he:=hk z hzd hpz
 rw [jZ hg ho hop hx (by rw [he];exact hpz)] at h2
 split at h2
 ·rename_i hbx
  simp only [Option.some.injEq,he] at h2
  refine ⟨⟨s.n,upd s.env x (s.env z),s.aj⟩,by rw [jZ hg ho hop hx hpz,if_pos (by rw [<- hn];exact hbx)], ?_⟩
  rw [Pn hg hp hb hpz hxo hxd,h1,Option.map_some,h2]
 ·cases h2
end
def Xf {C:aZ} {ah:FuncId->(t:Ty)->List Arg->Option t.den} (ops:Array Oper) (s0:St) (hg:∀ o ∈ ops.toList,o.guard=none) (hq:∀ o ∈ ops.toList,(aT C o || iH C o || ((iM o).isSome && iY C o) || (qp C o).isSome)=true):Gh C ah ops:=
 have mem:∀ {i:Nat} {o:Oper},ops[i]? = some o->o ∈ ops.toList:=fun h=>Array.mem_toList_iff.2 (Array.mem_of_getElem? h)
 ⟨Rf C ops.toList s0,MInv ops.toList s0,fun _=>false,(fun h=>by cases h),(fun h=>by cases h),fun {s s1 o j} hI _ ho h=>by
  cases hgv:qp C o with
  | none=>
   have:=hq _ (mem ho)
   rw [hgv] at this
   exact KA hg (mem ho) (by simpa using this) hI h
  | some d=>
   obtain ⟨hd,_,hk⟩:=Gl hg (mem ho) hgv h
   intro u hu Vt
   have hne:u ≠ d:=fun e=>hu (e ▸ lH (mem ho) hd)
   rw [hk u hne (by rw [hI u hu Vt];exact Vt)]
   exact hI u hu Vt,fun {i j p o s s1 s2} l hI hp ho hcm h1 h2=>by
  unfold Rf at hcm
  simp only [Bool.or_eq_true] at hcm
  rcases hcm with (((hcm | hcm) | hcm) | hcm) | hcm
  ·exact nS l hcm h1 h2
  ·exact Ky hg (mem hp) (mem ho) l hI hcm h1 h2
  ·exact Kz hg (mem hp) (mem ho) l hI hcm h1 h2
  ·exact Io hg (mem hp) (mem ho) hI hcm h1 h2
  ·exact Ip hg (mem hp) (mem ho) hI hcm h1 h2⟩
end Go.Flat
