/- A pointer that is copied, beside an append. No condition. -/
import Derived.Test.YtmocpfgfjeaelaaGreatDrawA
set_option linter.unusedVariables false
set_option linter.unusedSimpArgs false
namespace Go.Flat
section
variable {C:dh} {ah:FuncId->(t:Ty)->List Arg->Option t.den} {ops:List Oper} {s0:St}
theorem uE {v:Slot} (h:fK v=true) (id:Nat):v.kill id=v:=by
 unfold fK at h
 split at h
 ·rfl
 ·cases h
theorem Pp {a b:Oper} (h:LP C ops s0 a b=true):∃ x z t y d,a.op=.move (.tmp z)/\a.dst=some x/\ko b=some (t,y,d)/\jW C b=true/\fK (s0.env z)=true/\z ∉ dstsOf ops/\x ∉ readsOf ops b/\x ≠ d:=by
 unfold LP at h
 split at h
 ·rename_i z x t y d h1 h2 h3
  simp only [Bool.and_eq_true,Bool.not_eq_true'] at h
  obtain ⟨⟨⟨⟨k1,k2⟩,k3⟩,k4⟩,k5⟩:=h
  refine ⟨x,z,t,y,d,h1,h2,h3,k1,k2,by simpa using k3,by simpa using k4,fun e=>?_⟩
  subst e
  simp at k5
 ·cases h
theorem lU (hg:∀ o ∈ ops,o.guard=none) {i:Nat} {o:Oper} (ho:o ∈ ops) {x z:Tmp} (h1:o.op=.move (.tmp z)) (h2:o.dst=some x) {s:St} (hp:fK (s.env z)=true) :
  (stepT C ops i o s).run ah some=if sF x s.n=true then some ⟨s.n,upd s.env x (s.env z),s.ak⟩ else none:=by
 have hgo:=hg o ho
 unfold stepT
 simp only [hgo,og hg,cond_false,T.qR]
 obtain ⟨dst,op,type,pos,after,guard⟩:=o
 simp only at h1 h2
 subst h1 h2
 unfold fK at hp
 split at hp
 ·rename_i q off he
  simp only [mK,St.ev,he,St.put]
  cases hb:sF x s.n <;> simp [T.run]
 ·cases hp
theorem rJ {o:Oper} (ho:o ∈ ops) {x:Tmp} (h:o.dst=some x):x ∈ dstsOf ops:=by
 simp only [dstsOf,List.mem_filterMap]
 exact ⟨o,ho,h⟩
def MInv (ops:List Oper) (s0 s:St):Prop:=∀ t,t ∉ dstsOf ops->fK (s0.env t)=true->s.env t=s0.env t
theorem NC (hg:∀ o ∈ ops,o.guard=none) {i j:Nat} {p o:Oper} (hp:p ∈ ops) (ho:o ∈ ops) {s s1 s2:St} (l:Live s) (I:MInv ops s0 s) (hc:LP C ops s0 p o=true)
  (h1:(stepT C ops i p s).run ah some=some s1) (h2:(stepT C ops j o s1).run ah some=some s2) :
  ∃ s',(stepT C ops j o s).run ah some=some s'/\(stepT C ops i p s').run ah some=some s2:=by
 obtain ⟨x,z,t,y,d,hop,hx,hb,hfl,hpt,hz,hxo,hxd⟩:=Pp hc
 obtain ⟨hod,hrd⟩:=nG hb
 have htx:t ≠ x:=fun e=>hxo (e ▸ hrd t (by simp) ops)
 have hyx:y ≠ x:=fun e=>hxo (e ▸ hrd y (by simp) ops)
 have hzd:z ≠ d:=fun e=>hz (e ▸ rJ ho hod)
 have hpz:fK (s.env z)=true:=by rw [I z hz hpt];exact hpt
 rw [lU hg hp hop hx hpz] at h1
 split at h1
 ·rename_i hbx
  simp only [Option.some.injEq] at h1
  subst h1
  rw [jD hg ho hfl hb] at h2
  have hvs:uR C o t y ⟨s.n,upd s.env x (s.env z),s.ak⟩=uR C o t y s:=om (upd_ne _ _ htx) (upd_ne _ _ hyx) (fun _ _=>rfl) (fun _ _=>rfl)
  rw [hvs] at h2
  rw [mV] at h2
  obtain ⟨⟨w,E⟩,hw,h2⟩:=Option.bind_eq_some_iff.1 h2
  cases w with
  | none=>
   simp only [jG] at h2
   split at h2
   ·rename_i hk
    cases hbd:sF d s.n with
    | false=>rw [hbd] at h2;cases h2
    | true=>
     rw [hbd] at h2
     simp only [cond_true,Option.some.injEq] at h2
     subst h2
     refine ⟨⟨s.n,upd s.env d (.cell (.ref (aI d 0))),upd s.ak (aI d 0) (some E)⟩, ?_, ?_⟩
     ·rw [jD hg ho hfl hb,hw]
      simp only [Option.bind_some,jG,hk,hbd,cond_true]
     ·have he:upd s.env d (.cell (.ref (aI d 0))) z=s.env z:=upd_ne _ _ hzd
      rw [lU hg hp hop hx (by have hq:=hpz;rw [<- he] at hq;exact hq)]
      simp only [hbx,if_true,he]
      rw [ni _ _ _ hxd]
   ·cases h2
  | some id=>
   simp only [jG] at h2
   cases hbd:sF d s.n with
   | false=>rw [hbd] at h2;cases h2
   | true=>
    rw [hbd] at h2
    simp only [cond_true,Option.some.injEq] at h2
    subst h2
    refine ⟨⟨s.n,upd (fun t=>(s.env t).kill id) d (.cell (.ref id)),zL s.ak id E⟩, ?_, ?_⟩
    ·rw [jD hg ho hfl hb,hw]
     simp only [Option.bind_some,jG,hbd,cond_true]
    ·have he:upd (fun t=>(s.env t).kill id) d (.cell (.ref id)) z=s.env z:=(upd_ne _ _ hzd).trans (uE hpz id)
     rw [lU hg hp hop hx (by have hq:=hpz;rw [<- he] at hq;exact hq)]
     simp only [hbx,if_true,he]
     have VX:(fun t=>(upd s.env x (s.env z) t).kill id)=upd (fun t=>(s.env t).kill id) x (s.env z):=by
      funext u
      by_cases hu:u=x
      ·subst hu;rw [upd_same,upd_same,uE hpz]
      ·rw [upd_ne _ _ hu,upd_ne _ _ hu]
     simp only [VX]
     rw [ni _ _ _ hxd]
 ·cases h1
theorem ND (hg:∀ o ∈ ops,o.guard=none) {i j:Nat} {p o:Oper} (hp:p ∈ ops) (ho:o ∈ ops) {s s1 s2:St} (l:Live s) (I:MInv ops s0 s) (hc:LP C ops s0 o p=true)
  (h1:(stepT C ops i p s).run ah some=some s1) (h2:(stepT C ops j o s1).run ah some=some s2) :
  ∃ s',(stepT C ops j o s).run ah some=some s'/\(stepT C ops i p s').run ah some=some s2:=by
 obtain ⟨x,z,t,y,d,hop,hx,hb,hfl,hpt,hz,hxo,hxd⟩:=Pp hc
 obtain ⟨hod,hrd⟩:=nG hb
 have htx:t ≠ x:=fun e=>hxo (e ▸ hrd t (by simp) ops)
 have hyx:y ≠ x:=fun e=>hxo (e ▸ hrd y (by simp) ops)
 have hzd:z ≠ d:=fun e=>hz (e ▸ rJ hp hod)
 have hpz:fK (s.env z)=true:=by rw [I z hz hpt];exact hpt
 have hvs:uR C p t y ⟨s.n,upd s.env x (s.env z),s.ak⟩=uR C p t y s:=om (upd_ne _ _ htx) (upd_ne _ _ hyx) (fun _ _=>rfl) (fun _ _=>rfl)
 rw [jD hg hp hfl hb] at h1
 rw [mV] at h1
 obtain ⟨⟨w,E⟩,hw,h1⟩:=Option.bind_eq_some_iff.1 h1
 cases w with
 | none=>
  simp only [jG] at h1
  split at h1
  ·rename_i hk
   cases hbd:sF d s.n with
   | false=>rw [hbd] at h1;cases h1
   | true=>
    rw [hbd] at h1
    simp only [cond_true,Option.some.injEq] at h1
    subst h1
    have he:upd s.env d (.cell (.ref (aI d 0))) z=s.env z:=upd_ne _ _ hzd
    rw [lU hg ho hop hx (by have hq:=hpz;rw [<- he] at hq;exact hq)] at h2
    split at h2
    ·rename_i hbx
     simp only [Option.some.injEq,he] at h2
     subst h2
     refine ⟨⟨s.n,upd s.env x (s.env z),s.ak⟩,by rw [lU hg ho hop hx hpz,if_pos hbx], ?_⟩
     rw [jD hg hp hfl hb,hvs,hw]
     simp only [Option.bind_some,jG,hk,hbd,cond_true]
     rw [ni _ _ _ hxd]
    ·cases h2
  ·cases h1
 | some id=>
  simp only [jG] at h1
  cases hbd:sF d s.n with
  | false=>rw [hbd] at h1;cases h1
  | true=>
   rw [hbd] at h1
   simp only [cond_true,Option.some.injEq] at h1
   subst h1
   have he:upd (fun t=>(s.env t).kill id) d (.cell (.ref id)) z=s.env z:=(upd_ne _ _ hzd).trans (uE hpz id)
   rw [lU hg ho hop hx (by have hq:=hpz;rw [<- he] at hq;exact hq)] at h2
   split at h2
   ·rename_i hbx
    simp only [Option.some.injEq,he] at h2
    subst h2
    refine ⟨⟨s.n,upd s.env x (s.env z),s.ak⟩,by rw [lU hg ho hop hx hpz,if_pos hbx], ?_⟩
    rw [jD hg hp hfl hb,hvs,hw]
    simp only [Option.bind_some,jG,hbd,cond_true]
    have VX:(fun t=>(upd s.env x (s.env z) t).kill id)=upd (fun t=>(s.env t).kill id) x (s.env z):=by
     funext u
     by_cases hu:u=x
     ·subst hu;rw [upd_same,upd_same,uE hpz]
     ·rw [upd_ne _ _ hu,upd_ne _ _ hu]
    simp only [VX]
    rw [ni _ _ _ hxd]
   ·cases h2
theorem Tc (hg:∀ o ∈ ops,o.guard=none) {i:Nat} {o:Oper} (ho:o ∈ ops) (hq:(dw C o || jV C o || ((ko o).isSome && jW C o))=true) {s s1:St} (I:MInv ops s0 s) (h:(stepT C ops i o s).run ah some=some s1):MInv ops s0 s1:=by
 simp only [Bool.or_eq_true,Bool.and_eq_true] at hq
 rcases hq with hq | ⟨ha,hfl⟩
 ·intro t ht hpt
  exact (Mq ho (by simpa using hq) h t ht).trans (I t ht hpt)
 ·obtain ⟨⟨t,y,d⟩,ha⟩:=Option.isSome_iff_exists.1 ha
  obtain ⟨hod,_⟩:=nG ha
  have hd:=rJ ho hod
  rw [jD hg ho hfl ha,mV] at h
  obtain ⟨⟨w,E⟩,hw,h⟩:=Option.bind_eq_some_iff.1 h
  intro u hu ZJ
  have hne:u ≠ d:=fun e=>hu (e ▸ hd)
  cases w with
  | none=>
   simp only [jG] at h
   split at h
   ·cases hbd:sF d s.n with
    | false=>rw [hbd] at h;cases h
    | true=>
     rw [hbd] at h
     simp only [cond_true,Option.some.injEq] at h
     subst h
     exact (upd_ne _ _ hne).trans (I u hu ZJ)
   ·cases h
  | some id=>
   simp only [jG] at h
   cases hbd:sF d s.n with
   | false=>rw [hbd] at h;cases h
   | true=>
    rw [hbd] at h
    simp only [cond_true,Option.some.injEq] at h
    subst h
    show upd (fun t=>(s.env t).kill id) d (.cell (.ref id)) u=_
    rw [upd_ne _ _ hne]
    show (s.env u).kill id=_
    rw [I u hu ZJ,uE ZJ]
end
section
variable {C:dh}
theorem TW (s:St) (c:Cap):xX s c=xX ⟨0,fun _=>.undef,s.ak⟩ c:=by cases c <;> rfl
theorem Jw (s:St):∀ cs:List Cap,jT s cs=jT ⟨0,fun _=>.undef,s.ak⟩ cs
 | []=>rfl
 | c :: cs=>by simp only [jT];rw [TW s c,Jw s cs]
theorem NG (s:St) (t:TypeId) (v:aJ):nS C s t v=nS C ⟨0,fun _=>.undef,s.ak⟩ t v:=by
 unfold nS
 split
 ·rfl
 ·split
  ·rename_i f caps
   show (jT s caps).map _=(jT _ caps).map _
   rw [Jw s caps]
  ·rfl
  ·rfl
  ·rfl
theorem uF (s:St) (i:Nat) (a:Arg):∀ (n:Nat) (ts:List TypeId) (vs:List aJ),kX C s i a n ts vs=kX C ⟨0,fun _=>.undef,s.ak⟩ i a n ts vs
 | _,_,[]=>by simp [kX]
 | _,[],v :: vs=>by simp [kX]
 | n,t :: ts,v :: vs=>by simp only [kX];rw [NG s t v,uF s i a (n+1) ts vs]
theorem xk (s:St) (vs:List aJ) (caps:List Cap):jB s vs caps=jB ⟨0,fun _=>.undef,s.ak⟩ vs caps:=by
 have hc:∀ c,kV s c=kV ⟨0,fun _=>.undef,s.ak⟩ c:=fun c=>by cases c <;> rfl
 have hcc:∀ cs:List Cap,cs.any (kV s)=cs.any (kV ⟨0,fun _=>.undef,s.ak⟩):=fun cs=>by rw [show kV s=kV ⟨0,fun _=>.undef,s.ak⟩ from funext hc]
 have hd:∀ c,kW s c=kW ⟨0,fun _=>.undef,s.ak⟩ c:=fun c=>by
  cases c <;> first | rfl | exact hc _ | exact hcc _
 unfold jB
 rw [hcc caps]
 have hv:∀ v:aJ,v.cells.any (kW s)=v.cells.any (kW ⟨0,fun _=>.undef,s.ak⟩):=fun v=>by rw [show kW s=kW ⟨0,fun _=>.undef,s.ak⟩ from funext hd]
 simp only [hv]
theorem XW {s:St} {x:Tmp} {v:Slot} (hv:fK v=true) (id:Nat):(fun t=>(upd s.env x v t).kill id)=upd (fun t=>(s.env t).kill id) x v:=by
 funext u
 by_cases hu:u=x
 ·subst hu;rw [upd_same,upd_same,uE hv]
 ·rw [upd_ne _ _ hu,upd_ne _ _ hu]
theorem Jy {x:Tmp} {v:Slot} (hv:fK v=true):∀ {ids:List Nat} {s:St},(⟨s.n,upd s.env x v,s.ak⟩:St).bL ids=⟨(s.bL ids).n,upd (s.bL ids).env x v,(s.bL ids).ak⟩
 | [],s=>rfl
 | id :: ids,s=>by
  have e:(⟨s.n,upd s.env x v,s.ak⟩:St).drop id=⟨(s.drop id).n,upd (s.drop id).env x v,(s.drop id).ak⟩:=by
   show (⟨s.n,fun t=>(upd s.env x v t).kill id,_⟩:St)=⟨s.n,upd (fun t=>(s.env t).kill id) x v,_⟩
   rw [XW hv]
   rfl
  show St.bL (St.drop ⟨s.n,upd s.env x v,s.ak⟩ id) ids=_
  rw [e]
  exact Jy hv (s:=s.drop id)
theorem Gm {z:Tmp}:∀ {ids:List Nat} {s:St},fK (s.env z)=true->(s.bL ids).env z=s.env z
 | [],s,_=>rfl
 | id :: ids,s,h=>by
  have e:(s.drop id).env z=s.env z:=uE h id
  show ((s.drop id).bL ids).env z=_
  rw [Gm (by rw [e];exact h),e]
theorem yZ {s:St} {x:Tmp} {v:Slot}:∀ {xs:List Operand},(∀ t,Operand.tmp t ∈ xs->t ≠ x)->dY ⟨s.n,upd s.env x v,s.ak⟩ xs=dY s xs
 | [],_=>rfl
 | y :: ys,h=>by
  have hy:St.ev ⟨s.n,upd s.env x v,s.ak⟩ y=s.ev y:=by
   cases y with
   | tmp t=>exact upd_ne _ _ (h t (by simp))
   | _=>rfl
  simp only [dY,hy]
  rw [yZ (fun t ht=>h t (by simp [ht]))]
variable {ah:FuncId->(t:Ty)->List Arg->Option t.den}
theorem Pq {s:St} {o:Oper} {f:FuncId} {vs:List aJ} {i:Nat} {x d:Tmp} {v:Slot} (hv:fK v=true) (hd:o.dst=some d) (hxd:x ≠ d) :
  (rE C ⟨s.n,upd s.env x v,s.ak⟩ o f vs [] i).run ah some=((rE C s o f vs [] i).run ah some).map fun t=>⟨t.n,upd t.env x v,t.ak⟩:=by
 unfold rE
 cases C.P.funcs[f]? with
 | none=>rfl
 | some fn=>
  cases vs[i]? with
  | none=>rfl
  | some w=>
   simp only
   cases (fn.params.toList[i]?).bind C.ty with
   | none=>rfl
   | some T0=>
    simp only
    split
    ·cases bG s.ak .give T0 w.cells with
     | none=>rfl
     | some y=>
      obtain ⟨y,ids⟩:=y
      simp only
      cases nodup ids with
      | false=>rfl
      | true=>
       simp only [cond_true]
       rw [Jy hv]
       rw [uF ⟨_,upd _ x v,_⟩,uF (s.bL ids),xk ⟨_,upd _ x v,_⟩,xk (s.bL ids)]
       simp only [jT]
       cases kX C ⟨0,fun _=>.undef,(s.bL ids).ak⟩ i (.give T0 y) 0 fn.params.toList (vs.map (qo · ids)) with
       | none=>rfl
       | some args=>
        cases ((some []:Option (List Cap)).bind (·.mapM sK)) with
        | none=>rfl
        | some wo=>
         cases resTy C fn.resultTypes.toList with
         | none=>rfl
         | some rt=>
          simp only
          split
          ·rfl
          ·simp only [T.run]
           cases ah f rt (args++wo) with
           | none=>rfl
           | some r=>
            simp only [Option.bind_some]
            generalize jI (C.sig f).own (Nat.beq fn.resultTypes.size 1) (aI (o.dst.getD 0)) rt r=rs
            obtain ⟨u,es⟩:=rs
            simp only [T.run_bind,oN,hd]
            cases dA (s.bL ids).ak es with
            | none=>rfl
            | some σ=>
             simp only [Option.bind_some,St.put]
             cases sF d (s.bL ids).n with
             | false=>rfl
             | true=>
              simp only [cond_true,T.gK,Option.map_some]
              rw [ni _ _ _ hxd]
    ·rfl
theorem NH {s t:St} {o:Oper} {f:FuncId} {vs:List aJ} {i:Nat} {d:Tmp} (hd:o.dst=some d) (h:(rE C s o f vs [] i).run ah some=some t):t.n=s.n/\∀ z,z ≠ d->fK (s.env z)=true->t.env z=s.env z:=by
 unfold rE at h
 split at h
 ·split at h
  ·split at h
   ·split at h
    ·rename_i y ids hof
     cases hnd:nodup ids with
     | false=>rw [hnd] at h;cases h
     | true=>
      rw [hnd] at h
      simp only [cond_true] at h
      split at h
      ·split at h
       ·cases h
       ·simp only [T.run] at h
        rw [Option.bind_eq_some_iff] at h
        obtain ⟨r,_,h⟩:=h
        generalize jI _ _ _ _ r=rs at h
        obtain ⟨u,es⟩:=rs
        simp only [T.run_bind,oN,hd] at h
        rw [Option.bind_eq_some_iff] at h
        obtain ⟨σ,_,h⟩:=h
        simp only [St.put] at h
        cases hb:sF d (s.bL ids).n with
        | false=>rw [hb] at h;cases h
        | true=>
         rw [hb] at h
         simp only [cond_true,T.gK,Option.some.injEq] at h
         subst h
         exact ⟨Ma,fun z hz hp=>(upd_ne _ _ hz).trans (Gm hp)⟩
      ·cases h
    ·cases h
   ·cases h
  ·cases h
 ·cases h
variable {ops:List Oper} {s0:St}
theorem Pt (hg:∀ o ∈ ops,o.guard=none) {j:Nat} {o:Oper} (ho:o ∈ ops) {d:Tmp} (hgo:uO C o=some d):∃ (f:FuncId) (args:List Operand) (i:Nat),o.dst=some d/\(∀ t,Operand.tmp t ∈ args->∀ ops:List Oper,t ∈ readsOf ops o) /\
  ∀ s:St,stepT C ops j o s=match dY s args with
   | some vs=>rE C s o f vs [] i
   | none=>.fail:=by
 unfold uO at hgo
 split at hgo
 ·rename_i f args ats dd h1 h2
  split at hgo
  ·rename_i hc
   simp only [Option.some.injEq] at hgo
   subst hgo
   simp only [Bool.and_eq_true] at hc
   cases Cw:(C.sig f).io with
   | nil=>rw [Cw] at hc;simp at hc
   | cons i r=>
    refine ⟨f,args.toList,i,h2,fun t ht ops'=>?_,fun s=>?_⟩
    ·unfold readsOf
     refine List.mem_append_left _ (List.mem_filterMap.2 ⟨.tmp t, ?_,rfl⟩)
     rw [h1]
     simp only [Op.operands]
     simp [Call.operands,ht]
    ·have hgu:=hg o ho
     unfold stepT
     simp only [hgu,og hg,cond_false,T.qR]
     obtain ⟨dst,op,type,pos,after,guard⟩:=o
     simp only at h1 h2
     subst h1 h2
     have hl:(C.sig f).lend=none:=by simpa using hc.1
     simp only [mK,St.ev]
     cases dY s args.toList with
     | none=>rfl
     | some vs=>simp only [Iu,hl,Cw]
  ·cases hgo
 ·cases hgo
theorem Td (hg:∀ o ∈ ops,o.guard=none) {j:Nat} {o:Oper} (ho:o ∈ ops) {d:Tmp} (hgo:uO C o=some d) {s:St} {x:Tmp} {v:Slot} (hv:fK v=true) (hx:x ∉ readsOf ops o) (hxd:x ≠ d) :
  (stepT C ops j o ⟨s.n,upd s.env x v,s.ak⟩).run ah some=((stepT C ops j o s).run ah some).map fun t=>⟨t.n,upd t.env x v,t.ak⟩:=by
 obtain ⟨f,args,i,hd,hr,hs⟩:=Pt hg ho hgo (j:=j)
 rw [hs,hs,yZ (fun t ht (e:t=x)=>hx (by rw [<- e];exact hr t ht ops))]
 cases dY s args with
 | none=>rfl
 | some vs=>exact Pq hv hd hxd
theorem Jz (hg:∀ o ∈ ops,o.guard=none) {j:Nat} {o:Oper} (ho:o ∈ ops) {d:Tmp} (hgo:uO C o=some d) {s t:St} (h:(stepT C ops j o s).run ah some=some t):o.dst=some d/\t.n=s.n/\∀ z,z ≠ d->fK (s.env z)=true->t.env z=s.env z:=by
 obtain ⟨f,args,i,hd,hr,hs⟩:=Pt hg ho hgo (j:=j)
 rw [hs] at h
 cases hc:dY s args with
 | none=>rw [hc] at h;cases h
 | some vs=>rw [hc] at h;exact ⟨hd,NH hd h⟩
theorem Pv {a b:Oper} (h:LQ C ops s0 a b=true):∃ x z d,a.op=.move (.tmp z)/\a.dst=some x/\uO C b=some d/\fK (s0.env z)=true/\z ∉ dstsOf ops/\x ∉ readsOf ops b/\x ≠ d:=by
 unfold LQ at h
 split at h
 ·rename_i z x d h1 h2 h3
  simp only [Bool.and_eq_true,Bool.not_eq_true'] at h
  obtain ⟨⟨⟨k2,k3⟩,k4⟩,k5⟩:=h
  refine ⟨x,z,d,h1,h2,h3,k2,by simpa using k3,by simpa using k4,fun e=>?_⟩
  subst e
  simp at k5
 ·cases h
theorem JA {o:Oper} {d:Tmp} (h:uO C o=some d):o.dst=some d:=by
 unfold uO at h
 split at h
 ·split at h
  ·simp only [Option.some.injEq] at h
   subst h
   assumption
  ·cases h
 ·cases h
theorem KY (hg:∀ o ∈ ops,o.guard=none) {i j:Nat} {p o:Oper} (hp:p ∈ ops) (ho:o ∈ ops) {s s1 s2:St} (I:MInv ops s0 s) (hc:LQ C ops s0 p o=true)
  (h1:(stepT C ops i p s).run ah some=some s1) (h2:(stepT C ops j o s1).run ah some=some s2) :
  ∃ s',(stepT C ops j o s).run ah some=some s'/\(stepT C ops i p s').run ah some=some s2:=by
 obtain ⟨x,z,d,hop,hx,hb,hpt,hz,hxo,hxd⟩:=Pv hc
 have hzd:z ≠ d:=fun e=>hz (e ▸ rJ ho (JA hb))
 have hpz:fK (s.env z)=true:=by rw [I z hz hpt];exact hpt
 rw [lU hg hp hop hx hpz] at h1
 split at h1
 ·rename_i hbx
  simp only [Option.some.injEq] at h1
  subst h1
  rw [Td hg ho hb hpz hxo hxd] at h2
  obtain ⟨t,ht,rfl⟩:=Option.map_eq_some_iff.1 h2
  obtain ⟨_,hn,hk⟩:=Jz hg ho hb ht
  refine ⟨t,ht, ?_⟩
  have he:=hk z hzd hpz
  rw [lU hg hp hop hx (by rw [he];exact hpz),if_pos (by rw [hn];exact hbx),he]
 ·cases h1
theorem KZ (hg:∀ o ∈ ops,o.guard=none) {i j:Nat} {p o:Oper} (hp:p ∈ ops) (ho:o ∈ ops) {s s1 s2:St} (I:MInv ops s0 s) (hc:LQ C ops s0 o p=true)
  (h1:(stepT C ops i p s).run ah some=some s1) (h2:(stepT C ops j o s1).run ah some=some s2) :
  ∃ s',(stepT C ops j o s).run ah some=some s'/\(stepT C ops i p s').run ah some=some s2:=by
 obtain ⟨x,z,d,hop,hx,hb,hpt,hz,hxo,hxd⟩:=Pv hc
 have hzd:z ≠ d:=fun e=>hz (e ▸ rJ hp (JA hb))
 have hpz:fK (s.env z)=true:=by rw [I z hz hpt];exact hpt
 obtain ⟨_,hn,hk⟩:=Jz hg hp hb h1
 have he:=hk z hzd hpz
 rw [lU hg ho hop hx (by rw [he];exact hpz)] at h2
 split at h2
 ·rename_i hbx
  simp only [Option.some.injEq,he] at h2
  refine ⟨⟨s.n,upd s.env x (s.env z),s.ak⟩,by rw [lU hg ho hop hx hpz,if_pos (by rw [<- hn];exact hbx)], ?_⟩
  rw [Td hg hp hb hpz hxo hxd,h1,Option.map_some,h2]
 ·cases h2
end
def abm {C:dh} {ah:FuncId->(t:Ty)->List Arg->Option t.den} (ops:Array Oper) (s0:St) (hg:∀ o ∈ ops.toList,o.guard=none) (hq:∀ o ∈ ops.toList,(dw C o || jV C o || ((ko o).isSome && jW C o) || (uO C o).isSome)=true):NA C ah ops:=
 have mem:∀ {i:Nat} {o:Oper},ops[i]? = some o->o ∈ ops.toList:=fun h=>Array.mem_toList_iff.2 (Array.mem_of_getElem? h)
 ⟨Vf C ops.toList s0,MInv ops.toList s0,fun _=>false,(fun h=>by cases h),(fun h=>by cases h),fun {s s1 o j} hI _ ho h=>by
  cases hgv:uO C o with
  | none=>
   have:=hq _ (mem ho)
   rw [hgv] at this
   exact Tc hg (mem ho) (by simpa using this) hI h
  | some d=>
   obtain ⟨hd,_,hk⟩:=Jz hg (mem ho) hgv h
   intro u hu ZJ
   have hne:u ≠ d:=fun e=>hu (e ▸ rJ (mem ho) hd)
   rw [hk u hne (by rw [hI u hu ZJ];exact ZJ)]
   exact hI u hu ZJ,fun {i j p o s s1 s2} l hI hp ho hcm h1 h2=>by
  unfold Vf at hcm
  simp only [Bool.or_eq_true] at hcm
  rcases hcm with (((hcm | hcm) | hcm) | hcm) | hcm
  ·exact vZ l hcm h1 h2
  ·exact NC hg (mem hp) (mem ho) l hI hcm h1 h2
  ·exact ND hg (mem hp) (mem ho) l hI hcm h1 h2
  ·exact KY hg (mem hp) (mem ho) hI hcm h1 h2
  ·exact KZ hg (mem hp) (mem ho) hI hcm h1 h2⟩
end Go.Flat
