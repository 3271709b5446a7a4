/- What copies a slot or looks into a box, beside a call that is lent another box. No condition. -/
import Derived.Test.YtmocpfgfjeaelaaGreatDrawB
set_option linter.unusedVariables false
set_option linter.unusedSimpArgs false
namespace Go.Flat
section
variable {C:dh} {ah:FuncId->(t:Ty)->List Arg->Option t.den}
theorem JB {s:St} {o:Oper} {f:FuncId} {vs:List aJ} {i id:Nat} {x d:Tmp} {v:Slot} {U:Ty} {cs:List Cell} (hs:s.ak id=some (.box (some U) cs)) (Rq:U.ob=false) (hd:o.dst=some d) (hxd:x ≠ d) :
  (qw C ⟨s.n,upd s.env x v,s.ak⟩ o f vs [] i id).run ah some=((qw C s o f vs [] i id).run ah some).map fun t=>⟨t.n,upd t.env x v,t.ak⟩:=by
 unfold qw
 cases C.P.funcs[f]? with
 | none=>rfl
 | some fn=>
  simp only [hs]
  cases hof:bG s.ak (bif U.ob then .give else .keep) U cs with
  | none=>rfl
  | some y=>
   obtain ⟨y,ids⟩:=y
   simp only
   cases hb:(nodup ids && (U.ob || ids.isEmpty)) with
   | false=>rfl
   | true=>
    simp only [Bool.and_eq_true,Rq,Bool.false_or] at hb
    obtain rfl:ids=[]:=by simpa using hb.2
    simp only [cond_true]
    have hT:∀ a ts ws,kX C ((St.bL ⟨s.n,upd s.env x v,s.ak⟩ []).forget id) i a 0 ts ws=kX C ((s.bL []).forget id) i a 0 ts ws:=fun a ts ws=>(uF ((St.bL ⟨s.n,upd s.env x v,s.ak⟩ []).forget id) i a 0 ts ws).trans (uF ((s.bL []).forget id) i a 0 ts ws).symm
    have hD:∀ ws,jB ((St.bL ⟨s.n,upd s.env x v,s.ak⟩ []).forget id) ws []=jB ((s.bL []).forget id) ws []:=fun ws=>(xk ((St.bL ⟨s.n,upd s.env x v,s.ak⟩ []).forget id) ws []).trans (xk ((s.bL []).forget id) ws []).symm
    rw [hT]
    simp only [jT]
    cases kX C ((s.bL []).forget id) i (.iF U y) 0 fn.params.toList (vs.map fun v=>(qo v []).forget id) with
    | none=>rfl
    | some args=>
     cases ((some []:Option (List Cap)).bind (·.mapM sK)) with
     | none=>rfl
     | some wo=>
      cases resTy C fn.resultTypes.toList with
      | none=>rfl
      | some rt=>
       simp only
       by_cases hA:jB ((s.bL []).forget id) (vs.map fun v=>(qo v []).forget id) []=true
       ·rw [if_pos hA,if_pos ((hD _).trans hA)]
        rfl
       ·rw [if_neg hA,if_neg (fun h=>hA ((hD _).symm.trans h))]
        simp only [T.run]
        cases ah f (.pair rt U) (args++wo) with
        | none=>rfl
        | some r=>
         simp only [Option.bind_some]
         generalize aV U.ob (Ot id) U r.2 0=rc
         obtain ⟨bc,es2,jj⟩:=rc
         generalize jI true (Nat.beq fn.resultTypes.size 1) (aI (o.dst.getD 0)) rt r.1=rs
         obtain ⟨u,es⟩:=rs
         simp only [T.run_bind,oN,hd,St.bL]
         cases dA (upd s.ak id (some (.box none (List.replicate U.sz .undef)))) (es2++es) with
         | none=>rfl
         | some σ=>
          simp only [Option.bind_some,St.put]
          cases sF d s.n with
          | false=>rfl
          | true=>
           simp only [cond_true,T.gK,Option.map_some]
           rw [ni _ _ _ hxd]
theorem Ak {s t:St} {o:Oper} {f:FuncId} {vs:List aJ} {i id:Nat} {d:Tmp} {U:Ty} {cs:List Cell} (hs:s.ak id=some (.box (some U) cs)) (Rq:U.ob=false) (hd:o.dst=some d) (h:(qw C s o f vs [] i id).run ah some=some t) :
  t.n=s.n/\(∀ z,z ≠ d->t.env z=s.env z)/\(∀ j e,j ≠ id->s.ak j=some e->t.ak j=some e)/\∃ cs',t.ak id=some (.box (some U) cs'):=by
 unfold qw at h
 split at h
 ·rename_i fn U0 cs0 hfn zK
  rw [hs] at zK
  cases zK
  split at h
  ·rename_i y ids hof
   cases hb:(nodup ids && (U.ob || ids.isEmpty)) with
   | false=>rw [hb] at h;cases h
   | true=>
    rw [hb] at h
    simp only [Bool.and_eq_true,Rq,Bool.false_or] at hb
    obtain rfl:ids=[]:=by simpa using hb.2
    simp only [cond_true] at h
    split at h
    ·split at h
     ·cases h
     ·simp only [T.run] at h
      rw [Option.bind_eq_some_iff] at h
      obtain ⟨r,_,h⟩:=h
      generalize aV U.ob (Ot id) U r.2 0=rc at h
      obtain ⟨bc,es2,jj⟩:=rc
      generalize jI true _ _ _ r.1=rs at h
      obtain ⟨u,es⟩:=rs
      simp only [T.run_bind,oN,hd,St.bL] at h
      rw [Option.bind_eq_some_iff] at h
      obtain ⟨σ,hσ,h⟩:=h
      simp only [St.put] at h
      cases hbd:sF d s.n with
      | false=>rw [hbd] at h;cases h
      | true=>
       rw [hbd] at h
       simp only [cond_true,T.gK,Option.some.injEq] at h
       subst h
       refine ⟨rfl,fun z hz=>upd_ne _ _ hz,fun j e hj he=>?_,bc,upd_same _ _ _⟩
       show upd σ id _ j=_
       rw [upd_ne _ _ hj]
       exact iC hσ j e ((upd_ne _ _ hj).trans he)
    ·cases h
  ·cases h
 ·cases h
end
section
variable {C:dh} {ah:FuncId->(t:Ty)->List Arg->Option t.den} {ops:List Oper} {s0:St}
theorem Gn {s:St} {t:Tmp}:∀ {xs:List Operand} {vs:List aJ} {i:Nat},dY s xs=some vs->xs[i]? = some (.tmp t)->∃ c,vs[i]? = some c/\s.env t=.one c
 | [],vs,i,h,hi=>by simp at hi
 | x :: xs,vs,i,h,hi=>by
  simp only [dY] at h
  split at h
  ·rename_i c r hc hr
   simp only [Option.some.injEq] at h
   subst h
   cases i with
   | zero=>simp at hi;subst hi;exact ⟨c,rfl,hc⟩
   | succ i=>exact Gn (i:=i) hr (by simpa using hi)
  ·cases h
theorem XY (hg:∀ o ∈ ops,o.guard=none) {j:Nat} {o:Oper} (ho:o ∈ ops) {d t:Tmp} (hb:BO C o=some (d,t)):∃ (f:FuncId) (fn:Func) (args:List Operand) (i:Nat),o.dst=some d/\(∀ u,Operand.tmp u ∈ args->∀ ops:List Oper,u ∈ readsOf ops o)/\args[i]? = some (.tmp t)/\C.P.funcs[f]? = some fn/\(fn.params.toList[i]?).bind C.ty=none /\
  ∀ s:St,stepT C ops j o s=match dY s args with
   | some vs=>(match vs[i]? with
    | some (.cell (.ptr id 0))=>qw C s o f vs [] i id
    | _=>zO C s o f vs [] i)
   | none=>.fail:=by
 unfold BO at hb
 split at hb
 ·rename_i f args ats dd h1 h2
  split at hb
  ·rename_i i fn hl hfn
   split at hb
   ·rename_i u hu
    cases hc:((C.sig f).yK || ((fn.params.toList[i]?).bind C.ty).isSome) with
    | true=>rw [hc] at hb;cases hb
    | false=>
     rw [hc] at hb
     simp only [cond_false,Option.some.injEq,Prod.mk.injEq] at hb
     obtain ⟨rfl,rfl⟩:=hb
     simp only [Bool.or_eq_false_iff] at hc
     refine ⟨f,fn,args.toList,i,h2,fun t ht ops'=>?_,hu,hfn,by simpa using hc.2,fun s=>?_⟩
     ·unfold readsOf
      refine List.mem_append_left _ (List.mem_filterMap.2 ⟨.tmp t, ?_,rfl⟩)
      rw [h1]
      simp only [Op.operands]
      simp [Call.operands,ht]
     ·have hgu:=hg o ho
      unfold stepT
      simp only [hgu,og hg,cond_false,T.qR]
      obtain ⟨dst,op,type,pos,after,guard⟩:=o
      simp only at h1 h2
      subst h1 h2
      simp only [mK,St.ev]
      cases dY s args.toList with
      | none=>rfl
      | some vs=>
       simp only [Iu,hl,hc.1,cond_false]
       cases vs[i]? with
       | none=>rfl
       | some c=>cases c with
        | agg _=>rfl
        | cell c=>
         cases c <;> first | rfl | (rename_i id off;cases off <;> rfl)
   ·cases hb
  ·cases hb
 ·cases hb
def EY (ops:List Oper) (s0 s:St):Prop:=
 (∀ t,t ∉ dstsOf ops->s.env t=s0.env t) /\
 (∀ t,s.env t=s0.env t\/∃ o ∈ ops,o.dst=some t/\∀ z,o.op=.move (.tmp z)->z ∉ dstsOf ops->fK (s0.env z)=true->s.env t=s0.env z) /\
 (∀ j T cs,s0.ak j=some (.box (some T) cs)->∃ cs',s.ak j=some (.box (some T) cs'))
theorem TY {v:Slot} {bad:Option Nat} (h:IB s0 bad v=true):v=.one (.cell .undef)\/∃ id T cs,v=.one (.cell (.ptr id 0))/\s0.ak id=some (.box (some T) cs)/\T.ob=false/\bad ≠ some id:=by
 unfold IB at h
 split at h
 ·rename_i id
  simp only [Bool.and_eq_true,Bool.not_eq_true'] at h
  obtain ⟨h1,h2⟩:=h
  split at h1
  ·rename_i T cs hs
   exact .inr ⟨id,T,cs,rfl,hs,by simpa using h1,by simpa using h2⟩
  ·cases h1
 ·exact .inl rfl
 ·cases h
theorem XZ {s:St} (I:EY ops s0 s) {bad:Option Nat} {t:Tmp} (h:uP ops s0 bad t=true):IB s0 bad (s.env t)=true:=by
 unfold uP at h
 simp only [Bool.and_eq_true] at h
 rcases I.2.1 t with e | ⟨o,ho,hd,hm⟩
 ·rw [e];exact h.1
 ·have:=List.all_eq_true.1 h.2 o ho
  simp only [hd,beq_self_eq_true,Bool.not_true,Bool.false_or] at this
  split at this
  ·rename_i z hz
   simp only [Bool.and_eq_true,Bool.not_eq_true'] at this
   obtain ⟨⟨k1,k2⟩,k3⟩:=this
   rw [hm z hz (by simpa using k1) k2]
   exact k3
  ·cases this
theorem JC (hg:∀ o ∈ ops,o.guard=none) {j:Nat} {o:Oper} (ho:o ∈ ops) {d t:Tmp} (hb:BO C o=some (d,t)) {bad:Option Nat} (hc:uP ops s0 bad t=true) {s s1:St} (I:EY ops s0 s) (h:(stepT C ops j o s).run ah some=some s1) :
  o.dst=some d/\∃ (f:FuncId) (args:List Operand) (vs:List aJ) (i id:Nat) (T:Ty) (cs:List Cell),(∀ u,Operand.tmp u ∈ args->∀ ops:List Oper,u ∈ readsOf ops o)/\dY s args=some vs/\s.ak id=some (.box (some T) cs)/\T.ob=false/\bad ≠ some id/\s.env t=.one (.cell (.ptr id 0)) /\
   (qw C s o f vs [] i id).run ah some=some s1/\∀ s':St,dY s' args=some vs->(stepT C ops j o s').run ah some=(qw C s' o f vs [] i id).run ah some:=by
 obtain ⟨f,fn,args,i,hd,hr,ha,hfn,hpt,hs⟩:=XY hg ho hb (j:=j)
 refine ⟨hd, ?_⟩
 have h':=h
 rw [hs] at h'
 cases hvs:dY s args with
 | none=>rw [hvs] at h';cases h'
 | some vs=>
  rw [hvs] at h'
  simp only at h'
  obtain ⟨c,hc1,hc2⟩:=Gn hvs ha
  have hok:=XZ I hc
  rw [hc2] at hok
  rcases TY hok with e | ⟨id,T,cs,e,h0,h1,h2⟩
  ·exfalso
   cases e
   rw [hc1] at h'
   simp only [zO,hfn,hc1,hpt] at h'
   cases h'
  ·cases e
   rw [hc1] at h'
   obtain ⟨cs',hcs'⟩:=I.2.2 id T cs h0
   refine ⟨f,args,vs,i,id,T,cs',hr,hvs,hcs',h1,h2,hc2,h',fun s' hs'=>?_⟩
   rw [hs,hs']
   simp only [hc1]
theorem Pw (hg:∀ o ∈ ops,o.guard=none) {i:Nat} {o:Oper} (ho:o ∈ ops) {ty:TypeId} {x z:Tmp} (h1:o.op=.load ty (.tmp z)) (h2:o.dst=some x) {s s1:St} {id off:Nat} (hp:s.env z=.one (.cell (.ptr id off))) (h:(stepT C ops i o s).run ah some=some s1) :
  ∃ v e,s.ak id=some e/\sF x s.n=true/\s1=⟨s.n,upd s.env x v,s.ak⟩/\∀ s':St,s'.env z=.one (.cell (.ptr id off))->s'.ak id=some e->sF x s'.n=true->(stepT C ops i o s').run ah some=some ⟨s'.n,upd s'.env x v,s'.ak⟩:=by
 have hgo:=hg o ho
 have hst:∀ s:St,stepT C ops i o s=mK C o s:=fun s=>by
  unfold stepT
  simp only [hgo,og hg,cond_false,T.qR]
 rw [hst] at h
 obtain ⟨dst,op,type,pos,after,guard⟩:=o
 simp only at h1 h2
 subst h1 h2
 have htk:C.take (some x) ty=false:=by
  cases htk:C.take (some x) ty with
  | false=>rfl
  | true=>
   simp only [mK,htk,cond_true] at h
   cases h
 simp only [mK,St.ev,hp,htk,cond_false] at h
 split at h
 ·rename_i n agg p hsh hx
  cases hx
  simp only [St.iY] at h
  cases hse:s.ak id with
  | none=>rw [hse] at h;cases h
  | some e=>
   rw [hse] at h
   cases e with
   | box t cs=>
    simp only at h
    split at h
    ·rename_i hle
     simp only [T.bind,T.run,St.put,T.run_bind,T.gK] at h
     cases hin:sF x s.n with
     | false=>rw [hin] at h;cases h
     | true=>
      rw [hin] at h
      simp only [cond_true,T.run,Option.some.injEq] at h
      refine ⟨_,.box t cs,rfl,rfl,h.symm,fun s' hz hs' hin'=>?_⟩
      rw [hst]
      simp only [mK,St.ev,hz,hsh,htk,cond_false,St.iY,hs',if_pos hle]
      simp only [T.bind,T.run,St.put,T.run_bind,T.gK,hin',cond_true]
    ·cases h
   | arr _ _ _=>cases h
   | deep _ _ _=>cases h
 ·cases h
theorem Px {a b:Oper} (h:FU C ops s0 a b=true):∃ x z d t,BO C b=some (d,t)/\a.dst=some x/\z ∉ dstsOf ops/\x ∉ readsOf ops b/\x ≠ d /\
  ((a.op=.move (.tmp z)/\fK (s0.env z)=true/\uP ops s0 none t=true)\/∃ ty id off,a.op=.load ty (.tmp z)/\s0.env z=.one (.cell (.ptr id off))/\uP ops s0 (some id) t=true):=by
 unfold FU at h
 split at h
 ·rename_i z x d t h1 h2 h3
  simp only [Bool.and_eq_true,Bool.not_eq_true'] at h
  obtain ⟨⟨⟨⟨k2,k3⟩,k4⟩,k5⟩,k6⟩:=h
  exact ⟨x,z,d,t,h3,h2,by simpa using k3,by simpa using k4,fun e=>by subst e;simp at k5,.inl ⟨h1,k2,k6⟩⟩
 ·rename_i ty z x d t h1 h2 h3
  simp only [Bool.and_eq_true,Bool.not_eq_true'] at h
  obtain ⟨⟨⟨⟨k1,k3⟩,k4⟩,k5⟩,k2⟩:=h
  split at k2
  ·rename_i id off hz
   exact ⟨x,z,d,t,h3,h2,by simpa using k3,by simpa using k4,fun e=>by subst e;simp at k5,.inr ⟨ty,id,off,h1,hz,k2⟩⟩
  ·cases k2
 ·cases h
theorem VY (hg:∀ o ∈ ops,o.guard=none) {i:Nat} {p:Oper} (hp:p ∈ ops) {x z:Tmp} (hx:p.dst=some x) {s s1:St} (I:EY ops s0 s) (hz:z ∉ dstsOf ops) {bad:Option Nat}
  (hk:(p.op=.move (.tmp z)/\fK (s0.env z)=true)\/∃ ty id off,p.op=.load ty (.tmp z)/\s0.env z=.one (.cell (.ptr id off))/\bad=some id) (h:(stepT C ops i p s).run ah some=some s1) :
  ∃ v,s1=⟨s.n,upd s.env x v,s.ak⟩/\sF x s.n=true/\∀ s':St,s'.env z=s.env z->(∀ j e,bad=some j->s.ak j=some e->s'.ak j=some e)->s'.n=s.n->(stepT C ops i p s').run ah some=some ⟨s'.n,upd s'.env x v,s'.ak⟩:=by
 have UR:s.env z=s0.env z:=I.1 z hz
 rcases hk with ⟨hop,hpt⟩ | ⟨ty,id,off,hop,hsz,hbad⟩
 ·rw [lU hg hp hop hx (by rw [UR];exact hpt)] at h
  split at h
  ·rename_i hin
   simp only [Option.some.injEq] at h
   refine ⟨s.env z,h.symm,hin,fun s' h1 _ h3=>?_⟩
   rw [lU hg hp hop hx (by rw [h1,UR];exact hpt),if_pos (by rw [h3];exact hin),h1]
  ·cases h
 ·obtain ⟨v,e,k1,k2,k3,k4⟩:=Pw hg hp hop hx (UR.trans hsz) h
  exact ⟨v,k3,k2,fun s' h1 h2 h3=>k4 s' (h1.trans (UR.trans hsz)) (h2 id e hbad k1) (by rw [h3];exact k2)⟩
theorem Ua (hg:∀ o ∈ ops,o.guard=none) {i:Nat} {p:Oper} (hp:p ∈ ops) {x z:Tmp} (hx:p.dst=some x) {s s' s2:St} (hz:s'.env z=s.env z) (UR:s.env z=s0.env z) {bad:Option Nat}
  (hk:(p.op=.move (.tmp z)/\fK (s0.env z)=true)\/∃ ty id off,p.op=.load ty (.tmp z)/\s0.env z=.one (.cell (.ptr id off))/\bad=some id) (zK:∀ j e,bad=some j->s'.ak j=some e->s.ak j=some e) (hn:s'.n=s.n) (h:(stepT C ops i p s').run ah some=some s2) :
  ∃ v,s2=⟨s'.n,upd s'.env x v,s'.ak⟩/\(stepT C ops i p s).run ah some=some ⟨s.n,upd s.env x v,s.ak⟩:=by
 rcases hk with ⟨hop,hpt⟩ | ⟨ty,id,off,hop,hsz,hbad⟩
 ·rw [lU hg hp hop hx (by rw [hz,UR];exact hpt)] at h
  split at h
  ·rename_i hin
   simp only [Option.some.injEq] at h
   refine ⟨s'.env z,h.symm, ?_⟩
   rw [lU hg hp hop hx (by rw [UR];exact hpt),if_pos (by rw [<- hn];exact hin),hz]
  ·cases h
 ·obtain ⟨v,e,k1,k2,k3,k4⟩:=Pw hg hp hop hx (hz.trans (UR.trans hsz)) h
  exact ⟨v,k3,k4 s (UR.trans hsz) (zK id e hbad k1) (by rw [<- hn];exact k2)⟩
theorem La (hg:∀ o ∈ ops,o.guard=none) {i j:Nat} {p o:Oper} (hp:p ∈ ops) (ho:o ∈ ops) {s s1 s2:St} (I:EY ops s0 s) (hc:FU C ops s0 p o=true) (hI1:EY ops s0 s1)
  (h1:(stepT C ops i p s).run ah some=some s1) (h2:(stepT C ops j o s1).run ah some=some s2) :
  ∃ s',(stepT C ops j o s).run ah some=some s'/\(stepT C ops i p s').run ah some=some s2:=by
 obtain ⟨x,z,d,t,hb,hx,hz,hxo,hxd,hk⟩:=Px hc
 obtain ⟨bad,hcb,hk'⟩:∃ bad:Option Nat,uP ops s0 bad t=true/\((p.op=.move (.tmp z)/\fK (s0.env z)=true)\/∃ ty id off,p.op=.load ty (.tmp z)/\s0.env z=.one (.cell (.ptr id off))/\bad=some id):=by
  rcases hk with hk | ⟨ty,id,off,k1,k2,k3⟩
  ·exact ⟨none,hk.2.2,.inl ⟨hk.1,hk.2.1⟩⟩
  ·exact ⟨some id,k3,.inr ⟨ty,id,off,k1,k2,rfl⟩⟩
 obtain ⟨v,rfl,hin,hrun⟩:=VY hg hp hx I hz hk' h1
 obtain ⟨hd,f,args,vs,i0,id,T,cs,hr,hvs,hs,Rq,hne,XP,hcall,NI⟩:=JC hg ho hb hcb hI1 h2
 have ZK:dY s args=some vs:=by
  rw [<- hvs]
  exact (yZ (fun u hu (e:u=x)=>hxo (by rw [<- e];exact hr u hu ops))).symm
 have hs':s.ak id=some (.box (some T) cs):=hs
 rw [JB hs' Rq hd hxd] at hcall
 obtain ⟨s',hs2,rfl⟩:=Option.map_eq_some_iff.1 hcall
 obtain ⟨hn,hkeep,zK,_⟩:=Ak hs' Rq hd hs2
 have hzd:z ≠ d:=fun e=>hz (e ▸ rJ ho hd)
 refine ⟨s',by rw [NI s ZK];exact hs2, ?_⟩
 exact hrun s' (hkeep z hzd) (fun j e hj he=>zK j e (fun ee=>hne (ee ▸ hj)) he) hn
theorem Lb (hg:∀ o ∈ ops,o.guard=none) {i j:Nat} {p o:Oper} (hp:p ∈ ops) (ho:o ∈ ops) {s s1 s2:St} (l:Live s) (I:EY ops s0 s) (hc:FU C ops s0 o p=true)
  (h1:(stepT C ops i p s).run ah some=some s1) (h2:(stepT C ops j o s1).run ah some=some s2) :
  ∃ s',(stepT C ops j o s).run ah some=some s'/\(stepT C ops i p s').run ah some=some s2:=by
 obtain ⟨x,z,d,t,hb,hx,hz,hxo,hxd,hk⟩:=Px hc
 obtain ⟨bad,hcb,hk',hbz⟩:∃ bad:Option Nat,uP ops s0 bad t=true/\((o.op=.move (.tmp z)/\fK (s0.env z)=true)\/∃ ty id off,o.op=.load ty (.tmp z)/\s0.env z=.one (.cell (.ptr id off))/\bad=some id)/\∀ j,bad=some j->∃ off,s0.env z=.one (.cell (.ptr j off)):=by
  rcases hk with hk | ⟨ty,id,off,k1,k2,k3⟩
  ·exact ⟨none,hk.2.2,.inl ⟨hk.1,hk.2.1⟩,fun j h=>by cases h⟩
  ·exact ⟨some id,k3,.inr ⟨ty,id,off,k1,k2,rfl⟩,fun j h=>by cases h;exact ⟨off,k2⟩⟩
 obtain ⟨hd,f,args,vs,i0,id,T,cs,hr,hvs,hs,Rq,hne,XP,hcall,NI⟩:=JC hg hp hb hcb I h1
 obtain ⟨hn,hkeep,zK,_⟩:=Ak hs Rq hd hcall
 have hzd:z ≠ d:=fun e=>hz (e ▸ rJ hp hd)
 have hback:∀ j e,bad=some j->s1.ak j=some e->s.ak j=some e:=fun j e hj he=>by
  obtain ⟨off,hsz⟩:=hbz j hj
  obtain ⟨e0,hold⟩:=l.env z j (by rw [I.1 z hz,hsz];simp [Slot.ids,aJ.ids,aJ.cells,Cell.ids])
  have:=zK j e0 (fun ee=>hne (ee ▸ hj)) hold
  rw [he] at this
  cases this
  exact hold
 obtain ⟨v,rfl,hrun⟩:=Ua hg ho hx (hkeep z hzd) (I.1 z hz) hk' hback hn h2
 refine ⟨_,hrun, ?_⟩
 have ZK:dY ⟨s.n,upd s.env x v,s.ak⟩ args=some vs:=by
  rw [<- hvs]
  exact yZ (fun u hu (e:u=x)=>hxo (by rw [<- e];exact hr u hu ops))
 rw [NI _ ZK,JB hs Rq hd hxd,hcall]
 rfl
theorem JD (hg:∀ o ∈ ops,o.guard=none) {i:Nat} {o:Oper} (ho:o ∈ ops) (hq:dw C o=true) {s s1:St} (I:EY ops s0 s) (h:(stepT C ops i o s).run ah some=some s1):EY ops s0 s1:=by
 obtain ⟨d,hd⟩:∃ d,o.dst=some d:=Option.isSome_iff_exists.1 (by simp only [dw,Bool.and_eq_true] at hq;exact hq.1)
 have hdm:=rJ ho hd
 have h':=h
 rw [gL hq,hd,T.run_bind] at h
 obtain ⟨⟨v,es⟩,hv,h⟩:=T.bH h
 rw [bW] at h
 obtain ⟨σ,hσ,h⟩:=Option.bind_eq_some_iff.1 h
 cases hb:sF d s.n with
 | false=>rw [hb] at h;cases h
 | true=>
  rw [hb] at h
  simp only [cond_true,Option.some.injEq] at h
  have he:∀ t,t ≠ d->s1.env t=s.env t:=fun t ht=>by subst h;exact upd_ne _ _ ht
  have hs:s1.ak=σ:=by subst h;rfl
  refine ⟨fun t ht=>(he t (fun e=>ht (e ▸ hdm))).trans (I.1 t ht),fun t=>?_,fun j U cs hj=>?_⟩
  ·by_cases ht:t=d
   ·subst ht
    refine .inr ⟨o,ho,hd,fun z hz hzn hpt=>?_⟩
    have UR:=I.1 z hzn
    rw [lU hg ho hz hd (by rw [UR];exact hpt),if_pos hb] at h'
    simp only [Option.some.injEq] at h'
    rw [<- h',<- UR]
    exact upd_same _ _ _
   ·rw [he t ht]
    exact I.2.1 t
  ·obtain ⟨cs',hc⟩:=I.2.2 j U cs hj
   exact ⟨cs',by rw [hs];exact iC hσ _ _ hc⟩
theorem VZ (hg:∀ o ∈ ops,o.guard=none) {i:Nat} {o:Oper} (ho:o ∈ ops) {d t:Tmp} (hb:BO C o=some (d,t)) (hc:uP ops s0 none t=true) {s s1:St} (I:EY ops s0 s) (h:(stepT C ops i o s).run ah some=some s1):EY ops s0 s1:=by
 obtain ⟨hd,f,args,vs,i0,id,U,cs,hr,hvs,hs,Rq,hne,XP,hcall,NI⟩:=JC hg ho hb hc I h
 obtain ⟨hn,hkeep,zK,cs',hid⟩:=Ak hs Rq hd hcall
 have hdm:=rJ ho hd
 refine ⟨fun u hu=>(hkeep u (fun e=>hu (e ▸ hdm))).trans (I.1 u hu),fun u=>?_,fun j V c0 hj=>?_⟩
 ·by_cases hu:u=d
  ·subst hu
   refine .inr ⟨o,ho,hd,fun z hz _ _=>?_⟩
   exfalso
   unfold BO at hb
   rw [hz] at hb
   cases hb
  ·rw [hkeep u hu]
   exact I.2.1 u
 ·obtain ⟨c1,h1⟩:=I.2.2 j V c0 hj
  by_cases hji:j=id
  ·subst hji
   rw [hs] at h1
   cases h1
   exact ⟨cs',hid⟩
  ·exact ⟨c1,zK j _ hji h1⟩
theorem xK:∀ {ids:List Nat} {σ:Nat->Option Entry} {i:Nat} {T:Option Ty} {cs:List Cell},σ i=some (.box T cs)->cO σ ids i=some (.box T cs)
 | [],σ,i,T,cs,h=>h
 | j :: r,σ,i,T,cs,h=>by
  have skip:cO σ (j :: r)=cO σ r\/∃ t l o,σ j=some (.arr t l o)/\cO σ (j :: r)=cO (upd σ j (some (.arr t l .frozen))) r:=by
   simp only [cO]
   split
   ·rename_i t l o hj
    exact .inr ⟨t,l,o,hj,rfl⟩
   ·exact .inl rfl
  rcases skip with hf | ⟨t,l,o,hj,hf⟩
  ·rw [hf];exact xK h
  ·rw [hf]
   refine xK ?_
   have:i ≠ j:=fun e=>by subst e;rw [h] at hj;cases hj
   rw [upd_ne _ _ this]
   exact h
theorem Py (hg:∀ o ∈ ops,o.guard=none) {i:Nat} {o:Oper} (hoo:o ∈ ops) (hst:jV C o=true) {s s1:St} (hs:(stepT C ops i o s).run ah some=some s1) :
  ∀ j T cs,s.ak j=some (.box T cs)->∃ cs',s1.ak j=some (.box T cs'):=by
 have hgo:=hg o hoo
 unfold stepT at hs
 simp only [hgo,og hg,cond_false,T.qR] at hs
 obtain ⟨dst,op,type,pos,after,guard⟩:=o
 simp only [jV,Bool.and_eq_true] at hst
 obtain ⟨hd,hst⟩:=hst
 obtain rfl:dst=none:=by cases dst with
  | none=>rfl
  | some _=>cases hd
 cases op <;> simp only at hst <;> try (cases hst;done)
 case store t q x=>
  have hgv:C.gives.contains t=false:=by simpa using hst
  simp only [mK,hgv] at hs
  split at hs
  ·rename_i n agg p v hsh hp hv
   split at hs
   ·rw [T.run_bind] at hs
    obtain ⟨s3,h3,hs⟩:=T.bH hs
    simp only [St.put,T.gK] at hs
    cases hs
    intro j U cs hj
    cases p <;> simp only [St.store] at h3 <;> try (cases h3;done)
    case ptr id off=>
     split at h3
     ·rename_i ty cs0 hse
      split at h3
      ·cases h3
       by_cases hij:j=id
       ·subst hij
        rw [hj] at hse
        cases hse
        exact ⟨_,upd_same _ _ _⟩
       ·exact ⟨cs,(upd_ne _ _ hij).trans hj⟩
      ·cases h3
     ·cases h3
    case mJ id k off=>
     split at h3
     ·rename_i ty l o hse
      split at h3
      ·cases h3
      ·split at h3
       ·split at h3
        ·split at h3
         ·cases h3
         ·cases h3
          have hij:j ≠ id:=fun e=>by subst e;rw [hj] at hse;cases hse
          exact ⟨cs,(upd_ne _ _ hij).trans (xK hj)⟩
        ·cases h3
       ·cases h3
     ·cases h3
   ·cases hs
  ·cases hs
theorem RF (hg:∀ o ∈ ops,o.guard=none) {i:Nat} {o:Oper} (ho:o ∈ ops) (hst:jV C o=true) {s s1:St} (I:EY ops s0 s) (h:(stepT C ops i o s).run ah some=some s1):EY ops s0 s1:=by
 obtain ⟨_,he,_⟩:=mU (env':=s.env) hst (fun _ _=>rfl) h
 refine ⟨fun t ht=>by rw [he];exact I.1 t ht,fun t=>by rw [he];exact I.2.1 t,fun j T cs hj=>?_⟩
 obtain ⟨cs1,h1⟩:=I.2.2 j T cs hj
 exact Py hg ho hst h j _ _ h1
theorem Pz {a b:Oper} (h:FU C ops s0 a b=true):dw C a=true:=by
 unfold FU at h
 split at h
 ·rename_i z x d t h1 h2 h3
  unfold dw
  rw [h1,h2]
  rfl
 ·simp only [Bool.and_eq_true] at h
  exact h.1.1.1.1
 ·cases h
end
def abn {C:dh} {ah:FuncId->(t:Ty)->List Arg->Option t.den} (ops:Array Oper) (s0:St) (hg:∀ o ∈ ops.toList,o.guard=none) (tail:Nat->Bool)
  (EW:∀ {i j:Nat},tail i=true->i<=j->tail j=true) (Jv:∀ {j:Nat} {o:Oper},tail j=true->ops[j]? = some o->∀ k,k<j->∃ m,(jJ ops.toList [])[j]? = some m/\m.testBit k=true)
  (hq:∀ (j:Nat) (o:Oper),ops[j]? = some o->tail j=false->dw C o=true\/jV C o=true\/∃ d t,BO C o=some (d,t)/\uP ops.toList s0 none t=true):NA C ah ops:=
 have mem:∀ {i:Nat} {o:Oper},ops[i]? = some o->o ∈ ops.toList:=fun h=>Array.mem_toList_iff.2 (Array.mem_of_getElem? h)
 ⟨Vg C ops.toList s0,EY ops.toList s0,tail,EW,(fun h1 h2 k hk=>.inl (Jv h1 h2 k hk)),fun {s s1 o j} hI htl ho h=>by
  rcases hq j o ho htl with hq | hq | ⟨d,t,hb,hc⟩
  ·exact JD hg (mem ho) hq hI h
  ·exact RF hg (mem ho) hq hI h
  ·exact VZ hg (mem ho) hb hc hI h,fun {i j p o s s1 s2} l hI hp ho hcm h1 h2=>by
  unfold Vg at hcm
  simp only [Bool.or_eq_true] at hcm
  rcases hcm with (hcm | hcm) | hcm
  ·exact vZ l hcm h1 h2
  ·exact La hg (mem hp) (mem ho) hI hcm (JD hg (mem hp) (Pz hcm) hI h1) h1 h2
  ·exact Lb hg (mem hp) (mem ho) l hI hcm h1 h2⟩
end Go.Flat
