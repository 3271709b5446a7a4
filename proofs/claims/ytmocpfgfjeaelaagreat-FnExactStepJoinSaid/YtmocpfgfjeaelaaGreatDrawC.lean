/- What copies a slot or looks into a box, beside a call that is lent another box. No condition. -/
import Derived.Test.YtmocpfgfjeaelaaGreatDrawB
set_option linter.unusedVariables false
set_option linter.unusedSimpArgs false
namespace Go.Flat
section
variable {C:aZ} {ah:FuncId->(t:Ty)->List Arg->Option t.den}
theorem zW {s:St} {o:Oper} {f:FuncId} {vs:List av} {i id:Nat} {x d:Tmp} {v:Slot} {U:Ty} {cs:List Cell} (hs:s.aj id=some (.box (some U) cs)) (Lc:U.ob=false) (hd:o.dst=some d) (hxd:x ≠ d) :
  (lF C ⟨s.n,upd s.env x v,s.aj⟩ o f vs [] i id).run ah some=((lF C s o f vs [] i id).run ah some).map fun t=>⟨t.n,upd t.env x v,t.aj⟩:=by
 unfold lF
 cases C.P.funcs[f]? with
 | none=>rfl
 | some fn=>
  simp only [hs]
  cases hof:aL s.aj (bif U.ob then .give else .keep) U cs with
  | none=>rfl
  | some y=>
   obtain ⟨y,ids⟩:=y
   simp only
   cases hb:(nodup ids && (U.ob || ids.isEmpty)) with
   | false=>rfl
   | true=>
    simp only [Bool.and_eq_true,Lc,Bool.false_or] at hb
    obtain rfl:ids=[]:=by simpa using hb.2
    simp only [cond_true]
    have hT:∀ a ts ws,jC C ((St.aJ ⟨s.n,upd s.env x v,s.aj⟩ []).forget id) i a 0 ts ws=jC C ((s.aJ []).forget id) i a 0 ts ws:=fun a ts ws=>(qb ((St.aJ ⟨s.n,upd s.env x v,s.aj⟩ []).forget id) i a 0 ts ws).trans (qb ((s.aJ []).forget id) i a 0 ts ws).symm
    have hD:∀ ws,gY ((St.aJ ⟨s.n,upd s.env x v,s.aj⟩ []).forget id) ws []=gY ((s.aJ []).forget id) ws []:=fun ws=>(sH ((St.aJ ⟨s.n,upd s.env x v,s.aj⟩ []).forget id) ws []).trans (sH ((s.aJ []).forget id) ws []).symm
    rw [hT]
    simp only [iW]
    cases jC C ((s.aJ []).forget id) i (.mQ U y) 0 fn.params.toList (vs.map fun v=>(nu v []).forget id) with
    | none=>rfl
    | some args=>
     cases ((some []:Option (List Cap)).bind (·.mapM oH)) with
     | none=>rfl
     | some pK=>
      cases resTy C fn.resultTypes.toList with
      | none=>rfl
      | some rt=>
       simp only
       by_cases hA:gY ((s.aJ []).forget id) (vs.map fun v=>(nu v []).forget id) []=true
       ·rw [if_pos hA,if_pos ((hD _).trans hA)]
        rfl
       ·rw [if_neg hA,if_neg (fun h=>hA ((hD _).symm.trans h))]
        simp only [T.run]
        cases ah f (.pair rt U) (args++pK) with
        | none=>rfl
        | some r=>
         simp only [Option.bind_some]
         generalize aA U.ob (IJ id) U r.2 0=rc
         obtain ⟨bc,es2,jj⟩:=rc
         generalize fM true (Nat.beq fn.resultTypes.size 1) (ak (o.dst.getD 0)) rt r.1=rs
         obtain ⟨u,es⟩:=rs
         simp only [T.run_bind,jd,hd,St.aJ]
         cases bn (upd s.aj id (some (.box none (List.replicate U.sz .undef)))) (es2++es) with
         | none=>rfl
         | some σ=>
          simp only [Option.bind_some,St.put]
          cases mR d s.n with
          | false=>rfl
          | true=>
           simp only [cond_true,T.bK,Option.map_some]
           rw [iO _ _ _ hxd]
theorem sJ {s t:St} {o:Oper} {f:FuncId} {vs:List av} {i id:Nat} {d:Tmp} {U:Ty} {cs:List Cell} (hs:s.aj id=some (.box (some U) cs)) (Lc:U.ob=false) (hd:o.dst=some d) (h:(lF C s o f vs [] i id).run ah some=some t) :
  t.n=s.n/\(∀ z,z ≠ d->t.env z=s.env z)/\(∀ j e,j ≠ id->s.aj j=some e->t.aj j=some e)/\∃ cs',t.aj id=some (.box (some U) cs'):=by
 unfold lF at h
 split at h
 ·rename_i fn U0 cs0 hfn lK
  rw [hs] at lK
  cases lK
  split at h
  ·rename_i y ids hof
   cases hb:(nodup ids && (U.ob || ids.isEmpty)) with
   | false=>rw [hb] at h;cases h
   | true=>
    rw [hb] at h
    simp only [Bool.and_eq_true,Lc,Bool.false_or] at hb
    obtain rfl:ids=[]:=by simpa using hb.2
    simp only [cond_true] at h
    split at h
    ·split at h
     ·cases h
     ·simp only [T.run] at h
      rw [Option.bind_eq_some_iff] at h
      obtain ⟨r,_,h⟩:=h
      generalize aA U.ob (IJ id) U r.2 0=rc at h
      obtain ⟨bc,es2,jj⟩:=rc
      generalize fM true _ _ _ r.1=rs at h
      obtain ⟨u,es⟩:=rs
      simp only [T.run_bind,jd,hd,St.aJ] at h
      rw [Option.bind_eq_some_iff] at h
      obtain ⟨σ,hσ,h⟩:=h
      simp only [St.put] at h
      cases hbd:mR d s.n with
      | false=>rw [hbd] at h;cases h
      | true=>
       rw [hbd] at h
       simp only [cond_true,T.bK,Option.some.injEq] at h
       subst h
       refine ⟨rfl,fun z hz=>upd_ne _ _ hz,fun j e hj he=>?_,bc,upd_same _ _ _⟩
       show upd σ id _ j=_
       rw [upd_ne _ _ hj]
       exact eB hσ j e ((upd_ne _ _ hj).trans he)
    ·cases h
  ·cases h
 ·cases h
end
section
variable {C:aZ} {ah:FuncId->(t:Ty)->List Arg->Option t.den} {ops:List Oper} {s0:St}
theorem xQ {s:St} {t:Tmp}:∀ {xs:List Operand} {vs:List av} {i:Nat},bg s xs=some vs->xs[i]? = some (.tmp t)->∃ c,vs[i]? = some c/\s.env t=.one c
 | [],vs,i,h,hi=>by simp at hi
 | x :: xs,vs,i,h,hi=>by
  simp only [bg] at h
  split at h
  ·rename_i c r hc hr
   simp only [Option.some.injEq] at h
   subst h
   cases i with
   | zero=>simp at hi;subst hi;exact ⟨c,rfl,hc⟩
   | succ i=>exact xQ (i:=i) hr (by simpa using hi)
  ·cases h
theorem Po (hg:∀ o ∈ ops,o.guard=none) {j:Nat} {o:Oper} (ho:o ∈ ops) {d t:Tmp} (hb:oF C o=some (d,t)):∃ (f:FuncId) (fn:Func) (args:List Operand) (i:Nat),o.dst=some d/\(∀ u,Operand.tmp u ∈ args->∀ ops:List Oper,u ∈ readsOf ops o)/\args[i]? = some (.tmp t)/\C.P.funcs[f]? = some fn/\(fn.params.toList[i]?).bind C.ty=none /\
  ∀ s:St,stepT C ops j o s=match bg s args with
   | some vs=>(match vs[i]? with
    | some (.cell (.ptr id 0))=>lF C s o f vs [] i id
    | some (.cell (.inn id j off))=>EJ C s o f vs i id j off
    | _=>wR C s o f vs [] i)
   | none=>.fail:=by
 unfold oF at hb
 split at hb
 ·rename_i f args ats dd h1 h2
  split at hb
  ·rename_i i fn hl hfn
   split at hb
   ·rename_i u hu
    cases hc:((C.sig f).wI || ((fn.params.toList[i]?).bind C.ty).isSome) with
    | true=>rw [hc] at hb;cases hb
    | false=>
     rw [hc] at hb
     simp only [cond_false,Option.some.injEq,Prod.mk.injEq] at hb
     obtain ⟨rfl,rfl⟩:=hb
     simp only [Bool.or_eq_false_iff] at hc
     refine ⟨f,fn,args.toList,i,h2,fun t ht ops'=>?_,hu,hfn,by simpa using hc.2,fun s=>?_⟩
     ·unfold readsOf
      refine List.mem_append_left _ (List.mem_filterMap.2 ⟨.tmp t, ?_,rfl⟩)
      rw [h1]
      simp only [Op.operands]
      simp [Call.operands,ht]
     ·have hgu:=hg o ho
      unfold stepT
      simp only [hgu,iE hg,cond_false,T.ji]
      obtain ⟨dst,op,type,pos,after,guard⟩:=o
      simp only at h1 h2
      subst h1 h2
      simp only [jT,St.ev]
      cases bg s args.toList with
      | none=>rfl
      | some vs=>
       simp only [zH,hl,hc.1,cond_false]
       cases vs[i]? with
       | none=>rfl
       | some c=>cases c with
        | agg _=>rfl
        | cell c=>
         cases c <;> first | rfl | (rename_i id off;cases off <;> rfl)
   ·cases hb
  ·cases hb
 ·cases hb
def tu (ops:List Oper) (s0 s:St):Prop:=
 (∀ t,t ∉ dstsOf ops->s.env t=s0.env t) /\
 (∀ t,s.env t=s0.env t\/∃ o ∈ ops,o.dst=some t/\∀ z,o.op=.move (.tmp z)->z ∉ dstsOf ops->cK (s0.env z)=true->s.env t=s0.env z) /\
 (∀ j T cs,s0.aj j=some (.box (some T) cs)->∃ cs',s.aj j=some (.box (some T) cs'))
theorem Qk {v:Slot} {bad:Option Nat} (h:Fh s0 bad v=true):v=.one (.cell .undef)\/∃ id T cs,v=.one (.cell (.ptr id 0))/\s0.aj id=some (.box (some T) cs)/\T.ob=false/\bad ≠ some id:=by
 unfold Fh at h
 split at h
 ·rename_i id
  simp only [Bool.and_eq_true,Bool.not_eq_true'] at h
  obtain ⟨h1,h2⟩:=h
  split at h1
  ·rename_i T cs hs
   exact .inr ⟨id,T,cs,rfl,hs,by simpa using h1,by simpa using h2⟩
  ·cases h1
 ·exact .inl rfl
 ·cases h
theorem TU {s:St} (I:tu ops s0 s) {bad:Option Nat} {t:Tmp} (h:nJ ops s0 bad t=true):Fh s0 bad (s.env t)=true:=by
 unfold nJ at h
 simp only [Bool.and_eq_true] at h
 rcases I.2.1 t with e | ⟨o,ho,hd,hm⟩
 ·rw [e];exact h.1
 ·have:=List.all_eq_true.1 h.2 o ho
  simp only [hd,beq_self_eq_true,Bool.not_true,Bool.false_or] at this
  split at this
  ·rename_i z hz
   simp only [Bool.and_eq_true,Bool.not_eq_true'] at this
   obtain ⟨⟨k1,k2⟩,k3⟩:=this
   rw [hm z hz (by simpa using k1) k2]
   exact k3
  ·cases this
theorem AZ (hg:∀ o ∈ ops,o.guard=none) {j:Nat} {o:Oper} (ho:o ∈ ops) {d t:Tmp} (hb:oF C o=some (d,t)) {bad:Option Nat} (hc:nJ ops s0 bad t=true) {s s1:St} (I:tu ops s0 s) (h:(stepT C ops j o s).run ah some=some s1) :
  o.dst=some d/\∃ (f:FuncId) (args:List Operand) (vs:List av) (i id:Nat) (T:Ty) (cs:List Cell),(∀ u,Operand.tmp u ∈ args->∀ ops:List Oper,u ∈ readsOf ops o)/\bg s args=some vs/\s.aj id=some (.box (some T) cs)/\T.ob=false/\bad ≠ some id/\s.env t=.one (.cell (.ptr id 0)) /\
   (lF C s o f vs [] i id).run ah some=some s1/\∀ s':St,bg s' args=some vs->(stepT C ops j o s').run ah some=(lF C s' o f vs [] i id).run ah some:=by
 obtain ⟨f,fn,args,i,hd,hr,ha,hfn,hpt,hs⟩:=Po hg ho hb (j:=j)
 refine ⟨hd, ?_⟩
 have h':=h
 rw [hs] at h'
 cases hvs:bg s args with
 | none=>rw [hvs] at h';cases h'
 | some vs=>
  rw [hvs] at h'
  simp only at h'
  obtain ⟨c,hc1,hc2⟩:=xQ hvs ha
  have hok:=TU I hc
  rw [hc2] at hok
  rcases Qk hok with e | ⟨id,T,cs,e,h0,h1,h2⟩
  ·exfalso
   cases e
   rw [hc1] at h'
   simp only [wR,hfn,hc1,hpt] at h'
   cases h'
  ·cases e
   rw [hc1] at h'
   obtain ⟨cs',hcs'⟩:=I.2.2 id T cs h0
   refine ⟨f,args,vs,i,id,T,cs',hr,hvs,hcs',h1,h2,hc2,h',fun s' hs'=>?_⟩
   rw [hs,hs']
   simp only [hc1]
theorem MB (hg:∀ o ∈ ops,o.guard=none) {i:Nat} {o:Oper} (ho:o ∈ ops) {ty:TypeId} {x z:Tmp} (h1:o.op=.load ty (.tmp z)) (h2:o.dst=some x) {s s1:St} {id off:Nat} (hp:s.env z=.one (.cell (.ptr id off))) (h:(stepT C ops i o s).run ah some=some s1) :
  ∃ v e,s.aj id=some e/\mR x s.n=true/\s1=⟨s.n,upd s.env x v,s.aj⟩/\∀ s':St,s'.env z=.one (.cell (.ptr id off))->s'.aj id=some e->mR x s'.n=true->(stepT C ops i o s').run ah some=some ⟨s'.n,upd s'.env x v,s'.aj⟩:=by
 have hgo:=hg o ho
 have hst:∀ s:St,stepT C ops i o s=jT C o s:=fun s=>by
  unfold stepT
  simp only [hgo,iE hg,cond_false,T.ji]
 rw [hst] at h
 obtain ⟨dst,op,type,pos,after,guard⟩:=o
 simp only at h1 h2
 subst h1 h2
 have htk:C.take (some x) ty=false:=by
  cases htk:C.take (some x) ty with
  | false=>rfl
  | true=>
   simp only [jT,St.ev,hp,htk,cond_true,IU] at h
   split at h
   ·rename_i hcc _;cases hcc
   ·cases h
 simp only [jT,St.ev,hp,htk,cond_false] at h
 split at h
 ·rename_i n agg p hsh hx
  cases hx
  simp only [St.gu] at h
  cases hse:s.aj id with
  | none=>rw [hse] at h;cases h
  | some e=>
   rw [hse] at h
   cases e with
   | box t cs=>
    simp only at h
    split at h
    ·rename_i hle
     simp only [T.bind,T.run,St.put,T.run_bind,T.bK] at h
     cases hin:mR x s.n with
     | false=>rw [hin] at h;cases h
     | true=>
      rw [hin] at h
      simp only [cond_true,T.run,Option.some.injEq] at h
      refine ⟨_,.box t cs,rfl,rfl,h.symm,fun s' hz hs' hin'=>?_⟩
      rw [hst]
      simp only [jT,St.ev,hz,hsh,htk,cond_false,St.gu,hs',if_pos hle]
      simp only [T.bind,T.run,St.put,T.run_bind,T.bK,hin',cond_true]
    ·cases h
   | arr _ _ _=>cases h
   | deep _ _ _=>cases h
 ·cases h
theorem MC {a b:Oper} (h:Dp C ops s0 a b=true):∃ x z d t,oF C b=some (d,t)/\a.dst=some x/\z ∉ dstsOf ops/\x ∉ readsOf ops b/\x ≠ d /\
  ((a.op=.move (.tmp z)/\cK (s0.env z)=true/\nJ ops s0 none t=true)\/∃ ty id off,a.op=.load ty (.tmp z)/\s0.env z=.one (.cell (.ptr id off))/\nJ ops s0 (some id) t=true):=by
 unfold Dp at h
 split at h
 ·rename_i z x d t h1 h2 h3
  simp only [Bool.and_eq_true,Bool.not_eq_true'] at h
  obtain ⟨⟨⟨⟨k2,k3⟩,k4⟩,k5⟩,k6⟩:=h
  exact ⟨x,z,d,t,h3,h2,by simpa using k3,by simpa using k4,fun e=>by subst e;simp at k5,.inl ⟨h1,k2,k6⟩⟩
 ·rename_i ty z x d t h1 h2 h3
  simp only [Bool.and_eq_true,Bool.not_eq_true'] at h
  obtain ⟨⟨⟨⟨k1,k3⟩,k4⟩,k5⟩,k2⟩:=h
  split at k2
  ·rename_i id off hz
   exact ⟨x,z,d,t,h3,h2,by simpa using k3,by simpa using k4,fun e=>by subst e;simp at k5,.inr ⟨ty,id,off,h1,hz,k2⟩⟩
  ·cases k2
 ·cases h
theorem Sw (hg:∀ o ∈ ops,o.guard=none) {i:Nat} {p:Oper} (hp:p ∈ ops) {x z:Tmp} (hx:p.dst=some x) {s s1:St} (I:tu ops s0 s) (hz:z ∉ dstsOf ops) {bad:Option Nat}
  (hk:(p.op=.move (.tmp z)/\cK (s0.env z)=true)\/∃ ty id off,p.op=.load ty (.tmp z)/\s0.env z=.one (.cell (.ptr id off))/\bad=some id) (h:(stepT C ops i p s).run ah some=some s1) :
  ∃ v,s1=⟨s.n,upd s.env x v,s.aj⟩/\mR x s.n=true/\∀ s':St,s'.env z=s.env z->(∀ j e,bad=some j->s.aj j=some e->s'.aj j=some e)->s'.n=s.n->(stepT C ops i p s').run ah some=some ⟨s'.n,upd s'.env x v,s'.aj⟩:=by
 have QW:s.env z=s0.env z:=I.1 z hz
 rcases hk with ⟨hop,hpt⟩ | ⟨ty,id,off,hop,hsz,hbad⟩
 ·rw [jZ hg hp hop hx (by rw [QW];exact hpt)] at h
  split at h
  ·rename_i hin
   simp only [Option.some.injEq] at h
   refine ⟨s.env z,h.symm,hin,fun s' h1 _ h3=>?_⟩
   rw [jZ hg hp hop hx (by rw [h1,QW];exact hpt),if_pos (by rw [h3];exact hin),h1]
  ·cases h
 ·obtain ⟨v,e,k1,k2,k3,k4⟩:=MB hg hp hop hx (QW.trans hsz) h
  exact ⟨v,k3,k2,fun s' h1 h2 h3=>k4 s' (h1.trans (QW.trans hsz)) (h2 id e hbad k1) (by rw [h3];exact k2)⟩
theorem Ql (hg:∀ o ∈ ops,o.guard=none) {i:Nat} {p:Oper} (hp:p ∈ ops) {x z:Tmp} (hx:p.dst=some x) {s s' s2:St} (hz:s'.env z=s.env z) (QW:s.env z=s0.env z) {bad:Option Nat}
  (hk:(p.op=.move (.tmp z)/\cK (s0.env z)=true)\/∃ ty id off,p.op=.load ty (.tmp z)/\s0.env z=.one (.cell (.ptr id off))/\bad=some id) (lK:∀ j e,bad=some j->s'.aj j=some e->s.aj j=some e) (hn:s'.n=s.n) (h:(stepT C ops i p s').run ah some=some s2) :
  ∃ v,s2=⟨s'.n,upd s'.env x v,s'.aj⟩/\(stepT C ops i p s).run ah some=some ⟨s.n,upd s.env x v,s.aj⟩:=by
 rcases hk with ⟨hop,hpt⟩ | ⟨ty,id,off,hop,hsz,hbad⟩
 ·rw [jZ hg hp hop hx (by rw [hz,QW];exact hpt)] at h
  split at h
  ·rename_i hin
   simp only [Option.some.injEq] at h
   refine ⟨s'.env z,h.symm, ?_⟩
   rw [jZ hg hp hop hx (by rw [QW];exact hpt),if_pos (by rw [<- hn];exact hin),hz]
  ·cases h
 ·obtain ⟨v,e,k1,k2,k3,k4⟩:=MB hg hp hop hx (hz.trans (QW.trans hsz)) h
  exact ⟨v,k3,k4 s (QW.trans hsz) (lK id e hbad k1) (by rw [<- hn];exact k2)⟩
theorem zw (hg:∀ o ∈ ops,o.guard=none) {i j:Nat} {p o:Oper} (hp:p ∈ ops) (ho:o ∈ ops) {s s1 s2:St} (I:tu ops s0 s) (hc:Dp C ops s0 p o=true) (hI1:tu ops s0 s1)
  (h1:(stepT C ops i p s).run ah some=some s1) (h2:(stepT C ops j o s1).run ah some=some s2) :
  ∃ s',(stepT C ops j o s).run ah some=some s'/\(stepT C ops i p s').run ah some=some s2:=by
 obtain ⟨x,z,d,t,hb,hx,hz,hxo,hxd,hk⟩:=MC hc
 obtain ⟨bad,hcb,hk'⟩:∃ bad:Option Nat,nJ ops s0 bad t=true/\((p.op=.move (.tmp z)/\cK (s0.env z)=true)\/∃ ty id off,p.op=.load ty (.tmp z)/\s0.env z=.one (.cell (.ptr id off))/\bad=some id):=by
  rcases hk with hk | ⟨ty,id,off,k1,k2,k3⟩
  ·exact ⟨none,hk.2.2,.inl ⟨hk.1,hk.2.1⟩⟩
  ·exact ⟨some id,k3,.inr ⟨ty,id,off,k1,k2,rfl⟩⟩
 obtain ⟨v,rfl,hin,hrun⟩:=Sw hg hp hx I hz hk' h1
 obtain ⟨hd,f,args,vs,i0,id,T,cs,hr,hvs,hs,Lc,hne,zS,hcall,Cu⟩:=AZ hg ho hb hcb hI1 h2
 have Sy:bg s args=some vs:=by
  rw [<- hvs]
  exact (oN (fun u hu (e:u=x)=>hxo (by rw [<- e];exact hr u hu ops))).symm
 have hs':s.aj id=some (.box (some T) cs):=hs
 rw [zW hs' Lc hd hxd] at hcall
 obtain ⟨s',hs2,rfl⟩:=Option.map_eq_some_iff.1 hcall
 obtain ⟨hn,hkeep,lK,_⟩:=sJ hs' Lc hd hs2
 have hzd:z ≠ d:=fun e=>hz (e ▸ lH ho hd)
 refine ⟨s',by rw [Cu s Sy];exact hs2, ?_⟩
 exact hrun s' (hkeep z hzd) (fun j e hj he=>lK j e (fun ee=>hne (ee ▸ hj)) he) hn
theorem zx (hg:∀ o ∈ ops,o.guard=none) {i j:Nat} {p o:Oper} (hp:p ∈ ops) (ho:o ∈ ops) {s s1 s2:St} (l:Live s) (I:tu ops s0 s) (hc:Dp C ops s0 o p=true)
  (h1:(stepT C ops i p s).run ah some=some s1) (h2:(stepT C ops j o s1).run ah some=some s2) :
  ∃ s',(stepT C ops j o s).run ah some=some s'/\(stepT C ops i p s').run ah some=some s2:=by
 obtain ⟨x,z,d,t,hb,hx,hz,hxo,hxd,hk⟩:=MC hc
 obtain ⟨bad,hcb,hk',hbz⟩:∃ bad:Option Nat,nJ ops s0 bad t=true/\((o.op=.move (.tmp z)/\cK (s0.env z)=true)\/∃ ty id off,o.op=.load ty (.tmp z)/\s0.env z=.one (.cell (.ptr id off))/\bad=some id)/\∀ j,bad=some j->∃ off,s0.env z=.one (.cell (.ptr j off)):=by
  rcases hk with hk | ⟨ty,id,off,k1,k2,k3⟩
  ·exact ⟨none,hk.2.2,.inl ⟨hk.1,hk.2.1⟩,fun j h=>by cases h⟩
  ·exact ⟨some id,k3,.inr ⟨ty,id,off,k1,k2,rfl⟩,fun j h=>by cases h;exact ⟨off,k2⟩⟩
 obtain ⟨hd,f,args,vs,i0,id,T,cs,hr,hvs,hs,Lc,hne,zS,hcall,Cu⟩:=AZ hg hp hb hcb I h1
 obtain ⟨hn,hkeep,lK,_⟩:=sJ hs Lc hd hcall
 have hzd:z ≠ d:=fun e=>hz (e ▸ lH hp hd)
 have hback:∀ j e,bad=some j->s1.aj j=some e->s.aj j=some e:=fun j e hj he=>by
  obtain ⟨off,hsz⟩:=hbz j hj
  obtain ⟨e0,hold⟩:=l.env z j (by rw [I.1 z hz,hsz];simp [Slot.ids,av.ids,av.cells,Cell.ids])
  have:=lK j e0 (fun ee=>hne (ee ▸ hj)) hold
  rw [he] at this
  cases this
  exact hold
 obtain ⟨v,rfl,hrun⟩:=Ql hg ho hx (hkeep z hzd) (I.1 z hz) hk' hback hn h2
 refine ⟨_,hrun, ?_⟩
 have Sy:bg ⟨s.n,upd s.env x v,s.aj⟩ args=some vs:=by
  rw [<- hvs]
  exact oN (fun u hu (e:u=x)=>hxo (by rw [<- e];exact hr u hu ops))
 rw [Cu _ Sy,zW hs Lc hd hxd,hcall]
 rfl
theorem rJ (hg:∀ o ∈ ops,o.guard=none) {i:Nat} {o:Oper} (ho:o ∈ ops) (hq:aT C o=true) {s s1:St} (I:tu ops s0 s) (h:(stepT C ops i o s).run ah some=some s1):tu ops s0 s1:=by
 obtain ⟨d,hd⟩:∃ d,o.dst=some d:=Option.isSome_iff_exists.1 (by simp only [aT,Bool.and_eq_true] at hq;exact hq.1)
 have Xb:=lH ho hd
 have h':=h
 rw [fI hq,hd,T.run_bind] at h
 obtain ⟨⟨v,es⟩,hv,h⟩:=T.aD h
 rw [aX] at h
 obtain ⟨σ,hσ,h⟩:=Option.bind_eq_some_iff.1 h
 cases hb:mR d s.n with
 | false=>rw [hb] at h;cases h
 | true=>
  rw [hb] at h
  simp only [cond_true,Option.some.injEq] at h
  have he:∀ t,t ≠ d->s1.env t=s.env t:=fun t ht=>by subst h;exact upd_ne _ _ ht
  have hs:s1.aj=σ:=by subst h;rfl
  refine ⟨fun t ht=>(he t (fun e=>ht (e ▸ Xb))).trans (I.1 t ht),fun t=>?_,fun j U cs hj=>?_⟩
  ·by_cases ht:t=d
   ·subst ht
    refine .inr ⟨o,ho,hd,fun z hz hzn hpt=>?_⟩
    have QW:=I.1 z hzn
    rw [jZ hg ho hz hd (by rw [QW];exact hpt),if_pos hb] at h'
    simp only [Option.some.injEq] at h'
    rw [<- h',<- QW]
    exact upd_same _ _ _
   ·rw [he t ht]
    exact I.2.1 t
  ·obtain ⟨cs',hc⟩:=I.2.2 j U cs hj
   exact ⟨cs',by rw [hs];exact eB hσ _ _ hc⟩
theorem ME (hg:∀ o ∈ ops,o.guard=none) {i:Nat} {o:Oper} (ho:o ∈ ops) {d t:Tmp} (hb:oF C o=some (d,t)) (hc:nJ ops s0 none t=true) {s s1:St} (I:tu ops s0 s) (h:(stepT C ops i o s).run ah some=some s1):tu ops s0 s1:=by
 obtain ⟨hd,f,args,vs,i0,id,U,cs,hr,hvs,hs,Lc,hne,zS,hcall,Cu⟩:=AZ hg ho hb hc I h
 obtain ⟨hn,hkeep,lK,cs',hid⟩:=sJ hs Lc hd hcall
 have Xb:=lH ho hd
 refine ⟨fun u hu=>(hkeep u (fun e=>hu (e ▸ Xb))).trans (I.1 u hu),fun u=>?_,fun j V c0 hj=>?_⟩
 ·by_cases hu:u=d
  ·subst hu
   refine .inr ⟨o,ho,hd,fun z hz _ _=>?_⟩
   exfalso
   unfold oF at hb
   rw [hz] at hb
   cases hb
  ·rw [hkeep u hu]
   exact I.2.1 u
 ·obtain ⟨c1,h1⟩:=I.2.2 j V c0 hj
  by_cases hji:j=id
  ·subst hji
   rw [hs] at h1
   cases h1
   exact ⟨cs',hid⟩
  ·exact ⟨c1,lK j _ hji h1⟩
theorem tC:∀ {ids:List Nat} {σ:Nat->Option Entry} {i:Nat} {T:Option Ty} {cs:List Cell},σ i=some (.box T cs)->bB σ ids i=some (.box T cs)
 | [],σ,i,T,cs,h=>h
 | j :: r,σ,i,T,cs,h=>by
  have skip:bB σ (j :: r)=bB σ r\/∃ t l o,σ j=some (.arr t l o)/\bB σ (j :: r)=bB (upd σ j (some (.arr t l .frozen))) r:=by
   simp only [bB]
   split
   ·rename_i t l o hj
    exact .inr ⟨t,l,o,hj,rfl⟩
   ·exact .inl rfl
  rcases skip with hf | ⟨t,l,o,hj,hf⟩
  ·rw [hf];exact tC h
  ·rw [hf]
   refine tC ?_
   have:i ≠ j:=fun e=>by subst e;rw [h] at hj;cases hj
   rw [upd_ne _ _ this]
   exact h
theorem MF (hg:∀ o ∈ ops,o.guard=none) {i:Nat} {o:Oper} (Xd:o ∈ ops) (hst:iH C o=true) {s s1:St} (hs:(stepT C ops i o s).run ah some=some s1) :
  ∀ j T cs,s.aj j=some (.box T cs)->∃ cs',s1.aj j=some (.box T cs'):=by
 have hgo:=hg o Xd
 unfold stepT at hs
 simp only [hgo,iE hg,cond_false,T.ji] at hs
 obtain ⟨dst,op,type,pos,after,guard⟩:=o
 simp only [iH,Bool.and_eq_true] at hst
 obtain ⟨hd,hst⟩:=hst
 obtain rfl:dst=none:=by cases dst with
  | none=>rfl
  | some _=>cases hd
 cases op <;> simp only at hst <;> try (cases hst;done)
 case store t q x=>
  have hgv:C.gives.contains t=false:=by simpa using hst
  simp only [jT,hgv] at hs
  split at hs
  ·rename_i n agg p v hsh hp hv
   split at hs
   ·rw [T.run_bind] at hs
    obtain ⟨s3,h3,hs⟩:=T.aD hs
    simp only [St.put,T.bK] at hs
    cases hs
    intro j U cs hj
    cases p <;> simp only [St.store] at h3 <;> try (cases h3;done)
    case ptr id off=>
     split at h3
     ·rename_i ty cs0 hse
      split at h3
      ·cases h3
       by_cases hij:j=id
       ·subst hij
        rw [hj] at hse
        cases hse
        exact ⟨_,upd_same _ _ _⟩
       ·exact ⟨cs,(upd_ne _ _ hij).trans hj⟩
      ·cases h3
     ·cases h3
    case ko id k off=>
     split at h3
     ·rename_i ty l o hse
      split at h3
      ·cases h3
      ·split at h3
       ·split at h3
        ·split at h3
         ·cases h3
         ·cases h3
          have hij:j ≠ id:=fun e=>by subst e;rw [hj] at hse;cases hse
          exact ⟨cs,(upd_ne _ _ hij).trans (tC hj)⟩
        ·cases h3
       ·cases h3
     ·cases h3
    case kJ id k off=>
     simp only [Fa] at h3
     split at h3
     ·rename_i t' l pin hse
      have hij:j ≠ id:=fun e=>by subst e;rw [hj] at hse;cases hse
      split at h3
      ·cases h3
       exact ⟨cs,(upd_ne _ _ hij).trans hj⟩
      ·split at h3
       ·rename_i hcc
        exact absurd hcc.2.2 (by simp)
       ·cases h3
     ·cases h3
   ·cases hs
  ·cases hs
theorem Gn (hg:∀ o ∈ ops,o.guard=none) {i:Nat} {o:Oper} (ho:o ∈ ops) (hst:iH C o=true) {s s1:St} (I:tu ops s0 s) (h:(stepT C ops i o s).run ah some=some s1):tu ops s0 s1:=by
 obtain ⟨_,he,_⟩:=jw (env':=s.env) hst (fun _ _=>rfl) h
 refine ⟨fun t ht=>by rw [he];exact I.1 t ht,fun t=>by rw [he];exact I.2.1 t,fun j T cs hj=>?_⟩
 obtain ⟨cs1,h1⟩:=I.2.2 j T cs hj
 exact MF hg ho hst h j _ _ h1
theorem DT {a b:Oper} (h:Dp C ops s0 a b=true):aT C a=true:=by
 unfold Dp at h
 split at h
 ·rename_i z x d t h1 h2 h3
  unfold aT
  rw [h1,h2]
  rfl
 ·simp only [Bool.and_eq_true] at h
  exact h.1.1.1.1
 ·cases h
end
def Xg {C:aZ} {ah:FuncId->(t:Ty)->List Arg->Option t.den} (ops:Array Oper) (s0:St) (hg:∀ o ∈ ops.toList,o.guard=none) (tail:Nat->Bool)
  (xO:∀ {i j:Nat},tail i=true->i<=j->tail j=true) (vI:∀ {j:Nat} {o:Oper},tail j=true->ops[j]? = some o->∀ k,k<j->∃ m,(fO ops.toList [])[j]? = some m/\m.testBit k=true)
  (hq:∀ (j:Nat) (o:Oper),ops[j]? = some o->tail j=false->aT C o=true\/iH C o=true\/∃ d t,oF C o=some (d,t)/\nJ ops.toList s0 none t=true):Gh C ah ops:=
 have mem:∀ {i:Nat} {o:Oper},ops[i]? = some o->o ∈ ops.toList:=fun h=>Array.mem_toList_iff.2 (Array.mem_of_getElem? h)
 ⟨Lg C ops.toList s0,tu ops.toList s0,tail,xO,(fun h1 h2 k hk=>.inl (vI h1 h2 k hk)),fun {s s1 o j} hI htl ho h=>by
  rcases hq j o ho htl with hq | hq | ⟨d,t,hb,hc⟩
  ·exact rJ hg (mem ho) hq hI h
  ·exact Gn hg (mem ho) hq hI h
  ·exact ME hg (mem ho) hb hc hI h,fun {i j p o s s1 s2} l hI hp ho hcm h1 h2=>by
  unfold Lg at hcm
  simp only [Bool.or_eq_true] at hcm
  rcases hcm with (hcm | hcm) | hcm
  ·exact nS l hcm h1 h2
  ·exact zw hg (mem hp) (mem ho) hI hcm (rJ hg (mem hp) (DT hcm) hI h1) h1 h2
  ·exact zx hg (mem hp) (mem ho) l hI hcm h1 h2⟩
end Go.Flat
