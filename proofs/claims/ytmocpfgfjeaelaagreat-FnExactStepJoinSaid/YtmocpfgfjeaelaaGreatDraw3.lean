/- Regions whose order is open. No condition. -/
import Derived.Test.YtmocpfgfjeaelaaGreatDraw2
import Derived.Orders
set_option linter.unusedVariables false
set_option linter.unusedSimpArgs false
namespace Go.Flat
theorem T.Jq {α R:Type} (ah:FuncId->(t:Ty)->List Arg->Option t.den) (x:T α) (κ:α->Option R):x.run ah κ=(x.run ah some).bind κ:=by
 induction x with
 | ret a=>rfl
 | fail=>rfl
 | br p d x y QU ihy=>
  simp only [T.run]
  rw [QU,ihy]
  cases d <;> rfl
 | call f t args k ih=>
  simp only [T.run]
  cases ah f t args with
  | none=>rfl
  | some v=>exact ih v
theorem T.aD {α R:Type} {ah:FuncId->(t:Ty)->List Arg->Option t.den} {x:T α} {κ:α->Option R} {r:R} (h:x.run ah κ=some r) :
  ∃ a,x.run ah some=some a/\κ a=some r:=by
 rw [T.Jq] at h
 exact Option.bind_eq_some_iff.1 h
theorem T.lu {α R:Type} {ah:FuncId->(t:Ty)->List Arg->Option t.den} {x:T α} {κ:α->Option R} {a:α} (h:x.run ah some=some a):x.run ah κ=κ a:=by
 rw [T.Jq,h]
 rfl
def bn (σ:Nat->Option Entry):List (Nat × Entry)->Option (Nat->Option Entry)
 | []=>some σ
 | (k,e) :: r=>match σ k with
  | none=>bn (upd σ k (some e)) r
  | some _=>none
theorem jd {R:Type} {ah:FuncId->(t:Ty)->List Arg->Option t.den}:∀ {es:List (Nat × Entry)} {s:St} {κ:St->Option R},(jL s es).run ah κ=(bn s.aj es).bind fun σ=>κ { s with aj:=σ }
 | [],s,κ=>rfl
 | (k,e) :: r,s,κ=>by
  simp only [jL,T.run_bind,St.alloc,bn]
  cases s.aj k with
  | none=>simp only [T.bK];exact jd
  | some _=>rfl
theorem aX {R:Type} {ah:FuncId->(t:Ty)->List Arg->Option t.den} {d:Tmp} {s:St} {x:Slot × List (Nat × Entry)} {κ:St->Option R} :
  (nC (some d) s x).run ah κ=(bn s.aj x.2).bind fun σ=>bif mR d s.n then κ { n:=s.n,env:=upd s.env d x.1,aj:=σ } else none:=by
 unfold nC
 rw [T.run_bind,jd]
 congr 1
 funext σ
 simp only [St.put]
 cases mR d s.n <;> rfl
theorem eB:∀ {es:List (Nat × Entry)} {σ σ':Nat->Option Entry},bn σ es=some σ'->∀ id e,σ id=some e->σ' id=some e
 | [],σ,σ',h,id,e,he=>by simp [bn] at h;subst h;exact he
 | (k,x) :: r,σ,σ',h,id,e,he=>by
  simp only [bn] at h
  split at h
  ·rename_i hk
   refine eB h id e ?_
   rw [upd_ne _ _ (fun hc=>by subst hc;rw [hk] at he;cases he)]
   exact he
  ·cases h
theorem iO {α:Type} (f:Nat->α) {i j:Nat} (v u:α) (h:i ≠ j):upd (upd f i v) j u=upd (upd f j u) i v:=by
 funext t
 by_cases h1:t=i
 ·subst h1;rw [upd_same,upd_ne _ _ h,upd_same]
 ·by_cases h2:t=j
  ·subst h2;rw [upd_same,upd_ne _ _ h1,upd_same]
  ·rw [upd_ne _ _ h2,upd_ne _ _ h1,upd_ne _ _ h1,upd_ne _ _ h2]
theorem vH {α:Type} (f:Nat->α) (i:Nat) (v u:α):upd (upd f i v) i u=upd f i u:=by
 funext t
 by_cases h1:t=i
 ·subst h1;rw [upd_same,upd_same]
 ·rw [upd_ne _ _ h1,upd_ne _ _ h1,upd_ne _ _ h1]
theorem Mi {l l':List (Nat × Entry)} (p:l.Perm l'):∀ {σ σ':Nat->Option Entry},bn σ l=some σ'->bn σ l'=some σ':=by
 induction p with
 | nil=>exact fun h=>h
 | cons x _ ih=>
  intro σ σ' h
  obtain ⟨k,e⟩:=x
  simp only [bn] at h ⊢
  split at h
  ·exact ih h
  ·cases h
 | swap x y l=>
  intro σ σ' h
  obtain ⟨k,e⟩:=x
  obtain ⟨j,f⟩:=y
  simp only [bn] at h ⊢
  split at h
  ·rename_i hj
   split at h
   ·rename_i hk
    have hne:k ≠ j:=fun hc=>by subst hc;rw [upd_same] at hk;cases hk
    rw [upd_ne _ _ hne] at hk
    rw [hk]
    simp only
    rw [upd_ne _ _ (Ne.symm hne),hj]
    simp only
    rw [iO _ _ _ hne]
    exact h
   ·cases h
  ·cases h
 | trans _ _ ih1 ih2=>exact fun h=>ih2 (ih1 h)
theorem tq:∀ {es fs:List (Nat × Entry)} {σ:Nat->Option Entry},bn σ (es++fs)=(bn σ es).bind fun σ=>bn σ fs
 | [],fs,σ=>rfl
 | (k,e) :: es,fs,σ=>by
  simp only [List.cons_append,bn]
  cases σ k with
  | none=>exact tq
  | some _=>rfl
theorem pY {es fs:List (Nat × Entry)} {σ σ1 σ2:Nat->Option Entry} (h1:bn σ es=some σ1) (h2:bn σ1 fs=some σ2) :
  ∃ σ',bn σ fs=some σ'/\bn σ' es=some σ2:=by
 have h:bn σ (es++fs)=some σ2:=by rw [tq,h1];exact h2
 have h:=Mi List.perm_append_comm h
 rw [tq] at h
 exact Option.bind_eq_some_iff.1 h
def Mj:Slot->T Slot
 | .one (.cell (.prop p d))=>.br p d (.ret (.cell (.bool true))) (.ret (.cell (.bool false)))
 | v=>.ret v
theorem Oa {R:Type} {ah:FuncId->(t:Ty)->List Arg->Option t.den} {d:Tmp} {s:St} {x:Slot × List (Nat × Entry)} {κ:St->Option R} :
  ((nC (some d) s x).bind fun s=>gG s (some d)).run ah κ=((Mj x.1).bind fun v=>nC (some d) s (v,x.2)).run ah κ:=by
 obtain ⟨v,es⟩:=x
 rw [T.run_bind,aX]
 have other:Mj v=.ret v->(∀ s':St,s'.env d=v->gG s' (some d)=.ret s')->((bn s.aj es).bind fun σ=>bif mR d s.n then (gG { n:=s.n,env:=upd s.env d v,aj:=σ } (some d)).run ah κ else none)=((Mj v).bind fun v=>nC (some d) s (v,es)).run ah κ:=by
  intro h1 h2
  rw [h1,T.lT,aX]
  congr 1
  funext σ
  rw [h2 _ (upd_same _ _ _)]
  rfl
 cases v with
 | wN cs=>exact other rfl (fun s' h=>by simp only [gG,h])
 | one c=>
  cases c with
  | agg cs=>exact other rfl (fun s' h=>by simp only [gG,h])
  | cell c=>
   cases c <;> try exact other rfl (fun s' h=>by simp only [gG,h])
   case prop p dec=>
    simp only [Mj,T.bind,T.run]
    simp only [aX]
    have e:∀ σ,(gG { n:=s.n,env:=upd s.env d (.one (.cell (.prop p dec))),aj:=σ } (some d)).run ah κ=if p then κ { n:=s.n,env:=upd s.env d (.cell (.bool true)),aj:=σ } else κ { n:=s.n,env:=upd s.env d (.cell (.bool false)),aj:=σ }:=fun σ=>by
     simp only [gG,upd_same,vH,T.run]
    simp only [e]
    cases dec with
    | isTrue hp=>simp only [if_pos hp]
    | isFalse hp=>simp only [if_neg hp]
def gv (C:aZ) (ops:List Oper) (i:Nat) (o:Oper) (s:St):T (Slot × List (Nat × Entry)):=
 let go:=(aS C o s).bind fun x=>bif iX ops i then (Mj x.1).bind fun v=>.ret (v,x.2) else .ret x
 match o.guard with
 | none=>go
 | some (j,want)=>match jM ops j with
  | some d=>match s.env d with
   | .one (.cell (.bool b))=>bif b == want then go else .ret (.cell .void,[])
   | .one (.cell .void)=>.ret (.cell .void,[])
   | _=>.fail
  | none=>.fail
theorem fI {C:aZ} {R:Type} {ah:FuncId->(t:Ty)->List Arg->Option t.den} {ops:List Oper} {i:Nat} {o:Oper} {s:St} {κ:St->Option R} (hq:aT C o=true) :
  (stepT C ops i o s).run ah κ=((gv C ops i o s).bind (nC o.dst s)).run ah κ:=by
 obtain ⟨d,hd⟩:∃ d,o.dst=some d:=Option.isSome_iff_exists.1 (by simp only [aT,Bool.and_eq_true] at hq;exact hq.1)
 have go:((jT C o s).bind fun s=>bif iX ops i then gG s o.dst else .ret s).run ah κ=(((aS C o s).bind fun x=>bif iX ops i then (Mj x.1).bind fun v=>.ret (v,x.2) else .ret x).bind (nC o.dst s)).run ah κ:=by
  rw [TQ hq,T.bind_assoc,T.bind_assoc,T.run_bind,T.run_bind]
  congr 1
  funext x
  cases iX ops i with
  | false=>simp only [cond_false,T.run_bind,T.bK,T.lT]
  | true=>
   simp only [cond_true]
   rw [hd,Oa,T.bind_assoc]
   rfl
 unfold stepT gv
 simp only
 cases o.guard with
 | none=>exact go
 | some g=>
  obtain ⟨j,want⟩:=g
  simp only
  cases jM ops j with
  | none=>rfl
  | some d'=>
   simp only
   cases s.env d' with
   | wN cs=>rfl
   | one c=>
    cases c with
    | agg cs=>rfl
    | cell c=>
     cases c <;> try rfl
     case bool b=>
      simp only
      cases b == want with
      | false=>rfl
      | true=>exact go
theorem Sn {C:aZ} {ops:List Oper} {i:Nat} {o:Oper} {s s1:St} (l:Live s) (hq:aT C o=true) (e:Ext s s1 o.op.operands.toList)
  (hg:∀ j w d,o.guard=some (j,w)->jM ops j=some d->s1.env d=s.env d):gv C ops i o s1=gv C ops i o s:=by
 unfold gv
 rw [xM l hq e]
 simp only
 cases ho:o.guard with
 | none=>rfl
 | some g=>
  obtain ⟨j,want⟩:=g
  simp only
  cases hd:jM ops j with
  | none=>rfl
  | some d=>simp only;rw [hg j want d ho hd]
theorem Ph {C:aZ} {ops:List Oper} {o:Oper} {s:St} {d:Tmp} {v:Slot} {es:List (Nat × Entry)} {σ:Nat->Option Entry} (hs:bn s.aj es=some σ) (hr:(readsOf ops o).contains d=false) :
  Ext s { n:=s.n,env:=upd s.env d v,aj:=σ } o.op.operands.toList/\∀ j w d',o.guard=some (j,w)->jM ops j=some d'->upd s.env d v d'=s.env d':=by
 have hr:d ∉ readsOf ops o:=by simpa using hr
 refine ⟨⟨eB hs,fun x hx=>?_⟩,fun j w d' hg hd=>?_⟩
 ·cases x with
  | tmp t=>
   refine upd_ne _ _ fun hc=>hr ?_
   subst hc
   unfold readsOf
   exact List.mem_append_left _ (List.mem_filterMap.2 ⟨_,hx,rfl⟩)
  | global g=>rfl
  | func f=>rfl
  | const v=>rfl
 ·refine upd_ne _ _ fun hc=>hr ?_
  subst hc
  unfold readsOf
  rw [hg]
  exact List.mem_append_right _ (by simp [hd])
theorem Ob {C:aZ} {ah:FuncId->(t:Ty)->List Arg->Option t.den} {ops:List Oper} {i j:Nat} {p o:Oper} {s s1 s2:St} (l:Live s) (hc:Rb C ops p o=true)
  (h1:(stepT C ops i p s).run ah some=some s1) (h2:(stepT C ops j o s1).run ah some=some s2) :
  ∃ s',(stepT C ops j o s).run ah some=some s'/\(stepT C ops i p s').run ah some=some s2:=by
 unfold Rb at hc
 simp only [Bool.and_eq_true] at hc
 obtain ⟨⟨Ru,hqo⟩,hc⟩:=hc
 split at hc
 ·rename_i x y hx hy
  simp only [Bool.and_eq_true,Bool.not_eq_true'] at hc
  obtain ⟨⟨hxy,hox⟩,hpy⟩:=hc
  have hne:x ≠ y:=fun e=>by subst e;simp at hxy
  rw [fI Ru,hx,T.run_bind] at h1
  obtain ⟨⟨v,es⟩,hv,h1⟩:=T.aD h1
  rw [aX] at h1
  obtain ⟨σ1,YW,h1⟩:=Option.bind_eq_some_iff.1 h1
  cases hb:mR x s.n with
  | false=>rw [hb] at h1;cases h1
  | true=>
   rw [hb] at h1
   simp only [cond_true,Option.some.injEq] at h1
   subst h1
   obtain ⟨e1,g1⟩:=Ph (C:=C) (ops:=ops) (o:=o) (v:=v) YW hox
   rw [fI hqo,hy,T.run_bind,Sn l hqo e1 g1] at h2
   obtain ⟨⟨u,fs⟩,hu,h2⟩:=T.aD h2
   rw [aX] at h2
   obtain ⟨σ2,Pj,h2⟩:=Option.bind_eq_some_iff.1 h2
   simp only at h2 Pj
   cases hb2:mR y s.n with
   | false=>rw [hb2] at h2;cases h2
   | true=>
    rw [hb2] at h2
    simp only [cond_true,Option.some.injEq] at h2
    subst h2
    obtain ⟨σ',hf,he⟩:=pY YW Pj
    obtain ⟨e2,g2⟩:=Ph (C:=C) (ops:=ops) (o:=p) (v:=u) hf hpy
    refine ⟨{ n:=s.n,env:=upd s.env y u,aj:=σ' }, ?_, ?_⟩
    ·rw [fI hqo,hy,T.run_bind,T.lu hu,aX,hf]
     simp only [Option.bind_some,hb2,cond_true]
    ·rw [fI Ru,hx,T.run_bind,Sn l Ru e2 g2,T.lu hv,aX]
     simp only
     rw [he]
     simp only [Option.bind_some,hb,cond_true]
     rw [iO _ _ _ (Ne.symm hne)]
 ·cases hc
theorem Pk {C:aZ} {ops:List Oper} {i:Nat} {o:Oper} {n:Nat} {env:Nat->Slot} {σ σ':Nat->Option Entry} (h:Fe o=true):gv C ops i o ⟨n,env,σ'⟩=gv C ops i o ⟨n,env,σ⟩:=by
 have hev:∀ x,St.ev ⟨n,env,σ'⟩ x=St.ev ⟨n,env,σ⟩ x:=fun x=>by cases x <;> rfl
 have hcomp:∀ x,St.comp ⟨n,env,σ'⟩ x=St.comp ⟨n,env,σ⟩ x:=fun x=>by unfold St.comp;rw [hev]
 have hbc:∀ (t:TypeId) (ps:List (Nat × Operand)) (cs:List Cell),fP C ⟨n,env,σ'⟩ t ps cs=fP C ⟨n,env,σ⟩ t ps cs:=by
  intro t ps
  induction ps with
  | nil=>intro cs;rfl
  | cons p r ih=>intro cs;obtain ⟨i,x⟩:=p;simp only [fP,hev,ih]
 have hv:aS C o ⟨n,env,σ'⟩=aS C o ⟨n,env,σ⟩:=by
  obtain ⟨dst,op,type,pos,after,guard⟩:=o
  cases op <;> first
   | (simp only [aS,hev,hcomp,hbc];done)
   | (simp [Fe] at h;done)
 unfold gv
 rw [hv]
theorem Jr {C:aZ} {ah:FuncId->(t:Ty)->List Arg->Option t.den} {ops:List Oper} {i:Nat} {o:Oper} {s:St} {v:Slot} {es:List (Nat × Entry)} (h:Fe o=true) (hr:(gv C ops i o s).run ah some=some (v,es)):es=[]:=by
 have hv:∀ {v es},(aS C o s).run ah some=some (v,es)->es=[]:=by
  intro v es hr
  obtain ⟨dst,op,type,pos,after,guard⟩:=o
  cases op <;> simp only [Fe] at h <;> try (cases h;done)
  case pick c a b=>
   simp only [aS] at hr
   split at hr
   ·cases hr;rfl
   ·cases hr;rfl
   ·simp only [T.run,T.bK] at hr
    split at hr <;> (cases hr;rfl)
   ·cases hr
  case nilCheck x=>
   simp only [aS] at hr
   split at hr <;> cases hr <;> rfl
  case binOp op t x y t'=>
   simp only [aS,T.run_bind] at hr
   obtain ⟨a,_,hr⟩:=T.aD hr
   obtain ⟨b,_,hr⟩:=T.aD hr
   obtain ⟨c,_,hr⟩:=T.aD hr
   cases hr;rfl
  case unOp op t x=>
   simp only [aS,T.run_bind] at hr
   obtain ⟨a,_,hr⟩:=T.aD hr
   obtain ⟨c,_,hr⟩:=T.aD hr
   cases hr;rfl
  case build t parts=>
   simp only [aS] at hr
   split at hr
   ·split at hr
    ·split at hr
     ·cases hr;rfl
     ·cases hr
    ·cases hr
   ·cases hr
  case fieldAddr t x ix=>
   simp only [aS] at hr
   split at hr <;> cases hr <;> rfl
  case field t x ix=>
   simp only [aS] at hr
   split at hr
   ·split at hr
    ·split at hr <;> cases hr <;> rfl
    ·cases hr
   ·cases hr
  case extract x ix=>
   simp only [aS] at hr
   split at hr
   ·split at hr <;> cases hr <;> rfl
   ·cases hr
 have go:((aS C o s).bind fun x=>bif iX ops i then (Mj x.1).bind fun v=>.ret (v,x.2) else .ret x).run ah some=some (v,es)->es=[]:=by
  intro hr
  rw [T.run_bind] at hr
  obtain ⟨⟨u,fs⟩,h1,h2⟩:=T.aD hr
  have:=hv h1
  subst this
  cases hg:iX ops i with
  | false=>rw [hg] at h2;cases h2;rfl
  | true=>
   rw [hg] at h2
   simp only [cond_true,T.run_bind] at h2
   obtain ⟨c,_,h2⟩:=T.aD h2
   cases h2;rfl
 unfold gv at hr
 simp only at hr
 split at hr
 ·exact go hr
 ·rename_i j want hg
  split at hr
  ·rename_i d hd
   split at hr
   ·rename_i b hb
    cases hbw:(b == want) with
    | true=>rw [hbw] at hr;exact go hr
    | false=>rw [hbw] at hr;cases hr;rfl
   ·cases hr;rfl
   ·cases hr
  ·cases hr
theorem jw {C:aZ} {ah:FuncId->(t:Ty)->List Arg->Option t.den} {ops:List Oper} {i:Nat} {o:Oper} {s s1:St} {env':Nat->Slot} (h:iH C o=true)
  (hr:∀ t ∈ readsOf ops o,env' t=s.env t) (hs:(stepT C ops i o s).run ah some=some s1) :
  s1.n=s.n/\s1.env=s.env/\(stepT C ops i o ⟨s.n,env',s.aj⟩).run ah some=some ⟨s.n,env',s1.aj⟩:=by
 obtain ⟨dst,op,type,pos,after,guard⟩:=o
 simp only [iH,Bool.and_eq_true] at h
 obtain ⟨hd,h⟩:=h
 cases dst with
 | some _=>cases hd
 | none=>
  cases op <;> simp only at h <;> try (cases h;done)
  case store t p x=>
   have hg0:C.gives.contains t=false:=by simpa using h
   have hev:∀ y ∈ [p,x],St.ev ⟨s.n,env',s.aj⟩ y=s.ev y:=by
    intro y hy
    cases y with
    | tmp u=>
     refine hr u ?_
     unfold readsOf
     refine List.mem_append_left _ (List.mem_filterMap.2 ⟨.tmp u, ?_,rfl⟩)
     simp [Op.operands] at hy ⊢
     rcases hy with hy | hy <;> simp [hy]
    | global g=>rfl
    | func f=>rfl
    | const v=>rfl
   have hguard:∀ j w d,guard=some (j,w)->jM ops j=some d->env' d=s.env d:=fun j w d hg hdd=>hr d (by
    unfold readsOf
    simp only [hg]
    exact List.mem_append_right _ (by simp [hdd]))
   have hst:∀ {n:Nat} {new:List Cell} {c:Cell} {s2:St},(s.store false n new c).run ah some=some s2->s2.n=s.n/\s2.env=s.env/\(St.store ⟨s.n,env',s.aj⟩ false n new c).run ah some=some ⟨s.n,env',s2.aj⟩:=by
    intro n new c s2 hh
    cases c <;> simp only [St.store] at hh ⊢ <;> try (cases hh;done)
    case ptr id off=>
     split at hh
     ·rename_i t cs hse
      split at hh
      ·rename_i hc
       cases hh
       first | rw [hse] | skip
       simp only [if_pos hc,T.bK]
       simp
      ·cases hh
     ·cases hh
    case ko id j off=>
     split at hh
     ·rename_i t l ow hse
      split at hh
      ·cases hh
      ·rename_i hf
       split at hh
       ·rename_i hc
        split at hh
        ·rename_i y ids hof
         split at hh
         ·cases hh
         ·rename_i hcon
          cases hh
          first | rw [hse] | skip
          simp only [if_neg hf,if_pos hc]
          first | rw [hof] | skip
          simp only [if_neg hcon,T.bK]
          simp
        ·cases hh
       ·cases hh
     ·cases hh
    case kJ id j off=>
     simp only [Fa] at hh ⊢
     split at hh
     ·rename_i t l pin hse
      first | rw [hse] | skip
      split at hh
      ·rename_i y hy
       cases hh
       simp only [hy,T.bK]
       simp
      ·split at hh
       ·rename_i hc
        exact absurd hc.2.2 (by simp)
       ·cases hh
     ·cases hh
   have hop:∀ {s2:St},(jT C ⟨none,.store t p x,type,pos,after,guard⟩ s).run ah some=some s2->s2.n=s.n/\s2.env=s.env/\(jT C ⟨none,.store t p x,type,pos,after,guard⟩ ⟨s.n,env',s.aj⟩).run ah some=some ⟨s.n,env',s2.aj⟩:=by
    intro s2 hh
    simp only [jT,hg0] at hh ⊢
    rw [hev p (by simp),hev x (by simp)]
    split at hh
    ·split at hh
     ·rename_i hk
      rw [T.run_bind] at hh
      obtain ⟨s3,h3,hh⟩:=T.aD hh
      simp only [St.put,T.bK] at hh
      cases hh
      obtain ⟨e1,e2,e3⟩:=hst h3
      refine ⟨e1,e2, ?_⟩
      simp only [if_pos hk]
      rw [T.run_bind,T.lu e3]
      rfl
     ·cases hh
    ·cases hh
   have hgo:∀ {s2:St},((jT C ⟨none,.store t p x,type,pos,after,guard⟩ s).bind fun s=>bif iX ops i then gG s none else .ret s).run ah some=some s2->
     s2.n=s.n/\s2.env=s.env/\((jT C ⟨none,.store t p x,type,pos,after,guard⟩ ⟨s.n,env',s.aj⟩).bind fun s=>bif iX ops i then gG s none else .ret s).run ah some=some ⟨s.n,env',s2.aj⟩:=by
    intro s2 hh
    rw [T.run_bind] at hh
    obtain ⟨s3,h3,hh⟩:=T.aD hh
    have h4:s3=s2:=by
     cases hg:iX ops i <;> rw [hg] at hh <;> simpa [gG] using hh
    subst h4
    obtain ⟨e1,e2,e3⟩:=hop h3
    refine ⟨e1,e2, ?_⟩
    rw [T.run_bind,T.lu e3]
    cases iX ops i <;> rfl
   unfold stepT at hs ⊢
   simp only at hs ⊢
   cases hg:guard with
   | none=>
    subst hg
    exact hgo hs
   | some g=>
    obtain ⟨j,want⟩:=g
    subst hg
    simp only at hs ⊢
    cases hd:jM ops j with
    | none=>rw [hd] at hs;cases hs
    | some d=>
     rw [hd] at hs
     simp only at hs ⊢
     rw [hguard j want d rfl hd]
     split at hs
     ·rename_i b hb
      cases hbw:(b == want) with
      | true=>
       rw [hbw] at hs
       exact hgo hs
      | false=>
       rw [hbw] at hs
       simp only [cond_false,St.put,T.bK] at hs ⊢
       cases hs
       exact ⟨rfl,rfl,rfl⟩
     ·simp only [St.put,T.bK] at hs ⊢
      cases hs
      exact ⟨rfl,rfl,rfl⟩
     ·cases hs
theorem DX {C:aZ} {ah:FuncId->(t:Ty)->List Arg->Option t.den} {ops:List Oper} {i j:Nat} {p o:Oper} {s s1 s2:St} (hc:IV C ops p o=true)
  (h1:(stepT C ops i p s).run ah some=some s1) (h2:(stepT C ops j o s1).run ah some=some s2) :
  ∃ s',(stepT C ops j o s).run ah some=some s'/\(stepT C ops i p s').run ah some=some s2:=by
 unfold IV at hc
 simp only [Bool.and_eq_true] at hc
 obtain ⟨⟨⟨hq,hsl⟩,hst⟩,hc⟩:=hc
 split at hc
 ·rename_i x hx
  have hr:x ∉ readsOf ops o:=by simpa using hc
  rw [fI hq,hx,T.run_bind] at h1
  obtain ⟨⟨v,es⟩,hv,h1⟩:=T.aD h1
  have he:=Jr hsl hv
  subst he
  rw [aX] at h1
  simp only [bn,Option.bind_some] at h1
  cases hb:mR x s.n with
  | false=>rw [hb] at h1;cases h1
  | true=>
   rw [hb] at h1
   simp only [cond_true,Option.some.injEq] at h1
   subst h1
   obtain ⟨e1,e2,e3⟩:=jw (env':=s.env) hst (fun t ht=>by
    have hne:t ≠ x:=fun hc=>hr (by rw [<- hc];exact ht)
    show s.env t=upd s.env x v t
    rw [upd_ne _ _ hne]) h2
   refine ⟨_,e3, ?_⟩
   rw [fI hq,hx,T.run_bind,Pk (σ:=s.aj) hsl]
   rw [T.lu (a:=(v,[])) hv,aX]
   simp only [bn,Option.bind_some,hb,cond_true]
   obtain ⟨n2,Yr,Yt⟩:=s2
   simp only at e1 e2
   subst e1 e2
   rfl
 ·cases hc
theorem DY {C:aZ} {ah:FuncId->(t:Ty)->List Arg->Option t.den} {ops:List Oper} {i j:Nat} {p o:Oper} {s s1 s2:St} (hc:IV C ops o p=true)
  (h1:(stepT C ops i p s).run ah some=some s1) (h2:(stepT C ops j o s1).run ah some=some s2) :
  ∃ s',(stepT C ops j o s).run ah some=some s'/\(stepT C ops i p s').run ah some=some s2:=by
 unfold IV at hc
 simp only [Bool.and_eq_true] at hc
 obtain ⟨⟨⟨hq,hsl⟩,hst⟩,hc⟩:=hc
 split at hc
 ·rename_i x hx
  have hr:x ∉ readsOf ops p:=by simpa using hc
  obtain ⟨e1,e2,_⟩:=jw (env':=s.env) hst (fun _ _=>rfl) h1
  obtain ⟨n1,Yu,Vs⟩:=s1
  simp only at e1 e2
  subst e1 e2
  rw [fI hq,hx,T.run_bind] at h2
  obtain ⟨⟨v,es⟩,hv,h2⟩:=T.aD h2
  have he:=Jr hsl hv
  subst he
  rw [aX] at h2
  simp only [bn,Option.bind_some] at h2
  cases hb:mR x s.n with
  | false=>rw [hb] at h2;cases h2
  | true=>
   rw [hb] at h2
   simp only [cond_true,Option.some.injEq] at h2
   subst h2
   obtain ⟨_,_,e3⟩:=jw (env':=upd s.env x v) hst (fun t ht=>upd_ne _ _ (fun hc=>hr (by rw [<- hc];exact ht))) h1
   refine ⟨⟨s.n,upd s.env x v,s.aj⟩, ?_,e3⟩
   rw [fI hq,hx,T.run_bind]
   have hv':(gv C ops j o s).run ah some=some (v,[]):=by
    obtain ⟨n,env,aj⟩:=s
    rw [Pk (σ:=Vs) hsl]
    exact hv
   rw [T.lu hv',aX]
   simp only [bn,Option.bind_some,hb,cond_true]
 ·cases hc
theorem nS {C:aZ} {ah:FuncId->(t:Ty)->List Arg->Option t.den} {ops:List Oper} {i j:Nat} {p o:Oper} {s s1 s2:St} (l:Live s) (hc:rY C ops p o=true)
  (h1:(stepT C ops i p s).run ah some=some s1) (h2:(stepT C ops j o s1).run ah some=some s2) :
  ∃ s',(stepT C ops j o s).run ah some=some s'/\(stepT C ops i p s').run ah some=some s2:=by
 unfold rY at hc
 simp only [Bool.or_eq_true] at hc
 rcases hc with (hc | hc) | hc
 ·exact Ob l hc h1 h2
 ·exact DX hc h1 h2
 ·exact DY hc h1 h2
def Beside (σ σ':Nat->Option Entry) (v:Slot):Prop:=σ'=σ\/∃ id ty cs cs',σ id=some (.box ty cs)/\σ'=upd σ id (some (.box ty cs'))/\Nq (.one (.cell (.ptr id 0))) v=true
theorem Gg {n:Nat} {agg:Bool} {m:Nat} {env env':Nat->Slot} {σ σ':Nat->Option Entry} {c:Cell} (h:Beside σ σ' (.one (.cell c))):St.gu ⟨m,env',σ'⟩ n agg c=St.gu ⟨m,env,σ⟩ n agg c:=by
 rcases h with rfl | ⟨id,ty,cs,cs',h1,rfl,h2⟩
 ·cases c <;> rfl
 ·cases c <;> simp only [St.gu]
  case ptr j off=>
   have hne:j ≠ id:=by
    intro e
    subst e
    simp [Nq] at h2
   rw [upd_ne _ _ hne]
  case ko j i off=>
   by_cases hj:j=id
   ·subst hj
    rw [upd_same,h1]
   ·rw [upd_ne _ _ hj]
  case kJ j i off=>
   by_cases hj:j=id
   ·subst hj
    rw [upd_same,h1]
   ·rw [upd_ne _ _ hj]
theorem Pm {C:aZ} {ops:List Oper} {i:Nat} {o:Oper} {n:Nat} {env:Nat->Slot} {σ σ':Nat->Option Entry} {t:TypeId} {b:Tmp} (ho:o.op=.load t (.tmp b)) (hb:Beside σ σ' (env b)) :
  gv C ops i o ⟨n,env,σ'⟩=gv C ops i o ⟨n,env,σ⟩:=by
 have hv:aS C o ⟨n,env,σ'⟩=aS C o ⟨n,env,σ⟩:=by
  obtain ⟨dst,op,type,pos,after,guard⟩:=o
  simp only at ho
  subst ho
  simp only [aS,St.ev]
  cases he:env b with
  | wN cs=>cases C.shape t <;> rfl
  | one c=>
   cases c with
   | agg cs=>cases C.shape t <;> rfl
   | cell c=>
    rw [he] at hb
    cases C.shape t with
    | none=>rfl
    | some x=>simp only;rw [Gg (env:=env) (env':=env) hb]
 unfold gv
 rw [hv]
theorem Js {C:aZ} {ah:FuncId->(t:Ty)->List Arg->Option t.den} {ops:List Oper} {i:Nat} {o:Oper} {s:St} {v:Slot} {es:List (Nat × Entry)} {t:TypeId} {b:Operand} (ho:o.op=.load t b) (hr:(gv C ops i o s).run ah some=some (v,es)):es=[]:=by
 have hv:∀ {v es},(aS C o s).run ah some=some (v,es)->es=[]:=by
  intro v es hr
  obtain ⟨dst,op,type,pos,after,guard⟩:=o
  simp only at ho
  subst ho
  simp only [aS] at hr
  split at hr
  ·rw [T.run_bind] at hr
   obtain ⟨a,_,hr⟩:=T.aD hr
   cases hr;rfl
  ·cases hr
 have go:((aS C o s).bind fun x=>bif iX ops i then (Mj x.1).bind fun v=>.ret (v,x.2) else .ret x).run ah some=some (v,es)->es=[]:=by
  intro hr
  rw [T.run_bind] at hr
  obtain ⟨⟨u,fs⟩,h1,h2⟩:=T.aD hr
  have:=hv h1
  subst this
  cases hg:iX ops i with
  | false=>rw [hg] at h2;cases h2;rfl
  | true=>
   rw [hg] at h2
   simp only [cond_true,T.run_bind] at h2
   obtain ⟨c,_,h2⟩:=T.aD h2
   cases h2;rfl
 unfold gv at hr
 simp only at hr
 split at hr
 ·exact go hr
 ·rename_i j want hg
  split at hr
  ·rename_i d hd
   split at hr
   ·rename_i b hb
    cases hbw:(b == want) with
    | true=>rw [hbw] at hr;exact go hr
    | false=>rw [hbw] at hr;cases hr;rfl
   ·cases hr;rfl
   ·cases hr
  ·cases hr
theorem Cr {C:aZ} {ah:FuncId->(t:Ty)->List Arg->Option t.den} {ops:List Oper} {i:Nat} {o:Oper} {s s1:St} {t:TypeId} {q:Tmp} {x:Operand} (hd:o.dst=none) (ho:o.op=.store t (.tmp q) x) {id off:Nat} (hq:s.env q=.one (.cell (.ptr id off)))
  (hs:(stepT C ops i o s).run ah some=some s1):s1.aj=s.aj\/∃ ty cs cs',s.aj id=some (.box ty cs)/\s1.aj=upd s.aj id (some (.box ty cs')):=by
 obtain ⟨dst,op,type,pos,after,guard⟩:=o
 simp only at hd ho
 subst hd ho
 have hop:∀ {s2:St},(jT C ⟨none,.store t (.tmp q) x,type,pos,after,guard⟩ s).run ah some=some s2->s2.aj=s.aj\/∃ ty cs cs',s.aj id=some (.box ty cs)/\s2.aj=upd s.aj id (some (.box ty cs')):=by
  intro s2 hh
  simp only [jT,St.ev,hq] at hh
  split at hh
  ·rename_i hsh hp hv
   cases hp
   split at hh
   ·rw [T.run_bind] at hh
    obtain ⟨s3,h3,hh⟩:=T.aD hh
    simp only [St.put,T.bK] at hh
    cases hh
    simp only [St.store] at h3
    split at h3
    ·rename_i ty cs hse
     split at h3
     ·cases h3
      exact .inr ⟨ty,cs,_,hse,rfl⟩
     ·cases h3
    ·cases h3
   ·cases hh
  ·cases hh
 have hgo:∀ {s2:St},((jT C ⟨none,.store t (.tmp q) x,type,pos,after,guard⟩ s).bind fun s=>bif iX ops i then gG s none else .ret s).run ah some=some s2->s2.aj=s.aj\/∃ ty cs cs',s.aj id=some (.box ty cs)/\s2.aj=upd s.aj id (some (.box ty cs')):=by
  intro s2 hh
  rw [T.run_bind] at hh
  obtain ⟨s3,h3,hh⟩:=T.aD hh
  have h4:s3=s2:=by
   cases hg:iX ops i <;> rw [hg] at hh <;> simpa [gG] using hh
  subst h4
  exact hop h3
 unfold stepT at hs
 simp only at hs
 cases hg:guard with
 | none=>subst hg;exact hgo hs
 | some g=>
  obtain ⟨j,want⟩:=g
  subst hg
  simp only at hs
  cases hdd:jM ops j with
  | none=>rw [hdd] at hs;cases hs
  | some d=>
   rw [hdd] at hs
   simp only at hs
   split at hs
   ·rename_i b hb
    cases hbw:(b == want) with
    | true=>rw [hbw] at hs;exact hgo hs
    | false=>
     rw [hbw] at hs
     simp only [cond_false,St.put,T.bK] at hs
     cases hs
     exact .inl rfl
   ·simp only [St.put,T.bK] at hs
    cases hs
    exact .inl rfl
   ·cases hs
theorem Sq {u v:Slot} (h:Nq u v=true):∃ id off,u=.one (.cell (.ptr id off))/\Nq (.one (.cell (.ptr id 0))) v=true:=by
 unfold Nq at h
 split at h
 ·exact ⟨_,_,rfl,h⟩
 ·exact ⟨_,_,rfl,rfl⟩
 ·exact ⟨_,_,rfl,rfl⟩
 ·cases h
theorem Mk {C:aZ} {ops:List Oper} {s0 s:St} {a b:Oper} (hI:∀ t,t ∉ dstsOf ops->s.env t=s0.env t) (h:IW C ops s0 a b=true) :
  ∃ t p d t' q x,aT C a=true/\a.op=.load t (.tmp p)/\a.dst=some d/\b.op=.store t' (.tmp q) x/\b.dst=none/\C.gives.contains t'=false/\p ∉ dstsOf ops/\q ∉ dstsOf ops/\d ∉ readsOf ops b/\∃ id off,s.env q=.one (.cell (.ptr id off))/\Nq (.one (.cell (.ptr id 0))) (s.env p)=true:=by
 unfold IW at h
 split at h
 ·rename_i t p d t' q x ha hd hb hbd
  simp only [Bool.and_eq_true,Bool.not_eq_true'] at h
  obtain ⟨⟨⟨⟨⟨WZ,hg⟩,h1⟩,h2⟩,h3⟩,h4⟩:=h
  have h1:p ∉ dstsOf ops:=by simpa using h1
  have h2:q ∉ dstsOf ops:=by simpa using h2
  obtain ⟨id,off,k1,k2⟩:=Sq h4
  exact ⟨t,p,d,t',q,x,WZ,ha,hd,hb,hbd,hg,h1,h2,by simpa using h3,id,off,by rw [hI q h2];exact k1,by rw [hI p h1];exact k2⟩
 ·cases h
theorem zU {C:aZ} {o:Oper} {t:TypeId} {p x:Operand} (ho:o.op=.store t p x) (hd:o.dst=none) (hg:C.gives.contains t=false):iH C o=true:=by
 unfold iH
 rw [ho,hd]
 simp only [hg]
 rfl
theorem DZ {C:aZ} {ah:FuncId->(t:Ty)->List Arg->Option t.den} {ops:List Oper} {i j:Nat} {p o:Oper} {s0 s s1 s2:St} (hI:∀ t,t ∉ dstsOf ops->s.env t=s0.env t) (hpm:p ∈ ops) (hc:IW C ops s0 p o=true)
  (h1:(stepT C ops i p s).run ah some=some s1) (h2:(stepT C ops j o s1).run ah some=some s2) :
  ∃ s',(stepT C ops j o s).run ah some=some s'/\(stepT C ops i p s').run ah some=some s2:=by
 obtain ⟨t,b,x,t',q,y,WZ,hp,hx,ho,hod,hgv,hb1,hq1,hr,id,off,hq,hsep⟩:=Mk (C:=C) hI hc
 have Xa:=WZ
 have hst:=zU (C:=C) ho hod hgv
 have hxd:x ∈ dstsOf ops:=List.mem_filterMap.2 ⟨p,hpm,hx⟩
 rw [fI Xa,hx,T.run_bind] at h1
 obtain ⟨⟨v,es⟩,hv,h1⟩:=T.aD h1
 have he:=Js hp hv
 subst he
 rw [aX] at h1
 simp only [bn,Option.bind_some] at h1
 cases hb:mR x s.n with
 | false=>rw [hb] at h1;cases h1
 | true=>
  rw [hb] at h1
  simp only [cond_true,Option.some.injEq] at h1
  subst h1
  have hne:∀ u,u ∉ dstsOf ops->upd s.env x v u=s.env u:=fun u hu=>upd_ne _ _ (fun e=>hu (e ▸ hxd))
  have hso:=Cr (id:=id) (off:=off) hod ho (by show upd s.env x v q=_;rw [hne q hq1];exact hq) h2
  obtain ⟨e1,e2,e3⟩:=jw (env':=s.env) hst (fun u hu=>by
   have hnu:u ≠ x:=fun hc=>hr (by rw [<- hc];exact hu)
   show s.env u=upd s.env x v u
   rw [upd_ne _ _ hnu]) h2
  refine ⟨_,e3, ?_⟩
  have hbe:Beside s.aj s2.aj (s.env b):=by
   rcases hso with h | ⟨ty,cs,cs',k1,k2⟩
   ·exact .inl h
   ·exact .inr ⟨id,ty,cs,cs',k1,k2,hsep⟩
  rw [fI Xa,hx,T.run_bind,Pm (σ:=s.aj) hp hbe]
  rw [T.lu (a:=(v,[])) hv,aX]
  simp only [bn,Option.bind_some,hb,cond_true]
  obtain ⟨n2,Yr,Yt⟩:=s2
  simp only at e1 e2
  subst e1 e2
  rfl
theorem Ea {C:aZ} {ah:FuncId->(t:Ty)->List Arg->Option t.den} {ops:List Oper} {i j:Nat} {p o:Oper} {s0 s s1 s2:St} (hI:∀ t,t ∉ dstsOf ops->s.env t=s0.env t) (hc:IW C ops s0 o p=true)
  (h1:(stepT C ops i p s).run ah some=some s1) (h2:(stepT C ops j o s1).run ah some=some s2) :
  ∃ s',(stepT C ops j o s).run ah some=some s'/\(stepT C ops i p s').run ah some=some s2:=by
 obtain ⟨t,b,x,t',q,y,WZ,hp,hx,ho,hod,hgv,hb1,hq1,hr,id,off,hq,hsep⟩:=Mk (C:=C) hI hc
 have Xa:=WZ
 have hst:=zU (C:=C) ho hod hgv
 have hso:=Cr (id:=id) (off:=off) hod ho hq h1
 obtain ⟨e1,e2,_⟩:=jw (env':=s.env) hst (fun _ _=>rfl) h1
 obtain ⟨n1,Yu,Vs⟩:=s1
 simp only at e1 e2 hso
 subst e1 e2
 have hbe:Beside s.aj Vs (s.env b):=by
  rcases hso with h | ⟨ty,cs,cs',k1,k2⟩
  ·exact .inl h
  ·exact .inr ⟨id,ty,cs,cs',k1,k2,hsep⟩
 rw [fI Xa,hx,T.run_bind,Pm (σ:=s.aj) hp hbe] at h2
 obtain ⟨⟨v,es⟩,hv,h2⟩:=T.aD h2
 have he:=Js hp hv
 subst he
 rw [aX] at h2
 simp only [bn,Option.bind_some] at h2
 cases hb:mR x s.n with
 | false=>rw [hb] at h2;cases h2
 | true=>
  rw [hb] at h2
  simp only [cond_true,Option.some.injEq] at h2
  subst h2
  obtain ⟨_,_,e3⟩:=jw (env':=upd s.env x v) hst (fun u hu=>upd_ne _ _ (fun hc=>hr (by rw [<- hc];exact hu))) h1
  refine ⟨⟨s.n,upd s.env x v,s.aj⟩, ?_,e3⟩
  rw [fI Xa,hx,T.run_bind]
  rw [T.lu (a:=(v,[])) hv,aX]
  simp only [bn,Option.bind_some,hb,cond_true]
theorem Jt {C:aZ} {ah:FuncId->(t:Ty)->List Arg->Option t.den} {ops:List Oper} {i:Nat} {o:Oper} {s s1:St} (ho:o ∈ ops) (hq:(aT C o || iH C o)=true) (h:(stepT C ops i o s).run ah some=some s1):∀ t,t ∉ dstsOf ops->s1.env t=s.env t:=by
 intro t ht
 simp only [Bool.or_eq_true] at hq
 rcases hq with hq | hq
 ·obtain ⟨d,hd⟩:∃ d,o.dst=some d:=Option.isSome_iff_exists.1 (by simp only [aT,Bool.and_eq_true] at hq;exact hq.1)
  have Xb:d ∈ dstsOf ops:=List.mem_filterMap.2 ⟨o,ho,hd⟩
  rw [fI hq,hd,T.run_bind] at h
  obtain ⟨⟨v,es⟩,hv,h⟩:=T.aD h
  rw [aX] at h
  obtain ⟨σ,_,h⟩:=Option.bind_eq_some_iff.1 h
  cases hb:mR d s.n with
  | false=>rw [hb] at h;cases h
  | true=>
   rw [hb] at h
   simp only [cond_true,Option.some.injEq] at h
   subst h
   exact upd_ne _ _ (fun e=>ht (e ▸ Xb))
 ·obtain ⟨_,e2,_⟩:=jw (env':=s.env) hq (fun _ _=>rfl) h
  rw [e2]
theorem Oc {C:aZ} {ah:FuncId->(t:Ty)->List Arg->Option t.den} {ops:List Oper} {i j:Nat} {p o:Oper} {s0 s s1 s2:St} (l:Live s) (hI:∀ t,t ∉ dstsOf ops->s.env t=s0.env t) (hpm:p ∈ ops) (hc:OT C ops s0 p o=true)
  (h1:(stepT C ops i p s).run ah some=some s1) (h2:(stepT C ops j o s1).run ah some=some s2) :
  ∃ s',(stepT C ops j o s).run ah some=some s'/\(stepT C ops i p s').run ah some=some s2:=by
 unfold OT at hc
 simp only [Bool.or_eq_true] at hc
 rcases hc with (hc | hc) | hc
 ·exact nS l hc h1 h2
 ·exact DZ hI hpm hc h1 h2
 ·exact Ea hI hc h1 h2
def Held (C:aZ) (s:St):Prop:=∃ F0 G a w pl,Inv F0 G s a w pl/\qz C w F0
theorem Held.live {C:aZ} {s:St} (h:Held C s):Live s:=let ⟨_,_,_,_,_,i,_⟩:=h;i.live
theorem Qf {P:Program} {ops:Array Oper} {i:Nat} {K:Act->World->Prop} {a:Act} {w:World} (h:wpOp P ops (fun _ _ _=>False) i K a w):∃ a' w',K a' w':=by
 unfold wpOp at h
 split at h
 ·exact ⟨_,_,h⟩
 ·rename_i o ho
  split at h
  ·rcases h with h | ⟨_,_,_,h⟩
   ·unfold Oper.wp at h
    generalize (execOp a.eval o).run P w=r at h
    cases r with
    | ok n w'=>
     cases n <;> simp only [Oper.upon] at h <;> first
      | exact ⟨_,_,h⟩
      | (obtain ⟨e,w'',fr,hr,_⟩:=h [];cases e <;> first | exact ⟨_,_,hr⟩ | exact hr.elim | (obtain ⟨_,_,hx⟩:=hr;exact hx.elim))
      | (obtain ⟨v,w'',hr,_⟩:=h (Frame.enter P 0 #[] .normal) [];exact ⟨_,_,hr⟩)
    | halt x w'=>cases x <;> simp only [Oper.upon] at h
   ·exact h.elim
  ·exact ⟨_,_,h⟩
section
variable {C:aZ} {ah:FuncId->(t:Ty)->List Arg->Option t.den}
theorem Held.step (hop:∀ o,kD C ah o) {s s1:St} (hh:Held C s) {ops:Array Oper} {o:Oper} {j:Nat} (ho:ops[j]? = some o) (h:(stepT C ops.toList j o s).run ah some=some s1):Held C s1:=by
 obtain ⟨F0,G,a,w,pl,i,ht⟩:=hh
 obtain ⟨a',w',s',G',kK,hk,i',fr'⟩:=Qf (step_ok (Q:=fun _ _ _=>False) ho (hop o) i ht h)
 cases hk
 exact ⟨F0,G',a',w',kK,i',ht.fr fr'⟩
structure Gh (C:aZ) (ah:FuncId->(t:Ty)->List Arg->Option t.den) (ops:Array Oper) where
 cm:Oper->Oper->Bool
 I:St->Prop
 tail:Nat->Bool
 xO:∀ {i j:Nat},tail i=true->i<=j->tail j=true
 vI:∀ {j:Nat} {o:Oper},tail j=true->ops[j]? = some o->∀ k,k<j->(∃ m,(fO ops.toList [])[j]? = some m/\m.testBit k=true)\/(tail k=true/\∃ p,ops[k]? = some p/\rY C ops.toList p o=true)
 go:∀ {s s1:St} {o:Oper} {j:Nat},I s->tail j=false->ops[j]? = some o->(stepT C ops.toList j o s).run ah some=some s1->I s1
 swap:∀ {i j:Nat} {p o:Oper} {s s1 s2:St},Live s->I s->ops[i]? = some p->ops[j]? = some o->cm p o=true->(stepT C ops.toList i p s).run ah some=some s1->(stepT C ops.toList j o s1).run ah some=some s2->
  ∃ s',(stepT C ops.toList j o s).run ah some=some s'/\(stepT C ops.toList i p s').run ah some=some s2
theorem bubble {R:Type} (hop:∀ o,kD C ah o) {ops:Array Oper} (W:Gh C ah ops) {o:Oper} {j:Nat} (hoj:ops[j]? = some o) {post:List (Oper × Nat)} {κ:St->Option R} {r:R} :
  ∀ {pre:List (Oper × Nat)} {s:St},Held C s->W.I s->(∀ p i,(p,i) ∈ pre->ops[i]? = some p/\W.cm p o=true/\W.tail i=false)->(BS C ops.toList (pre++(o,j) :: post) s).run ah κ=some r->
   ∃ s',(stepT C ops.toList j o s).run ah some=some s'/\(BS C ops.toList (pre++post) s').run ah κ=some r
 | [],s,hh,hI,hp,h=>by
  simp only [List.nil_append,BS,T.run_bind] at h
  exact T.aD h
 | (p,i) :: pre,s,hh,hI,hp,h=>by
  simp only [List.cons_append,BS,T.run_bind] at h
  obtain ⟨s1,h1,h⟩:=T.aD h
  obtain ⟨ho,hc,ht⟩:=hp p i (by simp)
  obtain ⟨s2,h2,h⟩:=bubble hop W hoj (hh.step hop ho h1) (W.go hI ht ho h1) (fun p i hm=>hp p i (by simp [hm])) h
  obtain ⟨s',h3,h4⟩:=W.swap hh.live hI ho hoj hc h1 h2
  refine ⟨s',h3, ?_⟩
  simp only [List.cons_append,BS,T.run_bind]
  rw [T.lu h4]
  exact h
end
end Go.Flat
