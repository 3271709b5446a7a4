/- What copies a slot or looks into a box, beside what gives rows up. No condition. -/
import Derived.Test.YtmocpfgfjeaelaaGreatDrawC
set_option linter.unusedVariables false
set_option linter.unusedSimpArgs false
namespace Go.Flat
theorem mX {K:List Nat} {v:Slot} (h:∀ id ∈ K,id ∉ v.ids):v.kills K=v:=by
 induction K generalizing v with
 | nil=>rfl
 | cons k K ih=>
  show (v.kill k).kills K=v
  rw [Slot.iC (h k (by simp))]
  exact ih fun id hid=>h id (by simp [hid])
theorem yG {K:List Nat} {v:Slot}:∀ i ∈ (v.kills K).ids,i ∈ v.ids:=by
 induction K generalizing v with
 | nil=>exact fun i hi=>hi
 | cons k K ih=>exact fun i hi=>Slot.jQ i (ih (v:=v.kill k) i hi)
theorem Jw {K:List Nat} {e:Entry} (h:∀ t cs,e=.box t cs->∀ c ∈ cs,∀ id ∈ K,id ∉ c.ids):e.kills K=e:=by
 induction K generalizing e with
 | nil=>rfl
 | cons k K ih=>
  have he:e.kill k=e:=by
   cases e with
   | box t cs=>show Entry.box t (cs.map (·.kill k))=_;rw [xP (fun c hc=>h t cs rfl c hc k (by simp))]
   | arr _ _ _=>rfl
   | deep _ _ _=>rfl
  show (e.kill k).kills K=e
  rw [he]
  exact ih fun t cs hh c hc id hid=>h t cs hh c hc id (by simp [hid])
theorem Gp {K:List Nat} {s:St}:(s.aJ K).n=s.n/\(∀ t,(s.aJ K).env t=(s.env t).kills K)/\(∀ i e,s.aj i=some e->i ∉ K->(s.aJ K).aj i=some (e.kills K))/\(∀ i,s.aj i=none->(s.aJ K).aj i=none):=by
 induction K generalizing s with
 | nil=>exact ⟨rfl,fun _=>rfl,fun i e h _=>h,fun i h=>h⟩
 | cons k K ih=>
  obtain ⟨h1,h2,h3,h4⟩:=ih (s:=s.drop k)
  refine ⟨h1,h2,fun i e he hi=>?_,fun i he=>?_⟩
  ·have hik:i ≠ k:=fun h=>hi (by simp [h])
   refine h3 i (e.kill k) ?_ (fun h=>hi (by simp [h]))
   show upd _ k none i=_
   rw [upd_ne _ _ hik]
   show (s.aj i).map _=_
   rw [he]
   rfl
  ·refine h4 i ?_
   show upd _ k none i=_
   by_cases hik:i=k
   ·subst hik;exact upd_same _ _ _
   ·rw [upd_ne _ _ hik]
    show (s.aj i).map _=_
    rw [he]
    rfl
theorem nT {x:Tmp} {u:Slot}:∀ {K:List Nat} {s:St},u.kills K=u->(∀ id ∈ K,id ∉ u.ids)->(⟨s.n,upd s.env x u,s.aj⟩:St).aJ K=⟨(s.aJ K).n,upd (s.aJ K).env x u,(s.aJ K).aj⟩
 | [],s,_,_=>rfl
 | k :: K,s,hu,hd=>by
  have e:(⟨s.n,upd s.env x u,s.aj⟩:St).drop k=⟨(s.drop k).n,upd (s.drop k).env x u,(s.drop k).aj⟩:=by
   show (⟨s.n,fun t=>(upd s.env x u t).kill k,_⟩:St)=⟨s.n,upd (fun t=>(s.env t).kill k) x u,_⟩
   have:(fun t=>(upd s.env x u t).kill k)=upd (fun t=>(s.env t).kill k) x u:=by
    funext t
    by_cases ht:t=x
    ·subst ht;rw [upd_same,upd_same,Slot.iC (hd k (by simp))]
    ·rw [upd_ne _ _ ht,upd_ne _ _ ht]
   rw [this]
   rfl
  show St.aJ (St.drop ⟨s.n,upd s.env x u,s.aj⟩ k) K=_
  rw [e]
  have hd':∀ id ∈ K,id ∉ u.ids:=fun id h=>hd id (by simp [h])
  exact nT (s:=s.drop k) (mX hd') hd'
structure sK (C:aZ) (ah:FuncId->(t:Ty)->List Arg->Option t.den) (ops:List Oper) (j:Nat) (o:Oper) (s s2:St) (d:Tmp) (K:List Nat):Prop where
 sub:∀ i ∈ K,∃ r ∈ readsOf ops o,i ∈ (s.env r).ids
 n:s2.n=s.n
 env:∀ t,t ≠ d->s2.env t=(s.env t).kills K
 dst:∀ i ∈ (s2.env d).ids,i ∈ K\/s.aj i=none
 aj:∀ i e,s.aj i=some e->i ∉ K->s2.aj i=some (e.kills K)
 up:∀ x u,x ∉ readsOf ops o->x ≠ d->(∀ id ∈ K,id ∉ u.ids)->(stepT C ops j o ⟨s.n,upd s.env x u,s.aj⟩).run ah some=some ⟨s2.n,upd s2.env x u,s2.aj⟩
 wo:∀ i ∈ K,∀ t cs,s.aj i ≠ some (.box t cs)
section
variable {C:aZ} {ah:FuncId->(t:Ty)->List Arg->Option t.den} {ops:List Oper}
theorem Ol {s:St} {a:Nat} {t:Ty} {l:List t.den} {p:Option Nat} (h:s.aj a=some (.deep t l p)):∀ i ∈ [a],∀ t cs,s.aj i ≠ some (.box t cs):=fun i hi t cs h'=>by
 rw [List.mem_singleton.1 hi,h] at h'
 cases h'
theorem Sz {s:St} {a b:Nat} {t1 t2:Ty} {l1:List t1.den} {l2:List t2.den} {p1 p2:Option Nat} (h1:s.aj a=some (.deep t1 l1 p1)) (h2:s.aj b=some (.deep t2 l2 p2)):∀ i ∈ [b,a],∀ t cs,s.aj i ≠ some (.box t cs):=fun i hi t cs h'=>by
 rcases List.mem_cons.1 hi with e | e
 ·rw [e,h2] at h';cases h'
 ·exact Ol h1 i e t cs h'
theorem Pp {s:St} {x:Tmp} {u:Slot} {y:Operand} (h:∀ t,y=.tmp t->t ≠ x):St.ev ⟨s.n,upd s.env x u,s.aj⟩ y=s.ev y:=by
 cases y with
 | tmp t=>exact upd_ne _ _ (h t rfl)
 | _=>rfl
theorem xR {s s':St} {t:Ty} (hs:s'.aj=s.aj):∀ {parts:List (Nat × Operand)} {l:List t.den} {ids:List Nat},(∀ p ∈ parts,s'.ev p.2=s.ev p.2)->dL s' t parts l ids=dL s t parts l ids
 | [],l,ids,_=>rfl
 | (i,x) :: r,l,ids,h=>by
  simp only [dL]
  rw [h (i,x) (by simp),hs]
  cases s.ev x with
  | wN cs=>rfl
  | one v=>
   simp only
   cases aL s.aj .give t v.cells with
   | none=>rfl
   | some y=>
    simp only
    split
    ·exact xR hs fun p hp=>h p (by simp [hp])
    ·rfl
theorem Om {σ:Nat->Option Entry} {m:Mode} {t:Ty} {c:Cell} {l:List t.den} {ids:List Nat} (h:gN σ m t c=some (l,ids)):∀ id ∈ ids,id ∈ c.ids:=by
 intro id hid
 cases c <;> simp only [gN] at h <;> try (cases h;done)
 case nil=>simp at h;rw [h.2] at hid;simp at hid
 case list fr u l'=>
  cases m <;> cases fr <;> simp at h
  all_goals
   obtain ⟨x,hx,rfl,rfl⟩:=h
   simp at hid
 case ref id'=>
  cases hs:σ id' with
  | none=>simp [hs] at h
  | some e=>
   cases e with
   | box _ _=>simp [hs] at h
   | deep _ _ _=>simp [hs] at h
   | arr u l' o=>
    cases m <;> cases o <;> simp [hs] at h
    all_goals
     obtain ⟨x,hx,rfl,rfl⟩:=h
     simp at hid
     subst hid
     simp [Cell.ids]
 case sub id' off n=>
  cases hs:σ id' with
  | none=>simp [hs] at h
  | some e=>
   cases e with
   | box _ _=>simp [hs] at h
   | deep _ _ _=>simp [hs] at h
   | arr u l' o=>
    cases m <;> cases o <;> simp [hs] at h
    all_goals
     obtain ⟨x,hx,rfl,rfl⟩:=h
     simp at hid
     subst hid
     simp [Cell.ids]
theorem MG {σ:Nat->Option Entry} {m:Mode} {t:Ty} {c:Cell} {l:List t.den} {ids:List Nat} (h:iV σ m t c=some (l,ids)):∀ id ∈ ids,id ∈ c.ids:=by
 intro id hid
 cases c <;> simp only [iV] at h <;> try (cases h;done)
 case nil=>simp at h;rw [h.2] at hid;simp at hid
 case list fr u l'=>
  cases m <;> cases fr <;> simp at h
  all_goals
   obtain ⟨x,hx,rfl,rfl⟩:=h
   simp at hid
 case fE id'=>
  cases hs:σ id' with
  | none=>simp [hs] at h
  | some e=>
   cases e with
   | box _ _=>simp [hs] at h
   | arr _ _ _=>simp [hs] at h
   | deep u l' o=>
    cases m <;> cases o <;> simp [hs] at h
    all_goals
     obtain ⟨x,hx,rfl,rfl⟩:=h
     simp at hid
     subst hid
     simp [Cell.ids]
theorem MH {σ:Nat->Option Entry} {m:Mode}:∀ {t:Ty} {cs:List Cell} {x:t.den} {rest:List Cell} {ids:List Nat},au σ m t cs=some (x,rest,ids)->(∀ id ∈ ids,∃ c ∈ cs,id ∈ c.ids)/\∀ c ∈ rest,c ∈ cs:=by
 intro t
 induction t with
 | bool=>
  intro cs x rest ids h
  cases cs with
  | nil=>simp [au] at h
  | cons c r=>cases c <;> simp [au] at h <;> (obtain ⟨_,rfl,rfl⟩:=h;exact ⟨by simp,fun c hc=>by simp [hc]⟩)
 | int k=>
  intro cs x rest ids h
  cases cs with
  | nil=>simp [au] at h
  | cons c r=>cases c <;> simp [au] at h <;> (obtain ⟨_,_,rfl,rfl⟩:=h;exact ⟨by simp,fun c hc=>by simp [hc]⟩)
 | str=>
  intro cs x rest ids h
  cases cs with
  | nil=>simp [au] at h
  | cons c r=>cases c <;> simp [au] at h <;> (obtain ⟨_,rfl,rfl⟩:=h;exact ⟨by simp,fun c hc=>by simp [hc]⟩)
 | unit=>
  intro cs x rest ids h
  cases cs <;> (simp [au] at h;obtain ⟨rfl,rfl⟩:=h;exact ⟨by simp,fun c hc=>hc⟩)
 | list t ih=>
  intro cs x rest ids h
  cases cs with
  | nil=>simp [au] at h
  | cons c r=>
   simp only [au,Option.map_eq_some_iff] at h
   obtain ⟨⟨l,js⟩,h1,h2⟩:=h
   simp only [Prod.mk.injEq] at h2
   obtain ⟨rfl,rfl,rfl⟩:=h2
   exact ⟨fun id hid=>⟨c,by simp,Om h1 id hid⟩,fun c hc=>by simp [hc]⟩
 | aG t ih=>
  intro cs x rest ids h
  cases cs with
  | nil=>simp [au] at h
  | cons c r=>
   simp only [au,Option.map_eq_some_iff] at h
   obtain ⟨⟨l,js⟩,h1,h2⟩:=h
   simp only [Prod.mk.injEq] at h2
   obtain ⟨rfl,rfl,rfl⟩:=h2
   exact ⟨fun id hid=>⟨c,by simp,MG h1 id hid⟩,fun c hc=>by simp [hc]⟩
 | pair a b iha ihb=>
  intro cs x rest ids h
  simp only [au] at h
  split at h
  ·rename_i y r js h1
   split at h
   ·rename_i z r' js' h2
    simp only [Option.some.injEq,Prod.mk.injEq] at h
    obtain ⟨rfl,rfl,rfl⟩:=h
    obtain ⟨k1,k2⟩:=iha h1
    obtain ⟨k3,k4⟩:=ihb h2
    refine ⟨fun id hid=>?_,fun c hc=>k2 c (k4 c hc)⟩
    rcases List.mem_append.1 hid with hid | hid
    ·exact k1 id hid
    ·obtain ⟨c,hc,hi⟩:=k3 id hid
     exact ⟨c,k2 c hc,hi⟩
   ·cases h
  ·cases h
theorem Gq {σ:Nat->Option Entry} {m:Mode} {t:Ty} {cs:List Cell} {x:t.den} {ids:List Nat} (h:aL σ m t cs=some (x,ids)):∀ id ∈ ids,∃ c ∈ cs,id ∈ c.ids:=by
 unfold aL at h
 split at h
 ·rename_i y js h1
  simp only [Option.some.injEq,Prod.mk.injEq] at h
  obtain ⟨rfl,rfl⟩:=h
  exact (MH h1).1
 ·cases h
theorem wD {s:St} {t:Ty}:∀ {parts:List (Nat × Operand)} {l l':List t.den} {ids iQ:List Nat},dL s t parts l ids=some (l',iQ)->∀ id ∈ iQ,id ∈ ids\/∃ p ∈ parts,id ∈ (s.ev p.2).ids
 | [],l,l',ids,iQ,h=>by simp [dL] at h;rw [<- h.2];exact fun id hid=>.inl hid
 | (j,x) :: parts,l,l',ids,iQ,h=>by
  simp only [dL] at h
  split at h
  ·rename_i v hv
   split at h
   ·rename_i y js hof
    split at h
    ·intro id hid
     rcases wD h id hid with h1 | ⟨p,hp,h2⟩
     ·rcases List.mem_append.1 h1 with h1 | h1
      ·exact .inl h1
      ·obtain ⟨c,hc,hi⟩:=Gq hof id h1
       refine .inr ⟨(j,x),by simp, ?_⟩
       rw [hv]
       exact List.mem_flatMap.2 ⟨c,hc,hi⟩
     ·exact .inr ⟨p,by simp [hp],h2⟩
    ·cases h
   ·cases h
  ·cases h
theorem Oo (hg:∀ o ∈ ops,o.guard=none) {j:Nat} {o:Oper} (ho:o ∈ ops) {t:TypeId} {n:Nat} {parts:Array (Nat × Operand)} {d:Tmp} (hop:o.op=.buildSlice t n parts) (hd:o.dst=some d) (ht:(C.Fb t).isSome=true) (hbr:C.Lf (some d) t=false) {s s2:St} (h:(stepT C ops j o s).run ah some=some s2) :
  ∃ K,sK C ah ops j o s s2 d K:=by
 have hgo:=hg o ho
 have hrd:∀ p ∈ parts.toList,∀ r,p.2=.tmp r->r ∈ readsOf ops o:=fun p hp r hr=>by
  unfold readsOf
  refine List.mem_append_left _ (List.mem_filterMap.2 ⟨.tmp r, ?_,rfl⟩)
  rw [hop]
  simp only [Op.operands,List.mem_map]
  exact ⟨p,hp,hr⟩
 have run:∀ s':St,stepT C ops j o s'=(match C.elem t with
   | some (_,u)=>qU s' u (some d) n parts.toList
   | none=>.fail):=fun s'=>by
  unfold stepT
  simp only [hgo,iE hg,cond_false,T.ji]
  obtain ⟨dst,op,type,pos,after,guard⟩:=o
  simp only at hop hd
  subst hop hd
  obtain ⟨v,hv⟩:=Option.isSome_iff_exists.1 ht
  simp only [jT,hbr,cond_false,hv]
  cases C.elem t <;> rfl
 rw [run] at h
 cases he:C.elem t with
 | none=>rw [he] at h;cases h
 | some eu=>
  obtain ⟨e,u⟩:=eu
  rw [he] at h
  simp only [qU] at h
  split at h
  ·rename_i hc
   cases hb:dL s u parts.toList (List.replicate n u.dflt) [] with
   | none=>rw [hb] at h;cases h
   | some lk=>
    obtain ⟨l,K⟩:=lk
    rw [hb] at h
    simp only at h
    cases hn:(nodup K && nodup (parts.toList.map (·.1))) with
    | false=>rw [hn] at h;cases h
    | true=>
     rw [hn] at h
     simp only [cond_true,T.run_bind,St.alloc] at h
     cases hk:(s.aJ K).aj (ak d 0) with
     | some _=>rw [hk] at h;cases h
     | none=>
      rw [hk] at h
      simp only [T.bK,St.put] at h
      cases hin:mR d (s.aJ K).n with
      | false=>rw [hin] at h;cases h
      | true=>
       rw [hin] at h
       simp only [cond_true,T.bK,Option.some.injEq] at h
       subst h
       obtain ⟨a1,a2,a3,a4⟩:=Gp (K:=K) (s:=s)
       have hsub:∀ i ∈ K,∃ r ∈ readsOf ops o,i ∈ (s.env r).ids:=fun i hi=>by
        rcases wD hb i hi with h1 | ⟨p,hp,h1⟩
        ·cases h1
        ·obtain ⟨r,hr,h2⟩:=vL h1
         exact ⟨r,hrd p hp r hr,h2⟩
       refine ⟨K,hsub,a1,fun t ht=>(upd_ne _ _ ht).trans (a2 t),fun i hi=>?_,fun i e hi hiK=>?_,fun x v hx hxd hv=>?_,fun i hi=>(oL hb (fun _ h=>by cases h) i hi).wo⟩
       ·have hi:i ∈ (upd (s.aJ K).env d (.cell (.fE (ak d 0))) d).ids:=hi
        rw [upd_same] at hi
        have hi:i=ak d 0:=by simpa [Slot.ids,av.ids,av.cells,Cell.ids] using hi
        subst hi
        by_cases hK:ak d 0 ∈ K
        ·exact .inl hK
        ·cases hs:s.aj (ak d 0) with
         | none=>exact .inr rfl
         | some e=>
          rw [a3 _ e hs hK] at hk
          cases hk
       ·have:=a3 i e hi hiK
        have hne:i ≠ ak d 0:=fun hh=>by rw [hh,hk] at this;cases this
        exact (upd_ne _ _ hne).trans this
       ·rw [run,he]
        simp only [qU]
        rw [if_pos hc,xR (s:=s) (s':=⟨s.n,upd s.env x v,s.aj⟩) rfl (fun p hp=>Pp (s:=s) fun t ht e=>hx (by rw [<- e];exact hrd p hp t ht)),hb]
        simp only [hn,cond_true]
        rw [nT (mX hv) hv]
        simp only [T.run_bind,St.alloc,hk,T.bK,St.put,hin,cond_true]
        rw [iO _ _ _ hxd]
  ·cases h
theorem drop_append (hg:∀ o ∈ ops,o.guard=none) {j:Nat} {o:Oper} (ho:o ∈ ops) {args:Array Operand} {argTypes:Array TypeId} {d:Tmp} (hop:o.op=.call ⟨.builtin .append,args,argTypes⟩) (hd:o.dst=some d) (ht:((argTypes[0]?).bind C.Fb).isSome=true) {s s2:St} (h:(stepT C ops j o s).run ah some=some s2) :
  ∃ K,sK C ah ops j o s s2 d K:=by
 have hgo:=hg o ho
 have run:∀ s':St,stepT C ops j o s'=jT C o s':=fun s'=>by
  unfold stepT
  simp only [hgo,iE hg,cond_false,T.ji]
 have hrd:∀ y ∈ args.toList,∀ r,y=.tmp r->r ∈ readsOf ops o:=fun y hy r hr=>by
  unfold readsOf
  refine List.mem_append_left _ (List.mem_filterMap.2 ⟨.tmp r, ?_,rfl⟩)
  rw [hop]
  subst hr
  simp [Op.operands,Call.operands] at hy ⊢
  exact hy
 rw [run] at h
 have hop2:∀ s':St,jT C o s'=(match args.toList,argTypes.toList,o.dst with
  | [x,y],[t,ty],some d=>(match s'.ev x,s'.ev y,C.elem t,C.P.underlying ty with
   | .one (.cell a),.one (.cell b),some (e,u),some ds=>if C.nk e then (bif (C.Fb t).isSome then (match ds with | .slice _=>s'.rX C e u d a b | _=>.fail) else (s'.wP ds u b).bind fun lb=>s'.append C e u d a lb) else .fail
   | _,_,_,_=>.fail)
  | _,_,_=>.fail):=fun s'=>by
  obtain ⟨dst,op,type,pos,after,guard⟩:=o
  simp only at hop
  subst hop
  rfl
 rw [hop2] at h
 match hargs:args.toList,Qm:argTypes.toList with
 | [x,y],[t,ty]=>
  rw [hargs,Qm,hd] at h
  simp only at h
  have hdt:(C.Fb t).isSome=true:=by
   have:argTypes[0]? = some t:=by rw [<- Array.getElem?_toList,Qm];rfl
   rw [this] at ht
   exact ht
  cases hx:s.ev x with
  | wN _=>rw [hx] at h;cases h
  | one cx=>cases cx with
   | agg _=>rw [hx] at h;cases h
   | cell a=>
    cases hy:s.ev y with
    | wN _=>rw [hx,hy] at h;cases h
    | one cy=>cases cy with
     | agg _=>rw [hx,hy] at h;cases h
     | cell b=>
      rw [hx,hy] at h
      cases he:C.elem t with
      | none=>rw [he] at h;cases h
      | some eu=>
       obtain ⟨e,u⟩:=eu
       cases hu:C.P.underlying ty with
       | none=>rw [he,hu] at h;cases h
       | some ds=>
        rw [he,hu] at h
        simp only [hdt,cond_true] at h
        split at h
        ·rename_i hby
         split at h
         ·rename_i e'
          have hxa:∀ i ∈ a.ids,∃ r ∈ readsOf ops o,i ∈ (s.env r).ids:=fun i hi=>by
           obtain ⟨r,hr,h2⟩:=vL (s:=s) (x:=x) (i:=i) (by rw [hx];simpa [Slot.ids,av.ids,av.cells] using hi)
           exact ⟨r,hrd x (by rw [hargs];simp) r hr,h2⟩
          have hyb:∀ i ∈ b.ids,∃ r ∈ readsOf ops o,i ∈ (s.env r).ids:=fun i hi=>by
           obtain ⟨r,hr,h2⟩:=vL (s:=s) (x:=y) (i:=i) (by rw [hy];simpa [Slot.ids,av.ids,av.cells] using hi)
           exact ⟨r,hrd y (by rw [hargs];simp) r hr,h2⟩
          have again:∀ z v,z ∉ readsOf ops o->stepT C ops j o ⟨s.n,upd s.env z v,s.aj⟩=St.rX ⟨s.n,upd s.env z v,s.aj⟩ C e u d a b:=fun z v hz=>by
           rw [run,hop2]
           rw [hargs,Qm,hd]
           simp only
           rw [Pp (s:=s) (y:=x) fun r hr e=>hz (by rw [<- e];exact hrd x (by rw [hargs];simp) r hr),Pp (s:=s) (y:=y) fun r hr e=>hz (by rw [<- e];exact hrd y (by rw [hargs];simp) r hr),hx,hy,he,hu]
           simp only [hdt,cond_true,if_pos hby]
          clear hop2 run
          unfold St.rX at h
          cases b <;> simp only at h <;> try (cases h;done)
          case fE id2=>
           cases hs2:s.aj id2 with
           | none=>rw [hs2] at h;cases h
           | some E2=>cases E2 with
            | box _ _=>rw [hs2] at h;cases h
            | arr _ _ _=>rw [hs2] at h;cases h
            | deep v2 lb pin=>cases pin with
             | some _=>rw [hs2] at h;cases h
             | none=>
              rw [hs2] at h
              simp only at h
              cases hcl:bJ (u:=u) lb with
              | none=>rw [hcl] at h;cases h
              | some lb'=>
               rw [hcl] at h
               simp only at h
               have hk2:∀ i ∈ [id2],∃ r ∈ readsOf ops o,i ∈ (s.env r).ids:=fun i hi=>hyb i (by simpa [Cell.ids] using hi)
               cases a <;> simp only at h <;> try (cases h;done)
               case nil=>
                simp only [T.test,T.run] at h
                split at h
                ·rename_i hle
                 simp only [T.run_bind,St.alloc] at h
                 cases hk:(s.drop id2).aj (ak d 0) with
                 | some _=>rw [hk] at h;cases h
                 | none=>
                  rw [hk] at h
                  simp only [T.bK,St.put] at h
                  cases hin:mR d (s.drop id2).n with
                  | false=>rw [hin] at h;cases h
                  | true=>
                   rw [hin] at h
                   simp only [cond_true,T.bK,Option.some.injEq] at h
                   subst h
                   obtain ⟨a1,a2,a3,a4⟩:=Gp (K:=[id2]) (s:=s)
                   refine ⟨[id2],hk2,a1,fun t ht=>(upd_ne _ _ ht).trans (a2 t),fun i hi=>?_,fun i e hi hiK=>?_,fun z v hz hzd hv=>?_,Ol hs2⟩
                   ·have hi:i ∈ (upd (s.drop id2).env d (.cell (.fE (ak d 0))) d).ids:=hi
                    rw [upd_same] at hi
                    have hi:i=ak d 0:=by simpa [Slot.ids,av.ids,av.cells,Cell.ids] using hi
                    subst hi
                    by_cases hK:ak d 0 ∈ [id2]
                    ·exact .inl hK
                    ·cases hs:s.aj (ak d 0) with
                     | none=>exact .inr rfl
                     | some e=>
                      have hh:=a3 _ e hs hK
                      have hk':(s.aJ [id2]).aj (ak d 0)=none:=hk
                      rw [hk'] at hh
                      cases hh
                   ·have hh:=a3 i e hi hiK
                    have hne:i ≠ ak d 0:=fun hq=>by
                     have hk':(s.aJ [id2]).aj (ak d 0)=none:=hk
                     rw [hq,hk'] at hh
                     cases hh
                    exact (upd_ne _ _ hne).trans hh
                   ·rw [again z v hz]
                    unfold St.rX
                    simp only [hs2,hcl,T.test,T.run,if_pos hle]
                    have hdr:=nT (x:=z) (u:=v) (K:=[id2]) (s:=s) (mX hv) hv
                    have hdr:(⟨s.n,upd s.env z v,s.aj⟩:St).drop id2=⟨(s.drop id2).n,upd (s.drop id2).env z v,(s.drop id2).aj⟩:=hdr
                    rw [hdr]
                    simp only [T.run_bind,St.alloc,hk,T.bK,St.put,hin,cond_true]
                    rw [iO _ _ _ hzd]
                ·cases h
               case fE id=>
                split at h
                ·cases h
                rename_i hne
                cases hs1:s.aj id with
                | none=>rw [hs1] at h;cases h
                | some E1=>cases E1 with
                 | box _ _=>rw [hs1] at h;cases h
                 | arr _ _ _=>rw [hs1] at h;cases h
                 | deep v1 l pin=>cases pin with
                  | some _=>rw [hs1] at h;cases h
                  | none=>
                   rw [hs1] at h
                   simp only at h
                   cases Vu:bJ (u:=u) l with
                   | none=>rw [Vu] at h;cases h
                   | some l'=>
                    rw [Vu] at h
                    simp only [T.test,T.run] at h
                    split at h
                    ·rename_i hle
                     simp only [St.put] at h
                     have hnn:((s.drop id2).kill id).n=s.n:=rfl
                     cases hin:mR d s.n with
                     | false=>rw [hnn,hin] at h;cases h
                     | true=>
                      rw [hnn,hin] at h
                      simp only [cond_true,T.bK,Option.some.injEq] at h
                      subst h
                      have hkk:∀ i ∈ [id2,id],∃ r ∈ readsOf ops o,i ∈ (s.env r).ids:=fun i hi=>by
                       rcases List.mem_cons.1 hi with hi | hi
                       ·exact hk2 i (by rw [hi];simp)
                       ·exact hxa i (by simpa [Cell.ids] using hi)
                      refine ⟨[id2,id],hkk,rfl,fun t ht=>upd_ne _ _ ht,fun i hi=>?_,fun i e hi hiK=>?_,fun z v hz hzd hv=>?_,Sz hs1 hs2⟩
                      ·have hi:i ∈ (upd ((s.drop id2).kill id).env d (.cell (.fE id)) d).ids:=hi
                       rw [upd_same] at hi
                       have hi:i=id:=by simpa [Slot.ids,av.ids,av.cells,Cell.ids] using hi
                       exact .inl (by rw [hi];simp)
                      ·have h2:i ≠ id2:=fun e=>hiK (by rw [e];simp)
                       have h3:i ≠ id:=fun e=>hiK (by rw [e];simp)
                       show upd ((s.drop id2).kill id).aj id _ i=_
                       rw [upd_ne _ _ h3]
                       show (upd (s.kill id2).aj id2 none i).map _=_
                       rw [upd_ne _ _ h2]
                       show ((s.aj i).map _).map _=_
                       rw [hi]
                       rfl
                      ·rw [again z v hz]
                       unfold St.rX
                       simp only [hs2,hcl,if_neg hne,hs1,Vu,T.test,T.run,if_pos hle,St.put]
                       have hdr:=nT (x:=z) (u:=v) (K:=[id2]) (s:=s) (mX fun i hi=>hv i (by simp at hi;simp [hi])) (fun i hi=>hv i (by simp at hi;simp [hi]))
                       have hdr:(⟨s.n,upd s.env z v,s.aj⟩:St).drop id2=⟨(s.drop id2).n,upd (s.drop id2).env z v,(s.drop id2).aj⟩:=hdr
                       rw [hdr]
                       have hkl:(fun t=>(upd (s.drop id2).env z v t).kill id)=upd (fun t=>((s.drop id2).env t).kill id) z v:=by
                        funext t
                        by_cases ht:t=z
                        ·subst ht;rw [upd_same,upd_same,Slot.iC (hv id (by simp))]
                        ·rw [upd_ne _ _ ht,upd_ne _ _ ht]
                       simp only [St.kill,hkl]
                       have hin':mR d (s.drop id2).n=true:=hin
                       simp only [hin',cond_true,T.bK]
                       rw [iO _ _ _ hzd]
                       rfl
                    ·cases h
         ·cases h
        ·cases h
 | [],_=>rw [hargs] at h;cases h
 | [_],_=>rw [hargs] at h;cases h
 | _ :: _ :: _ :: _,_=>rw [hargs] at h;cases h
 | [_,_],[]=>rw [hargs,Qm] at h;cases h
 | [_,_],[_]=>rw [hargs,Qm] at h;cases h
 | [_,_],_ :: _ :: _ :: _=>rw [hargs,Qm] at h;cases h
theorem Ba {own:Bool} {key:Nat->Nat}:∀ {t:Ty} {x:t.den} {j:Nat},∀ c ∈ (aA own key t x j).1,∀ i ∈ c.ids,∃ e,(i,e) ∈ (aA own key t x j).2.1:=by
 intro t
 induction t with
 | list t _=>
  intro x j c hc i hi
  cases own with
  | true=>
   simp only [aA,if_true,List.mem_singleton] at hc ⊢
   subst hc
   simp [Cell.ids] at hi
   subst hi
   exact ⟨_,rfl⟩
  | false=>
   simp only [aA,Bool.false_eq_true,if_false,List.mem_singleton] at hc
   subst hc
   simp [Cell.ids] at hi
 | aG t _=>
  intro x j c hc i hi
  cases own with
  | true=>
   simp only [aA,if_true,List.mem_singleton] at hc ⊢
   subst hc
   simp [Cell.ids] at hi
   subst hi
   exact ⟨_,rfl⟩
  | false=>
   simp only [aA,Bool.false_eq_true,if_false,List.mem_singleton] at hc
   subst hc
   simp [Cell.ids] at hi
 | pair a b iha ihb=>
  intro x j c hc i hi
  simp only [aA] at hc ⊢
  generalize hra:aA own key a x.1 j=ra at hc ⊢
  obtain ⟨ca,ea,j2⟩:=ra
  simp only at hc ⊢
  generalize hrb:aA own key b x.2 j2=rb at hc ⊢
  obtain ⟨cb,eb,j3⟩:=rb
  simp only at hc ⊢
  rcases List.mem_append.1 hc with hc | hc
  ·obtain ⟨e,he⟩:=iha (x:=x.1) (j:=j) c (by rw [hra];exact hc) i hi
   rw [hra] at he
   exact ⟨e,List.mem_append_left _ he⟩
  ·obtain ⟨e,he⟩:=ihb (x:=x.2) (j:=j2) c (by rw [hrb];exact hc) i hi
   rw [hrb] at he
   exact ⟨e,List.mem_append_right _ he⟩
 | bool=>intro x j c hc i hi;simp only [aA] at hc;rw [bZ _ _ _ c hc] at hi;cases hi
 | int k=>intro x j c hc i hi;simp only [aA] at hc;rw [bZ _ _ _ c hc] at hi;cases hi
 | str=>intro x j c hc i hi;simp only [aA] at hc;rw [bZ _ _ _ c hc] at hi;cases hi
 | unit=>intro x j c hc i hi;simp only [aA] at hc;rw [bZ _ _ _ c hc] at hi;cases hi
theorem xS:∀ {es:List (Nat × Entry)} {σ σ':Nat->Option Entry},bn σ es=some σ'->∀ i e,(i,e) ∈ es->σ i=none
 | [],σ,σ',h,i,e,he=>by simp at he
 | (k,x) :: r,σ,σ',h,i,e,he=>by
  simp only [bn] at h
  split at h
  ·rename_i hk
   rcases List.mem_cons.1 he with he | he
   ·cases he;exact hk
   ·have:=xS h i e he
    by_cases hik:i=k
    ·subst hik;exact hk
    ·rwa [upd_ne _ _ hik] at this
  ·cases h
theorem drop_take (hg:∀ o ∈ ops,o.guard=none) {j:Nat} {o:Oper} (ho:o ∈ ops) {t:TypeId} {x:Operand} {d:Tmp} (hop:o.op=.load t x) (hd:o.dst=some d) (ht:C.take (some d) t=true) {s s2:St} (h:(stepT C ops j o s).run ah some=some s2) :
  ∃ K,sK C ah ops j o s s2 d K:=by
 have hgo:=hg o ho
 have hrd:∀ r,x=.tmp r->r ∈ readsOf ops o:=fun r hr=>by
  unfold readsOf
  refine List.mem_append_left _ (List.mem_filterMap.2 ⟨.tmp r, ?_,rfl⟩)
  rw [hop,hr]
  simp [Op.operands]
 have run:∀ s':St,stepT C ops j o s'=IU C s' (some d) t (s'.ev x):=fun s'=>by
  unfold stepT
  simp only [hgo,iE hg,cond_false,T.ji]
  obtain ⟨dst,op,type,pos,after,guard⟩:=o
  simp only at hop hd
  subst hop hd
  simp only [jT,ht,cond_true]
 rw [run] at h
 have h0:=h
 unfold IU at h
 split at h
 ·rename_i u id ix d0 hu hs hd0
  cases hd0
  split at h
  ·rename_i hagg
   split at h
   ·rename_i v l0 hse
    split at h
    ·rename_i l hcl
     have hx:∃ r ∈ readsOf ops o,id ∈ (s.env r).ids:=by
      obtain ⟨r,hr,h2⟩:=vL (s:=s) (x:=x) (i:=id) (by rw [hs];simp [Slot.ids,av.ids,av.cells,Cell.ids])
      exact ⟨r,hrd r hr,h2⟩
     obtain ⟨a1,a2,a3,a4⟩:=Gp (K:=[id]) (s:=s)
     have a1:(s.drop id).n=s.n:=a1
     have a2:∀ t,(s.drop id).env t=(s.env t).kills [id]:=a2
     have a3:∀ i e,s.aj i=some e->i ∉ [id]->(s.drop id).aj i=some (e.kills [id]):=a3
     have qy:=Ba (own:=true) (key:=ak d) (t:=u) (x:=l.getD ix u.dflt) (j:=0)
     generalize hrc:aA true (ak d) u (l.getD ix u.dflt) 0=rc at h qy
     obtain ⟨bc,es,jj⟩:=rc
     simp only at h qy
     rw [T.run_bind,jd] at h
     obtain ⟨σ,hσ,h⟩:=Option.bind_eq_some_iff.1 h
     simp only [St.put] at h
     cases hin:mR d (s.drop id).n with
     | false=>rw [hin] at h;cases h
     | true=>
      rw [hin] at h
      simp only [cond_true,T.bK,Option.some.injEq] at h
      subst h
      refine ⟨[id],fun i hi=>by simp at hi;rw [hi];exact hx,a1,fun t ht=>(upd_ne _ _ ht).trans (a2 t),fun i hi=>?_,fun i e hi hiK=>?_,fun z v hz hzd hv=>?_,Ol hse⟩
      ·have hi:i ∈ (upd (s.drop id).env d (.one (.agg bc)) d).ids:=hi
       rw [upd_same] at hi
       obtain ⟨c,hc,hic⟩:∃ c ∈ bc,i ∈ c.ids:=by
        simpa [Slot.ids,av.ids,av.cells] using hi
       obtain ⟨e,he⟩:=qy c hc i hic
       have hn:=xS hσ i e he
       by_cases hK:i ∈ [id]
       ·exact .inl hK
       ·cases hsi:s.aj i with
        | none=>exact .inr rfl
        | some e0=>
         rw [a3 i e0 hsi hK] at hn
         cases hn
      ·exact eB hσ i _ (a3 i e hi hiK)
      ·rw [run,Pp (s:=s) (y:=x) fun r hr e=>hz (by rw [<- e];exact hrd r hr),hs]
       unfold IU
       simp only [hu,hse,hcl,if_pos hagg,hrc]
       have hdr:=nT (x:=z) (u:=v) (K:=[id]) (s:=s) (mX hv) hv
       have hdr:(⟨s.n,upd s.env z v,s.aj⟩:St).drop id=⟨(s.drop id).n,upd (s.drop id).env z v,(s.drop id).aj⟩:=hdr
       rw [hdr,T.run_bind,jd]
       simp only [hσ,Option.bind_some,St.put,hin,cond_true,T.bK]
       rw [iO _ _ _ hzd]
    ·cases h
   ·cases h
  ·cases h
 ·cases h
theorem DU {s:St}:∀ {xs:List Operand} {vs:List av},bg s xs=some vs->∀ c ∈ vs,∀ i ∈ c.ids,∃ t,Operand.tmp t ∈ xs/\i ∈ (s.env t).ids
 | [],vs,h=>by simp [bg] at h;subst h;intro c hc;simp at hc
 | x :: xs,vs,h=>by
  simp only [bg] at h
  cases hx:s.ev x with
  | wN cs=>rw [hx] at h;cases h
  | one v=>
   rw [hx] at h
   cases hr:bg s xs with
   | none=>rw [hr] at h;simp at h
   | some r=>
    rw [hr] at h
    simp at h
    subst h
    intro c hc i hi
    rcases List.mem_cons.1 hc with e | hc
    ·subst e
     obtain ⟨t,ht,h2⟩:=vL (s:=s) (x:=x) (i:=i) (by rw [hx];simpa [Slot.ids] using hi)
     exact ⟨t,by rw [ht];simp,h2⟩
    ·obtain ⟨t,ht,h2⟩:=DU hr c hc i hi
     exact ⟨t,List.mem_cons_of_mem _ ht,h2⟩
theorem SA (hg:∀ o ∈ ops,o.guard=none) {j:Nat} {o:Oper} (ho:o ∈ ops) {f:FuncId} {args:Array Operand} {ats:Array TypeId} {d:Tmp} (hop:o.op=.call ⟨.value (.func f),args,ats⟩) (hd:o.dst=some d) (hc:((C.sig f).lend.isNone && !(C.sig f).io.isEmpty && C.Le.contains f)=true) {s s2:St} (h:(stepT C ops j o s).run ah some=some s2) :
  ∃ K,sK C ah ops j o s s2 d K:=by
 have hgo:=hg o ho
 simp only [Bool.and_eq_true,Bool.not_eq_true'] at hc
 obtain ⟨⟨hl,zo⟩,hin⟩:=hc
 have hl:(C.sig f).lend=none:=by simpa using hl
 have hrd:∀ t,Operand.tmp t ∈ args.toList->t ∈ readsOf ops o:=fun t ht=>by
  unfold readsOf
  refine List.mem_append_left _ (List.mem_filterMap.2 ⟨.tmp t, ?_,rfl⟩)
  rw [hop]
  simp only [Op.operands]
  simp [Call.operands] at ht ⊢
  simp [ht]
 have run:∀ s':St,stepT C ops j o s'=match bg s' args.toList with
   | some vs=>uT C s' o f vs
   | none=>.fail:=fun s'=>by
  unfold stepT
  simp only [hgo,iE hg,cond_false,T.ji]
  obtain ⟨dst,op,type,pos,after,guard⟩:=o
  simp only at hop hd
  subst hop hd
  simp only [jT,St.ev]
  cases bg s' args.toList with
  | none=>rfl
  | some vs=>
   cases Xh:(C.sig f).io with
   | nil=>rw [Xh] at zo;simp at zo
   | cons i r=>simp only [zH,hl,Xh,hin,cond_true]
 rw [run] at h
 cases hvs:bg s args.toList with
 | none=>rw [hvs] at h;cases h
 | some vs=>
  rw [hvs] at h
  simp only at h
  have again:∀ z v,z ∉ readsOf ops o->stepT C ops j o ⟨s.n,upd s.env z v,s.aj⟩=uT C ⟨s.n,upd s.env z v,s.aj⟩ o f vs:=fun z v hz=>by
   rw [run,oN (fun t ht e=>hz (by rw [<- e];exact hrd t ht)),hvs]
  unfold uT at h
  rw [hd] at h
  split at h
  ·rename_i e u d' id k id2 hpar hdd
   cases hdd
   split at h
   ·cases h
   rename_i hne
   split at h
   ·rename_i v1 l v2 lb hs1 hs2
    split at h
    ·rename_i l0 x hc1 hc2
     simp only [T.test,T.run] at h
     split at h
     ·rename_i t1
      split at h
      ·rename_i t2
       split at h
       ·rename_i t3
        simp only [St.put] at h
        have hnn:((s.drop id2).kill id).n=s.n:=rfl
        cases Vv:mR d s.n with
        | false=>rw [hnn,Vv] at h;cases h
        | true=>
         rw [hnn,Vv] at h
         simp only [cond_true,T.bK,Option.some.injEq] at h
         subst h
         have hsub:∀ c ∈ [av.cell (.fE id),av.cell (.int .i64 k),av.cell (.fE id2)],∀ i ∈ c.ids,∃ r ∈ readsOf ops o,i ∈ (s.env r).ids:=fun c hc i hi=>by
          obtain ⟨t,ht,h2⟩:=DU hvs c hc i hi
          exact ⟨t,hrd t ht,h2⟩
         have hkk:∀ i ∈ [id2,id],∃ r ∈ readsOf ops o,i ∈ (s.env r).ids:=fun i hi=>by
          rcases List.mem_cons.1 hi with hi | hi
          ·exact hsub (.cell (.fE id2)) (by simp) i (by rw [hi];simp [av.ids,av.cells,Cell.ids])
          ·exact hsub (.cell (.fE id)) (by simp) i (by simp at hi;rw [hi];simp [av.ids,av.cells,Cell.ids])
         refine ⟨[id2,id],hkk,rfl,fun t ht=>upd_ne _ _ ht,fun i hi=>?_,fun i e hi hiK=>?_,fun z v hz hzd hv=>?_,Sz hs1 hs2⟩
         ·have hi:i ∈ (upd ((s.drop id2).kill id).env d (.cell (.fE id)) d).ids:=hi
          rw [upd_same] at hi
          have hi:i=id:=by simpa [Slot.ids,av.ids,av.cells,Cell.ids] using hi
          exact .inl (by rw [hi];simp)
         ·have h2:i ≠ id2:=fun e=>hiK (by rw [e];simp)
          have h3:i ≠ id:=fun e=>hiK (by rw [e];simp)
          show upd ((s.drop id2).kill id).aj id _ i=_
          rw [upd_ne _ _ h3]
          show (upd (s.kill id2).aj id2 none i).map _=_
          rw [upd_ne _ _ h2]
          show ((s.aj i).map _).map _=_
          rw [hi]
          rfl
         ·rw [again z v hz]
          unfold uT
          rw [hd,hpar]
          simp only [hs1,hs2,hc1,hc2,if_neg hne,T.test,T.run,if_pos t1,if_pos t2,if_pos t3,St.put]
          have hdr:=nT (x:=z) (u:=v) (K:=[id2]) (s:=s) (mX fun i hi=>hv i (by simp at hi;simp [hi])) (fun i hi=>hv i (by simp at hi;simp [hi]))
          have hdr:(⟨s.n,upd s.env z v,s.aj⟩:St).drop id2=⟨(s.drop id2).n,upd (s.drop id2).env z v,(s.drop id2).aj⟩:=hdr
          rw [hdr]
          have hkl:(fun t=>(upd (s.drop id2).env z v t).kill id)=upd (fun t=>((s.drop id2).env t).kill id) z v:=by
           funext t
           by_cases ht:t=z
           ·subst ht;rw [upd_same,upd_same,Slot.iC (hv id (by simp))]
           ·rw [upd_ne _ _ ht,upd_ne _ _ ht]
          simp only [St.kill,hkl]
          have hin':mR d (s.drop id2).n=true:=Vv
          simp only [hin',cond_true,T.bK]
          rw [iO _ _ _ hzd]
          rfl
       ·cases h
      ·cases h
     ·cases h
    ·cases h
   ·cases h
  ·cases h
theorem qc (hg:∀ o ∈ ops,o.guard=none) {j:Nat} {o:Oper} (ho:o ∈ ops) {d:Tmp} (hb:kZ C o=some d) {s s2:St} (h:(stepT C ops j o s).run ah some=some s2):o.dst=some d/\∃ K,sK C ah ops j o s s2 d K:=by
 unfold kZ at hb
 split at hb
 ·rename_i args argTypes d' hop hd
  split at hb
  ·rename_i ht
   cases hb
   exact ⟨hd,drop_append hg ho hop hd ht h⟩
  ·cases hb
 ·rename_i t n parts d' hop hd
  split at hb
  ·rename_i ht
   cases hb
   simp only [Bool.and_eq_true,Bool.not_eq_true'] at ht
   exact ⟨hd,Oo hg ho hop hd ht.1 ht.2 h⟩
  ·cases hb
 ·rename_i t x d' hop hd
  split at hb
  ·rename_i ht
   cases hb
   exact ⟨hd,drop_take hg ho hop hd ht h⟩
  ·cases hb
 ·rename_i f args ats d' hop hd
  split at hb
  ·rename_i ht
   cases hb
   exact ⟨hd,SA hg ho hop hd ht h⟩
  ·cases hb
 ·cases hb
structure Shut (s:St) (P:Nat->Prop):Prop where
 ent:∀ i,P i->∃ e,s.aj i=some e
 box:∀ i t cs,P i->s.aj i=some (.box t cs)->∀ c ∈ cs,∀ j ∈ c.ids,P j
open Classical in
theorem yH {o:Oper} {s s1:St} {P:Nat->Prop} (hP:Shut s P) (hq:aT C o=true) (he:∀ r ∈ readsOf ops o,s1.env r=s.env r) (hr:∀ r ∈ readsOf ops o,∀ i ∈ (s.env r).ids,P i) (hs:∀ i,P i->s1.aj i=s.aj i):aS C o s1=aS C o s:=by
 let s0:St:=⟨s.n,fun t=>if t ∈ readsOf ops o then s.env t else .undef,fun j=>if P j then s.aj j else none⟩
 have hop:∀ t,Operand.tmp t ∈ o.op.operands.toList->t ∈ readsOf ops o:=fun t ht=>by
  unfold readsOf
  exact List.mem_append_left _ (List.mem_filterMap.2 ⟨_,ht,rfl⟩)
 have good:∀ {j e},s0.aj j=some e->P j/\s.aj j=some e:=by
  intro j e h
  have h:(if P j then s.aj j else none)=some e:=h
  split at h
  ·rename_i hg;exact ⟨hg,h⟩
  ·cases h
 have there:∀ i,P i->∃ e,s0.aj i=some e:=fun i hi=>by
  obtain ⟨e,h1⟩:=hP.ent i hi
  exact ⟨e,by show (if P i then s.aj i else none)=some e;rw [if_pos hi,h1]⟩
 have l:Live s0:=by
  refine ⟨fun t id hid=>?_,fun k t cs hk c hc id hid=>?_⟩
  ·have hid:id ∈ (if t ∈ readsOf ops o then s.env t else .undef:Slot).ids:=hid
   split at hid
   ·rename_i ht
    exact there id (hr t ht id hid)
   ·simp [Slot.ids,av.ids,av.cells,Cell.ids] at hid
  ·obtain ⟨h1,h2⟩:=good hk
   exact there id (hP.box k t cs h1 h2 c hc id hid)
 have ext:∀ s':St,(∀ r ∈ readsOf ops o,s'.env r=s.env r)->(∀ i,P i->s'.aj i=s.aj i)->Ext s0 s' o.op.operands.toList:=by
  intro s' h1 h2
  refine ⟨fun id e h=>?_,fun x hx=>?_⟩
  ·obtain ⟨h3,h4⟩:=good h
   rw [h2 id h3]
   exact h4
  ·cases x with
   | tmp t=>
    show s'.env t=if t ∈ readsOf ops o then s.env t else .undef
    rw [if_pos (hop t hx)]
    exact h1 t (hop t hx)
   | global g=>rfl
   | func f=>rfl
   | const v=>rfl
 rw [xM l hq (ext s1 he hs),xM l hq (ext s (fun _ _=>rfl) fun _ _=>rfl)]
theorem Cv (id i:Nat) (p:Bool):∀ (t:Ty) (x:t.den) (o:Nat),∀ c ∈ cellsD id i p t x o,∀ j ∈ c.ids,j=id
 | .list _,_,o,c,hc,j,hj=>by
  simp only [cellsD,List.mem_singleton] at hc
  subst hc
  cases p <;> simp [Cell.ids] at hj
  exact hj
 | .aG _,_,_,c,hc,j,hj=>by
  simp only [cellsD,List.mem_singleton] at hc
  subst hc
  simp [Cell.ids] at hj
 | .pair a b,x,o,c,hc,j,hj=>by
  simp only [cellsD] at hc
  rcases List.mem_append.1 hc with hc | hc
  ·exact Cv id i p a x.1 o c hc j hj
  ·exact Cv id i p b x.2 _ c hc j hj
 | .bool,x,_,c,hc,j,hj=>by simp only [cellsD] at hc;rw [bZ _ _ _ c hc] at hj;cases hj
 | .int k,x,_,c,hc,j,hj=>by simp only [cellsD] at hc;rw [bZ _ _ _ c hc] at hj;cases hj
 | .str,x,_,c,hc,j,hj=>by simp only [cellsD] at hc;rw [bZ _ _ _ c hc] at hj;cases hj
 | .unit,x,_,c,hc,j,hj=>by simp [cellsD] at hc
theorem Oq {n:Nat} {agg:Bool} {s:St} {p:Cell} {v:av} {P:Nat->Prop} (hP:Shut s P) (hp:∀ i ∈ p.ids,P i) (h:(s.gu n agg p).run ah some=some v):∀ i ∈ v.ids,P i:=by
 have fin:∀ {cs:List Cell},(∀ c ∈ cs,∀ i ∈ c.ids,P i)->∀ i ∈ (aP agg cs).ids,P i:=by
  intro cs hc i hi
  obtain ⟨c,h1,h2⟩:=iq hi
  exact hc c h1 i h2
 have sub:∀ {cs:List Cell} {a b:Nat},(∀ c ∈ cs,∀ i ∈ c.ids,P i)->∀ c ∈ (cs.drop a).take b,∀ i ∈ c.ids,P i:=fun hc c hx=>hc c (List.mem_of_mem_drop (List.mem_of_mem_take hx))
 have none_:∀ {cs:List Cell},(∀ c ∈ cs,c.ids=[])->∀ c ∈ cs,∀ i ∈ c.ids,P i:=fun h c hc i hi=>by rw [h c hc] at hi;cases hi
 cases p <;> simp only [St.gu] at h <;> try (cases h;done)
 case ptr id off=>
  split at h
  ·rename_i t cs hs
   split at h
   ·cases h
    exact fin (sub (hP.box id t cs (hp id (by simp [Cell.ids])) hs))
   ·cases h
  ·cases h
 case ko id i off=>
  split at h
  ·split at h
   ·cases h
    exact fin (sub (none_ (bZ _ _ _)))
   ·cases h
  ·cases h
 case nH fr t x off=>
  split at h
  ·cases h
   exact fin (sub (none_ (bZ _ _ _)))
  ·cases h
 case kJ id i off=>
  split at h
  ·split at h
   ·cases h
    exact fin (sub fun c hc j hj=>by rw [Cv id i _ _ _ _ c hc j hj];exact hp id (by simp [Cell.ids]))
   ·cases h
  ·cases h
theorem Bb {o:Oper} {s:St} {P:Nat->Prop} (hP:Shut s P) (hl:wS C o=true) (hr:∀ r ∈ readsOf ops o,∀ i ∈ (s.env r).ids,P i) {v:Slot} {es:List (Nat × Entry)} (h:(aS C o s).run ah some=some (v,es)):es=[]/\∀ i ∈ v.ids,P i:=by
 have rd:∀ x ∈ o.op.operands.toList,∀ i ∈ (s.ev x).ids,P i:=by
  intro x hx i hi
  obtain ⟨t,rfl,ht⟩:=vL hi
  exact hr t (by unfold readsOf;exact List.mem_append_left _ (List.mem_filterMap.2 ⟨_,hx,rfl⟩)) i ht
 have Xi:∀ i ∈ (Slot.cell .nil).ids,P i:=fun i hi=>by simp [Slot.ids,av.ids,av.cells,Cell.ids] at hi
 obtain ⟨dst,op,type,pos,after,guard⟩:=o
 cases op <;> simp only [wS] at hl <;> try (cases hl;done)
 case move x=>
  cases x with
  | tmp z=>
   simp only [aS] at h
   have hz:∀ i ∈ (s.ev (.tmp z)).ids,P i:=rd (.tmp z) (by simp [Op.operands])
   split at h
   ·split at h
    ·cases h;exact ⟨rfl,Xi⟩
    ·rename_i hd
     split at h
     ·rename_i he
      rw [hd,he] at hl
      cases hl
     ·cases h;exact ⟨rfl,Xi⟩
   ·cases h
    exact ⟨rfl,hz⟩
  | _=>cases hl
 case load t x=>
  simp only [aS] at h
  split at h
  ·rename_i n agg p hsh hp
   rw [T.run_bind] at h
   obtain ⟨u,h1,h⟩:=T.aD h
   cases h
   refine ⟨rfl,fun i hi=>?_⟩
   refine Oq hP (fun j hj=>?_) h1 i hi
   exact rd x (by simp [Op.operands]) j (by rw [hp];simpa [Slot.ids,av.ids,av.cells] using hj)
  ·cases h
 case nilCheck x=>
  have hx:∀ i ∈ (s.ev x).ids,P i:=rd x (by simp [Op.operands])
  simp only [aS] at h
  split at h <;> first
   | (cases h;done)
   | (rename_i hq;cases h;exact ⟨rfl,fun i hi=>hx i (by rw [hq];exact hi)⟩)
 case fieldAddr t x k=>
  have hx:∀ i ∈ (s.ev x).ids,P i:=rd x (by simp [Op.operands])
  simp only [aS] at h
  split at h <;> first
   | (cases h;done)
   | (rename_i hq;cases h;refine ⟨rfl,fun i hi=>hx i ?_⟩;rw [hq];first | (simp [Slot.ids,av.ids,av.cells,Cell.ids] at hi;done) | simpa [Slot.ids,av.ids,av.cells,Cell.ids] using hi)
 case slice t x lo hi m=>
  cases m with
  | some _=>cases hl
  | none=>
   have hx:∀ i ∈ (s.ev x).ids,P i:=rd x (by simp [Op.operands])
   simp only [aS] at h
   split at h
   ·rw [T.run_bind] at h
    obtain ⟨a,_,h⟩:=T.aD h
    rw [T.run_bind] at h
    obtain ⟨b,_,h⟩:=T.aD h
    rw [T.run_bind] at h
    obtain ⟨c,h1,h⟩:=T.aD h
    cases h
    refine ⟨rfl,fun i hi=>?_⟩
    unfold wQ at h1
    rw [T.run_bind] at h1
    obtain ⟨y,_,h1⟩:=T.aD h1
    cases h1
    simp [Slot.ids,av.ids,av.cells,Cell.ids] at hi
   ·rename_i e c hu hq
    split at h
    ·rw [T.run_bind] at h
     obtain ⟨a,_,h⟩:=T.aD h
     rw [T.run_bind] at h
     obtain ⟨b,_,h⟩:=T.aD h
     rw [T.run_bind] at h
     obtain ⟨y,h1,h⟩:=T.aD h
     cases h
     refine ⟨rfl,fun i hi=>hx i ?_⟩
     rw [hq]
     cases c <;> simp only [jg] at h1 <;> try (cases h1;done)
     case nil=>
      rw [T.run_bind] at h1
      obtain ⟨y,_,h1⟩:=T.aD h1
      cases h1
      simp [Slot.ids,av.ids,av.cells,Cell.ids] at hi
     case list fr t l=>
      split at h1
      ·rw [T.run_bind] at h1
       obtain ⟨y,_,h1⟩:=T.aD h1
       cases h1
       simp [Slot.ids,av.ids,av.cells,Cell.ids] at hi
      ·cases h1
     case ref id=>
      split at h1
      ·split at h1
       ·rw [T.run_bind] at h1
        obtain ⟨y,_,h1⟩:=T.aD h1
        cases h1
        simpa [Slot.ids,av.ids,av.cells,Cell.ids] using hi
       ·cases h1
      ·cases h1
     case sub id off n=>
      split at h1
      ·split at h1
       ·rw [T.run_bind] at h1
        obtain ⟨y,_,h1⟩:=T.aD h1
        cases h1
        simpa [Slot.ids,av.ids,av.cells,Cell.ids] using hi
       ·cases h1
      ·cases h1
    ·cases h
   ·cases h
theorem TV {o:Oper} {s:St} {KS:List Tmp} {P:Nat->Prop} (hq:aT C o=true) (hk:OU ops KS C o=true) (ZN:∀ r ∈ KS,∀ i ∈ (s.env r).ids,¬ P i) {v:Slot} {es:List (Nat × Entry)} (h:(aS C o s).run ah some=some (v,es)):∀ i ∈ v.ids,¬ P i\/∃ e,(i,e) ∈ es:=by
 have Yx:∀ x ∈ o.op.operands.toList,∀ i ∈ (s.ev x).ids,∃ r ∈ readsOf ops o,i ∈ (s.env r).ids:=by
  intro x hx i hi
  obtain ⟨t,rfl,ht⟩:=vL hi
  exact ⟨t,by unfold readsOf;exact List.mem_append_left _ (List.mem_filterMap.2 ⟨_,hx,rfl⟩),ht⟩
 obtain ⟨dst,op,type,pos,after,guard⟩:=o
 cases op <;> simp only [OU] at hk <;> try (cases hk;done)
 case indexAddr t x ix=>
  have hx:∀ i ∈ (s.ev x).ids,¬ P i:=fun i hi=>by
   obtain ⟨r,hr,h2⟩:=Yx x (by simp [Op.operands]) i hi
   exact ZN r (mK hk r hr) i h2
  simp only [aS] at h
  rw [T.run_bind] at h
  obtain ⟨⟨k,n⟩,_,h⟩:=T.aD h
  simp only at h
  split at h
  ·rename_i e u c he hq
   rw [T.run_bind] at h
   obtain ⟨y,h1,h⟩:=T.aD h
   cases h
   intro i hi
   refine .inl (hx i ?_)
   rw [hq]
   cases c <;> simp only [jG] at h1 <;> try (cases h1;done)
   case list fr t l=>
    split at h1
    ·simp only [T.test,T.run] at h1
     split at h1
     ·split at h1
      ·cases h1
       simp [Slot.ids,av.ids,av.cells,Cell.ids] at hi
      ·cases h1
     ·cases h1
    ·cases h1
   case ref id=>
    split at h1
    ·split at h1
     ·simp only [T.test,T.run] at h1
      split at h1
      ·split at h1
       ·cases h1
        simpa [Slot.ids,av.ids,av.cells,Cell.ids] using hi
       ·cases h1
      ·cases h1
     ·cases h1
    ·cases h1
   case sub id off n=>
    split at h1
    ·split at h1
     ·simp only [T.test,T.run] at h1
      split at h1
      ·split at h1
       ·cases h1
        simpa [Slot.ids,av.ids,av.cells,Cell.ids] using hi
       ·cases h1
      ·cases h1
     ·cases h1
    ·cases h1
   case fE id=>
    split at h1
    ·split at h1
     ·simp only [T.test,T.run] at h1
      split at h1
      ·split at h1
       ·cases h1
        simpa [Slot.ids,av.ids,av.cells,Cell.ids] using hi
       ·cases h1
      ·cases h1
     ·cases h1
    ·cases h1
  ·cases h
 case call cc=>
  obtain ⟨g,args,ats⟩:=cc
  cases g <;> try (cases hk;done)
  rename_i g
  cases g <;> try (cases hk;done)
  rename_i f
  obtain ⟨d,rfl⟩:∃ d,dst=some d:=Option.isSome_iff_exists.1 (by simp only [aT,Bool.and_eq_true] at hq;exact hq.1)
  simp only [qo] at hk
  simp only [aS,St.ev] at h
  cases hvs:bg s args.toList with
  | none=>rw [hvs] at h;cases h
  | some vs=>
   rw [hvs] at h
   simp only at h
   unfold Ar at h
   split at h
   ·cases h
   split at h
   ·unfold qZ at h
    cases hfn:C.P.funcs[f]? with
    | none=>rw [hfn] at hk;cases hk
    | some fn=>
     rw [hfn] at hk h
     simp only [Bool.and_eq_true] at hk
     simp only at h
     obtain ⟨h1,hrt⟩:=hk
     split at h
     ·rename_i args' pK rt _ _ hr
      rw [hr] at hrt
      split at h
      ·cases h
      ·simp only [T.run] at h
       obtain ⟨r,_,h⟩:=Option.bind_eq_some_iff.1 h
       have h:some (fM (C.sig f).own (Nat.beq fn.resultTypes.size 1) (ak d) rt r)=some (v,es):=h
       rw [h1] at h
       simp only [fM,if_true,Option.some.injEq] at h
       have hv:v=.one (aP rt.isAgg (aA (C.sig f).own (ak d) rt r 0).1):=by rw [<- (Prod.mk.inj h).1]
       have hes:es=(aA (C.sig f).own (ak d) rt r 0).2.1:=by rw [<- (Prod.mk.inj h).2]
       have key:(rt.plain=true\/(∃ t,rt=.list t)\/∃ t,rt=.aG t):=by
        cases rt <;> first | exact .inl hrt | exact .inr (.inl ⟨_,rfl⟩) | exact .inr (.inr ⟨_,rfl⟩)
       rcases key with hp | ⟨t,rfl⟩ | ⟨t,rfl⟩
       ·obtain ⟨k1,k2⟩:=kF (own:=(C.sig f).own) (key:=ak d) (x:=r) (j:=0) hp
        intro i hi
        rw [hv] at hi
        obtain ⟨c,hc,hic⟩:=iq hi
        rw [k2 c hc] at hic
        simp at hic
       ·simp only [aA] at hv hes
        cases hown:(C.sig f).own with
        | true=>
         rw [hown] at hv hes
         simp only [if_true] at hv hes
         subst hv hes
         exact fun i hi=>.inr ⟨.arr t r .open,by
          simp [Slot.ids,Ty.isAgg,aP,av.ids,av.cells,Cell.ids] at hi
          subst hi
          exact List.mem_singleton.2 rfl⟩
        | false=>
         rw [hown] at hv hes
         simp only [Bool.false_eq_true,if_false] at hv hes
         subst hv hes
         exact fun i hi=>by simp [Slot.ids,Ty.isAgg,aP,av.ids,av.cells,Cell.ids] at hi
       ·simp only [aA] at hv hes
        cases hown:(C.sig f).own with
        | true=>
         rw [hown] at hv hes
         simp only [if_true] at hv hes
         subst hv hes
         exact fun i hi=>.inr ⟨.deep t r none,by
          simp [Slot.ids,Ty.isAgg,aP,av.ids,av.cells,Cell.ids] at hi
          subst hi
          exact List.mem_singleton.2 rfl⟩
        | false=>
         rw [hown] at hv hes
         simp only [Bool.false_eq_true,if_false] at hv hes
         subst hv hes
         exact fun i hi=>by simp [Slot.ids,Ty.isAgg,aP,av.ids,av.cells,Cell.ids] at hi
     ·cases h
   ·cases h
structure KE (D:Dk) (s0 s:St):Prop where
 shut:Shut s fun i=>i ∈ D.P
 look:∀ t,(t ∈ D.LS\/t ∈ D.Z)->∀ i ∈ (s.env t).ids,i ∈ D.P
 keep:∀ t ∈ D.KS,∀ i ∈ (s.env t).ids,i ∉ D.P
variable {D:Dk} {s0:St}
theorem sK.entry {j:Nat} {o:Oper} {s s2:St} {d:Tmp} {K:List Nat} (r:sK C ah ops j o s s2 d K) (I:KE D s0 s) (hs:∀ t ∈ readsOf ops o,t ∈ D.KS):(∀ i ∈ K,i ∉ D.P)/\∀ i,i ∈ D.P->s2.aj i=s.aj i:=by
 have hK:∀ i ∈ K,i ∉ D.P:=fun i hi=>by
  obtain ⟨t,ht,h⟩:=r.sub i hi
  exact I.keep t (hs t ht) i h
 refine ⟨hK,fun i hi=>?_⟩
 obtain ⟨e,he⟩:=I.shut.ent i hi
 rw [he,r.aj i e he (fun h=>hK i h hi),Jw fun t cs hh c hc id hid hcc=>hK id hid (I.shut.box i t cs hi (by rw [he,hh]) c hc id hcc)]
theorem Shut.same {s s2:St} {P:Nat->Prop} (h:Shut s P) (hs:∀ i,P i->s2.aj i=s.aj i):Shut s2 P:=
 ⟨fun i hi=>by rw [hs i hi];exact h.ent i hi,fun i t cs hi hb=>h.box i t cs hi (by rw [<- hs i hi];exact hb)⟩
theorem Qn (hg:∀ o ∈ ops,o.guard=none) {j:Nat} {o:Oper} (ho:o ∈ ops) {d:Tmp} (hb:kZ C o=some d) (hs:∀ t ∈ readsOf ops o,t ∈ D.KS) (hL:d ∉ D.LS) (hZ:d ∉ D.Z) {s s2:St} (I:KE D s0 s) (h:(stepT C ops j o s).run ah some=some s2):KE D s0 s2:=by
 obtain ⟨hd,K,r⟩:=qc hg ho hb h
 obtain ⟨hK,hP⟩:=r.entry I hs
 refine ⟨I.shut.same hP,fun t ht i hi=>?_,fun t ht i hi=>?_⟩
 ·have hne:t ≠ d:=fun e=>by subst e;exact ht.elim hL hZ
  rw [r.env t hne] at hi
  exact I.look t ht i (yG i hi)
 ·by_cases hne:t=d
  ·subst hne
   rcases r.dst i hi with h1 | h1
   ·exact hK i h1
   ·intro hp
    obtain ⟨e,he⟩:=I.shut.ent i hp
    rw [h1] at he
    cases he
  ·rw [r.env t hne] at hi
   exact I.keep t ht i (yG i hi)
theorem mM (hg:∀ o ∈ ops,o.guard=none) {j:Nat} {o:Oper} (ho:o ∈ ops) (hq:aT C o=true) {s s2:St} (h:(stepT C ops j o s).run ah some=some s2) :
  ∃ x v es σ,o.dst=some x/\(aS C o s).run ah some=some (v,es)/\bn s.aj es=some σ/\mR x s.n=true/\s2=⟨s.n,upd s.env x v,σ⟩:=by
 obtain ⟨x,hx⟩:∃ d,o.dst=some d:=Option.isSome_iff_exists.1 (by simp only [aT,Bool.and_eq_true] at hq;exact hq.1)
 rw [fI hq,hx,T.run_bind,jy hg ho] at h
 obtain ⟨⟨v,es⟩,hv,h⟩:=T.aD h
 rw [aX] at h
 obtain ⟨σ,hσ,h⟩:=Option.bind_eq_some_iff.1 h
 cases hb:mR x s.n with
 | false=>rw [hb] at h;cases h
 | true=>
  rw [hb] at h
  simp only [cond_true,Option.some.injEq] at h
  exact ⟨x,v,es,σ,hx,hv,hσ,hb,h.symm⟩
theorem oO (hg:∀ o ∈ ops,o.guard=none) {j:Nat} {o:Oper} (ho:o ∈ ops) (hq:aT C o=true) {s:St} {x:Tmp} {v:Slot} (hx:o.dst=some x) (hv:(aS C o s).run ah some=some (v,[])) (hb:mR x s.n=true) :
  (stepT C ops j o s).run ah some=some ⟨s.n,upd s.env x v,s.aj⟩:=by
 rw [fI hq,hx,T.run_bind,jy hg ho,T.lu hv,aX]
 simp only [bn,Option.bind_some,hb,cond_true]
theorem Ot (hg:∀ o ∈ ops,o.guard=none) {j:Nat} {o:Oper} (ho:o ∈ ops) (hq:aT C o=true) {x:Tmp} (hx:o.dst=some x)
  (hc:(x ∈ D.LS/\wS C o=true/\(∀ r ∈ readsOf ops o,r ∈ D.LS\/r ∈ D.Z)/\x ∉ D.KS)\/(x ∉ D.LS/\x ∉ D.Z/\(x ∉ D.KS\/OU ops D.KS C o=true)))
  {s s2:St} (I:KE D s0 s) (h:(stepT C ops j o s).run ah some=some s2):KE D s0 s2:=by
 obtain ⟨x',v,es,σ,hx',hv,hσ,_,rfl⟩:=mM hg ho hq h
 rw [hx] at hx'
 cases hx'
 have hP:∀ i,i ∈ D.P->σ i=s.aj i:=fun i hi=>by
  obtain ⟨e,he⟩:=I.shut.ent i hi
  rw [he]
  exact eB hσ i e he
 refine ⟨I.shut.same hP,fun t ht i hi=>?_,fun t ht i hi=>?_⟩
 ·have hi:i ∈ (upd s.env x v t).ids:=hi
  by_cases htx:t=x
  ·subst htx
   rw [upd_same] at hi
   rcases hc with ⟨h1,h2,h3,h4⟩ | ⟨h1,h2,h3⟩
   ·exact (Bb I.shut h2 (fun r hr=>I.look r (h3 r hr)) hv).2 i hi
   ·exact (ht.elim h1 h2).elim
  ·rw [upd_ne _ _ htx] at hi
   exact I.look t ht i hi
 ·have hi:i ∈ (upd s.env x v t).ids:=hi
  by_cases htx:t=x
  ·subst htx
   rw [upd_same] at hi
   rcases hc with ⟨h1,h2,h3,h4⟩ | ⟨h1,h2,h3⟩
   ·exact absurd ht h4
   ·rcases h3 with h3 | h3
    ·exact absurd ht h3
    ·rcases TV hq h3 I.keep hv i hi with h5 | ⟨e,h5⟩
     ·exact h5
     ·intro hp
      obtain ⟨e',he'⟩:=I.shut.ent i hp
      rw [xS hσ i e h5] at he'
      cases he'
  ·rw [upd_ne _ _ htx] at hi
   exact I.keep t ht i hi
theorem Jy {a b:Oper} (h:BU C ops D a b=true):∃ x d,a.dst=some x/\kZ C b=some d/\aT C a=true/\wS C a=true/\x ∈ D.LS/\(∀ r ∈ readsOf ops a,r ∈ D.LS\/r ∈ D.Z)/\(∀ r ∈ readsOf ops b,r ∈ D.KS)/\x ∉ readsOf ops b/\x ≠ d/\d ∉ readsOf ops a:=by
 unfold BU at h
 split at h
 ·rename_i x d hx hd
  simp only [Bool.and_eq_true,Bool.not_eq_true'] at h
  obtain ⟨⟨⟨⟨⟨⟨⟨h1,h2⟩,h3⟩,h4⟩,h5⟩,h6⟩,h7⟩,h8⟩:=h
  refine ⟨x,d,hx,hd,h1,h2,by simpa using h3,fun r hr=>?_,mK h5,by simpa using h6,fun e=>?_,by simpa using h8⟩
  ·have:=List.all_eq_true.1 h4 r hr
   simpa using this
  ·subst e
   simp at h7
 ·cases h
theorem Gr (hg:∀ o ∈ ops,o.guard=none) {i j:Nat} {p o:Oper} (hp:p ∈ ops) (ho:o ∈ ops) {s s1 s2:St} (I:KE D s0 s) (hc:BU C ops D p o=true)
  (h1:(stepT C ops i p s).run ah some=some s1) (h2:(stepT C ops j o s1).run ah some=some s2) :
  ∃ s',(stepT C ops j o s).run ah some=some s'/\(stepT C ops i p s').run ah some=some s2:=by
 obtain ⟨x,d,hx,hb,hq,hl,XN,Ux,hro,hxo,hxd,hdp⟩:=Jy hc
 obtain ⟨x',v,es,σ,hx',hv,hσ,hin,rfl⟩:=mM hg hp hq h1
 rw [hx] at hx'
 cases hx'
 obtain ⟨he,Xj⟩:=Bb I.shut hl (fun r hr=>I.look r (Ux r hr)) hv
 subst he
 simp only [bn,Option.some.injEq] at hσ
 subst hσ
 obtain ⟨hd,K,r⟩:=qc hg ho hb h2
 have hK:∀ k ∈ K,k ∉ D.P:=fun k hk=>by
  obtain ⟨t,ht,h⟩:=r.sub k hk
  have h:k ∈ (upd s.env x v t).ids:=h
  have htx:t ≠ x:=fun e=>hxo (by rw [<- e];exact ht)
  rw [upd_ne _ _ htx] at h
  exact I.keep t (hro t ht) k h
 have hup:(stepT C ops j o ⟨s.n,upd (upd s.env x v) x (s.env x),s.aj⟩).run ah some=some ⟨s2.n,upd s2.env x (s.env x),s2.aj⟩:=r.up x (s.env x) hxo hxd (fun k hk h=>hK k hk (I.look x (.inl XN) k h))
 have e0:(⟨s.n,upd (upd s.env x v) x (s.env x),s.aj⟩:St)=s:=by
  have:upd (upd s.env x v) x (s.env x)=s.env:=by
   rw [vH]
   funext t
   by_cases ht:t=x
   ·subst ht;exact upd_same _ _ _
   ·exact upd_ne _ _ ht
  rw [this]
 rw [e0] at hup
 refine ⟨_,hup, ?_⟩
 have lK:∀ k,k ∈ D.P->s2.aj k=s.aj k:=fun k hk=>by
  obtain ⟨e,he⟩:=I.shut.ent k hk
  rw [he,r.aj k e he (fun h=>hK k h hk),Jw fun t cs hh c hc id hid hcc=>hK id hid (I.shut.box k t cs hk (by rw [he,hh]) c hc id hcc)]
 have zS:∀ t,t ∈ readsOf ops p->upd s2.env x (s.env x) t=s.env t:=fun t ht=>by
  by_cases htx:t=x
  ·subst htx;exact upd_same _ _ _
  ·have htd:t ≠ d:=fun e=>hdp (e ▸ ht)
   rw [upd_ne _ _ htx,r.env t htd]
   show (upd s.env x v t).kills K=_
   rw [upd_ne _ _ htx]
   exact mX fun k hk h=>hK k hk (I.look t (Ux t ht) k h)
 have hv':(aS C p ⟨s2.n,upd s2.env x (s.env x),s2.aj⟩).run ah some=some (v,[]):=by
  rw [yH (ops:=ops) (s:=s) (s1:=⟨s2.n,upd s2.env x (s.env x),s2.aj⟩) I.shut hq zS (fun t ht=>I.look t (Ux t ht)) lK]
  exact hv
 rw [oO hg hp hq hx hv' (by show mR x s2.n=true;rw [r.n];exact hin)]
 have e1:upd (upd s2.env x (s.env x)) x v=s2.env:=by
  rw [vH]
  funext t
  by_cases ht:t=x
  ·subst ht
   rw [upd_same,r.env t hxd]
   show v=(upd s.env t v t).kills K
   rw [upd_same]
   exact (mX fun k hk h=>hK k hk (Xj k h)).symm
  ·exact upd_ne _ _ ht
 show some (⟨s2.n,upd (upd s2.env x (s.env x)) x v,s2.aj⟩:St)=some s2
 rw [e1]
theorem Gs (hg:∀ o ∈ ops,o.guard=none) {i j:Nat} {p o:Oper} (hp:p ∈ ops) (ho:o ∈ ops) {s s1 s2:St} (I:KE D s0 s) (hc:BU C ops D o p=true)
  (h1:(stepT C ops i p s).run ah some=some s1) (h2:(stepT C ops j o s1).run ah some=some s2) :
  ∃ s',(stepT C ops j o s).run ah some=some s'/\(stepT C ops i p s').run ah some=some s2:=by
 obtain ⟨x,d,hx,hb,hq,hl,XN,hro,Ux,hxp,hxd,hdo⟩:=Jy hc
 obtain ⟨hd,K,r⟩:=qc hg hp hb h1
 obtain ⟨hK,lK⟩:=r.entry I Ux
 have zS:∀ t,t ∈ readsOf ops o->s1.env t=s.env t:=fun t ht=>by
  have htd:t ≠ d:=fun e=>hdo (e ▸ ht)
  rw [r.env t htd]
  exact mX fun k hk h=>hK k hk (I.look t (hro t ht) k h)
 obtain ⟨x',v,es,σ,hx',hv,hσ,hin,rfl⟩:=mM hg ho hq h2
 rw [hx] at hx'
 cases hx'
 have hv:(aS C o s).run ah some=some (v,es):=by
  rw [<- yH (ops:=ops) I.shut hq zS (fun t ht=>I.look t (hro t ht)) lK]
  exact hv
 obtain ⟨he,Xj⟩:=Bb I.shut hl (fun t ht=>I.look t (hro t ht)) hv
 subst he
 simp only [bn,Option.some.injEq] at hσ
 subst hσ
 refine ⟨_,oO hg ho hq hx hv (by rw [<- r.n];exact hin), ?_⟩
 exact r.up x v hxp hxd fun k hk h=>hK k hk (Xj k h)
end
def Xk {C:aZ} {ah:FuncId->(t:Ty)->List Arg->Option t.den} (ops:Array Oper) (D:Dk) (s0:St) (hg:∀ o ∈ ops.toList,o.guard=none) (tail:Nat->Bool)
  (xO:∀ {i j:Nat},tail i=true->i<=j->tail j=true) (vI:∀ {j:Nat} {o:Oper},tail j=true->ops[j]? = some o->∀ k,k<j->∃ m,(fO ops.toList [])[j]? = some m/\m.testBit k=true)
  (hq:∀ (j:Nat) (o:Oper),ops[j]? = some o->tail j=false->Ns C ops.toList D o=true):Gh C ah ops:=
 have mem:∀ {i:Nat} {o:Oper},ops[i]? = some o->o ∈ ops.toList:=fun h=>Array.mem_toList_iff.2 (Array.mem_of_getElem? h)
 ⟨Rh C ops.toList D,KE D s0,tail,xO,(fun h1 h2 k hk=>.inl (vI h1 h2 k hk)),fun {s s1 o j} hI htl ho h=>by
  have hk:=hq j o ho htl
  unfold Ns at hk
  split at hk
  ·cases hk
  ·rename_i x hx
   split at hk
   ·rename_i d hb
    simp only [Bool.and_eq_true,Bool.not_eq_true'] at hk
    have hd:=(qc hg (mem ho) hb h).1
    rw [hx] at hd
    cases hd
    exact Qn hg (mem ho) hb (mK hk.1.1) (by simpa using hk.1.2) (by simpa using hk.2) hI h
   ·simp only [Bool.and_eq_true] at hk
    refine Ot hg (mem ho) hk.1 hx ?_ hI h
    cases hL:D.LS.contains x with
    | true=>
     rw [hL] at hk
     simp only [cond_true,Bool.and_eq_true,Bool.not_eq_true'] at hk
     refine .inl ⟨by simpa using hL,hk.2.1.1,fun r hr=>?_,by simpa using hk.2.2⟩
     have:=List.all_eq_true.1 hk.2.1.2 r hr
     simpa using this
    | false=>
     rw [hL] at hk
     simp only [cond_false,Bool.and_eq_true,Bool.not_eq_true',Bool.or_eq_true] at hk
     refine .inr ⟨by simpa using hL,by simpa using hk.2.1, ?_⟩
     rcases hk.2.2 with h3 | h3
     ·exact .inl (by simpa using h3)
     ·exact .inr h3,fun {i j p o s s1 s2} l hI hp ho hcm h1 h2=>by
  unfold Rh at hcm
  simp only [Bool.or_eq_true] at hcm
  rcases hcm with (hcm | hcm) | hcm
  ·exact nS l hcm h1 h2
  ·exact Gr hg (mem hp) (mem ho) hI hcm h1 h2
  ·exact Gs hg (mem hp) (mem ho) hI hcm h1 h2⟩
theorem Ou {D:Dk} {s:St} (h:Nr D s=true):KE D s s:=by
 unfold Nr at h
 simp only [Bool.and_eq_true] at h
 obtain ⟨⟨⟨h1,h2⟩,h3⟩,h4⟩:=h
 refine ⟨⟨fun i hi=>?_,fun i t cs hi hs c hc j hj=>?_⟩,fun t ht i hi=>?_,fun t ht i hi=>?_⟩
 ·have:=List.all_eq_true.1 h1 i hi
  split at this
  ·rename_i hs;exact ⟨_,hs⟩
  ·rename_i hs;exact ⟨_,hs⟩
  ·cases this
 ·have:=List.all_eq_true.1 h1 i hi
  rw [hs] at this
  exact mK (List.all_eq_true.1 this c hc) j hj
 ·rcases ht with ht | ht
  ·exact mK (List.all_eq_true.1 h2 t ht) i hi
  ·exact mK (List.all_eq_true.1 h3 t ht) i hi
 ·exact vJ (List.all_eq_true.1 h4 t ht) i hi
end Go.Flat
