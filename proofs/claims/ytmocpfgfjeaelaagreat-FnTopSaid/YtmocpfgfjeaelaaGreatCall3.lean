/- The operation that calls. No condition. -/
import Derived.Test.YtmocpfgfjeaelaaGreatBox
set_option linter.unusedVariables false
set_option linter.unusedSimpArgs false
namespace Go.Flat
theorem ES {C:dh} {F0:lS} {A G Gc:Nat->Prop} {s:St} {a:Act} {w:World} {pl:Nat->Option Pl} (i:Inv F0 G s a w pl) (KM:∀ b,G b->Gc b) (pq:∀ b,F0 b\/G b->A b) (xU:∀ id e p,s.ak id=some e->pl id=some p->∀ b ∈ e.bs p,A b) (sD:∀ b,Gc b->A b) {io:List Nat}:∀ {ts:List TypeId} {vs:List aJ} {n:Nat} {as:List Arg} {us:List Value},
  qF C s io n ts vs=some as->zB as=false->us.length=vs.length->(∀ (j:Nat) c u,vs[j]? = some c->us[j]? = some u->eY (mem F0 G w.heap s.ak pl) c u)->(vs.any (fun v=>v.cells.any (kW s))=true->EO s pl Gc)->gZ A Gc w.heap as us
 | ts,[],n,as,us,h,_,hl,_,_=>by
  have:as=[]:=by cases ts <;> simpa [qF] using h.symm
  subst this
  exact ⟨hl,fun i a v hi=>by simp at hi⟩
 | [],v :: vs,n,as,us,h,_,_,_,_=>by simp [qF] at h
 | t :: ts,v :: vs,n,as,us,h,Cw,hl,hr,hD=>by
  simp only [qF] at h
  split at h
  ·rename_i x rest hx hrest
   simp at h
   subst h
   cases us with
   | nil=>simp at hl
   | cons u us=>
    have XG:zB rest=false:=by cases x <;> simp [zB] at Cw <;> exact Cw
    obtain ⟨k1,k2⟩:=ES i KM pq xU sD hrest XG (by simpa using hl) (fun j c u' hj hu=>hr (j+1) c u' (by simpa using hj) (by simpa using hu)) (fun h=>hD (by rw [List.any_cons,h,Bool.or_true]))
    refine ⟨by simp [k1],fun j a' v' hj hv=>?_⟩
    cases j with
    | succ j=>exact k2 j a' v' (by simpa using hj) (by simpa using hv)
    | zero=>
     simp at hj hv
     subst hj hv
     have hval:nS C s t v=some x:=by
      unfold toArg at hx
      cases hc:io.contains n with
      | false=>rw [hc] at hx;exact hx
      | true=>
       rw [hc] at hx
       have hx:Hw s v=some x:=hx
       exfalso
       unfold Hw at hx
       split at hx
       ·split at hx
        ·simp at hx;subst hx;simp [zB] at Cw
        ·cases hx
       ·split at hx
        ·obtain ⟨y,_,rfl⟩:=Option.map_eq_some_iff.1 hx;simp [zB] at Cw
        ·cases hx
       ·cases hx
     exact OQ i KM pq xU (hr 0 v u rfl rfl) hval sD (fun h=>hD (by rw [List.any_cons,h,Bool.true_or]))
  ·cases h
theorem Bd {C:dh} {s:St} {io:List Nat}:∀ {ts:List TypeId} {vs:List aJ} {n:Nat} {as:List Arg},qF C s io n ts vs=some as->zB as=false->∀ b ∈ as,b.sO=false
 | ts,[],n,as,h,_=>by
  have:as=[]:=by cases ts <;> simpa [qF] using h.symm
  subst this
  simp
 | [],v :: vs,n,as,h,_=>by simp [qF] at h
 | t :: ts,v :: vs,n,as,h,Cw=>by
  simp only [qF] at h
  split at h
  ·rename_i y rest hy hrest
   simp at h
   subst h
   have XG:zB rest=false/\y.sO=false:=by cases y <;> simp [zB] at Cw <;> exact ⟨Cw,rfl⟩
   intro b hb
   rcases List.mem_cons.1 hb with rfl | hb
   ·exact XG.2
   ·exact Bd hrest XG.1 b hb
  ·cases h
theorem Cx:∀ {caps:List Cap} {as:List Arg},caps.mapM sK=some as->∀ b ∈ as,b.sO=false
 | [],as,h=>by simp at h;subst h;simp
 | c :: caps,as,h=>by
  rw [List.mapM_cons] at h
  simp only [Option.bind_eq_bind,Option.bind_eq_some_iff,Option.pure_def,Option.some.injEq] at h
  obtain ⟨x,hx,rest,hrest,rfl⟩:=h
  intro b hb
  rcases List.mem_cons.1 hb with rfl | hb
  ·exact TN hx
  ·exact Cx hrest b hb
theorem Cy {A G:Nat->Prop} {h:Array Obj}:∀ {caps:List Cap} {as:List Arg} {us:List Value},caps.mapM sK=some as->us.length=caps.length->(∀ (j:Nat) c u,caps[j]? = some c->us[j]? = some u->pG (Aa A G h) c u)->
  gZ A G h as us
 | [],as,us,h,hl,_=>by
  simp at h
  subst h
  exact ⟨hl,fun i a v hi=>by simp at hi⟩
 | c :: caps,as,us,h,hl,hr=>by
  rw [List.mapM_cons] at h
  simp only [Option.bind_eq_bind,Option.bind_eq_some_iff,Option.pure_def,Option.some.injEq] at h
  obtain ⟨x,hx,rest,hrest,rfl⟩:=h
  cases us with
  | nil=>simp at hl
  | cons u us=>
   obtain ⟨k1,k2⟩:=Cy hrest (by simpa using hl) (fun j c u' hj hu=>hr (j+1) c u' (by simpa using hj) (by simpa using hu))
   refine ⟨by simp [k1],fun j a' v' hj hv=>?_⟩
   cases j with
   | succ j=>exact k2 j a' v' (by simpa using hj) (by simpa using hv)
   | zero=>
    simp at hj hv
    subst hj hv
    have hcr:=hr 0 c u rfl rfl
    cases c with
    | ptr _=>simp [sK] at hx
    | ro t y=>
     simp [sK] at hx
     subst hx
     obtain ⟨b,o,es,h1,h2,h3,h4⟩:=hcr
     exact ⟨b,o,es,by rw [Nat.add_zero];exact h1,h2,h3,h4⟩
theorem gZ.append {A G:Nat->Prop} {h:Array Obj} {as bs:List Arg} {us vs:List Value} (h1:gZ A G h as us) (h2:gZ A G h bs vs):gZ A G h (as++bs) (us++vs):=by
 refine ⟨by simp [h1.1,h2.1],fun i a v hi hv=>?_⟩
 rw [List.getElem?_append] at hi hv
 split at hi
 ·rename_i hlt
  rw [if_pos (by rw [h1.1];exact hlt)] at hv
  exact h1.2 i a v hi hv
 ·rename_i hlt
  rw [if_neg (by rw [h1.1];exact hlt),h1.1] at hv
  exact h2.2 _ a v hi hv
theorem sP {F0:lS} {G:Nat->Prop} {s:St} {a:Act} {w:World} {pl:Nat->Option Pl} (i:Inv F0 G s a w pl):∀ {xs:List Operand} {vs:List aJ},dY s xs=some vs->
  (xs.map a.eval).length=vs.length/\∀ (j:Nat) c u,vs[j]? = some c->(xs.map a.eval)[j]? = some u->eY (mem F0 G w.heap s.ak pl) c u
 | [],vs,h=>by simp [dY] at h;subst h;exact ⟨rfl,fun j c u hj=>by simp at hj⟩
 | x :: xs,vs,h=>by
  simp only [dY] at h
  split at h
  ·rename_i c r hs hr
   simp at h
   subst h
   obtain ⟨k1,k2⟩:=sP i hr
   refine ⟨by simpa using k1,fun j c' u hj hu=>?_⟩
   cases j with
   | succ j=>exact k2 j c' u (by simpa using hj) (by simpa using hu)
   | zero=>
    simp at hj hu
    subst hj hu
    have:=i.slot x
    rw [hs] at this
    exact this
  ·cases h
section
variable {C:dh} {ah:FuncId->(t:Ty)->List Arg->Option t.den}
 {dst:Option Tmp} {type:TypeId} {pos:String} {after:Array Edge} {guard:Option (Nat × Bool)}
theorem Rd.plain {G G2 A A2:Nat->Prop} {h:Array Obj}:∀ {t:Ty} {x:t.den} {cs:List Value},t.plain=true->Rd G h t A x cs->Rd G2 h t A2 x cs
 | .bool,_,_,_,e=>e
 | .int _,_,_,_,e=>e
 | .str,_,_,_,e=>e
 | .unit,_,_,_,e=>e
 | .list _,_,_,hp,_=>by simp [Ty.plain] at hp
 | .bR _,_,_,hp,_=>by simp [Ty.plain] at hp
 | .pair a b,x,cs,hp,⟨c,d,e,h1,h2⟩=>by
  simp only [Ty.plain,Bool.and_eq_true] at hp
  exact ⟨c,d,e,h1.plain hp.1,h2.plain hp.2⟩
theorem cZ.cut {G G2:Nat->Prop} {h:Array Obj}:∀ {t:Ty} {x:t.den} {cs:List Value} {ps:List (Option Pl)},cZ true G h t x cs ps->t.cut=true->cZ true G2 h t x cs ps
 | .bool,_,_,_,e,_=>e
 | .int _,_,_,_,e,_=>e
 | .str,_,_,_,e,_=>e
 | .unit,_,_,_,e,_=>e
 | .list t,l,cs,ps,H,hc=>by
  simp only [cZ,if_true] at H ⊢
  obtain ⟨v,π,rfl,rfl,h1,h2,h3⟩:=H
  refine ⟨v,π,rfl,rfl,h1, ?_,h3⟩
  cases π with
  | none=>exact h2
  | some p=>
   obtain ⟨c,e,fz,k1,k2,k3,k4,k5⟩:=h2
   refine ⟨c,e,fz,k1,k2,k3,k4,fun i x hi=>?_⟩
   obtain ⟨es,h4,h5⟩:=k5 i x hi
   exact ⟨es,h4.plain hc,h5⟩
 | .bR t,l,cs,ps,H,hc=>by
  obtain ⟨v,π,rfl,rfl,h1,h2⟩:=jf.1 H
  refine jf.2 ⟨v,π,rfl,rfl,h1, ?_⟩
  cases π with
  | none=>exact h2
  | some p=>
   obtain ⟨c,e,fz,k1,k2,k3,k4,k5,k6,k7,k8⟩:=h2
   refine ⟨c,e,fz,k1,k2,k3,k4,k5,k6,k7,fun i x qs hi hq=>?_⟩
   obtain ⟨es,h4,h5⟩:=k8 i x qs hi hq
   exact ⟨es,cZ.cut h4 hc,h5⟩
 | .pair a b,x,cs,ps,⟨c,d,p,q,h1,h2,h3,h4⟩,hc=>by
  simp only [Ty.cut,Bool.and_eq_true] at hc
  exact ⟨c,d,p,q,h1,h2,cZ.cut h3 hc.1,cZ.cut h4 hc.2⟩
theorem OV (good:Good C) (hcall:Ab C ah) {R:Type} {F0:lS} {G:Nat->Prop} {s1:St} {a:Act} {w:World} {pl:Nat->Option Pl} {κ:St->Option R} {r:R} {Q:Exit->Act->World->Prop} {g:Operand} {args:Array Operand} {argTypes:Array TypeId}
  {f:FuncId} {fn:Func} {rt:Ty} {as:List Arg} {us XH:List Value} {r0:rt.den} {A Gc:Nat->Prop} (hfn:C.P.funcs[f]? = some fn) (hmk:(C.sig f).yK=false) (hr0:ah f rt as=some r0) (i1:Inv F0 G s1 a w pl) (ht:wB C w F0) (hA:∀ b,A b->b<w.heap.size)
  (pq:∀ b,F0 b\/G b->A b) (xU:∀ id e p,s1.ak id=some e->pl id=some p->∀ b ∈ e.bs p,A b) (KM:∀ b,G b->Gc b) (sD:∀ b,Gc b->A b) (hcut:Gc=G\/((C.sig f).own=true/\rt.cut=true)) (hone:Jh as) (hargs:gZ A Gc w.heap as (us++XH)) (hgv:a.eval g=.func (.func f) #[] XH.toArray) (hus:args.toList.map a.eval=us)
  (h:(mZ s1 (jI (C.sig f).own (Nat.beq fn.resultTypes.size 1) (aI (dst.getD 0)) rt r0).2).run ah (fun s=>(s.put dst (jI (C.sig f).own (Nat.beq fn.resultTypes.size 1) (aI (dst.getD 0)) rt r0).1).run ah κ)=some r) :
  (⟨dst,.call ⟨.value g,args,argTypes⟩,type,pos,after,guard⟩:Oper).wp C.P a w (zJ F0 G w κ r) Q:=by
 obtain ⟨hbody,Cz⟩:=hcall f fn rt as r0 hfn hr0 hmk
 have hc:=Cz w A Gc (us++XH) hA sD (ht.1.more fun b hb=>pq b (.inl hb)) hone hargs
 have hname:(fn.name == "runtime.NumGoroutine")=false:=by
  have:=Array.all_eq_true.1 good.names
  obtain ⟨hlt,hget⟩:=Array.getElem?_eq_some_iff.1 hfn
  have:=this f hlt
  rw [hget] at this
  simpa using this
 have kI:(execOp a.eval ⟨dst,.call ⟨.value g,args,argTypes⟩,type,pos,after,guard⟩).run C.P w=.ok (.enter f (us++XH).toArray) w:=by
  have hb:fn.body.isNone=false:=by cases hb:fn.body <;> simp [hb] at hbody ⊢
  subst hus
  simp only [execOp,resolve,Sem.run_bind,hgv,Deferred.ofValue,Sem.run_pure,Result.andThen_ok,invoke,callFunc,run_program,hfn,hname,hb,Bool.false_eq_true,if_false]
  congr 2
  apply Array.ext'
  simp
 unfold Oper.wp
 rw [kI]
 refine Calls.mono hc fun e w' hpost=>?_
 obtain ⟨v,G1,ps,rfl,hsz,hstr,hh,hG,hnew,hres,hfresh,hnd⟩:=hpost
 show zJ F0 G w κ r (a.put dst v) w'
 obtain ⟨G',hG,hnew,hres,hfresh⟩:∃ G':Nat->Prop,(∀ b,G b->G' b)/\(∀ b,G' b->G b\/(¬ A b/\b<w'.heap.size))/\wF (C.sig f).own (Nat.beq fn.resultTypes.size 1) rt G' w'.heap r0 v ps/\∀ b ∈ blks ps,¬ A b/\¬ G' b/\b<w'.heap.size:=by
  rcases hcut with e | ⟨h1,h2⟩
  ·subst e
   exact ⟨G1,hG,hnew,hres,hfresh⟩
  ·refine ⟨G,fun _ h=>h,fun _ h=>.inl h, ?_,fun b hb=>⟨(hfresh b hb).1,fun h=>(hfresh b hb).1 (pq b (.inr h)),(hfresh b hb).2.2⟩⟩
   obtain ⟨cs,k1,k2⟩:=hres
   rw [h1] at k1 ⊢
   exact ⟨cs,k1.cut h2,k2⟩
 obtain ⟨i2,fr⟩:=i1.YK pq xU hsz (ht.str hstr) hh hG hnew
 obtain ⟨hrows,Jk⟩:=Cv (key:=aI (dst.getD 0)) hres
 have hF:∀ b ∈ blks ps,¬ (F0 b\/G' b)/\b<w'.heap.size/\∀ id e q,s1.ak id=some e->pl id=some q->b ∉ e.bs q:=by
  intro b hb
  obtain ⟨k1,k2,k3⟩:=hfresh b hb
  refine ⟨fun h=>?_,k3,fun id e q hid hq hb'=>k1 (xU id e q hid hq b hb')⟩
  rcases h with h | h
  ·exact k1 (pq _ (.inl h))
  ·exact k2 h
 obtain ⟨s',nP,k1,k2,k3,k4⟩:=wY i2 hrows hF hnd h
 obtain ⟨s'',k5,k6,_⟩:=zV k2 (Jk _ rfl rfl k3) k1
 exact ⟨s'',G',nP,k5,k6,fr⟩
theorem XI (good:Good C) (hcall:Ab C ah) {R:Type} {F0:lS} {G:Nat->Prop} {s:St} {a:Act} {w:World} {pl:Nat->Option Pl} {κ:St->Option R} {r:R} {Q:Exit->Act->World->Prop} {args:Array Operand} {argTypes:Array TypeId}
  {f:FuncId} {vs:List aJ} {i0:Nat} (hmk:(C.sig f).yK=false) (i:Inv F0 G s a w pl) (ht:wB C w F0) (hvs:dY s args.toList=some vs)
  (h:(rE C s ⟨dst,.call ⟨.value (.func f),args,argTypes⟩,type,pos,after,guard⟩ f vs [] i0).run ah κ=some r) :
  (⟨dst,.call ⟨.value (.func f),args,argTypes⟩,type,pos,after,guard⟩:Oper).wp C.P a w (zJ F0 G w κ r) Q:=by
 obtain ⟨hal,har⟩:=sP i hvs
 unfold rE at h
 split at h
 ·rename_i fn v hfn hv
  split at h
  ·rename_i T0 hT
   split at h
   ·rename_i hka
    simp only [Bool.and_eq_true] at hka
    split at h
    ·rename_i x ids hof
     cases hnd:nodup ids with
     | false=>rw [hnd] at h;cases h
     | true=>
      rw [hnd] at h
      simp only [cond_true] at h
      split at h
      ·rename_i as cas rt has hcas hrt
       split at h
       ·simp at h
       rename_i hdp
       simp only [jB,List.any_nil,Bool.or_false,Bool.not_eq_true] at hdp
       simp only [T.run] at h
       rw [Option.bind_eq_some_iff] at h
       obtain ⟨r0,hr0,h⟩:=h
       have VJ:cas=[]:=by simpa [jT] using hcas.symm
       subst VJ
       have hi0:i0<(args.toList.map a.eval).length:=by rw [hal];exact (List.getElem?_eq_some_iff.1 hv).1
       obtain ⟨u0,hu0⟩:∃ u0,(args.toList.map a.eval)[i0]? = some u0:=⟨_,List.getElem?_eq_getElem hi0⟩
       have hc0:=har i0 v u0 hv hu0
       obtain ⟨ps,hown,hblk⟩:=wD i.ak hof (gT hka.1 hc0)
       have hval:=uw hka.1 hka.2 hc0
       have live:∀ j ∈ ids,Lv s.ak .give j:=ng hof
       have hbl:∀ b,b ∈ blks ps ↔ ∃ j ∈ ids,∃ p,pl j=some p/\b ∈ p.bs:=by
        intro b
        rw [hblk]
        simp only [List.mem_flatMap,List.mem_filterMap]
        exact ⟨fun ⟨p,⟨j,hj,hp⟩,hb⟩=>⟨j,hj,p,hp,hb⟩,fun ⟨j,hj,p,hp,hb⟩=>⟨p,⟨j,hj,hp⟩,hb⟩⟩
       have hfree:∀ b ∈ blks ps,¬ (F0 b\/G b)/\b<w.heap.size:=by
        intro b hb
        obtain ⟨j,hj,p,hp,hbp⟩:=(hbl b).1 hb
        obtain ⟨e,he,k1,_,k2⟩:=(live j hj).bs i.ak hp
        exact ⟨k2 rfl b hbp,i.ak.pU he hp b (k1 ▸ hbp)⟩
       obtain ⟨i1,old,kr⟩:=i.bL (lF hnd) (fun j hj=>(live j hj).OC)
       have pq:∀ b,F0 b\/G b->(b<w.heap.size/\b ∉ blks ps):=fun b hb=>⟨i.ak.lt b hb,fun h=>(hfree b h).1 hb⟩
       have xU:∀ j e p,(s.bL ids).ak j=some e->pl j=some p->∀ b ∈ e.bs p,(b<w.heap.size/\b ∉ blks ps):=by
        intro j e p he hp b hb
        obtain ⟨hj,e',he',hbs⟩:=old j e he
        rw [hbs p] at hb
        refine ⟨i.ak.pU he' hp b hb,fun h=>?_⟩
        obtain ⟨k,hk,q,hq,hbq⟩:=(hbl b).1 h
        obtain ⟨e2,he2,k1,_,_⟩:=(live k hk).bs i.ak hq
        exact i.ak.apart' j k e' e2 p q he' he2 (fun e=>hj (e ▸ hk)) hp hq b hb (k1 ▸ hbq)
       obtain ⟨m1,m2,m3⟩:=yU (A:=fun b=>b<w.heap.size/\b ∉ blks ps) (us:=args.toList.map a.eval) i1 pq xU has (by simpa using hal) (fun j c u hj hu=>by
        rw [List.getElem?_map] at hj
        obtain ⟨c',hc',rfl⟩:=Option.map_eq_some_iff.1 hj
        exact kr c' u (har j c' u hc' hu)) hdp
       have hai:=m3 i0 (by omega) (by rw [<- m1];exact hi0)
       have hnd':(blks ps).Nodup:=by rw [hblk];exact oL i.ak (lF hnd) live
       have hargs:gZ (fun b=>b<w.heap.size/\b ∉ blks ps) G w.heap (as++[]) (args.toList.map a.eval++[]):=by
        rw [List.append_nil,List.append_nil]
        refine ⟨m1,fun j a' v' hj hv'=>?_⟩
        by_cases hji:j=i0
        ·subst hji
         rw [hai] at hj
         cases hj
         rw [hu0] at hv'
         cases hv'
         exact ⟨_,ps,hown,hval,fun b hb=>⟨fun h=>h.2 hb,(hfree b hb).2⟩,hnd'⟩
        ·exact (m2 j a' v' (by omega) hj hv').2
       rw [T.run_bind] at h
       refine OV good hcall hfn hmk hr0 i1 ht (fun b hb=>hb.1) pq xU (fun _ h=>h) (fun b hb=>pq b (.inr hb)) (.inl rfl) (fun y z b c hy hz hb hc=>?_) hargs rfl rfl h
       have key:∀ {y b},(as++[])[y]? = some b->b.sO=true->y=i0:=by
        intro y b hy hb
        rw [List.append_nil] at hy
        refine Classical.byContradiction fun hne=>?_
        have hlt:y<(args.toList.map a.eval).length:=by rw [m1];exact (List.getElem?_eq_some_iff.1 hy).1
        have:=(m2 y b _ (by omega) hy (List.getElem?_eq_getElem hlt)).1
        rw [this] at hb
        cases hb
       exact (key hy hb).trans (key hz hc).symm
      ·simp at h
    ·simp at h
   ·simp at h
  ·simp at h
 ·simp at h
theorem XJ (good:Good C) (aa1:Ro C ah) {R:Type} {F0:lS} {G:Nat->Prop} {s:St} {a:Act} {w:World} {pl:Nat->Option Pl} {κ:St->Option R} {r:R} {Q:Exit->Act->World->Prop} {args:Array Operand} {argTypes:Array TypeId}
  {f:FuncId} {vs:List aJ} {i0:Nat} (i:Inv F0 G s a w pl) (ht:wB C w F0) (hvs:dY s args.toList=some vs)
  (h:(zO C s ⟨dst,.call ⟨.value (.func f),args,argTypes⟩,type,pos,after,guard⟩ f vs [] i0).run ah κ=some r) :
  (⟨dst,.call ⟨.value (.func f),args,argTypes⟩,type,pos,after,guard⟩:Oper).wp C.P a w (zJ F0 G w κ r) Q:=by
 obtain ⟨hal,har⟩:=sP i hvs
 unfold zO at h
 split at h
 ·rename_i fn v hfn hv
  split at h
  ·rename_i T0 hT
   split at h
   ·rename_i hka
    simp only [Bool.and_eq_true] at hka
    split at h
    ·rename_i x ids hlo
     cases hnd:nodup (ids.filterMap id) with
     | false=>rw [hnd] at h;cases h
     | true=>
      rw [hnd] at h
      simp only [cond_true] at h
      split at h
      ·rename_i as cas rt has hcas hrt
       split at h
       ·simp at h
       rename_i hdp
       simp only [jB,List.any_nil,Bool.or_false,Bool.not_eq_true] at hdp
       simp only [T.run] at h
       rw [Option.bind_eq_some_iff] at h
       obtain ⟨r0,hr0,h⟩:=h
       split at h
       ·rename_i s2 hset
        have VJ:cas=[]:=by simpa [jT] using hcas.symm
        subst VJ
        rw [List.append_nil] at hr0
        have hi0:i0<(args.toList.map a.eval).length:=by rw [hal];exact (List.getElem?_eq_some_iff.1 hv).1
        obtain ⟨u0,hu0⟩:∃ u0,(args.toList.map a.eval)[i0]? = some u0:=⟨_,List.getElem?_eq_getElem hi0⟩
        have hc0:=har i0 v u0 hv hu0
        obtain ⟨ws,us',hws,how,hrest,hrel⟩:=Rp i.ak hlo (gT hka.1 hc0)
        have ace:us'=[]:=List.eq_nil_of_length_eq_zero hrest.1
        subst ace
        rw [List.append_nil] at hws
        subst hws
        have hval:=uw hka.1 hka.2 hc0
        have mem:∀ {j},j ∈ ids.filterMap id ↔ some j ∈ ids:=by
         intro j
         rw [List.mem_filterMap]
         exact ⟨fun ⟨y,hy,e⟩=>by rw [<- e];exact hy,fun h=>⟨some j,h,rfl⟩⟩
        have YM:∀ j ∈ ids.filterMap id,∃ e,s.ak j=some e/\YL e:=fun j hj=>hrel.live j (mem.1 hj)
        have live:∀ j ∈ ids.filterMap id,Lv s.ak .look j:=fun j hj=>by
         obtain ⟨e,h1,⟨u,l,o,rfl,_⟩ | ⟨u,l,n,rfl⟩⟩:=YM j hj
         ·exact .inl ⟨u,l,o,h1,fun h=>by cases h⟩
         ·exact .inr ⟨u,l,n,h1,fun h=>by cases h⟩
        have lbs:∀ j ∈ ids.filterMap id,∀ p,pl j=some p->∃ e,s.ak j=some e/\e.bs p=p.bs/\∀ b ∈ p.bs,¬ (F0 b\/G b)/\b<w.heap.size:=by
         intro j hj p hp
         obtain ⟨e,h1,h2⟩:=YM j hj
         obtain ⟨e',h3,h4,_,_⟩:=(live j hj).bs i.ak hp
         have h3:s.ak j=some e':=h3
         rw [h1] at h3
         cases h3
         refine ⟨e,h1,h4,fun b hb=>?_⟩
         have hent:=i.ak.ent j _ h1
         rcases h2 with ⟨u,l,o,rfl,ho⟩ | ⟨u,l,n,rfl⟩
         ·have hb:b=p.b:=by rw [<- h4] at hb;simpa [Entry.bs] using hb
          subst hb
          exact ⟨(hent.2 p hp).2 ho,i.ak.Vq h1 hp⟩
         ·exact ⟨((hent.2 p hp).1 b hb).2,((hent.2 p hp).1 b hb).1⟩
        obtain ⟨i1,old,kr⟩:=i.bL (lF hnd) (fun j hj=>(live j hj).OC)
        have pq:∀ b,F0 b\/G b->(b<w.heap.size/\∀ j ∈ ids.filterMap id,∀ p,pl j=some p->b ∉ p.bs):=fun b hb=>⟨i.ak.lt b hb,fun j hj p hp hbp=>by
         obtain ⟨e,_,_,h⟩:=lbs j hj p hp
         exact (h b hbp).1 hb⟩
        have Zz:∀ j e p,j ∉ ids.filterMap id->s.ak j=some e->pl j=some p->∀ b ∈ e.bs p,(b<w.heap.size/\∀ k ∈ ids.filterMap id,∀ q,pl k=some q->b ∉ q.bs):=by
         intro j e p hj he hp b hb
         refine ⟨i.ak.pU he hp b hb,fun k hk q hq hbq=>?_⟩
         obtain ⟨e',h1,h2,_⟩:=lbs k hk q hq
         exact i.ak.apart' j k e e' p q he h1 (fun e=>hj (e ▸ hk)) hp hq b hb (h2 ▸ hbq)
        have xU:∀ j e p,(s.bL (ids.filterMap id)).ak j=some e->pl j=some p->∀ b ∈ e.bs p,(b<w.heap.size/\∀ k ∈ ids.filterMap id,∀ q,pl k=some q->b ∉ q.bs):=by
         intro j e p he hp b hb
         obtain ⟨hj,e',he',hbs⟩:=old j e he
         exact Zz j e' p hj he' hp b (hbs p ▸ hb)
        obtain ⟨m1,m2,m3⟩:=yU (A:=fun b=>b<w.heap.size/\∀ j ∈ ids.filterMap id,∀ p,pl j=some p->b ∉ p.bs) (us:=args.toList.map a.eval) i1 pq xU has (by simpa using hal) (fun j c u hj hu=>by
         rw [List.getElem?_map] at hj
         obtain ⟨c',hc',rfl⟩:=Option.map_eq_some_iff.1 hj
         exact kr c' u (har j c' u hc' hu)) hdp
        have hai:=m3 i0 (by omega) (by rw [<- m1];exact hi0)
        obtain ⟨hbody,hc⟩:=aa1 f fn rt T0 x i0 as r0 hfn hr0 hai
        have hfm:((ids.map fun j=>j.bind pl).filterMap id)=(ids.filterMap id).filterMap pl:=by
         rw [List.filterMap_map,List.filterMap_filterMap]
         rfl
        have how':cZ true G w.heap T0 x u0.cells.toList (ids.map fun j=>Option.bind j pl):=how
        have hbl:∀ b,b ∈ blks (ids.map fun j=>Option.bind j pl) ↔ ∃ j ∈ ids.filterMap id,∃ p,pl j=some p/\b ∈ p.bs:=by
         intro b
         unfold blks
         rw [hfm]
         simp only [List.mem_flatMap,List.mem_filterMap (f:=pl)]
         exact ⟨fun ⟨p,⟨j,hj,hp⟩,hb⟩=>⟨j,hj,p,hp,hb⟩,fun ⟨j,hj,p,hp,hb⟩=>⟨p,⟨j,hj,hp⟩,hb⟩⟩
        have hc:=hc w (fun b=>b<w.heap.size/\∀ j ∈ ids.filterMap id,∀ p,pl j=some p->b ∉ p.bs) G (args.toList.map a.eval) u0 u0.cells.toList (ids.map fun j=>Option.bind j pl) (fun b hb=>hb.1) (fun b hb=>pq b (.inr hb)) (ht.1.more fun b hb=>pq b (.inl hb)) m1 hu0
         ⟨how',hval,fun b hb=>by
          obtain ⟨j,hj,p,hp,hb⟩:=(hbl b).1 hb
          obtain ⟨_,_,_,h⟩:=lbs j hj p hp
          exact ⟨fun hA=>hA.2 j hj p hp hb,(h b hb).2⟩,by
          unfold blks
          rw [hfm]
          exact oL i.ak (lF hnd) live⟩ (fun j a' v' hne hj hv'=>m2 j a' v' (by omega) hj hv')
        have hname:(fn.name == "runtime.NumGoroutine")=false:=by
         have:=Array.all_eq_true.1 good.names
         obtain ⟨hlt,hget⟩:=Array.getElem?_eq_some_iff.1 hfn
         have:=this f hlt
         rw [hget] at this
         simpa using this
        have kI:(execOp a.eval ⟨dst,.call ⟨.value (.func f),args,argTypes⟩,type,pos,after,guard⟩).run C.P w=.ok (.enter f (args.toList.map a.eval).toArray) w:=by
         have hb:fn.body.isNone=false:=by cases hb:fn.body <;> simp [hb] at hbody ⊢
         have hgv:a.eval (.func f)=.func (.func f) #[] #[]:=rfl
         simp only [execOp,resolve,Sem.run_bind,hgv,Deferred.ofValue,Sem.run_pure,Result.andThen_ok,invoke,callFunc,run_program,hfn,hname,hb,Bool.false_eq_true,if_false]
         congr 2
         apply Array.ext'
         simp
        unfold Oper.wp
        rw [kI]
        refine Calls.mono hc fun e w' hpost=>?_
        obtain ⟨v',G',qs,rfl,hsz,hstr,hh,hG,hnew,hres,hfresh,ZA,hback,aa3⟩:=hpost
        show zJ F0 G w κ r (a.put dst v') w'
        obtain ⟨_,e1,e2,k1,k2⟩:=yT (rest:=[]) hrel (fun _ _=>rfl) (lF hnd) hback (by rw [List.append_nil];exact hset)
        have aa4:∀ {j p b},j ∈ ids.filterMap id->pl j=some p->b ∈ p.bs->b ∈ blks (ids.map fun j=>Option.bind j pl):=fun {j p b} hj hp hb=>(hbl b).2 ⟨j,hj,p,hp,hb⟩
        obtain ⟨i2,fr⟩:=i.VI (G':=G') (XE:=ids.filterMap id) e1 e2 (fun j hj=>k1 j (fun h=>hj (mem.2 h))) (fun j hj=>by
         obtain ⟨e,e',h1,h2,h3⟩:=k2 j (mem.1 hj)
         have h1:s.ak j=some e:=h1
         refine ⟨e,e',h1,h2,h3,fun p hp b hb=>?_⟩
         obtain ⟨e0,h4,h5,h6⟩:=lbs j hj p hp
         rw [h1] at h4
         cases h4
         rw [h5] at hb
         exact ⟨(aa3 b (aa4 hj hp hb)).1,Nat.lt_of_lt_of_le (h6 b hb).2 hsz⟩) pq Zz hsz (ht.str hstr) hh hG hnew
        obtain ⟨hrows,Jk⟩:=Cv (key:=aI (dst.getD 0)) hres
        have hF:∀ b ∈ blks qs,¬ (F0 b\/G' b)/\b<w'.heap.size/\∀ j e q,s2.ak j=some e->pl j=some q->b ∉ e.bs q:=by
         intro b hb
         obtain ⟨n1,n2,n3⟩:=hfresh b hb
         refine ⟨fun h=>?_,n3,fun j e q hj hq hbq=>?_⟩
         ·rcases h with h | h
          ·exact n1 (pq _ (.inl h))
          ·exact n2 h
         ·by_cases hji:j ∈ ids.filterMap id
          ·obtain ⟨e0,e',h1,h2,h3⟩:=k2 j (mem.1 hji)
           have h1:s.ak j=some e0:=h1
           rw [hj] at h2
           cases h2
           obtain ⟨e9,h4,h5,h6⟩:=lbs j hji q hq
           rw [h1] at h4
           cases h4
           rw [h3.bs,h5] at hbq
           exact (aa3 b (aa4 hji hq hbq)).2 hb
          ·have hj':s.ak j=some e:=(k1 j (fun h=>hji (mem.2 h))).symm.trans hj
           exact n1 (Zz j e q hji hj' hq b hbq)
        rw [T.run_bind] at h
        obtain ⟨s',nP,n1,n2,n3,n4⟩:=wY i2 hrows hF ZA h
        obtain ⟨s'',n5,n6,_⟩:=zV n2 (Jk _ rfl rfl n3) n1
        exact ⟨s'',G',nP,n5,n6,fr⟩
       ·simp at h
      ·simp at h
    ·simp at h
   ·simp at h
  ·simp at h
 ·simp at h
theorem VK (good:Good C) (yR:VG C ah) {R:Type} {F0:lS} {G:Nat->Prop} {s:St} {a:Act} {w:World} {pl:Nat->Option Pl} {κ:St->Option R} {r:R} {Q:Exit->Act->World->Prop} {g:Operand} {args:Array Operand} {argTypes:Array TypeId}
  {f:FuncId} {vs:List aJ} {caps:List Cap} {i0 id:Nat} (i:Inv F0 G s a w pl) (ht:wB C w F0) (hvs:dY s args.toList=some vs) (Rh:vs[i0]? = some (.cell (.ptr id 0)))
  (hg:fB (mem F0 G w.heap s.ak pl) (.nL f caps) (a.eval g))
  (h:(qw C s ⟨dst,.call ⟨.value g,args,argTypes⟩,type,pos,after,guard⟩ f vs caps i0 id).run ah κ=some r) :
  (⟨dst,.call ⟨.value g,args,argTypes⟩,type,pos,after,guard⟩:Oper).wp C.P a w (zJ F0 G w κ r) Q:=by
 obtain ⟨hal,har⟩:=sP i hvs
 unfold qw at h
 split at h
 ·rename_i fn T0 cs hfn zK
  split at h
  ·rename_i x ids hof
   cases XK:(nodup ids && (T0.ob || ids.isEmpty)) with
   | false=>rw [XK] at h;cases h
   | true=>
    rw [XK] at h
    simp only [cond_true] at h
    rw [Bool.and_eq_true] at XK
    obtain ⟨hnd,Rq⟩:=XK
    split at h
    ·rename_i as cas rt has hcas hrt
     split at h
     ·simp at h
     rename_i hdp
     simp only [jB,Bool.or_eq_true,not_or,Bool.not_eq_true] at hdp
     simp only [T.run] at h
     rw [Option.bind_eq_some_iff] at h
     obtain ⟨r0,hr0,h⟩:=h
     have hi0:i0<(args.toList.map a.eval).length:=by rw [hal];exact (List.getElem?_eq_some_iff.1 Rh).1
     obtain ⟨u0,hu0⟩:∃ u0,(args.toList.map a.eval)[i0]? = some u0:=⟨_,List.getElem?_eq_getElem hi0⟩
     obtain ⟨t9,cs9,p,hs9,hp,hpo,hu⟩:=har i0 _ u0 Rh hu0
     have hs9:s.ak id=some (.box t9 cs9):=hs9
     rw [zK] at hs9
     cases hs9
     have hp:pl id=some p:=hp
     have hent:=i.ak.ent id _ zK
     obtain ⟨p',c,e,fz,hp',ho,VL,hfz,hsz0,hcs,hty,hrel,hnF⟩:=hent
     have hp':pl id=some p':=hp'
     rw [hp] at hp'
     cases hp'
     have VL:w.heap[p.b]? = some (.cells c e fz):=VL
     have hnF:¬ (F0 p.b\/G p.b):=hnF
     have hcT:c.size=T0.sz:=by rw [hcs];exact hty T0 rfl
     obtain ⟨⟨ps,hown,hblk⟩,live⟩:=Jj i.ak hof Rq hrel
     have live:∀ j ∈ ids,Lv s.ak .give j:=live
     have hbl:∀ b,b ∈ blks ps ↔ ∃ j ∈ ids,∃ p,pl j=some p/\b ∈ p.bs:=by
      intro b
      rw [hblk]
      simp only [List.mem_flatMap,List.mem_filterMap]
      exact ⟨fun ⟨p,⟨j,hj,hp⟩,hb⟩=>⟨j,hj,p,hp,hb⟩,fun ⟨j,hj,p,hp,hb⟩=>⟨p,⟨j,hj,hp⟩,hb⟩⟩
     have hfree:∀ b ∈ blks ps,¬ (F0 b\/G b)/\b<w.heap.size:=by
      intro b hb
      obtain ⟨j,hj,q,hq,hbq⟩:=(hbl b).1 hb
      obtain ⟨e,he,k1,_,k2⟩:=(live j hj).bs i.ak hq
      exact ⟨k2 rfl b hbq,i.ak.pU he hq b (k1 ▸ hbq)⟩
     have hid:id ∉ ids:=fun hm=>(live id hm).OC _ _ zK
     have acg:p.b ∉ blks ps:=fun hb=>by
      obtain ⟨j,hj,q,hq,hbq⟩:=(hbl _).1 hb
      obtain ⟨e2,he2,k1,_,_⟩:=(live j hj).bs i.ak hq
      exact i.ak.apart' id j _ e2 p q zK he2 (fun e=>hid (e ▸ hj)) hp hq p.b (Entry.pQ _ p) (k1 ▸ hbq)
     obtain ⟨i1,old,kr⟩:=i.bL (lF hnd) (fun j hj=>(live j hj).OC)
     obtain ⟨cs1,hs1⟩:=Gi (ids:=ids) hid zK
     obtain ⟨i2,fk,Zp⟩:=i1.forget hs1
     have pq:∀ b,F0 b\/G b->(b<w.heap.size/\b ∉ blks ps/\b ≠ p.b):=fun b hb=>⟨i.ak.lt b hb,fun h=>(hfree b h).1 hb,fun e=>hnF (e ▸ hb)⟩
     have ZB:∀ j e q,j ≠ id->(s.bL ids).ak j=some e->pl j=some q->∀ b ∈ e.bs q,(b<w.heap.size/\b ∉ blks ps/\b ≠ p.b):=by
      intro j e q hne he hq b hb
      obtain ⟨hj,e',he',hbs⟩:=old j e he
      rw [hbs q] at hb
      refine ⟨i.ak.pU he' hq b hb,fun h=>?_,fun h=>?_⟩
      ·obtain ⟨k,hk,q2,hq2,hbq⟩:=(hbl b).1 h
       obtain ⟨e2,he2,k1,_,_⟩:=(live k hk).bs i.ak hq2
       exact i.ak.apart' j k e' e2 q q2 he' he2 (fun e=>hj (e ▸ hk)) hq hq2 b hb (k1 ▸ hbq)
      ·exact i.ak.apart' j id e' _ q p he' zK hne hq hp b hb (by rw [h];exact Entry.pQ _ p)
     have xU:∀ j e q,((s.bL ids).forget id).ak j=some e->pl j=some q->∀ b ∈ e.bs q,(b<w.heap.size/\b ∉ blks ps/\b ≠ p.b):=by
      intro j e q he hq b hb
      obtain ⟨hj,e',he',hbs⟩:=Zp j e he
      exact ZB j e' q hj he' hq b (hbs q ▸ hb)
     obtain ⟨m1,m2,m3⟩:=yU (A:=fun b=>b<w.heap.size/\b ∉ blks ps/\b ≠ p.b) (us:=args.toList.map a.eval) i2 pq xU has (by simpa using hal) (fun j c u hj hu=>by
      rw [List.getElem?_map] at hj
      obtain ⟨c',hc',rfl⟩:=Option.map_eq_some_iff.1 hj
      exact fk _ u (kr c' u (har j c' u hc' hu))) hdp.1
     have hai:=m3 i0 (by omega) (by rw [<- m1];exact hi0)
     rw [Option.bind_eq_some_iff] at hcas
     obtain ⟨zW,EL,hmap⟩:=hcas
     have hnp:caps.any (Cap.LC id)=false:=by
      cases hb:caps.any (Cap.LC id) with
      | false=>rfl
      | true=>
       obtain ⟨cp,hm,hcp⟩:=List.any_eq_true.1 hb
       obtain ⟨c',hc'⟩:=Ji EL cp hm
       cases cp with
       | ro _ _=>simp [Cap.LC] at hcp
       | ptr k=>
        have:k=id:=Nat.eq_of_beq_eq_true hcp
        subst this
        have hn:((s.bL ids).forget k).ak k=none:=by
         show upd (fun j=>((s.bL ids).ak j).map (·.forget k)) k none k=none
         exact upd_same _ _ _
        simp [xX,hn] at hc'
     have hg2:eY (mem F0 G w.heap ((s.bL ids).forget id).ak pl) (.cell (.nL f caps)) (a.eval g):=by
      have h1:=fk _ _ (kr (.cell (.nL f caps)) (a.eval g) hg)
      rw [Gj] at h1
      have h1:fB _ (Cell.forget id (.nL f caps)) _:=h1
      simp only [Cell.forget,hnp,cond_false] at h1
      exact h1
     obtain ⟨XH,hgv,hcl,hcr⟩:=hg2
     have hcp:=EP (A:=fun b=>b<w.heap.size/\b ∉ blks ps/\b ≠ p.b) (Gc:=G) i2 (fun _ h=>h) pq xU EL hcl hcr (fun hd=>by rw [hdp.2] at hd;cases hd)
     have hca:=Cy hmap hcp.1 hcp.2
     have ach:=Cx hmap
     have aci:(as++cas)[i0]? = some (.iF T0 x):=by rw [List.getElem?_append_left (by rw [<- m1];exact hi0)];exact hai
     obtain ⟨hbody,hc⟩:=yR f fn rt T0 x i0 (as++cas) r0 hfn hr0 aci
     have hnd':(blks ps).Nodup:=by rw [hblk];exact oL i.ak (lF hnd) live
     have hc:=hc w (fun b=>b<w.heap.size/\b ∉ blks ps/\b ≠ p.b) G (args.toList.map a.eval++XH) p.b ps (fun b hb=>hb.1) (fun b hb=>pq b (.inr hb)) (ht.1.more fun b hb=>pq b (.inl hb))
      (by rw [List.length_append,List.length_append,m1,hca.1]) (by rw [List.getElem?_append_left hi0,hu0,hu])
      ⟨⟨c,e,fz,VL,hfz,hcT,hown⟩,fun b hb=>by
       rcases List.mem_cons.1 hb with rfl | hb
       ·exact ⟨fun h=>h.2.2 rfl,i.ak.Vq zK hp⟩
       ·exact ⟨fun h=>h.2.1 hb,(hfree b hb).2⟩,List.nodup_cons.2 ⟨acg,hnd'⟩⟩ (fun j a' v' hne hj hv'=>by
       by_cases hlt:j<as.length
       ·rw [List.getElem?_append_left hlt] at hj
        rw [List.getElem?_append_left (by omega)] at hv'
        exact m2 j a' v' (by omega) hj hv'
       ·rw [List.getElem?_append_right (by omega)] at hj
        rw [List.getElem?_append_right (by omega),m1] at hv'
        exact ⟨ach a' (List.mem_of_getElem? hj),hca.2 _ a' v' hj hv'⟩)
     have hname:(fn.name == "runtime.NumGoroutine")=false:=by
      have:=Array.all_eq_true.1 good.names
      obtain ⟨hlt,hget⟩:=Array.getElem?_eq_some_iff.1 hfn
      have:=this f hlt
      rw [hget] at this
      simpa using this
     have kI:(execOp a.eval ⟨dst,.call ⟨.value g,args,argTypes⟩,type,pos,after,guard⟩).run C.P w=.ok (.enter f (args.toList.map a.eval++XH).toArray) w:=by
      have hb:fn.body.isNone=false:=by cases hb:fn.body <;> simp [hb] at hbody ⊢
      simp only [execOp,resolve,Sem.run_bind,hgv,Deferred.ofValue,Sem.run_pure,Result.andThen_ok,invoke,callFunc,run_program,hfn,hname,hb,Bool.false_eq_true,if_false]
      congr 2
      apply Array.ext'
      simp
     unfold Oper.wp
     rw [kI]
     refine Calls.mono hc fun e1 w' hpost=>?_
     obtain ⟨v',G',qs,ps',rfl,hsz,hstr,hh,hG,hnew,hres,⟨c1,e2,fz1,hh1,XL,hc1,hown1⟩,hfresh,ZA,Zy⟩:=hpost
     show zJ F0 G w κ r (a.put dst v') w'
     obtain ⟨i3,fr⟩:=i1.XF (G':=G') (A:=fun b=>b<w.heap.size/\b ∉ blks ps/\b ≠ p.b) hs1 hp hpo hh1 XL (by rw [hc1,<- hcT];exact hsz0) hown1.one Zy pq ZB hsz (ht.str hstr) hh hG hnew
     rw [hc1] at i3
     obtain ⟨hrows2,hcells⟩:=qQ (key:=Ot id) 0 hown1
     obtain ⟨hrows,Jk⟩:=Cv (key:=aI (dst.getD 0)) hres
     generalize hrc:aV T0.ob (Ot id) T0 r0.2 0=rc at h hrows2 hcells
     obtain ⟨bc,es2,jj⟩:=rc
     generalize hrs:jI true (Nat.beq fn.resultTypes.size 1) (aI (dst.getD 0)) rt r0.1=rs at h hrows Jk
     obtain ⟨v,es⟩:=rs
     simp only at h hrows2 hcells hrows Jk
     rw [T.run_bind] at h
     have hbb:∀ b,b ∈ blks (ps'++qs)->b ∈ blks qs++blks ps':=fun b hb=>by
      simp only [blks,List.filterMap_append,List.flatMap_append,List.mem_append] at hb ⊢
      exact hb.symm
     have hF:∀ b ∈ blks (ps'++qs),¬ (F0 b\/G' b)/\b<w'.heap.size/\∀ j e q,({ s.bL ids with ak:=upd (s.bL ids).ak id (some (.box none (List.replicate T0.sz .undef))) }:St).ak j=some e->pl j=some q->b ∉ e.bs q:=by
      intro b hb
      obtain ⟨n1,n2,n3,n4⟩:=hfresh b (hbb b hb)
      refine ⟨fun h=>?_,n3,fun j e q hj hq hbq=>?_⟩
      ·rcases h with h | h
       ·exact n1 (pq _ (.inl h))
       ·exact n2 h
      ·have hj:upd (s.bL ids).ak id (some (.box none (List.replicate T0.sz .undef))) j=some e:=hj
       by_cases hji:j=id
       ·subst hji
        rw [upd_same] at hj
        cases hj
        rw [hp] at hq
        cases hq
        simp only [Entry.bs,List.mem_singleton] at hbq
        exact n4 hbq
       ·rw [upd_ne _ _ hji] at hj
        exact n1 (ZB j e q hji hj hq b hbq)
     have acj:(blks (ps'++qs)).Nodup:=by
      have:blks (ps'++qs)=blks ps'++blks qs:=by simp [blks,List.filterMap_append,List.flatMap_append]
      rw [this]
      obtain ⟨k1,k2,k3⟩:=List.nodup_append.1 ZA
      exact List.nodup_append.2 ⟨k2,k1,fun x hx y hy e=>k3 y hy x hx e.symm⟩
     obtain ⟨s4,pl4,n1,i4,n3,n4⟩:=wY i3 (hrows2.append hrows) hF acj h
     obtain ⟨hb4,aco⟩:=n4 id _ (upd_same _ _ _)
     have hp4:pl4 id=some p:=aco.trans hp
     have hrl:aH (mem F0 G' w'.heap s4.ak pl4) bc c1.toList:=hcells _ rfl rfl (n3.left hrows2.1)
     obtain ⟨i5,_⟩:=i4.write (w':=w') (E':=.box (some T0) bc) hb4 hp4 (by
      intro h
      rcases h with h | h
      ·exact hnF (.inl h)
      ·exact Zy h) rfl (Str.refl _ _) (fun _ _=>rfl) trivial (fun g5=>⟨p,c1,e2,fz1,rfl,hpo,hh1,XL,by rw [hc1,<- hcT];exact hsz0,by have:=hrl.1;simpa using this,fun u hu=>(by cases hu;rw [<- hc1];have:=hrl.1;simpa using this.symm),g5.cells (fun _ _ _ _ h=>h) hrl,fun h=>by
       rcases h with h | h
       ·exact hnF (.inl h)
       ·exact Zy h⟩)
     have hne:∀ {k:Nat} {e9:Entry} {m:Nat},es[m]? = some (k,e9)->k ≠ id:=by
      intro k e9 m hm hk
      subst hk
      have hlt:m<qs.length:=by rw [<- hrows.1];exact (List.getElem?_eq_some_iff.1 hm).1
      obtain ⟨h8,_⟩:=n3.right hrows2.1 m k e9 qs[m] hm (List.getElem?_eq_getElem hlt)
      have h8:s4.ak k=some e9:=h8
      rw [hb4] at h8
      rcases hrows.2 m k e9 qs[m] hm (List.getElem?_eq_getElem hlt) with ⟨_,_,he9,_⟩ | ⟨_,_,he9,_⟩ <;> (subst he9;cases h8)
     obtain ⟨s'',n5,n6,_⟩:=zV i5 (Jk _ rfl rfl (fun m k e9 π hm hπ=>by
      obtain ⟨h8,h9⟩:=n3.right hrows2.1 m k e9 π hm hπ
      exact ⟨(upd_ne _ _ (hne hm)).trans h8,h9⟩)) n1
     exact ⟨s'',G',pl4,n5,n6,fr⟩
    ·simp at h
  ·simp at h
 ·simp at h
theorem aa5 (good:Good C) (aa6:aaY C ah) {R:Type} {F0:lS} {G:Nat->Prop} {s:St} {a:Act} {w:World} {pl:Nat->Option Pl} {κ:St->Option R} {r:R} {Q:Exit->Act->World->Prop} {g:Operand} {args:Array Operand} {argTypes:Array TypeId}
  {f:FuncId} {vs:List aJ} (hmk:(C.sig f).yK=true) (i:Inv F0 G s a w pl) (ht:wB C w F0) (hvs:dY s args.toList=some vs) (hgv:a.eval g=.func (.func f) #[] #[])
  (h:(QO C s ⟨dst,.call ⟨.value g,args,argTypes⟩,type,pos,after,guard⟩ f vs).run ah κ=some r) :
  (⟨dst,.call ⟨.value g,args,argTypes⟩,type,pos,after,guard⟩:Oper).wp C.P a w (zJ F0 G w κ r) Q:=by
 obtain ⟨hal,har⟩:=sP i hvs
 unfold QO at h
 split at h
 ·rename_i fn d hfn hdst
  split at h
  ·rename_i as has
   split at h
   ·simp at h
   ·rename_i Cw
    simp only [Bool.or_eq_true,not_or,Bool.not_eq_true] at Cw
    obtain ⟨Cw,hdp⟩:=Cw
    simp only [T.run] at h
    rw [Option.bind_eq_some_iff] at h
    obtain ⟨r0,hr0,h⟩:=h
    have pq:∀ b,F0 b\/G b->b<w.heap.size:=fun b hb=>i.ak.lt b hb
    have xU:∀ id e p,s.ak id=some e->pl id=some p->∀ b ∈ e.bs p,b<w.heap.size:=fun id e p he hp b hb=>i.ak.pU he hp b hb
    simp only [jB,Bool.or_eq_false_iff] at hdp
    have hargs:=ES i (fun _ h=>h) pq xU (fun b hb=>pq b (.inr hb)) has Cw hal har (fun h=>by rw [hdp.1] at h;cases h)
    have hone:Jh as:=fun x y b c hx hy hb _=>by
     exfalso
     rw [Bd has Cw b (List.mem_of_getElem? hx)] at hb
     cases hb
    obtain ⟨hbody,hc⟩:=aa6 f fn _ as r0 hfn hr0 hmk
    have hc:=hc w (fun b=>b<w.heap.size) G (args.toList.map a.eval) (fun b hb=>hb) (fun b hb=>pq b (.inr hb)) (ht.1.more fun b hb=>pq b (.inl hb)) hone hargs
    have hname:(fn.name == "runtime.NumGoroutine")=false:=by
     have:=Array.all_eq_true.1 good.names
     obtain ⟨hlt,hget⟩:=Array.getElem?_eq_some_iff.1 hfn
     have:=this f hlt
     rw [hget] at this
     simpa using this
    have kI:(execOp a.eval ⟨dst,.call ⟨.value g,args,argTypes⟩,type,pos,after,guard⟩).run C.P w=.ok (.enter f (args.toList.map a.eval).toArray) w:=by
     have hb:fn.body.isNone=false:=by cases hb:fn.body <;> simp [hb] at hbody ⊢
     simp only [execOp,resolve,Sem.run_bind,hgv,Deferred.ofValue,Sem.run_pure,Result.andThen_ok,invoke,callFunc,run_program,hfn,hname,hb,Bool.false_eq_true,if_false]
     congr 2
     apply Array.ext'
     simp
    unfold Oper.wp
    rw [kI]
    refine Calls.mono hc fun e1 w' hpost=>?_
    obtain ⟨pb,G',rfl,hsz,hstr,hh,hG,hnew,⟨c,e,fz,hh1,XL,hc1,hown1⟩,hpA,Zy⟩:=hpost
    show zJ F0 G w κ r (a.put dst _) w'
    obtain ⟨i2,fr⟩:=i.YK pq xU hsz (ht.str hstr) hh hG hnew
    obtain ⟨hrows2,hcells⟩:=qQ (key:=aI d) 0 hown1
    generalize hrc:aV false (aI d) (C.sig f).made r0 0=rc at h hrows2 hcells
    obtain ⟨bc,es2,jj⟩:=rc
    simp only at h hrows2 hcells
    rw [T.run_bind] at h
    obtain ⟨hk,h⟩:=nW h
    have hes:es2=[]:=List.length_eq_zero_iff.1 hrows2.1
    subst hes
    have hnF:¬ (F0 pb\/G' pb):=fun h=>by
     rcases h with h | h
     ·exact hpA (pq _ (.inl h))
     ·exact Zy h
    have hrl:aH (mem F0 G' w'.heap s.ak pl) bc c.toList:=hcells _ rfl rfl (fun i k e π hi=>by simp at hi)
    have hlen:c.size=bc.length:=by have:=hrl.1;simpa using this
    have i3:=i2.add (key:=aI d 0) (E:=.box (some (C.sig f).made) bc) (π:=some { b:=pb,o:=0,size:=c.size,inn:=[] }) hk
     ⟨_,c,e,fz,rfl,rfl,hh1,XL,rfl,hlen,fun u hu=>(by cases hu;rw [<- hlen];exact hc1),hrl,hnF⟩
     (fun id e' p q hid hp hq b hb hb'=>by
      cases hq
      simp only [Entry.bs,List.mem_singleton] at hb'
      subst hb'
      exact hpA (xU id e' p hid hp _ hb))
    obtain ⟨s'',k5,k6,_⟩:=zV (v:=.cell (.ptr (aI d 0) 0)) (u:=.pointer (some ⟨pb,0,none⟩)) i3 ⟨_,_,_,upd_same _ _ _,upd_same _ _ _,rfl,rfl⟩ h
    rw [show dst=some d from hdst]
    exact ⟨s'',G',_,k5,k6,fr⟩
  ·simp at h
 ·simp at h
theorem XM (good:Good C) (Cz:Ib C ah) (g:Operand) (args:Array Operand) (argTypes:Array TypeId):mM C ah ⟨dst,.call ⟨.value g,args,argTypes⟩,type,pos,after,guard⟩:=by
 intro R F0 G s a w pl κ r Q i ht h
 simp only [mK] at h
 split at h
 ·rename_i f caps vs hsg hvs
  have hg:=i.slot g
  rw [hsg] at hg
  obtain ⟨XH,hgv,hcl,hcr⟩:=hg
  obtain ⟨hal,har⟩:=sP i hvs
  have hcall:=Cz.1
  unfold Iu at h
  split at h
  ·rename_i il hil
   cases hmk:(C.sig f).yK with
   | true=>
    rw [hmk] at h
    simp only [cond_true] at h
    split at h
    ·obtain rfl:XH=[]:=List.length_eq_zero_iff.1 hcl
     simp only [St.ev] at hsg
     cases hsg
     exact aa5 good Cz.2.2.2 hmk i ht hvs hgv h
    ·simp at h
   | false=>
   rw [hmk] at h
   simp only [cond_false] at h
   split at h
   ·rename_i id Rh
    have hcl:fB (mem F0 G w.heap s.ak pl) (.nL f caps) (a.eval g):=by have hh:=i.slot g;rw [hsg] at hh;exact hh
    split at h
    ·exact VK good Cz.2.2.1 i ht hvs Rh hcl h
    ·cases hlo:Oper.LG ⟨dst,.call ⟨.value g,args,argTypes⟩,type,pos,after,guard⟩ C with
     | false=>rw [hlo] at h;simp at h
     | true=>rw [hlo] at h;exact VK good Cz.2.2.1 i ht hvs Rh hcl h
   ·cases g <;> simp only [T.Ov] at h <;> try (cases h;done)
    simp only [St.ev] at hsg
    cases hsg
    exact XJ good Cz.2.1 i ht hvs h
  rename_i hil
  have hmk:(C.sig f).yK=false:=by unfold Sig.yK;rw [hil]
  split at h
  ·unfold Na at h
   split at h
   ·rename_i dst' fn hfn
    simp only at h
    split at h
    ·rename_i as cas rt has hcas hrt
     split at h
     ·simp at h
     ·rename_i Cw
      simp only [Bool.or_eq_true,Bool.and_eq_true,Bool.not_eq_true',not_or,not_and,Bool.not_eq_true,Bool.not_eq_false] at Cw
      obtain ⟨Cw,hcut⟩:=Cw
      simp only [T.run] at h
      rw [Option.bind_eq_some_iff] at h
      obtain ⟨r0,hr0,h⟩:=h
      rw [Option.bind_eq_some_iff] at hcas
      obtain ⟨zW,EL,hmap⟩:=hcas
      have pq:∀ b,F0 b\/G b->b<w.heap.size:=fun b hb=>i.ak.lt b hb
      have xU:∀ id e p,s.ak id=some e->pl id=some p->∀ b ∈ e.bs p,b<w.heap.size:=fun id e p he hp b hb=>i.ak.pU he hp b hb
      obtain ⟨Gc,KM,sD,aa7,hDa,hDc,hSo⟩:∃ Gc:Nat->Prop,(∀ b,G b->Gc b)/\(∀ b,Gc b->b<w.heap.size)/\(Gc=G\/((C.sig f).own=true/\rt.cut=true))/\(vs.any (fun v=>v.cells.any (kW s))=true->EO s pl Gc)/\(caps.any (kV s)=true->EO s pl Gc)/\(C.EF.contains f=true->∀ b,b<w.heap.size->Gc b):=by
       cases hso:C.EF.contains f with
       | true=>
        exact ⟨fun b=>b<w.heap.size,fun b hb=>pq b (.inr hb),fun _ h=>h,.inr (hcut (.inr hso)),fun _ id t l n p h1 h2 b hb=>i.ak.pU h1 h2 b (List.mem_cons_of_mem _ hb),fun _ id t l n p h1 h2 b hb=>i.ak.pU h1 h2 b (List.mem_cons_of_mem _ hb),fun _ _ h=>h⟩
       | false=>
       cases hd:jB s vs caps with
       | false=>
        simp only [jB,Bool.or_eq_false_iff] at hd
        exact ⟨G,fun _ h=>h,fun b hb=>pq b (.inr hb),.inl rfl,fun h=>(by rw [hd.1] at h;cases h),fun h=>(by rw [hd.2] at h;cases h),fun h=>(by cases h)⟩
       | true=>
        refine ⟨fun b=>G b\/∃ id t l n p,s.ak id=some (.deep t l n)/\pl id=some p/\b ∈ p.FW,fun b hb=>.inl hb,fun b hb=>?_,.inr (hcut (.inl hd)),fun _ id t l n p h1 h2 b hb=>.inr ⟨id,t,l,n,p,h1,h2,hb⟩,fun _ id t l n p h1 h2 b hb=>.inr ⟨id,t,l,n,p,h1,h2,hb⟩,fun h=>(by cases h)⟩
        rcases hb with hb | ⟨id,t,l,n,p,h1,h2,hb⟩
        ·exact pq b (.inr hb)
        ·exact i.ak.pU h1 h2 b (List.mem_cons_of_mem _ hb)
      have hcp:=EP i KM pq xU EL hcl hcr hDc
      have VN:=ES i KM pq xU sD has Cw hal har hDa
      have aa8:gZ (fun b=>b<w.heap.size) Gc w.heap (C.xV f as) (args.toList.map a.eval)/\∀ b ∈ C.xV f as,b.sO=false:=by
       unfold dh.xV
       cases hso:C.EF.contains f with
       | true=>
        simp only [cond_true]
        refine ⟨VN.solid (hSo hso),fun b hb=>?_⟩
        obtain ⟨b',hb',rfl⟩:=List.mem_map.1 hb
        have:=Bd has Cw b' hb'
        cases b' <;> first | rfl | exact this
       | false=>exact ⟨VN,fun b hb=>Bd has Cw b hb⟩
      have hargs:=aa8.1.append (Cy hmap hcp.1 hcp.2)
      rw [T.run_bind] at h
      refine OV good hcall hfn hmk hr0 i ht (fun b hb=>hb) pq xU KM sD aa7 (fun x y b c hx hy hb _=>?_) hargs hgv rfl h
      exfalso
      rcases List.mem_append.1 (List.mem_of_getElem? hx) with hm | hm
      ·rw [aa8.2 b hm] at hb;cases hb
      ·rw [Cx hmap b hm] at hb;cases hb
    ·simp at h
   ·simp at h
  ·rename_i x rr hsig
   cases g <;> simp only [T.Ov] at h <;> try (cases h;done)
   simp only [St.ev] at hsg
   cases hsg
   exact XI good hcall hmk i ht hvs h
 ·simp at h
end
end Go.Flat
