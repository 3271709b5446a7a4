/- The operation that calls. No condition. -/
import Derived.Test.YtmocpfgfjeaelaaGreatBox
set_option linter.unusedVariables false
set_option linter.unusedSimpArgs false
namespace Go.Flat
theorem Co {C:aZ} {F0:jo} {A G Gc:Nat->Prop} {s:St} {a:Act} {w:World} {pl:Nat->Option Pl} (i:Inv F0 G s a w pl) (HZ:∀ b,G b->Gc b) (lq:∀ b,F0 b\/G b->A b) (sF:∀ id e p,s.aj id=some e->pl id=some p->∀ b ∈ e.bs p,A b) (sV:∀ b,Gc b->A b) {io:List Nat}:∀ {ts:List TypeId} {vs:List av} {n:Nat} {as:List Arg} {us:List Value},
  nI C s io n ts vs=some as->wm as=false->us.length=vs.length->(∀ (j:Nat) c u,vs[j]? = some c->us[j]? = some u->dG (mem F0 G w.heap s.aj pl) c u)->(vs.any (fun v=>v.cells.any (jK s))=true->Ck s pl Gc)->iJ A Gc w.heap as us
 | ts,[],n,as,us,h,_,hl,_,_=>by
  have:as=[]:=by cases ts <;> simpa [nI] using h.symm
  subst this
  exact ⟨hl,fun i a v hi=>by simp at hi⟩
 | [],v :: vs,n,as,us,h,_,_,_,_=>by simp [nI] at h
 | t :: ts,v :: vs,n,as,us,h,zo,hl,hr,hD=>by
  simp only [nI] at h
  split at h
  ·rename_i x rest hx hrest
   simp at h
   subst h
   cases us with
   | nil=>simp at hl
   | cons u us=>
    have TD:wm rest=false:=by cases x <;> simp [wm] at zo <;> exact zo
    obtain ⟨k1,k2⟩:=Co i HZ lq sF sV hrest TD (by simpa using hl) (fun j c u' hj hu=>hr (j+1) c u' (by simpa using hj) (by simpa using hu)) (fun h=>hD (by rw [List.any_cons,h,Bool.or_true]))
    refine ⟨by simp [k1],fun j a' v' hj hv=>?_⟩
    cases j with
    | succ j=>exact k2 j a' v' (by simpa using hj) (by simpa using hv)
    | zero=>
     simp at hj hv
     subst hj hv
     have hval:lN C s t v=some x:=by
      unfold toArg at hx
      cases hc:io.contains n with
      | false=>rw [hc] at hx;exact hx
      | true=>
       rw [hc] at hx
       have hx:EI s v=some x:=hx
       exfalso
       unfold EI at hx
       split at hx
       ·split at hx
        ·simp at hx;subst hx;simp [wm] at zo
        ·cases hx
       ·split at hx
        ·obtain ⟨y,_,rfl⟩:=Option.map_eq_some_iff.1 hx;simp [wm] at zo
        ·cases hx
       ·cases hx
     exact LQ i HZ lq sF (hr 0 v u rfl rfl) hval sV (fun h=>hD (by rw [List.any_cons,h,Bool.true_or]))
  ·cases h
theorem yF {C:aZ} {s:St} {io:List Nat}:∀ {ts:List TypeId} {vs:List av} {n:Nat} {as:List Arg},nI C s io n ts vs=some as->wm as=false->∀ b ∈ as,b.uq=false
 | ts,[],n,as,h,_=>by
  have:as=[]:=by cases ts <;> simpa [nI] using h.symm
  subst this
  simp
 | [],v :: vs,n,as,h,_=>by simp [nI] at h
 | t :: ts,v :: vs,n,as,h,zo=>by
  simp only [nI] at h
  split at h
  ·rename_i y rest hy hrest
   simp at h
   subst h
   have TD:wm rest=false/\y.uq=false:=by cases y <;> simp [wm] at zo <;> exact ⟨zo,rfl⟩
   intro b hb
   rcases List.mem_cons.1 hb with rfl | hb
   ·exact TD.2
   ·exact yF hrest TD.1 b hb
  ·cases h
theorem zN:∀ {caps:List Cap} {as:List Arg},caps.mapM oH=some as->∀ b ∈ as,b.uq=false
 | [],as,h=>by simp at h;subst h;simp
 | c :: caps,as,h=>by
  rw [List.mapM_cons] at h
  simp only [Option.bind_eq_bind,Option.bind_eq_some_iff,Option.pure_def,Option.some.injEq] at h
  obtain ⟨x,hx,rest,hrest,rfl⟩:=h
  intro b hb
  rcases List.mem_cons.1 hb with rfl | hb
  ·exact Qa hx
  ·exact zN hrest b hb
theorem zO {A G:Nat->Prop} {h:Array Obj}:∀ {caps:List Cap} {as:List Arg} {us:List Value},caps.mapM oH=some as->us.length=caps.length->(∀ (j:Nat) c u,caps[j]? = some c->us[j]? = some u->mU (xw A G h) c u)->
  iJ A G h as us
 | [],as,us,h,hl,_=>by
  simp at h
  subst h
  exact ⟨hl,fun i a v hi=>by simp at hi⟩
 | c :: caps,as,us,h,hl,hr=>by
  rw [List.mapM_cons] at h
  simp only [Option.bind_eq_bind,Option.bind_eq_some_iff,Option.pure_def,Option.some.injEq] at h
  obtain ⟨x,hx,rest,hrest,rfl⟩:=h
  cases us with
  | nil=>simp at hl
  | cons u us=>
   obtain ⟨k1,k2⟩:=zO hrest (by simpa using hl) (fun j c u' hj hu=>hr (j+1) c u' (by simpa using hj) (by simpa using hu))
   refine ⟨by simp [k1],fun j a' v' hj hv=>?_⟩
   cases j with
   | succ j=>exact k2 j a' v' (by simpa using hj) (by simpa using hv)
   | zero=>
    simp at hj hv
    subst hj hv
    have hcr:=hr 0 c u rfl rfl
    cases c with
    | ptr _=>simp [oH] at hx
    | ro t y=>
     simp [oH] at hx
     subst hx
     obtain ⟨b,o,es,h1,h2,h3,h4⟩:=hcr
     exact ⟨b,o,es,by rw [Nat.add_zero];exact h1,h2,h3,h4⟩
theorem iJ.append {A G:Nat->Prop} {h:Array Obj} {as bs:List Arg} {us vs:List Value} (h1:iJ A G h as us) (h2:iJ A G h bs vs):iJ A G h (as++bs) (us++vs):=by
 refine ⟨by simp [h1.1,h2.1],fun i a v hi hv=>?_⟩
 rw [List.getElem?_append] at hi hv
 split at hi
 ·rename_i hlt
  rw [if_pos (by rw [h1.1];exact hlt)] at hv
  exact h1.2 i a v hi hv
 ·rename_i hlt
  rw [if_neg (by rw [h1.1];exact hlt),h1.1] at hv
  exact h2.2 _ a v hi hv
theorem lW {F0:jo} {G:Nat->Prop} {s:St} {a:Act} {w:World} {pl:Nat->Option Pl} (i:Inv F0 G s a w pl):∀ {xs:List Operand} {vs:List av},bg s xs=some vs->
  (xs.map a.eval).length=vs.length/\∀ (j:Nat) c u,vs[j]? = some c->(xs.map a.eval)[j]? = some u->dG (mem F0 G w.heap s.aj pl) c u
 | [],vs,h=>by simp [bg] at h;subst h;exact ⟨rfl,fun j c u hj=>by simp at hj⟩
 | x :: xs,vs,h=>by
  simp only [bg] at h
  split at h
  ·rename_i c r hs hr
   simp at h
   subst h
   obtain ⟨k1,k2⟩:=lW i hr
   refine ⟨by simpa using k1,fun j c' u hj hu=>?_⟩
   cases j with
   | succ j=>exact k2 j c' u (by simpa using hj) (by simpa using hu)
   | zero=>
    simp at hj hu
    subst hj hu
    have:=i.slot x
    rw [hs] at this
    exact this
  ·cases h
section
variable {C:aZ} {ah:FuncId->(t:Ty)->List Arg->Option t.den}
 {dst:Option Tmp} {type:TypeId} {pos:String} {after:Array Edge} {guard:Option (Nat × Bool)}
theorem Rd.plain {G G2 A A2:Nat->Prop} {h:Array Obj}:∀ {t:Ty} {x:t.den} {cs:List Value},t.plain=true->Rd G h t A x cs->Rd G2 h t A2 x cs
 | .bool,_,_,_,e=>e
 | .int _,_,_,_,e=>e
 | .str,_,_,_,e=>e
 | .unit,_,_,_,e=>e
 | .list _,_,_,hp,_=>by simp [Ty.plain] at hp
 | .aG _,_,_,hp,_=>by simp [Ty.plain] at hp
 | .pair a b,x,cs,hp,⟨c,d,e,h1,h2⟩=>by
  simp only [Ty.plain,Bool.and_eq_true] at hp
  exact ⟨c,d,e,h1.plain hp.1,h2.plain hp.2⟩
theorem aW.cut {G G2:Nat->Prop} {h:Array Obj}:∀ {t:Ty} {x:t.den} {cs:List Value} {ps:List (Option Pl)},aW true G h t x cs ps->t.cut=true->aW true G2 h t x cs ps
 | .bool,_,_,_,e,_=>e
 | .int _,_,_,_,e,_=>e
 | .str,_,_,_,e,_=>e
 | .unit,_,_,_,e,_=>e
 | .list t,l,cs,ps,H,hc=>by
  simp only [aW,if_true] at H ⊢
  obtain ⟨v,π,rfl,rfl,h1,h2,h3⟩:=H
  refine ⟨v,π,rfl,rfl,h1, ?_,h3⟩
  cases π with
  | none=>exact h2
  | some p=>
   obtain ⟨c,e,fz,k1,k2,k3,k4,k5⟩:=h2
   refine ⟨c,e,fz,k1,k2,k3,k4,fun i x hi=>?_⟩
   obtain ⟨es,h4,h5⟩:=k5 i x hi
   exact ⟨es,h4.plain hc,h5⟩
 | .aG t,l,cs,ps,H,hc=>by
  obtain ⟨v,π,rfl,rfl,h1,h2⟩:=fC.1 H
  refine fC.2 ⟨v,π,rfl,rfl,h1, ?_⟩
  cases π with
  | none=>exact h2
  | some p=>
   obtain ⟨c,e,fz,k1,k2,k3,k4,k5,k6,k7,k8⟩:=h2
   refine ⟨c,e,fz,k1,k2,k3,k4,k5,k6,k7,fun i x qs hi hq=>?_⟩
   obtain ⟨es,h4,h5⟩:=k8 i x qs hi hq
   exact ⟨es,aW.cut h4 hc,h5⟩
 | .pair a b,x,cs,ps,⟨c,d,p,q,h1,h2,h3,h4⟩,hc=>by
  simp only [Ty.cut,Bool.and_eq_true] at hc
  exact ⟨c,d,p,q,h1,h2,aW.cut h3 hc.1,aW.cut h4 hc.2⟩
theorem LX (good:Good C) (hcall:FR C ah) {R:Type} {F0:jo} {G:Nat->Prop} {s1:St} {a:Act} {w:World} {pl:Nat->Option Pl} {κ:St->Option R} {r:R} {Q:Exit->Act->World->Prop} {g:Operand} {args:Array Operand} {argTypes:Array TypeId}
  {f:FuncId} {fn:Func} {rt:Ty} {as:List Arg} {us TF:List Value} {r0:rt.den} {A Gc:Nat->Prop} (hfn:C.P.funcs[f]? = some fn) (hmk:(C.sig f).wI=false) (hr0:ah f rt as=some r0) (i1:Inv F0 G s1 a w pl) (ht:qz C w F0) (hA:∀ b,A b->b<w.heap.size)
  (lq:∀ b,F0 b\/G b->A b) (sF:∀ id e p,s1.aj id=some e->pl id=some p->∀ b ∈ e.bs p,A b) (HZ:∀ b,G b->Gc b) (sV:∀ b,Gc b->A b) (hcut:Gc=G\/((C.sig f).own=true/\rt.cut=true)) (hone:FQ as) (hargs:iJ A Gc w.heap as (us++TF)) (hgv:a.eval g=.func (.func f) #[] TF.toArray) (ZC:args.toList.map a.eval=us)
  (h:(jL s1 (fM (C.sig f).own (Nat.beq fn.resultTypes.size 1) (ak (dst.getD 0)) rt r0).2).run ah (fun s=>(s.put dst (fM (C.sig f).own (Nat.beq fn.resultTypes.size 1) (ak (dst.getD 0)) rt r0).1).run ah κ)=some r) :
  (⟨dst,.call ⟨.value g,args,argTypes⟩,type,pos,after,guard⟩:Oper).wp C.P a w (sS F0 G w κ r) Q:=by
 obtain ⟨hbody,xB⟩:=hcall f fn rt as r0 hfn hr0 hmk
 have hc:=xB w A Gc (us++TF) hA sV (ht.1.more fun b hb=>lq b (.inl hb)) hone hargs
 have hname:(fn.name == "runtime.NumGoroutine")=false:=by
  have:=Array.all_eq_true.1 good.names
  obtain ⟨hlt,hget⟩:=Array.getElem?_eq_some_iff.1 hfn
  have:=this f hlt
  rw [hget] at this
  simpa using this
 have gq:(execOp a.eval ⟨dst,.call ⟨.value g,args,argTypes⟩,type,pos,after,guard⟩).run C.P w=.ok (.enter f (us++TF).toArray) w:=by
  have hb:fn.body.isNone=false:=by cases hb:fn.body <;> simp [hb] at hbody ⊢
  subst ZC
  simp only [execOp,resolve,Sem.run_bind,hgv,Deferred.ofValue,Sem.run_pure,Result.andThen_ok,invoke,callFunc,run_program,hfn,hname,hb,Bool.false_eq_true,if_false]
  congr 2
  apply Array.ext'
  simp
 unfold Oper.wp
 rw [gq]
 refine Calls.mono hc fun e w' hpost=>?_
 obtain ⟨v,G1,ps,rfl,hsz,hstr,hh,hG,hnew,hres,hfresh,hnd⟩:=hpost
 show sS F0 G w κ r (a.put dst v) w'
 obtain ⟨G',hG,hnew,hres,hfresh⟩:∃ G':Nat->Prop,(∀ b,G b->G' b)/\(∀ b,G' b->G b\/(¬ A b/\b<w'.heap.size))/\zn (C.sig f).own (Nat.beq fn.resultTypes.size 1) rt G' w'.heap r0 v ps/\∀ b ∈ blks ps,¬ A b/\¬ G' b/\b<w'.heap.size:=by
  rcases hcut with e | ⟨h1,h2⟩
  ·subst e
   exact ⟨G1,hG,hnew,hres,hfresh⟩
  ·refine ⟨G,fun _ h=>h,fun _ h=>.inl h, ?_,fun b hb=>⟨(hfresh b hb).1,fun h=>(hfresh b hb).1 (lq b (.inr h)),(hfresh b hb).2.2⟩⟩
   obtain ⟨cs,k1,k2⟩:=hres
   rw [h1] at k1 ⊢
   exact ⟨cs,k1.cut h2,k2⟩
 obtain ⟨i2,fr⟩:=i1.Ut lq sF hsz (ht.str hstr) hh hG hnew
 obtain ⟨hrows,AQ⟩:=vB (key:=ak (dst.getD 0)) hres
 have hF:∀ b ∈ blks ps,¬ (F0 b\/G' b)/\b<w'.heap.size/\∀ id e q,s1.aj id=some e->pl id=some q->b ∉ e.bs q:=by
  intro b hb
  obtain ⟨k1,k2,k3⟩:=hfresh b hb
  refine ⟨fun h=>?_,k3,fun id e q hid hq hb'=>k1 (sF id e q hid hq b hb')⟩
  rcases h with h | h
  ·exact k1 (lq _ (.inl h))
  ·exact k2 h
 obtain ⟨s',kK,k1,k2,k3,k4⟩:=nR i2 hrows hF hnd h
 obtain ⟨s'',k5,k6,_⟩:=rA k2 (AQ _ rfl rfl k3) k1
 exact ⟨s'',G',kK,k5,k6,fr⟩
theorem oK.app {G:Nat->Prop} {h:Array Obj} {t:Ty} {l k:List t.den} {inn nV:List (List (Option Pl))} {c c2:List Value} (h1:oK G h t l inn c 0) (h2:oK G h t k nV c2 0) (n1:c.length=l.length*t.sz) (k1:inn.length=l.length):oK G h t (l++k) (inn++nV) (c++c2) 0:=by
 intro i x qs hi hq
 rw [List.getElem?_append] at hi hq
 by_cases hlt:i<l.length
 ·rw [if_pos hlt] at hi
  rw [if_pos (by omega)] at hq
  obtain ⟨es,hes,hj⟩:=h1 i x qs hi hq
  refine ⟨es,hes,fun j v hv=>?_⟩
  have hn:=hj j v hv
  rw [List.getElem?_append_left (List.getElem?_eq_some_iff.1 hn).1]
  exact hn
 ·rw [if_neg hlt] at hi
  rw [if_neg (by omega),k1] at hq
  obtain ⟨es,hes,hj⟩:=h2 _ x qs hi hq
  refine ⟨es,hes,fun j v hv=>?_⟩
  have hn:=hj j v hv
  have hsum:i*t.sz=l.length*t.sz+(i - l.length)*t.sz:=by rw [<- Nat.add_mul];congr 1;omega
  rw [List.getElem?_append_right (by omega),show 0+i*t.sz+j - c.length=0+(i - l.length)*t.sz+j by omega]
  exact hn
theorem oK.take {G:Nat->Prop} {h:Array Obj} {t:Ty} {l:List t.den} {inn:List (List (Option Pl))} {c:List Value} (H:oK G h t l inn c 0) (i:Nat):oK G h t (l.take i) (inn.take i) (c.take (i*t.sz)) 0:=by
 intro k x qs hk hq
 rw [List.getElem?_take] at hk hq
 split at hk
 ·rename_i hlt
  rw [if_pos hlt] at hq
  obtain ⟨es,hes,hj⟩:=H k x qs hk hq
  refine ⟨es,hes,fun j v hv=>?_⟩
  have hjl:j<t.sz:=by have:=(List.getElem?_eq_some_iff.1 hv).1;rwa [hes.len] at this
  have hmul:(k+1)*t.sz<=i*t.sz:=Nat.mul_le_mul_right _ hlt
  rw [Nat.add_mul,Nat.one_mul] at hmul
  rw [List.getElem?_take,if_pos (by omega)]
  exact hj j v hv
 ·cases hk
theorem oK.drop {G:Nat->Prop} {h:Array Obj} {t:Ty} {l:List t.den} {inn:List (List (Option Pl))} {c:List Value} (H:oK G h t l inn c 0) (i:Nat):oK G h t (l.drop i) (inn.drop i) (c.drop (i*t.sz)) 0:=by
 intro k x qs hk hq
 rw [List.getElem?_drop] at hk hq
 obtain ⟨es,hes,hj⟩:=H _ x qs hk hq
 refine ⟨es,hes,fun j v hv=>?_⟩
 have hn:=hj j v hv
 rw [List.getElem?_drop,show i*t.sz+(0+k*t.sz+j)=0+(i+k)*t.sz+j by rw [Nat.add_mul];omega]
 exact hn
theorem LY (inn:List (List (Option Pl))) (i:Nat):ib inn=ib (inn.take i)++ib (inn.drop i):=by rw [<- nQ,List.take_append_drop]
theorem FV {vs:List Value} (h:∀ x ∈ vs,one x=true):∀ x ∈ vs,x.oneCell'=true:=fun x hx=>by rw [Ci];exact h x hx
theorem Vi (good:Good C) {R:Type} {F0:jo} {G:Nat->Prop} {s:St} {a:Act} {w:World} {pl:Nat->Option Pl} {κ:St->Option R} {r:R} {Q:Exit->Act->World->Prop} {args:Array Operand} {argTypes:Array TypeId}
  {f:FuncId} {vs:List av} (hin:C.Le.contains f=true) (i:Inv F0 G s a w pl) (ht:qz C w F0) (hvs:bg s args.toList=some vs)
  (h:(uT C s ⟨dst,.call ⟨.value (.func f),args,argTypes⟩,type,pos,after,guard⟩ f vs).run ah κ=some r) :
  (⟨dst,.call ⟨.value (.func f),args,argTypes⟩,type,pos,after,guard⟩:Oper).wp C.P a w (sS F0 G w κ r) Q:=by
 obtain ⟨hal,har⟩:=lW i hvs
 unfold uT at h
 split at h
 ·rename_i e u d id k id2 hpar hdst
  split at h
  ·simp at h
  rename_i hne
  split at h
  ·rename_i v1 l v2 lb hst rT
   split at h
   ·rename_i l0 x hc1 hc2
    obtain ⟨e1,e2⟩:=bG hc1
    subst e1
    have e2:l=l0:=e2
    subst e2
    obtain ⟨e3,e4⟩:=bG hc2
    have e3:=e3.symm
    subst e3
    have e4:lb=[x]:=e4
    subst e4
    obtain ⟨hk0,h⟩:=T.eF ah h
    obtain ⟨hk1,h⟩:=T.eF ah h
    obtain ⟨hbig,h⟩:=T.eF ah h
    obtain ⟨K,rfl⟩:∃ K:Nat,k=(K:Int):=⟨k.toNat,by omega⟩
    have hK:K<=l.length:=by omega
    simp only [Int.toNat_natCast] at h
    match hv:args.toList.map a.eval,hal with
    | [x0,x1,x2],_=>
    have r0:bO (mem F0 G w.heap s.aj pl) (.fE id) x0:=har 0 _ x0 rfl (by rw [hv];rfl)
    have r1:bO (mem F0 G w.heap s.aj pl) (.int .i64 (K:Int)) x1:=har 1 _ x1 rfl (by rw [hv];rfl)
    have r2:bO (mem F0 G w.heap s.aj pl) (.fE id2) x2:=har 2 _ x2 rfl (by rw [hv];rfl)
    obtain rfl:x1=.int .i64 (K:Int):=r1
    have hsx:SliceAt v1.sz (pl id) 0 l.length x0:=by
     obtain ⟨t0,l0,p0,h1,h2⟩:=r0
     have h1:s.aj id=some (.deep t0 l0 p0):=h1
     rw [hst] at h1
     cases h1
     exact h2
    have hsy:SliceAt v1.sz (pl id2) 0 1 x2:=by
     obtain ⟨t0,l0,p0,h1,h2⟩:=r2
     have h1:s.aj id2=some (.deep t0 l0 p0):=h1
     rw [rT] at h1
     cases h1
     exact h2
    obtain ⟨fn,hfn,hp0⟩:=Option.bind_eq_some_iff.1 hpar
    obtain ⟨hbody,hC⟩:=good.ins f hin fn e v1 hfn hp0
    obtain ⟨i1,g1,old⟩:=i.drop (id:=id2) (fun t' cs h'=>by rw [rT] at h';cases h')
    have hF1:∀ p,pl id=some p->∀ b ∈ p.bs,b<w.heap.size/\¬ (F0 b\/G b):=fun p hp=>((i.aj.ent id _ hst).2 p hp).1
    have hF2:∀ p,pl id2=some p->∀ b ∈ p.bs,b<w.heap.size/\¬ (F0 b\/G b):=fun p hp=>((i.aj.ent id2 _ rT).2 p hp).1
    have hd1:iA G w.heap v1 l (pl id):=(i.aj.ent id _ hst).1
    have hd2:iA G w.heap v1 [x] (pl id2):=(i.aj.ent id2 _ rT).1
    obtain ⟨olds,jF,m1,m2,m3,m4,m5,m6,m7,m8⟩:=vw i hst
    obtain ⟨news,nV,n1,n2,n3,n4,n5,n6,n7,n8⟩:=vw i rT
    have ap:∀ p q,pl id=some p->pl id2=some q->∀ b ∈ p.bs,b ∉ q.bs:=fun p q hp hq b hb hb'=>i.aj.apart' id id2 _ _ p q hst rT hne hp hq b hb hb'
    cases hp2:pl id2 with
    | none=>
     rw [hp2] at hd2
     have hd2:[x]=[]:=hd2
     cases hd2
    | some p2=>
    rw [hp2] at hsy
    have hname:(fn.name == "runtime.NumGoroutine")=false:=by
     have:=Array.all_eq_true.1 good.names
     obtain ⟨hlt,hget⟩:=Array.getElem?_eq_some_iff.1 hfn
     have:=this f hlt
     rw [hget] at this
     simpa using this
    have gq:(execOp a.eval ⟨dst,.call ⟨.value (.func f),args,argTypes⟩,type,pos,after,guard⟩).run C.P w=.ok (.enter f #[x0,.int .i64 (K:Int),x2]) w:=by
     have hb:fn.body.isNone=false:=by cases hb:fn.body <;> simp [hb] at hbody ⊢
     have he:args.map a.eval=#[x0,.int .i64 (K:Int),x2]:=by
      apply Array.ext'
      rw [Array.toList_map,hv]
     simp only [execOp,resolve,Sem.run_bind,Act.eval,Deferred.ofValue,Sem.run_pure,Result.andThen_ok,invoke,callFunc,run_program,hfn,hname,hb,Bool.false_eq_true,if_false]
     congr 2
     apply Array.ext'
     have:=congrArg Array.toList he
     simpa using this
    have hc:=hC w (pl id) p2 x0 x2 olds news l.length K hsx hsy (fun p hp e=>ap p p2 hp hp2 p.b p.gI (e ▸ p2.gI)) (fun p hp=>by
      have WJ:=hd1
      rw [hp] at WJ
      obtain ⟨c,e,fz,k1,k2,k3,k4,k5,k6,k7,k8⟩:=WJ
      refine ⟨c,e,fz,k1,k2,k3,fun j z hj=>?_⟩
      have:=(m5 p hp).2 j z hj
      unfold hcell at this
      rw [k1] at this
      exact this) (by
      have WK:=hd2
      rw [hp2] at WK
      obtain ⟨c,e,fz,k1,k2,k3,k4,k5,k6,k7,k8⟩:=WK
      refine ⟨c,e,fz,k1,fun j z hj=>?_⟩
      have:=(n5 p2 hp2).2 j z hj
      unfold hcell at this
      rw [k1] at this
      exact this) m1 (by simpa using n1) (FV m4) (FV n4) hK hbig
    unfold Oper.wp
    rw [gq]
    refine Calls.mono hc fun e0 w' hpost=>?_
    obtain ⟨p,v',rfl,q1,⟨c,ee,fz,q2,q3,q4,q5,q6⟩,q7,q8,q9,YP,ZE⟩:=hpost
    have hLn:(l.take K++[x]++l.drop K).length=l.length+1:=by simp;omega
    have hlt1:(l.take K).length=K:=by rw [List.length_take];omega
    have Vj:(jF.take K).length=(l.take K).length:=by rw [List.length_take,List.length_take];omega
    have hKs:K*v1.sz<=l.length*v1.sz:=Nat.mul_le_mul_right _ hK
    have Vk:(olds.take (K*v1.sz)).length=(l.take K).length*v1.sz:=by rw [List.length_take,hlt1];omega
    have hrow:oK G w.heap v1 (l.take K++[x]++l.drop K) (jF.take K++nV++jF.drop K) (olds.take (K*v1.sz)++news++olds.drop (K*v1.sz)) 0:=
     (oK.app (oK.app (m3.take K) n3 Vk Vj) (m3.drop K) (by simp only [List.length_append,Vk,n1];rw [Nat.add_mul]) (by simp only [List.length_append,Vj,n2]))
    have WL:∀ b,b ∈ ib (jF.take K++nV++jF.drop K)->b ∈ ib jF\/b ∈ ib nV:=fun b hb=>by
     rw [nQ,nQ] at hb
     rw [LY jF K]
     simp only [List.mem_append] at hb ⊢
     rcases hb with (hb | hb) | hb
     ·exact .inl (.inl hb)
     ·exact .inr hb
     ·exact .inl (.inr hb)
    have b1:∀ b ∈ ib jF,b<w.heap.size/\¬ (F0 b\/G b)/\∃ p,pl id=some p/\b ∈ p.bs/\b ≠ p.b:=fun b hb=>by
     obtain ⟨h1,h2,h3,h4⟩:=m8 b hb
     cases hp:pl id with
     | none=>exact absurd hp h4
     | some q=>exact ⟨h1,h2,q,rfl,(h3 q hp).2,(h3 q hp).1⟩
    have b2:∀ b ∈ ib nV,b<w.heap.size/\¬ (F0 b\/G b)/\b ∈ p2.bs:=fun b hb=>⟨(n8 b hb).1,(n8 b hb).2.1,((n8 b hb).2.2.1 p2 hp2).2⟩
    have hold:∀ b,b ∈ ib (jF.take K++nV++jF.drop K)->b<w.heap.size/\b ≠ p.b/\∀ q,pl id=some q->b ≠ q.b:=fun b hb=>by
     have hq:b<w.heap.size/\∀ q,pl id=some q->b ≠ q.b:=by
      rcases WL b hb with hb | hb
      ·obtain ⟨h1,_,q,hq,_,h3⟩:=b1 b hb
       exact ⟨h1,fun q' hq'=>by rw [hq] at hq';cases hq';exact h3⟩
      ·obtain ⟨h1,_,h2⟩:=b2 b hb
       exact ⟨h1,fun q hq e=>ap q p2 hq hp2 q.b q.gI (e ▸ h2)⟩
     refine ⟨hq.1,fun e=>?_,hq.2⟩
     rcases YP with ⟨q,hq',e'⟩ | h'
     ·exact hq.2 q hq' (e.trans e')
     ·omega
    have hnd:(ib (jF.take K++nV++jF.drop K)).Nodup:=by
     have hperm:(ib (jF.take K++nV++jF.drop K)).Perm (ib jF++ib nV):=by
      rw [nQ,nQ,LY jF K,List.append_assoc,List.append_assoc]
      exact List.Perm.append_left _ List.perm_append_comm
     refine hperm.nodup_iff.2 (List.nodup_append.2 ⟨m6,n6,fun b hb c hc e=>?_⟩)
     subst e
     obtain ⟨_,_,q,hq,h2,_⟩:=b1 b hb
     exact ap q p2 hq hp2 b h2 (b2 b hc).2.2
    have LA:iA G w'.heap v1 (l.take K++[x]++l.drop K) (some ⟨p.b,p.o,p.size,jF.take K++nV++jF.drop K⟩):=by
     have:=Jl (h':=w'.heap) (p:=p) (lb:=[]) (nV:=[]) (RH:=[]) hrow (fun i x qs hi=>by simp at hi) (by simp only [List.length_append,Vk,n1,List.length_drop,m1,hlt1,hLn];rw [<- Nat.sub_mul,<- Nat.add_mul,<- Nat.add_mul];congr 1;simp;omega) (by simp only [List.length_append,Vj,n2,List.length_drop,m2]) rfl
      (fun b hb=>q9 b (i.aj.lt b (.inr hb)) (fun q hq e=>(hF1 q hq q.b q.gI).2 (.inr (e ▸ hb)))) (fun b hb=>by
       rw [List.append_nil] at hb
       exact q9 b (hold b hb).1 (hold b hb).2.2) ⟨c,ee,fz,q2,q3,q4,by simp only [List.length_nil,Nat.add_zero,hLn];exact q5,by simpa using q6⟩ (by
       rw [List.append_nil,List.nodup_cons]
       exact ⟨fun hb=>(hold _ hb).2.1 rfl,hnd⟩) (fun q hq=>by
       rw [List.append_nil] at hq
       obtain ⟨qs,QV,hq⟩:=List.mem_flatten.1 hq
       rcases List.mem_append.1 QV with QV | QV
       ·rcases List.mem_append.1 QV with QV | QV
        ·exact m7 q (List.mem_flatten.2 ⟨qs,List.mem_of_mem_take QV,hq⟩)
        ·exact n7 q (List.mem_flatten.2 ⟨qs,QV,hq⟩)
       ·exact m7 q (List.mem_flatten.2 ⟨qs,List.mem_of_mem_drop QV,hq⟩))
     simpa only [List.append_nil] using this
    have new:∀ b ∈ (⟨p.b,p.o,p.size,jF.take K++nV++jF.drop K⟩:Pl).bs,b<w'.heap.size/\(w.heap.size<=b\/(∃ p,pl id=some p/\b ∈ p.bs)\/b ∈ p2.bs):=by
     intro b hb
     rcases List.mem_cons.1 hb with e | hb
     ·have e:b=p.b:=e
      subst e
      exact ⟨ZE,by rcases YP with ⟨q,hq,e'⟩ | h';exact .inr (.inl ⟨q,hq,e' ▸ q.gI⟩);exact .inl h'⟩
     ·have hb:b ∈ ib (jF.take K++nV++jF.drop K):=hb
      rcases WL b hb with hb | hb
      ·obtain ⟨h1,_,q,hq,h2,_⟩:=b1 b hb
       exact ⟨Nat.lt_of_lt_of_le h1 q7,.inr (.inl ⟨q,hq,h2⟩)⟩
      ·obtain ⟨h1,_,h2⟩:=b2 b hb
       exact ⟨Nat.lt_of_lt_of_le h1 q7,.inr (.inr h2)⟩
    have hst':(s.drop id2).aj id=some (.deep v1 l none):=by
     show upd (s.kill id2).aj id2 none id=_
     rw [upd_ne _ _ hne]
     show (s.aj id).map _=_
     rw [hst]
     rfl
    obtain ⟨i',fr⟩:=i1.NM (id:=id) (E':=.deep v1 (l.take K++[x]++l.drop K) none) (π':=some ⟨p.b,p.o,p.size,jF.take K++nV++jF.drop K⟩) hst' (fun _ _ h=>by cases h) (fun p hp b hb=>(hF1 p hp b hb).2) q7 (ht.str q8) (fun b hb hb'=>q9 b hb (fun p hp e=>hb' p hp (e ▸ p.gI)))
     ⟨LA,fun q hq=>by
      cases hq
      exact ⟨fun b hb=>⟨(new b hb).1,fun hF=>by
       rcases (new b hb).2 with h1 | ⟨p,hp,h1⟩ | h1
       ·exact Nat.lt_irrefl _ (Nat.lt_of_lt_of_le (i.aj.lt _ hF) h1)
       ·exact (hF1 p hp b h1).2 hF
       ·exact (hF2 p2 hp2 b h1).2 hF⟩,fun k hk=>by cases hk⟩⟩
     (fun j e' q q' hj he hq hq' b hb hb'=>by
      cases hq'
      obtain ⟨hne',e'',he',rfl⟩:=old j e' he
      rw [Entry.og] at hb
      rcases (new b hb').2 with h1 | ⟨p,hp,h1⟩ | h1
      ·exact Nat.lt_irrefl _ (Nat.lt_of_lt_of_le (i.aj.jY he' hq b hb) h1)
      ·exact i.aj.apart' j id e'' _ q p he' hst hj hq hp b hb h1
      ·exact i.aj.apart' j id2 e'' _ q p2 he' rT hne' hq hp2 b hb h1) (fun _ _ _ h=>by cases h) (fun _ _ _ h=>by cases h)
    obtain ⟨s'',k5,k6,_⟩:=rA (u:=v') i' (v:=.cell (.fE id)) (by
     refine ⟨v1,_,none,upd_same _ _ _, ?_⟩
     show SliceAt _ (upd pl id _ id) _ _ _
     rw [upd_same,hLn]
     exact q1) h
    exact ⟨s'',G,_,k5,by rw [hdst];exact k6,fr⟩
   ·simp at h
  ·simp at h
 ·simp at h
theorem TG (good:Good C) (hcall:FR C ah) {R:Type} {F0:jo} {G:Nat->Prop} {s:St} {a:Act} {w:World} {pl:Nat->Option Pl} {κ:St->Option R} {r:R} {Q:Exit->Act->World->Prop} {args:Array Operand} {argTypes:Array TypeId}
  {f:FuncId} {vs:List av} {i0:Nat} (hmk:(C.sig f).wI=false) (i:Inv F0 G s a w pl) (ht:qz C w F0) (hvs:bg s args.toList=some vs)
  (h:(nX C s ⟨dst,.call ⟨.value (.func f),args,argTypes⟩,type,pos,after,guard⟩ f vs [] i0).run ah κ=some r) :
  (⟨dst,.call ⟨.value (.func f),args,argTypes⟩,type,pos,after,guard⟩:Oper).wp C.P a w (sS F0 G w κ r) Q:=by
 obtain ⟨hal,har⟩:=lW i hvs
 unfold nX at h
 split at h
 ·rename_i fn v hfn hv
  split at h
  ·rename_i T0 hT
   split at h
   ·rename_i hka
    simp only [Bool.and_eq_true] at hka
    split at h
    ·rename_i x ids hof
     cases hnd:nodup ids with
     | false=>rw [hnd] at h;cases h
     | true=>
      rw [hnd] at h
      simp only [cond_true] at h
      split at h
      ·rename_i as cas rt has hcas hrt
       split at h
       ·simp at h
       rename_i hdp
       simp only [gY,List.any_nil,Bool.or_false,Bool.not_eq_true] at hdp
       simp only [T.run] at h
       rw [Option.bind_eq_some_iff] at h
       obtain ⟨r0,hr0,h⟩:=h
       have RU:cas=[]:=by simpa [iW] using hcas.symm
       subst RU
       have hi0:i0<(args.toList.map a.eval).length:=by rw [hal];exact (List.getElem?_eq_some_iff.1 hv).1
       obtain ⟨u0,hu0⟩:∃ u0,(args.toList.map a.eval)[i0]? = some u0:=⟨_,List.getElem?_eq_getElem hi0⟩
       have hc0:=har i0 v u0 hv hu0
       obtain ⟨ps,hown,hblk⟩:=kE i.aj hof (eZ hka.1 hc0)
       have hval:=pU hka.1 hka.2 hc0
       have live:∀ j ∈ ids,Lv s.aj .give j:=ig hof
       have hbl:∀ b,b ∈ blks ps ↔ ∃ j ∈ ids,∃ p,pl j=some p/\b ∈ p.bs:=by
        intro b
        rw [hblk]
        simp only [List.mem_flatMap,List.mem_filterMap]
        exact ⟨fun ⟨p,⟨j,hj,hp⟩,hb⟩=>⟨j,hj,p,hp,hb⟩,fun ⟨j,hj,p,hp,hb⟩=>⟨p,⟨j,hj,hp⟩,hb⟩⟩
       have hfree:∀ b ∈ blks ps,¬ (F0 b\/G b)/\b<w.heap.size:=by
        intro b hb
        obtain ⟨j,hj,p,hp,hbp⟩:=(hbl b).1 hb
        obtain ⟨e,he,k1,_,k2⟩:=(live j hj).bs i.aj hp
        exact ⟨k2 rfl b hbp,i.aj.jY he hp b (k1 ▸ hbp)⟩
       obtain ⟨i1,old,kr⟩:=i.aJ (iR hnd) (fun j hj=>(live j hj).wo)
       have lq:∀ b,F0 b\/G b->(b<w.heap.size/\b ∉ blks ps):=fun b hb=>⟨i.aj.lt b hb,fun h=>(hfree b h).1 hb⟩
       have sF:∀ j e p,(s.aJ ids).aj j=some e->pl j=some p->∀ b ∈ e.bs p,(b<w.heap.size/\b ∉ blks ps):=by
        intro j e p he hp b hb
        obtain ⟨hj,e',he',hbs⟩:=old j e he
        rw [hbs p] at hb
        refine ⟨i.aj.jY he' hp b hb,fun h=>?_⟩
        obtain ⟨k,hk,q,hq,hbq⟩:=(hbl b).1 h
        obtain ⟨e2,he2,k1,_,_⟩:=(live k hk).bs i.aj hq
        exact i.aj.apart' j k e' e2 p q he' he2 (fun e=>hj (e ▸ hk)) hp hq b hb (k1 ▸ hbq)
       obtain ⟨m1,m2,m3⟩:=rE (A:=fun b=>b<w.heap.size/\b ∉ blks ps) (us:=args.toList.map a.eval) i1 lq sF has (by simpa using hal) (fun j c u hj hu=>by
        rw [List.getElem?_map] at hj
        obtain ⟨c',hc',rfl⟩:=Option.map_eq_some_iff.1 hj
        exact kr c' u (har j c' u hc' hu)) hdp
       have hai:=m3 i0 (by omega) (by rw [<- m1];exact hi0)
       have hnd':(blks ps).Nodup:=by rw [hblk];exact jP i.aj (iR hnd) live
       have hargs:iJ (fun b=>b<w.heap.size/\b ∉ blks ps) G w.heap (as++[]) (args.toList.map a.eval++[]):=by
        rw [List.append_nil,List.append_nil]
        refine ⟨m1,fun j a' v' hj hv'=>?_⟩
        by_cases hji:j=i0
        ·subst hji
         rw [hai] at hj
         cases hj
         rw [hu0] at hv'
         cases hv'
         exact ⟨_,ps,hown,hval,fun b hb=>⟨fun h=>h.2 hb,(hfree b hb).2⟩,hnd'⟩
        ·exact (m2 j a' v' (by omega) hj hv').2
       rw [T.run_bind] at h
       refine LX good hcall hfn hmk hr0 i1 ht (fun b hb=>hb.1) lq sF (fun _ h=>h) (fun b hb=>lq b (.inr hb)) (.inl rfl) (fun y z b c hy hz hb hc=>?_) hargs rfl rfl h
       have key:∀ {y b},(as++[])[y]? = some b->b.uq=true->y=i0:=by
        intro y b hy hb
        rw [List.append_nil] at hy
        refine Classical.byContradiction fun hne=>?_
        have hlt:y<(args.toList.map a.eval).length:=by rw [m1];exact (List.getElem?_eq_some_iff.1 hy).1
        have:=(m2 y b _ (by omega) hy (List.getElem?_eq_getElem hlt)).1
        rw [this] at hb
        cases hb
       exact (key hy hb).trans (key hz hc).symm
      ·simp at h
    ·simp at h
   ·simp at h
  ·simp at h
 ·simp at h
theorem TH (good:Good C) (RV:Kr C ah) {R:Type} {F0:jo} {G:Nat->Prop} {s:St} {a:Act} {w:World} {pl:Nat->Option Pl} {κ:St->Option R} {r:R} {Q:Exit->Act->World->Prop} {args:Array Operand} {argTypes:Array TypeId}
  {f:FuncId} {vs:List av} {i0:Nat} (i:Inv F0 G s a w pl) (ht:qz C w F0) (hvs:bg s args.toList=some vs)
  (h:(wR C s ⟨dst,.call ⟨.value (.func f),args,argTypes⟩,type,pos,after,guard⟩ f vs [] i0).run ah κ=some r) :
  (⟨dst,.call ⟨.value (.func f),args,argTypes⟩,type,pos,after,guard⟩:Oper).wp C.P a w (sS F0 G w κ r) Q:=by
 obtain ⟨hal,har⟩:=lW i hvs
 unfold wR at h
 split at h
 ·rename_i fn v hfn hv
  split at h
  ·rename_i T0 hT
   split at h
   ·rename_i hka
    simp only [Bool.and_eq_true] at hka
    split at h
    ·rename_i x ids hlo
     cases hnd:nodup (ids.filterMap id) with
     | false=>rw [hnd] at h;cases h
     | true=>
      rw [hnd] at h
      simp only [cond_true] at h
      split at h
      ·rename_i as cas rt has hcas hrt
       split at h
       ·simp at h
       rename_i hdp
       simp only [gY,List.any_nil,Bool.or_false,Bool.not_eq_true] at hdp
       simp only [T.run] at h
       rw [Option.bind_eq_some_iff] at h
       obtain ⟨r0,hr0,h⟩:=h
       split at h
       ·rename_i s2 hset
        have RU:cas=[]:=by simpa [iW] using hcas.symm
        subst RU
        rw [List.append_nil] at hr0
        have hi0:i0<(args.toList.map a.eval).length:=by rw [hal];exact (List.getElem?_eq_some_iff.1 hv).1
        obtain ⟨u0,hu0⟩:∃ u0,(args.toList.map a.eval)[i0]? = some u0:=⟨_,List.getElem?_eq_getElem hi0⟩
        have hc0:=har i0 v u0 hv hu0
        obtain ⟨ws,us',hws,how,hrest,hrel⟩:=NV i.aj hlo (eZ hka.1 hc0)
        have Yd:us'=[]:=List.eq_nil_of_length_eq_zero hrest.1
        subst Yd
        rw [List.append_nil] at hws
        subst hws
        have hval:=pU hka.1 hka.2 hc0
        have mem:∀ {j},j ∈ ids.filterMap id ↔ some j ∈ ids:=by
         intro j
         rw [List.mem_filterMap]
         exact ⟨fun ⟨y,hy,e⟩=>by rw [<- e];exact hy,fun h=>⟨some j,h,rfl⟩⟩
        have Uv:∀ j ∈ ids.filterMap id,∃ e,s.aj j=some e/\Uu e:=fun j hj=>hrel.live j (mem.1 hj)
        have live:∀ j ∈ ids.filterMap id,Lv s.aj .look j:=fun j hj=>by
         obtain ⟨e,h1,⟨u,l,o,rfl,_⟩ | ⟨u,l,n,rfl⟩⟩:=Uv j hj
         ·exact .inl ⟨u,l,o,h1,fun h=>by cases h⟩
         ·exact .inr ⟨u,l,n,h1,fun h=>by cases h⟩
        have WM:∀ j ∈ ids.filterMap id,∀ p,pl j=some p->∃ e,s.aj j=some e/\e.bs p=p.bs/\∀ b ∈ p.bs,¬ (F0 b\/G b)/\b<w.heap.size:=by
         intro j hj p hp
         obtain ⟨e,h1,h2⟩:=Uv j hj
         obtain ⟨e',h3,h4,_,_⟩:=(live j hj).bs i.aj hp
         have h3:s.aj j=some e':=h3
         rw [h1] at h3
         cases h3
         refine ⟨e,h1,h4,fun b hb=>?_⟩
         have hent:=i.aj.ent j _ h1
         rcases h2 with ⟨u,l,o,rfl,ho⟩ | ⟨u,l,n,rfl⟩
         ·have hb:b=p.b:=by rw [<- h4] at hb;simpa [Entry.bs] using hb
          subst hb
          exact ⟨(hent.2 p hp).2 ho,i.aj.Rt h1 hp⟩
         ·exact ⟨((hent.2 p hp).1 b hb).2,((hent.2 p hp).1 b hb).1⟩
        obtain ⟨i1,old,kr⟩:=i.aJ (iR hnd) (fun j hj=>(live j hj).wo)
        have lq:∀ b,F0 b\/G b->(b<w.heap.size/\∀ j ∈ ids.filterMap id,∀ p,pl j=some p->b ∉ p.bs):=fun b hb=>⟨i.aj.lt b hb,fun j hj p hp hbp=>by
         obtain ⟨e,_,_,h⟩:=WM j hj p hp
         exact (h b hbp).1 hb⟩
        have NW:∀ j e p,j ∉ ids.filterMap id->s.aj j=some e->pl j=some p->∀ b ∈ e.bs p,(b<w.heap.size/\∀ k ∈ ids.filterMap id,∀ q,pl k=some q->b ∉ q.bs):=by
         intro j e p hj he hp b hb
         refine ⟨i.aj.jY he hp b hb,fun k hk q hq hbq=>?_⟩
         obtain ⟨e',h1,h2,_⟩:=WM k hk q hq
         exact i.aj.apart' j k e e' p q he h1 (fun e=>hj (e ▸ hk)) hp hq b hb (h2 ▸ hbq)
        have sF:∀ j e p,(s.aJ (ids.filterMap id)).aj j=some e->pl j=some p->∀ b ∈ e.bs p,(b<w.heap.size/\∀ k ∈ ids.filterMap id,∀ q,pl k=some q->b ∉ q.bs):=by
         intro j e p he hp b hb
         obtain ⟨hj,e',he',hbs⟩:=old j e he
         exact NW j e' p hj he' hp b (hbs p ▸ hb)
        obtain ⟨m1,m2,m3⟩:=rE (A:=fun b=>b<w.heap.size/\∀ j ∈ ids.filterMap id,∀ p,pl j=some p->b ∉ p.bs) (us:=args.toList.map a.eval) i1 lq sF has (by simpa using hal) (fun j c u hj hu=>by
         rw [List.getElem?_map] at hj
         obtain ⟨c',hc',rfl⟩:=Option.map_eq_some_iff.1 hj
         exact kr c' u (har j c' u hc' hu)) hdp
        have hai:=m3 i0 (by omega) (by rw [<- m1];exact hi0)
        obtain ⟨hbody,hc⟩:=RV f fn rt T0 x i0 as r0 hfn hr0 hai
        have hfm:((ids.map fun j=>j.bind pl).filterMap id)=(ids.filterMap id).filterMap pl:=by
         rw [List.filterMap_map,List.filterMap_filterMap]
         rfl
        have how':aW true G w.heap T0 x u0.cells.toList (ids.map fun j=>Option.bind j pl):=how
        have hbl:∀ b,b ∈ blks (ids.map fun j=>Option.bind j pl) ↔ ∃ j ∈ ids.filterMap id,∃ p,pl j=some p/\b ∈ p.bs:=by
         intro b
         unfold blks
         rw [hfm]
         simp only [List.mem_flatMap,List.mem_filterMap (f:=pl)]
         exact ⟨fun ⟨p,⟨j,hj,hp⟩,hb⟩=>⟨j,hj,p,hp,hb⟩,fun ⟨j,hj,p,hp,hb⟩=>⟨p,⟨j,hj,hp⟩,hb⟩⟩
        have hc:=hc w (fun b=>b<w.heap.size/\∀ j ∈ ids.filterMap id,∀ p,pl j=some p->b ∉ p.bs) G (args.toList.map a.eval) u0 u0.cells.toList (ids.map fun j=>Option.bind j pl) (fun b hb=>hb.1) (fun b hb=>lq b (.inr hb)) (ht.1.more fun b hb=>lq b (.inl hb)) m1 hu0
         ⟨how',hval,fun b hb=>by
          obtain ⟨j,hj,p,hp,hb⟩:=(hbl b).1 hb
          obtain ⟨_,_,_,h⟩:=WM j hj p hp
          exact ⟨fun hA=>hA.2 j hj p hp hb,(h b hb).2⟩,by
          unfold blks
          rw [hfm]
          exact jP i.aj (iR hnd) live⟩ (fun j a' v' hne hj hv'=>m2 j a' v' (by omega) hj hv')
        have hname:(fn.name == "runtime.NumGoroutine")=false:=by
         have:=Array.all_eq_true.1 good.names
         obtain ⟨hlt,hget⟩:=Array.getElem?_eq_some_iff.1 hfn
         have:=this f hlt
         rw [hget] at this
         simpa using this
        have gq:(execOp a.eval ⟨dst,.call ⟨.value (.func f),args,argTypes⟩,type,pos,after,guard⟩).run C.P w=.ok (.enter f (args.toList.map a.eval).toArray) w:=by
         have hb:fn.body.isNone=false:=by cases hb:fn.body <;> simp [hb] at hbody ⊢
         have hgv:a.eval (.func f)=.func (.func f) #[] #[]:=rfl
         simp only [execOp,resolve,Sem.run_bind,hgv,Deferred.ofValue,Sem.run_pure,Result.andThen_ok,invoke,callFunc,run_program,hfn,hname,hb,Bool.false_eq_true,if_false]
         congr 2
         apply Array.ext'
         simp
        unfold Oper.wp
        rw [gq]
        refine Calls.mono hc fun e w' hpost=>?_
        obtain ⟨v',G',qs,rfl,hsz,hstr,hh,hG,hnew,hres,hfresh,RX,hback,RY⟩:=hpost
        show sS F0 G w κ r (a.put dst v') w'
        obtain ⟨_,e1,e2,k1,k2⟩:=vD (rest:=[]) hrel (fun _ _=>rfl) (iR hnd) hback (by rw [List.append_nil];exact hset)
        have WO:∀ {j p b},j ∈ ids.filterMap id->pl j=some p->b ∈ p.bs->b ∈ blks (ids.map fun j=>Option.bind j pl):=fun {j p b} hj hp hb=>(hbl b).2 ⟨j,hj,p,hp,hb⟩
        obtain ⟨i2,fr⟩:=i.LV (G':=G') (Td:=ids.filterMap id) e1 e2 (fun j hj=>k1 j (fun h=>hj (mem.2 h))) (fun j hj=>by
         obtain ⟨e,e',h1,h2,h3⟩:=k2 j (mem.1 hj)
         have h1:s.aj j=some e:=h1
         refine ⟨e,e',h1,h2,h3,fun p hp b hb=>?_⟩
         obtain ⟨e0,h4,h5,h6⟩:=WM j hj p hp
         rw [h1] at h4
         cases h4
         rw [h5] at hb
         exact ⟨(RY b (WO hj hp hb)).1,Nat.lt_of_lt_of_le (h6 b hb).2 hsz⟩) lq NW hsz (ht.str hstr) hh hG hnew
        obtain ⟨hrows,AQ⟩:=vB (key:=ak (dst.getD 0)) hres
        have hF:∀ b ∈ blks qs,¬ (F0 b\/G' b)/\b<w'.heap.size/\∀ j e q,s2.aj j=some e->pl j=some q->b ∉ e.bs q:=by
         intro b hb
         obtain ⟨n1,n2,n3⟩:=hfresh b hb
         refine ⟨fun h=>?_,n3,fun j e q hj hq hbq=>?_⟩
         ·rcases h with h | h
          ·exact n1 (lq _ (.inl h))
          ·exact n2 h
         ·by_cases hji:j ∈ ids.filterMap id
          ·obtain ⟨e0,e',h1,h2,h3⟩:=k2 j (mem.1 hji)
           have h1:s.aj j=some e0:=h1
           rw [hj] at h2
           cases h2
           obtain ⟨e9,h4,h5,h6⟩:=WM j hji q hq
           rw [h1] at h4
           cases h4
           rw [h3.bs,h5] at hbq
           exact (RY b (WO hji hq hbq)).2 hb
          ·have hj':s.aj j=some e:=(k1 j (fun h=>hji (mem.2 h))).symm.trans hj
           exact n1 (NW j e q hji hj' hq b hbq)
        rw [T.run_bind] at h
        obtain ⟨s',kK,n1,n2,n3,n4⟩:=nR i2 hrows hF RX h
        obtain ⟨s'',n5,n6,_⟩:=rA n2 (AQ _ rfl rfl n3) n1
        exact ⟨s'',G',kK,n5,n6,fr⟩
       ·simp at h
      ·simp at h
    ·simp at h
   ·simp at h
  ·simp at h
 ·simp at h
theorem RZ {p:Pl} (hn:p.tT.Nodup) {i j:Nat} {qs Pf:List (Option Pl)} (hi:p.inn[i]? = some qs) (hj:p.inn[j]? = some Pf) (hne:i ≠ j) {q q':Pl} (hq:some q ∈ qs) (hq':some q' ∈ Pf):q.b ≠ q'.b:=by
 have e:p.tT=(p.inn.map fun qs=>(qs.filterMap id).map Pl.b).flatten:=by
  simp [Pl.tT,List.filterMap_flatten,List.map_flatten,Function.comp_def]
 rw [e] at hn
 have hp:=(List.pairwise_flatten.1 hn).2
 rw [List.pairwise_map] at hp
 have key:∀ {i j:Nat} {qs Pf:List (Option Pl)} {q q':Pl},i<j->p.inn[i]? = some qs->p.inn[j]? = some Pf->some q ∈ qs->some q' ∈ Pf->q.b ≠ q'.b:=by
  intro i j qs Pf q q' hlt hi hj hq hq' e
  obtain ⟨h1,rfl⟩:=List.getElem?_eq_some_iff.1 hi
  obtain ⟨h2,rfl⟩:=List.getElem?_eq_some_iff.1 hj
  have:=List.pairwise_iff_getElem.1 hp i j h1 h2 hlt
  exact this q.b (List.mem_map.2 ⟨q,List.mem_filterMap.2 ⟨_,hq,rfl⟩,rfl⟩) q'.b (List.mem_map.2 ⟨q',List.mem_filterMap.2 ⟨_,hq',rfl⟩,rfl⟩) e
 rcases Nat.lt_or_gt_of_ne hne with h | h
 ·exact key h hi hj hq hq'
 ·exact (key h hj hi hq' hq).symm
theorem zP {G:Nat->Prop} {h:Array Obj}:∀ {u:Ty} {x:u.den} {es:List Value} {qs:List (Option Pl)} {off:Nat} {t:Ty} {l:List t.den},aW true G h u x es qs->qm u off x=some ⟨t,l⟩->
  ∃ v π,es[off]? = some v/\π ∈ qs/\SliceAt t.sz π 0 l.length v/\lS G h t l π/\uX π/\(jq u)[off]? = some true/\∀ (G':Nat->Prop) (h':Array Obj) (l':List t.den) (y:u.den),uU u off x t l'=some y->l'.length=l.length->lS G' h' t l' π->(∀ b,G b->G' b)->(∀ b,G b->h'[b]? = h[b]?)->
   (∀ b ∈ blks qs,(∀ p,π=some p->b ≠ p.b)->h'[b]? = h[b]?)->(blks qs).Nodup->aW true G' h' u y es qs
 | .bool,_,_,_,off,_,_,_,hl=>by cases off <;> simp [qm] at hl
 | .int _,_,_,_,off,_,_,_,hl=>by cases off <;> simp [qm] at hl
 | .str,_,_,_,off,_,_,_,hl=>by cases off <;> simp [qm] at hl
 | .unit,_,_,_,off,_,_,_,hl=>by cases off <;> simp [qm] at hl
 | .aG _,_,_,_,off,_,_,_,hl=>by cases off <;> simp [qm] at hl
 | .list t0,x,es,qs,off,t,l,H,hl=>by
  cases off with
  | succ off=>simp [qm] at hl
  | zero=>
   simp only [qm,Option.some.injEq,Sigma.mk.injEq] at hl
   obtain ⟨rfl,hl⟩:=hl
   cases hl
   simp only [aW,if_true] at H
   obtain ⟨v,π,rfl,rfl,h1,h2,h3⟩:=H
   refine ⟨v,π,rfl,by simp,h1,h2,h3,rfl,fun G' h' l' y hy hlen ha _ _ _ _=>?_⟩
   simp only [uU] at hy
   obtain ⟨_,rfl⟩:=bG hy
   simp only [aW,if_true]
   exact ⟨v,π,rfl,rfl,by rw [hlen];exact h1,ha,h3⟩
 | .pair a b,x,es,qs,off,t,l,⟨c,d,p,q,e1,e2,h3,h4⟩,hl=>by
  subst e1 e2
  have hcl:=h3.len
  have hfl:=nL a
  simp only [qm] at hl
  split at hl
  ·rename_i hlt
   obtain ⟨v,π,k1,k2,k3,k4,k5,k6,k7⟩:=zP h3 hl
   refine ⟨v,π,by rw [List.getElem?_append_left (by omega)];exact k1,List.mem_append_left _ k2,k3,k4,k5,by simp only [jq];rw [List.getElem?_append_left (by omega)];exact k6,fun G' h' l' y hy hlen ha hG hs hb hn=>?_⟩
   simp only [uU,if_pos hlt] at hy
   obtain ⟨y1,hy1,rfl⟩:=Option.map_eq_some_iff.1 hy
   rw [lV] at hn
   obtain ⟨n1,n2,n3⟩:=List.nodup_append.1 hn
   refine ⟨c,d,p,q,rfl,rfl,k7 G' h' l' y1 hy1 hlen ha hG hs (fun b hbp=>hb b (by rw [lV];exact List.mem_append_left _ hbp)) n1,aW.move hG hs (fun b hbq=>hb b (by rw [lV];exact List.mem_append_right _ hbq) fun pp hpp e=>?_) h4⟩
   refine n3 b ?_ b hbq rfl
   subst e hpp
   simp only [blks,List.mem_flatMap,List.mem_filterMap,id]
   exact ⟨pp,⟨_,k2,rfl⟩,pp.gI⟩
  ·rename_i hge
   obtain ⟨v,π,k1,k2,k3,k4,k5,k6,k7⟩:=zP h4 hl
   refine ⟨v,π,by rw [List.getElem?_append_right (by omega),hcl];exact k1,List.mem_append_right _ k2,k3,k4,k5,by simp only [jq];rw [List.getElem?_append_right (by omega),hfl];exact k6,fun G' h' l' y hy hlen ha hG hs hb hn=>?_⟩
   simp only [uU,if_neg hge] at hy
   obtain ⟨y1,hy1,rfl⟩:=Option.map_eq_some_iff.1 hy
   rw [lV] at hn
   obtain ⟨n1,n2,n3⟩:=List.nodup_append.1 hn
   refine ⟨c,d,p,q,rfl,rfl,aW.move hG hs (fun b hbq=>hb b (by rw [lV];exact List.mem_append_left _ hbq) fun pp hpp e=>?_) h3,k7 G' h' l' y1 hy1 hlen ha hG hs (fun b hbp=>hb b (by rw [lV];exact List.mem_append_right _ hbp)) n2⟩
   refine n3 b hbq b ?_ rfl
   subst e hpp
   simp only [blks,List.mem_flatMap,List.mem_filterMap,id]
   exact ⟨pp,⟨_,k2,rfl⟩,pp.gI⟩
theorem Vl (good:Good C) (RV:Kr C ah) {R:Type} {F0:jo} {G:Nat->Prop} {s:St} {a:Act} {w:World} {pl:Nat->Option Pl} {κ:St->Option R} {r:R} {Q:Exit->Act->World->Prop} {args:Array Operand} {argTypes:Array TypeId}
  {f:FuncId} {vs:List av} {i0 id j off:Nat} (i:Inv F0 G s a w pl) (ht:qz C w F0) (hvs:bg s args.toList=some vs) (HY:vs[i0]? = some (.cell (.inn id j off)))
  (h:(EJ C s ⟨dst,.call ⟨.value (.func f),args,argTypes⟩,type,pos,after,guard⟩ f vs i0 id j off).run ah κ=some r) :
  (⟨dst,.call ⟨.value (.func f),args,argTypes⟩,type,pos,after,guard⟩:Oper).wp C.P a w (sS F0 G w κ r) Q:=by
 obtain ⟨hal,har⟩:=lW i hvs
 unfold EJ at h
 split at h
 ·rename_i fn u l n hfn lK
  have hjl:j<l.length:=by
   have hi0:i0<(args.toList.map a.eval).length:=by rw [hal];exact (List.getElem?_eq_some_iff.1 HY).1
   obtain ⟨t',l0,n',h1,h2,_⟩:=har i0 _ _ HY (List.getElem?_eq_getElem hi0)
   have h1:s.aj id=some (.deep t' l0 (some n')):=h1
   rw [lK] at h1
   cases h1
   exact h2
  ·split at h
   ·rename_i t x hla
    split at h
    ·rename_i as rt has hrt
     split at h
     ·simp at h
     rename_i hdp
     simp only [gY,List.any_nil,Bool.or_false,Bool.not_eq_true] at hdp
     simp only [T.run] at h
     rw [Option.bind_eq_some_iff] at h
     obtain ⟨r0,hr0,h⟩:=h
     split at h
     ·rename_i y hset
      have hi0:i0<(args.toList.map a.eval).length:=by rw [hal];exact (List.getElem?_eq_some_iff.1 HY).1
      obtain ⟨u0,hu0⟩:∃ u0,(args.toList.map a.eval)[i0]? = some u0:=⟨_,List.getElem?_eq_getElem hi0⟩
      have hc0:=har i0 _ u0 HY hu0
      obtain ⟨t',l0,n',h1,_,hfl,hu,YQ⟩:=hc0
      have h1:s.aj id=some (.deep t' l0 (some n')):=h1
      rw [lK] at h1
      cases h1
      obtain ⟨hd,hent⟩:=i.aj.ent id _ lK
      have hd:iA G w.heap u l (pl id):=hd
      obtain ⟨p,hp⟩:∃ p,pl id=some p:=by
       cases hp:pl id with
       | none=>rw [hp] at hd;have hd:l=[]:=hd;subst hd;simp at hjl
       | some p=>exact ⟨p,rfl⟩
      have hd0:=hd
      rw [hp] at hd
      obtain ⟨c,e,fz,k1,k2,k3,k4,k5,k6,k7,k8⟩:=hd
      obtain ⟨hblk,Cg⟩:=hent p hp
      have Cg:=Cg n rfl
      have hgd:l.getD j u.dflt=l[j]:=by simp [List.getD,List.getElem?_eq_getElem hjl]
      rw [hgd] at hla hset
      obtain ⟨es,hes,WQ⟩:=k8 j l[j] p.inn[j] (List.getElem?_eq_getElem hjl) (List.getElem?_eq_getElem (by omega))
      obtain ⟨v,π,g1,g2,g3,g4,g5,g6,g7⟩:=zP hes hla
      have hv:v=u0:=by
       have h2:=Cg j off hjl hfl
       have h3:=WQ off v g1
       have h2:hcell w.heap p.b (p.o+j*u.sz+off)=some ((Flat.mem F0 G w.heap s.aj pl).inn n j off):=h2
       unfold hcell at h2
       rw [k1] at h2
       have h2:c[p.o+j*u.sz+off]? = _:=h2
       rw [h3] at h2
       exact (Option.some.inj h2).trans hu.symm
      subst hv
      have Qb:p.bs.Nodup:=k6
      simp only [Pl.bs,List.nodup_cons] at k6
      have JY:p.inn[j]? = some p.inn[j]:=List.getElem?_eq_getElem (by omega)
      have XI:∀ q,π=some q->q.b ∈ p.tT:=fun q hq=>Pl.sj (List.getElem_mem (by omega:j<p.inn.length)) (hq ▸ g2)
      have hblk:∀ b ∈ p.bs,b<w.heap.size/\¬ (F0 b\/G b):=hblk
      have hnb:∀ t cs,s.aj id ≠ some (.box t cs):=fun t cs h=>by rw [lK] at h;cases h
      obtain ⟨i1,gd,old⟩:=i.drop hnb
      have lq:∀ b,F0 b\/G b->(b<w.heap.size/\∀ q,π=some q->b ≠ q.b):=fun b hb=>⟨i.aj.lt b hb,fun q hq e=>(hblk q.b (List.mem_cons_of_mem _ (XI q hq))).2 (e ▸ hb)⟩
      have NW:∀ k e q,k ≠ id->s.aj k=some e->pl k=some q->∀ b ∈ e.bs q,(b<w.heap.size/\∀ q,π=some q->b ≠ q.b):=by
       intro k e' q hk he hq b hb
       refine ⟨i.aj.jY he hq b hb,fun q' hq' e=>?_⟩
       subst e
       exact i.aj.apart' k id e' _ q p he lK hk hq hp _ hb (List.mem_cons_of_mem _ (XI q' hq'))
      have sF:∀ k e q,(s.drop id).aj k=some e->pl k=some q->∀ b ∈ e.bs q,(b<w.heap.size/\∀ q,π=some q->b ≠ q.b):=by
       intro k e' q he hq b hb
       obtain ⟨hk,e'',Ye,rfl⟩:=old k e' he
       rw [Entry.og] at hb
       exact NW k e'' q hk Ye hq b hb
      obtain ⟨m1,m2,m3⟩:=rE (A:=fun b=>b<w.heap.size/\∀ q,π=some q->b ≠ q.b) (us:=args.toList.map a.eval) i1 lq sF has (by simpa using hal) (fun k c u hj hu=>by
       rw [List.getElem?_map] at hj
       obtain ⟨c',hc',rfl⟩:=Option.map_eq_some_iff.1 hj
       exact yE gd hnb (har k c' u hc' hu)) hdp
      have hai:=m3 i0 (by omega) (by rw [<- m1];exact hi0)
      obtain ⟨hbody,hc⟩:=RV f fn rt (.list t) x i0 as r0 hfn hr0 hai
      have hbl:∀ b,b ∈ blks [π] ↔ ∃ q,π=some q/\b=q.b:=by
       intro b
       cases π with
       | none=>simp [blks]
       | some q=>simp [blks,Pl.pE (g5 q rfl)]
      have hc:=hc w (fun b=>b<w.heap.size/\∀ q,π=some q->b ≠ q.b) G (args.toList.map a.eval) v [v] [π] (fun b hb=>hb.1) (fun b hb=>lq b (.inr hb)) (ht.1.more fun b hb=>lq b (.inl hb)) m1 hu0
       ⟨by simp only [aW,if_true];exact ⟨v,π,rfl,rfl,g3,g4,g5⟩,rfl,fun b hb=>by
        obtain ⟨q,hq,rfl⟩:=(hbl b).1 hb
        exact ⟨fun hA=>hA.2 q hq rfl,(hblk _ (List.mem_cons_of_mem _ (XI q hq))).1⟩,by
        cases π with
        | none=>simp [blks]
        | some q=>simp [blks,Pl.pE (g5 q rfl)]⟩ (fun k a' v' hne hj hv'=>m2 k a' v' (by omega) hj hv')
      have hname:(fn.name == "runtime.NumGoroutine")=false:=by
       have:=Array.all_eq_true.1 good.names
       obtain ⟨hlt,hget⟩:=Array.getElem?_eq_some_iff.1 hfn
       have:=this f hlt
       rw [hget] at this
       simpa using this
      have gq:(execOp a.eval ⟨dst,.call ⟨.value (.func f),args,argTypes⟩,type,pos,after,guard⟩).run C.P w=.ok (.enter f (args.toList.map a.eval).toArray) w:=by
       have hb:fn.body.isNone=false:=by cases hb:fn.body <;> simp [hb] at hbody ⊢
       have hgv:a.eval (.func f)=.func (.func f) #[] #[]:=rfl
       simp only [execOp,resolve,Sem.run_bind,hgv,Deferred.ofValue,Sem.run_pure,Result.andThen_ok,invoke,callFunc,run_program,hfn,hname,hb,Bool.false_eq_true,if_false]
       congr 2
       apply Array.ext'
       simp
      unfold Oper.wp
      rw [gq]
      refine Calls.mono hc fun e' w' hpost=>?_
      obtain ⟨v',G',qs,rfl,hsz,hstr,hh,hG,hnew,hres,hfresh,RX,hback,RY⟩:=hpost
      show sS F0 G w κ r (a.put dst v') w'
      obtain ⟨π',YR,harr,hlen⟩:=hback
      simp only [List.cons.injEq,and_true] at YR
      subst YR
      have hin:∀ b ∈ p.bs,(∀ q,π=some q->b ≠ q.b)->w'.heap[b]? = w.heap[b]?:=fun b hb hne=>hh b ⟨(hblk b hb).1,hne⟩
      have hp0:∀ q,π=some q->p.b ≠ q.b:=fun q hq e=>k6.1 (e ▸ XI q hq)
      have wZ:∀ {k:Nat} {Pf:List (Option Pl)},p.inn[k]? = some Pf->∀ b ∈ blks Pf,∃ q,some q ∈ Pf/\b=q.b:=by
       intro k Pf hk b hb
       rw [jH (fun q hq'=>k7 q (List.mem_flatten.2 ⟨Pf,List.mem_of_getElem? hk,hq'⟩))] at hb
       obtain ⟨q,hq',rfl⟩:=List.mem_map.1 hb
       simp only [List.mem_filterMap,id_eq] at hq'
       obtain ⟨_,hq',rfl⟩:=hq'
       exact ⟨q,hq',rfl⟩
      have YS:∀ b,G b->w'.heap[b]? = w.heap[b]?:=fun b hb=>hh b (lq b (.inr hb))
      have LA:iA G' w'.heap u (l.set j y) (some p):=by
       refine ⟨c,e,fz,by rw [hin p.b p.gI hp0];exact k1,k2,k3,by simpa using k4,by simpa using k5,Qb,k7,fun k x' Pf hk hq=>?_⟩
       by_cases hkj:k=j
       ·subst hkj
        rw [List.getElem?_set_self hjl] at hk
        cases hk
        rw [JY] at hq
        cases hq
        refine ⟨es,g7 G' w'.heap r0.2 y hset hlen harr hG YS (fun b hb hne=>?_) ?_,WQ⟩
        ·obtain ⟨q,hq,rfl⟩:=wZ JY b hb
         exact hin q.b (List.mem_cons_of_mem _ (Pl.sj (List.mem_of_getElem? JY) hq)) hne
        ·rw [jH (fun q hq'=>k7 q (List.mem_flatten.2 ⟨_,List.mem_of_getElem? JY,hq'⟩))]
         obtain ⟨A,B,e1,_⟩:=EP (show k<p.inn.length by omega) []
         have hn:=k6.2
         simp only [Pl.tT,e1,List.filterMap_append,List.map_append] at hn
         exact (List.nodup_append.1 (List.nodup_append.1 hn).1).2.1
       ·rw [List.getElem?_set_ne (fun e=>hkj e.symm)] at hk
        obtain ⟨es',h4,h5⟩:=k8 k x' Pf hk hq
        refine ⟨es',aW.move hG YS (fun b hb=>?_) h4,h5⟩
        obtain ⟨q,hq',rfl⟩:=wZ hq b hb
        exact hin q.b (List.mem_cons_of_mem _ (Pl.sj (List.mem_of_getElem? hq) hq')) fun q2 hq2=>RZ k6.2 hq JY hkj hq' (hq2 ▸ g2)
      have hG':∀ b ∈ p.bs,¬ G' b:=by
       intro b hb YT
       by_cases hne:∀ q,π=some q->b ≠ q.b
       ·rcases hnew b YT with h | h
        ·exact (hblk b hb).2 (.inr h)
        ·exact h.1 ⟨(hblk b hb).1,hne⟩
       ·simp only [Classical.not_forall,Classical.not_not] at hne
        obtain ⟨q,hq,rfl⟩:=hne
        exact (RY _ ((hbl _).2 ⟨q,hq,rfl⟩)).1 YT
      obtain ⟨i2,fr⟩:=i.LV (s2:={ s with aj:=upd s.aj id (some (.deep u (l.set j y) (some n))) }) (G':=G') (Td:=[id]) rfl rfl (fun k hk=>upd_ne _ _ (by simpa using hk)) (fun k hk=>by
       simp only [List.mem_singleton] at hk
       subst hk
       refine ⟨_,_,lK,upd_same _ _ _,.inr ⟨u,l,l.set j y,some n,rfl,rfl,by simp,by rw [hp];exact LA,fun q hq k off hk hfl=>?_⟩,fun q hq b hb=>?_⟩
       ·rw [hp] at hq
        cases hq
        unfold hcell
        rw [hin p.b p.gI hp0]
       ·rw [hp] at hq
        cases hq
        exact ⟨hG' b hb,Nat.lt_of_lt_of_le (hblk b hb).1 hsz⟩) lq (fun k e q hk=>NW k e q (by simpa using hk)) hsz (ht.str hstr) hh hG hnew
      obtain ⟨hrows,AQ⟩:=vB (key:=ak (dst.getD 0)) hres
      have hF:∀ b ∈ blks qs,¬ (F0 b\/G' b)/\b<w'.heap.size/\∀ k e q,({ s with aj:=upd s.aj id (some (.deep u (l.set j y) (some n))) }:St).aj k=some e->pl k=some q->b ∉ e.bs q:=by
       intro b hb
       obtain ⟨n1,n2,n3⟩:=hfresh b hb
       refine ⟨fun h=>?_,n3,fun k e q hk hq hbq=>?_⟩
       ·rcases h with h | h
        ·exact n1 (lq _ (.inl h))
        ·exact n2 h
       ·have hk:upd s.aj id (some (.deep u (l.set j y) (some n))) k=some e:=hk
        by_cases vg:k=id
        ·subst vg
         rw [upd_same] at hk
         cases hk
         rw [hp] at hq
         cases hq
         by_cases hne:∀ q,π=some q->b ≠ q.b
         ·exact n1 ⟨(hblk b hbq).1,hne⟩
         ·simp only [Classical.not_forall,Classical.not_not] at hne
          obtain ⟨q,hq,rfl⟩:=hne
          exact (RY _ ((hbl _).2 ⟨q,hq,rfl⟩)).2 hb
        ·rw [upd_ne _ _ vg] at hk
         exact n1 (NW k e q vg hk hq b hbq)
      rw [T.run_bind] at h
      obtain ⟨s',kK,n1,n2,n3,n4⟩:=nR i2 hrows hF RX h
      obtain ⟨s'',n5,n6,_⟩:=rA n2 (AQ _ rfl rfl n3) n1
      exact ⟨s'',G',kK,n5,n6,fr⟩
     ·simp at h
    ·simp at h
   ·simp at h
 ·simp at h
theorem Sb (good:Good C) (Ke:RQ C ah) {R:Type} {F0:jo} {G:Nat->Prop} {s:St} {a:Act} {w:World} {pl:Nat->Option Pl} {κ:St->Option R} {r:R} {Q:Exit->Act->World->Prop} {g:Operand} {args:Array Operand} {argTypes:Array TypeId}
  {f:FuncId} {vs:List av} {caps:List Cap} {i0 id:Nat} (i:Inv F0 G s a w pl) (ht:qz C w F0) (hvs:bg s args.toList=some vs) (HY:vs[i0]? = some (.cell (.ptr id 0)))
  (hg:bO (mem F0 G w.heap s.aj pl) (.qY f caps) (a.eval g))
  (h:(lF C s ⟨dst,.call ⟨.value g,args,argTypes⟩,type,pos,after,guard⟩ f vs caps i0 id).run ah κ=some r) :
  (⟨dst,.call ⟨.value g,args,argTypes⟩,type,pos,after,guard⟩:Oper).wp C.P a w (sS F0 G w κ r) Q:=by
 obtain ⟨hal,har⟩:=lW i hvs
 unfold lF at h
 split at h
 ·rename_i fn T0 cs hfn lK
  split at h
  ·rename_i x ids hof
   cases Qb:(nodup ids && (T0.ob || ids.isEmpty)) with
   | false=>rw [Qb] at h;cases h
   | true=>
    rw [Qb] at h
    simp only [cond_true] at h
    rw [Bool.and_eq_true] at Qb
    obtain ⟨hnd,Lc⟩:=Qb
    split at h
    ·rename_i as cas rt has hcas hrt
     split at h
     ·simp at h
     rename_i hdp
     simp only [gY,Bool.or_eq_true,not_or,Bool.not_eq_true] at hdp
     simp only [T.run] at h
     rw [Option.bind_eq_some_iff] at h
     obtain ⟨r0,hr0,h⟩:=h
     have hi0:i0<(args.toList.map a.eval).length:=by rw [hal];exact (List.getElem?_eq_some_iff.1 HY).1
     obtain ⟨u0,hu0⟩:∃ u0,(args.toList.map a.eval)[i0]? = some u0:=⟨_,List.getElem?_eq_getElem hi0⟩
     obtain ⟨t9,ZF,p,XJ,hp,hpo,hu⟩:=har i0 _ u0 HY hu0
     have XJ:s.aj id=some (.box t9 ZF):=XJ
     rw [lK] at XJ
     cases XJ
     have hp:pl id=some p:=hp
     have hent:=i.aj.ent id _ lK
     obtain ⟨p',c,e,fz,hp',ho,Sc,hfz,hsz0,hcs,hty,hrel,hnF⟩:=hent
     have hp':pl id=some p':=hp'
     rw [hp] at hp'
     cases hp'
     have Sc:w.heap[p.b]? = some (.cells c e fz):=Sc
     have hnF:¬ (F0 p.b\/G p.b):=hnF
     have Yf:c.size=T0.sz:=by rw [hcs];exact hty T0 rfl
     obtain ⟨⟨ps,hown,hblk⟩,live⟩:=FU i.aj hof Lc hrel
     have live:∀ j ∈ ids,Lv s.aj .give j:=live
     have hbl:∀ b,b ∈ blks ps ↔ ∃ j ∈ ids,∃ p,pl j=some p/\b ∈ p.bs:=by
      intro b
      rw [hblk]
      simp only [List.mem_flatMap,List.mem_filterMap]
      exact ⟨fun ⟨p,⟨j,hj,hp⟩,hb⟩=>⟨j,hj,p,hp,hb⟩,fun ⟨j,hj,p,hp,hb⟩=>⟨p,⟨j,hj,hp⟩,hb⟩⟩
     have hfree:∀ b ∈ blks ps,¬ (F0 b\/G b)/\b<w.heap.size:=by
      intro b hb
      obtain ⟨j,hj,q,hq,hbq⟩:=(hbl b).1 hb
      obtain ⟨e,he,k1,_,k2⟩:=(live j hj).bs i.aj hq
      exact ⟨k2 rfl b hbq,i.aj.jY he hq b (k1 ▸ hbq)⟩
     have hid:id ∉ ids:=fun hm=>(live id hm).wo _ _ lK
     have Yg:p.b ∉ blks ps:=fun hb=>by
      obtain ⟨j,hj,q,hq,hbq⟩:=(hbl _).1 hb
      obtain ⟨e2,he2,k1,_,_⟩:=(live j hj).bs i.aj hq
      exact i.aj.apart' id j _ e2 p q lK he2 (fun e=>hid (e ▸ hj)) hp hq p.b (Entry.gI _ p) (k1 ▸ hbq)
     obtain ⟨i1,old,kr⟩:=i.aJ (iR hnd) (fun j hj=>(live j hj).wo)
     obtain ⟨cs1,hs1⟩:=DJ (ids:=ids) hid lK
     obtain ⟨i2,fk,UW⟩:=i1.forget hs1
     have lq:∀ b,F0 b\/G b->(b<w.heap.size/\b ∉ blks ps/\b ≠ p.b):=fun b hb=>⟨i.aj.lt b hb,fun h=>(hfree b h).1 hb,fun e=>hnF (e ▸ hb)⟩
     have Vm:∀ j e q,j ≠ id->(s.aJ ids).aj j=some e->pl j=some q->∀ b ∈ e.bs q,(b<w.heap.size/\b ∉ blks ps/\b ≠ p.b):=by
      intro j e q hne he hq b hb
      obtain ⟨hj,e',he',hbs⟩:=old j e he
      rw [hbs q] at hb
      refine ⟨i.aj.jY he' hq b hb,fun h=>?_,fun h=>?_⟩
      ·obtain ⟨k,hk,q2,hq2,hbq⟩:=(hbl b).1 h
       obtain ⟨e2,he2,k1,_,_⟩:=(live k hk).bs i.aj hq2
       exact i.aj.apart' j k e' e2 q q2 he' he2 (fun e=>hj (e ▸ hk)) hq hq2 b hb (k1 ▸ hbq)
      ·exact i.aj.apart' j id e' _ q p he' lK hne hq hp b hb (by rw [h];exact Entry.gI _ p)
     have sF:∀ j e q,((s.aJ ids).forget id).aj j=some e->pl j=some q->∀ b ∈ e.bs q,(b<w.heap.size/\b ∉ blks ps/\b ≠ p.b):=by
      intro j e q he hq b hb
      obtain ⟨hj,e',he',hbs⟩:=UW j e he
      exact Vm j e' q hj he' hq b (hbs q ▸ hb)
     obtain ⟨m1,m2,m3⟩:=rE (A:=fun b=>b<w.heap.size/\b ∉ blks ps/\b ≠ p.b) (us:=args.toList.map a.eval) i2 lq sF has (by simpa using hal) (fun j c u hj hu=>by
      rw [List.getElem?_map] at hj
      obtain ⟨c',hc',rfl⟩:=Option.map_eq_some_iff.1 hj
      exact fk _ u (kr c' u (har j c' u hc' hu))) hdp.1
     have hai:=m3 i0 (by omega) (by rw [<- m1];exact hi0)
     rw [Option.bind_eq_some_iff] at hcas
     obtain ⟨wW,Ce,hmap⟩:=hcas
     have hnp:caps.any (Cap.IK id)=false:=by
      cases hb:caps.any (Cap.IK id) with
      | false=>rfl
      | true=>
       obtain ⟨cp,hm,hcp⟩:=List.any_eq_true.1 hb
       obtain ⟨c',hc'⟩:=FT Ce cp hm
       cases cp with
       | ro _ _=>simp [Cap.IK] at hcp
       | ptr k=>
        have:k=id:=Nat.eq_of_beq_eq_true hcp
        subst this
        have hn:((s.aJ ids).forget k).aj k=none:=by
         show upd (fun j=>((s.aJ ids).aj j).map (·.forget k)) k none k=none
         exact upd_same _ _ _
        simp [tY,hn] at hc'
     have hg2:dG (mem F0 G w.heap ((s.aJ ids).forget id).aj pl) (.cell (.qY f caps)) (a.eval g):=by
      have h1:=fk _ _ (kr (.cell (.qY f caps)) (a.eval g) hg)
      rw [DK] at h1
      have h1:bO _ (Cell.forget id (.qY f caps)) _:=h1
      simp only [Cell.forget,hnp,cond_false] at h1
      exact h1
     obtain ⟨TF,hgv,hcl,hcr⟩:=hg2
     have hcp:=Cm (A:=fun b=>b<w.heap.size/\b ∉ blks ps/\b ≠ p.b) (Gc:=G) i2 (fun _ h=>h) lq sF Ce hcl hcr (fun hd=>by rw [hdp.2] at hd;cases hd)
     have hca:=zO hmap hcp.1 hcp.2
     have Yh:=zN hmap
     have Yi:(as++cas)[i0]? = some (.mQ T0 x):=by rw [List.getElem?_append_left (by rw [<- m1];exact hi0)];exact hai
     obtain ⟨hbody,hc⟩:=Ke f fn rt T0 x i0 (as++cas) r0 hfn hr0 Yi
     have hnd':(blks ps).Nodup:=by rw [hblk];exact jP i.aj (iR hnd) live
     have hc:=hc w (fun b=>b<w.heap.size/\b ∉ blks ps/\b ≠ p.b) G (args.toList.map a.eval++TF) p.b ps (fun b hb=>hb.1) (fun b hb=>lq b (.inr hb)) (ht.1.more fun b hb=>lq b (.inl hb))
      (by rw [List.length_append,List.length_append,m1,hca.1]) (by rw [List.getElem?_append_left hi0,hu0,hu])
      ⟨⟨c,e,fz,Sc,hfz,Yf,hown⟩,fun b hb=>by
       rcases List.mem_cons.1 hb with rfl | hb
       ·exact ⟨fun h=>h.2.2 rfl,i.aj.Rt lK hp⟩
       ·exact ⟨fun h=>h.2.1 hb,(hfree b hb).2⟩,List.nodup_cons.2 ⟨Yg,hnd'⟩⟩ (fun j a' v' hne hj hv'=>by
       by_cases hlt:j<as.length
       ·rw [List.getElem?_append_left hlt] at hj
        rw [List.getElem?_append_left (by omega)] at hv'
        exact m2 j a' v' (by omega) hj hv'
       ·rw [List.getElem?_append_right (by omega)] at hj
        rw [List.getElem?_append_right (by omega),m1] at hv'
        exact ⟨Yh a' (List.mem_of_getElem? hj),hca.2 _ a' v' hj hv'⟩)
     have hname:(fn.name == "runtime.NumGoroutine")=false:=by
      have:=Array.all_eq_true.1 good.names
      obtain ⟨hlt,hget⟩:=Array.getElem?_eq_some_iff.1 hfn
      have:=this f hlt
      rw [hget] at this
      simpa using this
     have gq:(execOp a.eval ⟨dst,.call ⟨.value g,args,argTypes⟩,type,pos,after,guard⟩).run C.P w=.ok (.enter f (args.toList.map a.eval++TF).toArray) w:=by
      have hb:fn.body.isNone=false:=by cases hb:fn.body <;> simp [hb] at hbody ⊢
      simp only [execOp,resolve,Sem.run_bind,hgv,Deferred.ofValue,Sem.run_pure,Result.andThen_ok,invoke,callFunc,run_program,hfn,hname,hb,Bool.false_eq_true,if_false]
      congr 2
      apply Array.ext'
      simp
     unfold Oper.wp
     rw [gq]
     refine Calls.mono hc fun e1 w' hpost=>?_
     obtain ⟨v',G',qs,ps',rfl,hsz,hstr,hh,hG,hnew,hres,⟨c1,e2,ZG,XK,TI,hc1,hown1⟩,hfresh,RX,Vh⟩:=hpost
     show sS F0 G w κ r (a.put dst v') w'
     obtain ⟨i3,fr⟩:=i1.TB (G':=G') (A:=fun b=>b<w.heap.size/\b ∉ blks ps/\b ≠ p.b) hs1 hp hpo XK TI (by rw [hc1,<- Yf];exact hsz0) hown1.one Vh lq Vm hsz (ht.str hstr) hh hG hnew
     rw [hc1] at i3
     obtain ⟨hrows2,hcells⟩:=kI (key:=IJ id) 0 hown1
     obtain ⟨hrows,AQ⟩:=vB (key:=ak (dst.getD 0)) hres
     generalize hrc:aA T0.ob (IJ id) T0 r0.2 0=rc at h hrows2 hcells
     obtain ⟨bc,es2,jj⟩:=rc
     generalize hrs:fM true (Nat.beq fn.resultTypes.size 1) (ak (dst.getD 0)) rt r0.1=rs at h hrows AQ
     obtain ⟨v,es⟩:=rs
     simp only at h hrows2 hcells hrows AQ
     rw [T.run_bind] at h
     have hbb:∀ b,b ∈ blks (ps'++qs)->b ∈ blks qs++blks ps':=fun b hb=>by
      simp only [blks,List.filterMap_append,List.flatMap_append,List.mem_append] at hb ⊢
      exact hb.symm
     have hF:∀ b ∈ blks (ps'++qs),¬ (F0 b\/G' b)/\b<w'.heap.size/\∀ j e q,({ s.aJ ids with aj:=upd (s.aJ ids).aj id (some (.box none (List.replicate T0.sz .undef))) }:St).aj j=some e->pl j=some q->b ∉ e.bs q:=by
      intro b hb
      obtain ⟨n1,n2,n3,n4⟩:=hfresh b (hbb b hb)
      refine ⟨fun h=>?_,n3,fun j e q hj hq hbq=>?_⟩
      ·rcases h with h | h
       ·exact n1 (lq _ (.inl h))
       ·exact n2 h
      ·have hj:upd (s.aJ ids).aj id (some (.box none (List.replicate T0.sz .undef))) j=some e:=hj
       by_cases hji:j=id
       ·subst hji
        rw [upd_same] at hj
        cases hj
        rw [hp] at hq
        cases hq
        simp only [Entry.bs,List.mem_singleton] at hbq
        exact n4 hbq
       ·rw [upd_ne _ _ hji] at hj
        exact n1 (Vm j e q hji hj hq b hbq)
     have RG:(blks (ps'++qs)).Nodup:=by
      have:blks (ps'++qs)=blks ps'++blks qs:=by simp [blks,List.filterMap_append,List.flatMap_append]
      rw [this]
      obtain ⟨k1,k2,k3⟩:=List.nodup_append.1 RX
      exact List.nodup_append.2 ⟨k2,k1,fun x hx y hy e=>k3 y hy x hx e.symm⟩
     obtain ⟨s4,Yj,n1,i4,n3,n4⟩:=nR i3 (hrows2.append hrows) hF RG h
     obtain ⟨hb4,Yk⟩:=n4 id _ (upd_same _ _ _)
     have ZH:Yj id=some p:=Yk.trans hp
     have hrl:ay (mem F0 G' w'.heap s4.aj Yj) bc c1.toList:=hcells _ rfl rfl (n3.left hrows2.1)
     obtain ⟨i5,_⟩:=i4.write (w':=w') (E':=.box (some T0) bc) hb4 ZH (by
      intro h
      rcases h with h | h
      ·exact hnF (.inl h)
      ·exact Vh h) rfl (Str.refl _ _) (fun _ _=>rfl) trivial (fun g5=>⟨p,c1,e2,ZG,rfl,hpo,XK,TI,by rw [hc1,<- Yf];exact hsz0,by have:=hrl.1;simpa using this,fun u hu=>(by cases hu;rw [<- hc1];have:=hrl.1;simpa using this.symm),g5.cells (fun _ _ _ _ h=>h) hrl,fun h=>by
       rcases h with h | h
       ·exact hnF (.inl h)
       ·exact Vh h⟩)
     have hne:∀ {k:Nat} {e9:Entry} {m:Nat},es[m]? = some (k,e9)->k ≠ id:=by
      intro k e9 m hm hk
      subst hk
      have hlt:m<qs.length:=by rw [<- hrows.1];exact (List.getElem?_eq_some_iff.1 hm).1
      obtain ⟨h8,_⟩:=n3.right hrows2.1 m k e9 qs[m] hm (List.getElem?_eq_getElem hlt)
      have h8:s4.aj k=some e9:=h8
      rw [hb4] at h8
      rcases hrows.2 m k e9 qs[m] hm (List.getElem?_eq_getElem hlt) with ⟨_,_,YU,_⟩ | ⟨_,_,YU,_⟩ <;> (subst YU;cases h8)
     obtain ⟨s'',n5,n6,_⟩:=rA i5 (AQ _ rfl rfl (fun m k e9 π hm hπ=>by
      obtain ⟨h8,h9⟩:=n3.right hrows2.1 m k e9 π hm hπ
      exact ⟨(upd_ne _ _ (hne hm)).trans h8,h9⟩)) n1
     exact ⟨s'',G',Yj,n5,n6,fr⟩
    ·simp at h
  ·simp at h
 ·simp at h
theorem WR (good:Good C) (WS:WG C ah) {R:Type} {F0:jo} {G:Nat->Prop} {s:St} {a:Act} {w:World} {pl:Nat->Option Pl} {κ:St->Option R} {r:R} {Q:Exit->Act->World->Prop} {g:Operand} {args:Array Operand} {argTypes:Array TypeId}
  {f:FuncId} {vs:List av} (hmk:(C.sig f).wI=true) (i:Inv F0 G s a w pl) (ht:qz C w F0) (hvs:bg s args.toList=some vs) (hgv:a.eval g=.func (.func f) #[] #[])
  (h:(Nn C s ⟨dst,.call ⟨.value g,args,argTypes⟩,type,pos,after,guard⟩ f vs).run ah κ=some r) :
  (⟨dst,.call ⟨.value g,args,argTypes⟩,type,pos,after,guard⟩:Oper).wp C.P a w (sS F0 G w κ r) Q:=by
 obtain ⟨hal,har⟩:=lW i hvs
 unfold Nn at h
 split at h
 ·rename_i fn d hfn hdst
  split at h
  ·rename_i as has
   split at h
   ·simp at h
   ·rename_i zo
    simp only [Bool.or_eq_true,not_or,Bool.not_eq_true] at zo
    obtain ⟨zo,hdp⟩:=zo
    simp only [T.run] at h
    rw [Option.bind_eq_some_iff] at h
    obtain ⟨r0,hr0,h⟩:=h
    have lq:∀ b,F0 b\/G b->b<w.heap.size:=fun b hb=>i.aj.lt b hb
    have sF:∀ id e p,s.aj id=some e->pl id=some p->∀ b ∈ e.bs p,b<w.heap.size:=fun id e p he hp b hb=>i.aj.jY he hp b hb
    simp only [gY,Bool.or_eq_false_iff] at hdp
    have hargs:=Co i (fun _ h=>h) lq sF (fun b hb=>lq b (.inr hb)) has zo hal har (fun h=>by rw [hdp.1] at h;cases h)
    have hone:FQ as:=fun x y b c hx hy hb _=>by
     exfalso
     rw [yF has zo b (List.mem_of_getElem? hx)] at hb
     cases hb
    obtain ⟨hbody,hc⟩:=WS f fn _ as r0 hfn hr0 hmk
    have hc:=hc w (fun b=>b<w.heap.size) G (args.toList.map a.eval) (fun b hb=>hb) (fun b hb=>lq b (.inr hb)) (ht.1.more fun b hb=>lq b (.inl hb)) hone hargs
    have hname:(fn.name == "runtime.NumGoroutine")=false:=by
     have:=Array.all_eq_true.1 good.names
     obtain ⟨hlt,hget⟩:=Array.getElem?_eq_some_iff.1 hfn
     have:=this f hlt
     rw [hget] at this
     simpa using this
    have gq:(execOp a.eval ⟨dst,.call ⟨.value g,args,argTypes⟩,type,pos,after,guard⟩).run C.P w=.ok (.enter f (args.toList.map a.eval).toArray) w:=by
     have hb:fn.body.isNone=false:=by cases hb:fn.body <;> simp [hb] at hbody ⊢
     simp only [execOp,resolve,Sem.run_bind,hgv,Deferred.ofValue,Sem.run_pure,Result.andThen_ok,invoke,callFunc,run_program,hfn,hname,hb,Bool.false_eq_true,if_false]
     congr 2
     apply Array.ext'
     simp
    unfold Oper.wp
    rw [gq]
    refine Calls.mono hc fun e1 w' hpost=>?_
    obtain ⟨pb,G',rfl,hsz,hstr,hh,hG,hnew,⟨c,e,fz,XK,TI,hc1,hown1⟩,YV,Vh⟩:=hpost
    show sS F0 G w κ r (a.put dst _) w'
    obtain ⟨i2,fr⟩:=i.Ut lq sF hsz (ht.str hstr) hh hG hnew
    obtain ⟨hrows2,hcells⟩:=kI (key:=ak d) 0 hown1
    generalize hrc:aA false (ak d) (C.sig f).made r0 0=rc at h hrows2 hcells
    obtain ⟨bc,es2,jj⟩:=rc
    simp only at h hrows2 hcells
    rw [T.run_bind] at h
    obtain ⟨hk,h⟩:=jr h
    have hes:es2=[]:=List.length_eq_zero_iff.1 hrows2.1
    subst hes
    have hnF:¬ (F0 pb\/G' pb):=fun h=>by
     rcases h with h | h
     ·exact YV (lq _ (.inl h))
     ·exact Vh h
    have hrl:ay (mem F0 G' w'.heap s.aj pl) bc c.toList:=hcells _ rfl rfl (fun i k e π hi=>by simp at hi)
    have hlen:c.size=bc.length:=by have:=hrl.1;simpa using this
    have i3:=i2.add (key:=ak d 0) (E:=.box (some (C.sig f).made) bc) (π:=some { b:=pb,o:=0,size:=c.size,inn:=[] }) hk
     ⟨_,c,e,fz,rfl,rfl,XK,TI,rfl,hlen,fun u hu=>(by cases hu;rw [<- hlen];exact hc1),hrl,hnF⟩
     (fun id e' p q hid hp hq b hb hb'=>by
      cases hq
      simp only [Entry.bs,List.mem_singleton] at hb'
      subst hb'
      exact YV (sF id e' p hid hp _ hb))
    obtain ⟨s'',k5,k6,_⟩:=rA (v:=.cell (.ptr (ak d 0) 0)) (u:=.pointer (some ⟨pb,0,none⟩)) i3 ⟨_,_,_,upd_same _ _ _,upd_same _ _ _,rfl,rfl⟩ h
    rw [show dst=some d from hdst]
    exact ⟨s'',G',_,k5,k6,fr⟩
  ·simp at h
 ·simp at h
theorem TJ (good:Good C) (xB:ET C ah) (g:Operand) (args:Array Operand) (argTypes:Array TypeId):kD C ah ⟨dst,.call ⟨.value g,args,argTypes⟩,type,pos,after,guard⟩:=by
 intro R F0 G s a w pl κ r Q i ht h
 simp only [jT] at h
 split at h
 ·rename_i f caps vs hsg hvs
  have hg:=i.slot g
  rw [hsg] at hg
  obtain ⟨TF,hgv,hcl,hcr⟩:=hg
  obtain ⟨hal,har⟩:=lW i hvs
  have hcall:=xB.1
  unfold zH at h
  split at h
  ·rename_i il hil
   cases hmk:(C.sig f).wI with
   | true=>
    rw [hmk] at h
    simp only [cond_true] at h
    split at h
    ·obtain rfl:TF=[]:=List.length_eq_zero_iff.1 hcl
     simp only [St.ev] at hsg
     cases hsg
     exact WR good xB.2.2.2 hmk i ht hvs hgv h
    ·simp at h
   | false=>
   rw [hmk] at h
   simp only [cond_false] at h
   split at h
   ·rename_i id HY
    have hcl:bO (mem F0 G w.heap s.aj pl) (.qY f caps) (a.eval g):=by have hh:=i.slot g;rw [hsg] at hh;exact hh
    split at h
    ·exact Sb good xB.2.2.1 i ht hvs HY hcl h
    ·cases hlo:Oper.IQ ⟨dst,.call ⟨.value g,args,argTypes⟩,type,pos,after,guard⟩ C with
     | false=>rw [hlo] at h;simp at h
     | true=>rw [hlo] at h;exact Sb good xB.2.2.1 i ht hvs HY hcl h
   ·rename_i id j off HY
    cases g <;> simp only [T.Fx] at h <;> try (cases h;done)
    simp only [St.ev] at hsg
    cases hsg
    exact Vl good xB.2.1 i ht hvs HY h
   ·cases g <;> simp only [T.Fx] at h <;> try (cases h;done)
    simp only [St.ev] at hsg
    cases hsg
    exact TH good xB.2.1 i ht hvs h
  rename_i hil
  have hmk:(C.sig f).wI=false:=by unfold VT.wI;rw [hil]
  split at h
  ·unfold JQ at h
   split at h
   ·rename_i dst' fn hfn
    simp only at h
    split at h
    ·rename_i as cas rt has hcas hrt
     split at h
     ·simp at h
     ·rename_i zo
      simp only [Bool.or_eq_true,Bool.and_eq_true,Bool.not_eq_true',not_or,not_and,Bool.not_eq_true,Bool.not_eq_false] at zo
      obtain ⟨zo,hcut⟩:=zo
      simp only [T.run] at h
      rw [Option.bind_eq_some_iff] at h
      obtain ⟨r0,hr0,h⟩:=h
      rw [Option.bind_eq_some_iff] at hcas
      obtain ⟨wW,Ce,hmap⟩:=hcas
      have lq:∀ b,F0 b\/G b->b<w.heap.size:=fun b hb=>i.aj.lt b hb
      have sF:∀ id e p,s.aj id=some e->pl id=some p->∀ b ∈ e.bs p,b<w.heap.size:=fun id e p he hp b hb=>i.aj.jY he hp b hb
      obtain ⟨Gc,HZ,sV,WT,ZI,ZJ,hSo⟩:∃ Gc:Nat->Prop,(∀ b,G b->Gc b)/\(∀ b,Gc b->b<w.heap.size)/\(Gc=G\/((C.sig f).own=true/\rt.cut=true))/\(vs.any (fun v=>v.cells.any (jK s))=true->Ck s pl Gc)/\(caps.any (jJ s)=true->Ck s pl Gc)/\(C.zF.contains f=true->∀ b,b<w.heap.size->Gc b):=by
       cases hso:C.zF.contains f with
       | true=>
        exact ⟨fun b=>b<w.heap.size,fun b hb=>lq b (.inr hb),fun _ h=>h,.inr (hcut (.inr hso)),fun _ id t l n p h1 h2 b hb=>i.aj.jY h1 h2 b (List.mem_cons_of_mem _ hb),fun _ id t l n p h1 h2 b hb=>i.aj.jY h1 h2 b (List.mem_cons_of_mem _ hb),fun _ _ h=>h⟩
       | false=>
       cases hd:gY s vs caps with
       | false=>
        simp only [gY,Bool.or_eq_false_iff] at hd
        exact ⟨G,fun _ h=>h,fun b hb=>lq b (.inr hb),.inl rfl,fun h=>(by rw [hd.1] at h;cases h),fun h=>(by rw [hd.2] at h;cases h),fun h=>(by cases h)⟩
       | true=>
        refine ⟨fun b=>G b\/∃ id t l n p,s.aj id=some (.deep t l n)/\pl id=some p/\b ∈ p.tT,fun b hb=>.inl hb,fun b hb=>?_,.inr (hcut (.inl hd)),fun _ id t l n p h1 h2 b hb=>.inr ⟨id,t,l,n,p,h1,h2,hb⟩,fun _ id t l n p h1 h2 b hb=>.inr ⟨id,t,l,n,p,h1,h2,hb⟩,fun h=>(by cases h)⟩
        rcases hb with hb | ⟨id,t,l,n,p,h1,h2,hb⟩
        ·exact lq b (.inr hb)
        ·exact i.aj.jY h1 h2 b (List.mem_cons_of_mem _ hb)
      have hcp:=Cm i HZ lq sF Ce hcl hcr ZJ
      have Sd:=Co i HZ lq sF sV has zo hal har ZI
      have WU:iJ (fun b=>b<w.heap.size) Gc w.heap (C.tV f as) (args.toList.map a.eval)/\∀ b ∈ C.tV f as,b.uq=false:=by
       unfold aZ.tV
       cases hso:C.zF.contains f with
       | true=>
        simp only [cond_true]
        refine ⟨Sd.solid (hSo hso),fun b hb=>?_⟩
        obtain ⟨b',hb',rfl⟩:=List.mem_map.1 hb
        have:=yF has zo b' hb'
        cases b' <;> first | rfl | exact this
       | false=>exact ⟨Sd,fun b hb=>yF has zo b hb⟩
      have hargs:=WU.1.append (zO hmap hcp.1 hcp.2)
      rw [T.run_bind] at h
      refine LX good hcall hfn hmk hr0 i ht (fun b hb=>hb) lq sF HZ sV WT (fun x y b c hx hy hb _=>?_) hargs hgv rfl h
      exfalso
      rcases List.mem_append.1 (List.mem_of_getElem? hx) with hm | hm
      ·rw [WU.2 b hm] at hb;cases hb
      ·rw [zN hmap b hm] at hb;cases hb
    ·simp at h
   ·simp at h
  ·rename_i x rr hsig
   cases g <;> simp only [T.Fx] at h <;> try (cases h;done)
   simp only [St.ev] at hsg
   cases hsg
   cases hin:C.Le.contains f with
   | true=>rw [hin] at h;exact Vi good hin i ht hvs h
   | false=>rw [hin] at h;exact TG good hcall hmk i ht hvs h
 ·simp at h
theorem TK (good:Good C) (t:TypeId) (x:Operand) (htk:C.take dst t=true):kD C ah ⟨dst,.load t x,type,pos,after,guard⟩:=by
 intro R F0 G s a w pl κ r Q i ht h
 simp only [jT,htk,cond_true] at h
 unfold IU at h
 have hx:=i.slot x
 split at h
 ·rename_i u id ix d hu hs
  rw [hs] at hx
  split at h
  ·rename_i hagg
   split at h
   ·rename_i v l0 hse
    split at h
    ·rename_i l hcl
     obtain ⟨rfl,hl⟩:=bG hcl
     have hl:l0=l:=hl
     subst hl
     obtain ⟨t',l',n',p,hs',hix,hpl,hv⟩:=hx
     have hs':s.aj id=some (.deep t' l' n'):=hs'
     rw [hse] at hs'
     cases hs'
     obtain ⟨hd,hrest⟩:=i.aj.ent id _ hse
     have hpl:pl id=some p:=hpl
     rw [show (mem F0 G w.heap s.aj pl).pl id=some p from hpl] at hd
     obtain ⟨c,e,fz,hh,hfz,hsz,hlen,k5,k6,k7,k8⟩:=hd
     obtain ⟨hown,_⟩:=hrest p hpl
     obtain ⟨es,hes,hj⟩:=k8 ix _ _ (yB (d:=v.dflt) hix) (List.getElem?_eq_getElem (by omega:ix<p.inn.length))
     have hqm:p.inn[ix]'(by omega) ∈ p.inn:=List.getElem_mem _
     generalize QV:p.inn[ix]'(by omega)=qs at hes hqm
     have hcell:∀ j x,es[j]? = some x->hcell w.heap p.b (p.o+ix*v.sz+j)=some x:=fun j x Wl=>by
      unfold hcell
      rw [show w.heap[p.b]? = _ from hh]
      exact hj j x Wl
     have hsh:C.shape t=some (v.sz,true):=by
      have:C.ty t=some v:=hu
      unfold aZ.ty at this
      unfold aZ.shape
      cases hass:assoc C.tt t with
      | none=>rw [hass] at this;cases this
      | some o=>
       rw [hass] at this
       obtain rfl:o=some v:=this
       show some (v.sz,v.isAgg)=_
       rw [hagg]
     have hval:jO true es (.agg es.toArray):=by unfold jO;simp
     have gq:(execOp a.eval ⟨some d,.load t x,type,pos,after,guard⟩).run C.P w=.ok (.value (.agg es.toArray)) w:=by
      have hv:a.eval x=.pointer (some ⟨p.b,p.o+ix*v.sz,none⟩):=hv
      simp only [execOp,Sem.run_bind,hv,zK good hsh hcell hes.len hval,Result.andThen_ok,Sem.run_pure]
     obtain ⟨i2,_,hold⟩:=i.drop (id:=id) (fun t cs hb=>by rw [hse] at hb;cases hb)
     have wZ:∀ q,some q ∈ qs->q.inn=[]:=fun q hq=>k7 q (List.mem_flatten.2 ⟨qs,hqm,hq⟩)
     have hsub:∀ b ∈ blks qs,b ∈ p.bs:=fun b hb=>by
      rw [jH wZ] at hb
      obtain ⟨q,hq,rfl⟩:=List.mem_map.1 hb
      obtain ⟨o,ho,hoq⟩:=List.mem_filterMap.1 hq
      have hoq:o=some q:=hoq
      subst hoq
      exact List.mem_cons_of_mem _ (Pl.sj hqm ho)
     have hnd:(blks qs).Nodup:=by
      rw [jH wZ]
      have h1:(p.tT).Nodup:=(List.nodup_cons.1 k6).2
      unfold Pl.tT at h1
      exact (((List.sublist_flatten_of_mem hqm).filterMap _root_.id).map Pl.b).nodup h1
     obtain ⟨hrows,hcells⟩:=kI (key:=ak d) 0 hes
     generalize aA true (ak d) v (l0.getD ix v.dflt) 0=rc at h hrows hcells
     obtain ⟨bc,es2,jj⟩:=rc
     simp only at h hrows hcells
     rw [T.run_bind] at h
     obtain ⟨s',kK,k1,k2,k3,k4⟩:=nR i2 hrows (fun b hb=>⟨(hown b (hsub b hb)).2,(hown b (hsub b hb)).1,fun id' e' q hid hq hbq=>by
      obtain ⟨hne,e0,he0,rfl⟩:=hold id' e' hid
      rw [Entry.og] at hbq
      exact i.aj.apart' id id' _ e0 p q hse he0 (Ne.symm hne) hpl hq b (hsub b hb) hbq⟩) hnd h
     obtain ⟨s'',ZK,ZL,_⟩:=rA (v:=.one (.agg bc)) (u:=.agg es.toArray) k2 ⟨es,rfl,hcells _ rfl rfl k3⟩ k1
     unfold Oper.wp
     rw [gq]
     show sS F0 G w κ r (a.put (some d) _) w
     exact ⟨s'',G,kK,ZK,ZL,Fr.refl _ _ _⟩
    ·simp at h
   ·simp at h
  ·simp at h
 ·simp at h
end
end Go.Flat
