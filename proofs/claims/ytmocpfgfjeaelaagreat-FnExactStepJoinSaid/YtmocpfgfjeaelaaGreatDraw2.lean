/- What an operation's value leans on. No condition. -/
import Derived.Test.YtmocpfgfjeaelaaGreatDraw1
set_option linter.unusedVariables false
set_option linter.unusedSimpArgs false
namespace Go.Flat
structure Live (s:St):Prop where
 env:∀ t,∀ id ∈ (s.env t).ids,∃ e,s.aj id=some e
 box:∀ k t cs,s.aj k=some (.box t cs)->∀ c ∈ cs,∀ id ∈ c.ids,∃ e,s.aj id=some e
theorem AR {M:Mem} {c:Cell} {v:Value} (h:bO M c v):∀ id ∈ c.ids,∃ e,M.aj id=some e:=by
 intro id hid
 cases c <;> simp only [Cell.ids] at hid <;> try (simp at hid;done)
 case ref j=>simp at hid;subst hid;obtain ⟨t,l,o,hs,_⟩:=h;exact ⟨_,hs⟩
 case sub j off n=>simp at hid;subst hid;obtain ⟨t,l,o,hs,_⟩:=h;exact ⟨_,hs⟩
 case ptr j off=>simp at hid;subst hid;obtain ⟨t,l,o,hs,_⟩:=h;exact ⟨_,hs⟩
 case ko j i off=>simp at hid;subst hid;obtain ⟨t,l,o,p,hs,_⟩:=h;exact ⟨_,hs⟩
 case fE j=>simp at hid;subst hid;obtain ⟨t,l,o,hs,_⟩:=h;exact ⟨_,hs⟩
 case kJ j i off=>simp at hid;subst hid;obtain ⟨t,l,o,p,hs,_⟩:=h;exact ⟨_,hs⟩
 case inn j i off=>simp at hid;subst hid;obtain ⟨t,l,n,hs,_⟩:=h;exact ⟨_,hs⟩
 case qY f caps=>
  obtain ⟨cp,hcp,he⟩:=List.mem_filterMap.1 hid
  obtain ⟨vs,_,hl,hc⟩:=h
  obtain ⟨i,hi⟩:=List.mem_iff_getElem?.1 hcp
  have hlt:i<vs.length:=by rw [hl];exact (List.getElem?_eq_some_iff.1 hi).1
  have:=hc i cp vs[i] hi (List.getElem?_eq_getElem hlt)
  cases cp with
  | ro t x=>simp at he
  | ptr j=>
   simp at he
   subst he
   obtain ⟨t,cs,p,hs,_⟩:=this
   exact ⟨_,hs⟩
theorem zu {M:Mem} {cs:List Cell} {vs:List Value} (h:ay M cs vs):∀ c ∈ cs,∀ id ∈ c.ids,∃ e,M.aj id=some e:=by
 intro c hc
 obtain ⟨i,hi⟩:=List.mem_iff_getElem?.1 hc
 have hlt:i<vs.length:=by rw [h.1];exact (List.getElem?_eq_some_iff.1 hi).1
 exact AR (h.2 i c vs[i] hi (List.getElem?_eq_getElem hlt)).1
theorem AU {M:Mem} {c:av} {v:Value} (h:dG M c v):∀ id ∈ c.ids,∃ e,M.aj id=some e:=by
 intro id hid
 cases c with
 | cell c=>exact AR h id (by simpa [av.ids,av.cells] using hid)
 | agg cs=>
  obtain ⟨vs,_,hc⟩:=h
  simp only [av.ids,av.cells,List.mem_flatMap] at hid
  obtain ⟨c,hcm,hid⟩:=hid
  exact zu hc c hcm id hid
theorem Kw {M:Mem} {s:Slot} {v:Value} (h:eY M s v):∀ id ∈ s.ids,∃ e,M.aj id=some e:=by
 intro id hid
 cases s with
 | one c=>exact AU h id hid
 | wN cs=>
  obtain ⟨vs,_,hl,hc⟩:=h
  simp only [Slot.ids,List.mem_flatMap] at hid
  obtain ⟨c,hcm,hid⟩:=hid
  obtain ⟨i,hi⟩:=List.mem_iff_getElem?.1 hcm
  have hlt:i<vs.length:=by rw [hl];exact (List.getElem?_eq_some_iff.1 hi).1
  exact AU (hc i c vs[i] hi (List.getElem?_eq_getElem hlt)) id hid
theorem Inv.live {F0:jo} {G:Nat->Prop} {s:St} {a:Act} {w:World} {pl:Nat->Option Pl} (i:Inv F0 G s a w pl):Live s:=
 ⟨fun t=>Kw (i.env t),fun k t cs hs=>by
  obtain ⟨p,c,e,fz,h1,h2,h3,h4,h5,h6,h7,h8,h9⟩:=i.aj.ent k _ hs
  exact zu h8⟩
theorem Live.ev {s:St} (l:Live s) (x:Operand):∀ id ∈ (s.ev x).ids,∃ e,s.aj id=some e:=by
 intro id hid
 cases x with
 | tmp t=>exact l.env t id hid
 | global g=>simp [St.ev,Slot.ids,av.ids,av.cells,Cell.ids] at hid
 | func f=>simp [St.ev,Slot.ids,av.ids,av.cells,Cell.ids] at hid
 | const v=>
  exfalso
  simp only [St.ev] at hid
  unfold ofConst at hid
  split at hid <;> simp [Slot.ids,av.ids,av.cells,Cell.ids] at hid
structure Ext (s s1:St) (xs:List Operand):Prop where
 aj:∀ id e,s.aj id=some e->s1.aj id=some e
 ev:∀ x ∈ xs,s1.ev x=s.ev x
section
variable {s s1:St} (hs:∀ id e,s.aj id=some e->s1.aj id=some e)
include hs
theorem kL {id:Nat} (h:∃ e,s.aj id=some e):s1.aj id=s.aj id:=by
 obtain ⟨e,he⟩:=h
 rw [he,hs id e he]
theorem Me {n:Nat} {agg:Bool} {p:Cell} (h:∀ id ∈ p.ids,∃ e,s.aj id=some e):s1.gu n agg p=s.gu n agg p:=by
 cases p <;> try rfl
 case ptr id off=>simp only [St.gu];rw [kL hs (h id (by simp [Cell.ids]))]
 case ko id i off=>simp only [St.gu];rw [kL hs (h id (by simp [Cell.ids]))]
 case kJ id i off=>simp only [St.gu];rw [kL hs (h id (by simp [Cell.ids]))]
theorem TR {d:TypeDesc} {c:Cell} (h:∀ id ∈ c.ids,∃ e,s.aj id=some e):s1.len d c=s.len d c:=by
 cases d <;> cases c <;> try rfl
 case slice.ref e id=>simp only [St.len];rw [kL hs (h id (by simp [Cell.ids]))]
 case slice.fE e id=>simp only [St.len];rw [kL hs (h id (by simp [Cell.ids]))]
theorem Ij {u:Ty} {lo hi:Option Int} {c:Cell} (h:∀ id ∈ c.ids,∃ e,s.aj id=some e):jg s1 u lo hi c=jg s u lo hi c:=by
 cases c <;> try rfl
 case ref id=>simp only [jg];rw [kL hs (h id (by simp [Cell.ids]))]
 case sub id off n=>simp only [jg];rw [kL hs (h id (by simp [Cell.ids]))]
theorem Ik {u:Ty} {i:Int} {c:Cell} (h:∀ id ∈ c.ids,∃ e,s.aj id=some e):jG s1 u i c=jG s u i c:=by
 cases c <;> try rfl
 case ref id=>simp only [jG];rw [kL hs (h id (by simp [Cell.ids]))]
 case sub id off n=>simp only [jG];rw [kL hs (h id (by simp [Cell.ids]))]
 case fE id=>simp only [jG];rw [kL hs (h id (by simp [Cell.ids]))]
theorem Ga {m:Mode} {t:Ty} {c:Cell} (h:∀ id ∈ c.ids,∃ e,s.aj id=some e):gN s1.aj m t c=gN s.aj m t c:=by
 cases c <;> try rfl
 case ref id=>simp only [gN];rw [kL hs (h id (by simp [Cell.ids]))]
 case sub id off n=>simp only [gN];rw [kL hs (h id (by simp [Cell.ids]))]
theorem Mf {m:Mode} {t:Ty} {c:Cell} (h:∀ id ∈ c.ids,∃ e,s.aj id=some e):iV s1.aj m t c=iV s.aj m t c:=by
 cases c <;> try rfl
 case fE id=>simp only [iV];rw [kL hs (h id (by simp [Cell.ids]))]
theorem Sl {t:Ty} {c:Cell} (h:∀ id ∈ c.ids,∃ e,s.aj id=some e):s1.look t c=s.look t c:=by
 unfold St.look
 rw [Ga hs h]
theorem xI {m:Mode}:∀ {t:Ty} {cs:List Cell},(∀ c ∈ cs,∀ id ∈ c.ids,∃ e,s.aj id=some e)->au s1.aj m t cs=au s.aj m t cs/\∀ x r ids,au s.aj m t cs=some (x,r,ids)->∀ c ∈ r,c ∈ cs
 | .bool,[],h=>⟨rfl,fun x r ids hx=>by simp [au] at hx⟩
 | .int k,[],h=>⟨rfl,fun x r ids hx=>by simp [au] at hx⟩
 | .str,[],h=>⟨rfl,fun x r ids hx=>by simp [au] at hx⟩
 | .list t,[],h=>⟨rfl,fun x r ids hx=>by simp [au] at hx⟩
 | .aG t,[],h=>⟨rfl,fun x r ids hx=>by simp [au] at hx⟩
 | .unit,cs,h=>by
  have e:∀ σ:Nat->Option Entry,au σ m .unit cs=some ((),cs,[]):=fun σ=>by
   cases cs with
   | nil=>rfl
   | cons c cs=>cases c <;> rfl
  rw [e,e]
  refine ⟨rfl,fun x r ids hx=>?_⟩
  simp at hx
  rw [hx.1]
  exact fun c hc=>hc
 | .pair a b,cs,h=>by
  rw [iZ,iZ]
  obtain ⟨h1,h2⟩:=xI (m:=m) (t:=a) h
  rw [h1]
  cases ha:au s.aj m a cs with
  | none=>exact ⟨rfl,fun x r ids hx=>by cases hx⟩
  | some ra=>
   obtain ⟨x1,r1,Ib⟩:=ra
   have hsub:=h2 x1 r1 Ib ha
   obtain ⟨h3,h4⟩:=xI (m:=m) (t:=b) (cs:=r1) (fun c hc=>h c (hsub c hc))
   simp only
   rw [h3]
   refine ⟨rfl,fun x r ids hx=>?_⟩
   cases hb:au s.aj m b r1 with
   | none=>rw [hb] at hx;cases hx
   | some rb=>
    obtain ⟨x2,r2,Ic⟩:=rb
    rw [hb] at hx
    simp at hx
    obtain ⟨_,rfl,_⟩:=hx
    exact fun c hc=>hsub c (h4 x2 r2 Ic hb c hc)
 | .bool,c :: cs,h=>by
  cases c <;> refine ⟨rfl,fun x r ids hx=>?_⟩ <;> simp [au] at hx
  all_goals
   obtain ⟨_,rfl,_⟩:=hx
   exact fun c hc=>List.mem_cons_of_mem _ hc
 | .int k,c :: cs,h=>by
  cases c <;> refine ⟨rfl,fun x r ids hx=>?_⟩ <;> simp [au] at hx
  obtain ⟨_,_,rfl,_⟩:=hx
  exact fun c hc=>List.mem_cons_of_mem _ hc
 | .str,c :: cs,h=>by
  cases c <;> refine ⟨rfl,fun x r ids hx=>?_⟩ <;> simp [au] at hx
  obtain ⟨_,rfl,_⟩:=hx
  exact fun c hc=>List.mem_cons_of_mem _ hc
 | .list t,c :: cs,h=>by
  have e:∀ σ:Nat->Option Entry,au σ m (.list t) (c :: cs)=(gN σ m t c).map fun (l,ids)=>(l,cs,ids):=fun σ=>by cases c <;> rfl
  rw [e,e,Ga hs (h c (by simp))]
  refine ⟨rfl,fun x r ids hx=>?_⟩
  obtain ⟨⟨l,js⟩,_,he⟩:=Option.map_eq_some_iff.1 hx
  simp at he
  obtain ⟨_,rfl,_⟩:=he
  exact fun c hc=>List.mem_cons_of_mem _ hc
 | .aG t,c :: cs,h=>by
  have e:∀ σ:Nat->Option Entry,au σ m (.aG t) (c :: cs)=(iV σ m t c).map fun (l,ids)=>(l,cs,ids):=fun σ=>by cases c <;> rfl
  rw [e,e,Mf hs (h c (by simp))]
  refine ⟨rfl,fun x r ids hx=>?_⟩
  obtain ⟨⟨l,js⟩,_,he⟩:=Option.map_eq_some_iff.1 hx
  simp at he
  obtain ⟨_,rfl,_⟩:=he
  exact fun c hc=>List.mem_cons_of_mem _ hc
theorem lX {m:Mode} {t:Ty} {cs:List Cell} (h:∀ c ∈ cs,∀ id ∈ c.ids,∃ e,s.aj id=some e):aL s1.aj m t cs=aL s.aj m t cs:=by
 unfold aL
 rw [(xI hs h).1]
theorem zT (l:Live s):∀ {caps:List Cap},(∀ id ∈ caps.filterMap (fun | .ptr id=>some id | _=>none),∃ e,s.aj id=some e)->iW s1 caps=iW s caps
 | [],_=>rfl
 | c :: caps,h=>by
  simp only [iW]
  have ih:=zT l (caps:=caps) (fun id hid=>h id (by
   rw [List.filterMap_cons]
   split
   ·exact hid
   ·exact List.mem_cons_of_mem _ hid))
  rw [ih]
  have hc:tY s1 c=tY s c:=by
   cases c with
   | ro t x=>rfl
   | ptr id=>
    obtain ⟨e,he⟩:=h id (by simp)
    simp only [tY]
    rw [kL hs ⟨e,he⟩,he]
    cases e with
    | arr _ _ _=>rfl
    | deep _ _ _=>rfl
    | box t cs=>
     cases t with
     | none=>rfl
     | some t=>simp only;rw [lX hs (l.box id _ cs he)]
  rw [hc]
theorem Qd {C:aZ} (l:Live s) {io:Bool} {t:TypeId} {v:av} (h:∀ id ∈ v.ids,∃ e,s.aj id=some e):toArg C s1 io t v=toArg C s io t v:=by
 have hcs:∀ c ∈ v.cells,∀ id ∈ c.ids,∃ e,s.aj id=some e:=fun c hc id hid=>h id (by simp only [av.ids,List.mem_flatMap];exact ⟨c,hc,hid⟩)
 unfold toArg
 cases io with
 | true=>
  simp only [cond_true]
  unfold EI
  cases v with
  | agg _=>rfl
  | cell c=>
   cases c <;> try rfl
   case ref id=>simp only;rw [kL hs (h id (by simp [av.ids,av.cells,Cell.ids]))]
   case ptr id off=>
    cases off with
    | succ _=>rfl
    | zero=>
     obtain ⟨e,he⟩:=h id (by simp [av.ids,av.cells,Cell.ids])
     simp only
     rw [kL hs ⟨e,he⟩,he]
     cases e with
     | arr _ _ _=>rfl
     | deep _ _ _=>rfl
     | box t cs=>
      cases t with
      | none=>rfl
      | some t=>simp only;rw [lX hs (l.box id _ cs he)]
 | false=>
  simp only [cond_false]
  unfold lN
  cases C.ty t with
  | some u=>simp only [lX hs hcs]
  | none=>
   simp only
   cases v with
   | agg _=>rfl
   | cell c=>
    cases c <;> try rfl
    case nH fr u x off=>cases off <;> rfl
    case qY f caps=>
     simp only
     rw [zT hs l (fun id hid=>h id (by simp only [av.ids,av.cells,List.flatMap_cons,List.flatMap_nil,List.append_nil];exact hid))]
    case ptr id off=>
     cases off with
     | succ _=>rfl
     | zero=>
      obtain ⟨e,he⟩:=h id (by simp [av.ids,av.cells,Cell.ids])
      simp only [tY]
      rw [kL hs ⟨e,he⟩,he]
      cases e with
      | arr _ _ _=>rfl
      | deep _ _ _=>rfl
      | box t cs=>
       cases t with
       | none=>rfl
       | some t=>simp only;rw [lX hs (l.box id _ cs he)]
theorem Gb {C:aZ} (l:Live s) {io:List Nat}:∀ {vs:List av} {i:Nat} {ts:List TypeId},(∀ v ∈ vs,∀ id ∈ v.ids,∃ e,s.aj id=some e)->nI C s1 io i ts vs=nI C s io i ts vs
 | [],i,ts,_=>by cases ts <;> rfl
 | v :: vs,i,[],_=>rfl
 | v :: vs,i,t :: ts,h=>by
  simp only [nI]
  rw [Qd hs l (h v (by simp)),Gb l (vs:=vs) (fun v hv=>h v (List.mem_cons_of_mem _ hv))]
omit hs in
theorem any_congr {α:Type} {f g:α->Bool}:∀ {l:List α},(∀ x ∈ l,f x=g x)->l.any f=l.any g
 | [],_=>rfl
 | x :: l,h=>by rw [List.any_cons,List.any_cons,h x (by simp),any_congr (fun y hy=>h y (List.mem_cons_of_mem _ hy))]
theorem Mg {vs:List av} {caps:List Cap} (h:∀ v ∈ vs,∀ id ∈ v.ids,∃ e,s.aj id=some e)
  (hc:∀ id ∈ caps.filterMap (fun | .ptr id=>some id | _=>none),∃ e,s.aj id=some e):gY s1 vs caps=gY s vs caps:=by
 have cap:∀ {caps:List Cap},(∀ id ∈ caps.filterMap (fun | .ptr id=>some id | _=>none),∃ e,s.aj id=some e)->caps.any (jJ s1)=caps.any (jJ s):=by
  intro caps hc
  refine any_congr fun c hcm=>?_
  cases c with
  | ro _ _=>rfl
  | ptr id=>simp only [jJ];rw [kL hs (hc id (List.mem_filterMap.2 ⟨_,hcm,rfl⟩))]
 unfold gY
 rw [cap hc]
 congr 1
 refine any_congr fun v hv=>any_congr fun c hcm=>?_
 have hid:∀ id ∈ c.ids,∃ e,s.aj id=some e:=fun id hid=>h v hv id (by simp only [av.ids,List.mem_flatMap];exact ⟨c,hcm,hid⟩)
 cases c <;> try rfl
 case ptr id off=>simp only [jK,jJ];rw [kL hs (hid id (by simp [Cell.ids]))]
 case qY f cs=>exact cap (fun id hm=>hid id hm)
theorem Qe {C:aZ} (l:Live s) {d:Tmp} {f:FuncId} {vs:List av} {caps:List Cap} (h:∀ v ∈ vs,∀ id ∈ v.ids,∃ e,s.aj id=some e)
  (hc:∀ id ∈ caps.filterMap (fun | .ptr id=>some id | _=>none),∃ e,s.aj id=some e):Ar C s1 d f vs caps=Ar C s d f vs caps:=by
 unfold Ar
 cases (C.sig f).lend with
 | some _=>rfl
 | none=>
 simp only
 cases (C.sig f).io with
 | cons _ _=>rfl
 | nil=>
 simp only
 unfold qZ
 cases C.P.funcs[f]? with
 | none=>rfl
 | some fn=>simp only;rw [Gb hs l h,zT hs l hc,Mg hs h hc]
end
section
variable {s s1:St} {xs:List Operand} (e:Ext s s1 xs)
include e
theorem xJ:∀ {ys:List Operand},(∀ x ∈ ys,x ∈ xs)->bg s1 ys=bg s ys
 | [],_=>rfl
 | y :: ys,h=>by
  simp only [bg]
  rw [e.ev y (h y (by simp)),xJ (ys:=ys) (fun x hx=>h x (List.mem_cons_of_mem _ hx))]
theorem AV {x:Operand} (h:x ∈ xs):s1.int x=s.int x:=by
 unfold St.int
 rw [e.ev x h]
theorem Gd {x:Operand} (h:x ∈ xs):s1.comp x=s.comp x:=by
 unfold St.comp
 rw [e.ev x h]
theorem Gf {x:Option Operand} (h:∀ y,x=some y->y ∈ xs):oI s1 x=oI s x:=by
 cases x with
 | none=>rfl
 | some y=>simp only [oI];rw [AV e (h y rfl)]
theorem xK {C:aZ} {t:TypeId}:∀ {parts:List (Nat × Operand)} {cs:List Cell},(∀ p ∈ parts,p.2 ∈ xs)->fP C s1 t parts cs=fP C s t parts cs
 | [],_,_=>rfl
 | (i,x) :: r,cs,h=>by
  simp only [fP]
  rw [e.ev x (h (i,x) (by simp))]
  have ih:∀ cs,fP C s1 t r cs=fP C s t r cs:=fun cs=>xK (fun p hp=>h p (List.mem_cons_of_mem _ hp))
  simp only [ih]
theorem xL (l:Live s) {t:Ty}:∀ {parts:List (Nat × Operand)} {a:List t.den} {ids:List Nat},(∀ p ∈ parts,p.2 ∈ xs)->bL s1 t parts a ids=bL s t parts a ids
 | [],_,_,_=>rfl
 | (i,x) :: r,a,ids,h=>by
  simp only [bL]
  rw [e.ev x (h (i,x) (by simp))]
  have ih:∀ a ids,bL s1 t r a ids=bL s t r a ids:=fun a ids=>xL l (fun p hp=>h p (List.mem_cons_of_mem _ hp))
  simp only [ih]
  have hl:=l.ev x
  cases hx:s.ev x with
  | wN _=>rfl
  | one v=>
   rw [hx] at hl
   simp only
   rw [lX e.aj (fun c hc id hid=>hl id (by simp only [Slot.ids,av.ids,List.mem_flatMap];exact ⟨c,hc,hid⟩))]
end
theorem Mh {s:St} (l:Live s):∀ {ys:List Operand} {vs:List av},bg s ys=some vs->∀ v ∈ vs,∀ id ∈ v.ids,∃ e,s.aj id=some e
 | [],vs,h=>by simp [bg] at h;subst h;simp
 | y :: ys,vs,h=>by
  have hl:=l.ev y
  simp only [bg] at h
  split at h
  ·rename_i c r hc hr
   simp at h
   subst h
   intro v hv
   rcases List.mem_cons.1 hv with rfl | hv
   ·rw [hc] at hl;exact hl
   ·exact Mh l hr v hv
  ·cases h
theorem xM {C:aZ} {o:Oper} {s s1:St} (l:Live s) (hq:aT C o=true) (e:Ext s s1 o.op.operands.toList):aS C o s1=aS C o s:=by
 obtain ⟨dst,op,type,pos,after,guard⟩:=o
 simp only [aT,Bool.and_eq_true] at hq
 obtain ⟨hd,hq⟩:=hq
 have el:∀ x ∈ op.operands.toList,∀ c,s.ev x=.one (.cell c)->∀ id ∈ c.ids,∃ e,s.aj id=some e:=fun x _ c hx id hid=>l.ev x id (by rw [hx];simpa [Slot.ids,av.ids,av.cells] using hid)
 replace e:Ext s s1 op.operands.toList:=e
 cases op <;> try (simp at hq;done)
 case move x=>simp only [aS];rw [e.ev x (by simp [Op.operands])]
 case assign x=>simp only [aS];rw [e.ev x (by simp [Op.operands])]
 case pick c a b=>simp only [aS];rw [e.ev c (by simp [Op.operands]),e.ev a (by simp [Op.operands]),e.ev b (by simp [Op.operands])]
 case alloc t=>rfl
 case box t x=>simp only [aS];rw [e.ev x (by simp [Op.operands])]
 case build t parts=>simp only [aS];simp only [xK e (fun p hp=>by simp only [Op.operands,List.mem_map];exact ⟨p,hp,rfl⟩)]
 case buildSlice t n parts=>simp only [aS];simp only [xL e l (fun p hp=>by simp only [Op.operands,List.mem_map];exact ⟨p,hp,rfl⟩)]
 case load t x=>
  simp only [aS]
  rw [e.ev x (by simp [Op.operands])]
  cases C.shape t with
  | none=>rfl
  | some na=>
   obtain ⟨n,agg⟩:=na
   cases hx:s.ev x with
   | wN _=>rfl
   | one c=>
    cases c with
    | agg _=>rfl
    | cell c=>simp only;rw [Me e.aj (el x (by simp [Op.operands]) c hx)]
 case nilCheck x=>simp only [aS];rw [e.ev x (by simp [Op.operands])]
 case binOp op t x y t'=>simp only [aS];rw [Gd e (x:=x) (by simp [Op.operands]),Gd e (x:=y) (by simp [Op.operands])]
 case unOp op t x=>simp only [aS];rw [Gd e (x:=x) (by simp [Op.operands])]
 case convert src dt x=>
  simp only [aS]
  rw [e.ev x (by simp [Op.operands])]
  split
  ·rfl
  ·rfl
  ·rename_i hx
   split
   ·rw [Sl e.aj (el x (by simp [Op.operands]) _ hx)]
   ·rfl
  ·rfl
 case makeFunc fn first captured=>
  cases fn <;> try (simp at hq;done)
  simp only [aS]
  rw [xJ e (fun x hx=>by simp [Op.operands] at *;exact .inr hx)]
 case makeSlice t a c=>simp only [aS];rw [AV e (x:=a) (by simp [Op.operands]),AV e (x:=c) (by simp [Op.operands])]
 case slice t x lo hi mx=>
  cases mx with
  | some _=>simp at hq
  | none=>
   simp only [aS]
   rw [e.ev x (by simp [Op.operands]),Gf e (x:=lo) (fun y hy=>by subst hy;simp [Op.operands]),Gf e (x:=hi) (fun y hy=>by subst hy;simp [Op.operands])]
   split
   ·rfl
   ·rename_i hx
    split
    ·simp only [Ij e.aj (el x (by simp [Op.operands]) _ hx)]
    ·rfl
   ·rfl
 case fieldAddr t x ix=>simp only [aS];rw [e.ev x (by simp [Op.operands])]
 case field t x ix=>simp only [aS];rw [e.ev x (by simp [Op.operands])]
 case indexAddr t x ix=>
  simp only [aS]
  rw [e.ev x (by simp [Op.operands]),AV e (x:=ix) (by simp [Op.operands])]
  congr 1
  funext y
  split
  ·rename_i hx
   rw [Ik e.aj (el x (by simp [Op.operands]) _ hx)]
  ·rfl
 case index t x ix=>simp only [aS];rw [e.ev x (by simp [Op.operands]),AV e (x:=ix) (by simp [Op.operands])]
 case extract x ix=>simp only [aS];rw [e.ev x (by simp [Op.operands])]
 case call c=>
  obtain ⟨callee,args,argTypes⟩:=c
  have hargs:∀ x ∈ args.toList,x ∈ (Op.call ⟨callee,args,argTypes⟩).operands.toList:=fun x hx=>by
   cases callee <;> simp [Op.operands,Call.operands] at * <;> first | exact hx | exact .inr hx
  have hmap:args.toList.map s1.ev=args.toList.map s.ev:=List.map_congr_left fun x hx=>e.ev x (hargs x hx)
  cases callee with
  | invoke _ _=>simp at hq
  | value g=>
   have hg:g ∈ (Op.call ⟨.value g,args,argTypes⟩).operands.toList:=by simp [Op.operands,Call.operands]
   simp only [aS]
   rw [e.ev g hg,xJ e hargs]
   split
   ·rename_i hg' hvs
    exact Qe e.aj l (Mh l hvs) (el g hg _ hg')
   ·rfl
  | builtin b=>
   cases b <;> try (simp at hq;done)
   case len=>
    simp only [aS]
    split
    ·rename_i hx hd
     have hm:=hargs
     rw [hx] at hm
     rw [e.ev _ (hm _ (by simp))]
     split
     ·rename_i c hc
      rw [TR e.aj (el _ (hm _ (by simp)) _ hc)]
     ·rfl
    ·rfl
   case max=>simp only [aS];rw [hmap]
   case min=>simp only [aS];rw [hmap]
end Go.Flat
