/- What an operation's value leans on. No condition. -/
import Derived.Test.YtmocpfgfjeaelaaGreatDraw1
set_option linter.unusedVariables false
set_option linter.unusedSimpArgs false
namespace Go.Flat
structure Live (s:St):Prop where
 env:∀ t,∀ id ∈ (s.env t).ids,∃ e,s.ak id=some e
 box:∀ k t cs,s.ak k=some (.box t cs)->∀ c ∈ cs,∀ id ∈ c.ids,∃ e,s.ak id=some e
theorem DT {M:Mem} {c:Cell} {v:Value} (h:fB M c v):∀ id ∈ c.ids,∃ e,M.ak id=some e:=by
 intro id hid
 cases c <;> simp only [Cell.ids] at hid <;> try (simp at hid;done)
 case ref j=>simp at hid;subst hid;obtain ⟨t,l,o,hs,_⟩:=h;exact ⟨_,hs⟩
 case sub j off n=>simp at hid;subst hid;obtain ⟨t,l,o,hs,_⟩:=h;exact ⟨_,hs⟩
 case ptr j off=>simp at hid;subst hid;obtain ⟨t,l,o,hs,_⟩:=h;exact ⟨_,hs⟩
 case mJ j i off=>simp at hid;subst hid;obtain ⟨t,l,o,p,hs,_⟩:=h;exact ⟨_,hs⟩
 case mY j=>simp at hid;subst hid;obtain ⟨t,l,o,hs,_⟩:=h;exact ⟨_,hs⟩
 case oI j i off=>simp at hid;subst hid;obtain ⟨t,l,o,p,hs,_⟩:=h;exact ⟨_,hs⟩
 case inn j i off=>simp at hid;subst hid;obtain ⟨t,l,n,hs,_⟩:=h;exact ⟨_,hs⟩
 case nL f caps=>
  obtain ⟨cp,hcp,he⟩:=List.mem_filterMap.1 hid
  obtain ⟨vs,_,hl,hc⟩:=h
  obtain ⟨i,hi⟩:=List.mem_iff_getElem?.1 hcp
  have hlt:i<vs.length:=by rw [hl];exact (List.getElem?_eq_some_iff.1 hi).1
  have:=hc i cp vs[i] hi (List.getElem?_eq_getElem hlt)
  cases cp with
  | ro t x=>simp at he
  | ptr j=>
   simp at he
   subst he
   obtain ⟨t,cs,p,hs,_⟩:=this
   exact ⟨_,hs⟩
theorem BU {M:Mem} {cs:List Cell} {vs:List Value} (h:aH M cs vs):∀ c ∈ cs,∀ id ∈ c.ids,∃ e,M.ak id=some e:=by
 intro c hc
 obtain ⟨i,hi⟩:=List.mem_iff_getElem?.1 hc
 have hlt:i<vs.length:=by rw [h.1];exact (List.getElem?_eq_some_iff.1 hi).1
 exact DT (h.2 i c vs[i] hi (List.getElem?_eq_getElem hlt)).1
theorem DU {M:Mem} {c:aJ} {v:Value} (h:eY M c v):∀ id ∈ c.ids,∃ e,M.ak id=some e:=by
 intro id hid
 cases c with
 | cell c=>exact DT h id (by simpa [aJ.ids,aJ.cells] using hid)
 | agg cs=>
  obtain ⟨vs,_,hc⟩:=h
  simp only [aJ.ids,aJ.cells,List.mem_flatMap] at hid
  obtain ⟨c,hcm,hid⟩:=hid
  exact BU hc c hcm id hid
theorem Nz {M:Mem} {s:Slot} {v:Value} (h:gJ M s v):∀ id ∈ s.ids,∃ e,M.ak id=some e:=by
 intro id hid
 cases s with
 | one c=>exact DU h id hid
 | Dm cs=>
  obtain ⟨vs,_,hl,hc⟩:=h
  simp only [Slot.ids,List.mem_flatMap] at hid
  obtain ⟨c,hcm,hid⟩:=hid
  obtain ⟨i,hi⟩:=List.mem_iff_getElem?.1 hcm
  have hlt:i<vs.length:=by rw [hl];exact (List.getElem?_eq_some_iff.1 hi).1
  exact DU (hc i c vs[i] hi (List.getElem?_eq_getElem hlt)) id hid
theorem Inv.live {F0:lS} {G:Nat->Prop} {s:St} {a:Act} {w:World} {pl:Nat->Option Pl} (i:Inv F0 G s a w pl):Live s:=
 ⟨fun t=>Nz (i.env t),fun k t cs hs=>by
  obtain ⟨p,c,e,fz,h1,h2,h3,h4,h5,h6,h7,h8,h9⟩:=i.ak.ent k _ hs
  exact BU h8⟩
theorem Live.ev {s:St} (l:Live s) (x:Operand):∀ id ∈ (s.ev x).ids,∃ e,s.ak id=some e:=by
 intro id hid
 cases x with
 | tmp t=>exact l.env t id hid
 | global g=>simp [St.ev,Slot.ids,aJ.ids,aJ.cells,Cell.ids] at hid
 | func f=>simp [St.ev,Slot.ids,aJ.ids,aJ.cells,Cell.ids] at hid
 | const v=>
  exfalso
  simp only [St.ev] at hid
  unfold ofConst at hid
  split at hid <;> simp [Slot.ids,aJ.ids,aJ.cells,Cell.ids] at hid
structure Ext (s s1:St) (xs:List Operand):Prop where
 ak:∀ id e,s.ak id=some e->s1.ak id=some e
 ev:∀ x ∈ xs,s1.ev x=s.ev x
section
variable {s s1:St} (hs:∀ id e,s.ak id=some e->s1.ak id=some e)
include hs
theorem mR {id:Nat} (h:∃ e,s.ak id=some e):s1.ak id=s.ak id:=by
 obtain ⟨e,he⟩:=h
 rw [he,hs id e he]
theorem OY {n:Nat} {agg:Bool} {p:Cell} (h:∀ id ∈ p.ids,∃ e,s.ak id=some e):s1.iY n agg p=s.iY n agg p:=by
 cases p <;> try rfl
 case ptr id off=>simp only [St.iY];rw [mR hs (h id (by simp [Cell.ids]))]
 case mJ id i off=>simp only [St.iY];rw [mR hs (h id (by simp [Cell.ids]))]
 case oI id i off=>simp only [St.iY];rw [mR hs (h id (by simp [Cell.ids]))]
theorem XT {d:TypeDesc} {c:Cell} (h:∀ id ∈ c.ids,∃ e,s.ak id=some e):s1.len d c=s.len d c:=by
 cases d <;> cases c <;> try rfl
 case slice.ref e id=>simp only [St.len];rw [mR hs (h id (by simp [Cell.ids]))]
 case slice.mY e id=>simp only [St.len];rw [mR hs (h id (by simp [Cell.ids]))]
theorem KU {u:Ty} {lo hi:Option Int} {c:Cell} (h:∀ id ∈ c.ids,∃ e,s.ak id=some e):kS s1 u lo hi c=kS s u lo hi c:=by
 cases c <;> try rfl
 case ref id=>simp only [kS];rw [mR hs (h id (by simp [Cell.ids]))]
 case sub id off n=>simp only [kS];rw [mR hs (h id (by simp [Cell.ids]))]
theorem KV {u:Ty} {i:Int} {c:Cell} (h:∀ id ∈ c.ids,∃ e,s.ak id=some e):oJ s1 u i c=oJ s u i c:=by
 cases c <;> try rfl
 case ref id=>simp only [oJ];rw [mR hs (h id (by simp [Cell.ids]))]
 case sub id off n=>simp only [oJ];rw [mR hs (h id (by simp [Cell.ids]))]
 case mY id=>simp only [oJ];rw [mR hs (h id (by simp [Cell.ids]))]
theorem Jo {m:Mode} {t:Ty} {c:Cell} (h:∀ id ∈ c.ids,∃ e,s.ak id=some e):jh s1.ak m t c=jh s.ak m t c:=by
 cases c <;> try rfl
 case ref id=>simp only [jh];rw [mR hs (h id (by simp [Cell.ids]))]
 case sub id off n=>simp only [jh];rw [mR hs (h id (by simp [Cell.ids]))]
theorem OZ {m:Mode} {t:Ty} {c:Cell} (h:∀ id ∈ c.ids,∃ e,s.ak id=some e):kU s1.ak m t c=kU s.ak m t c:=by
 cases c <;> try rfl
 case mY id=>simp only [kU];rw [mR hs (h id (by simp [Cell.ids]))]
theorem VT {t:Ty} {c:Cell} (h:∀ id ∈ c.ids,∃ e,s.ak id=some e):s1.look t c=s.look t c:=by
 unfold St.look
 rw [Jo hs h]
theorem Af {m:Mode}:∀ {t:Ty} {cs:List Cell},(∀ c ∈ cs,∀ id ∈ c.ids,∃ e,s.ak id=some e)->aF s1.ak m t cs=aF s.ak m t cs/\∀ x r ids,aF s.ak m t cs=some (x,r,ids)->∀ c ∈ r,c ∈ cs
 | .bool,[],h=>⟨rfl,fun x r ids hx=>by simp [aF] at hx⟩
 | .int k,[],h=>⟨rfl,fun x r ids hx=>by simp [aF] at hx⟩
 | .str,[],h=>⟨rfl,fun x r ids hx=>by simp [aF] at hx⟩
 | .list t,[],h=>⟨rfl,fun x r ids hx=>by simp [aF] at hx⟩
 | .bR t,[],h=>⟨rfl,fun x r ids hx=>by simp [aF] at hx⟩
 | .unit,cs,h=>by
  have e:∀ σ:Nat->Option Entry,aF σ m .unit cs=some ((),cs,[]):=fun σ=>by
   cases cs with
   | nil=>rfl
   | cons c cs=>cases c <;> rfl
  rw [e,e]
  refine ⟨rfl,fun x r ids hx=>?_⟩
  simp at hx
  rw [hx.1]
  exact fun c hc=>hc
 | .pair a b,cs,h=>by
  rw [jX,jX]
  obtain ⟨h1,h2⟩:=Af (m:=m) (t:=a) h
  rw [h1]
  cases ha:aF s.ak m a cs with
  | none=>exact ⟨rfl,fun x r ids hx=>by cases hx⟩
  | some ra=>
   obtain ⟨x1,r1,KP⟩:=ra
   have hsub:=h2 x1 r1 KP ha
   obtain ⟨h3,h4⟩:=Af (m:=m) (t:=b) (cs:=r1) (fun c hc=>h c (hsub c hc))
   simp only
   rw [h3]
   refine ⟨rfl,fun x r ids hx=>?_⟩
   cases hb:aF s.ak m b r1 with
   | none=>rw [hb] at hx;cases hx
   | some rb=>
    obtain ⟨x2,r2,KQ⟩:=rb
    rw [hb] at hx
    simp at hx
    obtain ⟨_,rfl,_⟩:=hx
    exact fun c hc=>hsub c (h4 x2 r2 KQ hb c hc)
 | .bool,c :: cs,h=>by
  cases c <;> refine ⟨rfl,fun x r ids hx=>?_⟩ <;> simp [aF] at hx
  all_goals
   obtain ⟨_,rfl,_⟩:=hx
   exact fun c hc=>List.mem_cons_of_mem _ hc
 | .int k,c :: cs,h=>by
  cases c <;> refine ⟨rfl,fun x r ids hx=>?_⟩ <;> simp [aF] at hx
  obtain ⟨_,_,rfl,_⟩:=hx
  exact fun c hc=>List.mem_cons_of_mem _ hc
 | .str,c :: cs,h=>by
  cases c <;> refine ⟨rfl,fun x r ids hx=>?_⟩ <;> simp [aF] at hx
  obtain ⟨_,rfl,_⟩:=hx
  exact fun c hc=>List.mem_cons_of_mem _ hc
 | .list t,c :: cs,h=>by
  have e:∀ σ:Nat->Option Entry,aF σ m (.list t) (c :: cs)=(jh σ m t c).map fun (l,ids)=>(l,cs,ids):=fun σ=>by cases c <;> rfl
  rw [e,e,Jo hs (h c (by simp))]
  refine ⟨rfl,fun x r ids hx=>?_⟩
  obtain ⟨⟨l,js⟩,_,he⟩:=Option.map_eq_some_iff.1 hx
  simp at he
  obtain ⟨_,rfl,_⟩:=he
  exact fun c hc=>List.mem_cons_of_mem _ hc
 | .bR t,c :: cs,h=>by
  have e:∀ σ:Nat->Option Entry,aF σ m (.bR t) (c :: cs)=(kU σ m t c).map fun (l,ids)=>(l,cs,ids):=fun σ=>by cases c <;> rfl
  rw [e,e,OZ hs (h c (by simp))]
  refine ⟨rfl,fun x r ids hx=>?_⟩
  obtain ⟨⟨l,js⟩,_,he⟩:=Option.map_eq_some_iff.1 hx
  simp at he
  obtain ⟨_,rfl,_⟩:=he
  exact fun c hc=>List.mem_cons_of_mem _ hc
theorem nX {m:Mode} {t:Ty} {cs:List Cell} (h:∀ c ∈ cs,∀ id ∈ c.ids,∃ e,s.ak id=some e):bG s1.ak m t cs=bG s.ak m t cs:=by
 unfold bG
 rw [(Af hs h).1]
theorem CJ (l:Live s):∀ {caps:List Cap},(∀ id ∈ caps.filterMap (fun | .ptr id=>some id | _=>none),∃ e,s.ak id=some e)->jT s1 caps=jT s caps
 | [],_=>rfl
 | c :: caps,h=>by
  simp only [jT]
  have ih:=CJ l (caps:=caps) (fun id hid=>h id (by
   rw [List.filterMap_cons]
   split
   ·exact hid
   ·exact List.mem_cons_of_mem _ hid))
  rw [ih]
  have hc:xX s1 c=xX s c:=by
   cases c with
   | ro t x=>rfl
   | ptr id=>
    obtain ⟨e,he⟩:=h id (by simp)
    simp only [xX]
    rw [mR hs ⟨e,he⟩,he]
    cases e with
    | arr _ _ _=>rfl
    | deep _ _ _=>rfl
    | box t cs=>
     cases t with
     | none=>rfl
     | some t=>simp only;rw [nX hs (l.box id _ cs he)]
  rw [hc]
theorem TP {C:dh} (l:Live s) {io:Bool} {t:TypeId} {v:aJ} (h:∀ id ∈ v.ids,∃ e,s.ak id=some e):toArg C s1 io t v=toArg C s io t v:=by
 have hcs:∀ c ∈ v.cells,∀ id ∈ c.ids,∃ e,s.ak id=some e:=fun c hc id hid=>h id (by simp only [aJ.ids,List.mem_flatMap];exact ⟨c,hc,hid⟩)
 unfold toArg
 cases io with
 | true=>
  simp only [cond_true]
  unfold Hw
  cases v with
  | agg _=>rfl
  | cell c=>
   cases c <;> try rfl
   case ref id=>simp only;rw [mR hs (h id (by simp [aJ.ids,aJ.cells,Cell.ids]))]
   case ptr id off=>
    cases off with
    | succ _=>rfl
    | zero=>
     obtain ⟨e,he⟩:=h id (by simp [aJ.ids,aJ.cells,Cell.ids])
     simp only
     rw [mR hs ⟨e,he⟩,he]
     cases e with
     | arr _ _ _=>rfl
     | deep _ _ _=>rfl
     | box t cs=>
      cases t with
      | none=>rfl
      | some t=>simp only;rw [nX hs (l.box id _ cs he)]
 | false=>
  simp only [cond_false]
  unfold nS
  cases C.ty t with
  | some u=>simp only [nX hs hcs]
  | none=>
   simp only
   cases v with
   | agg _=>rfl
   | cell c=>
    cases c <;> try rfl
    case ru fr u x off=>cases off <;> rfl
    case nL f caps=>
     simp only
     rw [CJ hs l (fun id hid=>h id (by simp only [aJ.ids,aJ.cells,List.flatMap_cons,List.flatMap_nil,List.append_nil];exact hid))]
    case ptr id off=>
     cases off with
     | succ _=>rfl
     | zero=>
      obtain ⟨e,he⟩:=h id (by simp [aJ.ids,aJ.cells,Cell.ids])
      simp only [xX]
      rw [mR hs ⟨e,he⟩,he]
      cases e with
      | arr _ _ _=>rfl
      | deep _ _ _=>rfl
      | box t cs=>
       cases t with
       | none=>rfl
       | some t=>simp only;rw [nX hs (l.box id _ cs he)]
theorem Jp {C:dh} (l:Live s) {io:List Nat}:∀ {vs:List aJ} {i:Nat} {ts:List TypeId},(∀ v ∈ vs,∀ id ∈ v.ids,∃ e,s.ak id=some e)->qF C s1 io i ts vs=qF C s io i ts vs
 | [],i,ts,_=>by cases ts <;> rfl
 | v :: vs,i,[],_=>rfl
 | v :: vs,i,t :: ts,h=>by
  simp only [qF]
  rw [TP hs l (h v (by simp)),Jp l (vs:=vs) (fun v hv=>h v (List.mem_cons_of_mem _ hv))]
omit hs in
theorem any_congr {α:Type} {f g:α->Bool}:∀ {l:List α},(∀ x ∈ l,f x=g x)->l.any f=l.any g
 | [],_=>rfl
 | x :: l,h=>by rw [List.any_cons,List.any_cons,h x (by simp),any_congr (fun y hy=>h y (List.mem_cons_of_mem _ hy))]
theorem Pb {vs:List aJ} {caps:List Cap} (h:∀ v ∈ vs,∀ id ∈ v.ids,∃ e,s.ak id=some e)
  (hc:∀ id ∈ caps.filterMap (fun | .ptr id=>some id | _=>none),∃ e,s.ak id=some e):jB s1 vs caps=jB s vs caps:=by
 have cap:∀ {caps:List Cap},(∀ id ∈ caps.filterMap (fun | .ptr id=>some id | _=>none),∃ e,s.ak id=some e)->caps.any (kV s1)=caps.any (kV s):=by
  intro caps hc
  refine any_congr fun c hcm=>?_
  cases c with
  | ro _ _=>rfl
  | ptr id=>simp only [kV];rw [mR hs (hc id (List.mem_filterMap.2 ⟨_,hcm,rfl⟩))]
 unfold jB
 rw [cap hc]
 congr 1
 refine any_congr fun v hv=>any_congr fun c hcm=>?_
 have hid:∀ id ∈ c.ids,∃ e,s.ak id=some e:=fun id hid=>h v hv id (by simp only [aJ.ids,List.mem_flatMap];exact ⟨c,hcm,hid⟩)
 cases c <;> try rfl
 case ptr id off=>simp only [kW,kV];rw [mR hs (hid id (by simp [Cell.ids]))]
 case nL f cs=>exact cap (fun id hm=>hid id hm)
theorem TQ {C:dh} (l:Live s) {d:Tmp} {f:FuncId} {vs:List aJ} {caps:List Cap} (h:∀ v ∈ vs,∀ id ∈ v.ids,∃ e,s.ak id=some e)
  (hc:∀ id ∈ caps.filterMap (fun | .ptr id=>some id | _=>none),∃ e,s.ak id=some e):Iw C s1 d f vs caps=Iw C s d f vs caps:=by
 unfold Iw
 cases (C.sig f).lend with
 | some _=>rfl
 | none=>
 simp only
 cases (C.sig f).io with
 | cons _ _=>rfl
 | nil=>
 simp only
 unfold zP
 cases C.P.funcs[f]? with
 | none=>rfl
 | some fn=>simp only;rw [Jp hs l h,CJ hs l hc,Pb hs h hc]
end
section
variable {s s1:St} {xs:List Operand} (e:Ext s s1 xs)
include e
theorem Ag:∀ {ys:List Operand},(∀ x ∈ ys,x ∈ xs)->dY s1 ys=dY s ys
 | [],_=>rfl
 | y :: ys,h=>by
  simp only [dY]
  rw [e.ev y (h y (by simp)),Ag (ys:=ys) (fun x hx=>h x (List.mem_cons_of_mem _ hx))]
theorem DV {x:Operand} (h:x ∈ xs):s1.int x=s.int x:=by
 unfold St.int
 rw [e.ev x h]
theorem Jq {x:Operand} (h:x ∈ xs):s1.comp x=s.comp x:=by
 unfold St.comp
 rw [e.ev x h]
theorem Jr {x:Option Operand} (h:∀ y,x=some y->y ∈ xs):sM s1 x=sM s x:=by
 cases x with
 | none=>rfl
 | some y=>simp only [sM];rw [DV e (h y rfl)]
theorem Ah {C:dh} {t:TypeId}:∀ {parts:List (Nat × Operand)} {cs:List Cell},(∀ p ∈ parts,p.2 ∈ xs)->gM C s1 t parts cs=gM C s t parts cs
 | [],_,_=>rfl
 | (i,x) :: r,cs,h=>by
  simp only [gM]
  rw [e.ev x (h (i,x) (by simp))]
  have ih:∀ cs,gM C s1 t r cs=gM C s t r cs:=fun cs=>Ah (fun p hp=>h p (List.mem_cons_of_mem _ hp))
  simp only [ih]
theorem Ai (l:Live s) {t:Ty}:∀ {parts:List (Nat × Operand)} {a:List t.den} {ids:List Nat},(∀ p ∈ parts,p.2 ∈ xs)->dG s1 t parts a ids=dG s t parts a ids
 | [],_,_,_=>rfl
 | (i,x) :: r,a,ids,h=>by
  simp only [dG]
  rw [e.ev x (h (i,x) (by simp))]
  have ih:∀ a ids,dG s1 t r a ids=dG s t r a ids:=fun a ids=>Ai l (fun p hp=>h p (List.mem_cons_of_mem _ hp))
  simp only [ih]
  have hl:=l.ev x
  cases hx:s.ev x with
  | Dm _=>rfl
  | one v=>
   rw [hx] at hl
   simp only
   rw [nX e.ak (fun c hc id hid=>hl id (by simp only [Slot.ids,aJ.ids,List.mem_flatMap];exact ⟨c,hc,hid⟩))]
end
theorem Pf {s:St} (l:Live s):∀ {ys:List Operand} {vs:List aJ},dY s ys=some vs->∀ v ∈ vs,∀ id ∈ v.ids,∃ e,s.ak id=some e
 | [],vs,h=>by simp [dY] at h;subst h;simp
 | y :: ys,vs,h=>by
  have hl:=l.ev y
  simp only [dY] at h
  split at h
  ·rename_i c r hc hr
   simp at h
   subst h
   intro v hv
   rcases List.mem_cons.1 hv with rfl | hv
   ·rw [hc] at hl;exact hl
   ·exact Pf l hr v hv
  ·cases h
theorem Js {C:dh} {o:Oper} {s s1:St} (l:Live s) (hq:dw C o=true) (e:Ext s s1 o.op.operands.toList):dB C o s1=dB C o s:=by
 obtain ⟨dst,op,type,pos,after,guard⟩:=o
 simp only [dw,Bool.and_eq_true] at hq
 obtain ⟨hd,hq⟩:=hq
 have el:∀ x ∈ op.operands.toList,∀ c,s.ev x=.one (.cell c)->∀ id ∈ c.ids,∃ e,s.ak id=some e:=fun x _ c hx id hid=>l.ev x id (by rw [hx];simpa [Slot.ids,aJ.ids,aJ.cells] using hid)
 replace e:Ext s s1 op.operands.toList:=e
 cases op <;> try (simp at hq;done)
 case move x=>simp only [dB];rw [e.ev x (by simp [Op.operands])]
 case assign x=>simp only [dB];rw [e.ev x (by simp [Op.operands])]
 case pick c a b=>simp only [dB];rw [e.ev c (by simp [Op.operands]),e.ev a (by simp [Op.operands]),e.ev b (by simp [Op.operands])]
 case alloc t=>rfl
 case box t x=>simp only [dB];rw [e.ev x (by simp [Op.operands])]
 case build t parts=>simp only [dB];simp only [Ah e (fun p hp=>by simp only [Op.operands,List.mem_map];exact ⟨p,hp,rfl⟩)]
 case buildSlice t n parts=>simp only [dB];simp only [Ai e l (fun p hp=>by simp only [Op.operands,List.mem_map];exact ⟨p,hp,rfl⟩)]
 case load t x=>
  simp only [dB]
  rw [e.ev x (by simp [Op.operands])]
  cases C.shape t with
  | none=>rfl
  | some na=>
   obtain ⟨n,agg⟩:=na
   cases hx:s.ev x with
   | Dm _=>rfl
   | one c=>
    cases c with
    | agg _=>rfl
    | cell c=>simp only;rw [OY e.ak (el x (by simp [Op.operands]) c hx)]
 case nilCheck x=>simp only [dB];rw [e.ev x (by simp [Op.operands])]
 case binOp op t x y t'=>simp only [dB];rw [Jq e (x:=x) (by simp [Op.operands]),Jq e (x:=y) (by simp [Op.operands])]
 case unOp op t x=>simp only [dB];rw [Jq e (x:=x) (by simp [Op.operands])]
 case convert src dt x=>
  simp only [dB]
  rw [e.ev x (by simp [Op.operands])]
  split
  ·rfl
  ·rfl
  ·rename_i hx
   split
   ·rw [VT e.ak (el x (by simp [Op.operands]) _ hx)]
   ·rfl
  ·rfl
 case makeFunc fn first captured=>
  cases fn <;> try (simp at hq;done)
  simp only [dB]
  rw [Ag e (fun x hx=>by simp [Op.operands] at *;exact .inr hx)]
 case makeSlice t a c=>simp only [dB];rw [DV e (x:=a) (by simp [Op.operands]),DV e (x:=c) (by simp [Op.operands])]
 case slice t x lo hi mx=>
  cases mx with
  | some _=>simp at hq
  | none=>
   simp only [dB]
   rw [e.ev x (by simp [Op.operands]),Jr e (x:=lo) (fun y hy=>by subst hy;simp [Op.operands]),Jr e (x:=hi) (fun y hy=>by subst hy;simp [Op.operands])]
   split
   ·rfl
   ·rename_i hx
    split
    ·simp only [KU e.ak (el x (by simp [Op.operands]) _ hx)]
    ·rfl
   ·rfl
 case fieldAddr t x ix=>simp only [dB];rw [e.ev x (by simp [Op.operands])]
 case field t x ix=>simp only [dB];rw [e.ev x (by simp [Op.operands])]
 case indexAddr t x ix=>
  simp only [dB]
  rw [e.ev x (by simp [Op.operands]),DV e (x:=ix) (by simp [Op.operands])]
  congr 1
  funext y
  split
  ·rename_i hx
   rw [KV e.ak (el x (by simp [Op.operands]) _ hx)]
  ·rfl
 case index t x ix=>simp only [dB];rw [e.ev x (by simp [Op.operands]),DV e (x:=ix) (by simp [Op.operands])]
 case extract x ix=>simp only [dB];rw [e.ev x (by simp [Op.operands])]
 case call c=>
  obtain ⟨callee,args,argTypes⟩:=c
  have hargs:∀ x ∈ args.toList,x ∈ (Op.call ⟨callee,args,argTypes⟩).operands.toList:=fun x hx=>by
   cases callee <;> simp [Op.operands,Call.operands] at * <;> first | exact hx | exact .inr hx
  have hmap:args.toList.map s1.ev=args.toList.map s.ev:=List.map_congr_left fun x hx=>e.ev x (hargs x hx)
  cases callee with
  | invoke _ _=>simp at hq
  | value g=>
   have hg:g ∈ (Op.call ⟨.value g,args,argTypes⟩).operands.toList:=by simp [Op.operands,Call.operands]
   simp only [dB]
   rw [e.ev g hg,Ag e hargs]
   split
   ·rename_i hg' hvs
    exact TQ e.ak l (Pf l hvs) (el g hg _ hg')
   ·rfl
  | builtin b=>
   cases b <;> try (simp at hq;done)
   case len=>
    simp only [dB]
    split
    ·rename_i hx hd
     have hm:=hargs
     rw [hx] at hm
     rw [e.ev _ (hm _ (by simp))]
     split
     ·rename_i c hc
      rw [XT e.ak (el _ (hm _ (by simp)) _ hc)]
     ·rfl
    ·rfl
   case max=>simp only [dB];rw [hmap]
   case min=>simp only [dB];rw [hmap]
end Go.Flat
