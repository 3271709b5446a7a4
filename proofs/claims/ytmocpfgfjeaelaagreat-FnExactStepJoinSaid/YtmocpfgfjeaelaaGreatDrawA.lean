/- Regions whose order is open and that append. No condition. -/
import Derived.Test.YtmocpfgfjeaelaaGreatDraw3
set_option linter.unusedVariables false
set_option linter.unusedSimpArgs false
namespace Go.Flat
theorem mK {a b:List Nat} (h:subs a b=true):∀ x ∈ a,x ∈ b:=fun x hx=>by
 have:=List.all_eq_true.1 h x hx
 simpa using this
theorem vJ {a b:List Nat} (h:JR a b=true):∀ x ∈ a,x ∉ b:=fun x hx=>by
 have:=List.all_eq_true.1 h x hx
 simpa using this
theorem Ct {i id:Nat} (h:i ≠ id):Nat.beq i id=false:=by
 cases e:Nat.beq i id with
 | false=>rfl
 | true=>exact absurd (Nat.eq_of_beq_eq_true e) h
theorem Cell.iC {id:Nat} {c:Cell} (h:id ∉ c.ids):c.kill id=c:=by
 cases c <;> try rfl
 case ref i=>simp only [Cell.ids,List.mem_singleton] at h;simp only [Cell.kill];rw [Ct (Ne.symm h)];rfl
 case sub i o l=>simp only [Cell.ids,List.mem_singleton] at h;simp only [Cell.kill];rw [Ct (Ne.symm h)];rfl
 case ko i k o=>simp only [Cell.ids,List.mem_singleton] at h;simp only [Cell.kill];rw [Ct (Ne.symm h)];rfl
 case fE i=>simp only [Cell.ids,List.mem_singleton] at h;simp only [Cell.kill];rw [Ct (Ne.symm h)];rfl
 case kJ i k o=>simp only [Cell.ids,List.mem_singleton] at h;simp only [Cell.kill];rw [Ct (Ne.symm h)];rfl
 case inn i k o=>simp only [Cell.ids,List.mem_singleton] at h;simp only [Cell.kill];rw [Ct (Ne.symm h)];rfl
theorem Cell.jQ {id:Nat} {c:Cell}:∀ i ∈ (c.kill id).ids,i ∈ c.ids:=by
 intro i hi
 cases c <;> try exact hi
 case fE j=>
  simp only [Cell.kill] at hi
  cases e:Nat.beq j id with
  | true=>rw [e] at hi;simp [Cell.ids] at hi
  | false=>rw [e] at hi;exact hi
 case kJ j k o=>
  simp only [Cell.kill] at hi
  cases e:Nat.beq j id with
  | true=>rw [e] at hi;simp [Cell.ids] at hi
  | false=>rw [e] at hi;exact hi
 case inn j k o=>
  simp only [Cell.kill] at hi
  cases e:Nat.beq j id with
  | true=>rw [e] at hi;simp [Cell.ids] at hi
  | false=>rw [e] at hi;exact hi
 case ref j=>
  simp only [Cell.kill] at hi
  cases e:Nat.beq j id with
  | true=>rw [e] at hi;simp [Cell.ids] at hi
  | false=>rw [e] at hi;exact hi
 case sub j o l=>
  simp only [Cell.kill] at hi
  cases e:Nat.beq j id with
  | true=>rw [e] at hi;simp [Cell.ids] at hi
  | false=>rw [e] at hi;exact hi
 case ko j k o=>
  simp only [Cell.kill] at hi
  cases e:Nat.beq j id with
  | true=>rw [e] at hi;simp [Cell.ids] at hi
  | false=>rw [e] at hi;exact hi
theorem xP {id:Nat}:∀ {cs:List Cell},(∀ c ∈ cs,id ∉ c.ids)->cs.map (·.kill id)=cs
 | [],_=>rfl
 | c :: cs,h=>by
  simp only [List.map_cons]
  rw [Cell.iC (h c (by simp)),xP fun d hd=>h d (List.mem_cons_of_mem _ hd)]
theorem av.iC {id:Nat} {c:av} (h:id ∉ c.ids):c.kill id=c:=by
 cases c with
 | cell c=>simp only [av.kill];rw [Cell.iC (by simpa [av.ids,av.cells] using h)]
 | agg cs=>
  simp only [av.kill]
  rw [xP fun c hc hi=>h (by simp only [av.ids,av.cells,List.mem_flatMap];exact ⟨c,hc,hi⟩)]
theorem av.jQ {id:Nat} {c:av}:∀ i ∈ (c.kill id).ids,i ∈ c.ids:=by
 intro i hi
 cases c with
 | cell c=>simp only [av.kill,av.ids,av.cells,List.flatMap_cons,List.flatMap_nil,List.append_nil] at hi ⊢;exact Cell.jQ i hi
 | agg cs=>
  simp only [av.kill,av.ids,av.cells,List.mem_flatMap,List.mem_map] at hi ⊢
  obtain ⟨c,⟨d,hd,rfl⟩,hc⟩:=hi
  exact ⟨d,hd,Cell.jQ i hc⟩
theorem Ju {id:Nat}:∀ {cs:List av},(∀ c ∈ cs,id ∉ c.ids)->cs.map (·.kill id)=cs
 | [],_=>rfl
 | c :: cs,h=>by
  simp only [List.map_cons]
  rw [av.iC (h c (by simp)),Ju fun d hd=>h d (List.mem_cons_of_mem _ hd)]
theorem Slot.iC {id:Nat} {v:Slot} (h:id ∉ v.ids):v.kill id=v:=by
 cases v with
 | one c=>simp only [Slot.kill];rw [av.iC h]
 | wN cs=>
  simp only [Slot.kill]
  rw [Ju fun c hc hi=>h (by simp only [Slot.ids,List.mem_flatMap];exact ⟨c,hc,hi⟩)]
theorem Slot.jQ {id:Nat} {v:Slot}:∀ i ∈ (v.kill id).ids,i ∈ v.ids:=by
 intro i hi
 cases v with
 | one c=>exact av.jQ i hi
 | wN cs=>
  simp only [Slot.kill,Slot.ids,List.mem_flatMap,List.mem_map] at hi ⊢
  obtain ⟨c,⟨d,hd,rfl⟩,hc⟩:=hi
  exact ⟨d,hd,av.jQ i hc⟩
theorem Entry.iC {id:Nat} {e:Entry} (h:e.kH=true):e.kill id=e:=by
 cases e with
 | arr _ _ _=>rfl
 | deep _ _ _=>rfl
 | box t cs=>
  simp only [Entry.kill]
  rw [xP fun c hc hi=>by
   have:=List.all_eq_true.1 h c hc
   simp at this
   rw [this] at hi
   simp at hi]
theorem jW:∀ {es:List (Nat × Entry)} {σ σ':Nat->Option Entry},bn σ es=some σ'->∀ i e,(i,e) ∈ es->σ i=none/\σ' i=some e
 | [],σ,σ',h,i,e,he=>by simp at he
 | (k,x) :: r,σ,σ',h,i,e,he=>by
  simp only [bn] at h
  split at h
  ·rename_i hk
   rcases List.mem_cons.1 he with he | he
   ·cases he
    exact ⟨hk,eB h _ _ (upd_same _ _ _)⟩
   ·obtain ⟨h1,h2⟩:=jW h i e he
    refine ⟨?_,h2⟩
    by_cases hi:i=k
    ·subst hi;rw [upd_same] at h1;cases h1
    ·rwa [upd_ne _ _ hi] at h1
  ·cases h
def wJ (σ:Nat->Option Entry) (id:Nat) (E:Entry):Nat->Option Entry:=upd (fun k=>(σ k).map (·.kill id)) id (some E)
theorem qO {σ:Nat->Option Entry} {id j:Nat} {E:Entry} (h:j ≠ id):wJ σ id E j=(σ j).map (·.kill id):=upd_ne _ _ h
theorem Ml {σ:Nat->Option Entry} {id k:Nat} {E e:Entry} (h:k ≠ id) (he:e.kH=true):wJ (upd σ k (some e)) id E=upd (wJ σ id E) k (some e):=by
 funext j
 by_cases h1:j=id
 ·subst h1
  unfold wJ
  rw [upd_same,upd_ne _ _ (Ne.symm h),upd_same]
 ·rw [qO h1]
  by_cases h2:j=k
  ·subst h2
   rw [upd_same,upd_same]
   simp only [Option.map_some,Entry.iC he]
  ·rw [upd_ne _ _ h2,upd_ne _ _ h2,qO h1]
theorem zV:∀ {es:List (Nat × Entry)} {σ σ':Nat->Option Entry} {id:Nat} {E:Entry},(∀ x ∈ es,x.2.kH=true)->(∃ e,σ id=some e)->bn σ es=some σ'->bn (wJ σ id E) es=some (wJ σ' id E)
 | [],σ,σ',id,E,_,_,h=>by simp [bn] at h ⊢;rw [h]
 | (k,x) :: r,σ,σ',id,E,hx,⟨e,he⟩,h=>by
  simp only [bn] at h ⊢
  split at h
  ·rename_i hk
   have hne:k ≠ id:=fun hc=>by subst hc;rw [hk] at he;cases he
   rw [qO hne,hk]
   simp only [Option.map_none]
   rw [<- Ml hne (hx (k,x) (by simp))]
   exact zV (fun y hy=>hx y (List.mem_cons_of_mem _ hy)) ⟨e,by rw [upd_ne _ _ (Ne.symm hne)];exact he⟩ h
  ·cases h
theorem vK:∀ {es:List (Nat × Entry)} {σ σ2:Nat->Option Entry} {id:Nat} {E:Entry},(∀ x ∈ es,x.2.kH=true)->(∃ e,σ id=some e)->bn (wJ σ id E) es=some σ2->∃ σ',bn σ es=some σ'/\σ2=wJ σ' id E
 | [],σ,σ2,id,E,_,_,h=>by simp [bn] at h ⊢;exact h.symm
 | (k,x) :: r,σ,σ2,id,E,hx,⟨e,he⟩,h=>by
  simp only [bn] at h ⊢
  split at h
  ·rename_i hk
   have hne:k ≠ id:=fun hc=>by subst hc;unfold wJ at hk;rw [upd_same] at hk;cases hk
   rw [qO hne] at hk
   have hk':σ k=none:=by
    cases hh:σ k with
    | none=>rfl
    | some y=>rw [hh] at hk;cases hk
   rw [<- Ml hne (hx (k,x) (by simp))] at h
   rw [hk']
   exact vK (fun y hy=>hx y (List.mem_cons_of_mem _ hy)) ⟨e,by rw [upd_ne _ _ (Ne.symm hne)];exact he⟩ h
  ·cases h
theorem kM {α:Type} (x:Option α):x.bind some=x:=by cases x <;> rfl
def Qg {σ:Nat->Option Entry}:TypeDesc->(t:Ty)->Cell->Option (List t.den)
 | .string,.int .u8,.str b=>some (bytesOf b)
 | .slice _,t,c=>(gN σ .look t c).map (·.1)
 | _,_,_=>none
def qB (C:aZ) (o:Oper) (t y:Tmp) (s:St):Option (Option Nat × Entry):=
 match o.op with
 | .call { argTypes,.. }=>match argTypes.toList with
  | [ta,ty]=>match s.env t,s.env y,C.elem ta,C.P.underlying ty with
   | .one (.cell a),.one (.cell b),some (e,u),some ds=>if C.nk e then match Qg (σ:=s.aj) ds u b with
     | some lb=>match a with
      | .nil=>if lb.length*C.bytes e<=bN then some (none,.arr u lb .open) else none
      | .ref id=>match s.aj id with
       | some (.arr v l .open)=>match bJ (u:=u) l with
        | some l=>if (l.length+lb.length)*C.bytes e<=bN then some (some id,.arr u (l++lb) .open) else none
        | none=>none
       | _=>none
      | .sub id off n=>match s.aj id with
       | some (.arr v l .open)=>match bJ (u:=u) l with
        | some l=>if (n+lb.length)*C.bytes e<=bN then some (some id,.arr u ((l.drop off).take n++lb) .open) else none
        | none=>none
       | _=>none
      | _=>none
     | none=>none
    else none
   | _,_,_,_=>none
  | _=>none
 | _=>none
def iP (d:Tmp) (s:St):Option Nat × Entry->Option St
 | (none,E)=>match s.aj (ak d 0) with
  | none=>bif mR d s.n then some { n:=s.n,env:=upd s.env d (.cell (.ref (ak d 0))),aj:=upd s.aj (ak d 0) (some E) } else none
  | some _=>none
 | (some id,E)=>bif mR d s.n then some { n:=s.n,env:=upd (fun t=>(s.env t).kill id) d (.cell (.ref id)),aj:=wJ s.aj id E } else none
theorem iE {ops:List Oper} (h:∀ o ∈ ops,o.guard=none) (i:Nat):iX ops i=false:=by
 unfold iX
 rw [List.any_eq_false]
 intro o ho
 rw [h o ho]
 simp
theorem T.ji {α:Type} (x:T α):(x.bind fun a=>.ret a)=x:=by
 induction x with
 | ret a=>rfl
 | fail=>rfl
 | br p d x y QU ihy=>simp only [T.bind,QU,ihy]
 | call f t args k ih=>simp only [T.bind];congr 1;funext r;exact ih r
theorem Od {R:Type} {ah:FuncId->(t:Ty)->List Arg->Option t.den} {s:St} {ds:TypeDesc} {u:Ty} {b:Cell} {κ:List u.den->Option R}:(s.wP ds u b).run ah κ=(Qg (σ:=s.aj) ds u b).bind κ:=by
 have look:∀ (t:Ty) (c:Cell) (κ:List t.den->Option R),(s.look t c).run ah κ=((gN s.aj .look t c).map (·.1)).bind κ:=by
  intro t c κ
  unfold St.look T.ofOption
  cases (gN s.aj .look t c).map (·.1) <;> rfl
 cases ds <;> first
  | exact look u b κ
  | (cases u <;> first
    | rfl
    | (rename_i k;cases k <;> first
      | rfl
      | (cases b <;> rfl)))
theorem Oe {C:aZ} {R:Type} {ah:FuncId->(t:Ty)->List Arg->Option t.den} {s:St} {e:TypeId} {u:Ty} {d:Tmp} {a:Cell} {lb:List u.den} {κ:St->Option R} :
  (s.append C e u d a lb).run ah κ=((match a with
      | .nil=>if lb.length*C.bytes e<=bN then some (none,.arr u lb .open) else none
      | .ref id=>match s.aj id with
       | some (.arr v l .open)=>match bJ (u:=u) l with
        | some l=>if (l.length+lb.length)*C.bytes e<=bN then some (some id,.arr u (l++lb) .open) else none
        | none=>none
       | _=>none
      | .sub id off n=>match s.aj id with
       | some (.arr v l .open)=>match bJ (u:=u) l with
        | some l=>if (n+lb.length)*C.bytes e<=bN then some (some id,.arr u ((l.drop off).take n++lb) .open) else none
        | none=>none
       | _=>none
      | _=>none:Option (Option Nat × Entry)).bind (iP d s)).bind κ:=by
 unfold St.append
 cases a <;> try rfl
 case nil=>
  simp only [T.test,T.run]
  split
  ·simp only [Option.bind_some,iP,T.run_bind,St.alloc]
   cases hk:s.aj (ak d 0) with
   | some _=>rfl
   | none=>
    simp only [T.bK,St.put]
    cases hb:mR d s.n <;> rfl
  ·rfl
 case ref id=>
  dsimp only
  cases hs:s.aj id with
  | none=>rfl
  | some E=>
   cases E with
   | box _ _=>rfl
   | deep _ _ _=>rfl
   | arr v l o=>
    cases o <;> try rfl
    simp only
    cases bJ (u:=u) l with
    | none=>rfl
    | some l'=>
     simp only [T.test,T.run]
     split
     ·simp only [Option.bind_some,iP,St.put,St.kill]
      cases hb:mR d s.n <;> rfl
     ·rfl
 case sub id off n=>
  dsimp only
  cases hs:s.aj id with
  | none=>rfl
  | some E=>
   cases E with
   | box _ _=>rfl
   | deep _ _ _=>rfl
   | arr v l o=>
    cases o <;> try rfl
    simp only
    cases bJ (u:=u) l with
    | none=>rfl
    | some l'=>
     simp only [T.test,T.run]
     split
     ·simp only [Option.bind_some,iP,St.put,St.kill]
      cases hb:mR d s.n <;> rfl
     ·rfl
theorem iK {C:aZ} {R:Type} {ah:FuncId->(t:Ty)->List Arg->Option t.den} {ops:List Oper} (hg:∀ o ∈ ops,o.guard=none) {i:Nat} {o:Oper} (ho:o ∈ ops) (hfl:iY C o=true) {t y d:Tmp} (ha:iM o=some (t,y,d)) {s:St} {κ:St->Option R} :
  (stepT C ops i o s).run ah κ=((qB C o t y s).bind (iP d s)).bind κ:=by
 have hgo:=hg o ho
 unfold stepT
 simp only [hgo,iE hg,cond_false,T.ji]
 obtain ⟨dst,op,type,pos,after,guard⟩:=o
 simp only [iM] at ha
 split at ha
 ·rename_i args ats dd
  split at ha
  ·rename_i x' y' hargs
   simp only [Option.some.injEq,Prod.mk.injEq] at ha
   obtain ⟨rfl,rfl,rfl⟩:=ha
   simp only [jT,qB,hargs]
   cases hat:ats.toList with
   | nil=>rfl
   | cons ta r=>
    cases r with
    | nil=>rfl
    | cons ty r=>
     cases r with
     | cons _ _=>rfl
     | nil=>
      simp only [St.ev]
      cases s.env x' with
      | wN _=>rfl
      | one ca=>
       cases ca with
       | agg _=>rfl
       | cell a=>
        cases s.env y' with
        | wN _=>rfl
        | one cb=>
         cases cb with
         | agg _=>rfl
         | cell b=>
          cases C.elem ta with
          | none=>rfl
          | some eu=>
           obtain ⟨e,u⟩:=eu
           cases C.P.underlying ty with
           | none=>rfl
           | some ds=>
            simp only
            cases C.nk e with
            | false=>rfl
            | true=>
             have hdt:(C.Fb ta).isSome=false:=by
              simp only [iY] at hfl
              have e1:ats[0]? = some ta:=by rw [<- Array.getElem?_toList,hat];rfl
              rw [e1] at hfl
              simp only [Option.bind_some] at hfl
              cases hd:C.Fb ta with
              | none=>rfl
              | some _=>rw [hd] at hfl;cases hfl
             simp only [if_true,hdt,cond_false]
             rw [T.run_bind,Od]
             cases Qg (σ:=s.aj) ds u b with
             | none=>rfl
             | some lb=>
              simp only [Option.bind_some]
              rw [Oe]
  ·cases ha
 ·cases ha
theorem Og {σ σ':Nat->Option Entry} {ds:TypeDesc} {u:Ty} {b:Cell} (h:∀ i ∈ b.ids,σ' i=σ i):Qg (σ:=σ') ds u b=Qg (σ:=σ) ds u b:=by
 have hl:∀ t:Ty,gN σ' .look t b=gN σ .look t b:=by
  intro t
  cases b <;> try rfl
  case ref i=>simp only [gN];rw [h i (by simp [Cell.ids])]
  case sub i o l=>simp only [gN];rw [h i (by simp [Cell.ids])]
 cases ds <;> first
  | (simp only [Qg];rw [hl])
  | (cases u <;> first
    | rfl
    | (rename_i k;cases k <;> first
      | rfl
      | (cases b <;> rfl)))
theorem lY {C:aZ} {o:Oper} {t y:Tmp} {s s':St} (ht:s'.env t=s.env t) (hy:s'.env y=s.env y) (h1:∀ i ∈ (s.env t).ids,s'.aj i=s.aj i) (h2:∀ i ∈ (s.env y).ids,s'.aj i=s.aj i):qB C o t y s'=qB C o t y s:=by
 unfold qB
 rw [ht,hy]
 split
 ·split
  ·split
   ·rename_i a b e u ds ha hb _ _
    rw [ha] at h1
    rw [hb] at h2
    rw [Og (σ:=s.aj) (fun i hi=>h2 i (by simpa [Slot.ids,av.ids,av.cells] using hi))]
    cases a <;> try rfl
    case ref id=>simp only [h1 id (by simp [Slot.ids,av.ids,av.cells,Cell.ids])]
    case sub id off n=>simp only [h1 id (by simp [Slot.ids,av.ids,av.cells,Cell.ids])]
   ·rfl
  ·rfl
 ·rfl
theorem AX {C:aZ} {o:Oper} {t y:Tmp} {s:St} {id:Nat} {E:Entry} (h:qB C o t y s=some (some id,E)):id ∈ (s.env t).ids/\(∃ e,s.aj id=some e)/\E.kH=true:=by
 unfold qB at h
 split at h
 ·split at h
  ·split at h
   ·rename_i a b e u ds ha hb _ _
    rw [ha]
    split at h
    ·split at h
     ·split at h
      ·split at h <;> simp at h
      ·rename_i i
       split at h
       ·rename_i hs
        split at h
        ·split at h
         ·simp only [Option.some.injEq,Prod.mk.injEq] at h
          obtain ⟨rfl,rfl⟩:=h
          exact ⟨by simp [Slot.ids,av.ids,av.cells,Cell.ids],⟨_,hs⟩,rfl⟩
         ·cases h
        ·cases h
       ·cases h
      ·rename_i i off n
       split at h
       ·rename_i hs
        split at h
        ·split at h
         ·simp only [Option.some.injEq,Prod.mk.injEq] at h
          obtain ⟨rfl,rfl⟩:=h
          exact ⟨by simp [Slot.ids,av.ids,av.cells,Cell.ids],⟨_,hs⟩,rfl⟩
         ·cases h
        ·cases h
       ·cases h
      ·cases h
     ·cases h
    ·cases h
   ·cases h
  ·cases h
 ·cases h
open Classical in
theorem uz {C:aZ} {ops:List Oper} {o:Oper} {s s1:St} (hq:aT C o=true) (he:∀ r ∈ readsOf ops o,s1.env r=s.env r)
  (hn:∀ r ∈ readsOf ops o,∀ i ∈ (s.env r).ids,s1.aj i=s.aj i/\∃ e,s.aj i=some e/\e.kH=true):aS C o s1=aS C o s:=by
 let s0:St:=⟨s.n,fun t=>if t ∈ readsOf ops o then s.env t else .undef,fun j=>if ∃ r ∈ readsOf ops o,j ∈ (s.env r).ids then s.aj j else none⟩
 have hop:∀ t,Operand.tmp t ∈ o.op.operands.toList->t ∈ readsOf ops o:=fun t ht=>by
  unfold readsOf
  exact List.mem_append_left _ (List.mem_filterMap.2 ⟨_,ht,rfl⟩)
 have good:∀ {j e},s0.aj j=some e->(∃ r ∈ readsOf ops o,j ∈ (s.env r).ids)/\s.aj j=some e:=by
  intro j e h
  have h:(if ∃ r ∈ readsOf ops o,j ∈ (s.env r).ids then s.aj j else none)=some e:=h
  split at h
  ·rename_i hg;exact ⟨hg,h⟩
  ·cases h
 have l:Live s0:=by
  refine ⟨fun t id hid=>?_,fun k t cs hk c hc id hid=>?_⟩
  ·have hid:id ∈ (if t ∈ readsOf ops o then s.env t else .undef:Slot).ids:=hid
   split at hid
   ·rename_i ht
    obtain ⟨_,e,h1,_⟩:=hn t ht id hid
    refine ⟨e, ?_⟩
    show (if ∃ r ∈ readsOf ops o,id ∈ (s.env r).ids then s.aj id else none)=some e
    rw [if_pos ⟨t,ht,hid⟩,h1]
   ·simp [Slot.ids,av.ids,av.cells,Cell.ids] at hid
  ·obtain ⟨⟨r,hr,hj⟩,hs⟩:=good hk
   obtain ⟨_,e,h1,h2⟩:=hn r hr k hj
   rw [hs] at h1
   cases h1
   have:=List.all_eq_true.1 h2 c hc
   simp at this
   rw [this] at hid
   simp at hid
 have ext:∀ s':St,(∀ r ∈ readsOf ops o,s'.env r=s.env r)->(∀ r ∈ readsOf ops o,∀ i ∈ (s.env r).ids,s'.aj i=s.aj i)->Ext s0 s' o.op.operands.toList:=by
  intro s' h1 h2
  refine ⟨fun id e h=>?_,fun x hx=>?_⟩
  ·obtain ⟨⟨r,hr,hj⟩,hs⟩:=good h
   rw [h2 r hr id hj]
   exact hs
  ·cases x with
   | tmp t=>
    show s'.env t=if t ∈ readsOf ops o then s.env t else .undef
    rw [if_pos (hop t hx)]
    exact h1 t (hop t hx)
   | global g=>rfl
   | func f=>rfl
   | const v=>rfl
 rw [xM l hq (ext s1 he fun r hr i hi=>(hn r hr i hi).1),xM l hq (ext s (fun _ _=>rfl) fun _ _ _ _=>rfl)]
theorem jy {C:aZ} {ops:List Oper} (hg:∀ o ∈ ops,o.guard=none) {i:Nat} {o:Oper} (ho:o ∈ ops) {s:St}:gv C ops i o s=aS C o s:=by
 unfold gv
 rw [hg o ho]
 simp only [iE hg,cond_false,T.ji]
theorem vL {s:St} {x:Operand} {i:Nat} (h:i ∈ (s.ev x).ids):∃ t,x=.tmp t/\i ∈ (s.env t).ids:=by
 cases x with
 | tmp t=>exact ⟨t,rfl,h⟩
 | global g=>simp [St.ev,Slot.ids,av.ids,av.cells,Cell.ids] at h
 | func f=>simp [St.ev,Slot.ids,av.ids,av.cells,Cell.ids] at h
 | const v=>
  exfalso
  simp only [St.ev] at h
  unfold ofConst at h
  split at h <;> simp [Slot.ids,av.ids,av.cells,Cell.ids] at h
theorem bZ (fr:Bool):∀ (t:Ty) (x:t.den),∀ c ∈ cellsOf fr t x,c.ids=[]
 | .bool,x,c,h=>by simp [cellsOf] at h;subst h;rfl
 | .int k,x,c,h=>by simp [cellsOf] at h;subst h;rfl
 | .str,x,c,h=>by simp [cellsOf] at h;subst h;rfl
 | .list t,x,c,h=>by simp [cellsOf] at h;subst h;rfl
 | .aG t,x,c,h=>by simp [cellsOf] at h;subst h;rfl
 | .unit,x,c,h=>by simp [cellsOf] at h
 | .pair a b,x,c,h=>by
  simp only [cellsOf,List.mem_append] at h
  rcases h with h | h
  ·exact bZ fr a _ c h
  ·exact bZ fr b _ c h
theorem nD:∀ (t:Ty),∀ c ∈ zeroCells t,c.ids=[]
 | .bool,c,h=>by simp [zeroCells] at h;subst h;rfl
 | .int k,c,h=>by simp [zeroCells] at h;subst h;rfl
 | .str,c,h=>by simp [zeroCells] at h;subst h;rfl
 | .list t,c,h=>by simp [zeroCells] at h;subst h;rfl
 | .aG t,c,h=>by simp [zeroCells] at h;subst h;rfl
 | .unit,c,h=>by simp [zeroCells] at h
 | .pair a b,c,h=>by
  simp only [zeroCells,List.mem_append] at h
  rcases h with h | h
  ·exact nD a c h
  ·exact nD b c h
theorem vM (id i:Nat):∀ (t:Ty) (x:t.den) (o:Nat),∀ c ∈ cellsD id i false t x o,c.ids=[]
 | .bool,x,o,c,h=>by simp [cellsD,cellsOf] at h;subst h;rfl
 | .int k,x,o,c,h=>by simp [cellsD,cellsOf] at h;subst h;rfl
 | .str,x,o,c,h=>by simp [cellsD,cellsOf] at h;subst h;rfl
 | .list t,x,o,c,h=>by simp [cellsD] at h;subst h;rfl
 | .aG t,x,o,c,h=>by simp [cellsD] at h;subst h;rfl
 | .unit,x,o,c,h=>by simp [cellsD] at h
 | .pair a b,x,o,c,h=>by
  simp only [cellsD,List.mem_append] at h
  rcases h with h | h
  ·exact vM id i a _ _ c h
  ·exact vM id i b _ _ c h
theorem iq {agg:Bool} {cs:List Cell} {i:Nat} (h:i ∈ (aP agg cs).ids):∃ c ∈ cs,i ∈ c.ids:=by
 have key:∀ ds:List Cell,i ∈ ds.flatMap Cell.ids->∃ c ∈ ds,i ∈ c.ids:=fun ds h=>by simpa [List.mem_flatMap] using h
 unfold aP at h
 split at h
 ·exact key cs h
 ·split at h
  ·rename_i c
   exact key [c] h
  ·exact key cs h
theorem Mq {n:Nat} {agg:Bool} {ah:FuncId->(t:Ty)->List Arg->Option t.den} {s:St} {p:Cell} {v:av} (h:(s.gu n agg p).run ah some=some v) (hn:∀ i ∈ p.ids,∀ e,s.aj i=some e->e.kH=true):v.ids=[]:=by
 have fin:∀ {cs:List Cell},(∀ c ∈ cs,c.ids=[])->(aP agg cs).ids=[]:=by
  intro cs hc
  refine List.eq_nil_iff_forall_not_mem.2 fun i hi=>?_
  obtain ⟨c,h1,h2⟩:=iq hi
  rw [hc c h1] at h2
  simp at h2
 have sub:∀ {cs:List Cell} {a b:Nat},(∀ c ∈ cs,c.ids=[])->∀ c ∈ (cs.drop a).take b,c.ids=[]:=fun hc c hx=>hc c (List.mem_of_mem_drop (List.mem_of_mem_take hx))
 cases p <;> simp only [St.gu] at h <;> try (cases h;done)
 case ptr id off=>
  split at h
  ·rename_i t cs hs
   split at h
   ·cases h
    have h0:=hn id (by simp [Cell.ids]) _ hs
    refine fin (sub fun c hc=>?_)
    have:=List.all_eq_true.1 h0 c hc
    simpa using this
   ·cases h
  ·cases h
 case ko id i off=>
  split at h
  ·split at h
   ·cases h
    exact fin (sub (bZ _ _ _))
   ·cases h
  ·cases h
 case nH fr t x off=>
  split at h
  ·cases h
   exact fin (sub (bZ _ _ _))
  ·cases h
 case kJ id i off=>
  split at h
  ·rename_i t l pin hs
   split at h
   ·cases h
    have h0:=hn id (by simp [Cell.ids]) _ hs
    have h0:pin.isNone=true:=h0
    have hp:pin.isSome=false:=by cases pin <;> simp at h0 ⊢
    rw [hp]
    exact fin (sub (vM _ _ _ _ _))
   ·cases h
  ·cases h
theorem rH {C:aZ} {s:St} {t:TypeId} {i:Nat}:∀ {parts:List (Nat × Operand)} {cs out:List Cell},fP C s t parts cs=some out->(∃ c ∈ out,i ∈ c.ids)->(∃ c ∈ cs,i ∈ c.ids)\/∃ p ∈ parts,i ∈ (s.ev p.2).ids
 | [],cs,out,h,hi=>by simp [fP] at h;subst h;exact .inl hi
 | (k,x) :: r,cs,out,h,hi=>by
  simp only [fP] at h
  split at h
  ·rename_i off u v hf hx
   split at h
   ·split at h
    ·rcases rH h hi with ⟨c,hc,hic⟩ | ⟨p,hp,Xc⟩
     ·unfold splice at hc
      rw [List.append_assoc] at hc
      rcases List.mem_append.1 hc with hc | hc
      ·exact .inl ⟨c,List.mem_of_mem_take hc,hic⟩
      ·rcases List.mem_append.1 hc with hc | hc
       ·refine .inr ⟨(k,x),by simp, ?_⟩
        simp only [hx,Slot.ids,av.ids,List.mem_flatMap]
        exact ⟨c,hc,hic⟩
       ·exact .inl ⟨c,List.mem_of_mem_drop hc,hic⟩
     ·exact .inr ⟨p,List.mem_cons_of_mem _ hp,Xc⟩
    ·cases h
   ·cases h
  ·cases h
theorem Jv {ah:FuncId->(t:Ty)->List Arg->Option t.den} {U:Option Ty} {op:BinOp} {a b:av} {c:Cell} (h:(binOp U op a b).run ah some=some c):c.ids=[]:=by
 have bi:∀ {op k x y},(zG op k x y).run ah some=some c->c.ids=[]:=by
  intro op k x y h
  cases op <;> simp only [zG,T.test,T.run] at h <;> first
   | (cases h;done)
   | (cases h;rfl)
   | (split at h <;> cases h;rfl)
   | skip
  all_goals (split at h <;> first | (cases h;rfl) | cases h)
 have sh:∀ {op k x y},(tX op k x y).run ah some=some c->c.ids=[]:=by
  intro op k x y h
  cases op <;> simp only [tX,T.test,T.run] at h <;> first
   | (cases h;done)
   | (split at h <;> first | (cases h;rfl) | cases h)
 unfold binOp at h
 split at h
 ·exact sh h
 ·exact sh h
 ·split at h
  ·exact bi h
  ·cases h
 ·simp only [T.test,T.run] at h
  split at h
  ·cases h;rfl
  ·cases h
 ·split at h
  ·cases h;rfl
  ·cases h
 ·split at h
  ·cases h;rfl
  ·cases h
 ·cases h
theorem kF {own:Bool} {key:Nat->Nat}:∀ {t:Ty} {x:t.den} {j:Nat},t.plain=true->(aA own key t x j).2.1=[]/\∀ c ∈ (aA own key t x j).1,c.ids=[]
 | .bool,x,j,_=>⟨rfl,bZ true .bool x⟩
 | .int k,x,j,_=>⟨rfl,bZ true (.int k) x⟩
 | .str,x,j,_=>⟨rfl,bZ true .str x⟩
 | .unit,x,j,_=>⟨rfl,bZ true .unit x⟩
 | .list t,x,j,h=>by simp [Ty.plain] at h
 | .aG t,x,j,h=>by simp [Ty.plain] at h
 | .pair a b,x,j,h=>by
  simp only [Ty.plain,Bool.and_eq_true] at h
  obtain ⟨h1,h2⟩:=kF (own:=own) (key:=key) (x:=x.1) (j:=j) h.1
  obtain ⟨h3,h4⟩:=kF (own:=own) (key:=key) (x:=x.2) (j:=(aA own key a x.1 j).2.2) h.2
  simp only [aA]
  refine ⟨by rw [h1,h3];rfl,fun c hc=>?_⟩
  rcases List.mem_append.1 hc with hc | hc
  ·exact h2 c hc
  ·exact h4 c hc
theorem Oh {C:aZ} {ah:FuncId->(t:Ty)->List Arg->Option t.den} {o:Oper} {s:St} {f:FuncId} {args:Array Operand} {argTypes:Array TypeId} (hop:o.op=.call ⟨.value (.func f),args,argTypes⟩) (hq:aT C o=true) (hf:qo C o=true) {v:Slot} {es:List (Nat × Entry)} (h:(aS C o s).run ah some=some (v,es)) :
  (∀ i ∈ v.ids,∃ e,(i,e) ∈ es)/\∀ k e,(k,e) ∈ es->e.kH=true/\∃ x,o.dst=some x/\k=ak x 0:=by
 have qP:∀ k e,(k,e) ∈ ([]:List (Nat × Entry))->e.kH=true/\∃ x,o.dst=some x/\k=ak x 0:=fun k e h=>by simp at h
 obtain ⟨dst,op,type,pos,after,guard⟩:=o
 simp only at hop
 subst hop
 simp only [qo] at hf
 obtain ⟨d,rfl⟩:∃ d,dst=some d:=Option.isSome_iff_exists.1 (by simp only [aT,Bool.and_eq_true] at hq;exact hq.1)
 simp only [aS,St.ev] at h
 cases hvs:bg s args.toList with
 | none=>rw [hvs] at h;cases h
 | some vs=>
  rw [hvs] at h
  simp only at h
  unfold Ar at h
  split at h
  ·cases h
  split at h
  ·unfold qZ at h
   cases hfn:C.P.funcs[f]? with
   | none=>rw [hfn] at hf;cases hf
   | some fn=>
    rw [hfn] at hf h
    simp only [Bool.and_eq_true] at hf h
    obtain ⟨h1,hrt⟩:=hf
    split at h
    ·rename_i args' pK rt _ _ hr
     rw [hr] at hrt
     split at h
     ·cases h
     ·simp only [T.run] at h
      obtain ⟨r,_,h⟩:=Option.bind_eq_some_iff.1 h
      have h:some (fM (C.sig f).own (Nat.beq fn.resultTypes.size 1) (ak d) rt r)=some (v,es):=h
      rw [h1] at h
      simp only [fM,if_true,Option.some.injEq] at h
      have hv:v=.one (aP rt.isAgg (aA (C.sig f).own (ak d) rt r 0).1):=by rw [<- (Prod.mk.inj h).1]
      have hes:es=(aA (C.sig f).own (ak d) rt r 0).2.1:=by rw [<- (Prod.mk.inj h).2]
      have key:(rt.plain=true\/(∃ t,rt=.list t)\/∃ t,rt=.aG t):=by
       cases rt <;> first | exact .inl hrt | exact .inr (.inl ⟨_,rfl⟩) | exact .inr (.inr ⟨_,rfl⟩)
      rcases key with hp | ⟨t,rfl⟩ | ⟨t,rfl⟩
      ·obtain ⟨k1,k2⟩:=kF (own:=(C.sig f).own) (key:=ak d) (x:=r) (j:=0) hp
       rw [k1] at hes
       subst hes
       refine ⟨fun i hi=>?_,qP⟩
       rw [hv] at hi
       obtain ⟨c,hc,hic⟩:=iq hi
       rw [k2 c hc] at hic
       simp at hic
      ·simp only [aA] at hv hes
       cases hown:(C.sig f).own with
       | true=>
        rw [hown] at hv hes
        simp only [if_true] at hv hes
        subst hv hes
        refine ⟨fun i hi=>⟨.arr t r .open, ?_⟩,fun k e hk=>?_⟩
        ·simp [Slot.ids,Ty.isAgg,aP,av.ids,av.cells,Cell.ids] at hi
         subst hi
         exact List.mem_singleton.2 rfl
        ·simp at hk
         obtain ⟨rfl,rfl⟩:=hk
         exact ⟨rfl,d,rfl,rfl⟩
       | false=>
        rw [hown] at hv hes
        simp only [Bool.false_eq_true,if_false] at hv hes
        subst hv hes
        exact ⟨fun i hi=>by simp [Slot.ids,Ty.isAgg,aP,av.ids,av.cells,Cell.ids] at hi,qP⟩
      ·simp only [aA] at hv hes
       cases hown:(C.sig f).own with
       | true=>
        rw [hown] at hv hes
        simp only [if_true] at hv hes
        subst hv hes
        refine ⟨fun i hi=>⟨.deep t r none, ?_⟩,fun k e hk=>?_⟩
        ·simp [Slot.ids,Ty.isAgg,aP,av.ids,av.cells,Cell.ids] at hi
         subst hi
         exact List.mem_singleton.2 rfl
        ·simp at hk
         obtain ⟨rfl,rfl⟩:=hk
         exact ⟨rfl,d,rfl,rfl⟩
       | false=>
        rw [hown] at hv hes
        simp only [Bool.false_eq_true,if_false] at hv hes
        subst hv hes
        exact ⟨fun i hi=>by simp [Slot.ids,Ty.isAgg,aP,av.ids,av.cells,Cell.ids] at hi,qP⟩
    ·cases h
  ·cases h
theorem AY {C:aZ} {ah:FuncId->(t:Ty)->List Arg->Option t.den} {ops:List Oper} {o:Oper} {s:St} {v:Slot} {es:List (Nat × Entry)} (hq:aT C o=true) (hf:qo C o=true)
  (hn:∀ r ∈ readsOf ops o,∀ i ∈ (s.env r).ids,∀ e,s.aj i=some e->e.kH=true) (h:(aS C o s).run ah some=some (v,es)) :
  (∀ i ∈ v.ids,(∃ r ∈ readsOf ops o,i ∈ (s.env r).ids)\/∃ e,(i,e) ∈ es)/\∀ k e,(k,e) ∈ es->e.kH=true/\∃ x,o.dst=some x/\k=ak x 0:=by
 have rd:∀ x ∈ o.op.operands.toList,∀ i ∈ (s.ev x).ids,∃ r ∈ readsOf ops o,i ∈ (s.env r).ids:=by
  intro x hx i hi
  obtain ⟨t,rfl,ht⟩:=vL hi
  exact ⟨t,by unfold readsOf;exact List.mem_append_left _ (List.mem_filterMap.2 ⟨_,hx,rfl⟩),ht⟩
 have qP:∀ k e,(k,e) ∈ ([]:List (Nat × Entry))->e.kH=true/\∃ x,o.dst=some x/\k=ak x 0:=fun k e h=>by simp at h
 obtain ⟨dst,op,type,pos,after,guard⟩:=o
 cases op <;> simp only [qo] at hf <;> try (cases hf;done)
 case move x=>
  simp only [aS] at h
  split at h
  ·split at h
   ·cases h
    exact ⟨fun i hi=>by simp [Slot.ids,av.ids,av.cells,Cell.ids] at hi,qP⟩
   ·split at h
    ·cases h
     exact ⟨fun i hi=>.inr ⟨_,by simp [Slot.ids,av.ids,av.cells,Cell.ids] at hi;subst hi;exact List.mem_singleton.2 rfl⟩,fun k e hk=>by simp at hk;obtain ⟨rfl,rfl⟩:=hk;exact ⟨rfl,_,rfl,rfl⟩⟩
    ·cases h
     exact ⟨fun i hi=>by simp [Slot.ids,av.ids,av.cells,Cell.ids] at hi,qP⟩
  ·cases h
   exact ⟨fun i hi=>.inl (rd x (by simp [Op.operands]) i hi),qP⟩
 case assign x=>
  simp only [aS] at h
  split at h
  ·split at h
   ·cases h
    exact ⟨fun i hi=>by simp [Slot.ids,av.ids,av.cells,Cell.ids] at hi,qP⟩
   ·split at h
    ·cases h
     exact ⟨fun i hi=>.inr ⟨_,by simp [Slot.ids,av.ids,av.cells,Cell.ids] at hi;subst hi;exact List.mem_singleton.2 rfl⟩,fun k e hk=>by simp at hk;obtain ⟨rfl,rfl⟩:=hk;exact ⟨rfl,_,rfl,rfl⟩⟩
    ·cases h
     exact ⟨fun i hi=>by simp [Slot.ids,av.ids,av.cells,Cell.ids] at hi,qP⟩
  ·cases h
   exact ⟨fun i hi=>.inl (rd x (by simp [Op.operands]) i hi),qP⟩
 case fieldAddr t x ix=>
  simp only [aS] at h
  split at h
  ·rename_i hx;cases h;exact ⟨fun i hi=>.inl (rd x (by simp [Op.operands]) i (by rw [hx];exact hi)),qP⟩
  ·rename_i hx;cases h;exact ⟨fun i hi=>.inl (rd x (by simp [Op.operands]) i (by rw [hx];exact hi)),qP⟩
  ·cases h;exact ⟨fun i hi=>by simp [Slot.ids,av.ids,av.cells,Cell.ids] at hi,qP⟩
  ·rename_i hx;cases h;exact ⟨fun i hi=>.inl (rd x (by simp [Op.operands]) i (by rw [hx];exact hi)),qP⟩
  ·cases h
 case indexAddr t x ix=>
  simp only [aS] at h
  rw [T.run_bind] at h
  obtain ⟨_,_,h⟩:=T.aD h
  split at h
  ·rename_i u c hu hx
   rw [T.run_bind] at h
   obtain ⟨c',hc,h⟩:=T.aD h
   cases h
   refine ⟨fun i hi=>?_,qP⟩
   have hcc:∀ i ∈ c'.ids,i ∈ c.ids:=by
    intro i hi
    cases c <;> simp only [jG] at hc <;> try (cases hc;done)
    case list fr t l=>
     split at hc
     ·simp only [T.test,T.run] at hc
      split at hc
      ·split at hc
       ·cases hc;simp [Cell.ids] at hi
       ·cases hc
      ·cases hc
     ·cases hc
    all_goals
     split at hc
     ·split at hc
      ·simp only [T.test,T.run] at hc
       split at hc
       ·split at hc
        ·cases hc
         exact hi
        ·cases hc
       ·cases hc
      ·cases hc
     ·cases hc
   have hi:i ∈ c'.ids:=by simpa [Slot.ids,av.ids,av.cells] using hi
   exact .inl (rd x (by simp [Op.operands]) i (by rw [hx];simpa [Slot.ids,av.ids,av.cells] using hcc i hi))
  ·cases h
 case load t x=>
  simp only [aS] at h
  split at h
  ·rename_i n agg p hsh hx
   rw [T.run_bind] at h
   obtain ⟨w,hw,h⟩:=T.aD h
   cases h
   refine ⟨fun i hi=>?_,qP⟩
   have:=Mq hw fun i hi e he=>by
    obtain ⟨r,hr,hir⟩:=rd x (by simp [Op.operands]) i (by rw [hx];simpa [Slot.ids,av.ids,av.cells] using hi)
    exact hn r hr i hir e he
   have hi:i ∈ w.ids:=hi
   rw [this] at hi
   simp at hi
  ·cases h
 case slice t x lo hi' mx=>
  cases mx with
  | some _=>cases hf
  | none=>
   simp only [aS] at h
   split at h
   ·simp only [T.run_bind] at h
    obtain ⟨_,_,h⟩:=T.aD h
    obtain ⟨_,_,h⟩:=T.aD h
    obtain ⟨c,hc,h⟩:=T.aD h
    cases h
    refine ⟨fun i hi=>?_,qP⟩
    unfold wQ at hc
    rw [T.run_bind] at hc
    obtain ⟨⟨l1,l2⟩,_,hc⟩:=T.aD hc
    cases hc
    simp [Slot.ids,av.ids,av.cells,Cell.ids] at hi
   ·rename_i e c hu hx
    split at h
    ·simp only [T.run_bind] at h
     obtain ⟨_,_,h⟩:=T.aD h
     obtain ⟨_,_,h⟩:=T.aD h
     obtain ⟨c',hc,h⟩:=T.aD h
     cases h
     refine ⟨fun i hi=>?_,qP⟩
     have hcc:∀ i ∈ c'.ids,i ∈ c.ids:=by
      intro i hi
      cases c <;> simp only [jg] at hc <;> try (cases hc;done)
      case nil=>
       rw [T.run_bind] at hc
       obtain ⟨_,_,hc⟩:=T.aD hc
       cases hc
       exact hi
      case list fr t l=>
       split at hc
       ·rw [T.run_bind] at hc
        obtain ⟨⟨l1,l2⟩,_,hc⟩:=T.aD hc
        cases hc
        exact hi
       ·cases hc
      case ref id=>
       split at hc
       ·split at hc
        ·rw [T.run_bind] at hc
         obtain ⟨⟨l1,l2⟩,_,hc⟩:=T.aD hc
         cases hc
         exact hi
        ·cases hc
       ·cases hc
      case sub id off n=>
       split at hc
       ·split at hc
        ·rw [T.run_bind] at hc
         obtain ⟨⟨l1,l2⟩,_,hc⟩:=T.aD hc
         cases hc
         exact hi
        ·cases hc
       ·cases hc
     have hi:i ∈ c'.ids:=by simpa [Slot.ids,av.ids,av.cells] using hi
     exact .inl (rd x (by simp [Op.operands]) i (by rw [hx];simpa [Slot.ids,av.ids,av.cells] using hcc i hi))
    ·cases h
   ·cases h
 case build t parts=>
  simp only [aS] at h
  split at h
  ·split at h
   ·split at h
    ·rename_i u hu hagg cs hcs
     cases h
     refine ⟨fun i hi=>?_,qP⟩
     have hi:∃ c ∈ cs,i ∈ c.ids:=by simpa [Slot.ids,av.ids,av.cells,List.mem_flatMap] using hi
     rcases rH hcs hi with ⟨c,hc,hic⟩ | ⟨p,hp,Xc⟩
     ·rw [nD _ c hc] at hic;simp at hic
     ·exact .inl (rd p.2 (by simp only [Op.operands,List.mem_map];exact ⟨p,hp,rfl⟩) i Xc)
    ·cases h
   ·cases h
  ·cases h
 case binOp op t x y t'=>
  simp only [aS,T.run_bind] at h
  obtain ⟨_,_,h⟩:=T.aD h
  obtain ⟨_,_,h⟩:=T.aD h
  obtain ⟨c,hc,h⟩:=T.aD h
  cases h
  refine ⟨fun i hi=>?_,qP⟩
  have hi:i ∈ c.ids:=by simpa [Slot.ids,av.ids,av.cells] using hi
  rw [Jv hc] at hi
  simp at hi
 case buildSlice t n parts=>
  simp only [aS] at h
  split at h
  ·split at h
   ·split at h
    ·rw [Bool.cond_eq_ite] at h
     split at h
     ·cases h
      exact ⟨fun i hi=>by simp [Slot.ids,av.ids,av.cells,Cell.ids] at hi,qP⟩
     ·cases h
      exact ⟨fun i hi=>.inr ⟨_,by simp [Slot.ids,av.ids,av.cells,Cell.ids] at hi;subst hi;exact List.mem_singleton.2 rfl⟩,fun k e hk=>by simp at hk;obtain ⟨rfl,rfl⟩:=hk;exact ⟨rfl,_,rfl,rfl⟩⟩
    ·cases h
   ·cases h
  ·cases h
 case call c=>
  obtain ⟨callee,args,argTypes⟩:=c
  cases callee with
  | invoke _ _=>simp at hf
  | builtin b=>simp at hf
  | value g=>
   cases g <;> simp only at hf <;> try (cases hf;done)
   rename_i f
   obtain ⟨d,rfl⟩:∃ d,dst=some d:=Option.isSome_iff_exists.1 (by simp only [aT,Bool.and_eq_true] at hq;exact hq.1)
   simp only [aS,St.ev] at h
   cases hvs:bg s args.toList with
   | none=>rw [hvs] at h;cases h
   | some vs=>
    rw [hvs] at h
    simp only at h
    unfold Ar at h
    split at h
    ·cases h
    split at h
    ·unfold qZ at h
     cases hfn:C.P.funcs[f]? with
     | none=>rw [hfn] at hf;cases hf
     | some fn=>
      rw [hfn] at hf h
      simp only [Bool.and_eq_true] at hf h
      obtain ⟨h1,hrt⟩:=hf
      split at h
      ·rename_i args' pK rt _ _ hr
       rw [hr] at hrt
       split at h
       ·cases h
       ·simp only [T.run] at h
        obtain ⟨r,_,h⟩:=Option.bind_eq_some_iff.1 h
        have h:some (fM (C.sig f).own (Nat.beq fn.resultTypes.size 1) (ak d) rt r)=some (v,es):=h
        rw [h1] at h
        simp only [fM,if_true,Option.some.injEq] at h
        have hv:v=.one (aP rt.isAgg (aA (C.sig f).own (ak d) rt r 0).1):=by rw [<- (Prod.mk.inj h).1]
        have hes:es=(aA (C.sig f).own (ak d) rt r 0).2.1:=by rw [<- (Prod.mk.inj h).2]
        have key:(rt.plain=true\/(∃ t,rt=.list t)\/∃ t,rt=.aG t):=by
         cases rt <;> first | exact .inl hrt | exact .inr (.inl ⟨_,rfl⟩) | exact .inr (.inr ⟨_,rfl⟩)
        rcases key with hp | ⟨t,rfl⟩ | ⟨t,rfl⟩
        ·obtain ⟨k1,k2⟩:=kF (own:=(C.sig f).own) (key:=ak d) (x:=r) (j:=0) hp
         rw [k1] at hes
         subst hes
         refine ⟨fun i hi=>?_,qP⟩
         rw [hv] at hi
         obtain ⟨c,hc,hic⟩:=iq hi
         rw [k2 c hc] at hic
         simp at hic
        ·simp only [aA] at hv hes
         cases hown:(C.sig f).own with
         | true=>
          rw [hown] at hv hes
          simp only [if_true] at hv hes
          subst hv hes
          refine ⟨fun i hi=>.inr ⟨.arr t r .open, ?_⟩,fun k e hk=>?_⟩
          ·simp [Slot.ids,Ty.isAgg,aP,av.ids,av.cells,Cell.ids] at hi
           subst hi
           exact List.mem_singleton.2 rfl
          ·simp at hk
           obtain ⟨rfl,rfl⟩:=hk
           exact ⟨rfl,d,rfl,rfl⟩
         | false=>
          rw [hown] at hv hes
          simp only [Bool.false_eq_true,if_false] at hv hes
          subst hv hes
          exact ⟨fun i hi=>by simp [Slot.ids,Ty.isAgg,aP,av.ids,av.cells,Cell.ids] at hi,qP⟩
        ·simp only [aA] at hv hes
         cases hown:(C.sig f).own with
         | true=>
          rw [hown] at hv hes
          simp only [if_true] at hv hes
          subst hv hes
          refine ⟨fun i hi=>.inr ⟨.deep t r none, ?_⟩,fun k e hk=>?_⟩
          ·simp [Slot.ids,Ty.isAgg,aP,av.ids,av.cells,Cell.ids] at hi
           subst hi
           exact List.mem_singleton.2 rfl
          ·simp at hk
           obtain ⟨rfl,rfl⟩:=hk
           exact ⟨rfl,d,rfl,rfl⟩
         | false=>
          rw [hown] at hv hes
          simp only [Bool.false_eq_true,if_false] at hv hes
          subst hv hes
          exact ⟨fun i hi=>by simp [Slot.ids,Ty.isAgg,aP,av.ids,av.cells,Cell.ids] at hi,qP⟩
      ·cases h
    ·cases h
structure Qh (ops:List Oper) (D:Dr) (s0 s:St):Prop where
 out:∀ t,t ∉ dstsOf ops->∀ i ∈ (s.env t).ids,i ∈ (s0.env t).ids
 cl:∀ r ∈ D.R,∀ i ∈ (s.env r).ids,i ∈ D.U/\∃ e,s.aj i=some e/\e.kH=true
 tg:∀ t ∈ D.xt,∀ i ∈ (s.env t).ids,i ∈ D.K
theorem kU {o:Oper} {t y d:Tmp} (h:iM o=some (t,y,d)):o.dst=some d/\∀ r,r ∈ [t,y]->∀ ops:List Oper,r ∈ readsOf ops o:=by
 obtain ⟨dst,op,type,pos,after,guard⟩:=o
 simp only [iM] at h
 split at h
 ·rename_i args ats dd
  split at h
  ·rename_i x' y' hargs
   simp only [Option.some.injEq,Prod.mk.injEq] at h
   obtain ⟨rfl,rfl,rfl⟩:=h
   refine ⟨rfl,fun r hr ops=>?_⟩
   unfold readsOf
   refine List.mem_append_left _ (List.mem_filterMap.2 ⟨.tmp r, ?_,rfl⟩)
   have:Operand.tmp r ∈ args.toList:=by
    rw [hargs]
    simp at hr ⊢
    exact hr
   simp [Op.operands,Call.operands] at this ⊢
   exact this
  ·cases h
 ·cases h
theorem Oi {e:Entry} {id:Nat} (h:e.kH=true):(e.kill id).kH=true:=by rw [Entry.iC h];exact h
def Keeps (U:List Nat) (s s1:St):Prop:=∀ i ∈ U,∀ e,s.aj i=some e->e.kH=true->∃ e',s1.aj i=some e'/\e'.kH=true
theorem nE:∀ {ids:List Nat} {σ:Nat->Option Entry} {i:Nat} {e:Entry},σ i=some e->e.kH=true->∃ e',bB σ ids i=some e'/\e'.kH=true
 | [],σ,i,e,h,hn=>⟨e,h,hn⟩
 | j :: r,σ,i,e,h,hn=>by
  have skip:bB σ (j :: r)=bB σ r\/∃ t l,bB σ (j :: r)=bB (upd σ j (some (.arr t l .frozen))) r:=by
   simp only [bB]
   split
   ·exact .inr ⟨_,_,rfl⟩
   ·exact .inl rfl
  rcases skip with hf | ⟨t,l,hf⟩
  ·rw [hf]
   exact nE h hn
  ·rw [hf]
   by_cases hi:i=j
   ·subst hi
    exact nE (e:=.arr t l .frozen) (upd_same _ _ _) rfl
   ·exact nE (e:=e) (by rw [upd_ne _ _ hi];exact h) hn
theorem Mr {C:aZ} {ah:FuncId->(t:Ty)->List Arg->Option t.den} {ops:List Oper} (hg:∀ o ∈ ops,o.guard=none) {i:Nat} {o:Oper} (Xd:o ∈ ops) {s s1:St} {t:TypeId} {q:Tmp} {x:Operand} {U:List Nat} (hd:o.dst=none) (ho:o.op=.store t (.tmp q) x) (hgv:C.gives.contains t=false) (hq:∀ i ∈ (s.env q).ids,i ∉ U)
  (hs:(stepT C ops i o s).run ah some=some s1):Keeps U s s1:=by
 have hgo:=hg o Xd
 unfold stepT at hs
 simp only [hgo,iE hg,cond_false,T.ji] at hs
 obtain ⟨dst,op,type,pos,after,guard⟩:=o
 simp only at hd ho
 subst hd ho
 simp only [jT,St.ev,hgv] at hs
 split at hs
 ·rename_i n agg p v hsh hp hv
  split at hs
  ·rw [T.run_bind] at hs
   obtain ⟨s3,h3,hs⟩:=T.aD hs
   simp only [St.put,T.bK] at hs
   cases hs
   intro i hi e he hn
   cases p <;> simp only [St.store] at h3 <;> try (cases h3;done)
   case ptr id off=>
    split at h3
    ·split at h3
     ·cases h3
      refine ⟨e, ?_,hn⟩
      rw [hp] at hq
      have hne:i ≠ id:=fun hc=>by
       subst hc
       exact hq i (by simp [Slot.ids,av.ids,av.cells,Cell.ids]) hi
      exact (upd_ne _ _ hne).trans he
     ·cases h3
    ·cases h3
   case ko id j off=>
    split at h3
    ·split at h3
     ·cases h3
     ·split at h3
      ·split at h3
       ·split at h3
        ·cases h3
        ·cases h3
         by_cases hij:i=id
         ·subst hij;exact ⟨_,upd_same _ _ _,rfl⟩
         ·obtain ⟨e',h1,h2⟩:=nE he hn
          exact ⟨e',(upd_ne _ _ hij).trans h1,h2⟩
       ·cases h3
      ·cases h3
    ·cases h3
   case kJ id j off=>
    simp only [Fa] at h3
    split at h3
    ·rename_i t' l pin hse
     split at h3
     ·cases h3
      rw [hp] at hq
      have hne:i ≠ id:=fun hc=>by
       subst hc
       exact hq i (by simp [Slot.ids,av.ids,av.cells,Cell.ids]) hi
      exact ⟨e,(upd_ne _ _ hne).trans he,hn⟩
     ·split at h3
      ·rename_i hcc
       exact absurd hcc.2.2 (by simp)
      ·cases h3
    ·cases h3
  ·cases hs
 ·cases hs
section
variable {C:aZ} {ah:FuncId->(t:Ty)->List Arg->Option t.den} {ops:List Oper} {D:Dr} {s0:St}
theorem TS (hg:∀ o ∈ ops,o.guard=none) {i:Nat} {o:Oper} (ho:o ∈ ops) (hck:IX C ops D s0 o=true) {s s1:St} (I:Qh ops D s0 s) (h:(stepT C ops i o s).run ah some=some s1):Qh ops D s0 s1:=by
 simp only [IX,Bool.and_eq_true] at hck
 obtain ⟨_,hck⟩:=hck
 cases hd:o.dst with
 | none=>
  rw [hd] at hck
  simp only [Bool.and_eq_true] at hck
  obtain ⟨hst,hck⟩:=hck
  split at hck
  ·rename_i t q x hop
   simp only [Bool.and_eq_true,Bool.not_eq_true'] at hck
   have hq1:q ∉ dstsOf ops:=by simpa using hck.1
   have hq2:=vJ hck.2
   obtain ⟨e1,e2,_⟩:=jw (env':=s.env) hst (fun _ _=>rfl) h
   have hgv:C.gives.contains t=false:=by
    unfold iH at hst
    rw [hop] at hst
    simp only [Bool.and_eq_true,Bool.not_eq_true'] at hst
    exact hst.2
   have hk:=Mr (U:=D.U) hg ho hd hop hgv (fun i hi=>hq2 i (I.out q hq1 i hi)) h
   refine ⟨fun t ht i hi=>I.out t ht i (by rw [e2] at hi;exact hi),fun r hr i hi=>?_,fun t ht i hi=>I.tg t ht i (by rw [e2] at hi;exact hi)⟩
   rw [e2] at hi
   obtain ⟨h1,e,h2,h3⟩:=I.cl r hr i hi
   exact ⟨h1,hk i h1 e h2 h3⟩
  ·cases hck
 | some x=>
  rw [hd] at hck
  simp only at hck
  have hxd:x ∈ dstsOf ops:=List.mem_filterMap.2 ⟨o,ho,hd⟩
  cases ha:iM o with
  | some ZM=>
   obtain ⟨t,y,d⟩:=ZM
   rw [ha] at hck
   simp only [Bool.and_eq_true,Bool.not_eq_true',Bool.or_eq_true] at hck
   obtain ⟨⟨⟨hfl,XM⟩,htx⟩,Yv⟩:=hck
   have XM:x ∉ D.R:=by simpa using XM
   have htx:t ∈ D.xt:=by simpa using htx
   obtain ⟨hdd,_⟩:=kU ha
   rw [hd] at hdd
   cases hdd
   have Yv:x ∈ D.xt->ak x 0 ∈ D.K:=fun hm=>by
    rcases Yv with h | h
    ·exact absurd hm (by simpa using h)
    ·simpa using h
   rw [iK hg ho hfl ha] at h
   rw [kM] at h
   obtain ⟨⟨w,E⟩,hv,h⟩:=Option.bind_eq_some_iff.1 h
   have hne:∀ u,u ∉ dstsOf ops->u ≠ x:=fun u hu e=>hu (e ▸ hxd)
   cases w with
   | none=>
    simp only [iP] at h
    split at h
    ·rename_i hk
     cases hb:mR x s.n with
     | false=>rw [hb] at h;cases h
     | true=>
      rw [hb] at h
      simp only [cond_true,Option.some.injEq] at h
      subst h
      refine ⟨fun u hu i hi=>I.out u hu i (by simpa only [upd_ne _ _ (hne u hu)] using hi),fun r hr i hi=>?_,fun u hu i hi=>?_⟩
      ·have hrx:r ≠ x:=fun e=>XM (e ▸ hr)
       simp only [upd_ne _ _ hrx] at hi
       obtain ⟨h1,e,h2,h3⟩:=I.cl r hr i hi
       refine ⟨h1,e, ?_,h3⟩
       show upd s.aj (ak x 0) (some E) i=some e
       rw [upd_ne _ _ (fun hc=>by subst hc;rw [hk] at h2;cases h2)]
       exact h2
      ·by_cases EW:u=x
       ·subst EW
        simp only [upd_same] at hi
        simp [Slot.ids,av.ids,av.cells,Cell.ids] at hi
        subst hi
        exact Yv hu
       ·simp only [upd_ne _ _ EW] at hi
        exact I.tg u hu i hi
    ·cases h
   | some id=>
    obtain ⟨hid,_,hE⟩:=AX hv
    simp only [iP] at h
    cases hb:mR x s.n with
    | false=>rw [hb] at h;cases h
    | true=>
     rw [hb] at h
     simp only [cond_true,Option.some.injEq] at h
     subst h
     refine ⟨fun u hu i hi=>?_,fun r hr i hi=>?_,fun u hu i hi=>?_⟩
     ·simp only [upd_ne _ _ (hne u hu)] at hi
      exact I.out u hu i (Slot.jQ i hi)
     ·have hrx:r ≠ x:=fun e=>XM (e ▸ hr)
      simp only [upd_ne _ _ hrx] at hi
      obtain ⟨h1,e,h2,h3⟩:=I.cl r hr i (Slot.jQ i hi)
      refine ⟨h1, ?_⟩
      show ∃ e,wJ s.aj id E i=some e/\e.kH=true
      by_cases hii:i=id
      ·subst hii;exact ⟨E,upd_same _ _ _,hE⟩
      ·exact ⟨e.kill id,by rw [qO hii,h2];rfl,Oi h3⟩
     ·by_cases EW:u=x
      ·subst EW
       simp only [upd_same] at hi
       simp [Slot.ids,av.ids,av.cells,Cell.ids] at hi
       subst hi
       exact I.tg t htx _ hid
      ·simp only [upd_ne _ _ EW] at hi
       exact I.tg u hu i (Slot.jQ i hi)
  | none=>
   rw [ha] at hck
   simp only [Bool.and_eq_true,Bool.not_eq_true',Bool.or_eq_true] at hck
   obtain ⟨⟨hq,hR⟩,hX⟩:=hck
   rw [fI hq,hd,T.run_bind,jy hg ho] at h
   obtain ⟨⟨v,es⟩,hv,h⟩:=T.aD h
   rw [aX] at h
   obtain ⟨σ,hσ,h⟩:=Option.bind_eq_some_iff.1 h
   cases hb:mR x s.n with
   | false=>rw [hb] at h;cases h
   | true=>
    rw [hb] at h
    simp only [cond_true,Option.some.injEq] at h
    subst h
    have hne:∀ u,u ∉ dstsOf ops->u ≠ x:=fun u hu e=>hu (e ▸ hxd)
    refine ⟨fun u hu i hi=>I.out u hu i (by simpa only [upd_ne _ _ (hne u hu)] using hi),fun r hr i hi=>?_,fun u hu i hi=>?_⟩
    ·by_cases hrx:r=x
     ·subst hrx
      simp only [upd_same] at hi
      rcases hR with hR | hR
      ·exact absurd hr (by simpa using hR)
      ·obtain ⟨⟨hf,hsub⟩,hU⟩:=hR
       have hsub:=mK hsub
       obtain ⟨k1,k2⟩:=AY (ops:=ops) hq hf (fun r' hr' i hi e he=>by
        obtain ⟨_,e',h2,h3⟩:=I.cl r' (hsub r' hr') i hi
        rw [he] at h2
        cases h2
        exact h3) hv
       rcases k1 i hi with ⟨r',hr',hi'⟩ | ⟨e,he⟩
       ·obtain ⟨h1,e,h2,h3⟩:=I.cl r' (hsub r' hr') i hi'
        exact ⟨h1,e,eB hσ i e h2,h3⟩
       ·obtain ⟨h3,x',hx',rfl⟩:=k2 i e he
        rw [hd] at hx'
        cases hx'
        exact ⟨by simpa using hU,e,(jW hσ _ e he).2,h3⟩
     ·simp only [upd_ne _ _ hrx] at hi
      obtain ⟨h1,e,h2,h3⟩:=I.cl r hr i hi
      exact ⟨h1,e,eB hσ i e h2,h3⟩
    ·by_cases EW:u=x
     ·subst EW
      simp only [upd_same] at hi
      rcases hX with hX | hX
      ·exact absurd hu (by simpa using hX)
      ·obtain ⟨dst,op,type,pos,after,guard⟩:=o
       simp only at hd
       subst hd
       split at hX
       ·rename_i y hop
        simp only at hop
        subst hop
        simp only [Bool.and_eq_true] at hX
        simp only [aS] at hv
        split at hv
        ·split at hv
         ·cases hv
          simp [Slot.ids,av.ids,av.cells,Cell.ids] at hi
         split at hv
         ·rename_i hd'
          cases hv
          simp [Slot.ids,av.ids,av.cells,Cell.ids] at hi
          subst hi
          cases hd'
          simpa using hX.2
         ·cases hv
          simp [Slot.ids,av.ids,av.cells,Cell.ids] at hi
        ·cases hv
         exact I.tg y (by simpa using hX.1) i hi
       ·rename_i y hop
        simp only at hop
        subst hop
        simp only [Bool.and_eq_true] at hX
        simp only [aS] at hv
        split at hv
        ·split at hv
         ·cases hv
          simp [Slot.ids,av.ids,av.cells,Cell.ids] at hi
         split at hv
         ·rename_i hd'
          cases hv
          simp [Slot.ids,av.ids,av.cells,Cell.ids] at hi
          subst hi
          cases hd'
          simpa using hX.2
         ·cases hv
          simp [Slot.ids,av.ids,av.cells,Cell.ids] at hi
        ·cases hv
         exact I.tg y (by simpa using hX.1) i hi
       ·rename_i hop
        simp only at hop
        subst hop
        simp only [aS] at hv
        split at hv
        ·rename_i hd'
         split at hv
         ·split at hv
          ·rw [Bool.cond_eq_ite] at hv
           split at hv
           ·cases hv
            simp [Slot.ids,av.ids,av.cells,Cell.ids] at hi
           ·cases hv
            simp [Slot.ids,av.ids,av.cells,Cell.ids] at hi
            subst hi
            cases hd'
            simpa using hX
          ·cases hv
         ·cases hv
        ·cases hv
       ·rename_i fc ac tc hop
        simp only at hop
        subst hop
        simp only [Bool.and_eq_true] at hX
        obtain ⟨k1,k2⟩:=Oh (o:=⟨some u,.call ⟨.value (.func fc),ac,tc⟩,type,pos,after,guard⟩) rfl hq hX.1 hv
        obtain ⟨e,he⟩:=k1 i hi
        obtain ⟨_,x',hx',rfl⟩:=k2 i e he
        cases hx'
        simpa using hX.2
       ·cases hX
     ·simp only [upd_ne _ _ EW] at hi
      exact I.tg u hu i hi
theorem Ms {a b:Oper} (h:IY C ops D a b=true):∃ x t y d,a.dst=some x/\iM b=some (t,y,d)/\aT C a=true/\qo C a=true/\x ∉ readsOf ops b/\x ≠ d/\d ∉ readsOf ops a/\∀ r ∈ readsOf ops a,r ∈ D.R:=by
 unfold IY at h
 split at h
 ·rename_i x t y d hx hb
  simp only [Bool.and_eq_true,Bool.not_eq_true'] at h
  obtain ⟨⟨⟨⟨⟨h1,h2⟩,h3⟩,h4⟩,h5⟩,h6⟩:=h
  exact ⟨x,t,y,d,hx,hb,h1,h2,by simpa using h3,fun e=>by subst e;simp at h4,by simpa using h5,mK h6⟩
 ·cases h
theorem Il (hg:∀ o ∈ ops,o.guard=none) (hxt:∀ o ∈ ops,∀ t y d,iM o=some (t,y,d)->t ∈ D.xt/\iY C o=true) (VP:∀ k ∈ D.K,k ∉ D.U) {i j:Nat} {p o:Oper} (hp:p ∈ ops) (ho:o ∈ ops) {s s1 s2:St} (l:Live s) (I:Qh ops D s0 s) (hc:IY C ops D p o=true)
  (h1:(stepT C ops i p s).run ah some=some s1) (h2:(stepT C ops j o s1).run ah some=some s2) :
  ∃ s',(stepT C ops j o s).run ah some=some s'/\(stepT C ops i p s').run ah some=some s2:=by
 obtain ⟨x,t,y,d,hx,hb,hq,hf,hxo,hxd,hdp,hR⟩:=Ms hc
 obtain ⟨hod,hrd⟩:=kU hb
 have htx:t ≠ x:=fun e=>hxo (e ▸ hrd t (by simp) ops)
 have hyx:y ≠ x:=fun e=>hxo (e ▸ hrd y (by simp) ops)
 have hrn:∀ r,r ∈ readsOf ops p->r ≠ d:=fun r hr e=>hdp (by rw [<- e];exact hr)
 rw [fI hq,hx,T.run_bind,jy hg hp] at h1
 obtain ⟨⟨v,es⟩,hv,h1⟩:=T.aD h1
 rw [aX] at h1
 obtain ⟨σ1,hσ,h1⟩:=Option.bind_eq_some_iff.1 h1
 cases hbx:mR x s.n with
 | false=>rw [hbx] at h1;cases h1
 | true=>
  rw [hbx] at h1
  simp only [cond_true,Option.some.injEq] at h1
  subst h1
  rw [iK hg ho (hxt o ho t y d hb).2 hb] at h2
  have hvs:qB C o t y ⟨s.n,upd s.env x v,σ1⟩=qB C o t y s:=by
   have at':∀ r,∀ i ∈ (s.env r).ids,σ1 i=s.aj i:=fun r i hi=>by
    obtain ⟨e,he⟩:=l.env r i hi
    rw [he,eB hσ i e he]
   exact lY (upd_ne _ _ htx) (upd_ne _ _ hyx) (at' t) (at' y)
  rw [hvs] at h2
  rw [kM] at h2
  obtain ⟨⟨w,E⟩,hw,h2⟩:=Option.bind_eq_some_iff.1 h2
  have hfr:(∀ r ∈ readsOf ops p,∀ i ∈ (s.env r).ids,∃ e,s.aj i=some e/\e.kH=true):=fun r hr i hi=>(I.cl r (hR r hr) i hi).2
  obtain ⟨k1,k2⟩:=AY (ops:=ops) hq hf (fun r hr i hi e he=>by
   obtain ⟨e',h3,h4⟩:=hfr r hr i hi
   rw [he] at h3
   cases h3
   exact h4) hv
  cases w with
  | none=>
   simp only [iP] at h2
   split at h2
   ·rename_i hk
    cases hbd:mR d s.n with
    | false=>rw [hbd] at h2;cases h2
    | true=>
     rw [hbd] at h2
     simp only [cond_true,Option.some.injEq] at h2
     subst h2
     have hal:bn σ1 [(ak d 0,E)]=some (upd σ1 (ak d 0) (some E)):=by simp only [bn,hk]
     obtain ⟨σ',hf1,he1⟩:=pY hσ hal
     have hk0:s.aj (ak d 0)=none:=(jW hf1 _ E (by simp)).1
     have Yw:σ'=upd s.aj (ak d 0) (some E):=by
      simp only [bn,hk0] at hf1
      exact (Option.some.inj hf1).symm
     subst Yw
     refine ⟨⟨s.n,upd s.env d (.cell (.ref (ak d 0))),upd s.aj (ak d 0) (some E)⟩, ?_, ?_⟩
     ·rw [iK hg ho (hxt o ho t y d hb).2 hb,hw]
      simp only [Option.bind_some,iP,hk0,hbd,cond_true]
     ·rw [fI hq,hx,T.run_bind,jy hg hp]
      rw [uz (s:=s) (ops:=ops) hq (fun r hr=>upd_ne _ _ (hrn r hr)) (fun r hr i hi=>by
       obtain ⟨e,h3,h4⟩:=hfr r hr i hi
       refine ⟨?_,e,h3,h4⟩
       exact upd_ne _ _ (fun hc=>by subst hc;rw [hk0] at h3;cases h3))]
      rw [T.lu hv,aX]
      simp only
      rw [he1]
      simp only [Option.bind_some,hbx,cond_true]
      rw [iO _ _ _ (Ne.symm hxd)]
   ·cases h2
  | some id=>
   obtain ⟨hid,⟨e0,he0⟩,hE⟩:=AX hw
   have Sr:id ∈ D.K:=I.tg t (hxt o ho t y d hb).1 id hid
   have Oj:∀ r ∈ readsOf ops p,id ∉ (s.env r).ids:=fun r hr hi=>VP id Sr (I.cl r (hR r hr) id hi).1
   have hin:∀ r,r ∈ readsOf ops p->∀ i,i ∈ (s.env r).ids->i ≠ id:=fun r hr i hi e=>Oj r hr (by rw [<- e];exact hi)
   simp only [iP] at h2
   cases hbd:mR d s.n with
   | false=>rw [hbd] at h2;cases h2
   | true=>
    rw [hbd] at h2
    simp only [cond_true,Option.some.injEq] at h2
    subst h2
    have hes:∀ z ∈ es,z.2.kH=true:=fun z hz=>(k2 z.1 z.2 hz).1
    have hvk:v.kill id=v:=Slot.iC fun hi=>by
     rcases k1 id hi with ⟨r,hr,hir⟩ | ⟨e,he⟩
     ·exact Oj r hr hir
     ·have:=(jW hσ id e he).1
      rw [he0] at this
      cases this
    refine ⟨⟨s.n,upd (fun t=>(s.env t).kill id) d (.cell (.ref id)),wJ s.aj id E⟩, ?_, ?_⟩
    ·rw [iK hg ho (hxt o ho t y d hb).2 hb,hw]
     simp only [Option.bind_some,iP,hbd,cond_true]
    ·rw [fI hq,hx,T.run_bind,jy hg hp]
     rw [uz (s:=s) (ops:=ops) hq (fun r hr=>by
       show upd (fun t=>(s.env t).kill id) d (.cell (.ref id)) r=s.env r
       rw [upd_ne _ _ (hrn r hr),Slot.iC (Oj r hr)]) (fun r hr i hi=>by
      obtain ⟨e,h3,h4⟩:=hfr r hr i hi
      refine ⟨?_,e,h3,h4⟩
      show wJ s.aj id E i=s.aj i
      rw [qO (hin r hr i hi),h3]
      simp only [Option.map_some,Entry.iC h4])]
     rw [T.lu hv,aX]
     simp only
     rw [zV hes ⟨e0,he0⟩ hσ]
     simp only [Option.bind_some,hbx,cond_true]
     congr 2
     funext u
     by_cases EW:u=x
     ·subst EW
      rw [upd_same,upd_ne _ _ hxd,upd_same,hvk]
     ·rw [upd_ne _ _ EW]
      by_cases hud:u=d
      ·subst hud;rw [upd_same,upd_same]
      ·rw [upd_ne _ _ hud,upd_ne _ _ hud,upd_ne _ _ EW]
theorem Im (hg:∀ o ∈ ops,o.guard=none) (hxt:∀ o ∈ ops,∀ t y d,iM o=some (t,y,d)->t ∈ D.xt/\iY C o=true) (VP:∀ k ∈ D.K,k ∉ D.U) {i j:Nat} {p o:Oper} (hp:p ∈ ops) (ho:o ∈ ops) {s s1 s2:St} (l:Live s) (I:Qh ops D s0 s) (hc:IY C ops D o p=true)
  (h1:(stepT C ops i p s).run ah some=some s1) (h2:(stepT C ops j o s1).run ah some=some s2) :
  ∃ s',(stepT C ops j o s).run ah some=some s'/\(stepT C ops i p s').run ah some=some s2:=by
 obtain ⟨x,t,y,d,hx,hb,hq,hf,hxo,hxd,hdp,hR⟩:=Ms hc
 obtain ⟨hod,hrd⟩:=kU hb
 have htx:t ≠ x:=fun e=>hxo (e ▸ hrd t (by simp) ops)
 have hyx:y ≠ x:=fun e=>hxo (e ▸ hrd y (by simp) ops)
 have hrn:∀ r,r ∈ readsOf ops o->r ≠ d:=fun r hr e=>hdp (by rw [<- e];exact hr)
 have hfr:(∀ r ∈ readsOf ops o,∀ i ∈ (s.env r).ids,∃ e,s.aj i=some e/\e.kH=true):=fun r hr i hi=>(I.cl r (hR r hr) i hi).2
 rw [iK hg hp (hxt p hp t y d hb).2 hb] at h1
 rw [kM] at h1
 obtain ⟨⟨w,E⟩,hw,h1⟩:=Option.bind_eq_some_iff.1 h1
 rw [fI hq,hx,T.run_bind,jy hg ho] at h2
 cases w with
 | none=>
  simp only [iP] at h1
  split at h1
  ·rename_i hk0
   cases hbd:mR d s.n with
   | false=>rw [hbd] at h1;cases h1
   | true=>
    rw [hbd] at h1
    simp only [cond_true,Option.some.injEq] at h1
    subst h1
    rw [uz (s:=s) (ops:=ops) hq (fun r hr=>upd_ne _ _ (hrn r hr)) (fun r hr i hi=>by
     obtain ⟨e,h3,h4⟩:=hfr r hr i hi
     refine ⟨?_,e,h3,h4⟩
     exact upd_ne _ _ (fun hc=>by subst hc;rw [hk0] at h3;cases h3))] at h2
    obtain ⟨⟨v,es⟩,hv,h2⟩:=T.aD h2
    rw [aX] at h2
    obtain ⟨σ2,Pj,h2⟩:=Option.bind_eq_some_iff.1 h2
    simp only at Pj h2
    cases hbx:mR x s.n with
    | false=>rw [hbx] at h2;cases h2
    | true=>
     rw [hbx] at h2
     simp only [cond_true,Option.some.injEq] at h2
     subst h2
     have hal:bn s.aj [(ak d 0,E)]=some (upd s.aj (ak d 0) (some E)):=by simp only [bn,hk0]
     obtain ⟨σ',hf1,he1⟩:=pY hal Pj
     have hk1:σ' (ak d 0)=none:=(jW he1 _ E (by simp)).1
     have hs2:σ2=upd σ' (ak d 0) (some E):=by
      simp only [bn,hk1] at he1
      exact (Option.some.inj he1).symm
     refine ⟨⟨s.n,upd s.env x v,σ'⟩, ?_, ?_⟩
     ·rw [fI hq,hx,T.run_bind,jy hg ho,T.lu hv,aX]
      simp only
      rw [hf1]
      simp only [Option.bind_some,hbx,cond_true]
     ·have hvs:qB C p t y ⟨s.n,upd s.env x v,σ'⟩=qB C p t y s:=by
       have at':∀ r,∀ i ∈ (s.env r).ids,σ' i=s.aj i:=fun r i hi=>by
        obtain ⟨e,he⟩:=l.env r i hi
        rw [he,eB hf1 i e he]
       exact lY (upd_ne _ _ htx) (upd_ne _ _ hyx) (at' t) (at' y)
      rw [iK hg hp (hxt p hp t y d hb).2 hb,hvs,hw]
      simp only [Option.bind_some,iP,hk1,hbd,cond_true,hs2]
      rw [iO _ _ _ hxd]
  ·cases h1
 | some id=>
  obtain ⟨hid,⟨e0,he0⟩,hE⟩:=AX hw
  have Sr:id ∈ D.K:=I.tg t (hxt p hp t y d hb).1 id hid
  have Oj:∀ r ∈ readsOf ops o,id ∉ (s.env r).ids:=fun r hr hi=>VP id Sr (I.cl r (hR r hr) id hi).1
  have hin:∀ r,r ∈ readsOf ops o->∀ i,i ∈ (s.env r).ids->i ≠ id:=fun r hr i hi e=>Oj r hr (by rw [<- e];exact hi)
  simp only [iP] at h1
  cases hbd:mR d s.n with
  | false=>rw [hbd] at h1;cases h1
  | true=>
   rw [hbd] at h1
   simp only [cond_true,Option.some.injEq] at h1
   subst h1
   rw [uz (s:=s) (ops:=ops) hq (fun r hr=>by
     show upd (fun t=>(s.env t).kill id) d (.cell (.ref id)) r=s.env r
     rw [upd_ne _ _ (hrn r hr),Slot.iC (Oj r hr)]) (fun r hr i hi=>by
    obtain ⟨e,h3,h4⟩:=hfr r hr i hi
    refine ⟨?_,e,h3,h4⟩
    show wJ s.aj id E i=s.aj i
    rw [qO (hin r hr i hi),h3]
    simp only [Option.map_some,Entry.iC h4])] at h2
   obtain ⟨⟨v,es⟩,hv,h2⟩:=T.aD h2
   rw [aX] at h2
   obtain ⟨σ2,Pj,h2⟩:=Option.bind_eq_some_iff.1 h2
   simp only at Pj h2
   obtain ⟨k1,k2⟩:=AY (ops:=ops) hq hf (fun r hr i hi e he=>by
    obtain ⟨e',h3,h4⟩:=hfr r hr i hi
    rw [he] at h3
    cases h3
    exact h4) hv
   have hes:∀ z ∈ es,z.2.kH=true:=fun z hz=>(k2 z.1 z.2 hz).1
   cases hbx:mR x s.n with
   | false=>rw [hbx] at h2;cases h2
   | true=>
    rw [hbx] at h2
    simp only [cond_true,Option.some.injEq] at h2
    subst h2
    obtain ⟨σ',hf1,hs2⟩:=vK hes ⟨e0,he0⟩ Pj
    have hvk:v.kill id=v:=Slot.iC fun hi=>by
     rcases k1 id hi with ⟨r,hr,hir⟩ | ⟨e,he⟩
     ·exact Oj r hr hir
     ·have:=(jW hf1 id e he).1
      rw [he0] at this
      cases this
    refine ⟨⟨s.n,upd s.env x v,σ'⟩, ?_, ?_⟩
    ·rw [fI hq,hx,T.run_bind,jy hg ho,T.lu hv,aX]
     simp only
     rw [hf1]
     simp only [Option.bind_some,hbx,cond_true]
    ·have hvs:qB C p t y ⟨s.n,upd s.env x v,σ'⟩=qB C p t y s:=by
      have at':∀ r,∀ i ∈ (s.env r).ids,σ' i=s.aj i:=fun r i hi=>by
       obtain ⟨e,he⟩:=l.env r i hi
       rw [he,eB hf1 i e he]
      exact lY (upd_ne _ _ htx) (upd_ne _ _ hyx) (at' t) (at' y)
     rw [iK hg hp (hxt p hp t y d hb).2 hb,hvs,hw]
     simp only [Option.bind_some,iP,hbd,cond_true,hs2]
     congr 2
     funext u
     by_cases EW:u=x
     ·subst EW
      rw [upd_ne _ _ hxd,upd_same,upd_same,hvk]
     ·rw [upd_ne _ _ EW]
      by_cases hud:u=d
      ·subst hud;rw [upd_same,upd_same]
      ·rw [upd_ne _ _ hud,upd_ne _ _ hud,upd_ne _ _ EW]
end
def Xe {C:aZ} {ah:FuncId->(t:Ty)->List Arg->Option t.den} (ops:Array Oper) (D:Dr) (s0:St) (tl:Nat->Bool) (hup:∀ {i j:Nat},tl i=true->i<=j->tl j=true)
  (htl:∀ {j:Nat} {o:Oper},tl j=true->ops[j]? = some o->∀ k,k<j->∃ m,(fO ops.toList [])[j]? = some m/\m.testBit k=true)
  (hc:∀ (j:Nat) o,ops[j]? = some o->tl j=false->IX C ops.toList D s0 o=true) (hl:∀ (j:Nat) o,ops[j]? = some o->tl j=true->o.guard=none/\iM o=none) (VP:∀ k ∈ D.K,k ∉ D.U):Gh C ah ops:=
 have idx:∀ o ∈ ops.toList,∃ j:Nat,ops[j]? = some o:=fun o ho=>by
  obtain ⟨j,hj⟩:=List.getElem?_of_mem ho
  exact ⟨j,by rw [<- Array.getElem?_toList];exact hj⟩
 have hg:∀ o ∈ ops.toList,o.guard=none:=fun o ho=>by
  obtain ⟨j,hj⟩:=idx o ho
  cases ht:tl j with
  | true=>exact (hl j o hj ht).1
  | false=>
   have:=hc j o hj ht
   simp only [IX,Bool.and_eq_true] at this
   simpa using this.1
 have hxt:∀ o ∈ ops.toList,∀ t y d,iM o=some (t,y,d)->t ∈ D.xt/\iY C o=true:=fun o ho t y d ha=>by
  obtain ⟨j,hj⟩:=idx o ho
  cases ht:tl j with
  | true=>
   have:=(hl j o hj ht).2
   rw [this] at ha
   cases ha
  | false=>
   have:=hc j o hj ht
   simp only [IX,Bool.and_eq_true] at this
   rw [(kU ha).1,ha] at this
   simp only [Bool.and_eq_true] at this
   exact ⟨by simpa using this.2.1.2,this.2.1.1.1⟩
 have mem:∀ {i:Nat} {o:Oper},ops[i]? = some o->o ∈ ops.toList:=fun h=>Array.mem_toList_iff.2 (Array.mem_of_getElem? h)
 ⟨Rc C ops.toList D,Qh ops.toList D s0,tl,hup,(fun h1 h2 k hk=>.inl (htl h1 h2 k hk)),fun hI ht ho h=>TS hg (mem ho) (hc _ _ ho ht) hI h,fun {i j p o s s1 s2} l hI hp ho hcm h1 h2=>by
  unfold Rc at hcm
  simp only [Bool.or_eq_true] at hcm
  rcases hcm with (hcm | hcm) | hcm
  ·exact nS l hcm h1 h2
  ·exact Il hg hxt VP (mem hp) (mem ho) l hI hcm h1 h2
  ·exact Im hg hxt VP (mem hp) (mem ho) l hI hcm h1 h2⟩
theorem Qi {ops:List Oper} {D:Dr} {s:St} (l:Live s) (h:Fg D s=true):(∀ k ∈ D.K,k ∉ D.U)/\Qh ops D s s:=by
 unfold Fg at h
 simp only [Bool.and_eq_true] at h
 obtain ⟨⟨h1,h2⟩,h3⟩:=h
 refine ⟨vJ h1,fun t _ i hi=>hi,fun r hr i hi=>?_,fun t ht i hi=>mK (List.all_eq_true.1 h3 t ht) i hi⟩
 have:=List.all_eq_true.1 h2 r hr
 simp only [Bool.and_eq_true] at this
 obtain ⟨k1,k2⟩:=this
 obtain ⟨e,he⟩:=l.env r i hi
 have:=List.all_eq_true.1 k2 i hi
 rw [he] at this
 exact ⟨mK k1 i hi,e,he,this⟩
end Go.Flat
