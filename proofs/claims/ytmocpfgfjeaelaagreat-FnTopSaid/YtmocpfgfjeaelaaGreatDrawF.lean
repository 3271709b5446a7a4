/- Loads from boxes beside appends onto rows that lie in other cells of them. No condition. -/
import Derived.Test.YtmocpfgfjeaelaaGreatDrawD
set_option linter.unusedVariables false
set_option linter.unusedSimpArgs false
namespace Go.Flat
section
variable {C:dh} {ah:FuncId->(t:Ty)->List Arg->Option t.den} {ops:List Oper} {s0:St}
theorem JE {o:Oper} {t y:Tmp} {s:St} {id:Nat} {E:Entry} (h:uR C o t y s=some (some id,E)):∃ v l m,s.ak id=some (.arr v l m):=by
 unfold uR at h
 split at h
 ·split at h
  ·split at h
   ·rename_i a b e u ds ha hb _ _
    split at h
    ·split at h
     ·split at h
      ·split at h <;> simp at h
      ·split at h
       ·rename_i hs
        split at h
        ·split at h
         ·simp only [Option.some.injEq,Prod.mk.injEq] at h
          obtain ⟨rfl,rfl⟩:=h
          exact ⟨_,_,_,hs⟩
         ·cases h
        ·cases h
       ·cases h
      ·split at h
       ·rename_i hs
        split at h
        ·split at h
         ·simp only [Option.some.injEq,Prod.mk.injEq] at h
          obtain ⟨rfl,rfl⟩:=h
          exact ⟨_,_,_,hs⟩
         ·cases h
        ·cases h
       ·cases h
      ·cases h
     ·cases h
    ·cases h
   ·cases h
  ·cases h
 ·cases h
def PD (s:St) (d:Tmp) (E:Entry):St:=⟨s.n,upd s.env d (.cell (.ref (aI d 0))),upd s.ak (aI d 0) (some E)⟩
def Lc (s:St) (d:Tmp) (id:Nat) (E:Entry):St:=⟨s.n,upd (fun t=>(s.env t).kill id) d (.cell (.ref id)),zL s.ak id E⟩
theorem Te {s:St} {d z:Tmp} {id:Nat} {E:Entry} (h:z ≠ d):(Lc s d id E).env z=(s.env z).kill id:=by
 show upd (fun t=>(s.env t).kill id) d (.cell (.ref id)) z=_
 rw [upd_ne _ _ h]
structure Same (C:dh) (ah:FuncId->(t:Ty)->List Arg->Option t.den) (p:Oper) (t d:Tmp) (s:St):Prop where
 new:∀ E,s.ak (aI d 0)=none->dB C p (PD s d E)=dB C p s
 old:∀ id E,id ∈ (s.env t).ids->(∃ v l m,s.ak id=some (.arr v l m))->dB C p (Lc s d id E)=dB C p s
 val:∀ v es,(dB C p s).run ah some=some (v,es)->(∀ z ∈ es,z.2.mP=true)/\∀ id ∈ (s.env t).ids,v.kill id=v\/∃ e,(id,e) ∈ es
theorem Ld (hg:∀ o ∈ ops,o.guard=none) {i j:Nat} {p o:Oper} (hp:p ∈ ops) (ho:o ∈ ops) {x t y d:Tmp} (hx:p.dst=some x) (hb:ko o=some (t,y,d)) (hfl:jW C o=true) (hq:dw C p=true) (hxo:x ∉ readsOf ops o) (hxd:x ≠ d) {s s1 s2:St} (l:Live s) (S:Same C ah p t d s)
  (h1:(stepT C ops i p s).run ah some=some s1) (h2:(stepT C ops j o s1).run ah some=some s2) :
  ∃ s',(stepT C ops j o s).run ah some=some s'/\(stepT C ops i p s').run ah some=some s2:=by
 obtain ⟨hod,hrd⟩:=nG hb
 have htx:t ≠ x:=fun e=>hxo (e ▸ hrd t (by simp) ops)
 have hyx:y ≠ x:=fun e=>hxo (e ▸ hrd y (by simp) ops)
 rw [gL hq,hx,T.run_bind,kZ hg hp] at h1
 obtain ⟨⟨v,es⟩,hv,h1⟩:=T.bH h1
 rw [bW] at h1
 obtain ⟨σ1,hσ,h1⟩:=Option.bind_eq_some_iff.1 h1
 cases hbx:sF x s.n with
 | false=>rw [hbx] at h1;cases h1
 | true=>
  rw [hbx] at h1
  simp only [cond_true,Option.some.injEq] at h1
  subst h1
  rw [jD hg ho hfl hb] at h2
  have hvs:uR C o t y ⟨s.n,upd s.env x v,σ1⟩=uR C o t y s:=by
   have at':∀ r,∀ i ∈ (s.env r).ids,σ1 i=s.ak i:=fun r i hi=>by
    obtain ⟨e,he⟩:=l.env r i hi
    rw [he,iC hσ i e he]
   exact om (upd_ne _ _ htx) (upd_ne _ _ hyx) (at' t) (at' y)
  rw [hvs] at h2
  rw [mV] at h2
  obtain ⟨⟨w,E⟩,hw,h2⟩:=Option.bind_eq_some_iff.1 h2
  obtain ⟨k2,k1⟩:=S.val v es hv
  cases w with
  | none=>
   simp only [jG] at h2
   split at h2
   ·rename_i hk
    cases hbd:sF d s.n with
    | false=>rw [hbd] at h2;cases h2
    | true=>
     rw [hbd] at h2
     simp only [cond_true,Option.some.injEq] at h2
     subst h2
     have hal:dA σ1 [(aI d 0,E)]=some (upd σ1 (aI d 0) (some E)):=by simp only [dA,hk]
     obtain ⟨σ',hf1,he1⟩:=uD hσ hal
     have hk0:s.ak (aI d 0)=none:=(lG hf1 _ E (by simp)).1
     have hσ':σ'=upd s.ak (aI d 0) (some E):=by
      simp only [dA,hk0] at hf1
      exact (Option.some.inj hf1).symm
     subst hσ'
     refine ⟨PD s d E, ?_, ?_⟩
     ·rw [jD hg ho hfl hb,hw]
      simp only [Option.bind_some,jG,hk0,hbd,cond_true,PD]
     ·rw [gL hq,hx,T.run_bind,kZ hg hp,S.new E hk0,T.nY hv,bW]
      simp only [PD]
      rw [he1]
      simp only [Option.bind_some,hbx,cond_true]
      rw [ni _ _ _ (Ne.symm hxd)]
   ·cases h2
  | some id=>
   obtain ⟨hid,⟨e0,he0⟩,hE⟩:=DX hw
   simp only [jG] at h2
   cases hbd:sF d s.n with
   | false=>rw [hbd] at h2;cases h2
   | true=>
    rw [hbd] at h2
    simp only [cond_true,Option.some.injEq] at h2
    subst h2
    have hvk:v.kill id=v:=by
     rcases k1 id hid with h | ⟨e,he⟩
     ·exact h
     ·have:=(lG hσ id e he).1
      rw [he0] at this
      cases this
    refine ⟨Lc s d id E, ?_, ?_⟩
    ·rw [jD hg ho hfl hb,hw]
     simp only [Option.bind_some,jG,hbd,cond_true,Lc]
    ·rw [gL hq,hx,T.run_bind,kZ hg hp,S.old id E hid (JE hw),T.nY hv,bW]
     simp only [Lc]
     rw [CK k2 ⟨e0,he0⟩ hσ]
     simp only [Option.bind_some,hbx,cond_true]
     congr 2
     funext u
     by_cases Ih:u=x
     ·subst Ih
      rw [upd_same,upd_ne _ _ hxd,upd_same,hvk]
     ·rw [upd_ne _ _ Ih]
      by_cases hud:u=d
      ·subst hud;rw [upd_same,upd_same]
      ·rw [upd_ne _ _ hud,upd_ne _ _ hud,upd_ne _ _ Ih]
theorem Le (hg:∀ o ∈ ops,o.guard=none) {i j:Nat} {p o:Oper} (hp:p ∈ ops) (ho:o ∈ ops) {x t y d:Tmp} (hx:o.dst=some x) (hb:ko p=some (t,y,d)) (hfl:jW C p=true) (hq:dw C o=true) (hxo:x ∉ readsOf ops p) (hxd:x ≠ d) {s s1 s2:St} (l:Live s) (S:Same C ah o t d s)
  (h1:(stepT C ops i p s).run ah some=some s1) (h2:(stepT C ops j o s1).run ah some=some s2) :
  ∃ s',(stepT C ops j o s).run ah some=some s'/\(stepT C ops i p s').run ah some=some s2:=by
 obtain ⟨hod,hrd⟩:=nG hb
 have htx:t ≠ x:=fun e=>hxo (e ▸ hrd t (by simp) ops)
 have hyx:y ≠ x:=fun e=>hxo (e ▸ hrd y (by simp) ops)
 rw [jD hg hp hfl hb] at h1
 rw [mV] at h1
 obtain ⟨⟨w,E⟩,hw,h1⟩:=Option.bind_eq_some_iff.1 h1
 rw [gL hq,hx,T.run_bind,kZ hg ho] at h2
 cases w with
 | none=>
  simp only [jG] at h1
  split at h1
  ·rename_i hk0
   cases hbd:sF d s.n with
   | false=>rw [hbd] at h1;cases h1
   | true=>
    rw [hbd] at h1
    simp only [cond_true,Option.some.injEq] at h1
    subst h1
    have hsn:=S.new E hk0
    unfold PD at hsn
    rw [hsn] at h2
    obtain ⟨⟨v,es⟩,hv,h2⟩:=T.bH h2
    rw [bW] at h2
    obtain ⟨σ2,SX,h2⟩:=Option.bind_eq_some_iff.1 h2
    simp only at SX h2
    cases hbx:sF x s.n with
    | false=>rw [hbx] at h2;cases h2
    | true=>
     rw [hbx] at h2
     simp only [cond_true,Option.some.injEq] at h2
     subst h2
     have hal:dA s.ak [(aI d 0,E)]=some (upd s.ak (aI d 0) (some E)):=by simp only [dA,hk0]
     obtain ⟨σ',hf1,he1⟩:=uD hal SX
     have hk1:σ' (aI d 0)=none:=(lG he1 _ E (by simp)).1
     have hs2:σ2=upd σ' (aI d 0) (some E):=by
      simp only [dA,hk1] at he1
      exact (Option.some.inj he1).symm
     refine ⟨⟨s.n,upd s.env x v,σ'⟩, ?_, ?_⟩
     ·rw [gL hq,hx,T.run_bind,kZ hg ho,T.nY hv,bW]
      simp only
      rw [hf1]
      simp only [Option.bind_some,hbx,cond_true]
     ·have hvs:uR C p t y ⟨s.n,upd s.env x v,σ'⟩=uR C p t y s:=by
       have at':∀ r,∀ i ∈ (s.env r).ids,σ' i=s.ak i:=fun r i hi=>by
        obtain ⟨e,he⟩:=l.env r i hi
        rw [he,iC hf1 i e he]
       exact om (upd_ne _ _ htx) (upd_ne _ _ hyx) (at' t) (at' y)
      rw [jD hg hp hfl hb,hvs,hw]
      simp only [Option.bind_some,jG,hk1,hbd,cond_true,hs2]
      rw [ni _ _ _ hxd]
  ·cases h1
 | some id=>
  obtain ⟨hid,⟨e0,he0⟩,hE⟩:=DX hw
  simp only [jG] at h1
  cases hbd:sF d s.n with
  | false=>rw [hbd] at h1;cases h1
  | true=>
   rw [hbd] at h1
   simp only [cond_true,Option.some.injEq] at h1
   subst h1
   have hso:=S.old id E hid (JE hw)
   unfold Lc at hso
   rw [hso] at h2
   obtain ⟨⟨v,es⟩,hv,h2⟩:=T.bH h2
   rw [bW] at h2
   obtain ⟨σ2,SX,h2⟩:=Option.bind_eq_some_iff.1 h2
   simp only at SX h2
   obtain ⟨k2,k1⟩:=S.val v es hv
   cases hbx:sF x s.n with
   | false=>rw [hbx] at h2;cases h2
   | true=>
    rw [hbx] at h2
    simp only [cond_true,Option.some.injEq] at h2
    subst h2
    obtain ⟨σ',hf1,hs2⟩:=yX k2 ⟨e0,he0⟩ SX
    have hvk:v.kill id=v:=by
     rcases k1 id hid with h | ⟨e,he⟩
     ·exact h
     ·have:=(lG hf1 id e he).1
      rw [he0] at this
      cases this
    refine ⟨⟨s.n,upd s.env x v,σ'⟩, ?_, ?_⟩
    ·rw [gL hq,hx,T.run_bind,kZ hg ho,T.nY hv,bW]
     simp only
     rw [hf1]
     simp only [Option.bind_some,hbx,cond_true]
    ·have hvs:uR C p t y ⟨s.n,upd s.env x v,σ'⟩=uR C p t y s:=by
      have at':∀ r,∀ i ∈ (s.env r).ids,σ' i=s.ak i:=fun r i hi=>by
       obtain ⟨e,he⟩:=l.env r i hi
       rw [he,iC hf1 i e he]
      exact om (upd_ne _ _ htx) (upd_ne _ _ hyx) (at' t) (at' y)
     rw [jD hg hp hfl hb,hvs,hw]
     simp only [Option.bind_some,jG,hbd,cond_true,hs2]
     congr 2
     funext u
     by_cases Ih:u=x
     ·subst Ih
      rw [upd_ne _ _ hxd,upd_same,upd_same,hvk]
     ·rw [upd_ne _ _ Ih]
      by_cases hud:u=d
      ·subst hud;rw [upd_same,upd_same]
      ·rw [upd_ne _ _ hud,upd_ne _ _ hud,upd_ne _ _ Ih]
structure PE (C:dh) (ops:List Oper) (s0 s:St):Prop where
 mov:MInv ops s0 s
 ptr:∀ p id off,IC C ops s0 p=some (id,off)->s.env p=.one (.cell .undef)\/s.env p=.one (.cell (.ptr id off))
 row:∀ t B,yL C ops s0 t=some B->∀ i ∈ (s.env t).ids,i ∈ B
 box:∀ id ty cs0,s0.ak id=some (.box ty cs0)->∃ cs,s.ak id=some (.box ty cs)/\∀ off n i,i ∈ ((cs.drop off).take n).flatMap Cell.ids->i ∈ ((cs0.drop off).take n).flatMap Cell.ids
theorem RG (ops:List Oper) (s:St):PE C ops s s:=by
 refine ⟨fun _ _ _=>rfl,fun p id off h=>?_,fun t B h i hi=>?_,fun id ty cs0 h=>⟨cs0,h,fun _ _ _ h=>h⟩⟩
 ·unfold IC at h
  cases hc:(dstsOf ops).contains p with
  | true=>
   rw [hc] at h
   simp only [cond_true] at h
   split at h
   ·rename_i he _;exact .inl he
   ·cases h
  | false=>
   rw [hc] at h
   simp only [cond_false] at h
   split at h
   ·rename_i he;cases h;exact .inr he
   ·cases h
 ·unfold yL at h
  split at h
  ·rename_i he _
   rw [he] at hi
   simp [Slot.ids,aJ.ids,aJ.cells,Cell.ids] at hi
  ·cases h
theorem Tf {o o':Oper} (ho:o ∈ ops) {x:Tmp} (hx:o.dst=some x) (h:ops.filter (fun o=>o.dst == some x)=[o']):o=o':=by
 have:o ∈ ops.filter (fun o=>o.dst == some x):=List.mem_filter.2 ⟨ho,by simp [hx]⟩
 rw [h] at this
 simpa using this
theorem Ms {o:Oper} (ho:o ∈ ops) {x:Tmp} (hx:o.dst=some x) {id off:Nat} (h:IC C ops s0 x=some (id,off)) :
  ∃ t b i o' off',o.op=.fieldAddr t (.tmp b) i/\b ∉ dstsOf ops/\C.placeOf t i=some off'/\s0.env b=.one (.cell (.ptr id o'))/\off=o'+off':=by
 unfold IC at h
 have hc:(dstsOf ops).contains x=true:=by simpa using rJ ho hx
 rw [hc] at h
 simp only [cond_true] at h
 split at h
 ·rename_i o1 _ hf
  cases Tf ho hx hf
  split at h
  ·rename_i t b i hop
   cases hb:(dstsOf ops).contains b with
   | true=>rw [hb] at h;cases h
   | false=>
    rw [hb] at h
    simp only [cond_false] at h
    split at h
    ·rename_i off' id' o' hpl hs
     simp only [Option.some.injEq,Prod.mk.injEq] at h
     obtain ⟨rfl,rfl⟩:=h
     exact ⟨t,b,i,o',off',hop,by simpa using hb,hpl,hs,rfl⟩
    ·cases h
  ·cases h
 ·cases h
theorem JF {o:Oper} (ho:o ∈ ops) {x:Tmp} (hx:o.dst=some x) {B:List Nat} (h:yL C ops s0 x=some B):wu C ops s0 o=some B:=by
 unfold yL at h
 split at h
 ·rename_i o1 _ hf
  cases Tf ho hx hf
  exact h
 ·cases h
theorem Al {o:Oper} {B:List Nat} (h:wu C ops s0 o=some B):∃ ty p n agg id off bt cs,o.op=.load ty (.tmp p)/\C.shape ty=some (n,agg)/\IC C ops s0 p=some (id,off)/\s0.ak id=some (.box bt cs)/\B=((cs.drop off).take n).flatMap Cell.ids:=by
 unfold wu at h
 split at h
 ·rename_i ty p hop
  split at h
  ·rename_i n agg id off hsh hpt
   split at h
   ·rename_i bt cs hs
    cases h
    exact ⟨ty,p,n,agg,id,off,bt,cs,hop,hsh,hpt,hs,rfl⟩
   ·cases h
  ·cases h
 ·cases h
theorem Mt {o:Oper} {s:St} (I:PE C ops s0 s) {B:List Nat} (h:wu C ops s0 o=some B) {v:Slot} {es:List (Nat × Entry)} (hv:(dB C o s).run ah some=some (v,es)):es=[]/\∀ i ∈ v.ids,i ∈ B:=by
 obtain ⟨ty,p,n,agg,id,off,bt,cs,hop,hsh,hpt,hs,rfl⟩:=Al h
 obtain ⟨dst,op,type,pos,after,guard⟩:=o
 simp only at hop
 subst hop
 obtain ⟨cs',hs',hsub⟩:=I.box id bt cs hs
 rcases I.ptr p id off hpt with e | e
 ·simp only [dB,St.ev,e,hsh,St.iY,T.run_bind] at hv
  cases hv
 ·simp only [dB,St.ev,e,hsh,St.iY,hs'] at hv
  split at hv
  ·simp only [T.run_bind,T.run] at hv
   simp only [Option.some.injEq,Prod.mk.injEq] at hv
   obtain ⟨rfl,rfl⟩:=hv
   refine ⟨rfl,fun i hi=>hsub off n i ?_⟩
   obtain ⟨c,hc,hi⟩:=qA (agg:=agg) hi
   exact List.mem_flatMap.2 ⟨c,hc,hi⟩
  ·cases hv
theorem RH {id:Nat} {cs:List Cell} {off n:Nat} (h:id ∉ ((cs.drop off).take n).flatMap Cell.ids):((cs.map (·.kill id)).drop off).take n=(cs.drop off).take n:=by
 rw [<- List.map_drop,<- List.map_take]
 exact DW fun c hc hi=>h (List.mem_flatMap.2 ⟨c,hc,hi⟩)
theorem RI {o:Oper} {s:St} (I:PE C ops s0 s) {B T:List Nat} {t d:Tmp} (hB:wu C ops s0 o=some B) (hT:yL C ops s0 t=some T) (hd:Vd B T=true) (hdo:d ∉ readsOf ops o):Same C ah o t d s:=by
 have hval:∀ v es,(dB C o s).run ah some=some (v,es)->es=[]/\∀ i ∈ v.ids,i ∈ B:=fun v es hv=>Mt I hB hv
 obtain ⟨ty,p,n,agg,id,off,bt,cs,hop,hsh,hpt,hs,hBe⟩:=Al hB
 have hpd:p ≠ d:=fun e=>hdo (by
  unfold readsOf
  refine List.mem_append_left _ (List.mem_filterMap.2 ⟨.tmp p, ?_,by rw [e]⟩)
  rw [hop]
  simp [Op.operands])
 obtain ⟨dst,op,type,pos,after,guard⟩:=o
 simp only at hop
 subst hop
 obtain ⟨cs',hs',hsub⟩:=I.box id bt cs hs
 refine ⟨fun E hk=>?_,fun k E hk _=>?_,fun v es hv=>?_⟩
 ·have he:(PD s d E).env p=s.env p:=upd_ne _ _ hpd
  have hne:id ≠ aI d 0:=fun e=>by rw [<- e,hs'] at hk;cases hk
  have ht:(PD s d E).ak id=s.ak id:=upd_ne _ _ hne
  rcases I.ptr p id off hpt with e | e
  ·simp only [dB,St.ev,he,e,hsh,St.iY]
  ·simp only [dB,St.ev,he,e,hsh,St.iY,ht]
 ·have hkB:k ∉ B:=fun h=>Ig hd k h (I.row t T hT k hk)
  rcases I.ptr p id off hpt with e | e
  ·have he:(Lc s d k E).env p=.one (.cell .undef):=by
    show upd (fun t=>(s.env t).kill k) d (.cell (.ref k)) p=_
    rw [upd_ne _ _ hpd,e]
    rfl
   simp only [dB,St.ev,he,e,hsh,St.iY]
  ·have he:(Lc s d k E).env p=.one (.cell (.ptr id off)):=by
    show upd (fun t=>(s.env t).kill k) d (.cell (.ref k)) p=_
    rw [upd_ne _ _ hpd,e]
    rfl
   by_cases hik:id=k
   ·subst hik
    rename_i hex
    obtain ⟨v',l',m',hs2⟩:=hex
    rw [hs'] at hs2
    cases hs2
   ·have ht:(Lc s d k E).ak id=some (.box bt (cs'.map (·.kill k))):=by
     show zL s.ak k E id=_
     rw [vM hik,hs']
     rfl
    simp only [dB,St.ev,he,e,hsh,St.iY,ht,hs',List.length_map]
    rw [RH (fun hh=>hkB (by rw [hBe];exact hsub off n k hh))]
 ·obtain ⟨rfl,hi⟩:=hval v es hv
  exact ⟨fun z hz=>by simp at hz,fun k hk=>.inl (Slot.kP fun hkv=>absurd (I.row t T hT k hk) (Ig hd k (hi k hkv)))⟩
theorem RJ {o:Oper} {s:St} (I:MInv ops s0 s) {ty:TypeId} {z:Tmp} {i:Nat} {t d:Tmp} (hop:o.op=.fieldAddr ty (.tmp z) i) (hz:z ∉ dstsOf ops) (hp:fK (s0.env z)=true) (hdo:d ∉ readsOf ops o):Same C ah o t d s:=by
 have hzd:z ≠ d:=fun e=>hdo (by
  unfold readsOf
  refine List.mem_append_left _ (List.mem_filterMap.2 ⟨.tmp z, ?_,by rw [e]⟩)
  rw [hop]
  simp [Op.operands])
 have hpz:fK (s.env z)=true:=by rw [I z hz hp];exact hp
 obtain ⟨dst,op,type,pos,after,guard⟩:=o
 simp only at hop
 subst hop
 refine ⟨fun E hk=>?_,fun k E hk _=>?_,fun v es hv=>?_⟩
 ·have he:(PD s d E).env z=s.env z:=upd_ne _ _ hzd
  simp only [dB,St.ev,he]
 ·have he:(Lc s d k E).env z=s.env z:=(Te hzd).trans (uE hpz k)
  simp only [dB,St.ev,he]
 ·unfold fK at hpz
  split at hpz
  ·rename_i id off he
   simp only [dB,St.ev,he] at hv
   cases hpl:C.placeOf ty i with
   | none=>rw [hpl] at hv;cases hv
   | some off'=>
    rw [hpl] at hv
    simp only [T.run,Option.some.injEq,Prod.mk.injEq] at hv
    obtain ⟨rfl,rfl⟩:=hv
    exact ⟨fun z hz=>by simp at hz,fun k hk=>.inl rfl⟩
  ·cases hpz
theorem Uc {o:Oper} {s:St} (I:PE C ops s0 s) {t d:Tmp} (hq:dw C o=true) (hf:xE C o=true) (hr:∀ r ∈ readsOf ops o,yL C ops s0 r=some []) (hdo:d ∉ readsOf ops o):Same C ah o t d s:=by
 have hno:∀ r ∈ readsOf ops o,(s.env r).ids=[]:=fun r hr'=>List.eq_nil_iff_forall_not_mem.2 fun i hi=>by
  have:=I.row r [] (hr r hr') i hi
  simp at this
 have hrd:∀ r ∈ readsOf ops o,r ≠ d:=fun r hr' e=>hdo (e ▸ hr')
 refine ⟨fun E hk=>?_,fun k E hk _=>?_,fun v es hv=>?_⟩
 ·exact yu (ops:=ops) hq (fun r hr'=>upd_ne _ _ (hrd r hr')) (fun r hr' i hi=>by rw [hno r hr'] at hi;simp at hi)
 ·exact yu (ops:=ops) hq (fun r hr'=>(Te (hrd r hr')).trans (Slot.kP (by rw [hno r hr'];simp))) (fun r hr' i hi=>by rw [hno r hr'] at hi;simp at hi)
 ·obtain ⟨k1,k2⟩:=DY (ops:=ops) hq hf (fun r hr' i hi=>by rw [hno r hr'] at hi;simp at hi) hv
  refine ⟨fun z hz=>(k2 z.1 z.2 hz).1,fun k hk=>?_⟩
  by_cases hkv:k ∈ v.ids
  ·rcases k1 k hkv with ⟨r,hr',hi⟩ | h
   ·rw [hno r hr'] at hi;simp at hi
   ·exact .inr h
  ·exact .inl (Slot.kP hkv)
theorem Mv {a b:Oper} (h:Nb C ops s0 a b=true) {s:St} (I:PE C ops s0 s):∃ x t y d,a.dst=some x/\ko b=some (t,y,d)/\jW C b=true/\dw C a=true/\x ∉ readsOf ops b/\x ≠ d/\Same C ah a t d s:=by
 unfold Nb at h
 split at h
 ·rename_i x t y d hx hb
  simp only [Bool.and_eq_true,Bool.not_eq_true'] at h
  obtain ⟨⟨⟨⟨⟨h1,h2⟩,h3⟩,h4⟩,h5⟩,h6⟩:=h
  have hd:d ∉ readsOf ops a:=by simpa using h5
  refine ⟨x,t,y,d,hx,hb,h2,h1,by simpa using h3,fun e=>by subst e;simp at h4, ?_⟩
  split at h6
  ·rename_i ty z i hop
   simp only [Bool.and_eq_true,Bool.not_eq_true'] at h6
   exact RJ I.mov hop (by simpa using h6.1) h6.2 hd
  ·split at h6
   ·rename_i B T hB hT
    exact RI I hB hT h6 hd
   ·cases h6
  ·simp only [Bool.and_eq_true] at h6
   exact Uc I h1 h6.1 (fun r hr=>by simpa using List.all_eq_true.1 h6.2 r hr) hd
 ·cases h
theorem Ya (hg:∀ o ∈ ops,o.guard=none) {i:Nat} {o:Oper} (ho:o ∈ ops) (hq:(dw C o || ((ko o).isSome && jW C o))=true) {s s1:St} (I:PE C ops s0 s) (h:(stepT C ops i o s).run ah some=some s1):PE C ops s0 s1:=by
 have hmov:MInv ops s0 s1:=Tc hg ho (by
  simp only [Bool.or_eq_true] at hq ⊢
  exact hq.elim (fun h=>.inl (.inl h)) .inr) I.mov h
 simp only [Bool.or_eq_true,Bool.and_eq_true] at hq
 by_cases hqo:dw C o=true
 ·obtain ⟨x,v,es,σ,hx,hv,hσ,hin,rfl⟩:=Ub hg ho hqo h
  refine ⟨hmov,fun p id off hp=>?_,fun t B hB i hi=>?_,fun id ty cs0 hs=>?_⟩
  ·by_cases hpx:p=x
   ·subst hpx
    obtain ⟨t,b,i,o',off',hop,hb,hpl,hs,rfl⟩:=Ms ho hx hp
    have hsb:s.env b=.one (.cell (.ptr id o')):=(I.mov b hb (by rw [hs];rfl)).trans hs
    obtain ⟨dst,op,type,pos,after,guard⟩:=o
    simp only at hop
    subst hop
    simp only [dB,St.ev,hpl,hsb,T.run,Option.some.injEq,Prod.mk.injEq] at hv
    obtain ⟨rfl,rfl⟩:=hv
    exact .inr (upd_same _ _ _)
   ·rcases I.ptr p id off hp with e | e
    ·exact .inl ((upd_ne _ _ hpx).trans e)
    ·exact .inr ((upd_ne _ _ hpx).trans e)
  ·by_cases htx:t=x
   ·subst htx
    simp only [upd_same] at hi
    exact (Mt I (JF ho hx hB) hv).2 i hi
   ·simp only [upd_ne _ _ htx] at hi
    exact I.row t B hB i hi
  ·obtain ⟨cs,h1,h2⟩:=I.box id ty cs0 hs
   exact ⟨cs,iC hσ id _ h1,h2⟩
 ·obtain ⟨ha,hfl⟩:=hq.resolve_left hqo
  obtain ⟨⟨t,y,d⟩,ha⟩:=Option.isSome_iff_exists.1 ha
  obtain ⟨hod,_⟩:=nG ha
  have hnf:∀ ty b i,o.op ≠ .fieldAddr ty b i:=fun ty b i e=>by
   unfold ko at ha
   rw [e] at ha
   simp at ha
  have hnl:∀ ty b,o.op ≠ .load ty b:=fun ty b e=>by
   unfold ko at ha
   rw [e] at ha
   simp at ha
  rw [jD hg ho hfl ha,mV] at h
  obtain ⟨⟨w,E⟩,hw,h⟩:=Option.bind_eq_some_iff.1 h
  have pd:∀ p id off,IC C ops s0 p=some (id,off)->p ≠ d:=fun p id off hp e=>by
   subst e
   obtain ⟨t,b,i,o',off',hop,_⟩:=Ms ho hod hp
   exact hnf _ _ _ hop
  have rd:∀ t B,yL C ops s0 t=some B->t ≠ d:=fun t B hB e=>by
   subst e
   obtain ⟨ty,p,n,agg,id,off,bt,cs,hop,_⟩:=Al (JF ho hod hB)
   exact hnl _ _ hop
  cases w with
  | none=>
   simp only [jG] at h
   split at h
   ·rename_i hk
    cases hbd:sF d s.n with
    | false=>rw [hbd] at h;cases h
    | true=>
     rw [hbd] at h
     simp only [cond_true,Option.some.injEq] at h
     subst h
     refine ⟨hmov,fun p id off hp=>?_,fun t B hB i hi=>?_,fun id ty cs0 hs=>?_⟩
     ·simp only [upd_ne _ _ (pd p id off hp)]
      exact I.ptr p id off hp
     ·simp only [upd_ne _ _ (rd t B hB)] at hi
      exact I.row t B hB i hi
     ·obtain ⟨cs,h1,h2⟩:=I.box id ty cs0 hs
      exact ⟨cs,(upd_ne _ _ (fun e=>by subst e;rw [hk] at h1;cases h1)).trans h1,h2⟩
   ·cases h
  | some k=>
   simp only [jG] at h
   cases hbd:sF d s.n with
   | false=>rw [hbd] at h;cases h
   | true=>
    rw [hbd] at h
    simp only [cond_true,Option.some.injEq] at h
    subst h
    refine ⟨hmov,fun p id off hp=>?_,fun t B hB i hi=>?_,fun id ty cs0 hs=>?_⟩
    ·simp only [upd_ne _ _ (pd p id off hp)]
     rcases I.ptr p id off hp with e | e
     ·exact .inl (by rw [e];rfl)
     ·exact .inr (by rw [e];rfl)
    ·simp only [upd_ne _ _ (rd t B hB)] at hi
     exact I.row t B hB i (Slot.nZ i hi)
    ·obtain ⟨cs,h1,h2⟩:=I.box id ty cs0 hs
     obtain ⟨v',l',m',h3⟩:=JE hw
     have hne:id ≠ k:=fun e=>by subst e;rw [h1] at h3;cases h3
     refine ⟨cs.map (·.kill k), ?_,fun off n i hi=>h2 off n i ?_⟩
     ·show zL s.ak k E id=_
      rw [vM hne,h1]
      rfl
     ·rw [<- List.map_drop,<- List.map_take] at hi
      obtain ⟨c,hc,hi⟩:=List.mem_flatMap.1 hi
      obtain ⟨c',hc',rfl⟩:=List.mem_map.1 hc
      exact List.mem_flatMap.2 ⟨c',hc',Cell.nZ i hi⟩
end
def abo {C:dh} {ah:FuncId->(t:Ty)->List Arg->Option t.den} (ops:Array Oper) (s0:St) (hg:∀ o ∈ ops.toList,o.guard=none) (tail:Nat->Bool)
  (EW:∀ {i j:Nat},tail i=true->i<=j->tail j=true) (Jv:∀ {j:Nat} {o:Oper},tail j=true->ops[j]? = some o->∀ k,k<j->∃ m,(jJ ops.toList [])[j]? = some m/\m.testBit k=true)
  (hq:∀ (j:Nat) (o:Oper),ops[j]? = some o->tail j=false->(dw C o || ((ko o).isSome && jW C o))=true):NA C ah ops:=
 have mem:∀ {i:Nat} {o:Oper},ops[i]? = some o->o ∈ ops.toList:=fun h=>Array.mem_toList_iff.2 (Array.mem_of_getElem? h)
 ⟨Vh C ops.toList s0,PE C ops.toList s0,tail,EW,(fun h1 h2 k hk=>.inl (Jv h1 h2 k hk)),fun hI ht ho h=>Ya hg (mem ho) (hq _ _ ho ht) hI h,fun {i j p o s s1 s2} l hI hp ho hcm h1 h2=>by
  unfold Vh at hcm
  simp only [Bool.or_eq_true] at hcm
  rcases hcm with (hcm | hcm) | hcm
  ·exact vZ l hcm h1 h2
  ·obtain ⟨x,t,y,d,hx,hb,hfl,Xw,hxo,hxd,S⟩:=Mv (ah:=ah) hcm hI
   exact Ld hg (mem hp) (mem ho) hx hb hfl Xw hxo hxd l S h1 h2
  ·obtain ⟨x,t,y,d,hx,hb,hfl,Xw,hxo,hxd,S⟩:=Mv (ah:=ah) hcm hI
   exact Le hg (mem hp) (mem ho) hx hb hfl Xw hxo hxd l S h1 h2⟩
end Go.Flat
