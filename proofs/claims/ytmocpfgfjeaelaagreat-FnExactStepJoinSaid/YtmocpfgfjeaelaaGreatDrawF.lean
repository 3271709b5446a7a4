/- Loads from boxes beside appends onto rows that lie in other cells of them. No condition. -/
import Derived.Test.YtmocpfgfjeaelaaGreatDrawE
set_option linter.unusedVariables false
set_option linter.unusedSimpArgs false
namespace Go.Flat
section
variable {C:aZ} {ah:FuncId->(t:Ty)->List Arg->Option t.den} {ops:List Oper} {s0:St}
theorem Gx {o:Oper} {t y:Tmp} {s:St} {id:Nat} {E:Entry} (h:qB C o t y s=some (some id,E)):∃ v l m,s.aj id=some (.arr v l m):=by
 unfold qB at h
 split at h
 ·split at h
  ·split at h
   ·rename_i a b e u ds ha hb _ _
    split at h
    ·split at h
     ·split at h
      ·split at h <;> simp at h
      ·split at h
       ·rename_i hs
        split at h
        ·split at h
         ·simp only [Option.some.injEq,Prod.mk.injEq] at h
          obtain ⟨rfl,rfl⟩:=h
          exact ⟨_,_,_,hs⟩
         ·cases h
        ·cases h
       ·cases h
      ·split at h
       ·rename_i hs
        split at h
        ·split at h
         ·simp only [Option.some.injEq,Prod.mk.injEq] at h
          obtain ⟨rfl,rfl⟩:=h
          exact ⟨_,_,_,hs⟩
         ·cases h
        ·cases h
       ·cases h
      ·cases h
     ·cases h
    ·cases h
   ·cases h
  ·cases h
 ·cases h
def MJ (s:St) (d:Tmp) (E:Entry):St:=⟨s.n,upd s.env d (.cell (.ref (ak d 0))),upd s.aj (ak d 0) (some E)⟩
def Iu (s:St) (d:Tmp) (id:Nat) (E:Entry):St:=⟨s.n,upd (fun t=>(s.env t).kill id) d (.cell (.ref id)),wJ s.aj id E⟩
theorem Pq {s:St} {d z:Tmp} {id:Nat} {E:Entry} (h:z ≠ d):(Iu s d id E).env z=(s.env z).kill id:=by
 show upd (fun t=>(s.env t).kill id) d (.cell (.ref id)) z=_
 rw [upd_ne _ _ h]
structure Same (C:aZ) (ah:FuncId->(t:Ty)->List Arg->Option t.den) (p:Oper) (t d:Tmp) (s:St):Prop where
 new:∀ E,s.aj (ak d 0)=none->aS C p (MJ s d E)=aS C p s
 old:∀ id E,id ∈ (s.env t).ids->(∃ v l m,s.aj id=some (.arr v l m))->aS C p (Iu s d id E)=aS C p s
 val:∀ v es,(aS C p s).run ah some=some (v,es)->(∀ z ∈ es,z.2.kH=true)/\∀ id ∈ (s.env t).ids,v.kill id=v\/∃ e,(id,e) ∈ es
theorem Iw (hg:∀ o ∈ ops,o.guard=none) {i j:Nat} {p o:Oper} (hp:p ∈ ops) (ho:o ∈ ops) {x t y d:Tmp} (hx:p.dst=some x) (hb:iM o=some (t,y,d)) (hfl:iY C o=true) (hq:aT C p=true) (hxo:x ∉ readsOf ops o) (hxd:x ≠ d) {s s1 s2:St} (l:Live s) (S:Same C ah p t d s)
  (h1:(stepT C ops i p s).run ah some=some s1) (h2:(stepT C ops j o s1).run ah some=some s2) :
  ∃ s',(stepT C ops j o s).run ah some=some s'/\(stepT C ops i p s').run ah some=some s2:=by
 obtain ⟨hod,hrd⟩:=kU hb
 have htx:t ≠ x:=fun e=>hxo (e ▸ hrd t (by simp) ops)
 have hyx:y ≠ x:=fun e=>hxo (e ▸ hrd y (by simp) ops)
 rw [fI hq,hx,T.run_bind,jy hg hp] at h1
 obtain ⟨⟨v,es⟩,hv,h1⟩:=T.aD h1
 rw [aX] at h1
 obtain ⟨σ1,hσ,h1⟩:=Option.bind_eq_some_iff.1 h1
 cases hbx:mR x s.n with
 | false=>rw [hbx] at h1;cases h1
 | true=>
  rw [hbx] at h1
  simp only [cond_true,Option.some.injEq] at h1
  subst h1
  rw [iK hg ho hfl hb] at h2
  have hvs:qB C o t y ⟨s.n,upd s.env x v,σ1⟩=qB C o t y s:=by
   have at':∀ r,∀ i ∈ (s.env r).ids,σ1 i=s.aj i:=fun r i hi=>by
    obtain ⟨e,he⟩:=l.env r i hi
    rw [he,eB hσ i e he]
   exact lY (upd_ne _ _ htx) (upd_ne _ _ hyx) (at' t) (at' y)
  rw [hvs] at h2
  rw [kM] at h2
  obtain ⟨⟨w,E⟩,hw,h2⟩:=Option.bind_eq_some_iff.1 h2
  obtain ⟨k2,k1⟩:=S.val v es hv
  cases w with
  | none=>
   simp only [iP] at h2
   split at h2
   ·rename_i hk
    cases hbd:mR d s.n with
    | false=>rw [hbd] at h2;cases h2
    | true=>
     rw [hbd] at h2
     simp only [cond_true,Option.some.injEq] at h2
     subst h2
     have hal:bn σ1 [(ak d 0,E)]=some (upd σ1 (ak d 0) (some E)):=by simp only [bn,hk]
     obtain ⟨σ',hf1,he1⟩:=pY hσ hal
     have hk0:s.aj (ak d 0)=none:=(jW hf1 _ E (by simp)).1
     have Yw:σ'=upd s.aj (ak d 0) (some E):=by
      simp only [bn,hk0] at hf1
      exact (Option.some.inj hf1).symm
     subst Yw
     refine ⟨MJ s d E, ?_, ?_⟩
     ·rw [iK hg ho hfl hb,hw]
      simp only [Option.bind_some,iP,hk0,hbd,cond_true,MJ]
     ·rw [fI hq,hx,T.run_bind,jy hg hp,S.new E hk0,T.lu hv,aX]
      simp only [MJ]
      rw [he1]
      simp only [Option.bind_some,hbx,cond_true]
      rw [iO _ _ _ (Ne.symm hxd)]
   ·cases h2
  | some id=>
   obtain ⟨hid,⟨e0,he0⟩,hE⟩:=AX hw
   simp only [iP] at h2
   cases hbd:mR d s.n with
   | false=>rw [hbd] at h2;cases h2
   | true=>
    rw [hbd] at h2
    simp only [cond_true,Option.some.injEq] at h2
    subst h2
    have hvk:v.kill id=v:=by
     rcases k1 id hid with h | ⟨e,he⟩
     ·exact h
     ·have:=(jW hσ id e he).1
      rw [he0] at this
      cases this
    refine ⟨Iu s d id E, ?_, ?_⟩
    ·rw [iK hg ho hfl hb,hw]
     simp only [Option.bind_some,iP,hbd,cond_true,Iu]
    ·rw [fI hq,hx,T.run_bind,jy hg hp,S.old id E hid (Gx hw),T.lu hv,aX]
     simp only [Iu]
     rw [zV k2 ⟨e0,he0⟩ hσ]
     simp only [Option.bind_some,hbx,cond_true]
     congr 2
     funext u
     by_cases EW:u=x
     ·subst EW
      rw [upd_same,upd_ne _ _ hxd,upd_same,hvk]
     ·rw [upd_ne _ _ EW]
      by_cases hud:u=d
      ·subst hud;rw [upd_same,upd_same]
      ·rw [upd_ne _ _ hud,upd_ne _ _ hud,upd_ne _ _ EW]
theorem Iy (hg:∀ o ∈ ops,o.guard=none) {i j:Nat} {p o:Oper} (hp:p ∈ ops) (ho:o ∈ ops) {x t y d:Tmp} (hx:o.dst=some x) (hb:iM p=some (t,y,d)) (hfl:iY C p=true) (hq:aT C o=true) (hxo:x ∉ readsOf ops p) (hxd:x ≠ d) {s s1 s2:St} (l:Live s) (S:Same C ah o t d s)
  (h1:(stepT C ops i p s).run ah some=some s1) (h2:(stepT C ops j o s1).run ah some=some s2) :
  ∃ s',(stepT C ops j o s).run ah some=some s'/\(stepT C ops i p s').run ah some=some s2:=by
 obtain ⟨hod,hrd⟩:=kU hb
 have htx:t ≠ x:=fun e=>hxo (e ▸ hrd t (by simp) ops)
 have hyx:y ≠ x:=fun e=>hxo (e ▸ hrd y (by simp) ops)
 rw [iK hg hp hfl hb] at h1
 rw [kM] at h1
 obtain ⟨⟨w,E⟩,hw,h1⟩:=Option.bind_eq_some_iff.1 h1
 rw [fI hq,hx,T.run_bind,jy hg ho] at h2
 cases w with
 | none=>
  simp only [iP] at h1
  split at h1
  ·rename_i hk0
   cases hbd:mR d s.n with
   | false=>rw [hbd] at h1;cases h1
   | true=>
    rw [hbd] at h1
    simp only [cond_true,Option.some.injEq] at h1
    subst h1
    have hsn:=S.new E hk0
    unfold MJ at hsn
    rw [hsn] at h2
    obtain ⟨⟨v,es⟩,hv,h2⟩:=T.aD h2
    rw [aX] at h2
    obtain ⟨σ2,Pj,h2⟩:=Option.bind_eq_some_iff.1 h2
    simp only at Pj h2
    cases hbx:mR x s.n with
    | false=>rw [hbx] at h2;cases h2
    | true=>
     rw [hbx] at h2
     simp only [cond_true,Option.some.injEq] at h2
     subst h2
     have hal:bn s.aj [(ak d 0,E)]=some (upd s.aj (ak d 0) (some E)):=by simp only [bn,hk0]
     obtain ⟨σ',hf1,he1⟩:=pY hal Pj
     have hk1:σ' (ak d 0)=none:=(jW he1 _ E (by simp)).1
     have hs2:σ2=upd σ' (ak d 0) (some E):=by
      simp only [bn,hk1] at he1
      exact (Option.some.inj he1).symm
     refine ⟨⟨s.n,upd s.env x v,σ'⟩, ?_, ?_⟩
     ·rw [fI hq,hx,T.run_bind,jy hg ho,T.lu hv,aX]
      simp only
      rw [hf1]
      simp only [Option.bind_some,hbx,cond_true]
     ·have hvs:qB C p t y ⟨s.n,upd s.env x v,σ'⟩=qB C p t y s:=by
       have at':∀ r,∀ i ∈ (s.env r).ids,σ' i=s.aj i:=fun r i hi=>by
        obtain ⟨e,he⟩:=l.env r i hi
        rw [he,eB hf1 i e he]
       exact lY (upd_ne _ _ htx) (upd_ne _ _ hyx) (at' t) (at' y)
      rw [iK hg hp hfl hb,hvs,hw]
      simp only [Option.bind_some,iP,hk1,hbd,cond_true,hs2]
      rw [iO _ _ _ hxd]
  ·cases h1
 | some id=>
  obtain ⟨hid,⟨e0,he0⟩,hE⟩:=AX hw
  simp only [iP] at h1
  cases hbd:mR d s.n with
  | false=>rw [hbd] at h1;cases h1
  | true=>
   rw [hbd] at h1
   simp only [cond_true,Option.some.injEq] at h1
   subst h1
   have hso:=S.old id E hid (Gx hw)
   unfold Iu at hso
   rw [hso] at h2
   obtain ⟨⟨v,es⟩,hv,h2⟩:=T.aD h2
   rw [aX] at h2
   obtain ⟨σ2,Pj,h2⟩:=Option.bind_eq_some_iff.1 h2
   simp only at Pj h2
   obtain ⟨k2,k1⟩:=S.val v es hv
   cases hbx:mR x s.n with
   | false=>rw [hbx] at h2;cases h2
   | true=>
    rw [hbx] at h2
    simp only [cond_true,Option.some.injEq] at h2
    subst h2
    obtain ⟨σ',hf1,hs2⟩:=vK k2 ⟨e0,he0⟩ Pj
    have hvk:v.kill id=v:=by
     rcases k1 id hid with h | ⟨e,he⟩
     ·exact h
     ·have:=(jW hf1 id e he).1
      rw [he0] at this
      cases this
    refine ⟨⟨s.n,upd s.env x v,σ'⟩, ?_, ?_⟩
    ·rw [fI hq,hx,T.run_bind,jy hg ho,T.lu hv,aX]
     simp only
     rw [hf1]
     simp only [Option.bind_some,hbx,cond_true]
    ·have hvs:qB C p t y ⟨s.n,upd s.env x v,σ'⟩=qB C p t y s:=by
      have at':∀ r,∀ i ∈ (s.env r).ids,σ' i=s.aj i:=fun r i hi=>by
       obtain ⟨e,he⟩:=l.env r i hi
       rw [he,eB hf1 i e he]
      exact lY (upd_ne _ _ htx) (upd_ne _ _ hyx) (at' t) (at' y)
     rw [iK hg hp hfl hb,hvs,hw]
     simp only [Option.bind_some,iP,hbd,cond_true,hs2]
     congr 2
     funext u
     by_cases EW:u=x
     ·subst EW
      rw [upd_ne _ _ hxd,upd_same,upd_same,hvk]
     ·rw [upd_ne _ _ EW]
      by_cases hud:u=d
      ·subst hud;rw [upd_same,upd_same]
      ·rw [upd_ne _ _ hud,upd_ne _ _ hud,upd_ne _ _ EW]
structure yP (C:aZ) (ops:List Oper) (s0 s:St):Prop where
 XO:MInv ops s0 s
 num:∀ t,t ∉ dstsOf ops->rZ (s0.env t)=true->s.env t=s0.env t
 ptr:∀ k p id off,nK C ops s0 k p=some (id,off)->s.env p=.one (.cell .undef)\/s.env p=.one (.cell (.ptr id off))
 row:∀ t B,qw C ops s0 t=some B->∀ i ∈ (s.env t).ids,i ∈ B
 own:∀ t,Fq C ops s0 t=true->∀ i ∈ (s.env t).ids,∃ j,i=ak t j
 box:∀ id ty cs0,s0.aj id=some (.box ty cs0)->∃ cs,s.aj id=some (.box ty cs)/\∀ off n i,i ∈ ((cs.drop off).take n).flatMap Cell.ids->i ∈ ((cs0.drop off).take n).flatMap Cell.ids
theorem Oy (ops:List Oper) (s:St):yP C ops s s:=by
 refine ⟨fun _ _ _=>rfl,fun _ _ _=>rfl,fun k p id off h=>?_,fun t B h i hi=>?_,fun t h i hi=>?_,fun id ty cs0 h=>⟨cs0,h,fun _ _ _ h=>h⟩⟩
 ·cases k with
  | zero=>cases h
  | succ k=>
   unfold nK at h
   cases hc:(dstsOf ops).contains p with
   | true=>
    rw [hc] at h
    simp only [cond_true] at h
    split at h
    ·rename_i he _;exact .inl he
    ·cases h
   | false=>
    rw [hc] at h
    simp only [cond_false] at h
    split at h
    ·rename_i he;cases h;exact .inr he
    ·cases h
 ·unfold qw at h
  split at h
  ·rename_i he _
   rw [he] at hi
   simp [Slot.ids,av.ids,av.cells,Cell.ids] at hi
  ·cases h
 ·unfold Fq at h
  split at h
  ·rename_i he _
   rw [he] at hi
   simp [Slot.ids,av.ids,av.cells,Cell.ids] at hi
  ·cases h
theorem KF {o o':Oper} (ho:o ∈ ops) {x:Tmp} (hx:o.dst=some x) (h:ops.filter (fun o=>o.dst == some x)=[o']):o=o':=by
 have:o ∈ ops.filter (fun o=>o.dst == some x):=List.mem_filter.2 ⟨ho,by simp [hx]⟩
 rw [h] at this
 simpa using this
theorem Bc {o:Oper} (ho:o ∈ ops) {x:Tmp} (hx:o.dst=some x) {k id off:Nat} (h:nK C ops s0 k x=some (id,off)) :
  ∃ k',(∃ t b i o' off',o.op=.fieldAddr t (.tmp b) i/\C.placeOf t i=some off'/\nK C ops s0 k' b=some (id,o')/\off=o'+off')\/(∃ b,o.op=.nilCheck (.tmp b)/\nK C ops s0 k' b=some (id,off))\/∃ b,o.op=.move (.tmp b)/\nK C ops s0 k' b=some (id,off):=by
 cases k with
 | zero=>cases h
 | succ k=>
  refine ⟨k, ?_⟩
  unfold nK at h
  have hc:(dstsOf ops).contains x=true:=by simpa using lH ho hx
  rw [hc] at h
  simp only [cond_true] at h
  split at h
  ·rename_i o1 _ hf
   cases KF ho hx hf
   split at h
   ·rename_i t b i hop
    split at h
    ·rename_i off' id' o' hpl hs
     simp only [Option.some.injEq,Prod.mk.injEq] at h
     obtain ⟨rfl,rfl⟩:=h
     exact .inl ⟨t,b,i,o',off',hop,hpl,hs,rfl⟩
    ·cases h
   ·rename_i b hop;exact .inr (.inl ⟨b,hop,h⟩)
   ·rename_i b hop;exact .inr (.inr ⟨b,hop,h⟩)
   ·cases h
  ·cases h
theorem SC {o:Oper} (ho:o ∈ ops) {x:Tmp} (hx:o.dst=some x) {k id off:Nat} (h:nK C ops s0 k x=some (id,off)):iM o=none/\kZ C o=none:=by
 obtain ⟨k',⟨t,b,i,o',off',hop,_⟩ | ⟨b,hop,_⟩ | ⟨b,hop,_⟩⟩:=Bc ho hx h
 all_goals
  unfold iM kZ
  rw [hop,hx]
  exact ⟨rfl,rfl⟩
theorem oP {o:Oper} (ho:o ∈ ops) {x:Tmp} (hx:o.dst=some x) {B:List Nat} (h:qw C ops s0 x=some B):ru C ops s0 o=some B:=by
 unfold qw at h
 split at h
 ·rename_i o1 _ hf
  cases KF ho hx hf
  exact h
 ·cases h
theorem qd {o:Oper} {B:List Nat} (h:ru C ops s0 o=some B):(∃ ty p n agg id off bt cs,o.op=.load ty (.tmp p)/\C.take o.dst ty=false/\C.shape ty=some (n,agg)/\Lh C ops s0 p=some (id,off)/\s0.aj id=some (.box bt cs)/\B=((cs.drop off).take n).flatMap Cell.ids)\/∃ z,o.op=.move (.tmp z)/\z ∉ dstsOf ops/\rZ (s0.env z)=true/\B=[]:=by
 unfold ru at h
 split at h
 ·rename_i ty p hop
  split at h
  ·rename_i n agg id off htk hsh hpt
   split at h
   ·rename_i bt cs hs
    cases h
    exact .inl ⟨ty,p,n,agg,id,off,bt,cs,hop,htk,hsh,hpt,hs,rfl⟩
   ·cases h
  ·cases h
 ·rename_i z hop
  cases hc:(!(dstsOf ops).contains z && rZ (s0.env z)) with
  | false=>rw [hc] at h;cases h
  | true=>
   rw [hc] at h
   simp only [Bool.and_eq_true,Bool.not_eq_true'] at hc
   cases h
   exact .inr ⟨z,hop,by simpa using hc.1,hc.2,rfl⟩
 ·cases h
theorem Vz {o:Oper} (ho:o ∈ ops) {x:Tmp} (hx:o.dst=some x) {B:List Nat} (h:qw C ops s0 x=some B):iM o=none:=by
 rcases qd (oP ho hx h) with ⟨ty,p,n,agg,id,off,bt,cs,hop,_⟩ | ⟨z,hop,_⟩
 ·unfold iM;rw [hop]
 ·unfold iM;rw [hop]
theorem MK {v:Slot} (h:rZ v=true):∃ k n,v=.one (.cell (.int k n)):=by
 unfold rZ at h
 split at h
 ·exact ⟨_,_,rfl⟩
 ·cases h
theorem yI {o:Oper} {s:St} (I:yP C ops s0 s) {B:List Nat} (h:ru C ops s0 o=some B) {v:Slot} {es:List (Nat × Entry)} (hv:(aS C o s).run ah some=some (v,es)):es=[]/\∀ i ∈ v.ids,i ∈ B:=by
 rcases qd h with ⟨ty,p,n,agg,id,off,bt,cs,hop,htk,hsh,hpt,hs,rfl⟩ | ⟨z,hop,hz,hi,rfl⟩
 ·obtain ⟨dst,op,type,pos,after,guard⟩:=o
  simp only at hop
  subst hop
  obtain ⟨cs',hs',hsub⟩:=I.box id bt cs hs
  rcases I.ptr 4 p id off hpt with e | e
  ·simp only [aS,St.ev,e,hsh,St.gu,T.run_bind] at hv
   cases hv
  ·simp only [aS,St.ev,e,hsh,St.gu,hs'] at hv
   split at hv
   ·simp only [T.run_bind,T.run] at hv
    simp only [Option.some.injEq,Prod.mk.injEq] at hv
    obtain ⟨rfl,rfl⟩:=hv
    refine ⟨rfl,fun i hi=>hsub off n i ?_⟩
    obtain ⟨c,hc,hi⟩:=iq (agg:=agg) hi
    exact List.mem_flatMap.2 ⟨c,hc,hi⟩
   ·cases hv
 ·obtain ⟨k,n,he⟩:=MK hi
  have hs:s.env z=.one (.cell (.int k n)):=(I.num z hz hi).trans he
  obtain ⟨dst,op,type,pos,after,guard⟩:=o
  simp only at hop
  subst hop
  simp only [aS,St.ev,hs,T.run,Option.some.injEq,Prod.mk.injEq] at hv
  obtain ⟨rfl,rfl⟩:=hv
  exact ⟨rfl,fun i hi=>by simp [Slot.ids,av.ids,av.cells,Cell.ids] at hi⟩
theorem Gy {id:Nat} {cs:List Cell} {off n:Nat} (h:id ∉ ((cs.drop off).take n).flatMap Cell.ids):((cs.map (·.kill id)).drop off).take n=(cs.drop off).take n:=by
 rw [<- List.map_drop,<- List.map_take]
 exact xP fun c hc hi=>h (List.mem_flatMap.2 ⟨c,hc,hi⟩)
theorem Oz {o:Oper} {s:St} (I:yP C ops s0 s) (hld:∃ ty p,o.op=.load ty p) {B T:List Nat} {t d:Tmp} (hB:ru C ops s0 o=some B) (hT:qw C ops s0 t=some T) (hd:JR B T=true) (hdo:d ∉ readsOf ops o):Same C ah o t d s:=by
 have hval:∀ v es,(aS C o s).run ah some=some (v,es)->es=[]/\∀ i ∈ v.ids,i ∈ B:=fun v es hv=>yI I hB hv
 obtain ⟨ty,p,n,agg,id,off,bt,cs,hop,htk,hsh,hpt,hs,VQ⟩:=(qd hB).resolve_right fun ⟨z,hz,_⟩=>by
  obtain ⟨ty,p,hl⟩:=hld
  rw [hl] at hz
  cases hz
 have Yz:p ≠ d:=fun e=>hdo (by
  unfold readsOf
  refine List.mem_append_left _ (List.mem_filterMap.2 ⟨.tmp p, ?_,by rw [e]⟩)
  rw [hop]
  simp [Op.operands])
 obtain ⟨dst,op,type,pos,after,guard⟩:=o
 simp only at hop
 subst hop
 obtain ⟨cs',hs',hsub⟩:=I.box id bt cs hs
 refine ⟨fun E hk=>?_,fun k E hk _=>?_,fun v es hv=>?_⟩
 ·have he:(MJ s d E).env p=s.env p:=upd_ne _ _ Yz
  have hne:id ≠ ak d 0:=fun e=>by rw [<- e,hs'] at hk;cases hk
  have ht:(MJ s d E).aj id=s.aj id:=upd_ne _ _ hne
  rcases I.ptr 4 p id off hpt with e | e
  ·simp only [aS,St.ev,he,e,hsh,St.gu]
  ·simp only [aS,St.ev,he,e,hsh,St.gu,ht]
 ·have hkB:k ∉ B:=fun h=>vJ hd k h (I.row t T hT k hk)
  rcases I.ptr 4 p id off hpt with e | e
  ·have he:(Iu s d k E).env p=.one (.cell .undef):=by
    show upd (fun t=>(s.env t).kill k) d (.cell (.ref k)) p=_
    rw [upd_ne _ _ Yz,e]
    rfl
   simp only [aS,St.ev,he,e,hsh,St.gu]
  ·have he:(Iu s d k E).env p=.one (.cell (.ptr id off)):=by
    show upd (fun t=>(s.env t).kill k) d (.cell (.ref k)) p=_
    rw [upd_ne _ _ Yz,e]
    rfl
   by_cases hik:id=k
   ·subst hik
    rename_i hex
    obtain ⟨v',l',m',hs2⟩:=hex
    rw [hs'] at hs2
    cases hs2
   ·have ht:(Iu s d k E).aj id=some (.box bt (cs'.map (·.kill k))):=by
     show wJ s.aj k E id=_
     rw [qO hik,hs']
     rfl
    simp only [aS,St.ev,he,e,hsh,St.gu,ht,hs',List.length_map]
    rw [Gy (fun hh=>hkB (by rw [VQ];exact hsub off n k hh))]
 ·obtain ⟨rfl,hi⟩:=hval v es hv
  exact ⟨fun z hz=>by simp at hz,fun k hk=>.inl (Slot.iC fun hkv=>absurd (I.row t T hT k hk) (vJ hd k (hi k hkv)))⟩
theorem OA {o:Oper} {s:St} (I:MInv ops s0 s) {ty:TypeId} {z:Tmp} {i:Nat} {t d:Tmp} (hop:o.op=.fieldAddr ty (.tmp z) i) (hz:z ∉ dstsOf ops) (hp:cK (s0.env z)=true) (hdo:d ∉ readsOf ops o):Same C ah o t d s:=by
 have hzd:z ≠ d:=fun e=>hdo (by
  unfold readsOf
  refine List.mem_append_left _ (List.mem_filterMap.2 ⟨.tmp z, ?_,by rw [e]⟩)
  rw [hop]
  simp [Op.operands])
 have hpz:cK (s.env z)=true:=by rw [I z hz hp];exact hp
 obtain ⟨dst,op,type,pos,after,guard⟩:=o
 simp only at hop
 subst hop
 refine ⟨fun E hk=>?_,fun k E hk _=>?_,fun v es hv=>?_⟩
 ·have he:(MJ s d E).env z=s.env z:=upd_ne _ _ hzd
  simp only [aS,St.ev,he]
 ·have he:(Iu s d k E).env z=s.env z:=(Pq hzd).trans (om hpz k)
  simp only [aS,St.ev,he]
 ·unfold cK at hpz
  split at hpz
  ·rename_i id off he
   simp only [aS,St.ev,he] at hv
   cases hpl:C.placeOf ty i with
   | none=>rw [hpl] at hv;cases hv
   | some off'=>
    rw [hpl] at hv
    simp only [T.run,Option.some.injEq,Prod.mk.injEq] at hv
    obtain ⟨rfl,rfl⟩:=hv
    exact ⟨fun z hz=>by simp at hz,fun k hk=>.inl rfl⟩
  ·cases hpz
theorem Qp {o:Oper} {s:St} (I:yP C ops s0 s) {t d:Tmp} (hq:aT C o=true) (hf:qo C o=true) (hr:∀ r ∈ readsOf ops o,qw C ops s0 r=some []) (hdo:d ∉ readsOf ops o):Same C ah o t d s:=by
 have hno:∀ r ∈ readsOf ops o,(s.env r).ids=[]:=fun r hr'=>List.eq_nil_iff_forall_not_mem.2 fun i hi=>by
  have:=I.row r [] (hr r hr') i hi
  simp at this
 have hrd:∀ r ∈ readsOf ops o,r ≠ d:=fun r hr' e=>hdo (e ▸ hr')
 refine ⟨fun E hk=>?_,fun k E hk _=>?_,fun v es hv=>?_⟩
 ·exact uz (ops:=ops) hq (fun r hr'=>upd_ne _ _ (hrd r hr')) (fun r hr' i hi=>by rw [hno r hr'] at hi;simp at hi)
 ·exact uz (ops:=ops) hq (fun r hr'=>(Pq (hrd r hr')).trans (Slot.iC (by rw [hno r hr'];simp))) (fun r hr' i hi=>by rw [hno r hr'] at hi;simp at hi)
 ·obtain ⟨k1,k2⟩:=AY (ops:=ops) hq hf (fun r hr' i hi=>by rw [hno r hr'] at hi;simp at hi) hv
  refine ⟨fun z hz=>(k2 z.1 z.2 hz).1,fun k hk=>?_⟩
  by_cases hkv:k ∈ v.ids
  ·rcases k1 k hkv with ⟨r,hr',hi⟩ | h
   ·rw [hno r hr'] at hi;simp at hi
   ·exact .inr h
  ·exact .inl (Slot.iC hkv)
theorem JB {a b:Oper} (h:JV C ops s0 a b=true) {s:St} (I:yP C ops s0 s):∃ x t y d,a.dst=some x/\iM b=some (t,y,d)/\iY C b=true/\aT C a=true/\x ∉ readsOf ops b/\x ≠ d/\Same C ah a t d s:=by
 unfold JV at h
 split at h
 ·rename_i x t y d hx hb
  simp only [Bool.and_eq_true,Bool.not_eq_true'] at h
  obtain ⟨⟨⟨⟨⟨h1,h2⟩,h3⟩,h4⟩,h5⟩,h6⟩:=h
  have hd:d ∉ readsOf ops a:=by simpa using h5
  refine ⟨x,t,y,d,hx,hb,h2,h1,by simpa using h3,fun e=>by subst e;simp at h4, ?_⟩
  split at h6
  ·rename_i ty z i hop
   simp only [Bool.and_eq_true,Bool.not_eq_true'] at h6
   exact OA I.XO hop (by simpa using h6.1) h6.2 hd
  ·split at h6
   ·rename_i B T hB hT
    exact Oz I ⟨_,_,by assumption⟩ hB hT h6 hd
   ·cases h6
  ·simp only [Bool.and_eq_true] at h6
   exact Qp I h1 h6.1 (fun r hr=>by simpa using List.all_eq_true.1 h6.2 r hr) hd
 ·cases h
theorem KG {key:Nat->Nat}:∀ {t:Ty} {x:t.den} {j:Nat},∀ y ∈ (aA true key t x j).2.1,∃ j',y.1=key j':=by
 intro t
 induction t with
 | list t ih=>intro x j y hy;simp only [aA,if_true,List.mem_singleton] at hy;exact ⟨j,by rw [hy]⟩
 | aG t ih=>intro x j y hy;simp only [aA,if_true,List.mem_singleton] at hy;exact ⟨j,by rw [hy]⟩
 | pair a b iha ihb=>
  intro x j y hy
  simp only [aA] at hy
  rcases List.mem_append.1 hy with hy | hy
  ·exact iha y hy
  ·exact ihb y hy
 | _=>intro x j y hy;simp [aA] at hy
theorem TW {o:Oper} {s:St} {x:Tmp} (hx:o.dst=some x) {f:FuncId} {args:Array Operand} {ats:Array TypeId} (hop:o.op=.call ⟨.value (.func f),args,ats⟩) (hown:(C.sig f).own=true) {fn:Func} (hfn:C.P.funcs[f]? = some fn) (hone:Nat.beq fn.resultTypes.size 1=true) {v:Slot} {es:List (Nat × Entry)} (h:(aS C o s).run ah some=some (v,es)):∀ i ∈ v.ids,∃ j,i=ak x j:=by
 obtain ⟨dst,op,type,pos,after,guard⟩:=o
 simp only at hop hx
 subst hop hx
 simp only [aS,St.ev] at h
 cases hvs:bg s args.toList with
 | none=>rw [hvs] at h;cases h
 | some vs=>
  rw [hvs] at h
  simp only at h
  unfold Ar at h
  split at h
  ·cases h
  split at h
  ·unfold qZ at h
   rw [hfn] at h
   simp only at h
   split at h
   ·rename_i args' pK rt _ _ hr
    split at h
    ·cases h
    ·simp only [T.run] at h
     obtain ⟨r,_,h⟩:=Option.bind_eq_some_iff.1 h
     have h:some (fM (C.sig f).own (Nat.beq fn.resultTypes.size 1) (ak x) rt r)=some (v,es):=h
     rw [hone,hown] at h
     simp only [fM,if_true,Option.some.injEq] at h
     have hv:v=.one (aP rt.isAgg (aA true (ak x) rt r 0).1):=by rw [<- (Prod.mk.inj h).1]
     intro i hi
     rw [hv] at hi
     obtain ⟨c,hc,hic⟩:=iq hi
     obtain ⟨e,he⟩:=Ba (own:=true) (key:=ak x) c hc i hic
     exact KG (i,e) he
   ·cases h
  ·cases h
theorem Cx {o:Oper} (ho:o ∈ ops) {x:Tmp} (hx:o.dst=some x) (h:Fq C ops s0 x=true):aT C o=true/\∃ f args ats fn,o.op=.call ⟨.value (.func f),args,ats⟩/\(C.sig f).own=true/\C.P.funcs[f]? = some fn/\Nat.beq fn.resultTypes.size 1=true:=by
 unfold Fq at h
 split at h
 ·rename_i o1 _ hf
  cases KF ho hx hf
  simp only [Bool.and_eq_true] at h
  obtain ⟨hq,h⟩:=h
  refine ⟨hq, ?_⟩
  split at h
  ·rename_i f args ats hop
   simp only [Bool.and_eq_true] at h
   obtain ⟨h1,h2⟩:=h
   split at h2
   ·rename_i fn hfn
    exact ⟨f,args,_,fn,hop,h1,hfn,h2⟩
   ·cases h2
  ·cases h
 ·cases h
theorem ML {v:Slot} (h:rZ v=true) (id:Nat):v.kill id=v:=by
 obtain ⟨k,n,rfl⟩:=MK h
 rfl
theorem yJ {v:Slot} (h:cK v=true) (K:List Nat):v.kills K=v:=by
 induction K with
 | nil=>rfl
 | cons k K ih=>show (v.kill k).kills K=v;rw [om h];exact ih
theorem JC {v:Slot} (h:rZ v=true) (K:List Nat):v.kills K=v:=by
 induction K with
 | nil=>rfl
 | cons k K ih=>show (v.kill k).kills K=v;rw [ML h];exact ih
theorem xU (K:List Nat):Slot.kills K (.one (.cell .undef))=.one (.cell .undef):=by
 induction K with
 | nil=>rfl
 | cons k K ih=>exact ih
theorem JD {t:Option Ty} {K:List Nat}:∀ {cs:List Cell},∃ cs',Entry.kills K (.box t cs)=.box t cs'/\cs'.length=cs.length/\(∀ off n i,i ∈ ((cs'.drop off).take n).flatMap Cell.ids->i ∈ ((cs.drop off).take n).flatMap Cell.ids)/\∀ off n,(∀ k ∈ K,k ∉ ((cs.drop off).take n).flatMap Cell.ids)->(cs'.drop off).take n=(cs.drop off).take n:=by
 induction K with
 | nil=>exact fun {cs}=>⟨cs,rfl,rfl,fun _ _ _ h=>h,fun _ _ _=>rfl⟩
 | cons k K ih=>
  intro cs
  obtain ⟨cs',h1,h2,h3,h4⟩:=ih (cs:=cs.map (·.kill k))
  have hsub:∀ off n i,i ∈ (((cs.map (·.kill k)).drop off).take n).flatMap Cell.ids->i ∈ ((cs.drop off).take n).flatMap Cell.ids:=fun off n i hi=>by
   rw [<- List.map_drop,<- List.map_take] at hi
   obtain ⟨c,hc,hi⟩:=List.mem_flatMap.1 hi
   obtain ⟨c',hc',rfl⟩:=List.mem_map.1 hc
   exact List.mem_flatMap.2 ⟨c',hc',Cell.jQ i hi⟩
  refine ⟨cs',h1,by rw [h2,List.length_map],fun off n i hi=>hsub off n i (h3 off n i hi),fun off n hk=>?_⟩
  rw [h4 off n fun k' hk' hm=>hk k' (by simp [hk']) (hsub off n k' hm),Gy (hk k (by simp))]
theorem Pt (hg:∀ o ∈ ops,o.guard=none) {i:Nat} {o:Oper} (ho:o ∈ ops) (hq:(aT C o || ((iM o).isSome && iY C o) || (kZ C o).isSome)=true) {s s1:St} (I:yP C ops s0 s) (h:(stepT C ops i o s).run ah some=some s1):yP C ops s0 s1:=by
 simp only [Bool.or_eq_true,Bool.and_eq_true] at hq
 by_cases hqo:aT C o=true
 ·have hmov:MInv ops s0 s1:=KA hg ho (by simp [hqo]) I.XO h
  obtain ⟨x,v,es,σ,hx,hv,hσ,hin,rfl⟩:=mM hg ho hqo h
  refine ⟨hmov,fun t ht hi=>(upd_ne _ _ (fun e=>ht (by rw [e];exact lH ho hx))).trans (I.num t ht hi),fun k p id off hp=>?_,fun t B hB i hi=>?_,fun t hO i hi=>?_,fun id ty cs0 hs=>?_⟩
  ·by_cases hpx:p=x
   ·subst hpx
    obtain ⟨k',⟨t,b,i,o',off',hop,hpl,hb,rfl⟩ | ⟨b,hop,hb⟩ | ⟨b,hop,hb⟩⟩:=Bc ho hx hp
    ·obtain ⟨dst,op,type,pos,after,guard⟩:=o
     simp only at hop
     subst hop
     rcases I.ptr k' b id o' hb with e | e
     ·simp only [aS,St.ev,hpl,e] at hv
      cases hv
     ·simp only [aS,St.ev,hpl,e,T.run,Option.some.injEq,Prod.mk.injEq] at hv
      obtain ⟨rfl,rfl⟩:=hv
      exact .inr (upd_same _ _ _)
    ·obtain ⟨dst,op,type,pos,after,guard⟩:=o
     simp only at hop
     subst hop
     rcases I.ptr k' b id off hb with e | e
     ·simp only [aS,St.ev,e] at hv
      cases hv
     ·simp only [aS,St.ev,e,T.run,Option.some.injEq,Prod.mk.injEq] at hv
      obtain ⟨rfl,rfl⟩:=hv
      exact .inr (upd_same _ _ _)
    ·obtain ⟨dst,op,type,pos,after,guard⟩:=o
     simp only at hop
     subst hop
     rcases I.ptr k' b id off hb with e | e
     ·simp only [aS,St.ev,e,T.run,Option.some.injEq,Prod.mk.injEq] at hv
      obtain ⟨rfl,rfl⟩:=hv
      exact .inl (upd_same _ _ _)
     ·simp only [aS,St.ev,e,T.run,Option.some.injEq,Prod.mk.injEq] at hv
      obtain ⟨rfl,rfl⟩:=hv
      exact .inr (upd_same _ _ _)
   ·rcases I.ptr k p id off hp with e | e
    ·exact .inl ((upd_ne _ _ hpx).trans e)
    ·exact .inr ((upd_ne _ _ hpx).trans e)
  ·by_cases htx:t=x
   ·subst htx
    simp only [upd_same] at hi
    exact (yI I (oP ho hx hB) hv).2 i hi
   ·simp only [upd_ne _ _ htx] at hi
    exact I.row t B hB i hi
  ·by_cases htx:t=x
   ·subst htx
    simp only [upd_same] at hi
    obtain ⟨_,f,args,ats,fn,hop,h1,h2,h3⟩:=Cx ho hx hO
    exact TW hx hop h1 h2 h3 hv i hi
   ·simp only [upd_ne _ _ htx] at hi
    exact I.own t hO i hi
  ·obtain ⟨cs,h1,h2⟩:=I.box id ty cs0 hs
   exact ⟨cs,eB hσ id _ h1,h2⟩
 rcases hq with (hq | ⟨ha,hfl⟩) | hdr
 ·exact absurd hq hqo
 ·have hmov:MInv ops s0 s1:=KA hg ho (by simp [ha,hfl]) I.XO h
  obtain ⟨⟨t,y,d⟩,ha⟩:=Option.isSome_iff_exists.1 ha
  obtain ⟨hod,_⟩:=kU ha
  rw [iK hg ho hfl ha,kM] at h
  obtain ⟨⟨w,E⟩,hw,h⟩:=Option.bind_eq_some_iff.1 h
  have pd:∀ k p id off,nK C ops s0 k p=some (id,off)->p ≠ d:=fun k p id off hp e=>by
   subst e
   rw [(SC ho hod hp).1] at ha
   cases ha
  have rd:∀ t B,qw C ops s0 t=some B->t ≠ d:=fun t B hB e=>by
   subst e
   rw [Vz ho hod hB] at ha
   cases ha
  have od:∀ t,Fq C ops s0 t=true->t ≠ d:=fun t hO e=>by
   subst e
   exact hqo (Cx ho hod hO).1
  have nd:∀ t,t ∉ dstsOf ops->t ≠ d:=fun t ht e=>ht (e ▸ lH ho hod)
  cases w with
  | none=>
   simp only [iP] at h
   split at h
   ·rename_i hk
    cases hbd:mR d s.n with
    | false=>rw [hbd] at h;cases h
    | true=>
     rw [hbd] at h
     simp only [cond_true,Option.some.injEq] at h
     subst h
     refine ⟨hmov,fun t ht hi=>(upd_ne _ _ (nd t ht)).trans (I.num t ht hi),fun k p id off hp=>?_,fun t B hB i hi=>?_,fun t hO i hi=>?_,fun id ty cs0 hs=>?_⟩
     ·simp only [upd_ne _ _ (pd k p id off hp)]
      exact I.ptr k p id off hp
     ·simp only [upd_ne _ _ (rd t B hB)] at hi
      exact I.row t B hB i hi
     ·simp only [upd_ne _ _ (od t hO)] at hi
      exact I.own t hO i hi
     ·obtain ⟨cs,h1,h2⟩:=I.box id ty cs0 hs
      exact ⟨cs,(upd_ne _ _ (fun e=>by subst e;rw [hk] at h1;cases h1)).trans h1,h2⟩
   ·cases h
  | some k=>
   simp only [iP] at h
   cases hbd:mR d s.n with
   | false=>rw [hbd] at h;cases h
   | true=>
    rw [hbd] at h
    simp only [cond_true,Option.some.injEq] at h
    subst h
    refine ⟨hmov,fun t ht hi=>?_,fun k' p id off hp=>?_,fun t B hB i hi=>?_,fun t hO i hi=>?_,fun id ty cs0 hs=>?_⟩
    ·show upd (fun t=>(s.env t).kill k) d (.cell (.ref k)) t=_
     rw [upd_ne _ _ (nd t ht),I.num t ht hi,ML hi]
    ·simp only [upd_ne _ _ (pd k' p id off hp)]
     rcases I.ptr k' p id off hp with e | e
     ·exact .inl (by rw [e];rfl)
     ·exact .inr (by rw [e];rfl)
    ·simp only [upd_ne _ _ (rd t B hB)] at hi
     exact I.row t B hB i (Slot.jQ i hi)
    ·simp only [upd_ne _ _ (od t hO)] at hi
     exact I.own t hO i (Slot.jQ i hi)
    ·obtain ⟨cs,h1,h2⟩:=I.box id ty cs0 hs
     obtain ⟨v',l',m',h3⟩:=Gx hw
     have hne:id ≠ k:=fun e=>by subst e;rw [h1] at h3;cases h3
     refine ⟨cs.map (·.kill k), ?_,fun off n i hi=>h2 off n i ?_⟩
     ·show wJ s.aj k E id=_
      rw [qO hne,h1]
      rfl
     ·rw [<- List.map_drop,<- List.map_take] at hi
      obtain ⟨c,hc,hi⟩:=List.mem_flatMap.1 hi
      obtain ⟨c',hc',rfl⟩:=List.mem_map.1 hc
      exact List.mem_flatMap.2 ⟨c',hc',Cell.jQ i hi⟩
 ·obtain ⟨d,hb⟩:=Option.isSome_iff_exists.1 hdr
  obtain ⟨hod,K,r⟩:=qc hg ho hb h
  have pd:∀ k p id off,nK C ops s0 k p=some (id,off)->p ≠ d:=fun k p id off hp e=>by
   subst e
   rw [(SC ho hod hp).2] at hb
   cases hb
  have rd:∀ t B,qw C ops s0 t=some B->t ≠ d:=fun t B hB e=>by
   subst e
   rcases qd (oP ho hod hB) with ⟨ty,p,n,agg,id,off,bt,cs,hop,htk,_⟩ | ⟨z,hop,_⟩
   ·unfold kZ at hb
    rw [hod] at htk
    rw [hop,hod] at hb
    simp only [htk] at hb
    cases hb
   ·unfold kZ at hb
    rw [hop,hod] at hb
    cases hb
  have od:∀ t,Fq C ops s0 t=true->t ≠ d:=fun t hO e=>by
   subst e
   exact hqo (Cx ho hod hO).1
  have nd:∀ t,t ∉ dstsOf ops->t ≠ d:=fun t ht e=>ht (e ▸ lH ho hod)
  refine ⟨fun t ht hp=>?_,fun t ht hi=>?_,fun k p id off hp=>?_,fun t B hB i hi=>?_,fun t hO i hi=>?_,fun id ty cs0 hs=>?_⟩
  ·rw [r.env t (nd t ht),I.XO t ht hp,yJ hp]
  ·rw [r.env t (nd t ht),I.num t ht hi,JC hi]
  ·rw [r.env p (pd k p id off hp)]
   rcases I.ptr k p id off hp with e | e
   ·exact .inl (by rw [e];exact xU K)
   ·exact .inr (by rw [e];exact yJ rfl K)
  ·rw [r.env t (rd t B hB)] at hi
   exact I.row t B hB i (yG i hi)
  ·rw [r.env t (od t hO)] at hi
   exact I.own t hO i (yG i hi)
  ·obtain ⟨cs,h1,h2⟩:=I.box id ty cs0 hs
   obtain ⟨cs',k1,k2,k3,k4⟩:=JD (t:=ty) (K:=K) (cs:=cs)
   refine ⟨cs', ?_,fun off n i hi=>h2 off n i (k3 off n i hi)⟩
   rw [r.aj id _ h1 (fun hK=>r.wo id hK ty cs h1),k1]
theorem TY (t j:Nat):ak t j % 4=0:=by unfold ak;omega
theorem Ua (t j:Nat):Nat.ble (256*t) (ak t j)=true:=Nat.ble_eq_true_of_le (by unfold ak;omega)
theorem Pv {a:Oper} (ha:a ∈ ops) {x:Tmp} (hx:a.dst=some x) {id off:Nat} (hpt:Lh C ops s0 x=some (id,off)) {s:St} (I:yP C ops s0 s) {v:Slot} {es:List (Nat × Entry)} (hv:(aS C a s).run ah some=some (v,es)):es=[]/\(v=.one (.cell .undef)\/∃ off,v=.one (.cell (.ptr id off))):=by
 obtain ⟨k',⟨t,b',i,o',off',hop,hpl,hb',rfl⟩ | ⟨b',hop,hb'⟩ | ⟨b',hop,hb'⟩⟩:=Bc ha hx hpt
 ·obtain ⟨dst,op,type,pos,after,guard⟩:=a
  simp only at hop
  subst hop
  rcases I.ptr k' b' id o' hb' with e | e
  ·simp only [aS,St.ev,hpl,e] at hv;cases hv
  ·simp only [aS,St.ev,hpl,e,T.run,Option.some.injEq,Prod.mk.injEq] at hv
   obtain ⟨rfl,rfl⟩:=hv
   exact ⟨rfl,.inr ⟨_,rfl⟩⟩
 ·obtain ⟨dst,op,type,pos,after,guard⟩:=a
  simp only at hop
  subst hop
  rcases I.ptr k' b' id off hb' with e | e
  ·simp only [aS,St.ev,e] at hv;cases hv
  ·simp only [aS,St.ev,e,T.run,Option.some.injEq,Prod.mk.injEq] at hv
   obtain ⟨rfl,rfl⟩:=hv
   exact ⟨rfl,.inr ⟨_,rfl⟩⟩
 ·obtain ⟨dst,op,type,pos,after,guard⟩:=a
  simp only at hop
  subst hop
  rcases I.ptr k' b' id off hb' with e | e
  ·simp only [aS,St.ev,e,T.run,Option.some.injEq,Prod.mk.injEq] at hv
   obtain ⟨rfl,rfl⟩:=hv
   exact ⟨rfl,.inl rfl⟩
  ·simp only [aS,St.ev,e,T.run,Option.some.injEq,Prod.mk.injEq] at hv
   obtain ⟨rfl,rfl⟩:=hv
   exact ⟨rfl,.inr ⟨_,rfl⟩⟩
theorem SE {a:Oper} (ha:a ∈ ops) {x:Tmp} (hx:a.dst=some x) {id off:Nat} (hpt:Lh C ops s0 x=some (id,off)) {s s3:St} {K:List Nat} (I:yP C ops s0 s) (h3:∀ r ∈ readsOf ops a,s3.env r=(s.env r).kills K):aS C a s3=aS C a s:=by
 have XP:∀ {b:Tmp},Operand.tmp b ∈ a.op.operands.toList->b ∈ readsOf ops a:=fun hb=>by
  unfold readsOf
  exact List.mem_append_left _ (List.mem_filterMap.2 ⟨_,hb,rfl⟩)
 have same:∀ {k' b off},nK C ops s0 k' b=some (id,off)->(s.env b).kills K=s.env b:=fun {k' b off} hb=>by
  rcases I.ptr k' b id off hb with e | e
  ·rw [e];exact xU K
  ·rw [e];exact yJ rfl K
 obtain ⟨k',⟨t,b',i,o',off',hop,hpl,hb',rfl⟩ | ⟨b',hop,hb'⟩ | ⟨b',hop,hb'⟩⟩:=Bc ha hx hpt
 all_goals
  have hr:=XP (b:=b') (by rw [hop];simp [Op.operands])
  have hsm:=(h3 b' hr).trans (same hb')
  obtain ⟨dst,op,type,pos,after,guard⟩:=a
  simp only at hop
  subst hop
  simp only [aS,St.ev,hsm]
theorem Cy {a b:Oper} (ha:a ∈ ops) (h:BZ C ops s0 a b=true):∃ x d,a.dst=some x/\kZ C b=some d/\aT C a=true/\x ∉ readsOf ops b/\x ≠ d/\d ∉ readsOf ops a /\
  (∀ {s:St},yP C ops s0 s->∀ v es,(aS C a s).run ah some=some (v,es)->es=[]) /\
  ∀ {s s2:St} {j:Nat} {K:List Nat},yP C ops s0 s->sK C ah ops j b s s2 d K->(∀ s':St,yP C ops s0 s'->∀ k ∈ K,k ∉ (s'.env x).ids)/\(∀ s3:St,(∀ r ∈ readsOf ops a,s3.env r=(s.env r).kills K)->s3.aj=s2.aj->aS C a s3=aS C a s) /\
   ∀ v es,(aS C a s).run ah some=some (v,es)->∀ k ∈ K,k ∉ v.ids:=by
 unfold BZ at h
 split at h
 ·rename_i x d hx hb
  simp only [Bool.and_eq_true,Bool.not_eq_true'] at h
  obtain ⟨⟨⟨⟨h1,h2⟩,h3⟩,h4⟩,h5⟩:=h
  refine ⟨x,d,hx,hb,h1,by simpa using h2,fun e=>by subst e;simp at h3,by simpa using h4, ?_⟩
  split at h5
  ·rename_i id off hpt
   have hbx:∃ ty cs,s0.aj id=some (.box ty cs):=by
    split at h5
    ·rename_i hs;exact ⟨_,_,hs⟩
    ·cases h5
   obtain ⟨ty,cs,hs⟩:=hbx
   refine ⟨fun I v es hv=>(Pv ha hx hpt I hv).1,fun {s s2 j K} I r=>?_⟩
   obtain ⟨cs',hs',_⟩:=I.box id ty cs hs
   have Sr:id ∉ K:=fun hK=>r.wo id hK ty cs' hs'
   have one:∀ v:Slot,(v=.one (.cell .undef)\/∃ off,v=.one (.cell (.ptr id off)))->∀ k ∈ K,k ∉ v.ids:=fun v hv k hk hi=>by
    rcases hv with e | ⟨off,e⟩
    ·rw [e] at hi;simp [Slot.ids,av.ids,av.cells,Cell.ids] at hi
    ·rw [e] at hi
     simp [Slot.ids,av.ids,av.cells,Cell.ids] at hi
     exact Sr (hi ▸ hk)
   exact ⟨fun s' I'=>one _ ((I'.ptr 4 x id off hpt).imp (fun e=>e) fun e=>⟨off,e⟩),fun s3 h3 _=>SE ha hx hpt I h3,fun v es hv=>one _ (Pv ha hx hpt I hv).2⟩
  ·split at h5
   ·rename_i P hP
    refine ⟨fun I v es hv=>(yI I (oP ha hx hP) hv).1,fun {s s2 j K} I r=>?_⟩
    have XP:∀ {b:Tmp},Operand.tmp b ∈ a.op.operands.toList->b ∈ readsOf ops a:=fun hb=>by
     unfold readsOf
     exact List.mem_append_left _ (List.mem_filterMap.2 ⟨_,hb,rfl⟩)
    have YA:∀ k ∈ K,k ∉ P:=fun k hk YB=>by
     simp only [Bool.or_eq_true] at h5
     rcases h5 with h5 | h5
     ·have:P=[]:=List.isEmpty_iff.1 h5
      rw [this] at YB;simp at YB
     ·obtain ⟨t,ht,hi⟩:=r.sub k hk
      have:=List.all_eq_true.1 h5 t ht
      simp only [Bool.and_eq_true] at this
      obtain ⟨hO,hall⟩:=this
      obtain ⟨j',hj'⟩:=I.own t hO k hi
      have:=List.all_eq_true.1 hall k YB
      simp only [OV,Bool.not_eq_true',Bool.and_eq_false_iff] at this
      rw [hj'] at this
      rcases this with h | h
      ·rw [TY] at h
       simp at h
      ·rw [Ua] at h
       cases h
    refine ⟨fun s' I' k hk hi=>YA k hk (I'.row x P hP k hi),fun s3 h3 ZT=>?_,fun v es hv k hk hi=>YA k hk ((yI I (oP ha hx hP) hv).2 k hi)⟩
    rcases qd (oP ha hx hP) with ⟨ty,p,n,agg,id,off,bt,cs,hop,htk,hsh,hpt,hs,VQ⟩ | ⟨z,hop,hz,hi,VQ⟩
    ·have hr:=XP (b:=p) (by rw [hop];simp [Op.operands])
     obtain ⟨cs',hs',hsub⟩:=I.box id bt cs hs
     obtain ⟨cs2,k1,k2,k3,k4⟩:=JD (t:=bt) (K:=K) (cs:=cs')
     have hcase:=I.ptr 4 p id off hpt
     have he:=h3 p hr
     obtain ⟨dst,op,type,pos,after,guard⟩:=a
     simp only at hop
     subst hop
     rcases hcase with e | e
     ·rw [e,xU] at he
      simp only [aS,St.ev,he,e,hsh,St.gu]
     ·rw [e,yJ rfl] at he
      have ht:s3.aj id=some (.box bt cs2):=by rw [ZT,r.aj id _ hs' (fun hK=>r.wo id hK bt cs' hs'),k1]
      simp only [aS,St.ev,he,e,hsh,St.gu,ht,hs',k2]
      rw [k4 off n fun k hk hm=>YA k hk (by rw [VQ];exact hsub off n k hm)]
    ·have hr:=XP (b:=z) (by rw [hop];simp [Op.operands])
     have he:=h3 z hr
     rw [JC (by rw [I.num z hz hi];exact hi)] at he
     obtain ⟨dst,op,type,pos,after,guard⟩:=a
     simp only at hop
     subst hop
     simp only [aS,St.ev,he]
   ·cases h5
 ·cases h
theorem OB (hg:∀ o ∈ ops,o.guard=none) {i j:Nat} {p o:Oper} (hp:p ∈ ops) (ho:o ∈ ops) {s s1 s2:St} (I:yP C ops s0 s) (I1:yP C ops s0 s1) (hc:BZ C ops s0 p o=true)
  (h1:(stepT C ops i p s).run ah some=some s1) (h2:(stepT C ops j o s1).run ah some=some s2) :
  ∃ s',(stepT C ops j o s).run ah some=some s'/\(stepT C ops i p s').run ah some=some s2:=by
 obtain ⟨x,d,hx,hb,hq,hxo,hxd,hdp,hA,hB⟩:=Cy (ah:=ah) hp hc
 obtain ⟨x',v,es,σ,hx',hv,hσ,hin,rfl⟩:=mM hg hp hq h1
 rw [hx] at hx'
 cases hx'
 obtain rfl:=hA I v es hv
 simp only [bn,Option.some.injEq] at hσ
 subst hσ
 obtain ⟨hd,K1,r1⟩:=qc hg ho hb h2
 obtain ⟨nv,_,_⟩:=hB I1 r1
 have hup:(stepT C ops j o ⟨s.n,upd (upd s.env x v) x (s.env x),s.aj⟩).run ah some=some ⟨s2.n,upd s2.env x (s.env x),s2.aj⟩:=r1.up x (s.env x) hxo hxd (nv s I)
 have e0:(⟨s.n,upd (upd s.env x v) x (s.env x),s.aj⟩:St)=s:=by
  have:upd (upd s.env x v) x (s.env x)=s.env:=by
   rw [vH]
   funext t
   by_cases ht:t=x
   ·subst ht;exact upd_same _ _ _
   ·exact upd_ne _ _ ht
  rw [this]
 rw [e0] at hup
 refine ⟨_,hup, ?_⟩
 obtain ⟨_,K,r⟩:=qc hg ho hb hup
 obtain ⟨_,hval,_⟩:=hB I r
 have hv':(aS C p ⟨s2.n,upd s2.env x (s.env x),s2.aj⟩).run ah some=some (v,[]):=by
  rw [hval ⟨s2.n,upd s2.env x (s.env x),s2.aj⟩ (fun t ht=>r.env t (fun e=>hdp (e ▸ ht))) rfl]
  exact hv
 rw [oO hg hp hq hx hv' (by show mR x s2.n=true;rw [r1.n];exact hin)]
 have e1:upd (upd s2.env x (s.env x)) x v=s2.env:=by
  rw [vH]
  funext t
  by_cases ht:t=x
  ·subst ht
   rw [upd_same,r1.env t hxd]
   have h4:=nv _ I1
   simp only [upd_same] at h4
   show v=(upd s.env t v t).kills K1
   rw [upd_same]
   exact (mX h4).symm
  ·exact upd_ne _ _ ht
 show some (⟨s2.n,upd (upd s2.env x (s.env x)) x v,s2.aj⟩:St)=some s2
 rw [e1]
theorem OC (hg:∀ o ∈ ops,o.guard=none) {i j:Nat} {p o:Oper} (hp:p ∈ ops) (ho:o ∈ ops) {s s1 s2:St} (I:yP C ops s0 s) (hc:BZ C ops s0 o p=true)
  (h1:(stepT C ops i p s).run ah some=some s1) (h2:(stepT C ops j o s1).run ah some=some s2) :
  ∃ s',(stepT C ops j o s).run ah some=some s'/\(stepT C ops i p s').run ah some=some s2:=by
 obtain ⟨x,d,hx,hb,hq,hxp,hxd,hdo,hA,hB⟩:=Cy (ah:=ah) ho hc
 obtain ⟨hd,K,r⟩:=qc hg hp hb h1
 obtain ⟨_,hval,ZU⟩:=hB I r
 obtain ⟨x',v,es,σ,hx',hv,hσ,hin,rfl⟩:=mM hg ho hq h2
 rw [hx] at hx'
 cases hx'
 rw [hval s1 (fun t ht=>r.env t (fun e=>hdo (e ▸ ht))) rfl] at hv
 obtain rfl:=hA I v es hv
 simp only [bn,Option.some.injEq] at hσ
 subst hσ
 exact ⟨_,oO hg ho hq hx hv (by rw [<- r.n];exact hin),r.up x v hxp hxd (ZU v [] hv)⟩
end
def Xo {C:aZ} {ah:FuncId->(t:Ty)->List Arg->Option t.den} (ops:Array Oper) (s0:St) (hg:∀ o ∈ ops.toList,o.guard=none) (tail:Nat->Bool)
  (xO:∀ {i j:Nat},tail i=true->i<=j->tail j=true) (vI:∀ {j:Nat} {o:Oper},tail j=true->ops[j]? = some o->∀ k,k<j->∃ m,(fO ops.toList [])[j]? = some m/\m.testBit k=true)
  (hq:∀ (j:Nat) (o:Oper),ops[j]? = some o->tail j=false->(aT C o || ((iM o).isSome && iY C o) || (kZ C o).isSome)=true):Gh C ah ops:=
 have mem:∀ {i:Nat} {o:Oper},ops[i]? = some o->o ∈ ops.toList:=fun h=>Array.mem_toList_iff.2 (Array.mem_of_getElem? h)
 ⟨Rl C ops.toList s0,yP C ops.toList s0,tail,xO,(fun h1 h2 k hk=>.inl (vI h1 h2 k hk)),fun hI ht ho h=>Pt hg (mem ho) (hq _ _ ho ht) hI h,fun {i j p o s s1 s2} l hI hp ho hcm h1 h2=>by
  unfold Rl at hcm
  simp only [Bool.or_eq_true] at hcm
  rcases hcm with (((hcm | hcm) | hcm) | hcm) | hcm
  ·exact nS l hcm h1 h2
  ·obtain ⟨x,t,y,d,hx,hb,hfl,Ru,hxo,hxd,S⟩:=JB (ah:=ah) hcm hI
   exact Iw hg (mem hp) (mem ho) hx hb hfl Ru hxo hxd l S h1 h2
  ·obtain ⟨x,t,y,d,hx,hb,hfl,Ru,hxo,hxd,S⟩:=JB (ah:=ah) hcm hI
   exact Iy hg (mem hp) (mem ho) hx hb hfl Ru hxo hxd l S h1 h2
  ·have Ru:aT C p=true:=by
    obtain ⟨x,d,_,_,hq,_⟩:=Cy (ah:=ah) (mem hp) hcm
    exact hq
   exact OB hg (mem hp) (mem ho) hI (Pt hg (mem hp) (by simp [Ru]) hI h1) hcm h1 h2
  ·exact OC hg (mem hp) (mem ho) hI hcm h1 h2⟩
end Go.Flat
