/- Regions whose order is open: every order. No condition. -/
import Derived.Test.YtmocpfgfjeaelaaGreatDrawF
set_option linter.unusedVariables false
set_option linter.unusedSimpArgs false
namespace Go.Flat
theorem MN {acc:List Nat} {j:Nat}:∀ {l:List Edge} {x:Nat},(l.foldl (fun s e=>if Region.binds .any e then s ||| 2 ^ e.on ||| acc.getD e.on 0 else s) x).testBit j=true->
  x.testBit j=true\/∃ e ∈ l,Region.binds .any e=true/\(j=e.on\/(acc.getD e.on 0).testBit j=true)
 | [],x,h=>.inl h
 | e :: l,x,h=>by
  simp only [List.foldl_cons] at h
  rcases MN h with h | ⟨e',he',hb,hj⟩
  ·split at h
   ·rename_i hb
    simp only [Nat.testBit_or,Bool.or_eq_true] at h
    rcases h with (h | h) | h
    ·exact .inl h
    ·rw [Nat.testBit_two_pow] at h
     exact .inr ⟨e,by simp,hb,.inl (by simpa using h:e.on=j).symm⟩
    ·exact .inr ⟨e,by simp,hb,.inr h⟩
   ·exact .inl h
  ·exact .inr ⟨e',by simp [he'],hb,hj⟩
def Closed (ops:List Oper) (L:Nat->Prop):Prop:=∀ k o,ops[k]? = some o->L k->∀ e ∈ o.after.toList,Region.binds .any e=true->L e.on
def Uy (ops:List Oper) (L:Nat->Prop) (acc:List Nat):Prop:=
 ∀ (k m:Nat) (o:Oper),acc[k]? = some m->ops[k]? = some o->(∀ e ∈ o.after.toList,Region.binds .any e=true->L e.on)->∀ j,m.testBit j=true->L j
theorem OD {ops:List Oper} {L:Nat->Prop} (hL:Closed ops L):∀ (r:List Oper) (acc:List Nat),ops.drop acc.length=r->Uy ops L acc->Uy ops L (fO r acc)
 | [],acc,_,h=>h
 | o :: r,acc,hd,h=>by
  simp only [fO]
  refine OD hL r _ ?_ ?_
  ·rw [List.length_append,List.length_singleton,<- List.drop_drop,hd]
   rfl
  ·intro k m o' hm ho' hr j hj
   rw [List.getElem?_append] at hm
   split at hm
   ·exact h k m o' hm ho' hr j hj
   ·rename_i hk
    have hk0:k=acc.length:=by
     rcases Nat.lt_or_ge acc.length k with hlt | hge
     ·rw [List.getElem?_eq_none (by simp;omega)] at hm;cases hm
     ·omega
    subst hk0
    simp at hm
    subst hm
    have Xd:o'=o:=by
     have h0:ops[acc.length]? = (ops.drop acc.length)[0]?:=by simp
     rw [h0,hd] at ho'
     simpa using ho'.symm
    subst Xd
    rw [<- Array.foldl_toList] at hj
    rcases MN hj with hj | ⟨e,he,hb,hj⟩
    ·simp at hj
    ·have YX:=hr e he hb
     rcases hj with rfl | hj
     ·exact YX
     ·rw [List.getD_eq_getElem?_getD] at hj
      cases hq:acc[e.on]? with
      | none=>rw [hq] at hj;simp at hj
      | some m'=>
       rw [hq] at hj
       have hlt:e.on<acc.length:=(List.getElem?_eq_some_iff.1 hq).1
       have hle:acc.length<ops.length:=by
        rcases Nat.lt_or_ge acc.length ops.length with h' | h'
        ·exact h'
        ·rw [List.drop_eq_nil_of_le h'] at hd;cases hd
       have hoe:ops[e.on]? = some (ops[e.on]'(by omega)):=List.getElem?_eq_getElem _
       exact h e.on m' _ hq hoe (hL e.on _ hoe YX) j hj
theorem MO {cm:Oper->Oper->Bool} {b:Oper} {VW:Nat}:∀ {l:List Oper} {j0:Nat},Au cm b VW l j0=true->∀ k p,l[k]? = some p->VW.testBit (j0+k)=true\/cm p b=true
 | [],j0,h,k,p,hp=>by simp at hp
 | a :: l,j0,h,k,p,hp=>by
  simp only [Au,Bool.and_eq_true,Bool.or_eq_true] at h
  cases k with
  | zero=>simp at hp;subst hp;exact h.1
  | succ k=>
   have:=MO h.2 k p (by simpa using hp)
   rwa [show j0+1+k=j0+(k+1) by omega] at this
theorem SF {cm:Oper->Oper->Bool} {ops:List Oper}:∀ {l:List Oper} {as:List Nat} {i0:Nat},gP cm ops l as i0=true->∀ k o,l[k]? = some o->
  ∃ m,as[k]? = some m/\Au cm o m (ops.take (i0+k)) 0=true/\∀ e ∈ o.after.toList,Region.binds .any e=true->e.on<i0+k
 | [],as,i0,h,k,o,ho=>by simp at ho
 | b :: l,[],i0,h,k,o,ho=>by simp [gP] at h
 | b :: l,a :: as,i0,h,k,o,ho=>by
  simp only [gP,Bool.and_eq_true] at h
  obtain ⟨⟨h1,h2⟩,h3⟩:=h
  cases k with
  | zero=>
   simp at ho
   subst ho
   refine ⟨a,rfl,h1,fun e he hb=>?_⟩
   have:=List.all_eq_true.1 h2 e he
   simpa [hb] using this
  | succ k=>
   obtain ⟨m,hm,hp,he⟩:=SF h3 k o (by simpa using ho)
   rw [show i0+1+k=i0+(k+1) by omega] at hp he
   exact ⟨m,by simpa using hm,hp,he⟩
theorem Pw {cm:Oper->Oper->Bool} {ops:Array Oper} (hd:gP cm ops.toList ops.toList (fO ops.toList []) 0=true) {L:Nat->Prop} (hL:Closed ops.toList L) {i:Nat} {o:Oper} (ho:ops[i]? = some o) :
  (∀ e ∈ o.after.toList,Region.binds .any e=true->e.on<i) /\
   ((∀ e ∈ o.after.toList,Region.binds .any e=true->L e.on)->∀ j p,j<i->ops[j]? = some p->¬ L j->cm p o=true):=by
 have ho':ops.toList[i]? = some o:=by rw [Array.getElem?_toList];exact ho
 obtain ⟨m,hm,hp,he⟩:=SF hd i o ho'
 rw [Nat.zero_add] at hp he
 refine ⟨he,fun hr j p hj ZV hn=>?_⟩
 rcases MO hp j p (by rw [List.getElem?_take,if_pos hj,Array.getElem?_toList];exact ZV) with h | h
 ·rw [Nat.zero_add] at h
  exact (hn (OD hL ops.toList [] rfl (by intro k m o hm;simp at hm) i m o hm ho' hr j h)).elim
 ·exact h
def left (ops:Array Oper) (listed:Array Bool):List (Oper × Nat):=ops.toList.zipIdx.filter fun x=>!listed.getD x.2 false
theorem Gz {listed:Array Bool} {i:Nat} (h:i<listed.size):listed.getD i true=listed.getD i false:=by simp [h]
theorem left_at {ops:Array Oper} {listed:Array Bool} (hs:listed.size=ops.size) {i:Nat} {o:Oper} (ho:ops[i]? = some o) (hl:listed.getD i false=false) :
  ∃ pre post,left ops listed=pre++(o,i) :: post/\left ops (listed.setIfInBounds i true)=pre++post/\∀ p j,(p,j) ∈ pre->j<i/\ops[j]? = some p/\listed.getD j false=false:=by
 have hlt:i<ops.size:=(Array.getElem?_eq_some_iff.1 ho).1
 have ho':ops.toList[i]? = some o:=by rw [Array.getElem?_toList];exact ho
 have hi:i<ops.toList.length:=by simpa using hlt
 have hz:ops.toList.zipIdx=(ops.toList.take i).zipIdx++(o,i) :: (ops.toList.drop (i+1)).zipIdx (i+1):=by
  have e:ops.toList=ops.toList.take i++o :: ops.toList.drop (i+1):=by
   have:=List.take_append_drop i ops.toList
   rw [List.drop_eq_getElem_cons hi] at this
   rw [List.getElem?_eq_getElem hi] at ho'
   simp only [Option.some.injEq] at ho'
   rw [ho'] at this
   exact this.symm
  conv=>lhs;rw [e]
  rw [List.zipIdx_append,List.zipIdx_cons,List.length_take,Nat.min_eq_left (Nat.le_of_lt hi)]
  simp
 have hset:∀ j,j ≠ i->(listed.setIfInBounds i true).getD j false=listed.getD j false:=fun j hj=>getD_set_ne false (Ne.symm hj)
 have Xp:∀ p j,(p,j) ∈ (ops.toList.take i).zipIdx->j<i/\ops[j]? = some p:=fun p j hm=>by
  obtain ⟨h1,h2⟩:=List.mem_zipIdx' hm
  have h1':j<i:=by simp at h1;omega
  refine ⟨h1', ?_⟩
  rw [<- Array.getElem?_toList,h2,List.getElem_take]
  exact List.getElem?_eq_getElem _
 refine ⟨(ops.toList.take i).zipIdx.filter fun x=>!listed.getD x.2 false,((ops.toList.drop (i+1)).zipIdx (i+1)).filter fun x=>!listed.getD x.2 false, ?_, ?_,fun p j hm=>?_⟩
 ·unfold left
  rw [hz,List.filter_append,List.filter_cons]
  simp only [hl,Bool.not_false,if_true]
 ·unfold left
  rw [hz,List.filter_append,List.filter_cons]
  have:(listed.setIfInBounds i true).getD i false=true:=by simp [hs,hlt]
  simp only [this,Bool.not_true]
  rw [if_neg (by simp)]
  congr 1
  ·refine List.filter_congr fun x hx=>?_
   obtain ⟨p,j⟩:=x
   rw [hset j (by have:=(Xp p j hx).1;omega)]
  ·refine List.filter_congr fun x hx=>?_
   obtain ⟨p,j⟩:=x
   have:=List.le_snd_of_mem_zipIdx hx
   rw [hset j (by simp at this;omega)]
 ·obtain ⟨h1,h2⟩:=List.mem_filter.1 hm
  obtain ⟨h3,h4⟩:=Xp p j h1
  exact ⟨h3,h4,by simpa using h2⟩
section
variable {C:aZ} {ah:FuncId->(t:Ty)->List Arg->Option t.den}
def Uz (ops:Array Oper):Gh C ah ops:=⟨rY C ops.toList,fun _=>True,fun _=>false,(fun h=>by cases h),(fun h=>by cases h),fun _ _ _ _=>trivial,fun l _ _ _ hc h1 h2=>nS l hc h1 h2⟩
theorem any_ok (hop:∀ o,kD C ah o) {R:Type} {F0:jo} {κ:St->Option R} {r:R} {Q:Exit->Act->World->Prop} {ops:Array Oper} (W:Gh C ah ops) (hd:gP W.cm ops.toList ops.toList (fO ops.toList []) 0=true) :
  ∀ (fuel:Nat) (listed:Array Bool) {G:Nat->Prop} {s:St} {a:Act} {w:World} {pl:Nat->Option Pl},listed.size=ops.size->Closed ops.toList (fun k=>listed.getD k false=true)->(left ops listed).length<=fuel->
   Inv F0 G s a w pl->qz C w F0->((∃ x ∈ left ops listed,W.tail x.2=false)->W.I s)->(BS C ops.toList (left ops listed) s).run ah κ=some r->(∀ a' w',sS F0 G w κ r a' w'->Q .normal a' w')->wpAny C.P .any ops Q fuel listed a w:=by
 intro fuel
 induction fuel with
 | zero=>
  intro listed G s a w pl hs hL hf i ht hI h hQ
  have h0:left ops listed=[]:=List.eq_nil_of_length_eq_zero (by omega)
  refine ⟨List.eq_nil_iff_forall_not_mem.2 fun j hj=>?_, ?_⟩
  ·obtain ⟨hl,o,ho,_⟩:=mem_ready.1 hj
   have hlt:j<ops.size:=(Array.getElem?_eq_some_iff.1 ho).1
   rw [Gz (by omega)] at hl
   obtain ⟨pre,post,hp,_⟩:=left_at hs ho hl
   rw [h0] at hp
   simp at hp
  ·rw [h0] at h
   exact hQ a w ⟨s,G,pl,h,i,Fr.refl _ _ _⟩
 | succ fuel ih=>
  intro listed G s a w pl hs hL hf i ht hI h hQ
  refine ⟨fun hr=>?_,fun j hj=>?_⟩
  ·-- what is first is ready
   have h0:left ops listed=[]:=by
    cases hl:left ops listed with
    | nil=>rfl
    | cons x xs=>
     exfalso
     obtain ⟨o,j⟩:=x
     have hm:(o,j) ∈ left ops listed:=by rw [hl];simp
     obtain ⟨hm,hu⟩:=List.mem_filter.1 hm
     obtain ⟨h1,h2⟩:=List.mem_zipIdx' hm
     have ho:ops[j]? = some o:=by rw [<- Array.getElem?_toList,h2];exact List.getElem?_eq_getElem h1
     have hlt:j<ops.size:=(Array.getElem?_eq_some_iff.1 ho).1
     have hu:listed.getD j false=false:=by simpa using hu
     obtain ⟨pre,post,hp,_,hpre⟩:=left_at hs ho hu
     have hnil:pre=[]:=by
      cases pre with
      | nil=>rfl
      | cons y ys=>
       exfalso
       rw [hl] at hp
       simp only [List.cons_append,List.cons.injEq] at hp
       have:=(hpre o j (by rw [<- hp.1];simp)).1
       omega
     subst hnil
     have:j ∈ Region.ready .any ops listed:=mem_ready.2 ⟨by rw [Gz (by omega)];exact hu,o,ho,fun e he hb=>by
      have hlt':=(Pw hd hL ho).1 e (by simpa using he) hb
      cases hx:listed.getD e.on false with
      | true=>rfl
      | false=>
       exfalso
       have hoe:ops[e.on]? = some (ops[e.on]'(by omega)):=Array.getElem?_eq_getElem _
       obtain ⟨pre',post',hp',_,hpre'⟩:=left_at hs hoe hx
       rw [hl] at hp'
       cases pre' with
       | nil=>simp at hp';omega
       | cons y ys=>
        simp only [List.cons_append,List.cons.injEq] at hp'
        have:=(hpre' o j (by rw [<- hp'.1];simp)).1
        omega⟩
     rw [hr] at this
     simp at this
   rw [h0] at h
   exact hQ a w ⟨s,G,pl,h,i,Fr.refl _ _ _⟩
  ·obtain ⟨hl,o,ho,hall⟩:=mem_ready.1 hj
   have hlt:j<ops.size:=(Array.getElem?_eq_some_iff.1 ho).1
   rw [Gz (by omega)] at hl
   obtain ⟨pre,post,hp,hp',hpre⟩:=left_at hs ho hl
   rw [hp] at h
   have hcomm:=(Pw hd hL ho).2 (fun e he hb=>hall e (by simpa using he) hb)
   have hfix:W.tail j=true->∀ k,k<j->listed.getD k false=true\/(W.tail k=true/\∃ p,ops[k]? = some p/\rY C ops.toList p o=true):=fun htj k hk=>by
    rcases W.vI htj ho k hk with ⟨m,h7,h8⟩ | h7
    case inr=>exact .inr h7
    refine .inl ?_
    exact OD hL ops.toList [] rfl (by intro k m o hm;simp at hm) j m o h7 (by rw [Array.getElem?_toList];exact ho) (fun e he hb=>hall e (by simpa using he) hb) k h8
   obtain ⟨s',h1,h2,hI'⟩:∃ s',(stepT C ops.toList j o s).run ah some=some s'/\(BS C ops.toList (pre++post) s').run ah κ=some r/\((∃ x ∈ left ops (listed.setIfInBounds j true),W.tail x.2=false)->W.I s'):=by
    cases htj:W.tail j with
    | false=>
     have hI:=hI ⟨(o,j),by rw [hp];simp,htj⟩
     obtain ⟨s',h1,h2⟩:=bubble hop (C:=C) W ho ⟨F0,G,a,w,pl,i,ht⟩ hI (fun p k hm=>by
      obtain ⟨h3,h4,h5⟩:=hpre p k hm
      refine ⟨h4,hcomm k p h3 h4 (by simp [h5]), ?_⟩
      cases htk:W.tail k with
      | false=>rfl
      | true=>rw [W.xO htk (Nat.le_of_lt h3)] at htj;cases htj) h
     exact ⟨s',h1,h2,fun _=>W.go hI htj ho h1⟩
    | true=>
     obtain ⟨s',h1,h2⟩:=bubble hop (C:=C) (Uz ops) ho ⟨F0,G,a,w,pl,i,ht⟩ trivial (fun p k hm=>by
      obtain ⟨h3,h4,h5⟩:=hpre p k hm
      rcases hfix htj k h3 with h6 | ⟨_,p',h6,h7⟩
      ·rw [h5] at h6
       cases h6
      ·rw [h4] at h6
       cases h6
       exact ⟨h4,h7,rfl⟩) h
     refine ⟨s',h1,h2,fun ⟨x,hx,hxt⟩=>?_⟩
     exfalso
     obtain ⟨p,k⟩:=x
     obtain ⟨hx,hu⟩:=List.mem_filter.1 hx
     have hu:(listed.setIfInBounds j true).getD k false=false:=by simpa using hu
     rcases Nat.lt_or_ge k j with hk | hk
     ·rcases hfix htj k hk with h6 | ⟨h6,_⟩
      ·rw [getD_set_ne false (by omega),h6] at hu
       cases hu
      ·rw [h6] at hxt
       cases hxt
     ·rw [W.xO htj hk] at hxt
      cases hxt
   refine wpOp_mono (fun a' w' hn=>?_) (step_ok ho (hop o) i ht h1)
   obtain ⟨s'',G',kK,hk,i',fr⟩:=hn
   cases hk
   refine ih (listed.setIfInBounds j true) (by simp [hs]) ?_ ?_ i' (ht.fr fr) hI' (by rw [hp'];exact h2) (fun a'' w'' hn'=>hQ a'' w'' (hn'.trans fr))
   ·intro k o' ho' hk e he hb
    by_cases hkj:k=j
    ·subst hkj
     have:o'=o:=by rw [Array.getElem?_toList,ho] at ho';simpa using ho'.symm
     subst this
     exact getD_set_true (hall e (by simpa using he) hb)
    ·rw [getD_set_ne false (Ne.symm hkj)] at hk
     exact getD_set_true (hL k o' ho' hk e he hb)
   ·rw [hp']
    rw [hp] at hf
    simp only [List.length_append,List.length_cons] at hf ⊢
    omega
def Xq (ops:Array Oper) (s0:St) (hq:ops.toList.all (fun o=>aT C o || iH C o)=true):Gh C ah ops:=
 ⟨OT C ops.toList s0,fun s=>∀ t,t ∉ dstsOf ops.toList->s.env t=s0.env t,fun _=>false,(fun h=>by cases h),(fun h=>by cases h),
  fun {s s1 o j} hI _ ho h t ht=>(Jt (Array.mem_toList_iff.2 (Array.mem_of_getElem? ho)) (List.all_eq_true.1 hq o (Array.mem_toList_iff.2 (Array.mem_of_getElem? ho))) h t ht).trans (hI t ht),
  fun l hI ho _ hc h1 h2=>Oc l hI (Array.mem_toList_iff.2 (Array.mem_of_getElem? ho)) hc h1 h2⟩
theorem Ub (good:Good C) (hop:∀ o,kD C ah o):NT C ah:=by
 intro R F0 G s a w pl κ r Q ops id hd i ht h hQ
 refine wp_region_any good.mixed ?_
 have i':Inv F0 G s a { w with drawn:=w.drawn+1 } pl:=⟨i.size,i.env,i.aj,i.defers⟩
 have hall:left ops (Array.replicate ops.size false)=ops.toList.zipIdx:=by
  unfold left
  refine List.filter_eq_self.2 fun x hx=>?_
  have:(Array.replicate ops.size false).getD x.2 false=false:=by
   rw [Array.getD_eq_getD_getElem?,Array.getElem?_replicate]
   split <;> rfl
  rw [this]
  rfl
 have key:∀ (W:Gh C ah ops),gP W.cm ops.toList ops.toList (fO ops.toList []) 0=true->W.I s->wpAny C.P .any ops Q ops.size (Array.replicate ops.size false) a { w with drawn:=w.drawn+1 }:=by
  intro W hd hI
  refine any_ok hop W hd ops.size _ (by simp) ?_ (by rw [hall];simp) i' (ht.same fun _ _=>rfl) (fun _=>hI) (by rw [hall];exact h) fun a' w' hn=>hQ a' w' ?_
  ·intro k o ho hk
   exfalso
   have:(Array.replicate ops.size false).getD k false=false:=by
    rw [Array.getD_eq_getD_getElem?,Array.getElem?_replicate]
    split <;> rfl
   rw [this] at hk
   cases hk
  ·obtain ⟨s',G',kK,hk,Ur,fr⟩:=hn
   exact ⟨s',G',kK,hk,Ur,⟨fr.h,fr.more,fr.new,fr.size,⟨fr.str.1,fr.str.2.1,fr.str.2.2.1,fun h=>Nat.le_trans (Nat.le_succ _) (fr.str.2.2.2 h)⟩⟩⟩
 simp only [Bool.or_eq_true] at hd
 have hb:∀ {j:Nat} {o:Oper},tails ops.toList j=true->ops[j]? = some o->tZ ops.toList j=true:=fun {j o} htl ho=>by
  have hlt:j<ops.toList.length:=by have:=(Array.getElem?_eq_some_iff.1 ho).1;simpa using this
  have:=List.all_eq_true.1 htl j (List.mem_range.2 hlt)
  simpa using this
 have YZ:∀ {i j:Nat},tails ops.toList i=true->i<=j->tails ops.toList j=true:=fun {i j} hti hij=>by
  unfold tails at hti ⊢
  refine List.all_eq_true.2 fun k hk=>?_
  have:=List.all_eq_true.1 hti k hk
  simp only [Bool.or_eq_true,Nat.blt_eq] at this ⊢
  exact this.imp (fun h=>by omega) (fun h=>h)
 have Za:∀ {j:Nat} {o:Oper},tails ops.toList j=true->ops[j]? = some o->∀ k,k<j->∃ m,(fO ops.toList [])[j]? = some m/\m.testBit k=true:=fun {j o} htl ho k hk=>by
  have h4:=hb htl ho
  unfold tZ at h4
  simp only [Bool.and_eq_true] at h4
  cases hm:(fO ops.toList [])[j]? with
  | none=>rw [hm] at h4;cases h4.1
  | some m=>
   rw [hm] at h4
   exact ⟨m,rfl,List.all_eq_true.1 h4.1 k (List.mem_range.2 hk)⟩
 have cell:Fu C ops.toList s=true->wpAny C.P .any ops Q ops.size (Array.replicate ops.size false) a { w with drawn:=w.drawn+1 }:=fun hd=>by
  unfold Fu at hd
  simp only [Bool.and_eq_true] at hd
  obtain ⟨⟨h1,h2⟩,h3⟩:=hd
  refine key (Xo ops s (fun o ho=>by simpa using List.all_eq_true.1 h2 o ho) (tails ops.toList) YZ Za (fun j o ho htl=>?_)) h3 (Oy ops.toList s)
  have ho':ops.toList[j]? = some o:=by rw [Array.getElem?_toList];exact ho
  have hmem:(o,j) ∈ ops.toList.zipIdx:=by
   refine List.mem_of_getElem? (i:=j) ?_
   simp [List.getElem?_zipIdx,ho']
  have:=List.all_eq_true.1 h1 (o,j) hmem
  simpa only [htl,Bool.false_or,Bool.or_assoc] using this
 rcases hd with (((hd | hd) | hd) | hd) | (hd | (hd | hd))
 ·exact key (Uz ops) hd trivial
 ·unfold EK at hd
  simp only [Bool.and_eq_true] at hd
  exact key (Xq ops s hd.1) hd.2 (fun _ _=>rfl)
 ·unfold EL at hd
  simp only [Bool.and_eq_true] at hd
  obtain ⟨⟨h1,h2⟩,h3⟩:=hd
  obtain ⟨k1,k2⟩:=Qi i.live h2
  have hb:∀ {j:Nat} {o:Oper},tails ops.toList j=true->ops[j]? = some o->tZ ops.toList j=true:=fun {j o} htl ho=>by
   have hlt:j<ops.toList.length:=by have:=(Array.getElem?_eq_some_iff.1 ho).1;simpa using this
   have:=List.all_eq_true.1 htl j (List.mem_range.2 hlt)
   simpa using this
  refine key (Xe ops _ s (tails ops.toList) (fun {i j} hti hij=>?_) (fun {j o} htl ho k hk=>?_) (fun j o ho htl=>?_) (fun j o ho htl=>?_) k1) h3 k2
  ·unfold tails at hti ⊢
   refine List.all_eq_true.2 fun k hk=>?_
   have:=List.all_eq_true.1 hti k hk
   simp only [Bool.or_eq_true,Nat.blt_eq] at this ⊢
   exact this.imp (fun h=>by omega) (fun h=>h)
  ·have h4:=hb htl ho
   unfold tZ at h4
   simp only [Bool.and_eq_true] at h4
   cases hm:(fO ops.toList [])[j]? with
   | none=>rw [hm] at h4;cases h4.1
   | some m=>
    rw [hm] at h4
    exact ⟨m,rfl,List.all_eq_true.1 h4.1 k (List.mem_range.2 hk)⟩
  ·have ho':ops.toList[j]? = some o:=by rw [Array.getElem?_toList];exact ho
   have hmem:(o,j) ∈ ops.toList.zipIdx:=by
    obtain ⟨hlt,hget⟩:=List.getElem?_eq_some_iff.1 ho'
    refine List.mem_of_getElem? (i:=j) ?_
    simp [List.getElem?_zipIdx,ho']
   have:=List.all_eq_true.1 h1 (o,j) hmem
   simp only [htl,Bool.false_or] at this
   exact this
  ·have h4:=hb htl ho
   unfold tZ at h4
   simp only [Bool.and_eq_true] at h4
   have ho':ops.toList[j]? = some o:=by rw [Array.getElem?_toList];exact ho
   rw [ho'] at h4
   simp only [Bool.and_eq_true] at h4
   exact ⟨by simpa using h4.2.1,by simpa using h4.2.2⟩
 ·unfold EM at hd
  simp only [Bool.and_eq_true] at hd
  have hq:∀ o ∈ ops.toList,o.guard=none/\(aT C o || iH C o || ((iM o).isSome && iY C o) || (qp C o).isSome)=true:=fun o ho=>by
   have:=List.all_eq_true.1 hd.1 o ho
   simp only [Bool.and_eq_true] at this
   exact ⟨by simpa using this.1,this.2⟩
  exact key (Xf ops s (fun o ho=>(hq o ho).1) (fun o ho=>(hq o ho).2)) hd.2 (fun _ _ _=>rfl)
 ·unfold EN at hd
  simp only [Bool.and_eq_true] at hd
  obtain ⟨⟨h1,h2⟩,h3⟩:=hd
  refine key (Xg ops s (fun o ho=>by simpa using List.all_eq_true.1 h2 o ho) (tails ops.toList) YZ Za (fun j o ho htl=>?_)) h3 ⟨fun _ _=>rfl,fun _=>.inl rfl,fun j U cs h=>⟨cs,h⟩⟩
  have ho':ops.toList[j]? = some o:=by rw [Array.getElem?_toList];exact ho
  have hmem:(o,j) ∈ ops.toList.zipIdx:=by
   refine List.mem_of_getElem? (i:=j) ?_
   simp [List.getElem?_zipIdx,ho']
  have:=List.all_eq_true.1 h1 (o,j) hmem
  simp only [htl,Bool.false_or,Bool.and_eq_true,Bool.or_eq_true] at this
  rcases this.2 with (hq | hq) | hq
  ·exact .inl hq
  ·exact .inr (.inl hq)
  ·cases hbx:oF C o with
   | none=>rw [hbx] at hq;cases hq
   | some y=>
    obtain ⟨d,t⟩:=y
    rw [hbx] at hq
    exact .inr (.inr ⟨d,t,rfl,hq⟩)
 ·unfold Av at hd
  simp only [Bool.and_eq_true] at hd
  obtain ⟨⟨⟨h1,h2⟩,h3⟩,h4⟩:=hd
  refine key (Xk ops (VY C ops.toList s) s (fun o ho=>by simpa using List.all_eq_true.1 h2 o ho) (JU ops.toList) (fun {i j} hti hij=>?_) (fun {j o} htl ho k hk=>?_) (fun j o ho htl=>?_)) h4 (Ou h3)
  ·unfold JU at hti ⊢
   refine List.all_eq_true.2 fun k hk=>?_
   have:=List.all_eq_true.1 hti k hk
   simp only [Bool.or_eq_true,Nat.blt_eq] at this ⊢
   exact this.imp (fun h=>by omega) (fun h=>h)
  ·have hlt:j<ops.toList.length:=by have:=(Array.getElem?_eq_some_iff.1 ho).1;simpa using this
   have h5:=List.all_eq_true.1 htl j (List.mem_range.2 hlt)
   simp only [Bool.or_eq_true,Nat.blt_eq] at h5
   have h5:=h5.resolve_left (by omega)
   cases hm:(fO ops.toList [])[j]? with
   | none=>rw [hm] at h5;cases h5
   | some m=>
    rw [hm] at h5
    exact ⟨m,rfl,List.all_eq_true.1 h5 k (List.mem_range.2 hk)⟩
  ·have ho':ops.toList[j]? = some o:=by rw [Array.getElem?_toList];exact ho
   have hmem:(o,j) ∈ ops.toList.zipIdx:=by
    refine List.mem_of_getElem? (i:=j) ?_
    simp [List.getElem?_zipIdx,ho']
   have:=List.all_eq_true.1 h1 (o,j) hmem
   simpa only [htl,Bool.false_or] using this
 ·unfold Aw at hd
  simp only [Bool.or_eq_true] at hd
  rcases hd with hd | hd;rotate_left
  ·exact cell hd
  unfold Jb at hd
  simp only [Bool.and_eq_true] at hd
  obtain ⟨⟨⟨⟨h0,h1⟩,h2⟩,h3⟩,h4⟩:=hd
  refine key (Xn ops (Wh C ops.toList s (Rk C ops.toList)) s (fun o ho=>by simpa using List.all_eq_true.1 h2 o ho) (Rk C ops.toList) (fun {j o} htl ho k hk=>?_) (fun j o ho htl=>?_)) h4 ⟨⟨fun _ _=>rfl,fun _=>.inl rfl,fun j U cs h=>⟨cs,h⟩⟩,Ow h3⟩
  ·have hlt:j<ops.toList.length:=by have:=(Array.getElem?_eq_some_iff.1 ho).1;simpa using this
   have h5:=List.all_eq_true.1 h0 j (List.mem_range.2 hlt)
   simp only [Bool.or_eq_true,Nat.blt_eq] at h5
   have h5:=h5.resolve_left (by omega)
   have ho':ops.toList[j]? = some o:=by rw [Array.getElem?_toList];exact ho
   cases hm:(fO ops.toList [])[j]? with
   | none=>rw [hm] at h5;cases h5
   | some m=>
    rw [hm,ho'] at h5
    have h6:=List.all_eq_true.1 h5 k (List.mem_range.2 hk)
    simp only [Bool.or_eq_true,Bool.and_eq_true] at h6
    rcases h6 with h6 | ⟨h6,h7⟩
    ·exact .inl ⟨m,rfl,h6⟩
    ·cases hp:ops.toList[k]? with
     | none=>rw [hp] at h7;cases h7
     | some p=>
      rw [hp] at h7
      exact .inr ⟨by simpa using h6,p,by rw [<- Array.getElem?_toList];exact hp,h7⟩
  ·have ho':ops.toList[j]? = some o:=by rw [Array.getElem?_toList];exact ho
   have hmem:(o,j) ∈ ops.toList.zipIdx:=by
    refine List.mem_of_getElem? (i:=j) ?_
    simp [List.getElem?_zipIdx,ho']
   have:=List.all_eq_true.1 h1 (o,j) hmem
   simp only [Bool.or_eq_true,Nat.ble_eq] at this
   exact this.resolve_left (by omega)
end
theorem SG {C:aZ} (good:Good C) (DN:Kv C) (k:Nat):FR C (run C k):=
 (Vq good (fun ah hc=>Ub good fun o=>LZ good hc o) DN k).1
end Go.Flat
