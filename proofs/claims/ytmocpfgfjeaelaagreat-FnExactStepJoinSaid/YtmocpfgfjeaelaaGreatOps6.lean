/- Slices that are written out, made, appended to, cleared. No condition. -/
import Derived.Test.YtmocpfgfjeaelaaGreatOps5
set_option linter.unusedVariables false
set_option linter.unusedSimpArgs false
namespace Go.Flat
theorem rC {s:St} {t:Ty}:∀ {parts:List (Nat × Operand)} {l l':List t.den} {ids iQ:List Nat},bL s t parts l ids=some (l',iQ)->∀ id ∈ ids,id ∈ iQ
 | [],l,l',ids,iQ,h=>by simp [bL] at h;rw [h.2];exact fun _ h=>h
 | (i,x) :: parts,l,l',ids,iQ,h=>by
  simp only [bL] at h
  split at h
  ·split at h
   ·split at h
    ·intro id hid
     exact rC h id (by simp [hid])
    ·cases h
   ·cases h
  ·cases h
theorem wu {s:St} {t:Ty}:∀ {parts:List (Nat × Operand)} {l l':List t.den} {ids iQ:List Nat},bL s t parts l ids=some (l',iQ)->(∀ id ∈ ids,∃ u l o,s.aj id=some (.arr u l o)/\∀ n,o ≠ .pinned n)->
  ∀ id ∈ iQ,∃ u l o,s.aj id=some (.arr u l o)/\∀ n,o ≠ .pinned n
 | [],l,l',ids,iQ,h,hk=>by simp [bL] at h;rw [<- h.2];exact hk
 | (i,x) :: parts,l,l',ids,iQ,h,hk=>by
  simp only [bL] at h
  split at h
  ·split at h
   ·rename_i y js hof
    split at h
    ·refine wu h fun id hid=>?_
     rcases List.mem_append.1 hid with hid | hid
     ·exact hk id hid
     ·exact qA hof id hid
    ·cases h
   ·cases h
  ·cases h
theorem Dw {F0:jo} {G G':Nat->Prop} {s:St} {a:Act} {w:World} {pl:Nat->Option Pl} (i:Inv F0 G s a w pl) {t:Ty} (hG:∀ b,G b->G' b) :
  ∀ {parts:List (Nat × Operand)} {l l':List t.den} {ids iQ:List Nat} {c:Array Value},bL s t parts l ids=some (l',iQ)->c.size=l.length*t.sz->iF G' w.heap t l c.toList 0->
   (∀ id ∈ iQ,∀ p,pl id=some p->G' p.b)->(∀ id ∈ iQ,∀ t l n,s.aj id ≠ some (.deep t l n))->
   ∃ c',Instr.fill (fun i=>some (i*t.sz,t.sz)) c (parts.map fun x=>(x.1,a.eval x.2))=some c'/\c'.size=c.size/\iF G' w.heap t l' c'.toList 0/\l'.length=l.length
 | [],l,l',ids,iQ,c,h,hsz,hrow,qy,hnd=>by
  simp [bL] at h
  obtain ⟨rfl,rfl⟩:=h
  exact ⟨c,rfl,rfl,hrow,rfl⟩
 | (j,x) :: parts,l,l',ids,iQ,c,h,hsz,hrow,qy,hnd=>by
  simp only [bL] at h
  split at h
  ·rename_i v hs
   split at h
   ·rename_i y js hof
    split at h
    ·rename_i hcond
     obtain ⟨hk,hj⟩:=hcond
     have hx:=i.slot x
     rw [hs] at hx
     have hrel:=eZ hk hx
     have hrd:Rd G' w.heap t G' y (a.eval x).cells.toList:=iI i.aj hG hG (fun hm=>by cases hm) hof hrel (fun id hid p hp=>qy id (rC h id (by simp [hid])) p hp) (fun id hid t l n p he=>absurd he (hnd id (rC h id (by simp [hid])) t l n))
     have hlen:=hrd.len
     have hmul:(j+1)*t.sz<=l.length*t.sz:=Nat.mul_le_mul_right _ hj
     rw [Nat.add_mul,Nat.one_mul] at hmul
     obtain ⟨c1,hc1,hsz1,htl⟩:=Ch (j*t.sz) (a.eval x).cells.toList c (by rw [hlen];omega)
     have hset:=hrow.set hj hrd (by simp [hsz])
     rw [Nat.zero_add,<- htl] at hset
     obtain ⟨c',wX,hsz',hrow',hl'⟩:=Dw i hG (c:=c1) h (by rw [hsz1,hsz];simp) hset qy hnd
     refine ⟨c', ?_,by rw [hsz',hsz1],hrow',by rw [hl'];simp⟩
     simp only [List.map_cons,Instr.fill]
     rw [if_neg (by simp at hlen;simp [hlen];omega)]
     have:(a.eval x).cells.toList.toArray=(a.eval x).cells:=by simp
     rw [this] at hc1
     rw [hc1]
     exact wX
    ·cases h
   ·cases h
  ·cases h
theorem FC {G:Nat->Prop} {h:Array Obj} {t:Ty} {zero:Array Value} (hz:zero.toList=iN t) (n m:Nat) (hn:n<=m) :
  iF G h t (List.replicate n t.dflt) ((Array.range (m*t.sz)).map (zero[· % zero.size]!)).toList 0:=by
 have hzs:zero.size=t.sz:=by have:=congrArg List.length hz;rw [fH] at this;simpa using this
 intro i x hi
 rw [List.getElem?_replicate] at hi
 split at hi
 ·rename_i hin
  simp at hi
  subst hi
  refine ⟨iN t,yD,fun j v hj=>?_⟩
  have hjl:j<t.sz:=by have:=(List.getElem?_eq_some_iff.1 hj).1;rwa [fH] at this
  have hmul:(i+1)*t.sz<=m*t.sz:=Nat.mul_le_mul_right _ (by omega)
  rw [Nat.add_mul,Nat.one_mul] at hmul
  have hlt:i*t.sz+j<m*t.sz:=by omega
  simp only [Nat.zero_add,Array.getElem?_toList,Array.getElem?_map,Array.getElem?_range,hlt,if_true,Option.map_some]
  have hmod:(i*t.sz+j) % zero.size=j:=by
   rw [hzs,Nat.mul_comm,Nat.mul_add_mod]
   exact Nat.mod_eq_of_lt hjl
  rw [hmod]
  have hj':j<zero.size:=by rw [hzs];exact hjl
  rw [getElem!_pos zero j hj']
  rw [<- hz] at hj
  rw [Array.getElem?_toList] at hj
  simpa [hj'] using hj
 ·cases hi
theorem Good.zeroOf {C:aZ} (good:Good C) {t:TypeId} {T:Ty} (h:C.ty t=some T):∃ i z,C.P.info? t=some i/\i.zero=some z/\i.size=T.sz/\z.cells.toList=iN T:=by
 have hty:assoc C.tt t=some (some T):=by
  unfold aZ.ty at h
  cases ha:assoc C.tt t with
  | none=>simp [ha] at h
  | some x=>simp [ha] at h;rw [h]
 obtain ⟨i,z,hi,hz,hok⟩:=good.zero hty
 obtain ⟨i',hi',hs⟩:=good.size h
 rw [hi] at hi'
 cases hi'
 unfold sU at hok
 rw [hi] at hok
 simp only [Option.bind_some,hz] at hok
 exact ⟨i,z,hi,hz,hs,uh hok⟩
def jV:Ty->List (Option Pl)
 | .list _ | .aG _=>[none]
 | .pair a b=>jV a++jV b
 | .bool | .int _ | .str | .unit=>[]
theorem xk {G:Nat->Prop} {h:Array Obj}:∀ {t:Ty},aW true G h t t.dflt (iN t) (jV t)
 | .bool=>⟨rfl,rfl⟩
 | .int _=>⟨rfl,rfl⟩
 | .str=>⟨rfl,rfl⟩
 | .unit=>⟨rfl,rfl⟩
 | .list _=>by simp only [aW,if_true];exact ⟨_,none,rfl,rfl,⟨rfl,rfl⟩,rfl,fun p hp=>by cases hp⟩
 | .aG _=>fC.2 ⟨_,none,rfl,rfl,⟨rfl,rfl⟩,rfl⟩
 | .pair a b=>⟨_,_,_,_,rfl,rfl,xk (t:=a),xk (t:=b)⟩
theorem xq:∀ {t:Ty} {q:Pl},some q ∉ jV t
 | .bool,q=>by simp [jV]
 | .int _,q=>by simp [jV]
 | .str,q=>by simp [jV]
 | .unit,q=>by simp [jV]
 | .list _,q=>by simp [jV]
 | .aG _,q=>by simp [jV]
 | .pair a b,q=>by simp [jV,xq (t:=a),xq (t:=b)]
theorem vo {t:Ty} {n:Nat} {q:Pl}:some q ∉ (List.replicate n (jV t)).flatten:=by
 intro h
 obtain ⟨l,hl,hq⟩:=List.mem_flatten.1 h
 rw [(List.mem_replicate.1 hl).2] at hq
 exact xq hq
def oK (G:Nat->Prop) (h:Array Obj) (t:Ty) (l:List t.den) (inn:List (List (Option Pl))) (c:List Value) (o:Nat):Prop:=
 ∀ i x qs,l[i]? = some x->inn[i]? = some qs->∃ es,aW true G h t x es qs/\∀ j v,es[j]? = some v->c[o+i*t.sz+j]? = some v
theorem oK.set {G:Nat->Prop} {h:Array Obj} {t:Ty} {l:List t.den} {inn:List (List (Option Pl))} {c:List Value} {i:Nat} {x:t.den} {es:List Value} {ps:List (Option Pl)} (H:oK G h t l inn c 0) (hi:i<l.length) (hil:i<inn.length) (hes:aW true G h t x es ps) (hle:l.length*t.sz<=c.length) :
  oK G h t (l.set i x) (inn.set i ps) (c.take (i*t.sz)++es++c.drop (i*t.sz+es.length)) 0:=by
 have hlen:=hes.len
 have hmul:(i+1)*t.sz<=l.length*t.sz:=Nat.mul_le_mul_right _ hi
 rw [Nat.add_mul,Nat.one_mul] at hmul
 intro k y qs hk hq
 by_cases he:k=i
 ·subst he
  rw [List.getElem?_set_self hi] at hk
  rw [List.getElem?_set_self hil] at hq
  cases hk
  cases hq
  refine ⟨es,hes,fun j v hv=>?_⟩
  have hjl:=(List.getElem?_eq_some_iff.1 hv).1
  rw [bP (by omega),if_neg (by omega),if_pos (by omega),show 0+k*t.sz+j - k*t.sz=j by omega]
  exact hv
 ·rw [List.getElem?_set_ne (fun e=>he e.symm)] at hk hq
  obtain ⟨es2,h1,h2⟩:=H k y qs hk hq
  refine ⟨es2,h1,fun j v hv=>?_⟩
  have hjl:j<t.sz:=by have:=(List.getElem?_eq_some_iff.1 hv).1;rwa [h1.len] at this
  rw [bP (by omega)]
  rcases Nat.lt_or_gt_of_ne he with h3 | h3
  ·have h4:(k+1)*t.sz<=i*t.sz:=Nat.mul_le_mul_right _ h3
   rw [Nat.add_mul,Nat.one_mul] at h4
   rw [if_pos (by omega)]
   exact h2 j v hv
  ·have h4:(i+1)*t.sz<=k*t.sz:=Nat.mul_le_mul_right _ h3
   rw [Nat.add_mul,Nat.one_mul] at h4
   rw [if_neg (by omega),if_neg (by omega)]
   exact h2 j v hv
theorem wz {s:St} {t:Ty}:∀ {parts:List (Nat × Operand)} {l l':List t.den} {ids iQ:List Nat},dL s t parts l ids=some (l',iQ)->∃ k,iQ=ids++k
 | [],l,l',ids,iQ,h=>by simp [dL] at h;exact ⟨[],by simp [h.2]⟩
 | (j,x) :: parts,l,l',ids,iQ,h=>by
  simp only [dL] at h
  split at h
  ·split at h
   ·split at h
    ·obtain ⟨k,hk⟩:=wz h
     exact ⟨_,by rw [hk,List.append_assoc]⟩
    ·cases h
   ·cases h
  ·cases h
theorem oL {s:St} {t:Ty}:∀ {parts:List (Nat × Operand)} {l l':List t.den} {ids iQ:List Nat},dL s t parts l ids=some (l',iQ)->(∀ id ∈ ids,Lv s.aj .give id)->∀ id ∈ iQ,Lv s.aj .give id
 | [],l,l',ids,iQ,h,hl=>by simp [dL] at h;rw [<- h.2];exact hl
 | (j,x) :: parts,l,l',ids,iQ,h,hl=>by
  simp only [dL] at h
  split at h
  ·split at h
   ·rename_i y js hof
    split at h
    ·refine oL h fun id hid=>?_
     rcases List.mem_append.1 hid with hid | hid
     ·exact hl id hid
     ·exact ig hof id hid
    ·cases h
   ·cases h
  ·cases h
theorem AL {F0:jo} {G:Nat->Prop} {s:St} {a:Act} {w:World} {pl:Nat->Option Pl} (i:Inv F0 G s a w pl) {t:Ty} (PS:t.Ti=true) :
  ∀ {parts:List (Nat × Operand)} {l l':List t.den} {ids iQ:List Nat} {c:Array Value} {inn:List (List (Option Pl))},dL s t parts l ids=some (l',iQ)->c.size=l.length*t.sz->oK G w.heap t l inn c.toList 0->inn.length=l.length->
   (∀ q,some q ∈ inn.flatten->q.inn=[])->((inn.flatten.filterMap id).map Pl.b).Nodup->(∀ b ∈ (inn.flatten.filterMap id).map Pl.b,b ∈ (ids.filterMap pl).flatMap Pl.bs)->((iQ.filterMap pl).flatMap Pl.bs).Nodup->
   ∃ c' NK,Instr.fill (fun i=>some (i*t.sz,t.sz)) c (parts.map fun x=>(x.1,a.eval x.2))=some c'/\c'.size=c.size/\oK G w.heap t l' NK c'.toList 0/\l'.length=l.length/\NK.length=l.length /\
    (∀ q,some q ∈ NK.flatten->q.inn=[])/\((NK.flatten.filterMap id).map Pl.b).Nodup/\∀ b ∈ (NK.flatten.filterMap id).map Pl.b,b ∈ (iQ.filterMap pl).flatMap Pl.bs
 | [],l,l',ids,iQ,c,inn,h,hsz,hrow,hil,hf,hn,hin,_=>by
  simp [dL] at h
  obtain ⟨rfl,rfl⟩:=h
  exact ⟨c,inn,rfl,rfl,hrow,rfl,hil,hf,hn,hin⟩
 | (j,x) :: parts,l,l',ids,iQ,c,inn,h,hsz,hrow,hil,hf,hn,hin,hnd=>by
  simp only [dL] at h
  split at h
  ·rename_i v hs
   split at h
   ·rename_i y js hof
    split at h
    ·rename_i hcond
     obtain ⟨hk,hj⟩:=hcond
     have hx:=i.slot x
     rw [hs] at hx
     have hrel:=eZ hk hx
     obtain ⟨ps,hown,hblk⟩:=kE i.aj hof hrel
     have hfl:=hown.flat PS
     rw [jH hfl] at hblk
     have hblk:(ps.filterMap id).map Pl.b=(js.filterMap pl).flatMap Pl.bs:=hblk
     have hlen:=hown.len
     have hmul:(j+1)*t.sz<=l.length*t.sz:=Nat.mul_le_mul_right _ hj
     rw [Nat.add_mul,Nat.one_mul] at hmul
     obtain ⟨c1,hc1,hsz1,htl⟩:=Ch (j*t.sz) (a.eval x).cells.toList c (by rw [hlen];omega)
     have hset:=hrow.set hj (by omega) hown (by simp [hsz])
     rw [<- htl] at hset
     obtain ⟨k,hk'⟩:=wz h
     have RG:=hnd
     rw [hk'] at RG
     simp only [List.filterMap_append,List.flatMap_append,List.nodup_append] at RG
     obtain ⟨⟨m1,m2,m3⟩,_,_⟩:=RG
     obtain ⟨A,B,hA,hB⟩:=EP (show j<inn.length by omega) ps
     rw [hA] at hf hn hin
     simp only [List.filterMap_append,List.map_append] at hn hin
     simp only [List.nodup_append,List.mem_append] at hn
     obtain ⟨⟨n1,n2,n3⟩,n4,n5⟩:=hn
     obtain ⟨c',NK,wX,hsz',hrow',hl',hi',r1,r2,r3⟩:=AL i PS (c:=c1) (inn:=inn.set j ps) h (by rw [hsz1,hsz];simp) hset (by simpa using hil)
      (fun q hq=>by
       rw [hB] at hq
       rcases List.mem_append.1 hq with hq | hq
       ·rcases List.mem_append.1 hq with hq | hq
        ·exact hf q (by simp [hq])
        ·exact hfl q hq
       ·exact hf q (by simp [hq]))
      (by
       rw [hB]
       simp only [List.filterMap_append,List.map_append,List.nodup_append,List.mem_append]
       refine ⟨⟨n1,by rw [hblk];exact m2,fun b hb b' hb' e=>?_⟩,n4,fun b hb b' hb' e=>?_⟩
       ·subst e
        rw [hblk] at hb'
        exact m3 b (hin b (by simp only [List.mem_append];exact .inl (.inl hb))) b hb' rfl
       ·subst e
        rcases hb with hb | hb
        ·exact n5 b (.inl hb) b hb' rfl
        ·rw [hblk] at hb
         exact m3 b (hin b (by simp only [List.mem_append];exact .inr hb')) b hb rfl)
      (fun b hb=>by
       rw [hB] at hb
       simp only [List.filterMap_append,List.map_append,List.mem_append,List.flatMap_append] at hb ⊢
       rcases hb with (hb | hb) | hb
       ·exact .inl (hin b (by simp only [List.mem_append];exact .inl (.inl hb)))
       ·exact .inr (by rw [<- hblk];exact hb)
       ·exact .inl (hin b (by simp only [List.mem_append];exact .inr hb))) hnd
     refine ⟨c',NK, ?_,by rw [hsz',hsz1],hrow',by rw [hl'];simp,by rw [hi'];simp,r1,r2,r3⟩
     simp only [List.map_cons,Instr.fill]
     rw [if_neg (by simp at hlen;simp [hlen];omega)]
     have:(a.eval x).cells.toList.toArray=(a.eval x).cells:=by simp
     rw [this] at hc1
     rw [hc1]
     exact wX
    ·cases h
   ·cases h
  ·cases h
theorem Jh {G:Nat->Prop} {h:Array Obj} {t:Ty} {zero:Array Value} (hz:zero.toList=iN t) (n m:Nat) (hn:n<=m) :
  oK G h t (List.replicate n t.dflt) (List.replicate n (jV t)) ((Array.range (m*t.sz)).map (zero[· % zero.size]!)).toList 0:=by
 intro i x qs hi hq
 obtain ⟨hin,rfl⟩:=List.getElem?_eq_some_iff.1 hi
 obtain ⟨_,rfl⟩:=List.getElem?_eq_some_iff.1 hq
 have hzs:zero.size=t.sz:=by have:=congrArg List.length hz;rw [fH] at this;simpa using this
 have hin:i<n:=by simpa using hin
 simp only [List.getElem_replicate]
 refine ⟨iN t,xk,fun j v hj=>?_⟩
 have hjl:j<t.sz:=by have:=(List.getElem?_eq_some_iff.1 hj).1;rwa [fH] at this
 have hmul:(i+1)*t.sz<=m*t.sz:=Nat.mul_le_mul_right _ (by omega)
 rw [Nat.add_mul,Nat.one_mul] at hmul
 have hlt:i*t.sz+j<m*t.sz:=by omega
 simp only [Nat.zero_add,Array.getElem?_toList,Array.getElem?_map,Array.getElem?_range,hlt,if_true,Option.map_some]
 have hmod:(i*t.sz+j) % zero.size=j:=by
  rw [hzs,Nat.mul_comm,Nat.mul_add_mod]
  exact Nat.mod_eq_of_lt hjl
 rw [hmod]
 have hj':j<zero.size:=by rw [hzs];exact hjl
 rw [getElem!_pos zero j hj']
 rw [<- hz] at hj
 rw [Array.getElem?_toList] at hj
 simpa [hj'] using hj
section
variable {C:aZ} {ah:FuncId->(t:Ty)->List Arg->Option t.den}
 {dst:Option Tmp} {type:TypeId} {pos:String} {after:Array Edge} {guard:Option (Nat × Bool)}
theorem Kh (good:Good C) {t e:TypeId} {u:Ty} (he:C.elem t=some (e,u)) {n:Nat} {parts:Array (Nat × Operand)} {R:Type} {F0:jo} {G:Nat->Prop} {s:St} {a:Act} {w:World} {pl:Nat->Option Pl} {κ:St->Option R} {r:R} {Q:Exit->Act->World->Prop}
  (i:Inv F0 G s a w pl) (h:(qU s u dst n parts.toList).run ah κ=some r):(⟨dst,.buildSlice t n parts,type,pos,after,guard⟩:Oper).wp C.P a w (sS F0 G w κ r) Q:=by
 unfold qU at h
 split at h
 ·rename_i d
  split at h
  ·rename_i hsm
   obtain ⟨hsmall,PS⟩:=hsm
   split at h
   ·rename_i l ids hb
    cases hbb:(nodup ids && nodup (parts.toList.map (·.1))) with
    | false=>rw [hbb] at h;simp at h
    | true=>
     rw [hbb] at h
     simp only [Bool.and_eq_true] at hbb
     simp only [cond_true] at h
     rw [T.run_bind] at h
     obtain ⟨hk,h⟩:=jr h
     obtain ⟨ht,hu⟩:=aZ.qW he
     obtain ⟨inf,z,hi,hz,hsz,hzv⟩:=good.zeroOf hu
     have hnd:=iR hbb.1
     have hlive:=oL hb (fun id hid=>by simp at hid)
     obtain ⟨i1,old,_⟩:=i.aJ hnd (fun j hj=>(hlive j hj).wo)
     have RF:=jP i.aj hnd hlive
     have FD:∃ c0:Array Value,(Array.range (n*inf.size)).map ((if n*inf.size=0 then #[] else z.cells)[· % (if n*inf.size=0 then #[] else z.cells).size]!)=c0/\c0.size=n*u.sz/\oK G w.heap u (List.replicate n u.dflt) (List.replicate n (jV u)) c0.toList 0:=by
      by_cases h0:n*inf.size=0
      ·refine ⟨#[],by simp [h0],by rw [<- hsz];exact h0.symm, ?_⟩
       intro j x qs hj hq
       obtain ⟨hin,rfl⟩:=List.getElem?_eq_some_iff.1 hj
       obtain ⟨_,rfl⟩:=List.getElem?_eq_some_iff.1 hq
       simp only [List.getElem_replicate]
       refine ⟨iN u,xk,fun q v hq=>?_⟩
       have:q<u.sz:=by have:=(List.getElem?_eq_some_iff.1 hq).1;rwa [fH] at this
       rw [hsz] at h0
       have hin:j<n:=by simpa using hin
       rcases Nat.mul_eq_zero.1 h0 with h1 | h1 <;> omega
      ·refine ⟨_,rfl,by simp [hsz], ?_⟩
       rw [hsz] at h0 ⊢
       simp only [if_neg h0]
       exact Jh hzv n n (Nat.le_refl _)
     obtain ⟨c0,hc0,PU,FD⟩:=FD
     have hz0:((List.replicate n (jV u)).flatten.filterMap id).map Pl.b=[]:=by
      have:(List.replicate n (jV u)).flatten.filterMap id=[]:=by
       rw [List.filterMap_eq_nil_iff]
       intro q hq
       cases q with
       | none=>rfl
       | some q=>exact absurd hq vo
      rw [this];rfl
     obtain ⟨c',inn,wX,hcs,hrow,hlen,hil,hfl,hnd',hin⟩:=AL i PS (inn:=List.replicate n (jV u)) hb (by rw [PU];simp) FD (by simp) (fun q hq=>absurd hq vo) (by rw [hz0];exact List.nodup_nil) (by rw [hz0];simp) RF
     have hll:l.length=n:=by rw [hlen];simp
     have hil:inn.length=n:=by rw [hil];simp
     have NI:∀ b ∈ (⟨w.heap.size,0,c'.size,inn⟩:Pl).tT,∃ j ∈ ids,∃ ej q,s.aj j=some ej/\pl j=some q/\b ∈ ej.bs q/\¬ (F0 b\/G b):=by
      intro b hb2
      obtain ⟨q,hq,Nj⟩:=List.mem_flatMap.1 (hin b hb2)
      obtain ⟨j,hj,hjq⟩:=List.mem_filterMap.1 hq
      obtain ⟨ej,h1,h2,_,h4⟩:=(hlive j hj).bs i.aj hjq
      exact ⟨j,hj,ej,q,h1,hjq,by rw [h2];exact Nj,h4 rfl b Nj⟩
     have gq:(execOp a.eval ⟨some d,.buildSlice t n parts,type,pos,after,guard⟩).run C.P w=.ok (.value (.slice (some ⟨w.heap.size,0,none⟩) n n)) (push w c' e):=by
      have hs':¬ n*inf.size > 2 ^ 24:=by rw [hsz];omega
      have hf:Instr.fill (fun i=>some (i*inf.size,inf.size)) c0 (parts.map fun (i,x)=>(i,a.eval x)).toList=some c':=by
       rw [Array.toList_map,hsz]
       exact wX
      simp only [execOp,Instr.buildSlice,Sem.run_bind,run_underlying ht,Result.andThen_ok,run_sizeOf hi,if_neg hs',Sem.run_ite,zeroValue,run_typeInfo hi,hz]
      by_cases h0:n*inf.size=0
      ·rw [if_pos h0]
       simp only [if_pos h0] at hc0
       simp only [Sem.run_pure,Result.andThen_ok,hc0,hf,Sem.run_bind,newRow,run_newObj]
       rfl
      ·rw [if_neg h0]
       simp only [if_neg h0] at hc0
       simp only [Sem.run_pure,Result.andThen_ok,hc0,hf,Sem.run_bind,newRow,run_newObj]
       rfl
     have Ki:∀ b ∈ (⟨w.heap.size,0,c'.size,inn⟩:Pl).tT,b<w.heap.size:=fun b hb2=>by
      obtain ⟨j,hj,ej,q,h1,h2,h3,_⟩:=NI b hb2
      exact i.aj.jY h1 h2 b h3
     obtain ⟨i',fr⟩:=i1.UR (key:=ak d 0) (E:=.deep u l none) (c:=c') (e:=e) (w':=push w c' e) inn hk rfl (fun id2 e2 p2 he2 hp2 b hb2 hb3=>by
      obtain ⟨hjn,e',h2,h3⟩:=old id2 e2 he2
      obtain ⟨j,hj,ej,q,m1,m2,m3,_⟩:=NI b hb3
      exact i.aj.apart' id2 j e' ej p2 q h2 m1 (fun e=>hjn (e ▸ hj)) hp2 m2 b (by rw [<- h3];exact hb2) m3) (fun i'=>by
      refine ⟨⟨c',e,(0,0),qL w c' e,Free.zero _,rfl,by rw [hll,hcs,PU];simp,by rw [hll];exact hil, ?_,hfl, ?_⟩,fun p hp=>?_⟩
      ·refine List.nodup_cons.2 ⟨fun hm=>Nat.lt_irrefl _ (Ki _ hm),hnd'⟩
      ·intro j x qs hj hq
       obtain ⟨es2,h1,h2⟩:=hrow j x qs hj hq
       refine ⟨es2,aW.move (fun _ h=>h) (fun b hb2=>nZ w c' e b (i.aj.lt b (.inr hb2))) (fun b hb2=>nZ w c' e b (Ki b ?_)) h1,fun q u hq=>by simpa using h2 q u hq⟩
       have hm:qs ∈ inn:=List.mem_of_getElem? hq
       rw [jH (fun q hq'=>hfl q (List.mem_flatten.2 ⟨qs,hm,hq'⟩))] at hb2
       obtain ⟨q,hq',rfl⟩:=List.mem_map.1 hb2
       simp only [List.mem_filterMap,id] at hq'
       obtain ⟨_,hq',rfl⟩:=hq'
       exact Pl.sj (p:=⟨w.heap.size,0,c'.size,inn⟩) hm hq'
      ·cases hp
       refine ⟨fun b hb2=>?_,fun k hk=>by cases hk⟩
       simp only [Pl.bs,List.mem_cons] at hb2
       rcases hb2 with rfl | hb2
       ·exact ⟨by show _<(w.heap.push _).size;rw [Array.size_push];exact Nat.lt_succ_self _,i.PN⟩
       ·obtain ⟨j,hj,ej,q,h1,h2,h3,h4⟩:=NI b hb2
        exact ⟨by show _<(w.heap.push _).size;rw [Array.size_push];exact Nat.lt_succ_of_lt (Ki b hb2),h4⟩)
     refine lG (v:=.cell (.fE (ak d 0))) gq i' fr ?_ h
     refine ⟨u,l,none,upd_same _ _ _, ?_⟩
     show SliceAt _ (upd pl _ _ _) _ _ _
     rw [upd_same,hll,hcs,PU]
     exact nP (Nat.le_refl _)
   ·simp at h
  ·simp at h
 ·simp at h
theorem Ji (good:Good C) {t:TypeId} {n:Nat} {parts:Array (Nat × Operand)} {e:TypeId} {u:Ty} {d:Tmp} {l:List u.den} {ids:List Nat} {F0:jo} {G:Nat->Prop} {s:St} {a:Act} {w:World} {pl:Nat->Option Pl} (he:C.elem t=some (e,u)) (hsmall:n*u.sz<=16777216) (hb:bL s u parts.toList (List.replicate n u.dflt) []=some (l,ids)) (i:Inv F0 G s a w pl) :
  ∃ G' c',Inv F0 G' { s with aj:=bB s.aj ids } a w pl/\Fr F0 G w G' w/\iF G' w.heap u l c'.toList 0/\c'.size=n*u.sz/\l.length=n /\
   (execOp a.eval ⟨some d,.buildSlice t n parts,type,pos,after,guard⟩).run C.P w=.ok (.value (.slice (some ⟨w.heap.size,0,none⟩) n n)) (push w c' e):=by
 obtain ⟨ht,hu⟩:=aZ.qW he
 obtain ⟨inf,z,hi,hz,hsz,hzv⟩:=good.zeroOf hu
 have hkeep:=wu hb (fun id hid=>by simp at hid)
 obtain ⟨G',i1,Kg,hG,hnone⟩:=uZ (ids:=ids) i (fun j hj t'' l'' n'' he=>by
  obtain ⟨u,l3,o3,h1,h2⟩:=hkeep j hj
  rw [h1] at he
  cases he
  exact h2 n'' rfl)
 have Ww:∀ id ∈ ids,∀ p,pl id=some p->G' p.b:=fun id hid p hp=>by
  obtain ⟨u,l3,o3,h1,h2⟩:=hkeep id hid
  exact hG id hid u l3 o3 h1 p hp
 have FD:∃ c0:Array Value,(Array.range (n*inf.size)).map ((if n*inf.size=0 then #[] else z.cells)[· % (if n*inf.size=0 then #[] else z.cells).size]!)=c0/\c0.size=n*u.sz/\iF G' w.heap u (List.replicate n u.dflt) c0.toList 0:=by
  by_cases h0:n*inf.size=0
  ·refine ⟨#[],by simp [h0],by rw [<- hsz];exact h0.symm, ?_⟩
   intro j x hj
   rw [List.getElem?_replicate] at hj
   split at hj
   ·simp at hj
    subst hj
    refine ⟨iN u,yD,fun q v hq=>?_⟩
    have:q<u.sz:=by have:=(List.getElem?_eq_some_iff.1 hq).1;rwa [fH] at this
    rw [hsz] at h0
    rcases Nat.mul_eq_zero.1 h0 with h1 | h1 <;> omega
   ·cases hj
  ·refine ⟨_,rfl,by simp [hsz], ?_⟩
   rw [hsz] at h0 ⊢
   simp only [if_neg h0]
   exact FC hzv n n (Nat.le_refl _)
 obtain ⟨c0,hc0,PU,FD⟩:=FD
 obtain ⟨c',wX,hcs,hrow,hlen⟩:=Dw i (fun b hb=>Kg.more b hb) hb (by rw [PU];simp) FD Ww (fun id hid t2 l2 n2 he=>by
  obtain ⟨u,l3,o3,h1,h2⟩:=hkeep id hid
  rw [he] at h1
  cases h1)
 have hll:l.length=n:=by rw [hlen];simp
 have gq:(execOp a.eval ⟨some d,.buildSlice t n parts,type,pos,after,guard⟩).run C.P w=.ok (.value (.slice (some ⟨w.heap.size,0,none⟩) n n)) (push w c' e):=by
  have hs':¬ n*inf.size > 2 ^ 24:=by rw [hsz];omega
  have hf:Instr.fill (fun i=>some (i*inf.size,inf.size)) c0 (parts.map fun (i,x)=>(i,a.eval x)).toList=some c':=by
   rw [Array.toList_map,hsz]
   exact wX
  simp only [execOp,Instr.buildSlice,Sem.run_bind,run_underlying ht,Result.andThen_ok,run_sizeOf hi,if_neg hs',Sem.run_ite,zeroValue,run_typeInfo hi,hz]
  by_cases h0:n*inf.size=0
  ·rw [if_pos h0]
   simp only [if_pos h0] at hc0
   simp only [Sem.run_pure,Result.andThen_ok,hc0,hf,Sem.run_bind,newRow,run_newObj]
   rfl
  ·rw [if_neg h0]
   simp only [if_neg h0] at hc0
   simp only [Sem.run_pure,Result.andThen_ok,hc0,hf,Sem.run_bind,newRow,run_newObj]
   rfl
 exact ⟨G',c',i1,Kg,hrow,by rw [hcs,PU],hll,gq⟩
theorem Kj (good:Good C) {t:TypeId} {n:Nat} {parts:Array (Nat × Operand)} {e:TypeId} {u:Ty} {d:Tmp} {l:List u.den} {ids:List Nat} {R:Type} {F0:jo} {G:Nat->Prop} {s:St} {a:Act} {w:World} {pl:Nat->Option Pl} {κ:St->Option R} {r:R} {Q:Exit->Act->World->Prop} (he:C.elem t=some (e,u)) (hsmall:n*u.sz<=16777216) (hb:bL s u parts.toList (List.replicate n u.dflt) []=some (l,ids)) (i:Inv F0 G s a w pl)
  (h:(({ s with aj:=bB s.aj ids }.alloc (ak d 0) (.arr u l .open)).bind fun s=>s.put (some d) (.cell (.ref (ak d 0)))).run ah κ=some r) :
  (⟨some d,.buildSlice t n parts,type,pos,after,guard⟩:Oper).wp C.P a w (sS F0 G w κ r) Q:=by
 rw [T.run_bind] at h
 obtain ⟨hk,h⟩:=jr h
 obtain ⟨G',c',i1,Kg,hrow,hcs,hll,gq⟩:=Ji (type:=type) (pos:=pos) (after:=after) (guard:=guard) (d:=d) good he hsmall hb i
 obtain ⟨i',fr⟩:=i1.new (key:=ak d 0) (E:=.arr u l .open) (c:=c') (e:=e) (w':=push w c' e) hk rfl (fun i'=>by
  refine ⟨⟨c',e,(0,0),qL w c' e,Free.zero _,rfl,by rw [hll,hcs];simp, ?_⟩,fun p hp=>⟨⟨fun ho=>(by cases ho),by cases hp;rfl⟩,fun _=>(by cases hp;exact i1.PN)⟩⟩
  have:=iF.move (G':=G') (h':=(push w c' e).heap) (fun _ h=>h) (fun b hb=>nZ w c' e b (i1.aj.lt b (.inr hb))) hrow
  intro j z hj
  obtain ⟨es2,h1,h2⟩:=this j z hj
  exact ⟨es2,h1,fun q u hq=>by simpa using h2 q u hq⟩)
 refine lG (v:=.cell (.ref (ak d 0))) gq i' (Kg.trans fr) ?_ h
 refine ⟨u,l,.open,upd_same _ _ _, ?_⟩
 show SliceAt _ (upd pl _ _ _) _ _ _
 rw [upd_same,hll,hcs]
 exact nP (Nat.le_refl _)
theorem Kk (good:Good C) {t:TypeId} {n:Nat} {parts:Array (Nat × Operand)} {e:TypeId} {u:Ty} {d:Tmp} {l:List u.den} {R:Type} {F0:jo} {G:Nat->Prop} {s:St} {a:Act} {w:World} {pl:Nat->Option Pl} {κ:St->Option R} {r:R} {Q:Exit->Act->World->Prop} (he:C.elem t=some (e,u)) (hsmall:n*u.sz<=16777216) (hb:bL s u parts.toList (List.replicate n u.dflt) []=some (l,[])) (i:Inv F0 G s a w pl)
  (h:(s.put (some d) (.cell (.list true u l))).run ah κ=some r) :
  (⟨some d,.buildSlice t n parts,type,pos,after,guard⟩:Oper).wp C.P a w (sS F0 G w κ r) Q:=by
 obtain ⟨G',c',i1,Kg,hrow,hcs,hll,gq⟩:=Ji (type:=type) (pos:=pos) (after:=after) (guard:=guard) (d:=d) good he hsmall hb i
 have i1:Inv F0 G' s a w pl:=i1
 obtain ⟨i2,Zp⟩:=i1.grow (w':=push w c' e) (G':=fun b=>G' b\/b=w.heap.size) (by show _<=(w.heap.push _).size;rw [Array.size_push];exact Nat.le_succ _) ⟨rfl,rfl,rfl,fun _=>Nat.le_refl _⟩ (fun b hb=>nZ w c' e b hb) (fun _ h=>.inl h)
  (fun b hb=>hb.imp id fun hb=>by subst hb;exact ⟨Nat.le_refl _,by show _<(w.heap.push _).size;rw [Array.size_push];exact Nat.lt_succ_self _⟩)
 refine lG (v:=.cell (.list true u l)) gq i2 (Kg.trans Zp) ?_ h
 refine ⟨some ⟨w.heap.size,0,none⟩,n,by rw [hll],by rw [hll];exact Nat.le_refl _,fun _=>⟨w.heap.size,0,rfl,.inr rfl,fun j z hj=>?_⟩⟩
 obtain ⟨es,h1,h2⟩:=iF.move (G':=fun b=>G' b\/b=w.heap.size) (h':=(push w c' e).heap) (fun _ h=>.inl h) (fun b hb=>nZ w c' e b (i1.aj.lt b (.inr hb))) hrow j z hj
 refine ⟨es,h1,fun q v hq=>?_⟩
 unfold hcell
 have:=h2 q v hq
 rw [show (mem F0 (fun b=>G' b\/b=w.heap.size) (push w c' e).heap s.aj pl).h[w.heap.size]? = some (.cells c' e (0,0)) from qL w c' e]
 simpa using this
theorem Ie (good:Good C) (t:TypeId) (n:Nat) (parts:Array (Nat × Operand)):kD C ah ⟨dst,.buildSlice t n parts,type,pos,after,guard⟩:=by
 intro R F0 G s a w pl κ r Q i ht h
 simp only [jT] at h
 cases hbr:C.Lf dst t with
 | true=>
  rw [hbr] at h
  simp only [cond_true,BR] at h
  split at h
  ·rename_i e u d he
   split at h
   ·rename_i hsmall
    split at h
    ·rename_i l hb
     exact Kk good he hsmall hb i h
    ·simp at h
   ·simp at h
  ·simp at h
 | false=>
 rw [hbr] at h
 simp only [cond_false] at h
 split at h
 ·split at h
  ·rename_i e u he
   exact Kh good he i h
  ·simp at h
 split at h
 ·rename_i e u d he
  split at h
  ·rename_i hsmall
   split at h
   ·rename_i l ids hb
    exact Kj good he hsmall hb i h
   ·simp at h
  ·simp at h
 ·simp at h
end
end Go.Flat
