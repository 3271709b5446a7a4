/- Slices that are written out, made, appended to, cleared. No condition. -/
import Derived.Test.YtmocpfgfjeaelaaGreatOps5
set_option linter.unusedVariables false
set_option linter.unusedSimpArgs false
namespace Go.Flat
theorem wE {s:St} {t:Ty}:∀ {parts:List (Nat × Operand)} {l l':List t.den} {ids qE:List Nat},dG s t parts l ids=some (l',qE)->∀ id ∈ ids,id ∈ qE
 | [],l,l',ids,qE,h=>by simp [dG] at h;rw [h.2];exact fun _ h=>h
 | (i,x) :: parts,l,l',ids,qE,h=>by
  simp only [dG] at h
  split at h
  ·split at h
   ·split at h
    ·intro id hid
     exact wE h id (by simp [hid])
    ·cases h
   ·cases h
  ·cases h
theorem zC {s:St} {t:Ty}:∀ {parts:List (Nat × Operand)} {l l':List t.den} {ids qE:List Nat},dG s t parts l ids=some (l',qE)->(∀ id ∈ ids,∃ u l o,s.ak id=some (.arr u l o)/\∀ n,o ≠ .pinned n)->
  ∀ id ∈ qE,∃ u l o,s.ak id=some (.arr u l o)/\∀ n,o ≠ .pinned n
 | [],l,l',ids,qE,h,hk=>by simp [dG] at h;rw [<- h.2];exact hk
 | (i,x) :: parts,l,l',ids,qE,h,hk=>by
  simp only [dG] at h
  split at h
  ·split at h
   ·rename_i y js hof
    split at h
    ·refine zC h fun id hid=>?_
     rcases List.mem_append.1 hid with hid | hid
     ·exact hk id hid
     ·exact uQ hof id hid
    ·cases h
   ·cases h
  ·cases h
theorem Gb {F0:lS} {G G':Nat->Prop} {s:St} {a:Act} {w:World} {pl:Nat->Option Pl} (i:Inv F0 G s a w pl) {t:Ty} (hG:∀ b,G b->G' b) :
  ∀ {parts:List (Nat × Operand)} {l l':List t.den} {ids qE:List Nat} {c:Array Value},dG s t parts l ids=some (l',qE)->c.size=l.length*t.sz->jy G' w.heap t l c.toList 0->
   (∀ id ∈ qE,∀ p,pl id=some p->G' p.b)->(∀ id ∈ qE,∀ t l n,s.ak id ≠ some (.deep t l n))->
   ∃ c',Instr.fill (fun i=>some (i*t.sz,t.sz)) c (parts.map fun x=>(x.1,a.eval x.2))=some c'/\c'.size=c.size/\jy G' w.heap t l' c'.toList 0/\l'.length=l.length
 | [],l,l',ids,qE,c,h,hsz,hrow,xG,hnd=>by
  simp [dG] at h
  obtain ⟨rfl,rfl⟩:=h
  exact ⟨c,rfl,rfl,hrow,rfl⟩
 | (j,x) :: parts,l,l',ids,qE,c,h,hsz,hrow,xG,hnd=>by
  simp only [dG] at h
  split at h
  ·rename_i v hs
   split at h
   ·rename_i y js hof
    split at h
    ·rename_i hcond
     obtain ⟨hk,hj⟩:=hcond
     have hx:=i.slot x
     rw [hs] at hx
     have hrel:=gT hk hx
     have hrd:Rd G' w.heap t G' y (a.eval x).cells.toList:=jC i.ak hG hG (fun hm=>by cases hm) hof hrel (fun id hid p hp=>xG id (wE h id (by simp [hid])) p hp) (fun id hid t l n p he=>absurd he (hnd id (wE h id (by simp [hid])) t l n))
     have hlen:=hrd.len
     have hmul:(j+1)*t.sz<=l.length*t.sz:=Nat.mul_le_mul_right _ hj
     rw [Nat.add_mul,Nat.one_mul] at hmul
     obtain ⟨c1,hc1,hsz1,htl⟩:=LX (j*t.sz) (a.eval x).cells.toList c (by rw [hlen];omega)
     have hset:=hrow.set hj hrd (by simp [hsz])
     rw [Nat.zero_add,<- htl] at hset
     obtain ⟨c',IV,hsz',hrow',hl'⟩:=Gb i hG (c:=c1) h (by rw [hsz1,hsz];simp) hset xG hnd
     refine ⟨c', ?_,by rw [hsz',hsz1],hrow',by rw [hl'];simp⟩
     simp only [List.map_cons,Instr.fill]
     rw [if_neg (by simp at hlen;simp [hlen];omega)]
     have:(a.eval x).cells.toList.toArray=(a.eval x).cells:=by simp
     rw [this] at hc1
     rw [hc1]
     exact IV
    ·cases h
   ·cases h
  ·cases h
theorem IY {G:Nat->Prop} {h:Array Obj} {t:Ty} {zero:Array Value} (hz:zero.toList=jR t) (n m:Nat) (hn:n<=m) :
  jy G h t (List.replicate n t.dflt) ((Array.range (m*t.sz)).map (zero[· % zero.size]!)).toList 0:=by
 have hzs:zero.size=t.sz:=by have:=congrArg List.length hz;rw [iN] at this;simpa using this
 intro i x hi
 rw [List.getElem?_replicate] at hi
 split at hi
 ·rename_i hin
  simp at hi
  subst hi
  refine ⟨jR t,Ba,fun j v hj=>?_⟩
  have hjl:j<t.sz:=by have:=(List.getElem?_eq_some_iff.1 hj).1;rwa [iN] at this
  have hmul:(i+1)*t.sz<=m*t.sz:=Nat.mul_le_mul_right _ (by omega)
  rw [Nat.add_mul,Nat.one_mul] at hmul
  have hlt:i*t.sz+j<m*t.sz:=by omega
  simp only [Nat.zero_add,Array.getElem?_toList,Array.getElem?_map,Array.getElem?_range,hlt,if_true,Option.map_some]
  have hmod:(i*t.sz+j) % zero.size=j:=by
   rw [hzs,Nat.mul_comm,Nat.mul_add_mod]
   exact Nat.mod_eq_of_lt hjl
  rw [hmod]
  have hj':j<zero.size:=by rw [hzs];exact hjl
  rw [getElem!_pos zero j hj']
  rw [<- hz] at hj
  rw [Array.getElem?_toList] at hj
  simpa [hj'] using hj
 ·cases hi
theorem Good.zeroOf {C:dh} (good:Good C) {t:TypeId} {T:Ty} (h:C.ty t=some T):∃ i z,C.P.info? t=some i/\i.zero=some z/\i.size=T.sz/\z.cells.toList=jR T:=by
 have hty:assoc C.tt t=some (some T):=by
  unfold dh.ty at h
  cases ha:assoc C.tt t with
  | none=>simp [ha] at h
  | some x=>simp [ha] at h;rw [h]
 obtain ⟨i,z,hi,hz,hok⟩:=good.zero hty
 obtain ⟨i',hi',hs⟩:=good.size h
 rw [hi] at hi'
 cases hi'
 unfold xH at hok
 rw [hi] at hok
 simp only [Option.bind_some,hz] at hok
 exact ⟨i,z,hi,hz,hs,xZ hok⟩
def IZ:Ty->List (Option Pl)
 | .list _ | .bR _=>[none]
 | .pair a b=>IZ a++IZ b
 | .bool | .int _ | .str | .unit=>[]
theorem DI {G:Nat->Prop} {h:Array Obj}:∀ {t:Ty},cZ true G h t t.dflt (jR t) (IZ t)
 | .bool=>⟨rfl,rfl⟩
 | .int _=>⟨rfl,rfl⟩
 | .str=>⟨rfl,rfl⟩
 | .unit=>⟨rfl,rfl⟩
 | .list _=>by simp only [cZ,if_true];exact ⟨_,none,rfl,rfl,⟨rfl,rfl⟩,rfl,fun p hp=>by cases hp⟩
 | .bR _=>jf.2 ⟨_,none,rfl,rfl,⟨rfl,rfl⟩,rfl⟩
 | .pair a b=>⟨_,_,_,_,rfl,rfl,DI (t:=a),DI (t:=b)⟩
def Vv (G:Nat->Prop) (h:Array Obj) (t:Ty) (l:List t.den) (inn:List (List (Option Pl))) (c:List Value) (o:Nat):Prop:=
 ∀ i x qs,l[i]? = some x->inn[i]? = some qs->∃ es,cZ true G h t x es qs/\∀ j v,es[j]? = some v->c[o+i*t.sz+j]? = some v
theorem Vv.set {G:Nat->Prop} {h:Array Obj} {t:Ty} {l:List t.den} {inn:List (List (Option Pl))} {c:List Value} {i:Nat} {x:t.den} {es:List Value} {ps:List (Option Pl)} (H:Vv G h t l inn c 0) (hi:i<l.length) (hil:i<inn.length) (hes:cZ true G h t x es ps) (hle:l.length*t.sz<=c.length) :
  Vv G h t (l.set i x) (inn.set i ps) (c.take (i*t.sz)++es++c.drop (i*t.sz+es.length)) 0:=by
 have hlen:=hes.len
 have hmul:(i+1)*t.sz<=l.length*t.sz:=Nat.mul_le_mul_right _ hi
 rw [Nat.add_mul,Nat.one_mul] at hmul
 intro k y qs hk hq
 by_cases he:k=i
 ·subst he
  rw [List.getElem?_set_self hi] at hk
  rw [List.getElem?_set_self hil] at hq
  cases hk
  cases hq
  refine ⟨es,hes,fun j v hv=>?_⟩
  have hjl:=(List.getElem?_eq_some_iff.1 hv).1
  rw [fD (by omega),if_neg (by omega),if_pos (by omega),show 0+k*t.sz+j - k*t.sz=j by omega]
  exact hv
 ·rw [List.getElem?_set_ne (fun e=>he e.symm)] at hk hq
  obtain ⟨es2,h1,h2⟩:=H k y qs hk hq
  refine ⟨es2,h1,fun j v hv=>?_⟩
  have hjl:j<t.sz:=by have:=(List.getElem?_eq_some_iff.1 hv).1;rwa [h1.len] at this
  rw [fD (by omega)]
  rcases Nat.lt_or_gt_of_ne he with h3 | h3
  ·have h4:(k+1)*t.sz<=i*t.sz:=Nat.mul_le_mul_right _ h3
   rw [Nat.add_mul,Nat.one_mul] at h4
   rw [if_pos (by omega)]
   exact h2 j v hv
  ·have h4:(i+1)*t.sz<=k*t.sz:=Nat.mul_le_mul_right _ h3
   rw [Nat.add_mul,Nat.one_mul] at h4
   rw [if_neg (by omega),if_neg (by omega)]
   exact h2 j v hv
theorem TH {G:Nat->Prop} {h:Array Obj} {t:Ty} {zero:Array Value} (hz:zero.toList=jR t) (n m:Nat) (hn:n<=m) :
  Vv G h t (List.replicate n t.dflt) (List.replicate n (IZ t)) ((Array.range (m*t.sz)).map (zero[· % zero.size]!)).toList 0:=by
 intro i x qs hi hq
 obtain ⟨hin,rfl⟩:=List.getElem?_eq_some_iff.1 hi
 obtain ⟨_,rfl⟩:=List.getElem?_eq_some_iff.1 hq
 have hzs:zero.size=t.sz:=by have:=congrArg List.length hz;rw [iN] at this;simpa using this
 have hin:i<n:=by simpa using hin
 simp only [List.getElem_replicate]
 refine ⟨jR t,DI,fun j v hj=>?_⟩
 have hjl:j<t.sz:=by have:=(List.getElem?_eq_some_iff.1 hj).1;rwa [iN] at this
 have hmul:(i+1)*t.sz<=m*t.sz:=Nat.mul_le_mul_right _ (by omega)
 rw [Nat.add_mul,Nat.one_mul] at hmul
 have hlt:i*t.sz+j<m*t.sz:=by omega
 simp only [Nat.zero_add,Array.getElem?_toList,Array.getElem?_map,Array.getElem?_range,hlt,if_true,Option.map_some]
 have hmod:(i*t.sz+j) % zero.size=j:=by
  rw [hzs,Nat.mul_comm,Nat.mul_add_mod]
  exact Nat.mod_eq_of_lt hjl
 rw [hmod]
 have hj':j<zero.size:=by rw [hzs];exact hjl
 rw [getElem!_pos zero j hj']
 rw [<- hz] at hj
 rw [Array.getElem?_toList] at hj
 simpa [hj'] using hj
section
variable {C:dh} {ah:FuncId->(t:Ty)->List Arg->Option t.den}
 {dst:Option Tmp} {type:TypeId} {pos:String} {after:Array Edge} {guard:Option (Nat × Bool)}
theorem Mc (good:Good C) {t:TypeId} {n:Nat} {parts:Array (Nat × Operand)} {e:TypeId} {u:Ty} {d:Tmp} {l:List u.den} {ids:List Nat} {F0:lS} {G:Nat->Prop} {s:St} {a:Act} {w:World} {pl:Nat->Option Pl} (he:C.elem t=some (e,u)) (hsmall:n*u.sz<=16777216) (hb:dG s u parts.toList (List.replicate n u.dflt) []=some (l,ids)) (i:Inv F0 G s a w pl) :
  ∃ G' c',Inv F0 G' { s with ak:=cO s.ak ids } a w pl/\Fr F0 G w G' w/\jy G' w.heap u l c'.toList 0/\c'.size=n*u.sz/\l.length=n /\
   (execOp a.eval ⟨some d,.buildSlice t n parts,type,pos,after,guard⟩).run C.P w=.ok (.value (.slice (some ⟨w.heap.size,0,none⟩) n n)) (push w c' e):=by
 obtain ⟨ht,hu⟩:=dh.yg he
 obtain ⟨inf,z,hi,hz,hsz,hzv⟩:=good.zeroOf hu
 have hkeep:=zC hb (fun id hid=>by simp at hid)
 obtain ⟨G',i1,Nk,hG,hnone⟩:=yQ (ids:=ids) i (fun j hj t'' l'' n'' he=>by
  obtain ⟨u,l3,o3,h1,h2⟩:=hkeep j hj
  rw [h1] at he
  cases he
  exact h2 n'' rfl)
 have aaQ:∀ id ∈ ids,∀ p,pl id=some p->G' p.b:=fun id hid p hp=>by
  obtain ⟨u,l3,o3,h1,h2⟩:=hkeep id hid
  exact hG id hid u l3 o3 h1 p hp
 have Vw:∃ c0:Array Value,(Array.range (n*inf.size)).map ((if n*inf.size=0 then #[] else z.cells)[· % (if n*inf.size=0 then #[] else z.cells).size]!)=c0/\c0.size=n*u.sz/\jy G' w.heap u (List.replicate n u.dflt) c0.toList 0:=by
  by_cases h0:n*inf.size=0
  ·refine ⟨#[],by simp [h0],by rw [<- hsz];exact h0.symm, ?_⟩
   intro j x hj
   rw [List.getElem?_replicate] at hj
   split at hj
   ·simp at hj
    subst hj
    refine ⟨jR u,Ba,fun q v hq=>?_⟩
    have:q<u.sz:=by have:=(List.getElem?_eq_some_iff.1 hq).1;rwa [iN] at this
    rw [hsz] at h0
    rcases Nat.mul_eq_zero.1 h0 with h1 | h1 <;> omega
   ·cases hj
  ·refine ⟨_,rfl,by simp [hsz], ?_⟩
   rw [hsz] at h0 ⊢
   simp only [if_neg h0]
   exact IY hzv n n (Nat.le_refl _)
 obtain ⟨c0,hc0,aaR,Vw⟩:=Vw
 obtain ⟨c',IV,hcs,hrow,hlen⟩:=Gb i (fun b hb=>Nk.more b hb) hb (by rw [aaR];simp) Vw aaQ (fun id hid t2 l2 n2 he=>by
  obtain ⟨u,l3,o3,h1,h2⟩:=hkeep id hid
  rw [he] at h1
  cases h1)
 have hll:l.length=n:=by rw [hlen];simp
 have kI:(execOp a.eval ⟨some d,.buildSlice t n parts,type,pos,after,guard⟩).run C.P w=.ok (.value (.slice (some ⟨w.heap.size,0,none⟩) n n)) (push w c' e):=by
  have hs':¬ n*inf.size > 2 ^ 24:=by rw [hsz];omega
  have hf:Instr.fill (fun i=>some (i*inf.size,inf.size)) c0 (parts.map fun (i,x)=>(i,a.eval x)).toList=some c':=by
   rw [Array.toList_map,hsz]
   exact IV
  simp only [execOp,Instr.buildSlice,Sem.run_bind,run_underlying ht,Result.andThen_ok,run_sizeOf hi,if_neg hs',Sem.run_ite,zeroValue,run_typeInfo hi,hz]
  by_cases h0:n*inf.size=0
  ·rw [if_pos h0]
   simp only [if_pos h0] at hc0
   simp only [Sem.run_pure,Result.andThen_ok,hc0,hf,Sem.run_bind,newRow,run_newObj]
   rfl
  ·rw [if_neg h0]
   simp only [if_neg h0] at hc0
   simp only [Sem.run_pure,Result.andThen_ok,hc0,hf,Sem.run_bind,newRow,run_newObj]
   rfl
 exact ⟨G',c',i1,Nk,hrow,by rw [hcs,aaR],hll,kI⟩
theorem Nl (good:Good C) {t:TypeId} {n:Nat} {parts:Array (Nat × Operand)} {e:TypeId} {u:Ty} {d:Tmp} {l:List u.den} {ids:List Nat} {R:Type} {F0:lS} {G:Nat->Prop} {s:St} {a:Act} {w:World} {pl:Nat->Option Pl} {κ:St->Option R} {r:R} {Q:Exit->Act->World->Prop} (he:C.elem t=some (e,u)) (hsmall:n*u.sz<=16777216) (hb:dG s u parts.toList (List.replicate n u.dflt) []=some (l,ids)) (i:Inv F0 G s a w pl)
  (h:(({ s with ak:=cO s.ak ids }.alloc (aI d 0) (.arr u l .open)).bind fun s=>s.put (some d) (.cell (.ref (aI d 0)))).run ah κ=some r) :
  (⟨some d,.buildSlice t n parts,type,pos,after,guard⟩:Oper).wp C.P a w (zJ F0 G w κ r) Q:=by
 rw [T.run_bind] at h
 obtain ⟨hk,h⟩:=nW h
 obtain ⟨G',c',i1,Nk,hrow,hcs,hll,kI⟩:=Mc (type:=type) (pos:=pos) (after:=after) (guard:=guard) (d:=d) good he hsmall hb i
 obtain ⟨i',fr⟩:=i1.new (key:=aI d 0) (E:=.arr u l .open) (c:=c') (e:=e) (w':=push w c' e) hk rfl (fun i'=>by
  refine ⟨⟨c',e,(0,0),Bb w c' e,Free.zero _,rfl,by rw [hll,hcs];simp, ?_⟩,fun p hp=>⟨⟨fun ho=>(by cases ho),by cases hp;rfl⟩,fun _=>(by cases hp;exact i1.Xx)⟩⟩
  have:=jy.move (G':=G') (h':=(push w c' e).heap) (fun _ h=>h) (fun b hb=>yh w c' e b (i1.ak.lt b (.inr hb))) hrow
  intro j z hj
  obtain ⟨es2,h1,h2⟩:=this j z hj
  exact ⟨es2,h1,fun q u hq=>by simpa using h2 q u hq⟩)
 refine tT (v:=.cell (.ref (aI d 0))) kI i' (Nk.trans fr) ?_ h
 refine ⟨u,l,.open,upd_same _ _ _, ?_⟩
 show SliceAt _ (upd pl _ _ _) _ _ _
 rw [upd_same,hll,hcs]
 exact zX (Nat.le_refl _)
theorem Nn (good:Good C) {t:TypeId} {n:Nat} {parts:Array (Nat × Operand)} {e:TypeId} {u:Ty} {d:Tmp} {l:List u.den} {R:Type} {F0:lS} {G:Nat->Prop} {s:St} {a:Act} {w:World} {pl:Nat->Option Pl} {κ:St->Option R} {r:R} {Q:Exit->Act->World->Prop} (he:C.elem t=some (e,u)) (hsmall:n*u.sz<=16777216) (hb:dG s u parts.toList (List.replicate n u.dflt) []=some (l,[])) (i:Inv F0 G s a w pl)
  (h:(s.put (some d) (.cell (.list true u l))).run ah κ=some r) :
  (⟨some d,.buildSlice t n parts,type,pos,after,guard⟩:Oper).wp C.P a w (zJ F0 G w κ r) Q:=by
 obtain ⟨G',c',i1,Nk,hrow,hcs,hll,kI⟩:=Mc (type:=type) (pos:=pos) (after:=after) (guard:=guard) (d:=d) good he hsmall hb i
 have i1:Inv F0 G' s a w pl:=i1
 obtain ⟨i2,fr2⟩:=i1.grow (w':=push w c' e) (G':=fun b=>G' b\/b=w.heap.size) (by show _<=(w.heap.push _).size;rw [Array.size_push];exact Nat.le_succ _) ⟨rfl,rfl,rfl,fun _=>Nat.le_refl _⟩ (fun b hb=>yh w c' e b hb) (fun _ h=>.inl h)
  (fun b hb=>hb.imp id fun hb=>by subst hb;exact ⟨Nat.le_refl _,by show _<(w.heap.push _).size;rw [Array.size_push];exact Nat.lt_succ_self _⟩)
 refine tT (v:=.cell (.list true u l)) kI i2 (Nk.trans fr2) ?_ h
 refine ⟨some ⟨w.heap.size,0,none⟩,n,by rw [hll],by rw [hll];exact Nat.le_refl _,fun _=>⟨w.heap.size,0,rfl,.inr rfl,fun j z hj=>?_⟩⟩
 obtain ⟨es,h1,h2⟩:=jy.move (G':=fun b=>G' b\/b=w.heap.size) (h':=(push w c' e).heap) (fun _ h=>.inl h) (fun b hb=>yh w c' e b (i1.ak.lt b (.inr hb))) hrow j z hj
 refine ⟨es,h1,fun q v hq=>?_⟩
 unfold hcell
 have:=h2 q v hq
 rw [show (mem F0 (fun b=>G' b\/b=w.heap.size) (push w c' e).heap s.ak pl).h[w.heap.size]? = some (.cells c' e (0,0)) from Bb w c' e]
 simpa using this
theorem KR (good:Good C) (t:TypeId) (n:Nat) (parts:Array (Nat × Operand)):mM C ah ⟨dst,.buildSlice t n parts,type,pos,after,guard⟩:=by
 intro R F0 G s a w pl κ r Q i ht h
 simp only [mK] at h
 cases hbr:C.UY dst t with
 | true=>
  rw [hbr] at h
  simp only [cond_true,EG] at h
  split at h
  ·rename_i e u d he
   split at h
   ·rename_i hsmall
    split at h
    ·rename_i l hb
     exact Nn good he hsmall hb i h
    ·simp at h
   ·simp at h
  ·simp at h
 | false=>
 rw [hbr] at h
 simp only [cond_false] at h
 split at h
 ·simp at h
 split at h
 ·rename_i e u d he
  split at h
  ·rename_i hsmall
   split at h
   ·rename_i l ids hb
    exact Nl good he hsmall hb i h
   ·simp at h
  ·simp at h
 ·simp at h
end
end Go.Flat
