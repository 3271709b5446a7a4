/- Stores; slices that are made. No condition. -/
import Derived.Test.YtmocpfgfjeaelaaGreatDeep2
import Derived.Deep.AppendSrc
import Derived.Deep.Upon
set_option linter.unusedVariables false
set_option linter.unusedSimpArgs false
namespace Go.Flat
theorem IX (v:Value):v.oneCell'=one v:=by cases v <;> rfl
theorem rG (b:Nat) (e:TypeId) (fz:Nat × Nat):∀ (vs:List Value) (o:Nat) (cur:Array Value) (w:World),w.heap[b]? = some (.cells cur e fz)->o+vs.length<=cur.size->
  w.setCells b o vs=w.setRow b (cur.toList.take o++vs++cur.toList.drop (o+vs.length)).toArray
 | [],o,cur,w,hg,_=>by
  simp only [World.setCells,List.append_nil,List.length_nil,Nat.add_zero,List.take_append_drop,Array.toArray_toList]
  rw [setRow_self w b cur e fz hg]
 | v :: rest,o,cur,w,hg,hl=>by
  have hi:o<cur.size:=by simp at hl;omega
  simp only [World.setCells]
  rw [setCell_eq_setRow w b o cur e fz v hg]
  have ih:=rG b e fz rest (o+1) (cur.setIfInBounds o v) (w.setRow b (cur.setIfInBounds o v)) (setRow_heap w b cur _ e _ hg) (by simp at hl ⊢;omega)
  rw [ih,setRow_setRow]
  congr 2
  have e:=list_seg_step cur.toList o v rest (by simp at hl ⊢;omega)
  simpa [Array.toList_setIfInBounds,Nat.add_assoc] using e
theorem zY {w:World} {b o:Nat} {cur:Array Value} {e:TypeId} {fz:Nat × Nat} {vs:List Value} (hg:w.heap[b]? = some (.cells cur e fz)) (hl:o+vs.length<=cur.size) :
  ∀ j,j<vs.length->(w.cell? ⟨b,o+j,none⟩).isSome=true:=by
 intro j hj
 have:o+j<cur.size:=by omega
 simp [World.cell?,hg,this]
theorem Cu {w:World} {b o:Nat} {cur:Array Value} {e:TypeId} {fz:Nat × Nat} {vs:List Value} (hg:w.heap[b]? = some (.cells cur e fz)) (hf:Free fz cur.size) (hl:o+vs.length<=cur.size) :
  ∀ j,j<vs.length->w.frozen? ⟨b,o+j,none⟩=false:=by
 intro j hj
 have h:=hf (o+j) (by omega)
 unfold World.frozen?
 rw [hg]
 simp
 intro h1
 exact Nat.le_of_not_lt fun h2=>h ⟨h1,h2⟩
theorem OE {C:dh} (good:Good C) {t:TypeId} {n:Nat} {agg:Bool} (hs:C.shape t=some (n,agg)) {w:World} {b o:Nat} {cur:Array Value} {e:TypeId} {fz:Nat × Nat} {v:Value}
  (hg:w.heap[b]? = some (.cells cur e fz)) (hf:Free fz cur.size) (hn:v.cells.toList.length=n) (hle:o+n<=cur.size) (h1:∀ u ∈ v.cells.toList,one u=true) :
  (Instr.storeAt t (.pointer (some ⟨b,o,none⟩)) v).run C.P w=.ok () (w.setRow b (cur.toList.take o++v.cells.toList++cur.toList.drop (o+n)).toArray):=by
 obtain ⟨i,d,hi,hsz,hd,hagg⟩:=good.shape hs
 have hst:=run_storeCells_cells (P:=C.P) b o v.cells.toList 0 w (fun j hj=>by rw [Nat.add_zero];exact zY hg (by rw [hn];exact hle) j hj) (fun j hj=>by rw [Nat.add_zero];exact Cu hg hf (by rw [hn];exact hle) j hj) (fun u hu=>by rw [IX];exact h1 u hu)
 simp only [Nat.add_zero] at hst
 rw [rG b e fz _ o cur w hg (by rw [hn];exact hle),hn] at hst
 have hns:¬ v.cells.size ≠ i.size:=by simp [hsz,<- hn]
 simp only [Instr.storeAt,Instr.sureAddr,Sem.run_bind,Sem.run_pure,Result.andThen_ok,storeVar,run_sizeOf hi,if_neg hns]
 exact hst
def jy (G:Nat->Prop) (h:Array Obj) (t:Ty) (l:List t.den) (c:List Value) (o:Nat):Prop:=
 ∀ i x,l[i]? = some x->∃ es,Rd G h t G x es/\∀ j v,es[j]? = some v->c[o+i*t.sz+j]? = some v
theorem jy.move {G G':Nat->Prop} {h h':Array Obj} {t:Ty} {l:List t.den} {c:List Value} {o:Nat} (hG:∀ b,G b->G' b) (hs:∀ b,G b->h'[b]? = h[b]?) (H:jy G h t l c o):jy G' h' t l c o:=by
 intro i x hi
 obtain ⟨es,hes,hj⟩:=H i x hi
 exact ⟨es,Rd.move hG hs hG hs hes,hj⟩
theorem fD {α:Type} {l vs:List α} {off:Nat} (h:off+vs.length<=l.length) (k:Nat) :
  (l.take off++vs++l.drop (off+vs.length))[k]? = if k<off then l[k]? else if k<off+vs.length then vs[k - off]? else l[k]?:=by
 by_cases h1:k<off
 ·rw [if_pos h1,List.append_assoc,List.getElem?_append_left (by simp;omega),List.getElem?_take,if_pos h1]
 ·rw [if_neg h1]
  by_cases h2:k<off+vs.length
  ·rw [if_pos h2,List.append_assoc,List.getElem?_append_right (by simp;omega),List.getElem?_append_left (by simp;omega)]
   congr 1;simp;omega
  ·rw [if_neg h2,List.getElem?_append_right (by simp;omega),List.getElem?_drop]
   congr 1;simp;omega
theorem jy.set {G:Nat->Prop} {h:Array Obj} {t:Ty} {l:List t.den} {c:List Value} {o i:Nat} {x:t.den} {es:List Value} (H:jy G h t l c o) (hi:i<l.length) (hes:Rd G h t G x es)
  (hc:o+l.length*t.sz<=c.length):jy G h t (l.set i x) (c.take (o+i*t.sz)++es++c.drop (o+i*t.sz+es.length)) o:=by
 have hlen:=hes.len
 have hle:(i+1)*t.sz<=l.length*t.sz:=Nat.mul_le_mul_right _ hi
 rw [Nat.add_mul,Nat.one_mul] at hle
 intro j y hj
 rw [List.getElem?_set] at hj
 split at hj
 ·rename_i hij
  subst hij
  simp [hi] at hj
  subst hj
  refine ⟨es,hes,fun q v hq=>?_⟩
  have hql:q<es.length:=(List.getElem?_eq_some_iff.1 hq).1
  rw [fD (by omega),if_neg (by omega),if_pos (by omega)]
  rw [show o+i*t.sz+q - (o+i*t.sz)=q by omega]
  exact hq
 ·rename_i hij
  obtain ⟨es',hes',hq⟩:=H j y hj
  refine ⟨es',hes',fun q v hv=>?_⟩
  have hql:q<es'.length:=(List.getElem?_eq_some_iff.1 hv).1
  rw [hes'.len] at hql
  rw [fD (by omega)]
  rcases Nat.lt_or_gt_of_ne hij with h1 | h1
  ·have:=Nat.mul_le_mul_right t.sz (show i+1<=j from h1)
   rw [Nat.add_mul,Nat.one_mul] at this
   rw [if_neg (by omega),if_neg (by omega)]
   exact hq q v hv
  ·have:=Nat.mul_le_mul_right t.sz (show j+1<=i from h1)
   rw [Nat.add_mul,Nat.one_mul] at this
   rw [if_pos (by omega)]
   exact hq q v hv
theorem oM {k:Nat}:∀ {ids:List Nat} {σ:Nat->Option Entry},k ∉ ids->cO σ ids k=σ k
 | [],σ,_=>rfl
 | id :: ids,σ,h=>by
  have h1:k ≠ id:=fun e=>h (by simp [e])
  have h2:k ∉ ids:=fun e=>h (by simp [e])
  cases hs:σ id with
  | none=>simp only [cO,hs];exact oM h2
  | some e=>
   cases e with
   | box _ _=>simp only [cO,hs];exact oM h2
   | deep _ _ _=>simp only [cO,hs];exact oM h2
   | arr t l o=>simp only [cO,hs];rw [oM h2,upd_ne _ _ h1]
theorem OG {σ:Nat->Option Entry} {t:Ty} {c:Cell} {l:List t.den} {ids:List Nat} (h:jh σ .keep t c=some (l,ids)):∀ id ∈ ids,∃ u l' o,σ id=some (.arr u l' o)/\∀ n,o ≠ .pinned n:=by
 intro id hid
 cases c <;> simp only [jh] at h <;> try (cases h;done)
 case nil=>simp at h;rw [h.2] at hid;simp at hid
 case list fr u l'=>
  cases fr <;> simp at h
  obtain ⟨x,hx,rfl,rfl⟩:=h
  simp at hid
 case ref id'=>
  cases hs:σ id' with
  | none=>simp [hs] at h
  | some e=>
   cases e with
   | box _ _=>simp [hs] at h
   | deep _ _ _=>simp [hs] at h
   | arr u l' o=>
    cases o <;> simp [hs] at h
    all_goals
     obtain ⟨x,hx,rfl,rfl⟩:=h
     simp at hid
     subst hid
     exact ⟨u,l',_,hs,by simp⟩
 case sub id' off n=>
  cases hs:σ id' with
  | none=>simp [hs] at h
  | some e=>
   cases e with
   | box _ _=>simp [hs] at h
   | deep _ _ _=>simp [hs] at h
   | arr u l' o=>
    cases o <;> simp [hs] at h
    all_goals
     obtain ⟨x,hx,rfl,rfl⟩:=h
     simp at hid
     subst hid
     exact ⟨u,l',_,hs,by simp⟩
theorem Nj {σ:Nat->Option Entry}:∀ {t:Ty} {cs:List Cell} {x:t.den} {rest:List Cell} {ids:List Nat},aF σ .keep t cs=some (x,rest,ids)->∀ id ∈ ids,∃ u l o,σ id=some (.arr u l o)/\∀ n,o ≠ .pinned n:=by
 intro t
 induction t with
 | list t _=>
  intro cs x rest ids h
  cases cs with
  | nil=>simp [aF] at h
  | cons c cs=>
   have h:(jh σ .keep t c).map (fun (l,ids)=>(l,cs,ids))=some (x,rest,ids):=by cases c <;> simpa [aF] using h
   rw [Option.map_eq_some_iff] at h
   obtain ⟨⟨l,js⟩,hl,he⟩:=h
   simp at he
   obtain ⟨rfl,rfl,rfl⟩:=he
   exact OG hl
 | bR t _=>
  intro cs x rest ids h
  cases cs with
  | nil=>simp [aF] at h
  | cons c cs=>
   have h:(kU σ .keep t c).map (fun (l,ids)=>(l,cs,ids))=some (x,rest,ids):=by cases c <;> simpa [aF] using h
   rw [Option.map_eq_some_iff] at h
   obtain ⟨⟨l,js⟩,hl,he⟩:=h
   simp at he
   obtain ⟨rfl,rfl,rfl⟩:=he
   intro id hid
   exfalso
   cases c <;> simp only [kU] at hl <;> try (cases hl;done)
   case nil=>simp at hl;rw [hl.2] at hid;simp at hid
   case list fr u l'=>
    cases fr <;> simp at hl
    obtain ⟨x,hx,rfl,rfl⟩:=hl
    simp at hid
   case mY id'=>
    split at hl
    ·rename_i u l' n hs
     cases n <;> simp at hl
    ·cases hl
 | pair a b iha ihb=>
  intro cs x rest ids h
  rw [jX] at h
  cases h1:aF σ .keep a cs with
  | none=>simp [h1] at h
  | some r1=>
   obtain ⟨x1,wz,KP⟩:=r1
   simp only [h1] at h
   cases h2:aF σ .keep b wz with
   | none=>simp [h2] at h
   | some r2=>
    obtain ⟨x2,uq,KQ⟩:=r2
    simp [h2] at h
    obtain ⟨rfl,rfl,rfl⟩:=h
    intro id hid
    rcases List.mem_append.1 hid with hid | hid
    ·exact iha h1 id hid
    ·exact ihb h2 id hid
 | bool=>
  intro cs x rest ids h
  cases cs with
  | nil=>simp [aF] at h
  | cons c cs=>cases c <;> simp [aF] at h <;> (obtain ⟨_,_,rfl⟩:=h;intro id hid;simp at hid)
 | int k=>
  intro cs x rest ids h
  cases cs with
  | nil=>simp [aF] at h
  | cons c cs=>cases c <;> simp [aF] at h;obtain ⟨_,_,_,rfl⟩:=h;intro id hid;simp at hid
 | str=>
  intro cs x rest ids h
  cases cs with
  | nil=>simp [aF] at h
  | cons c cs=>cases c <;> simp [aF] at h;obtain ⟨_,_,rfl⟩:=h;intro id hid;simp at hid
 | unit=>
  intro cs x rest ids h
  have:ids=[]:=by
   cases cs with
   | nil=>simp [aF] at h;exact h.2
   | cons c cs=>cases c <;> simp [aF] at h <;> exact h.2
  subst this
  intro id hid
  simp at hid
theorem uQ {σ:Nat->Option Entry} {t:Ty} {cs:List Cell} {x:t.den} {ids:List Nat} (h:bG σ .keep t cs=some (x,ids)):∀ id ∈ ids,∃ u l o,σ id=some (.arr u l o)/\∀ n,o ≠ .pinned n:=by
 unfold bG at h
 split at h
 ·rename_i x' qE he
  simp at h
  obtain ⟨rfl,rfl⟩:=h
  exact Nj he
 ·cases h
section
variable {C:dh} {ah:FuncId->(t:Ty)->List Arg->Option t.den}
 {dst:Option Tmp} {type:TypeId} {pos:String} {after:Array Edge} {guard:Option (Nat × Bool)}
theorem Vu (good:Good C) (t:TypeId) (p x:Operand):mM C ah ⟨dst,.store t p x,type,pos,after,guard⟩:=by
 intro R F0 G s a w pl κ r Q i ht h
 simp only [mK] at h
 have hp:=i.slot p
 have hx:=i.slot x
 split at h
 ·rename_i n agg q v hsh hsp hsx
  rw [hsp] at hp
  rw [hsx] at hx
  split at h
  ·rename_i hk
   rw [T.run_bind] at h
   have hrel:=gT hk hx
   have hone:∀ u ∈ (a.eval x).cells.toList,one u=true:=fun u hu=>by
    obtain ⟨j,hj⟩:=List.mem_iff_getElem?.1 hu
    have hjl:j<v.cells.length:=by rw [<- hrel.1];exact (List.getElem?_eq_some_iff.1 hj).1
    exact (hrel.2 j _ u (List.getElem?_eq_getElem hjl) hj).2
   have kI:∀ {b o:Nat} {cur:Array Value} {e:TypeId} {fz:Nat × Nat},a.eval p=.pointer (some ⟨b,o,none⟩)->w.heap[b]? = some (.cells cur e fz)->Free fz cur.size->v.cells.length=n->o+n<=cur.size->
     (execOp a.eval ⟨dst,.store t p x,type,pos,after,guard⟩).run C.P w=.ok .skip (w.setRow b (cur.toList.take o++(a.eval x).cells.toList++cur.toList.drop (o+n)).toArray):=by
    intro b o cur e fz hv hg hf hn hle
    simp only [execOp,Sem.run_bind,hv,OE good hsh hg hf (by rw [hrel.1];exact hn) hle hone,Result.andThen_ok,Sem.run_pure]
   cases q with
   | ptr id off=>
    simp only [St.store] at h
    obtain ⟨t',cs,pp,hst,hpl,ho,hv⟩:=hp
    obtain ⟨p',c,e,fz,hpl',ho',hh,hfz,hsz,hcs,hty,yR,hF⟩:=i.ak.ent id _ hst
    obtain rfl:pp=p':=Option.some.inj (hpl.symm.trans hpl')
    simp only [show s.ak id=some (.box t' cs) from hst] at h
    split at h
    ·rename_i hcond
     obtain ⟨hle,hlen⟩:=hcond
     have hh:w.heap[pp.b]? = some (.cells c e fz):=hh
     have hvl:(a.eval x).cells.toList.length=n:=by rw [hrel.1];exact hlen
     obtain ⟨i',fr⟩:=i.write (w':=w.setRow pp.b (c.toList.take off++(a.eval x).cells.toList++c.toList.drop (off+n)).toArray) (id:=id) (E':=.box t' (splice cs off v.cells)) hst hpl hF (by simp) ⟨rfl,rfl,rfl,fun _=>Nat.le_refl _⟩
      (fun b hb=>setRow_other w pp.b b _ hb) trivial (fun g=>by
       refine ⟨pp,_,e,fz,rfl,ho,setRow_heap w pp.b c _ e fz hh, ?_, ?_, ?_, ?_, ?_,hF⟩
       ·intro o' ho';refine hfz o' ?_;simp at ho' hvl;omega
       ·simp at hvl ⊢;omega
       ·simp [splice] at hvl ⊢;omega
       ·intro u hu;have:=hty u hu;simp [splice];omega
       ·have:=(g.cells (fun _ _ _ _ h=>h) yR).splice (g.cells (fun _ _ _ _ h=>h) hrel) off
        rw [hvl] at this
        simpa using this)
     exact SG (kI hv hh hfz hlen (by omega)) i' fr h
    ·simp at h
   | mJ id ix off=>
    simp only [St.store] at h
    obtain ⟨t',l,o,pp,hst,hix,hpl,hv⟩:=hp
    simp only [show s.ak id=some (.arr t' l o) from hst] at h
    split at h
    ·simp at h
    ·rename_i hno
     split at h
     ·rename_i hcond
      obtain ⟨hle,hlen⟩:=hcond
      split at h
      ·rename_i y ids hof
       split at h
       ·simp at h
       ·rename_i hnot
        have hni:id ∉ ids:=by simpa using hnot
        have hkeep:=uQ hof
        obtain ⟨harr,hown⟩:=i.ak.ent id _ hst
        rw [hpl] at harr
        obtain ⟨c,e,fz,hh,hfz,hsz,hroom,hrow⟩:=harr
        have hh:w.heap[pp.b]? = some (.cells c e fz):=hh
        have hF:=(hown pp hpl).2 hno
        obtain ⟨G',i1,Nk,hG,_⟩:=yQ (ids:=ids) i (fun j hj t'' l'' n'' he=>by
         obtain ⟨u,l3,o3,h1,h2⟩:=hkeep j hj
         rw [h1] at he
         cases he
         exact h2 n'' rfl)
        have aaO:cO s.ak ids id=some (.arr t' l o):=(oM hni).trans hst
        have hF1:¬ (F0 pp.b\/G' pp.b):=by
         have:=i1.ak.ent id _ aaO
         exact (this.2 pp hpl).2 hno
        obtain ⟨es,hes,hej⟩:=hrow ix _ (Ia (d:=t'.dflt) hix)
        have hvl:(a.eval x).cells.toList.length=n:=by rw [hrel.1];exact hlen
        have hes':Rd G' w.heap t' G' y (es.take off++(a.eval x).cells.toList++es.drop (off+n)):=by
         have hsp:=(mg (M:=mem F0 G w.heap s.ak pl) true hes).splice hrel off
         rw [hvl] at hsp
         exact jC i.ak (fun b hb=>Nk.more b hb) (fun b hb=>Nk.more b hb) (fun hm=>by cases hm) hof hsp (fun j hj q hq=>by
          obtain ⟨u,l3,o3,h1,h2⟩:=hkeep j hj
          exact hG j hj u l3 o3 h1 q hq) (fun j hj t2 l2 n2 p2 he=>by
          obtain ⟨u,l3,o3,h1,h2⟩:=hkeep j hj
          rw [show s.ak j=_ from he] at h1
          cases h1)
        have hmul:(ix+1)*t'.sz<=l.length*t'.sz:=Nat.mul_le_mul_right _ hix
        rw [Nat.add_mul,Nat.one_mul] at hmul
        have hel:=hes.len
        have hrow':jy G' w.heap t' l c.toList pp.o:=by
         intro j z hj
         obtain ⟨es2,h1,h2⟩:=hrow j z hj
         exact ⟨es2,Rd.move (fun b hb=>Nk.more b hb) (fun _ _=>rfl) (fun b hb=>Nk.more b hb) (fun _ _=>rfl) h1,fun q u hq=>by simpa using h2 q u hq⟩
        have hset:=hrow'.set hix hes' (by simp;omega)
        have hcells:c.toList.take (pp.o+ix*t'.sz)++(es.take off++(a.eval x).cells.toList++es.drop (off+n))++c.toList.drop (pp.o+ix*t'.sz+(es.take off++(a.eval x).cells.toList++es.drop (off+n)).length) =
          c.toList.take (pp.o+ix*t'.sz+off)++(a.eval x).cells.toList++c.toList.drop (pp.o+ix*t'.sz+off+n):=by
         have aaP:(es.take off++(a.eval x).cells.toList++es.drop (off+n)).length=es.length:=by
          simp at hvl ⊢;omega
         apply List.ext_getElem?
         intro k
         rw [fD (by rw [aaP];simp;omega),aaP]
         rw [show pp.o+ix*t'.sz+off+n=pp.o+ix*t'.sz+off+(a.eval x).cells.toList.length by rw [hvl],fD (by rw [hvl];simp;omega)]
         rw [show off+n=off+(a.eval x).cells.toList.length by rw [hvl]]
         by_cases h1:k<pp.o+ix*t'.sz
         ·rw [if_pos h1,if_pos (by omega)]
         ·rw [if_neg h1]
          by_cases h2:k<pp.o+ix*t'.sz+es.length
          ·rw [if_pos h2,fD (by rw [hvl];omega)]
           have hk:∀ u,es[k - (pp.o+ix*t'.sz)]? = some u->c.toList[k]? = some u:=by
            intro u hu
            have:=hej _ u hu
            rw [show pp.o+ix*t'.sz+(k - (pp.o+ix*t'.sz))=k by omega] at this
            simpa using this
           have hk':es[k - (pp.o+ix*t'.sz)]? = c.toList[k]?:=by
            rw [hk _ (List.getElem?_eq_getElem (by omega))]
            exact List.getElem?_eq_getElem (by omega)
           by_cases h3:k<pp.o+ix*t'.sz+off
           ·rw [if_pos (by omega),if_pos h3,hk']
           ·rw [if_neg (by omega),if_neg h3]
            by_cases h4:k<pp.o+ix*t'.sz+off+(a.eval x).cells.toList.length
            ·rw [if_pos (by omega),if_pos h4]
             congr 1;omega
            ·rw [if_neg (by omega),if_neg h4,hk']
          ·rw [if_neg h2,if_neg (by omega),if_neg (by rw [hvl];omega)]
        rw [hcells] at hset
        obtain ⟨i',fr⟩:=i1.write (w':=w.setRow pp.b (c.toList.take (pp.o+ix*t'.sz+off)++(a.eval x).cells.toList++c.toList.drop (pp.o+ix*t'.sz+off+n)).toArray) (id:=id) (E':=.arr t' (l.set ix y) o) aaO hpl hF1 (by simp) ⟨rfl,rfl,rfl,fun _=>Nat.le_refl _⟩
         (fun b hb=>setRow_other w pp.b b _ hb) ⟨rfl,by simp⟩ (fun g=>by
          refine ⟨⟨_,e,fz,setRow_heap w pp.b c _ e fz hh, ?_, ?_, ?_, ?_⟩,fun q hq=>⟨⟨fun ho=>absurd ho hno,by cases hq;exact ((hown pp hpl).1).2⟩,fun _=>by cases hq;exact hF1⟩⟩
          ·intro o' ho';refine hfz o' ?_;simp at ho' hvl;omega
          ·simp at hvl ⊢;omega
          ·simpa using hroom
          ·have:=jy.move (G':=G') (h':=(w.setRow pp.b (c.toList.take (pp.o+ix*t'.sz+off)++(a.eval x).cells.toList++c.toList.drop (pp.o+ix*t'.sz+off+n)).toArray).heap) (fun _ h=>h) (fun b hb=>setRow_other w pp.b b _ (fun e=>hF1 (.inr (e ▸ hb)))) hset
           intro j z hj
           obtain ⟨es2,h1,h2⟩:=this j z hj
           exact ⟨es2,h1,fun q u hq=>by simpa using h2 q u hq⟩)
        exact SG (kI hv hh hfz hlen (by omega)) i' (Nk.trans fr) h
      ·simp at h
     ·simp at h
   | oI id ix off=>simp [St.store,Va] at h
   | _=>simp [St.store] at h
  ·simp at h
 ·simp at h
end
end Go.Flat
