/- Stores; slices that are made. No condition. -/
import Derived.Test.YtmocpfgfjeaelaaGreatDeep2
import Derived.Deep.AppendSrc
import Derived.Deep.Upon
set_option linter.unusedVariables false
set_option linter.unusedSimpArgs false
namespace Go.Flat
theorem Ci (v:Value):v.oneCell'=one v:=by cases v <;> rfl
theorem mH (b:Nat) (e:TypeId) (fz:Nat × Nat):∀ (vs:List Value) (o:Nat) (cur:Array Value) (w:World),w.heap[b]? = some (.cells cur e fz)->o+vs.length<=cur.size->
  w.setCells b o vs=w.setRow b (cur.toList.take o++vs++cur.toList.drop (o+vs.length)).toArray
 | [],o,cur,w,hg,_=>by
  simp only [World.setCells,List.append_nil,List.length_nil,Nat.add_zero,List.take_append_drop,Array.toArray_toList]
  rw [setRow_self w b cur e fz hg]
 | v :: rest,o,cur,w,hg,hl=>by
  have hi:o<cur.size:=by simp at hl;omega
  simp only [World.setCells]
  rw [setCell_eq_setRow w b o cur e fz v hg]
  have ih:=mH b e fz rest (o+1) (cur.setIfInBounds o v) (w.setRow b (cur.setIfInBounds o v)) (setRow_heap w b cur _ e _ hg) (by simp at hl ⊢;omega)
  rw [ih,setRow_setRow]
  congr 2
  have e:=list_seg_step cur.toList o v rest (by simp at hl ⊢;omega)
  simpa [Array.toList_setIfInBounds,Nat.add_assoc] using e
theorem sD {w:World} {b o:Nat} {cur:Array Value} {e:TypeId} {fz:Nat × Nat} {vs:List Value} (hg:w.heap[b]? = some (.cells cur e fz)) (hl:o+vs.length<=cur.size) :
  ∀ j,j<vs.length->(w.cell? ⟨b,o+j,none⟩).isSome=true:=by
 intro j hj
 have:o+j<cur.size:=by omega
 simp [World.cell?,hg,this]
theorem vk {w:World} {b o:Nat} {cur:Array Value} {e:TypeId} {fz:Nat × Nat} {vs:List Value} (hg:w.heap[b]? = some (.cells cur e fz)) (hf:Free fz cur.size) (hl:o+vs.length<=cur.size) :
  ∀ j,j<vs.length->w.frozen? ⟨b,o+j,none⟩=false:=by
 intro j hj
 have h:=hf (o+j) (by omega)
 unfold World.frozen?
 rw [hg]
 simp
 intro h1
 exact Nat.le_of_not_lt fun h2=>h ⟨h1,h2⟩
theorem LC {C:aZ} (good:Good C) {t:TypeId} {n:Nat} {agg:Bool} (hs:C.shape t=some (n,agg)) {w:World} {b o:Nat} {cur:Array Value} {e:TypeId} {fz:Nat × Nat} {v:Value}
  (hg:w.heap[b]? = some (.cells cur e fz)) (hf:Free fz cur.size) (hn:v.cells.toList.length=n) (hle:o+n<=cur.size) (h1:∀ u ∈ v.cells.toList,one u=true) :
  (Instr.storeAt t (.pointer (some ⟨b,o,none⟩)) v).run C.P w=.ok () (w.setRow b (cur.toList.take o++v.cells.toList++cur.toList.drop (o+n)).toArray):=by
 obtain ⟨i,d,hi,hsz,hd,hagg⟩:=good.shape hs
 have hst:=run_storeCells_cells (P:=C.P) b o v.cells.toList 0 w (fun j hj=>by rw [Nat.add_zero];exact sD hg (by rw [hn];exact hle) j hj) (fun j hj=>by rw [Nat.add_zero];exact vk hg hf (by rw [hn];exact hle) j hj) (fun u hu=>by rw [Ci];exact h1 u hu)
 simp only [Nat.add_zero] at hst
 rw [mH b e fz _ o cur w hg (by rw [hn];exact hle),hn] at hst
 have hns:¬ v.cells.size ≠ i.size:=by simp [hsz,<- hn]
 simp only [Instr.storeAt,Instr.sureAddr,Sem.run_bind,Sem.run_pure,Result.andThen_ok,storeVar,run_sizeOf hi,if_neg hns]
 exact hst
def iF (G:Nat->Prop) (h:Array Obj) (t:Ty) (l:List t.den) (c:List Value) (o:Nat):Prop:=
 ∀ i x,l[i]? = some x->∃ es,Rd G h t G x es/\∀ j v,es[j]? = some v->c[o+i*t.sz+j]? = some v
theorem iF.move {G G':Nat->Prop} {h h':Array Obj} {t:Ty} {l:List t.den} {c:List Value} {o:Nat} (hG:∀ b,G b->G' b) (hs:∀ b,G b->h'[b]? = h[b]?) (H:iF G h t l c o):iF G' h' t l c o:=by
 intro i x hi
 obtain ⟨es,hes,hj⟩:=H i x hi
 exact ⟨es,Rd.move hG hs hG hs hes,hj⟩
theorem bP {α:Type} {l vs:List α} {off:Nat} (h:off+vs.length<=l.length) (k:Nat) :
  (l.take off++vs++l.drop (off+vs.length))[k]? = if k<off then l[k]? else if k<off+vs.length then vs[k - off]? else l[k]?:=by
 by_cases h1:k<off
 ·rw [if_pos h1,List.append_assoc,List.getElem?_append_left (by simp;omega),List.getElem?_take,if_pos h1]
 ·rw [if_neg h1]
  by_cases h2:k<off+vs.length
  ·rw [if_pos h2,List.append_assoc,List.getElem?_append_right (by simp;omega),List.getElem?_append_left (by simp;omega)]
   congr 1;simp;omega
  ·rw [if_neg h2,List.getElem?_append_right (by simp;omega),List.getElem?_drop]
   congr 1;simp;omega
theorem iF.set {G:Nat->Prop} {h:Array Obj} {t:Ty} {l:List t.den} {c:List Value} {o i:Nat} {x:t.den} {es:List Value} (H:iF G h t l c o) (hi:i<l.length) (hes:Rd G h t G x es)
  (hc:o+l.length*t.sz<=c.length):iF G h t (l.set i x) (c.take (o+i*t.sz)++es++c.drop (o+i*t.sz+es.length)) o:=by
 have hlen:=hes.len
 have hle:(i+1)*t.sz<=l.length*t.sz:=Nat.mul_le_mul_right _ hi
 rw [Nat.add_mul,Nat.one_mul] at hle
 intro j y hj
 rw [List.getElem?_set] at hj
 split at hj
 ·rename_i hij
  subst hij
  simp [hi] at hj
  subst hj
  refine ⟨es,hes,fun q v hq=>?_⟩
  have YI:q<es.length:=(List.getElem?_eq_some_iff.1 hq).1
  rw [bP (by omega),if_neg (by omega),if_pos (by omega)]
  rw [show o+i*t.sz+q - (o+i*t.sz)=q by omega]
  exact hq
 ·rename_i hij
  obtain ⟨es',hes',hq⟩:=H j y hj
  refine ⟨es',hes',fun q v hv=>?_⟩
  have YI:q<es'.length:=(List.getElem?_eq_some_iff.1 hv).1
  rw [hes'.len] at YI
  rw [bP (by omega)]
  rcases Nat.lt_or_gt_of_ne hij with h1 | h1
  ·have:=Nat.mul_le_mul_right t.sz (show i+1<=j from h1)
   rw [Nat.add_mul,Nat.one_mul] at this
   rw [if_neg (by omega),if_neg (by omega)]
   exact hq q v hv
  ·have:=Nat.mul_le_mul_right t.sz (show j+1<=i from h1)
   rw [Nat.add_mul,Nat.one_mul] at this
   rw [if_pos (by omega)]
   exact hq q v hv
theorem mI {k:Nat}:∀ {ids:List Nat} {σ:Nat->Option Entry},k ∉ ids->bB σ ids k=σ k
 | [],σ,_=>rfl
 | id :: ids,σ,h=>by
  have h1:k ≠ id:=fun e=>h (by simp [e])
  have h2:k ∉ ids:=fun e=>h (by simp [e])
  cases hs:σ id with
  | none=>simp only [bB,hs];exact mI h2
  | some e=>
   cases e with
   | box _ _=>simp only [bB,hs];exact mI h2
   | deep _ _ _=>simp only [bB,hs];exact mI h2
   | arr t l o=>simp only [bB,hs];rw [mI h2,upd_ne _ _ h1]
theorem LD {σ:Nat->Option Entry} {t:Ty} {c:Cell} {l:List t.den} {ids:List Nat} (h:gN σ .keep t c=some (l,ids)):∀ id ∈ ids,∃ u l' o,σ id=some (.arr u l' o)/\∀ n,o ≠ .pinned n:=by
 intro id hid
 cases c <;> simp only [gN] at h <;> try (cases h;done)
 case nil=>simp at h;rw [h.2] at hid;simp at hid
 case list fr u l'=>
  cases fr <;> simp at h
  obtain ⟨x,hx,rfl,rfl⟩:=h
  simp at hid
 case ref id'=>
  cases hs:σ id' with
  | none=>simp [hs] at h
  | some e=>
   cases e with
   | box _ _=>simp [hs] at h
   | deep _ _ _=>simp [hs] at h
   | arr u l' o=>
    cases o <;> simp [hs] at h
    all_goals
     obtain ⟨x,hx,rfl,rfl⟩:=h
     simp at hid
     subst hid
     exact ⟨u,l',_,hs,by simp⟩
 case sub id' off n=>
  cases hs:σ id' with
  | none=>simp [hs] at h
  | some e=>
   cases e with
   | box _ _=>simp [hs] at h
   | deep _ _ _=>simp [hs] at h
   | arr u l' o=>
    cases o <;> simp [hs] at h
    all_goals
     obtain ⟨x,hx,rfl,rfl⟩:=h
     simp at hid
     subst hid
     exact ⟨u,l',_,hs,by simp⟩
theorem Kc {σ:Nat->Option Entry}:∀ {t:Ty} {cs:List Cell} {x:t.den} {rest:List Cell} {ids:List Nat},au σ .keep t cs=some (x,rest,ids)->∀ id ∈ ids,∃ u l o,σ id=some (.arr u l o)/\∀ n,o ≠ .pinned n:=by
 intro t
 induction t with
 | list t _=>
  intro cs x rest ids h
  cases cs with
  | nil=>simp [au] at h
  | cons c cs=>
   have h:(gN σ .keep t c).map (fun (l,ids)=>(l,cs,ids))=some (x,rest,ids):=by cases c <;> simpa [au] using h
   rw [Option.map_eq_some_iff] at h
   obtain ⟨⟨l,js⟩,hl,he⟩:=h
   simp at he
   obtain ⟨rfl,rfl,rfl⟩:=he
   exact LD hl
 | aG t _=>
  intro cs x rest ids h
  cases cs with
  | nil=>simp [au] at h
  | cons c cs=>
   have h:(iV σ .keep t c).map (fun (l,ids)=>(l,cs,ids))=some (x,rest,ids):=by cases c <;> simpa [au] using h
   rw [Option.map_eq_some_iff] at h
   obtain ⟨⟨l,js⟩,hl,he⟩:=h
   simp at he
   obtain ⟨rfl,rfl,rfl⟩:=he
   intro id hid
   exfalso
   cases c <;> simp only [iV] at hl <;> try (cases hl;done)
   case nil=>simp at hl;rw [hl.2] at hid;simp at hid
   case list fr u l'=>
    cases fr <;> simp at hl
    obtain ⟨x,hx,rfl,rfl⟩:=hl
    simp at hid
   case fE id'=>
    split at hl
    ·rename_i u l' n hs
     cases n <;> simp at hl
    ·cases hl
 | pair a b iha ihb=>
  intro cs x rest ids h
  rw [iZ] at h
  cases h1:au σ .keep a cs with
  | none=>simp [h1] at h
  | some r1=>
   obtain ⟨x1,rz,Ib⟩:=r1
   simp only [h1] at h
   cases h2:au σ .keep b rz with
   | none=>simp [h2] at h
   | some r2=>
    obtain ⟨x2,pQ,Ic⟩:=r2
    simp [h2] at h
    obtain ⟨rfl,rfl,rfl⟩:=h
    intro id hid
    rcases List.mem_append.1 hid with hid | hid
    ·exact iha h1 id hid
    ·exact ihb h2 id hid
 | bool=>
  intro cs x rest ids h
  cases cs with
  | nil=>simp [au] at h
  | cons c cs=>cases c <;> simp [au] at h <;> (obtain ⟨_,_,rfl⟩:=h;intro id hid;simp at hid)
 | int k=>
  intro cs x rest ids h
  cases cs with
  | nil=>simp [au] at h
  | cons c cs=>cases c <;> simp [au] at h;obtain ⟨_,_,_,rfl⟩:=h;intro id hid;simp at hid
 | str=>
  intro cs x rest ids h
  cases cs with
  | nil=>simp [au] at h
  | cons c cs=>cases c <;> simp [au] at h;obtain ⟨_,_,rfl⟩:=h;intro id hid;simp at hid
 | unit=>
  intro cs x rest ids h
  have:ids=[]:=by
   cases cs with
   | nil=>simp [au] at h;exact h.2
   | cons c cs=>cases c <;> simp [au] at h <;> exact h.2
  subst this
  intro id hid
  simp at hid
theorem qA {σ:Nat->Option Entry} {t:Ty} {cs:List Cell} {x:t.den} {ids:List Nat} (h:aL σ .keep t cs=some (x,ids)):∀ id ∈ ids,∃ u l o,σ id=some (.arr u l o)/\∀ n,o ≠ .pinned n:=by
 unfold aL at h
 split at h
 ·rename_i x' iQ he
  simp at h
  obtain ⟨rfl,rfl⟩:=h
  exact Kc he
 ·cases h
section
variable {C:aZ} {ah:FuncId->(t:Ty)->List Arg->Option t.den}
 {dst:Option Tmp} {type:TypeId} {pos:String} {after:Array Edge} {guard:Option (Nat × Bool)}
theorem Rz (good:Good C) (t:TypeId) (p x:Operand):kD C ah ⟨dst,.store t p x,type,pos,after,guard⟩:=by
 intro R F0 G s a w pl κ r Q i ht h
 simp only [jT] at h
 have hp:=i.slot p
 have hx:=i.slot x
 split at h
 ·rename_i n agg q v hsh hsp hsx
  rw [hsp] at hp
  rw [hsx] at hx
  split at h
  ·rename_i hk
   rw [T.run_bind] at h
   have hrel:=eZ hk hx
   have hone:∀ u ∈ (a.eval x).cells.toList,one u=true:=fun u hu=>by
    obtain ⟨j,hj⟩:=List.mem_iff_getElem?.1 hu
    have hjl:j<v.cells.length:=by rw [<- hrel.1];exact (List.getElem?_eq_some_iff.1 hj).1
    exact (hrel.2 j _ u (List.getElem?_eq_getElem hjl) hj).2
   have gq:∀ {b o:Nat} {cur:Array Value} {e:TypeId} {fz:Nat × Nat},a.eval p=.pointer (some ⟨b,o,none⟩)->w.heap[b]? = some (.cells cur e fz)->Free fz cur.size->v.cells.length=n->o+n<=cur.size->
     (execOp a.eval ⟨dst,.store t p x,type,pos,after,guard⟩).run C.P w=.ok .skip (w.setRow b (cur.toList.take o++(a.eval x).cells.toList++cur.toList.drop (o+n)).toArray):=by
    intro b o cur e fz hv hg hf hn hle
    simp only [execOp,Sem.run_bind,hv,LC good hsh hg hf (by rw [hrel.1];exact hn) hle hone,Result.andThen_ok,Sem.run_pure]
   cases q with
   | ptr id off=>
    simp only [St.store] at h
    obtain ⟨t',cs,pp,hst,hpl,ho,hv⟩:=hp
    obtain ⟨p',c,e,fz,hpl',ho',hh,hfz,hsz,hcs,hty,Ke,hF⟩:=i.aj.ent id _ hst
    obtain rfl:pp=p':=Option.some.inj (hpl.symm.trans hpl')
    simp only [show s.aj id=some (.box t' cs) from hst] at h
    split at h
    ·rename_i hcond
     obtain ⟨hle,hlen⟩:=hcond
     have hh:w.heap[pp.b]? = some (.cells c e fz):=hh
     have hvl:(a.eval x).cells.toList.length=n:=by rw [hrel.1];exact hlen
     obtain ⟨i',fr⟩:=i.write (w':=w.setRow pp.b (c.toList.take off++(a.eval x).cells.toList++c.toList.drop (off+n)).toArray) (id:=id) (E':=.box t' (splice cs off v.cells)) hst hpl hF (by simp) ⟨rfl,rfl,rfl,fun _=>Nat.le_refl _⟩
      (fun b hb=>setRow_other w pp.b b _ hb) trivial (fun g=>by
       refine ⟨pp,_,e,fz,rfl,ho,setRow_heap w pp.b c _ e fz hh, ?_, ?_, ?_, ?_, ?_,hF⟩
       ·intro o' ho';refine hfz o' ?_;simp at ho' hvl;omega
       ·simp at hvl ⊢;omega
       ·simp [splice] at hvl ⊢;omega
       ·intro u hu;have:=hty u hu;simp [splice];omega
       ·have:=(g.cells (fun _ _ _ _ h=>h) Ke).splice (g.cells (fun _ _ _ _ h=>h) hrel) off
        rw [hvl] at this
        simpa using this)
     exact EO (gq hv hh hfz hlen (by omega)) i' fr h
    ·simp at h
   | ko id ix off=>
    simp only [St.store] at h
    obtain ⟨t',l,o,pp,hst,hix,hpl,hv⟩:=hp
    simp only [show s.aj id=some (.arr t' l o) from hst] at h
    split at h
    ·simp at h
    ·rename_i hno
     split at h
     ·rename_i hcond
      obtain ⟨hle,hlen⟩:=hcond
      split at h
      ·rename_i y ids hof
       split at h
       ·simp at h
       ·rename_i hnot
        have hni:id ∉ ids:=by simpa using hnot
        have hkeep:=qA hof
        obtain ⟨harr,hown⟩:=i.aj.ent id _ hst
        rw [hpl] at harr
        obtain ⟨c,e,fz,hh,hfz,hsz,hroom,hrow⟩:=harr
        have hh:w.heap[pp.b]? = some (.cells c e fz):=hh
        have hF:=(hown pp hpl).2 hno
        obtain ⟨G',i1,Kg,hG,_⟩:=uZ (ids:=ids) i (fun j hj t'' l'' n'' he=>by
         obtain ⟨u,l3,o3,h1,h2⟩:=hkeep j hj
         rw [h1] at he
         cases he
         exact h2 n'' rfl)
        have RA:bB s.aj ids id=some (.arr t' l o):=(mI hni).trans hst
        have hF1:¬ (F0 pp.b\/G' pp.b):=by
         have:=i1.aj.ent id _ RA
         exact (this.2 pp hpl).2 hno
        obtain ⟨es,hes,Wt⟩:=hrow ix _ (yB (d:=t'.dflt) hix)
        have hvl:(a.eval x).cells.toList.length=n:=by rw [hrel.1];exact hlen
        have hes':Rd G' w.heap t' G' y (es.take off++(a.eval x).cells.toList++es.drop (off+n)):=by
         have hsp:=(kC (M:=mem F0 G w.heap s.aj pl) true hes).splice hrel off
         rw [hvl] at hsp
         exact iI i.aj (fun b hb=>Kg.more b hb) (fun b hb=>Kg.more b hb) (fun hm=>by cases hm) hof hsp (fun j hj q hq=>by
          obtain ⟨u,l3,o3,h1,h2⟩:=hkeep j hj
          exact hG j hj u l3 o3 h1 q hq) (fun j hj t2 l2 n2 p2 he=>by
          obtain ⟨u,l3,o3,h1,h2⟩:=hkeep j hj
          rw [show s.aj j=_ from he] at h1
          cases h1)
        have hmul:(ix+1)*t'.sz<=l.length*t'.sz:=Nat.mul_le_mul_right _ hix
        rw [Nat.add_mul,Nat.one_mul] at hmul
        have hel:=hes.len
        have hrow':iF G' w.heap t' l c.toList pp.o:=by
         intro j z hj
         obtain ⟨es2,h1,h2⟩:=hrow j z hj
         exact ⟨es2,Rd.move (fun b hb=>Kg.more b hb) (fun _ _=>rfl) (fun b hb=>Kg.more b hb) (fun _ _=>rfl) h1,fun q u hq=>by simpa using h2 q u hq⟩
        have hset:=hrow'.set hix hes' (by simp;omega)
        have hcells:c.toList.take (pp.o+ix*t'.sz)++(es.take off++(a.eval x).cells.toList++es.drop (off+n))++c.toList.drop (pp.o+ix*t'.sz+(es.take off++(a.eval x).cells.toList++es.drop (off+n)).length) =
          c.toList.take (pp.o+ix*t'.sz+off)++(a.eval x).cells.toList++c.toList.drop (pp.o+ix*t'.sz+off+n):=by
         have Wu:(es.take off++(a.eval x).cells.toList++es.drop (off+n)).length=es.length:=by
          simp at hvl ⊢;omega
         apply List.ext_getElem?
         intro k
         rw [bP (by rw [Wu];simp;omega),Wu]
         rw [show pp.o+ix*t'.sz+off+n=pp.o+ix*t'.sz+off+(a.eval x).cells.toList.length by rw [hvl],bP (by rw [hvl];simp;omega)]
         rw [show off+n=off+(a.eval x).cells.toList.length by rw [hvl]]
         by_cases h1:k<pp.o+ix*t'.sz
         ·rw [if_pos h1,if_pos (by omega)]
         ·rw [if_neg h1]
          by_cases h2:k<pp.o+ix*t'.sz+es.length
          ·rw [if_pos h2,bP (by rw [hvl];omega)]
           have hk:∀ u,es[k - (pp.o+ix*t'.sz)]? = some u->c.toList[k]? = some u:=by
            intro u hu
            have:=Wt _ u hu
            rw [show pp.o+ix*t'.sz+(k - (pp.o+ix*t'.sz))=k by omega] at this
            simpa using this
           have hk':es[k - (pp.o+ix*t'.sz)]? = c.toList[k]?:=by
            rw [hk _ (List.getElem?_eq_getElem (by omega))]
            exact List.getElem?_eq_getElem (by omega)
           by_cases h3:k<pp.o+ix*t'.sz+off
           ·rw [if_pos (by omega),if_pos h3,hk']
           ·rw [if_neg (by omega),if_neg h3]
            by_cases h4:k<pp.o+ix*t'.sz+off+(a.eval x).cells.toList.length
            ·rw [if_pos (by omega),if_pos h4]
             congr 1;omega
            ·rw [if_neg (by omega),if_neg h4,hk']
          ·rw [if_neg h2,if_neg (by omega),if_neg (by rw [hvl];omega)]
        rw [hcells] at hset
        obtain ⟨i',fr⟩:=i1.write (w':=w.setRow pp.b (c.toList.take (pp.o+ix*t'.sz+off)++(a.eval x).cells.toList++c.toList.drop (pp.o+ix*t'.sz+off+n)).toArray) (id:=id) (E':=.arr t' (l.set ix y) o) RA hpl hF1 (by simp) ⟨rfl,rfl,rfl,fun _=>Nat.le_refl _⟩
         (fun b hb=>setRow_other w pp.b b _ hb) ⟨rfl,by simp⟩ (fun g=>by
          refine ⟨⟨_,e,fz,setRow_heap w pp.b c _ e fz hh, ?_, ?_, ?_, ?_⟩,fun q hq=>⟨⟨fun ho=>absurd ho hno,by cases hq;exact ((hown pp hpl).1).2⟩,fun _=>by cases hq;exact hF1⟩⟩
          ·intro o' ho';refine hfz o' ?_;simp at ho' hvl;omega
          ·simp at hvl ⊢;omega
          ·simpa using hroom
          ·have:=iF.move (G':=G') (h':=(w.setRow pp.b (c.toList.take (pp.o+ix*t'.sz+off)++(a.eval x).cells.toList++c.toList.drop (pp.o+ix*t'.sz+off+n)).toArray).heap) (fun _ h=>h) (fun b hb=>setRow_other w pp.b b _ (fun e=>hF1 (.inr (e ▸ hb)))) hset
           intro j z hj
           obtain ⟨es2,h1,h2⟩:=this j z hj
           exact ⟨es2,h1,fun q u hq=>by simpa using h2 q u hq⟩)
        exact EO (gq hv hh hfz hlen (by omega)) i' (Kg.trans fr) h
      ·simp at h
     ·simp at h
   | kJ id ix off=>
    simp only [St.store,Fa] at h
    obtain ⟨t',l,pin,pp,hst,hix,hpl,hv⟩:=hp
    have hst:s.aj id=some (.deep t' l pin):=hst
    have hpl:pl id=some pp:=hpl
    simp only [hst] at h
    obtain ⟨hd,hrest⟩:=i.aj.ent id _ hst
    rw [show (mem F0 G w.heap s.aj pl).pl id=some pp from hpl] at hd
    have hd0:iA G w.heap t' l (some pp):=hd
    obtain ⟨c,e,fz,hh,hfz,hsz,hroom,k5,k6,k7,k8⟩:=hd
    have hh:w.heap[pp.b]? = some (.cells c e fz):=hh
    obtain ⟨UY,JY⟩:=hrest pp hpl
    have RB:ix<pp.inn.length:=by omega
    obtain ⟨es,hes,Wt⟩:=k8 ix _ _ (yB (d:=t'.dflt) hix) (List.getElem?_eq_getElem RB)
    have hmul:(ix+1)*t'.sz<=l.length*t'.sz:=Nat.mul_le_mul_right _ hix
    rw [Nat.add_mul,Nat.one_mul] at hmul
    have hel:=hes.len
    have Wv:∀ b,G b->b ≠ pp.b:=fun b hb e=>(UY pp.b pp.gI).2 (.inr (e ▸ hb))
    have RD:∀ {k j m:Nat},k ≠ ix->j<t'.sz->m<t'.sz->k*t'.sz+j ≠ ix*t'.sz+m:=by
     intro k j m hk hj hm e
     rcases Nat.lt_or_gt_of_ne hk with h1 | h1
     ·have h2:(k+1)*t'.sz<=ix*t'.sz:=Nat.mul_le_mul_right _ h1
      rw [Nat.add_mul,Nat.one_mul] at h2
      omega
     ·have h2:(ix+1)*t'.sz<=k*t'.sz:=Nat.mul_le_mul_right _ h1
      rw [Nat.add_mul,Nat.one_mul] at h2
      omega
    split at h
    ·rename_i y hy
     obtain ⟨c0,XH,hn1,hset⟩:∃ c0,v.cells=[c0]/\n=1/\setCell t' off (l.getD ix t'.dflt) c0=some y:=by
      unfold Ra at hy
      split at hy
      ·rename_i c0 XH
       cases hb:Nat.beq n 1 with
       | false=>rw [hb] at hy;cases hy
       | true=>rw [hb] at hy;exact ⟨c0,XH,Nat.eq_of_beq_eq_true hb,hy⟩
      ·cases hy
     subst hn1
     rw [XH] at hrel
     obtain ⟨v0,us,hvs,hc0,YJ,hs0⟩:=hrel.cons
     have:us=[]:=by have:=hs0.1;simpa using this
     subst this
     obtain ⟨hes',hfl,hoff⟩:=wY hc0 hes hset
     have hsp:∀ k,(c.toList.take (pp.o+ix*t'.sz+off)++(a.eval x).cells.toList++c.toList.drop (pp.o+ix*t'.sz+off+1))[k]? = if k=pp.o+ix*t'.sz+off then some v0 else c[k]?:=by
      intro k
      rw [hvs,show pp.o+ix*t'.sz+off+1=pp.o+ix*t'.sz+off+[v0].length from rfl,bP (by simp;omega)]
      by_cases h1:k=pp.o+ix*t'.sz+off
      ·subst h1
       rw [if_neg (by omega),if_pos (by simp),if_pos rfl]
       simp
      ·rw [if_neg h1]
       split
       ·simp
       ·rw [if_neg (by simp;omega)];simp
     have hat:∀ b,b ≠ pp.b->(w.setRow pp.b (c.toList.take (pp.o+ix*t'.sz+off)++(a.eval x).cells.toList++c.toList.drop (pp.o+ix*t'.sz+off+1)).toArray).heap[b]? = w.heap[b]?:=fun b hb=>setRow_other w pp.b b _ hb
     have hsz':(c.toList.take (pp.o+ix*t'.sz+off)++(a.eval x).cells.toList++c.toList.drop (pp.o+ix*t'.sz+off+1)).toArray.size=c.size:=by
      rw [hvs];simp;omega
     have Tx:∀ b ∈ pp.tT,b ≠ pp.b:=fun b hb e=>(List.nodup_cons.1 k6).1 (e ▸ hb)
     obtain ⟨i',fr⟩:=i.Ry (w':=w.setRow pp.b (c.toList.take (pp.o+ix*t'.sz+off)++(a.eval x).cells.toList++c.toList.drop (pp.o+ix*t'.sz+off+1)).toArray) (E':=.deep t' (l.set ix y) pin) (p':=pp) hst hpl ⟨rfl,rfl,rfl⟩ (by simp) ⟨rfl,rfl,rfl,fun _=>Nat.le_refl _⟩
      (fun b hb _=>hat b (fun e=>hb (e ▸ pp.gI))) (fun b hb=>(UY b hb).2) ⟨rfl,by simp,rfl⟩ (fun j ej q hj he hq b hb=>i.aj.apart' j id ej _ q pp he hst hj hq hpl b hb) (fun g=>by
       have hput:=hd0.put (ix:=ix) (y:=y) (es':=es.set off v0) (ps:=pp.inn[ix]) hix hh (setRow_heap w pp.b c _ e fz hh) hsz' (fun b hb=>hat b (Wv b hb)) (fun k j u hk hkl hj hu=>by
        rw [<- Array.getElem?_toList]
        simp only [hsp]
        rw [if_neg (by have:=RD hk hj hoff;omega)]
        exact hu) (fun j u hu=>by
        rw [<- Array.getElem?_toList]
        simp only [hsp]
        rw [List.getElem?_set] at hu
        by_cases hjo:off=j
        ·subst hjo
         rw [if_pos rfl] at hu
         rw [if_pos rfl]
         split at hu
         ·exact hu
         ·cases hu
        ·rw [if_neg hjo] at hu
         rw [if_neg (by omega)]
         exact Wt j u hu) hes' (fun q hq=>k7 q (List.mem_flatten.2 ⟨_,List.getElem_mem RB,hq⟩)) (by rw [List.set_getElem_self];exact k6) (fun b hb=>hat b (Tx b hb)) (fun b hb=>hat b (Tx b (by
         rw [jH (fun q hq=>k7 q (List.mem_flatten.2 ⟨_,List.getElem_mem RB,hq⟩))] at hb
         obtain ⟨q,hq',rfl⟩:=List.mem_map.1 hb
         simp only [List.mem_filterMap,_root_.id] at hq'
         obtain ⟨_,hq',rfl⟩:=hq'
         exact Pl.sj (List.getElem_mem RB) hq')))
       rw [List.set_getElem_self] at hput
       refine ⟨hput,fun q hq=>?_⟩
       cases hq
       refine ⟨fun b hb=>⟨?_,(UY b hb).2⟩,fun k hk i2 off2 hi2 hf2=>?_⟩
       ·show b<(w.setRow _ _).heap.size
        have:=(UY b hb).1
        rw [show (w.setRow pp.b _).heap.size=w.heap.size by simp]
        exact this
       ·have hi2:i2<l.length:=by simpa using hi2
        have h1:=JY k hk i2 off2 hi2 hf2
        have hlt2:off2<t'.sz:=by have:=(List.getElem?_eq_some_iff.1 hf2).1;rwa [nL] at this
        unfold hcell at h1 ⊢
        rw [show (mem F0 G w.heap s.aj pl).h=w.heap from rfl,hh] at h1
        show (match (w.setRow _ _).heap[pp.b]? with | some (.cells c _ _)=>c[_]? | _=>none)=_
        rw [setRow_heap w pp.b c _ e fz hh]
        show (List.toArray _)[pp.o+i2*t'.sz+off2]? = _
        rw [<- Array.getElem?_toList]
        simp only [hsp]
        rw [if_neg ?_]
        ·exact h1
        ·by_cases hii:i2=ix
         ·subst hii
          intro e'
          have:off2=off:=by omega
          rw [this,hfl] at hf2
          cases hf2
         ·have:=RD hii hlt2 hoff
          omega) ⟨_,_,_,rfl⟩ (.inl rfl)
     exact EO (gq hv hh hfz (by rw [XH];rfl) (by omega)) i' fr h
    ·split at h
     ·rename_i hcond
      obtain ⟨rfl,PS,_⟩:=hcond
      split at h
      ·rename_i y ids hof
       cases hb:(nodup ids && !ids.contains id) with
       | false=>rw [hb] at h;simp at h
       | true=>
        rw [hb] at h
        simp only [cond_true,T.bK] at h
        simp only [Bool.and_eq_true] at hb
        have hnd:=iR hb.1
        have hni:id ∉ ids:=by simpa using hb.2
        obtain ⟨⟨es',A1,M1,B1,ps,hown,QV,hblk,YK,hvl,hes'⟩,hlive⟩:=LB i.aj hrel hes hof
        have hlive:∀ j ∈ ids,Lv s.aj .give j:=hlive
        obtain ⟨i1,old,_⟩:=i.aJ hnd (fun j hj=>(hlive j hj).wo)
        have RA:=AB hni hst
        have RF:=jP i.aj hnd hlive
        rw [<- hblk] at RF
        have NI:∀ b ∈ blks ps,∃ j ∈ ids,∃ ej q,s.aj j=some ej/\pl j=some q/\b ∈ ej.bs q/\¬ (F0 b\/G b):=by
         intro b hbb
         rw [hblk] at hbb
         obtain ⟨q,hq,Nj⟩:=List.mem_flatMap.1 hbb
         obtain ⟨j,hj,hjq⟩:=List.mem_filterMap.1 hq
         obtain ⟨ej,h1,h2,_,h4⟩:=(hlive j hj).bs i.aj hjq
         exact ⟨j,hj,ej,q,h1,hjq,by rw [h2];exact Nj,h4 rfl b Nj⟩
        have NJ:=hown.flat PS
        have hfl:∀ q,some q ∈ ps->q.inn=[]:=fun q hq=>NJ q (by simp [hq])
        have Us:∀ b ∈ blks ps,b ∉ pp.bs:=by
         intro b hbb hpb
         obtain ⟨j,hj,ej,q,h1,h2,h3,_⟩:=NI b hbb
         exact i.aj.apart' j id ej _ q pp h1 hst (fun e=>hni (e ▸ hj)) h2 hpl b h3 hpb
        obtain ⟨A0,B0,XV,hB0⟩:=EP RB (A1++ps++B1)
        obtain ⟨A,B,hA,hB⟩:∃ A B,pp.inn.flatten=A++M1++B/\(pp.inn.set ix (A1++ps++B1)).flatten=A++ps++B:=
         ⟨A0++A1,B1++B0,by rw [XV,QV];simp,by rw [hB0];simp⟩
        have hsub:∀ b,b ∈ (⟨pp.b,pp.o,pp.size,pp.inn.set ix (A1++ps++B1)⟩:Pl).bs->b ∈ pp.bs\/b ∈ blks ps:=by
         intro b hbb
         simp only [Pl.bs,List.mem_cons] at hbb
         rcases hbb with rfl | hbb
         ·exact .inl (Pl.gI _)
         ·simp only [Pl.tT,hB,List.filterMap_append,List.map_append,List.mem_append] at hbb
          simp only [Pl.bs,Pl.tT,hA,List.filterMap_append,List.map_append,List.mem_cons,List.mem_append]
          rcases hbb with (hbb | hbb) | hbb
          ·exact .inl (.inr (.inl (.inl hbb)))
          ·exact .inr (by rw [jH hfl];exact hbb)
          ·exact .inl (.inr (.inr hbb))
        have hnd':(⟨pp.b,pp.o,pp.size,pp.inn.set ix (A1++ps++B1)⟩:Pl).bs.Nodup:=by
         have h1:=k6
         simp only [Pl.bs,Pl.tT,hA,List.filterMap_append,List.map_append,List.nodup_cons,List.nodup_append,List.mem_append] at h1
         rw [jH hfl] at RF Us
         have h2:∀ b ∈ (ps.filterMap _root_.id).map Pl.b,b ≠ pp.b/\b ∉ (A.filterMap _root_.id).map Pl.b/\b ∉ (B.filterMap _root_.id).map Pl.b:=by
          intro b hbb
          have h3:=Us b hbb
          simp only [Pl.bs,Pl.tT,hA,List.filterMap_append,List.map_append,List.mem_cons,List.mem_append] at h3
          exact ⟨fun e=>h3 (.inl e),fun e=>h3 (.inr (.inl (.inl e))),fun e=>h3 (.inr (.inr e))⟩
         obtain ⟨n1,⟨n2,n3,n4⟩,n5,n6⟩:=h1
         simp only [Pl.bs,Pl.tT,hB,List.filterMap_append,List.map_append,List.nodup_cons,List.nodup_append,List.mem_append]
         refine ⟨fun hbb=>?_,⟨n2,RF,fun b hb1 b' hb2 e=>?_⟩,n5,fun b hb1 b' hb2 e=>?_⟩
         ·rcases hbb with (hbb | hbb) | hbb
          ·exact n1 (.inl (.inl hbb))
          ·exact (h2 _ hbb).1 rfl
          ·exact n1 (.inr hbb)
         ·subst e;exact (h2 b hb2).2.1 hb1
         ·subst e
          rcases hb1 with hb1 | hb1
          ·exact n6 b (.inl hb1) b hb2 rfl
          ·exact (h2 b hb1).2.2 hb2
        have UZ:∀ b ∈ blks (A1++ps++B1),b ≠ pp.b:=by
         intro b hbb e
         subst e
         have h1:=(List.nodup_cons.1 hnd').1
         refine h1 ?_
         rw [jH NJ] at hbb
         simp only [Pl.tT,hB0,List.filterMap_append,List.map_append,List.mem_append] at hbb ⊢
         exact .inl (.inr hbb)
        have hsp:∀ k,(c.toList.take (pp.o+ix*t'.sz+off)++(a.eval x).cells.toList++c.toList.drop (pp.o+ix*t'.sz+off+n))[k]? = if k<pp.o+ix*t'.sz+off then c[k]? else if k<pp.o+ix*t'.sz+off+n then (a.eval x).cells.toList[k - (pp.o+ix*t'.sz+off)]? else c[k]?:=by
         intro k
         have:=bP (l:=c.toList) (vs:=(a.eval x).cells.toList) (off:=pp.o+ix*t'.sz+off) (by rw [hvl];simp;omega) k
         rw [hvl] at this
         rw [this]
         simp
        have hat:∀ b,b ≠ pp.b->(w.setRow pp.b (c.toList.take (pp.o+ix*t'.sz+off)++(a.eval x).cells.toList++c.toList.drop (pp.o+ix*t'.sz+off+n)).toArray).heap[b]? = w.heap[b]?:=fun b hb=>setRow_other w pp.b b _ hb
        have hsz':(c.toList.take (pp.o+ix*t'.sz+off)++(a.eval x).cells.toList++c.toList.drop (pp.o+ix*t'.sz+off+n)).toArray.size=c.size:=by
         have:=hvl
         simp at this ⊢
         omega
        have Tx:∀ b ∈ pp.tT,b ≠ pp.b:=fun b hb e=>(List.nodup_cons.1 k6).1 (e ▸ hb)
        obtain ⟨i',fr⟩:=i1.Ry (w':=w.setRow pp.b (c.toList.take (pp.o+ix*t'.sz+off)++(a.eval x).cells.toList++c.toList.drop (pp.o+ix*t'.sz+off+n)).toArray) (E':=.deep t' (l.set ix y) none) (p':=⟨pp.b,pp.o,pp.size,pp.inn.set ix (A1++ps++B1)⟩) RA hpl ⟨rfl,rfl,rfl⟩ (by simp) ⟨rfl,rfl,rfl,fun _=>Nat.le_refl _⟩
         (fun b hb _=>hat b (fun e=>hb (e ▸ pp.gI))) (fun b hb=>(UY b hb).2) ⟨rfl,by simp,rfl⟩ (fun j ej q hj he hq b hb hbp=>by
          rcases hsub b hbp with h1 | h1
          ·exact i1.aj.apart' j id ej _ q pp he RA hj hq hpl b hb h1
          ·obtain ⟨hjn,e',h2,h3⟩:=old j ej he
           obtain ⟨j2,hj2,e2,q2,m1,m2,m3,_⟩:=NI b h1
           exact i.aj.apart' j j2 e' e2 q q2 h2 m1 (fun e=>hjn (e ▸ hj2)) hq m2 b (by rw [<- h3];exact hb) m3) (fun g=>by
          have hput:=hd0.put (ix:=ix) (y:=y) (es':=es') (ps:=A1++ps++B1) hix hh (setRow_heap w pp.b c _ e fz hh) hsz' (fun b hb=>hat b (Wv b hb)) (fun k j u hk hkl hj hu=>by
           rw [<- Array.getElem?_toList]
           simp only [hsp]
           rcases Nat.lt_or_gt_of_ne hk with h1 | h1
           ·have h2:(k+1)*t'.sz<=ix*t'.sz:=Nat.mul_le_mul_right _ h1
            rw [Nat.add_mul,Nat.one_mul] at h2
            rw [if_pos (by omega)]
            exact hu
           ·have h2:(ix+1)*t'.sz<=k*t'.sz:=Nat.mul_le_mul_right _ h1
            rw [Nat.add_mul,Nat.one_mul] at h2
            rw [if_neg (by omega),if_neg (by omega)]
            exact hu) (fun j u hu=>by
           rw [<- Array.getElem?_toList]
           simp only [hsp]
           rw [hes' j] at hu
           by_cases c1:j<off
           ·rw [if_pos c1] at hu
            rw [if_pos (by omega)]
            exact Wt j u hu
           ·rw [if_neg c1] at hu
            rw [if_neg (by omega)]
            by_cases c2:j<off+n
            ·rw [if_pos c2] at hu
             rw [if_pos (by omega),show pp.o+ix*t'.sz+j - (pp.o+ix*t'.sz+off)=j - off by omega]
             exact hu
            ·rw [if_neg c2] at hu
             rw [if_neg (by omega)]
             exact Wt j u hu) hown NJ hnd' (fun b hb=>hat b (Tx b hb)) (fun b hb=>hat b (UZ b hb))
          refine ⟨hput,fun q hq=>?_⟩
          cases hq
          refine ⟨fun b hb=>?_,fun k hk=>by cases hk⟩
          rcases hsub b hb with h1 | h1
          ·exact ⟨by show b<(w.setRow _ _).heap.size;rw [show (w.setRow pp.b _).heap.size=w.heap.size by simp];exact (UY b h1).1,(UY b h1).2⟩
          ·obtain ⟨j2,hj2,e2,q2,m1,m2,m3,m4⟩:=NI b h1
           exact ⟨by show b<(w.setRow _ _).heap.size;rw [show (w.setRow pp.b _).heap.size=w.heap.size by simp];exact i.aj.jY m1 m2 b m3,m4⟩) ⟨_,_,_,rfl⟩ (.inr (fun _ _ _ h=>by cases h))
        exact EO (gq hv hh hfz (by rw [<- hrel.1];exact hvl) (by omega)) i' fr h
      ·simp at h
     ·simp at h
   | _=>simp [St.store] at h
  ·simp at h
 ·simp at h
end
end Go.Flat
