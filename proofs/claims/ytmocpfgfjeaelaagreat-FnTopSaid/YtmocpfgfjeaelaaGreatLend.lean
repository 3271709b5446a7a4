/- A call to which rows of one's own are lent. No condition. -/
import Derived.Test.YtmocpfgfjeaelaaGreatCall2
set_option linter.unusedVariables false
set_option linter.unusedSimpArgs false
namespace Go.Flat
def yS (σ:Nat->Option Entry):(T:Ty)->T.den->List (Option Nat)->Prop
 | .list t,l,ids=>(ids=[none]/\l=[])\/∃ id o,ids=[some id]/\σ id=some (.arr t l o)/\o ≠ .frozen
 | .bR t,l,ids=>(ids=[none]/\l=[])\/∃ id n,ids=[some id]/\σ id=some (.deep t l n)
 | .pair a b,x,ids=>∃ p q,ids=p++q/\yS σ a x.1 p/\yS σ b x.2 q
 | .bool,_,ids=>ids=[]
 | .int _,_,ids=>ids=[]
 | .str,_,ids=>ids=[]
 | .unit,_,ids=>ids=[]
def YL (e:Entry):Prop:=(∃ u l o,e=.arr u l o/\o ≠ .frozen)\/∃ u l n,e=.deep u l n
theorem yS.live {σ:Nat->Option Entry}:∀ {T:Ty} {x:T.den} {ids:List (Option Nat)},yS σ T x ids->∀ id,some id ∈ ids->∃ e,σ id=some e/\YL e
 | .list t,l,ids,h,id,hid=>by
  rcases h with ⟨rfl,_⟩ | ⟨j,o,rfl,h1,h2⟩
  ·simp at hid
  ·simp at hid;subst hid;exact ⟨_,h1,.inl ⟨t,l,o,rfl,h2⟩⟩
 | .bR t,l,ids,h,id,hid=>by
  rcases h with ⟨rfl,_⟩ | ⟨j,o,rfl,h1⟩
  ·simp at hid
  ·simp at hid;subst hid;exact ⟨_,h1,.inr ⟨t,l,o,rfl⟩⟩
 | .pair a b,x,ids,⟨p,q,e,h1,h2⟩,id,hid=>by
  subst e
  rcases List.mem_append.1 hid with hid | hid
  ·exact h1.live id hid
  ·exact h2.live id hid
 | .bool,_,ids,h,id,hid=>by have h:ids=[]:=h;subst h;simp at hid
 | .int _,_,ids,h,id,hid=>by have h:ids=[]:=h;subst h;simp at hid
 | .str,_,ids,h,id,hid=>by have h:ids=[]:=h;subst h;simp at hid
 | .unit,_,ids,h,id,hid=>by have h:ids=[]:=h;subst h;simp at hid
theorem OT {σ:Nat->Option Entry} {a b:Ty} {cs:List Cell}:lC σ (.pair a b) cs=match lC σ a cs with
  | some (x,r,ids)=>(match lC σ b r with
   | some (y,r',qE)=>some ((x,y),r',ids++qE)
   | none=>none)
  | none=>none:=by cases cs <;> rfl
theorem Rp {M:Mem} (hM:pI M):∀ {T:Ty} {cs:List Cell} {x:T.den} {rest:List Cell} {ids:List (Option Nat)} {vs:List Value},lC M.ak T cs=some (x,rest,ids)->aH M cs vs->
  ∃ ws us,vs=ws++us/\cZ true M.G M.h T x ws (ids.map fun j=>j.bind M.pl)/\aH M rest us/\yS M.ak T x ids:=by
 intro T
 induction T with
 | bool=>
  intro cs x rest ids vs h hc
  cases cs with
  | nil=>simp [lC,aF] at h
  | cons c cs=>
   obtain ⟨v,us,rfl,hv,_,hs⟩:=hc.cons
   cases c <;> simp [lC,aF] at h
   case bool b=>obtain ⟨rfl,rfl,rfl⟩:=h;exact ⟨[v],us,rfl,⟨rfl,by rw [show v=.bool b from hv]⟩,hs,rfl⟩
   case prop p d=>obtain ⟨rfl,rfl,rfl⟩:=h;exact ⟨[v],us,rfl,⟨rfl,by rw [show v=.bool (@decide p d) from hv]⟩,hs,rfl⟩
 | int k=>
  intro cs x rest ids vs h hc
  cases cs with
  | nil=>simp [lC,aF] at h
  | cons c cs=>
   obtain ⟨v,us,rfl,hv,_,hs⟩:=hc.cons
   cases c <;> simp only [lC,aF] at h <;> try (cases h;done)
   case int k' n=>
    by_cases hk:k'=k
    ·subst hk
     simp at h
     obtain ⟨rfl,rfl,rfl⟩:=h
     exact ⟨[v],us,rfl,⟨rfl,by rw [show v=.int k' _ from hv]⟩,hs,rfl⟩
    ·rw [if_neg hk] at h;cases h
 | str=>
  intro cs x rest ids vs h hc
  cases cs with
  | nil=>simp [lC,aF] at h
  | cons c cs=>
   obtain ⟨v,us,rfl,hv,_,hs⟩:=hc.cons
   cases c <;> simp [lC,aF] at h
   case str b=>obtain ⟨rfl,rfl,rfl⟩:=h;exact ⟨[v],us,rfl,⟨rfl,by rw [show v=.string b from hv]⟩,hs,rfl⟩
 | unit=>
  intro cs x rest ids vs h hc
  have h:some ((),cs,([]:List (Option Nat)))=some (x,rest,ids):=by
   cases cs with
   | nil=>simpa [lC,aF] using h
   | cons c cs=>cases c <;> simpa [lC,aF] using h
  simp at h
  obtain ⟨rfl,rfl⟩:=h
  exact ⟨[],vs,rfl,⟨rfl,rfl⟩,hc,rfl⟩
 | pair a b iha ihb=>
  intro cs x rest ids vs h hc
  rw [OT] at h
  cases h1:lC M.ak a cs with
  | none=>simp [h1] at h
  | some r1=>
   obtain ⟨x1,wz,KP⟩:=r1
   simp only [h1] at h
   cases h2:lC M.ak b wz with
   | none=>simp [h2] at h
   | some r2=>
    obtain ⟨x2,uq,KQ⟩:=r2
    simp [h2] at h
    obtain ⟨rfl,rfl,rfl⟩:=h
    obtain ⟨ws,us,rfl,k1,k2,k3⟩:=iha h1 hc
    obtain ⟨ws',us',rfl,k4,k5,k6⟩:=ihb h2 k2
    exact ⟨ws++ws',us',by simp,⟨ws,ws',_,_,rfl,by simp,k1,k4⟩,k5,KP,KQ,rfl,k3,k6⟩
 | list t ih=>
  intro cs x rest ids vs h hc
  cases cs with
  | nil=>simp [lC] at h
  | cons c cs=>
   obtain ⟨v,us,rfl,hv,hv1,hs⟩:=hc.cons
   cases c <;> simp only [lC] at h <;> try (cases h;done)
   case nil=>
    simp at h
    obtain ⟨rfl,rfl,rfl⟩:=h
    refine ⟨[v],us,rfl, ?_,hs,.inl ⟨rfl,rfl⟩⟩
    simp only [cZ,if_true]
    exact ⟨v,none,rfl,rfl,⟨rfl,hv⟩,rfl,fun q hq=>by cases hq⟩
   case ref id=>
    obtain ⟨u,l',o,hst,hsl⟩:=hv
    rw [hst] at h
    simp only at h
    split at h
    ·cases h
    ·rename_i ho
     obtain ⟨y,hy,he⟩:=Option.map_eq_some_iff.1 h
     simp at he
     obtain ⟨rfl,rfl,rfl⟩:=he
     obtain ⟨rfl,rfl⟩:=gQ hy
     refine ⟨[v],us,rfl, ?_,hs,.inr ⟨id,o,rfl,hst,ho⟩⟩
     simp only [cZ,if_true]
     exact ⟨v,M.pl id,rfl,rfl,hsl,(hM.ent id _ hst).1,fun q hq=>((hM.ent id _ hst).2 q hq).1.2⟩
 | bR t ih=>
  intro cs x rest ids vs h hc
  cases cs with
  | nil=>simp [lC] at h
  | cons c cs=>
   obtain ⟨v,us,rfl,hv,hv1,hs⟩:=hc.cons
   cases c <;> simp only [lC] at h <;> try (cases h;done)
   case nil=>
    simp at h
    obtain ⟨rfl,rfl,rfl⟩:=h
    exact ⟨[v],us,rfl,jf.2 ⟨v,none,rfl,rfl,⟨rfl,hv⟩,rfl⟩,hs,.inl ⟨rfl,rfl⟩⟩
   case mY id=>
    obtain ⟨u,l',o,hst,hsl⟩:=hv
    rw [hst] at h
    simp only at h
    obtain ⟨y,hy,he⟩:=Option.map_eq_some_iff.1 h
    simp at he
    obtain ⟨rfl,rfl,rfl⟩:=he
    obtain ⟨rfl,rfl⟩:=gQ hy
    exact ⟨[v],us,rfl,jf.2 ⟨v,M.pl id,rfl,rfl,hsl,(hM.ent id _ hst).1⟩,hs,.inr ⟨id,o,rfl,hst⟩⟩
def XD (G:Nat->Prop) (h0 h:Array Obj) (e e':Entry) (π:Option Pl):Prop:=
 (∃ u l l' o,e=.arr u l o/\o ≠ .frozen/\e'=.arr u l' o/\l'.length=l.length/\pR G h u l' π) \/
 ∃ u l l' n,e=.deep u l n/\e'=.deep u l' n/\l'.length=l.length/\pF G h u l' π/\∀ p,π=some p->∀ i off,i<l.length->(pE u)[off]? = some true->hcell h p.b (p.o+i*u.sz+off)=hcell h0 p.b (p.o+i*u.sz+off)
theorem XD.bs {G:Nat->Prop} {h0 h:Array Obj} {e e':Entry} {π:Option Pl} (b:XD G h0 h e e' π) (p:Pl):e'.bs p=e.bs p:=by
 rcases b with ⟨_,_,_,_,rfl,_,rfl,_⟩ | ⟨_,_,_,_,rfl,rfl,_⟩ <;> rfl
theorem yT {G:Nat->Prop} {h0 hp:Array Obj} {pl:Nat->Option Pl} {σ:Nat->Option Entry}:∀ {T:Ty} {x:T.den} {z:T.rows.den} {ids rest uq:List (Option Nat)} {s s2:St},yS σ T x ids->(∀ id,some id ∈ ids->s.ak id=σ id)->(ids.filterMap id).Nodup->
  yt G h0 hp T x z (ids.map fun j=>j.bind pl)->setRows T z (ids++rest) s=some (s2,uq)->
  uq=rest/\s2.env=s.env/\s2.n=s.n/\(∀ j,some j ∉ ids->s2.ak j=s.ak j)/\∀ j,some j ∈ ids->∃ e e',σ j=some e/\s2.ak j=some e'/\XD G h0 hp e e' (pl j)
 | .list t,l,z,ids,rest,uq,s,s2,hr,hs,hn,hb,h=>by
  rcases hr with ⟨rfl,rfl⟩ | ⟨id,o,rfl,h1,h2⟩
  ·simp [setRows] at h
   obtain ⟨rfl,rfl⟩:=h
   exact ⟨rfl,rfl,rfl,fun j _=>rfl,fun j hj=>by simp at hj⟩
  ·have VH:=hs id (by simp)
   rw [h1] at VH
   simp only [List.cons_append,List.nil_append,setRows,VH,dif_pos] at h
   simp at h
   obtain ⟨rfl,rfl⟩:=h
   obtain ⟨π,hpp,ha,hl⟩:=hb
   simp at hpp
   subst hpp
   refine ⟨rfl,rfl,rfl,fun j hj=>?_,fun j hj=>?_⟩
   ·have hne:j ≠ id:=fun e=>hj (by simp [e])
    exact upd_ne _ _ hne
   ·simp at hj
    subst hj
    exact ⟨_,_,h1,upd_same _ _ _,.inl ⟨t,l,z,o,rfl,h2,rfl,hl,ha⟩⟩
 | .bR t,l,z,ids,rest,uq,s,s2,hr,hs,hn,hb,h=>by
  rcases hr with ⟨rfl,rfl⟩ | ⟨id,o,rfl,h1⟩
  ·simp [setRows] at h
   obtain ⟨rfl,rfl⟩:=h
   exact ⟨rfl,rfl,rfl,fun j _=>rfl,fun j hj=>by simp at hj⟩
  ·have VH:=hs id (by simp)
   rw [h1] at VH
   simp only [List.cons_append,List.nil_append,setRows,VH,dif_pos] at h
   simp at h
   obtain ⟨rfl,rfl⟩:=h
   obtain ⟨π,hpp,ha,hl,hc⟩:=hb
   simp at hpp
   subst hpp
   refine ⟨rfl,rfl,rfl,fun j hj=>?_,fun j hj=>?_⟩
   ·have hne:j ≠ id:=fun e=>hj (by simp [e])
    exact upd_ne _ _ hne
   ·simp at hj
    subst hj
    exact ⟨_,_,h1,upd_same _ _ _,.inr ⟨t,l,z,o,rfl,rfl,hl,ha,hc⟩⟩
 | .pair a b,x,z,ids,rest,uq,s,s2,hr,hs,hn,hb,h=>by
  obtain ⟨p,q,rfl,r1,r2⟩:=hr
  obtain ⟨pp,qq,hpq,b1,b2⟩:=hb
  have hlen:∀ {T:Ty} {x:T.den} {z:T.rows.den} {ids:List (Option Nat)} {ps:List (Option Pl)},yS σ T x ids->yt G h0 hp T x z ps->ps.length=ids.length:=by
   intro T
   induction T with
   | list t _=>
    intro x z ids ps h1 h2
    obtain ⟨π,rfl,_⟩:=h2
    rcases h1 with ⟨rfl,_⟩ | ⟨_,_,rfl,_⟩ <;> rfl
   | bR t _=>
    intro x z ids ps h1 h2
    obtain ⟨π,rfl,_⟩:=h2
    rcases h1 with ⟨rfl,_⟩ | ⟨_,_,rfl,_⟩ <;> rfl
   | pair a b iha ihb=>
    intro x z ids ps h1 h2
    obtain ⟨_,_,rfl,h3,h4⟩:=h1
    obtain ⟨_,_,rfl,h5,h6⟩:=h2
    simp [iha h3 h5,ihb h4 h6]
   | bool=>intro x z ids ps h1 h2;have h1:ids=[]:=h1;have h2:ps=[]:=h2;subst h1 h2;rfl
   | int k=>intro x z ids ps h1 h2;have h1:ids=[]:=h1;have h2:ps=[]:=h2;subst h1 h2;rfl
   | str=>intro x z ids ps h1 h2;have h1:ids=[]:=h1;have h2:ps=[]:=h2;subst h1 h2;rfl
   | unit=>intro x z ids ps h1 h2;have h1:ids=[]:=h1;have h2:ps=[]:=h2;subst h1 h2;rfl
  rw [List.map_append] at hpq
  have hl:=hlen r1 b1
  obtain ⟨e1,e2⟩:=List.append_inj hpq (by simp [hl])
  subst e1 e2
  simp only [setRows] at h
  rw [List.append_assoc] at h
  cases h1:setRows a z.1 (p++(q++rest)) s with
  | none=>rw [h1] at h;cases h
  | some y=>
   obtain ⟨s1,r'⟩:=y
   rw [h1] at h
   simp only at h
   rw [List.filterMap_append] at hn
   obtain ⟨n1,n2,n3⟩:=List.nodup_append.1 hn
   obtain ⟨rfl,e1,e2,k1,k2⟩:=yT (rest:=q++rest) r1 (fun id hid=>hs id (List.mem_append_left _ hid)) n1 b1 h1
   have Np:∀ j,some j ∈ q->some j ∉ p:=fun j hj hpp=>n3 j (List.mem_filterMap.2 ⟨some j,hpp,rfl⟩) j (List.mem_filterMap.2 ⟨some j,hj,rfl⟩) rfl
   obtain ⟨rfl,e3,e4,k3,k4⟩:=yT r2 (fun id hid=>(k1 id (Np id hid)).trans (hs id (List.mem_append_right _ hid))) n2 b2 h
   refine ⟨rfl,e3.trans e1,e4.trans e2,fun j hj=>?_,fun j hj=>?_⟩
   ·have hj:some j ∉ p/\some j ∉ q:=by simpa using hj
    exact (k3 j hj.2).trans (k1 j hj.1)
   ·by_cases hq:some j ∈ q
    ·exact k4 j hq
    ·have hpp:some j ∈ p:=by simpa [hq] using hj
     obtain ⟨e,e',m1,m2,m3⟩:=k2 j hpp
     exact ⟨e,e',m1,(k3 j hq).trans m2,m3⟩
 | .bool,x,z,ids,rest,uq,s,s2,hr,hs,hn,hb,h=>by
  have hr:ids=[]:=hr
  subst hr
  simp [setRows] at h
  obtain ⟨rfl,rfl⟩:=h
  exact ⟨rfl,rfl,rfl,fun j _=>rfl,fun j hj=>by simp at hj⟩
 | .int k,x,z,ids,rest,uq,s,s2,hr,hs,hn,hb,h=>by
  have hr:ids=[]:=hr
  subst hr
  simp [setRows] at h
  obtain ⟨rfl,rfl⟩:=h
  exact ⟨rfl,rfl,rfl,fun j _=>rfl,fun j hj=>by simp at hj⟩
 | .str,x,z,ids,rest,uq,s,s2,hr,hs,hn,hb,h=>by
  have hr:ids=[]:=hr
  subst hr
  simp [setRows] at h
  obtain ⟨rfl,rfl⟩:=h
  exact ⟨rfl,rfl,rfl,fun j _=>rfl,fun j hj=>by simp at hj⟩
 | .unit,x,z,ids,rest,uq,s,s2,hr,hs,hn,hb,h=>by
  have hr:ids=[]:=hr
  subst hr
  simp [setRows] at h
  obtain ⟨rfl,rfl⟩:=h
  exact ⟨rfl,rfl,rfl,fun j _=>rfl,fun j hj=>by simp at hj⟩
theorem Inv.VI {F0:lS} {G G' A:Nat->Prop} {s s2:St} {a:Act} {w w':World} {pl:Nat->Option Pl} (i:Inv F0 G s a w pl) {XE:List Nat} (he:s2.env=s.env) (hn:s2.n=s.n) (hout:∀ j,j ∉ XE->s2.ak j=s.ak j)
  (hin:∀ j,j ∈ XE->∃ e e',s.ak j=some e/\s2.ak j=some e'/\XD G' w.heap w'.heap e e' (pl j)/\∀ p,pl j=some p->∀ b ∈ e.bs p,¬ G' b/\b<w'.heap.size)
  (pq:∀ b,F0 b\/G b->A b) (xU:∀ id e p,id ∉ XE->s.ak id=some e->pl id=some p->∀ b ∈ e.bs p,A b)
  (hsz:w.heap.size<=w'.heap.size) (hstr:Str F0.mono w w') (hh:∀ b,A b->w'.heap[b]? = w.heap[b]?)
  (hG:∀ b,G b->G' b) (hnew:∀ b,G' b->G b\/(¬ A b/\b<w'.heap.size)):Inv F0 G' s2 a w' pl/\Fr F0 G w G' w':=by
 have g:Goes (fun _=>False) (mem F0 G w.heap s.ak pl) (mem F0 G' w'.heap s2.ak pl):=
  ⟨fun b hb=>hb.imp id (hG b),hG,i.ak.gf,fun b hb=>hh b (pq b hb),fun j e _ FY=>by
   by_cases hj:j ∈ XE
   ·obtain ⟨e0,e',h1,h2,h3,_⟩:=hin j hj
    rw [show s.ak j=some e from FY] at h1
    cases h1
    refine ⟨_,h2, ?_,jo.refl _⟩
    rcases h3 with ⟨u,l,l',o,rfl,_,rfl,h4,_⟩ | ⟨u,l,l',n,rfl,rfl,h4,_⟩
    ·exact ⟨rfl,h4.symm⟩
    ·exact ⟨rfl,h4.symm,rfl⟩
   ·exact ⟨e,(hout j hj).trans FY,e.lZ,jo.refl _⟩,rfl⟩
 have old:∀ {j e},s2.ak j=some e->∃ e',s.ak j=some e'/\∀ p,e.bs p=e'.bs p:=by
  intro j e hj
  by_cases hji:j ∈ XE
  ·obtain ⟨e0,e',h1,h2,h3,_⟩:=hin j hji
   rw [hj] at h2
   cases h2
   exact ⟨_,h1,h3.bs⟩
  ·exact ⟨e,(hout j hji).symm.trans hj,fun _=>rfl⟩
 refine ⟨i.slots g he hn ⟨fun b hb=>.inr hb,fun b hb=>?_,fun j e FY=>?_,fun x y ex ey p q hx hy hxy hp hq=>?_,fun j t l n hj=>?_,fun j t l n hj=>?_⟩,fun b hb=>hh b (pq b hb),hG,fun b hb hf=>?_,hsz,hstr⟩
 ·rcases hb with hb | hb
  ·exact Nat.lt_of_lt_of_le (i.ak.lt b (.inl hb)) hsz
  ·rcases hnew b hb with h | h
   ·exact Nat.lt_of_lt_of_le (i.ak.lt b (.inr h)) hsz
   ·exact h.2
 ·by_cases hj:j ∈ XE
  ·obtain ⟨e0,e',h1,h2,h3,h6⟩:=hin j hj
   have FY:s2.ak j=some e:=FY
   rw [h2] at FY
   cases FY
   have hent:=i.ak.ent j _ h1
   rcases h3 with ⟨u,l,l',o,rfl,ho,rfl,h4,h5⟩ | ⟨u,l,l',n,rfl,rfl,h4,h5,h7⟩
   ·refine ⟨h5,fun p hp=>⟨⟨fun ho'=>absurd ho' ho,(hent.2 p hp).1.2⟩,fun _ hF=>?_⟩⟩
    rcases hF with hF | hF
    ·exact (hent.2 p hp).2 ho (.inl hF)
    ·exact (h6 p hp p.b (by simp [Entry.bs])).1 hF
   ·refine ⟨h5,fun p hp=>⟨fun b hb=>⟨(h6 p hp b hb).2,fun hF=>?_⟩,fun k hk i' off hi hfl=>?_⟩⟩
    ·rcases hF with hF | hF
     ·exact ((hent.2 p hp).1 b hb).2 (.inl hF)
     ·exact (h6 p hp b hb).1 hF
    ·rw [h4] at hi
     have h8:=(hent.2 p hp).2 k hk i' off hi hfl
     exact (h7 p hp i' off hi hfl).trans h8
  ·have Zx:s.ak j=some e:=(hout j hj).symm.trans FY
   refine g.entry (fun p hp b hb=>hh _ (xU j e p hj Zx hp b hb)) (fun p hp b hb hnF hF'=>?_) (fun _ _ h=>h) (i.ak.ent j e Zx)
   rcases hF' with h | h
   ·exact hnF (.inl h)
   ·rcases hnew _ h with h | h
    ·exact hnF (.inr h)
    ·exact h.1 (xU j e p hj Zx hp b hb)
 ·obtain ⟨ex',hx',e1⟩:=old hx
  obtain ⟨Oz,hy',e2⟩:=old hy
  rw [e1,e2]
  exact i.ak.apart' x y ex' Oz p q hx' hy' hxy hp hq
 ·by_cases hji:j ∈ XE
  ·obtain ⟨e0,e',h1,h2,h3,_⟩:=hin j hji
   have hj:s2.ak j=some (.arr t l (.pinned n)):=hj
   rw [h2] at hj
   cases hj
   rcases h3 with ⟨u,l0,l',o,rfl,ho,e,h4,h5⟩ | ⟨u,l0,l',n,rfl,e,_⟩
   ·cases e
    obtain ⟨k1,k2⟩:=i.ak.pin j t l0 n h1
    exact ⟨k1,h4.trans k2⟩
   ·cases e
  ·exact i.ak.pin j t l n ((hout j hji).symm.trans hj)
 ·by_cases hji:j ∈ XE
  ·obtain ⟨e0,e',h1,h2,h3,_⟩:=hin j hji
   have hj:s2.ak j=some (.deep t l (some n)):=hj
   rw [h2] at hj
   cases hj
   rcases h3 with ⟨u,l0,l',o,rfl,ho,e,h4,h5⟩ | ⟨u,l0,l',n',rfl,e,h4,_⟩
   ·cases e
   ·cases e
    obtain ⟨k1,k2⟩:=i.ak.Dz j t l0 n h1
    exact ⟨k1,h4.trans k2⟩
  ·exact i.ak.Dz j t l n ((hout j hji).symm.trans hj)
 ·rcases hnew b hb with h | h
  ·exact h
  ·exact absurd (pq b (.inl hf)) h.1
theorem yU {C:dh} {F0:lS} {A G:Nat->Prop} {s:St} {a:Act} {w:World} {pl:Nat->Option Pl} (i:Inv F0 G s a w pl) (pq:∀ b,F0 b\/G b->A b) (xU:∀ id e p,s.ak id=some e->pl id=some p->∀ b ∈ e.bs p,A b)
  {x:Nat} {b:Arg}:∀ {ts:List TypeId} {vs:List aJ} {n:Nat} {as:List Arg} {us:List Value},
  kX C s x b n ts vs=some as->us.length=vs.length->(∀ (j:Nat) c u,vs[j]? = some c->us[j]? = some u->eY (mem F0 G w.heap s.ak pl) c u)->vs.any (fun v=>v.cells.any (kW s))=false->
  us.length=as.length/\(∀ j a' u,n+j ≠ x->as[j]? = some a'->us[j]? = some u->a'.sO=false/\ArgRel A G w.heap a' u)/\∀ j,n+j=x->j<as.length->as[j]? = some b
 | ts,[],n,as,us,h,hl,_,_=>by
  have:as=[]:=by cases ts <;> simpa [kX] using h.symm
  subst this
  exact ⟨hl,fun j a' u _ hj=>by simp at hj,fun j _ hj=>by simp at hj⟩
 | [],v :: vs,n,as,us,h,hl,_,_=>by simp [kX] at h
 | t :: ts,v :: vs,n,as,us,h,hl,hr,hdp=>by
  rw [List.any_cons,Bool.or_eq_false_iff] at hdp
  simp only [kX] at h
  split at h
  ·rename_i y rest hy hrest
   simp at h
   subst h
   cases us with
   | nil=>simp at hl
   | cons u us=>
    obtain ⟨k1,k2,k3⟩:=yU i pq xU hrest (by simpa using hl) (fun j c u' hj hu=>hr (j+1) c u' (by simpa using hj) (by simpa using hu)) hdp.2
    refine ⟨by simp [k1],fun j a' u' hne hj hu=>?_,fun j hj hlt=>?_⟩
    ·cases j with
     | succ j=>exact k2 j a' u' (by omega) (by simpa using hj) (by simpa using hu)
     | zero=>
      simp at hj hu
      subst hj hu
      have hb:Nat.beq n x=false:=by
       cases hb:Nat.beq n x with
       | false=>rfl
       | true=>exact absurd (Nat.eq_of_beq_eq_true hb) (by simpa using hne)
      rw [hb] at hy
      simp only [cond_false] at hy
      exact ⟨OM hy,OQ i (fun _ h=>h) pq xU (hr 0 v u rfl rfl) hy (fun b hb=>pq b (.inr hb)) (fun h=>by rw [hdp.1] at h;cases h)⟩
    ·cases j with
     | succ j=>simpa using k3 j (by omega) (by simpa using hlt)
     | zero=>
      have:Nat.beq n x=true:=by rw [show n=x by simpa using hj];simp
      rw [this] at hy
      simp only [cond_true,Option.some.injEq] at hy
      simp [hy]
  ·cases h
end Go.Flat
