/- A call to which rows of one's own are lent. No condition. -/
import Derived.Test.YtmocpfgfjeaelaaGreatCall2
set_option linter.unusedVariables false
set_option linter.unusedSimpArgs false
namespace Go.Flat
def vC (σ:Nat->Option Entry):(T:Ty)->T.den->List (Option Nat)->Prop
 | .list t,l,ids=>(ids=[none]/\l=[])\/∃ id o,ids=[some id]/\σ id=some (.arr t l o)/\o ≠ .frozen
 | .aG t,l,ids=>(ids=[none]/\l=[])\/∃ id n,ids=[some id]/\σ id=some (.deep t l n)
 | .pair a b,x,ids=>∃ p q,ids=p++q/\vC σ a x.1 p/\vC σ b x.2 q
 | .bool,_,ids=>ids=[]
 | .int _,_,ids=>ids=[]
 | .str,_,ids=>ids=[]
 | .unit,_,ids=>ids=[]
def Uu (e:Entry):Prop:=(∃ u l o,e=.arr u l o/\o ≠ .frozen)\/∃ u l n,e=.deep u l n
theorem vC.live {σ:Nat->Option Entry}:∀ {T:Ty} {x:T.den} {ids:List (Option Nat)},vC σ T x ids->∀ id,some id ∈ ids->∃ e,σ id=some e/\Uu e
 | .list t,l,ids,h,id,hid=>by
  rcases h with ⟨rfl,_⟩ | ⟨j,o,rfl,h1,h2⟩
  ·simp at hid
  ·simp at hid;subst hid;exact ⟨_,h1,.inl ⟨t,l,o,rfl,h2⟩⟩
 | .aG t,l,ids,h,id,hid=>by
  rcases h with ⟨rfl,_⟩ | ⟨j,o,rfl,h1⟩
  ·simp at hid
  ·simp at hid;subst hid;exact ⟨_,h1,.inr ⟨t,l,o,rfl⟩⟩
 | .pair a b,x,ids,⟨p,q,e,h1,h2⟩,id,hid=>by
  subst e
  rcases List.mem_append.1 hid with hid | hid
  ·exact h1.live id hid
  ·exact h2.live id hid
 | .bool,_,ids,h,id,hid=>by have h:ids=[]:=h;subst h;simp at hid
 | .int _,_,ids,h,id,hid=>by have h:ids=[]:=h;subst h;simp at hid
 | .str,_,ids,h,id,hid=>by have h:ids=[]:=h;subst h;simp at hid
 | .unit,_,ids,h,id,hid=>by have h:ids=[]:=h;subst h;simp at hid
theorem LU {σ:Nat->Option Entry} {a b:Ty} {cs:List Cell}:jS σ (.pair a b) cs=match jS σ a cs with
  | some (x,r,ids)=>(match jS σ b r with
   | some (y,r',iQ)=>some ((x,y),r',ids++iQ)
   | none=>none)
  | none=>none:=by cases cs <;> rfl
theorem NV {M:Mem} (hM:lg M):∀ {T:Ty} {cs:List Cell} {x:T.den} {rest:List Cell} {ids:List (Option Nat)} {vs:List Value},jS M.aj T cs=some (x,rest,ids)->ay M cs vs->
  ∃ ws us,vs=ws++us/\aW true M.G M.h T x ws (ids.map fun j=>j.bind M.pl)/\ay M rest us/\vC M.aj T x ids:=by
 intro T
 induction T with
 | bool=>
  intro cs x rest ids vs h hc
  cases cs with
  | nil=>simp [jS,au] at h
  | cons c cs=>
   obtain ⟨v,us,rfl,hv,_,hs⟩:=hc.cons
   cases c <;> simp [jS,au] at h
   case bool b=>obtain ⟨rfl,rfl,rfl⟩:=h;exact ⟨[v],us,rfl,⟨rfl,by rw [show v=.bool b from hv]⟩,hs,rfl⟩
   case prop p d=>obtain ⟨rfl,rfl,rfl⟩:=h;exact ⟨[v],us,rfl,⟨rfl,by rw [show v=.bool (@decide p d) from hv]⟩,hs,rfl⟩
 | int k=>
  intro cs x rest ids vs h hc
  cases cs with
  | nil=>simp [jS,au] at h
  | cons c cs=>
   obtain ⟨v,us,rfl,hv,_,hs⟩:=hc.cons
   cases c <;> simp only [jS,au] at h <;> try (cases h;done)
   case int k' n=>
    by_cases hk:k'=k
    ·subst hk
     simp at h
     obtain ⟨rfl,rfl,rfl⟩:=h
     exact ⟨[v],us,rfl,⟨rfl,by rw [show v=.int k' _ from hv]⟩,hs,rfl⟩
    ·rw [if_neg hk] at h;cases h
 | str=>
  intro cs x rest ids vs h hc
  cases cs with
  | nil=>simp [jS,au] at h
  | cons c cs=>
   obtain ⟨v,us,rfl,hv,_,hs⟩:=hc.cons
   cases c <;> simp [jS,au] at h
   case str b=>obtain ⟨rfl,rfl,rfl⟩:=h;exact ⟨[v],us,rfl,⟨rfl,by rw [show v=.string b from hv]⟩,hs,rfl⟩
 | unit=>
  intro cs x rest ids vs h hc
  have h:some ((),cs,([]:List (Option Nat)))=some (x,rest,ids):=by
   cases cs with
   | nil=>simpa [jS,au] using h
   | cons c cs=>cases c <;> simpa [jS,au] using h
  simp at h
  obtain ⟨rfl,rfl⟩:=h
  exact ⟨[],vs,rfl,⟨rfl,rfl⟩,hc,rfl⟩
 | pair a b iha ihb=>
  intro cs x rest ids vs h hc
  rw [LU] at h
  cases h1:jS M.aj a cs with
  | none=>simp [h1] at h
  | some r1=>
   obtain ⟨x1,rz,Ib⟩:=r1
   simp only [h1] at h
   cases h2:jS M.aj b rz with
   | none=>simp [h2] at h
   | some r2=>
    obtain ⟨x2,pQ,Ic⟩:=r2
    simp [h2] at h
    obtain ⟨rfl,rfl,rfl⟩:=h
    obtain ⟨ws,us,rfl,k1,k2,k3⟩:=iha h1 hc
    obtain ⟨ws',us',rfl,k4,k5,k6⟩:=ihb h2 k2
    exact ⟨ws++ws',us',by simp,⟨ws,ws',_,_,rfl,by simp,k1,k4⟩,k5,Ib,Ic,rfl,k3,k6⟩
 | list t ih=>
  intro cs x rest ids vs h hc
  cases cs with
  | nil=>simp [jS] at h
  | cons c cs=>
   obtain ⟨v,us,rfl,hv,hv1,hs⟩:=hc.cons
   cases c <;> simp only [jS] at h <;> try (cases h;done)
   case nil=>
    simp at h
    obtain ⟨rfl,rfl,rfl⟩:=h
    refine ⟨[v],us,rfl, ?_,hs,.inl ⟨rfl,rfl⟩⟩
    simp only [aW,if_true]
    exact ⟨v,none,rfl,rfl,⟨rfl,hv⟩,rfl,fun q hq=>by cases hq⟩
   case ref id=>
    obtain ⟨u,l',o,hst,hsl⟩:=hv
    rw [hst] at h
    simp only at h
    split at h
    ·cases h
    ·rename_i ho
     obtain ⟨y,hy,he⟩:=Option.map_eq_some_iff.1 h
     simp at he
     obtain ⟨rfl,rfl,rfl⟩:=he
     obtain ⟨rfl,rfl⟩:=bG hy
     refine ⟨[v],us,rfl, ?_,hs,.inr ⟨id,o,rfl,hst,ho⟩⟩
     simp only [aW,if_true]
     exact ⟨v,M.pl id,rfl,rfl,hsl,(hM.ent id _ hst).1,fun q hq=>((hM.ent id _ hst).2 q hq).1.2⟩
 | aG t ih=>
  intro cs x rest ids vs h hc
  cases cs with
  | nil=>simp [jS] at h
  | cons c cs=>
   obtain ⟨v,us,rfl,hv,hv1,hs⟩:=hc.cons
   cases c <;> simp only [jS] at h <;> try (cases h;done)
   case nil=>
    simp at h
    obtain ⟨rfl,rfl,rfl⟩:=h
    exact ⟨[v],us,rfl,fC.2 ⟨v,none,rfl,rfl,⟨rfl,hv⟩,rfl⟩,hs,.inl ⟨rfl,rfl⟩⟩
   case fE id=>
    obtain ⟨u,l',o,hst,hsl⟩:=hv
    rw [hst] at h
    simp only at h
    obtain ⟨y,hy,he⟩:=Option.map_eq_some_iff.1 h
    simp at he
    obtain ⟨rfl,rfl,rfl⟩:=he
    obtain ⟨rfl,rfl⟩:=bG hy
    exact ⟨[v],us,rfl,fC.2 ⟨v,M.pl id,rfl,rfl,hsl,(hM.ent id _ hst).1⟩,hs,.inr ⟨id,o,rfl,hst⟩⟩
def TA (G:Nat->Prop) (h0 h:Array Obj) (e e':Entry) (π:Option Pl):Prop:=
 (∃ u l l' o,e=.arr u l o/\o ≠ .frozen/\e'=.arr u l' o/\l'.length=l.length/\lS G h u l' π) \/
 ∃ u l l' n,e=.deep u l n/\e'=.deep u l' n/\l'.length=l.length/\iA G h u l' π/\∀ p,π=some p->∀ i off,i<l.length->(jq u)[off]? = some true->hcell h p.b (p.o+i*u.sz+off)=hcell h0 p.b (p.o+i*u.sz+off)
theorem TA.bs {G:Nat->Prop} {h0 h:Array Obj} {e e':Entry} {π:Option Pl} (b:TA G h0 h e e' π) (p:Pl):e'.bs p=e.bs p:=by
 rcases b with ⟨_,_,_,_,rfl,_,rfl,_⟩ | ⟨_,_,_,_,rfl,rfl,_⟩ <;> rfl
theorem vD {G:Nat->Prop} {h0 hp:Array Obj} {pl:Nat->Option Pl} {σ:Nat->Option Entry}:∀ {T:Ty} {x:T.den} {z:T.rows.den} {ids rest pQ:List (Option Nat)} {s s2:St},vC σ T x ids->(∀ id,some id ∈ ids->s.aj id=σ id)->(ids.filterMap id).Nodup->
  rD G h0 hp T x z (ids.map fun j=>j.bind pl)->setRows T z (ids++rest) s=some (s2,pQ)->
  pQ=rest/\s2.env=s.env/\s2.n=s.n/\(∀ j,some j ∉ ids->s2.aj j=s.aj j)/\∀ j,some j ∈ ids->∃ e e',σ j=some e/\s2.aj j=some e'/\TA G h0 hp e e' (pl j)
 | .list t,l,z,ids,rest,pQ,s,s2,hr,hs,hn,hb,h=>by
  rcases hr with ⟨rfl,rfl⟩ | ⟨id,o,rfl,h1,h2⟩
  ·simp [setRows] at h
   obtain ⟨rfl,rfl⟩:=h
   exact ⟨rfl,rfl,rfl,fun j _=>rfl,fun j hj=>by simp at hj⟩
  ·have RS:=hs id (by simp)
   rw [h1] at RS
   simp only [List.cons_append,List.nil_append,setRows,RS,dif_pos] at h
   simp at h
   obtain ⟨rfl,rfl⟩:=h
   obtain ⟨π,hpp,ha,hl⟩:=hb
   simp at hpp
   subst hpp
   refine ⟨rfl,rfl,rfl,fun j hj=>?_,fun j hj=>?_⟩
   ·have hne:j ≠ id:=fun e=>hj (by simp [e])
    exact upd_ne _ _ hne
   ·simp at hj
    subst hj
    exact ⟨_,_,h1,upd_same _ _ _,.inl ⟨t,l,z,o,rfl,h2,rfl,hl,ha⟩⟩
 | .aG t,l,z,ids,rest,pQ,s,s2,hr,hs,hn,hb,h=>by
  rcases hr with ⟨rfl,rfl⟩ | ⟨id,o,rfl,h1⟩
  ·simp [setRows] at h
   obtain ⟨rfl,rfl⟩:=h
   exact ⟨rfl,rfl,rfl,fun j _=>rfl,fun j hj=>by simp at hj⟩
  ·have RS:=hs id (by simp)
   rw [h1] at RS
   simp only [List.cons_append,List.nil_append,setRows,RS,dif_pos] at h
   simp at h
   obtain ⟨rfl,rfl⟩:=h
   obtain ⟨π,hpp,ha,hl,hc⟩:=hb
   simp at hpp
   subst hpp
   refine ⟨rfl,rfl,rfl,fun j hj=>?_,fun j hj=>?_⟩
   ·have hne:j ≠ id:=fun e=>hj (by simp [e])
    exact upd_ne _ _ hne
   ·simp at hj
    subst hj
    exact ⟨_,_,h1,upd_same _ _ _,.inr ⟨t,l,z,o,rfl,rfl,hl,ha,hc⟩⟩
 | .pair a b,x,z,ids,rest,pQ,s,s2,hr,hs,hn,hb,h=>by
  obtain ⟨p,q,rfl,r1,r2⟩:=hr
  obtain ⟨pp,qq,hpq,b1,b2⟩:=hb
  have hlen:∀ {T:Ty} {x:T.den} {z:T.rows.den} {ids:List (Option Nat)} {ps:List (Option Pl)},vC σ T x ids->rD G h0 hp T x z ps->ps.length=ids.length:=by
   intro T
   induction T with
   | list t _=>
    intro x z ids ps h1 h2
    obtain ⟨π,rfl,_⟩:=h2
    rcases h1 with ⟨rfl,_⟩ | ⟨_,_,rfl,_⟩ <;> rfl
   | aG t _=>
    intro x z ids ps h1 h2
    obtain ⟨π,rfl,_⟩:=h2
    rcases h1 with ⟨rfl,_⟩ | ⟨_,_,rfl,_⟩ <;> rfl
   | pair a b iha ihb=>
    intro x z ids ps h1 h2
    obtain ⟨_,_,rfl,h3,h4⟩:=h1
    obtain ⟨_,_,rfl,h5,h6⟩:=h2
    simp [iha h3 h5,ihb h4 h6]
   | bool=>intro x z ids ps h1 h2;have h1:ids=[]:=h1;have h2:ps=[]:=h2;subst h1 h2;rfl
   | int k=>intro x z ids ps h1 h2;have h1:ids=[]:=h1;have h2:ps=[]:=h2;subst h1 h2;rfl
   | str=>intro x z ids ps h1 h2;have h1:ids=[]:=h1;have h2:ps=[]:=h2;subst h1 h2;rfl
   | unit=>intro x z ids ps h1 h2;have h1:ids=[]:=h1;have h2:ps=[]:=h2;subst h1 h2;rfl
  rw [List.map_append] at hpq
  have hl:=hlen r1 b1
  obtain ⟨e1,e2⟩:=List.append_inj hpq (by simp [hl])
  subst e1 e2
  simp only [setRows] at h
  rw [List.append_assoc] at h
  cases h1:setRows a z.1 (p++(q++rest)) s with
  | none=>rw [h1] at h;cases h
  | some y=>
   obtain ⟨s1,r'⟩:=y
   rw [h1] at h
   simp only at h
   rw [List.filterMap_append] at hn
   obtain ⟨n1,n2,n3⟩:=List.nodup_append.1 hn
   obtain ⟨rfl,e1,e2,k1,k2⟩:=vD (rest:=q++rest) r1 (fun id hid=>hs id (List.mem_append_left _ hid)) n1 b1 h1
   have DW:∀ j,some j ∈ q->some j ∉ p:=fun j hj hpp=>n3 j (List.mem_filterMap.2 ⟨some j,hpp,rfl⟩) j (List.mem_filterMap.2 ⟨some j,hj,rfl⟩) rfl
   obtain ⟨rfl,e3,e4,k3,k4⟩:=vD r2 (fun id hid=>(k1 id (DW id hid)).trans (hs id (List.mem_append_right _ hid))) n2 b2 h
   refine ⟨rfl,e3.trans e1,e4.trans e2,fun j hj=>?_,fun j hj=>?_⟩
   ·have hj:some j ∉ p/\some j ∉ q:=by simpa using hj
    exact (k3 j hj.2).trans (k1 j hj.1)
   ·by_cases hq:some j ∈ q
    ·exact k4 j hq
    ·have hpp:some j ∈ p:=by simpa [hq] using hj
     obtain ⟨e,e',m1,m2,m3⟩:=k2 j hpp
     exact ⟨e,e',m1,(k3 j hq).trans m2,m3⟩
 | .bool,x,z,ids,rest,pQ,s,s2,hr,hs,hn,hb,h=>by
  have hr:ids=[]:=hr
  subst hr
  simp [setRows] at h
  obtain ⟨rfl,rfl⟩:=h
  exact ⟨rfl,rfl,rfl,fun j _=>rfl,fun j hj=>by simp at hj⟩
 | .int k,x,z,ids,rest,pQ,s,s2,hr,hs,hn,hb,h=>by
  have hr:ids=[]:=hr
  subst hr
  simp [setRows] at h
  obtain ⟨rfl,rfl⟩:=h
  exact ⟨rfl,rfl,rfl,fun j _=>rfl,fun j hj=>by simp at hj⟩
 | .str,x,z,ids,rest,pQ,s,s2,hr,hs,hn,hb,h=>by
  have hr:ids=[]:=hr
  subst hr
  simp [setRows] at h
  obtain ⟨rfl,rfl⟩:=h
  exact ⟨rfl,rfl,rfl,fun j _=>rfl,fun j hj=>by simp at hj⟩
 | .unit,x,z,ids,rest,pQ,s,s2,hr,hs,hn,hb,h=>by
  have hr:ids=[]:=hr
  subst hr
  simp [setRows] at h
  obtain ⟨rfl,rfl⟩:=h
  exact ⟨rfl,rfl,rfl,fun j _=>rfl,fun j hj=>by simp at hj⟩
theorem Inv.LV {F0:jo} {G G' A:Nat->Prop} {s s2:St} {a:Act} {w w':World} {pl:Nat->Option Pl} (i:Inv F0 G s a w pl) {Td:List Nat} (he:s2.env=s.env) (hn:s2.n=s.n) (hout:∀ j,j ∉ Td->s2.aj j=s.aj j)
  (hin:∀ j,j ∈ Td->∃ e e',s.aj j=some e/\s2.aj j=some e'/\TA G' w.heap w'.heap e e' (pl j)/\∀ p,pl j=some p->∀ b ∈ e.bs p,¬ G' b/\b<w'.heap.size)
  (lq:∀ b,F0 b\/G b->A b) (sF:∀ id e p,id ∉ Td->s.aj id=some e->pl id=some p->∀ b ∈ e.bs p,A b)
  (hsz:w.heap.size<=w'.heap.size) (hstr:Str F0.mono w w') (hh:∀ b,A b->w'.heap[b]? = w.heap[b]?)
  (hG:∀ b,G b->G' b) (hnew:∀ b,G' b->G b\/(¬ A b/\b<w'.heap.size)):Inv F0 G' s2 a w' pl/\Fr F0 G w G' w':=by
 have g:Goes (fun _=>False) (mem F0 G w.heap s.aj pl) (mem F0 G' w'.heap s2.aj pl):=
  ⟨fun b hb=>hb.imp id (hG b),hG,i.aj.gf,fun b hb=>hh b (lq b hb),fun j e _ La=>by
   by_cases hj:j ∈ Td
   ·obtain ⟨e0,e',h1,h2,h3,_⟩:=hin j hj
    rw [show s.aj j=some e from La] at h1
    cases h1
    refine ⟨_,h2, ?_,gQ.refl _⟩
    rcases h3 with ⟨u,l,l',o,rfl,_,rfl,h4,_⟩ | ⟨u,l,l',n,rfl,rfl,h4,_⟩
    ·exact ⟨rfl,h4.symm⟩
    ·exact ⟨rfl,h4.symm,rfl⟩
   ·exact ⟨e,(hout j hj).trans La,e.jh,gQ.refl _⟩,rfl⟩
 have old:∀ {j e},s2.aj j=some e->∃ e',s.aj j=some e'/\∀ p,e.bs p=e'.bs p:=by
  intro j e hj
  by_cases hji:j ∈ Td
  ·obtain ⟨e0,e',h1,h2,h3,_⟩:=hin j hji
   rw [hj] at h2
   cases h2
   exact ⟨_,h1,h3.bs⟩
  ·exact ⟨e,(hout j hji).symm.trans hj,fun _=>rfl⟩
 refine ⟨i.slots g he hn ⟨fun b hb=>.inr hb,fun b hb=>?_,fun j e La=>?_,fun x y ex ey p q hx hy hxy hp hq=>?_,fun j t l n hj=>?_,fun j t l n hj=>?_⟩,fun b hb=>hh b (lq b hb),hG,fun b hb hf=>?_,hsz,hstr⟩
 ·rcases hb with hb | hb
  ·exact Nat.lt_of_lt_of_le (i.aj.lt b (.inl hb)) hsz
  ·rcases hnew b hb with h | h
   ·exact Nat.lt_of_lt_of_le (i.aj.lt b (.inr h)) hsz
   ·exact h.2
 ·by_cases hj:j ∈ Td
  ·obtain ⟨e0,e',h1,h2,h3,h6⟩:=hin j hj
   have La:s2.aj j=some e:=La
   rw [h2] at La
   cases La
   have hent:=i.aj.ent j _ h1
   rcases h3 with ⟨u,l,l',o,rfl,ho,rfl,h4,h5⟩ | ⟨u,l,l',n,rfl,rfl,h4,h5,h7⟩
   ·refine ⟨h5,fun p hp=>⟨⟨fun ho'=>absurd ho' ho,(hent.2 p hp).1.2⟩,fun _ hF=>?_⟩⟩
    rcases hF with hF | hF
    ·exact (hent.2 p hp).2 ho (.inl hF)
    ·exact (h6 p hp p.b (by simp [Entry.bs])).1 hF
   ·refine ⟨h5,fun p hp=>⟨fun b hb=>⟨(h6 p hp b hb).2,fun hF=>?_⟩,fun k hk i' off hi hfl=>?_⟩⟩
    ·rcases hF with hF | hF
     ·exact ((hent.2 p hp).1 b hb).2 (.inl hF)
     ·exact (h6 p hp b hb).1 hF
    ·rw [h4] at hi
     have h8:=(hent.2 p hp).2 k hk i' off hi hfl
     exact (h7 p hp i' off hi hfl).trans h8
  ·have Vg:s.aj j=some e:=(hout j hj).symm.trans La
   refine g.entry (fun p hp b hb=>hh _ (sF j e p hj Vg hp b hb)) (fun p hp b hb hnF hF'=>?_) (fun _ _ h=>h) (i.aj.ent j e Vg)
   rcases hF' with h | h
   ·exact hnF (.inl h)
   ·rcases hnew _ h with h | h
    ·exact hnF (.inr h)
    ·exact h.1 (sF j e p hj Vg hp b hb)
 ·obtain ⟨ex',hx',e1⟩:=old hx
  obtain ⟨Ls,hy',e2⟩:=old hy
  rw [e1,e2]
  exact i.aj.apart' x y ex' Ls p q hx' hy' hxy hp hq
 ·by_cases hji:j ∈ Td
  ·obtain ⟨e0,e',h1,h2,h3,_⟩:=hin j hji
   have hj:s2.aj j=some (.arr t l (.pinned n)):=hj
   rw [h2] at hj
   cases hj
   rcases h3 with ⟨u,l0,l',o,rfl,ho,e,h4,h5⟩ | ⟨u,l0,l',n,rfl,e,_⟩
   ·cases e
    obtain ⟨k1,k2⟩:=i.aj.pin j t l0 n h1
    exact ⟨k1,h4.trans k2⟩
   ·cases e
  ·exact i.aj.pin j t l n ((hout j hji).symm.trans hj)
 ·by_cases hji:j ∈ Td
  ·obtain ⟨e0,e',h1,h2,h3,_⟩:=hin j hji
   have hj:s2.aj j=some (.deep t l (some n)):=hj
   rw [h2] at hj
   cases hj
   rcases h3 with ⟨u,l0,l',o,rfl,ho,e,h4,h5⟩ | ⟨u,l0,l',n',rfl,e,h4,_⟩
   ·cases e
   ·cases e
    obtain ⟨k1,k2⟩:=i.aj.yO j t l0 n h1
    exact ⟨k1,h4.trans k2⟩
  ·exact i.aj.yO j t l n ((hout j hji).symm.trans hj)
 ·rcases hnew b hb with h | h
  ·exact h
  ·exact absurd (lq b (.inl hf)) h.1
theorem rE {C:aZ} {F0:jo} {A G:Nat->Prop} {s:St} {a:Act} {w:World} {pl:Nat->Option Pl} (i:Inv F0 G s a w pl) (lq:∀ b,F0 b\/G b->A b) (sF:∀ id e p,s.aj id=some e->pl id=some p->∀ b ∈ e.bs p,A b)
  {x:Nat} {b:Arg}:∀ {ts:List TypeId} {vs:List av} {n:Nat} {as:List Arg} {us:List Value},
  jC C s x b n ts vs=some as->us.length=vs.length->(∀ (j:Nat) c u,vs[j]? = some c->us[j]? = some u->dG (mem F0 G w.heap s.aj pl) c u)->vs.any (fun v=>v.cells.any (jK s))=false->
  us.length=as.length/\(∀ j a' u,n+j ≠ x->as[j]? = some a'->us[j]? = some u->a'.uq=false/\ArgRel A G w.heap a' u)/\∀ j,n+j=x->j<as.length->as[j]? = some b
 | ts,[],n,as,us,h,hl,_,_=>by
  have:as=[]:=by cases ts <;> simpa [jC] using h.symm
  subst this
  exact ⟨hl,fun j a' u _ hj=>by simp at hj,fun j _ hj=>by simp at hj⟩
 | [],v :: vs,n,as,us,h,hl,_,_=>by simp [jC] at h
 | t :: ts,v :: vs,n,as,us,h,hl,hr,hdp=>by
  rw [List.any_cons,Bool.or_eq_false_iff] at hdp
  simp only [jC] at h
  split at h
  ·rename_i y rest hy hrest
   simp at h
   subst h
   cases us with
   | nil=>simp at hl
   | cons u us=>
    obtain ⟨k1,k2,k3⟩:=rE i lq sF hrest (by simpa using hl) (fun j c u' hj hu=>hr (j+1) c u' (by simpa using hj) (by simpa using hu)) hdp.2
    refine ⟨by simp [k1],fun j a' u' hne hj hu=>?_,fun j hj hlt=>?_⟩
    ·cases j with
     | succ j=>exact k2 j a' u' (by omega) (by simpa using hj) (by simpa using hu)
     | zero=>
      simp at hj hu
      subst hj hu
      have hb:Nat.beq n x=false:=by
       cases hb:Nat.beq n x with
       | false=>rfl
       | true=>exact absurd (Nat.eq_of_beq_eq_true hb) (by simpa using hne)
      rw [hb] at hy
      simp only [cond_false] at hy
      exact ⟨LK hy,LQ i (fun _ h=>h) lq sF (hr 0 v u rfl rfl) hy (fun b hb=>lq b (.inr hb)) (fun h=>by rw [hdp.1] at h;cases h)⟩
    ·cases j with
     | succ j=>simpa using k3 j (by omega) (by simpa using hlt)
     | zero=>
      have:Nat.beq n x=true:=by rw [show n=x by simpa using hj];simp
      rw [this] at hy
      simp only [cond_true,Option.some.injEq] at hy
      simp [hy]
  ·cases h
end Go.Flat
