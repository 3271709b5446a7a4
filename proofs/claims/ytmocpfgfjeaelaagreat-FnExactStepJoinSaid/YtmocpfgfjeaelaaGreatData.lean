/- Typed data out of cells and back. No condition. -/
import Derived.Test.YtmocpfgfjeaelaaGreatRel
set_option linter.unusedVariables false
set_option linter.unusedSimpArgs false
namespace Go.Flat
theorem bG {t u:Ty} {l:List t.den} {l':List u.den} (h:bJ l=some l'):∃ e:t=u,e ▸ l=l':=by
 unfold bJ at h
 split at h
 ·rename_i e
  subst e
  exact ⟨rfl,by simpa using h⟩
 ·cases h
theorem ay.cons {M:Mem} {c:Cell} {cs:List Cell} {vs:List Value} (h:ay M (c :: cs) vs) :
  ∃ v us,vs=v :: us/\bO M c v/\one v=true/\ay M cs us:=by
 obtain ⟨hl,hc⟩:=h
 cases vs with
 | nil=>simp at hl
 | cons v us=>
  refine ⟨v,us,rfl,(hc 0 c v rfl rfl).1,(hc 0 c v rfl rfl).2,by simpa using hl,fun i c v hi hv=>hc (i+1) c v (by simpa using hi) (by simpa using hv)⟩
theorem ay.jD {M:Mem} {c:Cell} {cs:List Cell} {v:Value} {us:List Value} (h:bO M c v) (h1:one v=true) (hs:ay M cs us) :
  ay M (c :: cs) (v :: us):=by
 refine ⟨by simp [hs.1],fun i c v hi hv=>?_⟩
 cases i with
 | zero=>simp at hi hv;subst hi;subst hv;exact ⟨h,h1⟩
 | succ i=>exact hs.2 i c v (by simpa using hi) (by simpa using hv)
theorem ay.nil {M:Mem}:ay M [] []:=⟨rfl,fun i c v hi=>by simp at hi⟩
theorem ay.append {M:Mem} {cs ds:List Cell} {us vs:List Value} (h:ay M cs us) (h':ay M ds vs):ay M (cs++ds) (us++vs):=by
 induction cs generalizing us with
 | nil=>cases us with
  | nil=>exact h'
  | cons _ _=>have:=h.1;simp at this
 | cons c cs ih=>
  obtain ⟨v,us',rfl,hv,h1,hs⟩:=h.cons
  exact ay.jD hv h1 (ih hs)
theorem ay.take {M:Mem} {cs:List Cell} {vs:List Value} (h:ay M cs vs) (n:Nat):ay M (cs.take n) (vs.take n):=by
 refine ⟨by simp [h.1],fun i c v hi hv=>?_⟩
 rw [List.getElem?_take] at hi hv
 split at hi
 ·rename_i hlt
  rw [if_pos hlt] at hv
  exact h.2 i c v hi hv
 ·cases hi
theorem ay.drop {M:Mem} {cs:List Cell} {vs:List Value} (h:ay M cs vs) (n:Nat):ay M (cs.drop n) (vs.drop n):=by
 refine ⟨by simp [h.1],fun i c v hi hv=>?_⟩
 rw [List.getElem?_drop] at hi hv
 exact h.2 _ c v hi hv
theorem ay.splice {M:Mem} {cs new:List Cell} {vs us:List Value} (h:ay M cs vs) (h':ay M new us) (off:Nat) :
  ay M (splice cs off new) (vs.take off++us++vs.drop (off+us.length)):=by
 unfold Flat.splice
 rw [h'.1]
 exact ((h.take off).append h').append (h.drop _)
theorem wV {G G' A:Nat->Prop} {h:Array Obj} {t:Ty} {l:List t.den} {π:Option Pl} {off n:Nat} {v:Value} (hG:∀ b,G b->G' b)
  (hle:off+n<=l.length) (hs:SliceAt t.sz π off n v) (ha:lS G h t l π) (hA:∀ p,π=some p->A p.b):Rd G' h (.list t) A ((l.drop off).take n) [v]:=by
 cases π with
 | none=>
  obtain ⟨rfl,rfl⟩:=hs
  exact ⟨none,0,by simp,by simp,fun hne=>absurd (by simp) hne⟩
 | some p=>
  obtain ⟨a,cap,rfl,hn,nO,hroom⟩:=hs
  obtain ⟨c,e,fz,hc,hfz,hsz,hl,hx⟩:=ha
  have hlen:((l.drop off).take n).length=n:=by simp;omega
  refine ⟨some a,cap,by rw [hlen],by rw [hlen];exact hn,fun hne=>?_⟩
  have hn0:0<n:=by
   rcases Nat.eq_zero_or_pos n with h0 | h0
   ·subst h0;exact absurd (by simp) hne
   ·exact h0
  refine ⟨p.b,p.o+off*t.sz,by rw [nO (by omega)],hA p rfl,fun i x hi=>?_⟩
  have hi':l[off+i]? = some x:=by
   rw [List.getElem?_take] at hi
   split at hi
   ·rwa [List.getElem?_drop] at hi
   ·cases hi
  obtain ⟨es,hes,hj⟩:=hx _ x hi'
  refine ⟨es,Rd.move hG (fun _ _=>rfl) hG (fun _ _=>rfl) hes,fun j u hu=>?_⟩
  unfold hcell
  rw [hc]
  have:=hj j u hu
  rw [show p.o+off*t.sz+i*t.sz+j=p.o+(off+i)*t.sz+j by rw [Nat.add_mul];omega]
  exact this
theorem Dt {G G' A:Nat->Prop} {h:Array Obj} {t:Ty} {l:List t.den} {π:Option Pl} {v:Value} (hG:∀ b,G b->G' b)
  (hs:SliceAt t.sz π 0 l.length v) (ha:lS G h t l π) (hA:∀ p,π=some p->A p.b):Rd G' h (.list t) A l [v]:=by
 have:=wV (off:=0) (n:=l.length) hG (by omega) hs ha hA
 simpa using this
theorem Ca {M:Mem} (hM:lg M) {m:Mode} {t:Ty} {c:Cell} {l:List t.den} {ids:List Nat} {v:Value} {A G':Nat->Prop}
  (h:gN M.aj m t c=some (l,ids)) (hc:bO M c v) (hG:∀ b,M.G b->G' b) (hA:∀ b,M.G b->A b) (hF:m=.look->∀ b,M.F b->A b)
  (qy:∀ id ∈ ids,∀ p,M.pl id=some p->A p.b):Rd G' M.h (.list t) A l [v]:=by
 cases c <;> simp only [gN] at h <;> try (cases h;done)
 case nil=>
  obtain ⟨rfl,rfl⟩:l=[]/\ids=[]:=by simpa using h.symm
  have hc:v=.slice none 0 0:=hc
  subst hc
  exact ⟨none,0,rfl,Nat.le_refl _,fun h=>absurd rfl h⟩
 case list fr u l'=>
  have key:∀ {x},bJ (u:=t) l'=some x->(fr=true\/m=.look)->Rd G' M.h (.list t) A x [v]:=by
   intro x hx hm
   obtain ⟨rfl,rfl⟩:=bG hx
   have hc:Rd M.G M.h (.list u) (if fr then M.G else M.F) l' [v]:=hc
   cases fr with
   | true=>exact Rd.move hG (fun _ _=>rfl) hA (fun _ _=>rfl) hc
   | false=>exact Rd.move hG (fun _ _=>rfl) (hF (by simpa using hm)) (fun _ _=>rfl) hc
  cases m <;> cases fr <;> simp at h
  all_goals
   obtain ⟨x,hx,rfl,rfl⟩:=h
   exact key hx (by simp)
 case ref id=>
  obtain ⟨t',l',o,hs,hv⟩:=hc
  rw [hs] at h
  have key:∀ {x},bJ (u:=t) l'=some x->(∀ p,M.pl id=some p->A p.b)->Rd G' M.h (.list t) A x [v]:=by
   intro x hx hp
   obtain ⟨rfl,rfl⟩:=bG hx
   exact Dt hG hv (hM.ent id _ hs).1 hp
  cases m <;> cases o <;> simp at h
  all_goals
   obtain ⟨x,hx,rfl,rfl⟩:=h
   exact key hx (qy id (by simp))
 case sub id off n=>
  obtain ⟨t',l',o,hs,hle,hv⟩:=hc
  rw [hs] at h
  have key:∀ {x},bJ (u:=t) ((l'.drop off).take n)=some x->(∀ p,M.pl id=some p->A p.b)->Rd G' M.h (.list t) A x [v]:=by
   intro x hx hp
   obtain ⟨rfl,rfl⟩:=bG hx
   exact wV hG hle hv (hM.ent id _ hs).1 hp
  cases m <;> cases o <;> simp at h
  all_goals
   obtain ⟨x,hx,rfl,rfl⟩:=h
   exact key hx (qy id (by simp))
theorem aW.rd {G G':Nat->Prop} {h:Array Obj} (hG:∀ b,G b->G' b):∀ {t:Ty} {A:Nat->Prop} {x:t.den} {cs:List Value} {ps:List (Option Pl)} (hA:∀ p,some p ∈ ps->A p.b) (hI:∀ p,some p ∈ ps->∀ b ∈ p.tT,G' b),aW true G h t x cs ps->Rd G' h t A x cs
 | .bool,_,_,_,_,_,_,⟨_,e⟩=>e
 | .int _,_,_,_,_,_,_,⟨_,e⟩=>e
 | .str,_,_,_,_,_,_,⟨_,e⟩=>e
 | .unit,_,_,_,_,_,_,⟨_,e⟩=>e
 | .list t,A,l,cs,ps,hA,hI,H=>by
  simp only [aW,if_true] at H
  obtain ⟨v,π,rfl,rfl,h1,h2,h3⟩:=H
  exact Dt hG h1 h2 (fun p hp=>hA p (by simp [hp]))
 | .aG t,A,l,cs,ps,hA,hI,H=>by
  rw [fC] at H
  obtain ⟨v,π,rfl,rfl,h1,h2⟩:=H
  cases π with
  | none=>
   obtain ⟨_,rfl⟩:=h1
   have h2:l=[]:=h2
   subst h2
   exact ⟨none,0,by simp,by simp,fun hne=>absurd rfl hne⟩
  | some p=>
   obtain ⟨a,cap,rfl,hn,nO,hroom⟩:=h1
   obtain ⟨c,e,fz,k1,k2,k3,k4,k5,k6,k7,k8⟩:=h2
   refine ⟨some a,cap,rfl,hn,fun hne=>?_⟩
   have hn0:0<l.length:=List.length_pos_iff.2 hne
   refine ⟨p.b,p.o,by rw [nO (by omega)];simp,hA p (by simp),fun i x hi=>?_⟩
   have hil:i<l.length:=(List.getElem?_eq_some_iff.1 hi).1
   obtain ⟨es,hes,hj⟩:=k8 i x _ hi (List.getElem?_eq_getElem (by omega:i<p.inn.length))
   have hm:p.inn[i] ∈ p.inn:=List.getElem_mem _
   refine ⟨es,aW.rd hG (A:=G') (fun q hq=>hI p (by simp) _ (Pl.sj hm hq)) (fun q hq b hb=>?_) hes,fun j u hu=>?_⟩
   ·rw [show q.tT=[] by simp [Pl.tT,k7 q (List.mem_flatten.2 ⟨_,hm,hq⟩)]] at hb
    cases hb
   ·unfold hcell
    rw [k1]
    exact hj j u hu
 | .pair a b,A,x,cs,ps,hA,hI,⟨c,d,p,q,h1,h2,h3,h4⟩=>by
  subst h2
  exact ⟨c,d,h1,aW.rd hG (fun z hz=>hA z (by simp [hz])) (fun z hz=>hI z (by simp [hz])) h3,aW.rd hG (fun z hz=>hA z (by simp [hz])) (fun z hz=>hI z (by simp [hz])) h4⟩
theorem NC {M:Mem} (hM:lg M) {m:Mode} {t:Ty} {c:Cell} {l:List t.den} {ids:List Nat} {v:Value} {A G':Nat->Prop}
  (h:iV M.aj m t c=some (l,ids)) (hc:bO M c v) (hG:∀ b,M.G b->G' b) (hA:∀ b,M.G b->A b) (hF:m=.look->∀ b,M.F b->A b)
  (qy:∀ id ∈ ids,∀ p,M.pl id=some p->A p.b) (hin:∀ id ∈ ids,∀ t l n p,M.aj id=some (.deep t l n)->M.pl id=some p->∀ b ∈ p.tT,G' b):Rd G' M.h (.aG t) A l [v]:=by
 cases c <;> simp only [iV] at h <;> try (cases h;done)
 case nil=>
  obtain ⟨rfl,rfl⟩:l=[]/\ids=[]:=by simpa using h.symm
  have hc:v=.slice none 0 0:=hc
  subst hc
  exact ⟨none,0,rfl,Nat.le_refl _,fun h=>absurd rfl h⟩
 case list fr u l'=>
  have key:∀ {x},bJ (u:=t) l'=some x->(fr=true\/m=.look)->Rd G' M.h (.aG t) A x [v]:=by
   intro x hx hm
   obtain ⟨rfl,rfl⟩:=bG hx
   have hc:Rd M.G M.h (.list u) (if fr then M.G else M.F) l' [v]:=hc
   show Rd G' M.h (.list u) A l' [v]
   cases fr with
   | true=>exact Rd.move hG (fun _ _=>rfl) hA (fun _ _=>rfl) hc
   | false=>exact Rd.move hG (fun _ _=>rfl) (hF (by simpa using hm)) (fun _ _=>rfl) hc
  cases m <;> cases fr <;> simp at h
  all_goals
   obtain ⟨x,hx,rfl,rfl⟩:=h
   exact key hx (by simp)
 case fE id=>
  obtain ⟨t',l',o,hs,hv⟩:=hc
  rw [hs] at h
  have key:∀ {x},bJ (u:=t) l'=some x->id ∈ ids->Rd G' M.h (.aG t) A x [v]:=by
   intro x hx hid
   obtain ⟨rfl,rfl⟩:=bG hx
   have ho:aW true M.G M.h (.aG t') l' [v] [M.pl id]:=fC.2 ⟨v,_,rfl,rfl,hv,(hM.ent id _ hs).1⟩
   exact ho.rd hG (fun p hp=>qy id hid p (by simpa using hp:some p=M.pl id).symm) (fun p hp b hb=>hin id hid _ _ _ p hs (by simpa using hp:some p=M.pl id).symm b hb)
  cases m <;> cases o <;> simp at h
  all_goals
   obtain ⟨x,hx,rfl,rfl⟩:=h
   exact key hx (by simp)
theorem iZ (σ:Nat->Option Entry) (m:Mode) (a b:Ty) (cs:List Cell):au σ m (.pair a b) cs=(match au σ m a cs with
  | some (x,r,ids)=>(match au σ m b r with
   | some (y,r',iQ)=>some ((x,y),r',ids++iQ)
   | none=>none)
  | none=>none):=by
 cases cs with
 | nil=>rfl
 | cons c cs=>cases c <;> rfl
theorem ND {M:Mem} (hM:lg M) {m:Mode} {A G':Nat->Prop} (hG:∀ b,M.G b->G' b) (hA:∀ b,M.G b->A b) (hF:m=.look->∀ b,M.F b->A b) :
  ∀ {t:Ty} {cs:List Cell} {x:t.den} {rest:List Cell} {ids:List Nat} {vs:List Value},
   au M.aj m t cs=some (x,rest,ids)->ay M cs vs->(∀ id ∈ ids,∀ p,M.pl id=some p->A p.b)->(∀ id ∈ ids,∀ t l n p,M.aj id=some (.deep t l n)->M.pl id=some p->∀ b ∈ p.tT,G' b)->
   ∃ ws us,vs=ws++us/\Rd G' M.h t A x ws/\ay M rest us:=by
 intro t
 induction t with
 | bool=>
  intro cs x rest ids vs h hc qy hin
  cases cs with
  | nil=>simp [au] at h
  | cons c cs=>
   obtain ⟨v,us,rfl,hv,_,hs⟩:=hc.cons
   cases c <;> simp [au] at h
   case bool b=>
    obtain ⟨rfl,rfl,rfl⟩:=h
    exact ⟨[v],us,rfl,by rw [show v=.bool b from hv];rfl,hs⟩
   case prop p d=>
    obtain ⟨rfl,rfl,rfl⟩:=h
    exact ⟨[v],us,rfl,by rw [show v=.bool (@decide p d) from hv];rfl,hs⟩
 | int k=>
  intro cs x rest ids vs h hc qy hin
  cases cs with
  | nil=>simp [au] at h
  | cons c cs=>
   obtain ⟨v,us,rfl,hv,_,hs⟩:=hc.cons
   cases c <;> simp [au] at h
   case int k' n=>
    obtain ⟨rfl,rfl,rfl,rfl⟩:=h
    exact ⟨[v],us,rfl,by rw [show v=.int k' n from hv];rfl,hs⟩
 | str=>
  intro cs x rest ids vs h hc qy hin
  cases cs with
  | nil=>simp [au] at h
  | cons c cs=>
   obtain ⟨v,us,rfl,hv,_,hs⟩:=hc.cons
   cases c <;> simp [au] at h
   case str b=>
    obtain ⟨rfl,rfl,rfl⟩:=h
    exact ⟨[v],us,rfl,by rw [show v=.string b from hv];rfl,hs⟩
 | list t _=>
  intro cs x rest ids vs h hc qy hin
  cases cs with
  | nil=>simp [au] at h
  | cons c cs=>
   obtain ⟨v,us,rfl,hv,_,hs⟩:=hc.cons
   have h:(gN M.aj m t c).map (fun (l,ids)=>(l,cs,ids))=some (x,rest,ids):=by
    cases c <;> simpa [au] using h
   rw [Option.map_eq_some_iff] at h
   obtain ⟨⟨l,js⟩,hl,he⟩:=h
   simp at he
   obtain ⟨rfl,rfl,rfl⟩:=he
   exact ⟨[v],us,rfl,Ca hM hl hv hG hA hF qy,hs⟩
 | aG t _=>
  intro cs x rest ids vs h hc qy hin
  cases cs with
  | nil=>simp [au] at h
  | cons c cs=>
   obtain ⟨v,us,rfl,hv,_,hs⟩:=hc.cons
   have h:(iV M.aj m t c).map (fun (l,ids)=>(l,cs,ids))=some (x,rest,ids):=by
    cases c <;> simpa [au] using h
   rw [Option.map_eq_some_iff] at h
   obtain ⟨⟨l,js⟩,hl,he⟩:=h
   simp at he
   obtain ⟨rfl,rfl,rfl⟩:=he
   exact ⟨[v],us,rfl,NC hM hl hv hG hA hF qy hin,hs⟩
 | unit=>
  intro cs x rest ids vs h hc qy hin
  have h:some ((),cs,([]:List Nat))=some (x,rest,ids):=by
   cases cs with
   | nil=>simpa [au] using h
   | cons c cs=>cases c <;> simpa [au] using h
  simp at h
  obtain ⟨rfl,rfl⟩:=h
  exact ⟨[],vs,rfl,rfl,hc⟩
 | pair a b iha ihb=>
  intro cs x rest ids vs h hc qy hin
  rw [iZ] at h
  cases h1:au M.aj m a cs with
  | none=>simp [h1] at h
  | some r1=>
   obtain ⟨x1,rz,Ib⟩:=r1
   simp only [h1] at h
   cases h2:au M.aj m b rz with
   | none=>simp [h2] at h
   | some r2=>
    obtain ⟨x2,pQ,Ic⟩:=r2
    simp [h2] at h
    obtain ⟨rfl,rfl,rfl⟩:=h
    obtain ⟨ws,us,rfl,hr,hs⟩:=iha h1 hc (fun id hi=>qy id (by simp [hi])) (fun id hi=>hin id (by simp [hi]))
    obtain ⟨ws',us',rfl,hr',hs'⟩:=ihb h2 hs (fun id hi=>qy id (by simp [hi])) (fun id hi=>hin id (by simp [hi]))
    exact ⟨ws++ws',us',by simp,⟨ws,ws',rfl,hr,hr'⟩,hs'⟩
theorem iI {M:Mem} (hM:lg M) {m:Mode} {A G':Nat->Prop} (hG:∀ b,M.G b->G' b) (hA:∀ b,M.G b->A b) (hF:m=.look->∀ b,M.F b->A b)
  {t:Ty} {cs:List Cell} {x:t.den} {ids:List Nat} {vs:List Value} (h:aL M.aj m t cs=some (x,ids)) (hc:ay M cs vs)
  (qy:∀ id ∈ ids,∀ p,M.pl id=some p->A p.b) (hin:∀ id ∈ ids,∀ t l n p,M.aj id=some (.deep t l n)->M.pl id=some p->∀ b ∈ p.tT,G' b):Rd G' M.h t A x vs:=by
 unfold aL at h
 split at h
 ·rename_i x' iQ he
  simp at h
  obtain ⟨rfl,rfl⟩:=h
  obtain ⟨ws,us,rfl,hr,hs⟩:=ND hM hG hA hF he hc qy hin
  have:us=[]:=by have:=hs.1;simpa using this
  subst this
  simpa using hr
 ·cases h
theorem kC {M:Mem} (fr:Bool):∀ {t:Ty} {x:t.den} {vs:List Value},Rd M.G M.h t (if fr then M.G else M.F) x vs->ay M (cellsOf fr t x) vs:=by
 intro t
 induction t with
 | bool=>
  intro x vs h
  have h:vs=[.bool x]:=h
  subst h
  exact ay.jD (by show Value.bool x=.bool (decide (x=true));cases x <;> rfl) rfl ay.nil
 | int k=>
  intro x vs h
  have h:vs=[.int k x]:=h
  subst h
  exact ay.jD rfl rfl ay.nil
 | str=>
  intro x vs h
  have h:vs=[.string x]:=h
  subst h
  exact ay.jD rfl rfl ay.nil
 | list t _=>
  intro x vs h
  obtain ⟨a,cap,rfl,hl,hx⟩:=h
  exact ay.jD (show Rd M.G M.h (.list t) (if fr then M.G else M.F) x [.slice a x.length cap] from ⟨a,cap,rfl,hl,hx⟩) rfl ay.nil
 | aG t _=>
  intro x vs h
  obtain ⟨a,cap,rfl,hl,hx⟩:=h
  exact ay.jD (show Rd M.G M.h (.list t) (if fr then M.G else M.F) x [.slice a x.length cap] from ⟨a,cap,rfl,hl,hx⟩) rfl ay.nil
 | unit=>
  intro x vs h
  have h:vs=[]:=h
  subst h
  exact ay.nil
 | pair a b iha ihb=>
  intro x vs h
  obtain ⟨c,d,rfl,hc,hd⟩:=h
  exact (iha hc).append (ihb hd)
theorem su (fr:Bool):∀ (t:Ty) (x:t.den),(cellsOf fr t x).length=t.sz
 | .bool,_=>rfl
 | .int _,_=>rfl
 | .str,_=>rfl
 | .list _,_=>rfl
 | .aG _,_=>rfl
 | .unit,_=>rfl
 | .pair a b,x=>by simp [cellsOf,Ty.sz,su fr a x.1,su fr b x.2]
def jO (agg:Bool) (es:List Value) (v:Value):Prop:=if agg then v=.agg es.toArray else es=[v]
theorem je {M:Mem} {agg:Bool} {cs:List Cell} {es:List Value} {v:Value} (h:ay M cs es) (hv:jO agg es v):dG M (aP agg cs) v:=by
 unfold jO at hv
 unfold aP
 cases agg with
 | true=>
  simp only [if_true] at hv ⊢
  exact ⟨es,hv,h⟩
 | false=>
  simp at hv ⊢
  subst hv
  match cs,h with
  | [c],h=>exact (h.2 0 c v rfl rfl).1
  | [],h=>have:=h.1;simp at this
  | _ :: _ :: _,h=>have:=h.1;simp at this
theorem Lj {M:Mem} {c:Cell} {v:Value} (hk:c.known=true) (h:bO M c v):one v=true:=by
 cases c with
 | undef=>simp [Cell.known] at hk
 | void=>simp [Cell.known] at hk
 | bool b=>rw [show v=_ from h];rfl
 | prop p d=>rw [show v=_ from h];rfl
 | int k n=>rw [show v=_ from h];rfl
 | str s=>rw [show v=_ from h];rfl
 | nil=>rw [show v=_ from h];rfl
 | list fr t l=>obtain ⟨a,cap,he,_⟩:=h;cases he;rfl
 | ref id=>
  obtain ⟨t,l,o,_,hv⟩:=h
  cases hp:M.pl id with
  | none=>rw [hp] at hv;obtain ⟨_,rfl⟩:=hv;rfl
  | some p=>rw [hp] at hv;obtain ⟨_,_,rfl,_⟩:=hv;rfl
 | sub id off n=>
  obtain ⟨t,l,o,_,_,hv⟩:=h
  cases hp:M.pl id with
  | none=>rw [hp] at hv;obtain ⟨_,rfl⟩:=hv;rfl
  | some p=>rw [hp] at hv;obtain ⟨_,_,rfl,_⟩:=hv;rfl
 | ptr id off=>obtain ⟨_,_,_,_,_,_,rfl⟩:=h;rfl
 | fE id=>
  obtain ⟨t,l,o,_,hv⟩:=h
  cases hp:M.pl id with
  | none=>rw [hp] at hv;obtain ⟨_,rfl⟩:=hv;rfl
  | some p=>rw [hp] at hv;obtain ⟨_,_,rfl,_⟩:=hv;rfl
 | kJ id i off=>obtain ⟨_,_,_,_,_,_,_,rfl⟩:=h;rfl
 | inn id i off=>obtain ⟨_,_,_,_,_,_,_,h1⟩:=h;exact h1
 | ko id i off=>obtain ⟨_,_,_,_,_,_,_,rfl⟩:=h;rfl
 | nH fr t x off=>obtain ⟨_,_,_,rfl,_⟩:=h;rfl
 | qY f caps=>obtain ⟨_,rfl,_⟩:=h;rfl
theorem eZ {M:Mem} {c:av} {v:Value} (hk:c.known=true) (h:dG M c v):ay M c.cells v.cells.toList:=by
 cases c with
 | agg cs=>
  obtain ⟨vs,rfl,h⟩:=h
  simpa [Value.cells,av.cells] using h
 | cell c=>
  have key:one v=true:=Lj hk h
  have hcs:v.cells=#[v]:=by cases v <;> simp [one] at key <;> rfl
  rw [hcs]
  exact ay.jD h key ay.nil
end Go.Flat
