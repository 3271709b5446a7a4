/- A row whose rows are owned is written: a plain cell, or a whole element. No condition. -/
import Derived.Test.YtmocpfgfjeaelaaGreatDeep1
set_option linter.unusedVariables false
set_option linter.unusedSimpArgs false
namespace Go.Flat
theorem aW.flat {G:Nat->Prop} {h:Array Obj}:∀ {t:Ty} {x:t.den} {cs:List Value} {ps:List (Option Pl)},aW true G h t x cs ps->t.Ti=true->∀ q,some q ∈ ps->q.inn=[]
 | .bool,_,_,_,⟨e,_⟩,_,q,hq=>by subst e;simp at hq
 | .int _,_,_,_,⟨e,_⟩,_,q,hq=>by subst e;simp at hq
 | .str,_,_,_,⟨e,_⟩,_,q,hq=>by subst e;simp at hq
 | .unit,_,_,_,⟨e,_⟩,_,q,hq=>by subst e;simp at hq
 | .list t,l,cs,ps,H,_,q,hq=>by
  simp only [aW,if_true] at H
  obtain ⟨v,π,rfl,rfl,h1,h2,h3⟩:=H
  exact h3 q (by simpa using hq:some q=π).symm
 | .aG t,_,_,_,_,h,_,_=>by simp [Ty.Ti] at h
 | .pair a b,x,cs,ps,⟨c,d,p,q,h1,h2,h3,h4⟩,hn,z,hz=>by
  subst h2
  simp only [Ty.Ti,Bool.and_eq_true] at hn
  rcases List.mem_append.1 hz with hz | hz
  ·exact h3.flat hn.1 z hz
  ·exact h4.flat hn.2 z hz
theorem jH {ps:List (Option Pl)} (h:∀ q,some q ∈ ps->q.inn=[]):blks ps=(ps.filterMap id).map Pl.b:=by
 induction ps with
 | nil=>rfl
 | cons π ps ih=>
  have ih:=ih (fun q hq=>h q (by simp [hq]))
  cases π with
  | none=>simpa [blks] using ih
  | some p=>
   rw [oJ,ih]
   simp [Pl.pE (h p (by simp))]
theorem wY {M:Mem} {G:Nat->Prop} {h:Array Obj} {c:Cell} {v:Value} (hc:bO M c v):∀ {t:Ty} {x x':t.den} {es:List Value} {qs:List (Option Pl)} {o:Nat},aW true G h t x es qs->setCell t o x c=some x'->aW true G h t x' (es.set o v) qs/\(jq t)[o]? = some false/\o<t.sz
 | .bool,x,x',es,qs,o,⟨h1,h2⟩,hs=>by
  subst h2
  cases o with
  | succ o=>simp [setCell] at hs
  | zero=>
   cases c <;> simp [setCell] at hs
   case bool b=>subst hs;exact ⟨⟨h1,by rw [show v=.bool _ from hc];rfl⟩,rfl,by simp [Ty.sz]⟩
   case prop p d=>subst hs;exact ⟨⟨h1,by rw [show v=.bool _ from hc];rfl⟩,rfl,by simp [Ty.sz]⟩
 | .int k,x,x',es,qs,o,⟨h1,h2⟩,hs=>by
  subst h2
  cases o with
  | succ o=>simp [setCell] at hs
  | zero=>
   cases c <;> simp [setCell] at hs
   case int k' n=>obtain ⟨rfl,rfl⟩:=hs;exact ⟨⟨h1,by rw [show v=.int _ _ from hc];rfl⟩,rfl,by simp [Ty.sz]⟩
 | .str,x,x',es,qs,o,⟨h1,h2⟩,hs=>by
  subst h2
  cases o with
  | succ o=>simp [setCell] at hs
  | zero=>
   cases c <;> simp [setCell] at hs
   case str s=>subst hs;exact ⟨⟨h1,by rw [show v=.string _ from hc];rfl⟩,rfl,by simp [Ty.sz]⟩
 | .unit,_,_,_,_,o,_,hs=>by cases o <;> cases c <;> simp [setCell] at hs
 | .list _,_,_,_,_,o,_,hs=>by cases o <;> cases c <;> simp [setCell] at hs
 | .aG _,_,_,_,_,o,_,hs=>by cases o <;> cases c <;> simp [setCell] at hs
 | .pair a b,x,x',es,qs,o,⟨e1,e2,p,q,h1,h2,h3,h4⟩,hs=>by
  subst h1 h2
  have hl:=h3.len
  have hf:=nL a
  simp only [setCell] at hs
  split at hs
  ·rename_i ho
   obtain ⟨y,hy,rfl⟩:=Option.map_eq_some_iff.1 hs
   obtain ⟨k1,k2,k3⟩:=wY hc h3 hy
   refine ⟨⟨_,e2,p,q,by rw [List.set_append_left _ _ (by omega)],rfl,k1,h4⟩, ?_,by simp only [Ty.sz];omega⟩
   simp only [jq]
   rw [List.getElem?_append_left (by omega)]
   exact k2
  ·rename_i ho
   obtain ⟨y,hy,rfl⟩:=Option.map_eq_some_iff.1 hs
   obtain ⟨k1,k2,k3⟩:=wY hc h4 hy
   refine ⟨⟨e1,_,p,q,by rw [List.set_append_right _ _ (by omega),hl],rfl,h3,k1⟩, ?_,by simp only [Ty.sz];omega⟩
   simp only [jq]
   rw [List.getElem?_append_right (by omega),hf]
   exact k2
theorem Inv.Ry {F0:jo} {G:Nat->Prop} {s:St} {a:Act} {w w':World} {pl:Nat->Option Pl} (i:Inv F0 G s a w pl) {id:Nat} {E E':Entry} {p p':Pl} (hs:s.aj id=some E) (hp:pl id=some p) (hsame:p.same p')
  (hsz:w.heap.size<=w'.heap.size) (hstr:Str F0.mono w w') (hh:∀ b,b ∉ E.bs p->b<w.heap.size->w'.heap[b]? = w.heap[b]?) (hF:∀ b ∈ E.bs p,¬ (F0 b\/G b)) (um:E.like E')
  (DW:∀ j e q,j ≠ id->s.aj j=some e->pl j=some q->∀ b ∈ e.bs q,b ∉ E'.bs p')
  (hE:Goes (fun _=>False) (mem F0 G w.heap s.aj pl) (mem F0 G w'.heap (upd s.aj id (some E')) (upd pl id (some p')))->fG (mem F0 G w'.heap (upd s.aj id (some E')) (upd pl id (some p'))) E' (some p'))
  (LA:∃ t l n,E=.deep t l n) (Az:p'=p\/∀ t l n,E ≠ .deep t l (some n)) :
  Inv F0 G { s with aj:=upd s.aj id (some E') } a w' (upd pl id (some p'))/\Fr F0 G w G w':=by
 have Ws:∀ b,F0 b\/G b->w'.heap[b]? = w.heap[b]?:=fun b hb=>hh b (fun h=>hF b h hb) (i.aj.lt b hb)
 have g:Goes (fun _=>False) (mem F0 G w.heap s.aj pl) (mem F0 G w'.heap (upd s.aj id (some E')) (upd pl id (some p'))):=
  ⟨fun _ h=>h,fun _ h=>h,i.aj.gf,Ws,fun j e _ he=>by
   by_cases h:j=id
   ·subst h
    have he:s.aj j=some e:=he
    rw [hs] at he
    cases he
    refine ⟨E',upd_same _ _ _,um, ?_⟩
    show gQ (pl j) (upd pl j (some p') j)
    rw [upd_same,hp]
    exact hsame
   ·refine ⟨e,(upd_ne _ _ h).trans he,e.jh, ?_⟩
    show gQ (pl j) (upd pl id (some p') j)
    rw [upd_ne _ _ h]
    exact gQ.refl _,rfl⟩
 refine ⟨i.slots g rfl rfl ⟨i.aj.gf,fun b hb=>Nat.lt_of_lt_of_le (i.aj.lt b hb) hsz,fun j e he=>?_,fun x y ex ey q q' hx hy hxy hq hq'=>?_,fun j t l n he=>?_,fun j t l n he=>?_⟩,Ws,fun _ h=>h,fun _ h _=>h,hsz,hstr⟩
 ·by_cases h:j=id
  ·subst h
   have he:upd s.aj j (some E') j=some e:=he
   rw [upd_same] at he
   cases he
   show fG _ _ (upd pl j (some p') j)
   rw [upd_same]
   exact hE g
  ·have he:upd s.aj id (some E') j=some e:=he
   rw [upd_ne _ _ h] at he
   show fG _ _ (upd pl id (some p') j)
   rw [upd_ne _ _ h]
   refine g.entry (fun q hq b hb=>hh _ (fun h'=>?_) (i.aj.jY he hq b hb)) (fun _ _ _ _ h=>h) (fun _ _ h=>h) (i.aj.ent j e he)
   exact i.aj.apart' j id e E q p he hs h hq hp b hb h'
 ·have hx:upd s.aj id (some E') x=some ex:=hx
  have hy:upd s.aj id (some E') y=some ey:=hy
  have hq:upd pl id (some p') x=some q:=hq
  have hq':upd pl id (some p') y=some q':=hq'
  by_cases h1:x=id
  ·have h2:y ≠ id:=fun e=>hxy (h1.trans e.symm)
   rw [h1,upd_same] at hx hq
   cases hx
   cases hq
   rw [upd_ne _ _ h2] at hy hq'
   exact fun b hb hb'=>DW y ey q' h2 hy hq' b hb' hb
  ·rw [upd_ne _ _ h1] at hx hq
   by_cases h2:y=id
   ·rw [h2,upd_same] at hy hq'
    cases hy
    cases hq'
    exact DW x ex q h1 hx hq
   ·rw [upd_ne _ _ h2] at hy hq'
    exact i.aj.apart' x y ex ey q q' hx hy hxy hq hq'
 ·have he:upd s.aj id (some E') j=some (.arr t l (.pinned n)):=he
  by_cases h:j=id
  ·subst h
   rw [upd_same] at he
   cases he
   cases E with
   | box _ _=>exact um.elim
   | deep _ _ _=>exact um.elim
   | arr t0 l0 o0=>obtain ⟨_,_,_,h⟩:=LA;cases h
  ·rw [upd_ne _ _ h] at he
   show upd pl id (some p') j=_/\_
   rw [upd_ne _ _ h]
   exact i.aj.pin j t l n he
 ·have he:upd s.aj id (some E') j=some (.deep t l (some n)):=he
  by_cases h:j=id
  ·subst h
   rw [upd_same] at he
   cases he
   cases E with
   | box _ _=>exact um.elim
   | arr _ _ _=>exact um.elim
   | deep t0 l0 n0=>
    obtain ⟨rfl,hll,rfl⟩:=um
    obtain ⟨k1,k2⟩:=i.aj.yO j t0 l0 n hs
    rcases Az with rfl | hno
    ·show upd pl j (some p') j=_/\_
     rw [upd_same,<- hp]
     exact ⟨k1,hll.symm.trans k2⟩
    ·exact absurd rfl (hno t0 l0 n)
  ·rw [upd_ne _ _ h] at he
   show upd pl id (some p') j=_/\_
   rw [upd_ne _ _ h]
   exact i.aj.yO j t l n he
theorem EP {inn:List (List (Option Pl))} {ix:Nat} (hi:ix<inn.length) (ps:List (Option Pl)) :
  ∃ A B,inn.flatten=A++inn[ix]++B/\(inn.set ix ps).flatten=A++ps++B:=by
 refine ⟨(inn.take ix).flatten,(inn.drop (ix+1)).flatten, ?_, ?_⟩
 ·have h:inn=inn.take ix++(inn[ix] :: inn.drop (ix+1)):=by rw [<- List.drop_eq_getElem_cons hi,List.take_append_drop]
  exact (congrArg List.flatten h).trans (by rw [List.flatten_append,List.flatten_cons,List.append_assoc])
 ·rw [List.set_eq_take_append_cons_drop,if_pos hi]
  simp [List.flatten_append]
theorem iA.put {G:Nat->Prop} {h h':Array Obj} {t:Ty} {l:List t.den} {p:Pl} {ix:Nat} {y:t.den} {es':List Value} {ps:List (Option Pl)} {c c':Array Value} {e:TypeId} {fz:Nat × Nat}
  (hd:iA G h t l (some p)) (hix:ix<l.length) (hc:h[p.b]? = some (.cells c e fz)) (hc':h'[p.b]? = some (.cells c' e fz)) (hs:c'.size=c.size) (hG:∀ b,G b->h'[b]? = h[b]?)
  (hin:∀ k j (u:Value),k ≠ ix->k<l.length->j<t.sz->c[p.o+k*t.sz+j]? = some u->c'[p.o+k*t.sz+j]? = some u) (hat:∀ j u,es'[j]? = some u->c'[p.o+ix*t.sz+j]? = some u)
  (hown:aW true G h t y es' ps) (wZ:∀ q,some q ∈ ps->q.inn=[]) (hnd:(⟨p.b,p.o,p.size,p.inn.set ix ps⟩:Pl).bs.Nodup) (hold:∀ b,b ∈ p.tT->h'[b]? = h[b]?) (hnew:∀ b ∈ blks ps,h'[b]? = h[b]?) :
  iA G h' t (l.set ix y) (some ⟨p.b,p.o,p.size,p.inn.set ix ps⟩):=by
 obtain ⟨c0,e0,fz0,k1,k2,k3,k4,k5,k6,k7,k8⟩:=hd
 rw [hc] at k1
 cases k1
 refine ⟨c',e,fz,hc',by rw [hs];exact k2,by rw [hs];exact k3,by simpa using k4,by simpa using k5,hnd,fun q hq=>?_,fun i x qs hi hq=>?_⟩
 ·obtain ⟨A,B,h1,h2⟩:=EP (show ix<p.inn.length by omega) ps
  rw [show (⟨p.b,p.o,p.size,p.inn.set ix ps⟩:Pl).inn=p.inn.set ix ps from rfl,h2] at hq
  rcases List.mem_append.1 hq with hq | hq
  ·rcases List.mem_append.1 hq with hq | hq
   ·exact k7 q (by rw [h1];simp [hq])
   ·exact wZ q hq
  ·exact k7 q (by rw [h1];simp [hq])
 ·by_cases he:i=ix
  ·subst he
   simp only [List.getElem?_set_self hix,Option.some.injEq] at hi
   have hq:(p.inn.set i ps)[i]? = some qs:=hq
   rw [List.getElem?_set_self (by omega)] at hq
   cases hq
   subst hi
   exact ⟨es',aW.move (fun _ h=>h) hG hnew hown,hat⟩
  ·have hq:(p.inn.set ix ps)[i]? = some qs:=hq
   rw [List.getElem?_set_ne (fun e=>he e.symm)] at hi hq
   obtain ⟨es,hes,hj⟩:=k8 i x qs hi hq
   have hil:i<l.length:=(List.getElem?_eq_some_iff.1 hi).1
   refine ⟨es,aW.move (fun _ h=>h) hG (fun b hb=>hold b ?_) hes,fun j u hu=>hin i j u he hil ?_ (hj j u hu)⟩
   ·have hm:qs ∈ p.inn:=List.mem_of_getElem? hq
    rw [jH (fun q hq'=>k7 q (List.mem_flatten.2 ⟨qs,hm,hq'⟩))] at hb
    obtain ⟨q,hq',rfl⟩:=List.mem_map.1 hb
    simp only [List.mem_filterMap,id] at hq'
    obtain ⟨_,hq',rfl⟩:=hq'
    exact Pl.sj hm hq'
   ·have:=(List.getElem?_eq_some_iff.1 hu).1
    rwa [hes.len] at this
theorem xg {M:Mem} (hM:lg M) {c:Cell} {v:Value} (hc:ay M [c] [v]):∀ {t:Ty} {x y:t.den} {es:List Value} {qs:List (Option Pl)} {off:Nat} {ids:List Nat},aW true M.G M.h t x es qs->jI M.aj t off x c=some (y,ids)->
  ∃ A1 M1 B1 N1,aW true M.G M.h t y (es.set off v) (A1++N1++B1)/\qs=A1++M1++B1/\blks N1=(ids.filterMap M.pl).flatMap Pl.bs/\off<t.sz
 | .bool,_,_,_,_,_,_,_,h=>by simp [jI] at h
 | .int _,_,_,_,_,_,_,_,h=>by simp [jI] at h
 | .str,_,_,_,_,_,_,_,h=>by simp [jI] at h
 | .unit,_,_,_,_,_,_,_,h=>by simp [jI] at h
 | .aG _,_,_,_,_,_,_,_,h=>by simp [jI] at h
 | .list u,x,y,es,qs,off,ids,ho,h=>by
  cases off with
  | succ off=>simp [jI] at h
  | zero=>
   simp only [jI] at h
   have hof:aL M.aj .give (.list u) [c]=some (y,ids):=by
    unfold aL
    simp [au,h]
   obtain ⟨ps,h1,h2⟩:=kE hM hof hc
   simp only [aW,if_true] at ho
   obtain ⟨v0,π,rfl,rfl,_⟩:=ho
   exact ⟨[],[π],[],ps,by simpa using h1,by simp,h2,by simp [Ty.sz]⟩
 | .pair a b,x,y,es,qs,off,ids,⟨e1,e2,p,q,he,hq,h1,h2⟩,h=>by
  subst he hq
  have hl1:=h1.len
  simp only [jI] at h
  split at h
  ·rename_i hlt
   obtain ⟨z,hz,hy⟩:=Option.map_eq_some_iff.1 h
   simp only [Prod.mk.injEq] at hy
   obtain ⟨rfl,rfl⟩:=hy
   obtain ⟨A1,M1,B1,N1,k1,k2,k3,k4⟩:=xg hM hc h1 hz
   refine ⟨A1,M1,B1++q,N1,⟨e1.set off v,e2,A1++N1++B1,q,by rw [List.set_append_left _ _ (by omega)],by simp,k1,h2⟩,by rw [k2];simp,k3,by simp only [Ty.sz];omega⟩
  ·rename_i hge
   obtain ⟨z,hz,hy⟩:=Option.map_eq_some_iff.1 h
   simp only [Prod.mk.injEq] at hy
   obtain ⟨rfl,rfl⟩:=hy
   obtain ⟨A1,M1,B1,N1,k1,k2,k3,k4⟩:=xg hM hc h2 hz
   refine ⟨p++A1,M1,B1,N1,⟨e1,e2.set (off - a.sz) v,p,A1++N1++B1,by rw [List.set_append_right _ _ (by omega),hl1],by simp,h1,k1⟩,by rw [k2];simp,k3,by simp only [Ty.sz];omega⟩
theorem LB {M:Mem} (hM:lg M) {t:Ty} {x y:t.den} {n off:Nat} {new:List Cell} {vs es:List Value} {qs:List (Option Pl)} {ids:List Nat} (hc:ay M new vs) (ho:aW true M.G M.h t x es qs) (h:JO M.aj t n off new x=some (y,ids)) :
  (∃ es' A1 M1 B1 N1,aW true M.G M.h t y es' (A1++N1++B1)/\qs=A1++M1++B1/\blks N1=(ids.filterMap M.pl).flatMap Pl.bs/\off+n<=t.sz/\vs.length=n/\∀ j,es'[j]? = if j<off then es[j]? else if j<off+n then vs[j - off]? else es[j]?)/\∀ j ∈ ids,Lv M.aj .give j:=by
 have hel:=ho.len
 unfold JO at h
 split at h
 ·rename_i hcond
  obtain ⟨rfl,rfl,hlen⟩:=hcond
  obtain ⟨ps,h1,h2⟩:=kE hM h hc
  have hvl:vs.length=t.sz:=by rw [hc.1];exact hlen
  refine ⟨⟨vs,[],qs,[],ps,by simpa using h1,by simp,h2,by omega,hvl,fun j=>?_⟩,ig h⟩
  rw [if_neg (by omega)]
  by_cases hj:j<0+t.sz
  ·rw [if_pos hj,Nat.sub_zero]
  ·rw [if_neg hj,List.getElem?_eq_none (by omega),List.getElem?_eq_none (by omega)]
 ·rename_i hnw
  split at h
  ·rename_i c
   cases hb:Nat.beq n 1 with
   | false=>rw [hb] at h;cases h
   | true=>
    rw [hb] at h
    obtain rfl:=Nat.eq_of_beq_eq_true hb
    simp only [cond_true] at h
    obtain ⟨v,us,rfl,_,_,hs0⟩:=hc.cons
    obtain rfl:us=[]:=by have:=hs0.1;simpa using this
    obtain ⟨A1,M1,B1,N1,k1,k2,k3,k4⟩:=xg hM hc ho h
    refine ⟨⟨es.set off v,A1,M1,B1,N1,k1,k2,k3,by omega,rfl,fun j=>?_⟩,fun j hj=>?_⟩
    ·rw [List.getElem?_set]
     by_cases hjo:off=j
     ·subst hjo
      rw [if_pos rfl,if_pos (by omega),if_neg (by omega),if_pos (by omega),Nat.sub_self]
      rfl
     ·rw [if_neg hjo]
      by_cases h1:j<off
      ·rw [if_pos h1]
      ·rw [if_neg h1,if_neg (by omega)]
    ·have hlive:∀ {t:Ty} {x y:t.den} {off:Nat},jI M.aj t off x c=some (y,ids)->∃ (u:Ty) (l:List u.den),aL M.aj .give (.list u) [c]=some (l,ids):=by
      intro t
      induction t with
      | list u _=>
       intro x y off h
       cases off with
       | succ off=>simp [jI] at h
       | zero=>
        simp only [jI] at h
        exact ⟨u,y,by unfold aL;simp [au,h]⟩
      | pair a b iha ihb=>
       intro x y off h
       simp only [jI] at h
       split at h
       ·obtain ⟨z,hz,hy⟩:=Option.map_eq_some_iff.1 h
        simp only [Prod.mk.injEq] at hy
        obtain ⟨_,rfl⟩:=hy
        exact iha hz
       ·obtain ⟨z,hz,hy⟩:=Option.map_eq_some_iff.1 h
        simp only [Prod.mk.injEq] at hy
        obtain ⟨_,rfl⟩:=hy
        exact ihb hz
      | _=>intro x y off h;simp [jI] at h
     obtain ⟨u,l,hof⟩:=hlive h
     exact ig hof j hj
  ·cases h
end Go.Flat
