/- A row whose rows are owned is written: a plain cell, or a whole element. No condition. -/
import Derived.Test.YtmocpfgfjeaelaaGreatDeep1
set_option linter.unusedVariables false
set_option linter.unusedSimpArgs false
namespace Go.Flat
theorem cZ.flat {G:Nat->Prop} {h:Array Obj}:∀ {t:Ty} {x:t.den} {cs:List Value} {ps:List (Option Pl)},cZ true G h t x cs ps->t.nod=true->∀ q,some q ∈ ps->q.inn=[]
 | .bool,_,_,_,⟨e,_⟩,_,q,hq=>by subst e;simp at hq
 | .int _,_,_,_,⟨e,_⟩,_,q,hq=>by subst e;simp at hq
 | .str,_,_,_,⟨e,_⟩,_,q,hq=>by subst e;simp at hq
 | .unit,_,_,_,⟨e,_⟩,_,q,hq=>by subst e;simp at hq
 | .list t,l,cs,ps,H,_,q,hq=>by
  simp only [cZ,if_true] at H
  obtain ⟨v,π,rfl,rfl,h1,h2,h3⟩:=H
  exact h3 q (by simpa using hq:some q=π).symm
 | .bR t,_,_,_,_,h,_,_=>by simp [Ty.nod] at h
 | .pair a b,x,cs,ps,⟨c,d,p,q,h1,h2,h3,h4⟩,hn,z,hz=>by
  subst h2
  simp only [Ty.nod,Bool.and_eq_true] at hn
  rcases List.mem_append.1 hz with hz | hz
  ·exact h3.flat hn.1 z hz
  ·exact h4.flat hn.2 z hz
theorem TG {ps:List (Option Pl)} (h:∀ q,some q ∈ ps->q.inn=[]):blks ps=(ps.filterMap id).map Pl.b:=by
 induction ps with
 | nil=>rfl
 | cons π ps ih=>
  have ih:=ih (fun q hq=>h q (by simp [hq]))
  cases π with
  | none=>simpa [blks] using ih
  | some p=>
   rw [sN,ih]
   simp [Pl.wV (h p (by simp))]
theorem XC {inn:List (List (Option Pl))} {ix:Nat} (hi:ix<inn.length) (ps:List (Option Pl)) :
  ∃ A B,inn.flatten=A++inn[ix]++B/\(inn.set ix ps).flatten=A++ps++B:=by
 refine ⟨(inn.take ix).flatten,(inn.drop (ix+1)).flatten, ?_, ?_⟩
 ·have h:inn=inn.take ix++(inn[ix] :: inn.drop (ix+1)):=by rw [<- List.drop_eq_getElem_cons hi,List.take_append_drop]
  exact (congrArg List.flatten h).trans (by rw [List.flatten_append,List.flatten_cons,List.append_assoc])
 ·rw [List.set_eq_take_append_cons_drop,if_pos hi]
  simp [List.flatten_append]
theorem pF.put {G:Nat->Prop} {h h':Array Obj} {t:Ty} {l:List t.den} {p:Pl} {ix:Nat} {y:t.den} {es':List Value} {ps:List (Option Pl)} {c c':Array Value} {e:TypeId} {fz:Nat × Nat}
  (hd:pF G h t l (some p)) (hix:ix<l.length) (hc:h[p.b]? = some (.cells c e fz)) (hc':h'[p.b]? = some (.cells c' e fz)) (hs:c'.size=c.size) (hG:∀ b,G b->h'[b]? = h[b]?)
  (hin:∀ k j (u:Value),k ≠ ix->k<l.length->j<t.sz->c[p.o+k*t.sz+j]? = some u->c'[p.o+k*t.sz+j]? = some u) (hat:∀ j u,es'[j]? = some u->c'[p.o+ix*t.sz+j]? = some u)
  (hown:cZ true G h t y es' ps) (IW:∀ q,some q ∈ ps->q.inn=[]) (hnd:(⟨p.b,p.o,p.size,p.inn.set ix ps⟩:Pl).bs.Nodup) (hold:∀ b,b ∈ p.FW->h'[b]? = h[b]?) (hnew:∀ b ∈ blks ps,h'[b]? = h[b]?) :
  pF G h' t (l.set ix y) (some ⟨p.b,p.o,p.size,p.inn.set ix ps⟩):=by
 obtain ⟨c0,e0,fz0,k1,k2,k3,k4,k5,k6,k7,k8⟩:=hd
 rw [hc] at k1
 cases k1
 refine ⟨c',e,fz,hc',by rw [hs];exact k2,by rw [hs];exact k3,by simpa using k4,by simpa using k5,hnd,fun q hq=>?_,fun i x qs hi hq=>?_⟩
 ·obtain ⟨A,B,h1,h2⟩:=XC (show ix<p.inn.length by omega) ps
  rw [show (⟨p.b,p.o,p.size,p.inn.set ix ps⟩:Pl).inn=p.inn.set ix ps from rfl,h2] at hq
  rcases List.mem_append.1 hq with hq | hq
  ·rcases List.mem_append.1 hq with hq | hq
   ·exact k7 q (by rw [h1];simp [hq])
   ·exact IW q hq
  ·exact k7 q (by rw [h1];simp [hq])
 ·by_cases he:i=ix
  ·subst he
   simp only [List.getElem?_set_self hix,Option.some.injEq] at hi
   have hq:(p.inn.set i ps)[i]? = some qs:=hq
   rw [List.getElem?_set_self (by omega)] at hq
   cases hq
   subst hi
   exact ⟨es',cZ.move (fun _ h=>h) hG hnew hown,hat⟩
  ·have hq:(p.inn.set ix ps)[i]? = some qs:=hq
   rw [List.getElem?_set_ne (fun e=>he e.symm)] at hi hq
   obtain ⟨es,hes,hj⟩:=k8 i x qs hi hq
   have hil:i<l.length:=(List.getElem?_eq_some_iff.1 hi).1
   refine ⟨es,cZ.move (fun _ h=>h) hG (fun b hb=>hold b ?_) hes,fun j u hu=>hin i j u he hil ?_ (hj j u hu)⟩
   ·have hm:qs ∈ p.inn:=List.mem_of_getElem? hq
    rw [TG (fun q hq'=>k7 q (List.mem_flatten.2 ⟨qs,hm,hq'⟩))] at hb
    obtain ⟨q,hq',rfl⟩:=List.mem_map.1 hb
    simp only [List.mem_filterMap,id] at hq'
    obtain ⟨_,hq',rfl⟩:=hq'
    exact Pl.SE hm hq'
   ·have:=(List.getElem?_eq_some_iff.1 hu).1
    rwa [hes.len] at this
end Go.Flat
