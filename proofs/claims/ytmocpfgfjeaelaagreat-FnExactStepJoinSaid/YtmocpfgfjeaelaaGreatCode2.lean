/- The heads of loops: what lives on, under new numbers. No condition. -/
import Derived.Test.YtmocpfgfjeaelaaGreatCode1
set_option linter.unusedVariables false
set_option linter.unusedSimpArgs false
namespace Go.Flat
theorem FM:∀ {l:List Nat} {id p q:Nat},posOf l id p=some q->p<=q/\l[q - p]? = some id
 | [],id,p,q,h=>by simp [posOf] at h
 | x :: r,id,p,q,h=>by
  simp only [posOf] at h
  cases hb:Nat.beq x id with
  | true=>
   rw [hb] at h
   simp at h
   subst h
   rw [Nat.sub_self]
   exact ⟨Nat.le_refl _,by simp [Nat.eq_of_beq_eq_true hb]⟩
  | false=>
   rw [hb] at h
   simp at h
   obtain ⟨h1,h2⟩:=FM h
   refine ⟨by omega, ?_⟩
   rw [show q - p=(q - (p+1))+1 by omega]
   simpa using h2
theorem DC {α:Type}:∀ {l:List (Option α)} {r:List α},zJ l=some r->l=r.map some
 | [],r,h=>by simp [zJ] at h;subst h;rfl
 | some a :: l,r,h=>by
  simp only [zJ] at h
  cases hs:zJ l with
  | none=>simp [hs] at h
  | some r'=>simp [hs] at h;subst h;rw [List.map_cons,<- DC hs]
 | none :: l,r,h=>by simp [zJ] at h
theorem FN:∀ {es:List Entry} {p k:Nat} {e:Entry},Ay es p k=some e->∃ q,k=iG q/\p<=q/\es[q - p]? = some e
 | [],p,k,e,h=>by simp [Ay] at h
 | x :: r,p,k,e,h=>by
  simp only [Ay] at h
  cases hb:Nat.beq k (iG p) with
  | true=>
   rw [hb] at h
   simp at h
   subst h
   exact ⟨p,Nat.eq_of_beq_eq_true hb,Nat.le_refl _,by simp⟩
  | false=>
   rw [hb] at h
   simp at h
   obtain ⟨q,h1,h2,h3⟩:=FN h
   refine ⟨q,h1,by omega, ?_⟩
   rw [show q - p=(q - (p+1))+1 by omega]
   simpa using h3
theorem LJ:∀ {es:List Entry} {p q:Nat} {e:Entry},es[q]? = some e->Ay es p (iG (p+q))=some e
 | [],p,q,e,h=>by simp at h
 | x :: r,p,q,e,h=>by
  simp only [Ay]
  cases q with
  | zero=>
   simp at h
   subst h
   have:Nat.beq (iG (p+0)) (iG p)=true:=by simp
   rw [this]
   rfl
  | succ q=>
   have hne:Nat.beq (iG (p+(q+1))) (iG p)=false:=by
    cases hb:Nat.beq (iG (p+(q+1))) (iG p) with
    | false=>rfl
    | true=>have:=Nat.eq_of_beq_eq_true hb;unfold iG at this;omega
   rw [hne]
   have:=LJ (p:=p+1) (q:=q) (e:=e) (es:=r) (by simpa using h)
   rw [show p+1+q=p+(q+1) by omega] at this
   exact this
theorem qM:∀ {l acc:List Nat},acc.Nodup->(zI acc l).Nodup
 | [],acc,h=>h
 | x :: r,acc,h=>by
  simp only [zI]
  split
  ·exact qM h
  ·rename_i hc
   refine qM ?_
   rw [List.nodup_append]
   refine ⟨h,by simp,fun a ha b hb=>?_⟩
   simp at hb
   subst hb
   intro e
   subst e
   exact hc (by simpa using ha)
theorem xu {σ:Nat->Option Entry}:∀ {n p:Nat} {acc:List Nat},acc.Nodup->(reach σ n p acc).Nodup
 | 0,p,acc,h=>h
 | n+1,p,acc,h=>by
  simp only [reach]
  split
  ·exact h
  ·split
   ·exact xu (qM h)
   ·exact xu h
structure Ren (M M':Mem) (r:Nat->Option Nat):Prop where
 F:M'.F=M.F
 G:M'.G=M.G
 h:M'.h=M.h
 inn:M'.inn=M.inn
 aj:∀ id j e,r id=some j->M.aj id=some e->∃ e',M'.aj j=some e'/\e.like e'/\M'.pl j=M.pl id
theorem Ren.caps {M M':Mem} {r:Nat->Option Nat} (g:Ren M M' r):∀ {cs cs':List Cap} {vs:List Value},nY r cs=some cs'->vs.length=cs.length->(∀ (i:Nat) c u,cs[i]? = some c->vs[i]? = some u->mU M c u)->
  vs.length=cs'.length/\∀ (i:Nat) c u,cs'[i]? = some c->vs[i]? = some u->mU M' c u
 | [],cs',vs,h,hl,hc=>by
  simp [nY] at h
  subst h
  exact ⟨hl,fun i c u hi=>by simp at hi⟩
 | c :: cs,cs',vs,h,hl,hc=>by
  cases vs with
  | nil=>simp at hl
  | cons v vs=>
   have hv:=hc 0 c v rfl rfl
   have htl:∀ (i:Nat) c u,cs[i]? = some c->vs[i]? = some u->mU M c u:=fun i c u hi hu=>hc (i+1) c u (by simpa using hi) (by simpa using hu)
   have fin:∀ {c':Cap} {cs2:List Cap},mU M' c' v->nY r cs=some cs2->cs'=c' :: cs2->(v :: vs).length=cs'.length/\∀ (i:Nat) c u,cs'[i]? = some c->(v :: vs)[i]? = some u->mU M' c u:=by
    intro c' cs2 h1 h2 h3
    subst h3
    obtain ⟨k1,k2⟩:=Ren.caps g h2 (by simpa using hl) htl
    refine ⟨by simp [k1],fun i c u hi hu=>?_⟩
    cases i with
    | zero=>simp at hi hu;subst hi hu;exact h1
    | succ i=>exact k2 i c u (by simpa using hi) (by simpa using hu)
   cases c with
   | ro t x=>
    simp only [nY] at h
    cases hr:nY r cs with
    | none=>simp [hr] at h
    | some cs2=>
     simp [hr] at h
     refine fin ?_ hr h.symm
     obtain ⟨b,o,es,h1,h2,h3,h4⟩:=hv
     refine ⟨b,o,es,h1,by rw [g.F];exact h2, ?_,by rw [g.h];exact h4⟩
     rw [g.F,g.G,g.h];exact h3
   | ptr id=>
    simp only [nY] at h
    cases hid:r id with
    | none=>simp [hid] at h
    | some j=>
     cases hr:nY r cs with
     | none=>simp [hid,hr] at h
     | some cs2=>
      simp [hid,hr] at h
      refine fin ?_ hr h.symm
      obtain ⟨t,bs,p,h1,h2,h3,h4⟩:=hv
      obtain ⟨e',he',hl',hpl⟩:=g.aj id j _ hid h1
      cases e' with
      | box t' bs'=>exact ⟨t',bs',p,he',by rw [hpl,h2],h3,h4⟩
      | arr _ _ _=>exact hl'.elim
      | deep _ _ _=>exact hl'.elim
theorem Ren.cell {M M':Mem} {r:Nat->Option Nat} (g:Ren M M' r) {c:Cell} {v:Value} (h:bO M c v):bO M' (c.ren r) v:=by
 cases c with
 | undef=>trivial
 | void=>exact h
 | bool b=>exact Eq.trans h (by simp)
 | prop p d=>exact Eq.trans h (by simp)
 | int k n=>exact h
 | str s=>exact h
 | nil=>exact h
 | list fr t l=>
  show Rd M'.G M'.h (.list t) (if fr then M'.G else M'.F) l [v]
  rw [g.F,g.G,g.h];exact h
 | nH fr t x off=>
  obtain ⟨b,o,es,h1,h2,h3,h4⟩:=h
  refine ⟨b,o,es,h1,by rw [g.F];exact h2, ?_,by rw [g.h];exact h4⟩
  rw [g.F,g.G,g.h];exact h3
 | ref id=>
  simp only [Cell.ren]
  cases hid:r id with
  | none=>trivial
  | some j=>
   obtain ⟨t,l,o,h1,h2⟩:=h
   obtain ⟨e',he',hl,hpl⟩:=g.aj id j _ hid h1
   cases e' with
   | box _ _=>exact hl.elim
   | deep _ _ _=>exact hl.elim
   | arr t' l' o'=>
    obtain ⟨rfl,hl⟩:=hl
    exact ⟨t,l',o',he',by rw [hpl,<- hl];exact h2⟩
 | sub id off n=>
  simp only [Cell.ren]
  cases hid:r id with
  | none=>trivial
  | some j=>
   obtain ⟨t,l,o,h1,h2,h3⟩:=h
   obtain ⟨e',he',hl,hpl⟩:=g.aj id j _ hid h1
   cases e' with
   | box _ _=>exact hl.elim
   | deep _ _ _=>exact hl.elim
   | arr t' l' o'=>
    obtain ⟨rfl,hl⟩:=hl
    exact ⟨t,l',o',he',by rw [<- hl];exact h2,by rw [hpl];exact h3⟩
 | ptr id off=>
  simp only [Cell.ren]
  cases hid:r id with
  | none=>trivial
  | some j=>
   obtain ⟨t,cs,p,h1,h2,h3,h4⟩:=h
   obtain ⟨e',he',hl,hpl⟩:=g.aj id j _ hid h1
   cases e' with
   | box t' cs'=>exact ⟨t',cs',p,he',by rw [hpl,h2],h3,h4⟩
   | arr _ _ _=>exact hl.elim
   | deep _ _ _=>exact hl.elim
 | ko id ix off=>
  simp only [Cell.ren]
  cases hid:r id with
  | none=>trivial
  | some j=>
   obtain ⟨t,l,o,p,h1,h2,h3,h4⟩:=h
   obtain ⟨e',he',hl,hpl⟩:=g.aj id j _ hid h1
   cases e' with
   | box _ _=>exact hl.elim
   | deep _ _ _=>exact hl.elim
   | arr t' l' o'=>
    obtain ⟨rfl,hl⟩:=hl
    exact ⟨t,l',o',p,he',by rw [<- hl];exact h2,by rw [hpl,h3],h4⟩
 | fE id=>
  simp only [Cell.ren]
  cases hid:r id with
  | none=>trivial
  | some j=>
   obtain ⟨t,l,o,h1,h2⟩:=h
   obtain ⟨e',he',hl,hpl⟩:=g.aj id j _ hid h1
   cases e' with
   | box _ _=>exact hl.elim
   | arr _ _ _=>exact hl.elim
   | deep t' l' o'=>
    obtain ⟨rfl,hl,_⟩:=hl
    exact ⟨t,l',o',he',by rw [hpl,<- hl];exact h2⟩
 | kJ id ix off=>
  simp only [Cell.ren]
  cases hid:r id with
  | none=>trivial
  | some j=>
   obtain ⟨t,l,o,p,h1,h2,h3,h4⟩:=h
   obtain ⟨e',he',hl,hpl⟩:=g.aj id j _ hid h1
   cases e' with
   | box _ _=>exact hl.elim
   | arr _ _ _=>exact hl.elim
   | deep t' l' o'=>
    obtain ⟨rfl,hl,_⟩:=hl
    exact ⟨t,l',o',p,he',by rw [<- hl];exact h2,by rw [hpl,h3],h4⟩
 | inn id ix off=>
  simp only [Cell.ren]
  cases hid:r id with
  | none=>trivial
  | some j=>
   obtain ⟨t,l,n,h1,h2,h3,h4,h5⟩:=h
   obtain ⟨e',he',hl,hpl⟩:=g.aj id j _ hid h1
   cases e' with
   | box _ _=>exact hl.elim
   | arr _ _ _=>exact hl.elim
   | deep t' l' o'=>
    obtain ⟨rfl,hl,rfl⟩:=hl
    exact ⟨t,l',n,he',by rw [<- hl];exact h2,h3,by rw [g.inn];exact h4,h5⟩
 | qY f caps=>
  simp only [Cell.ren]
  cases hc:nY r caps with
  | none=>trivial
  | some wW=>
   obtain ⟨vs,hv,hl,hcs⟩:=h
   obtain ⟨k1,k2⟩:=g.caps hc hl hcs
   exact ⟨vs,hv,k1,k2⟩
theorem Ren.cells {M M':Mem} {r:Nat->Option Nat} (g:Ren M M' r) {cs:List Cell} {vs:List Value} (h:ay M cs vs):ay M' (cs.map (Cell.ren r)) vs:=by
 refine ⟨by rw [h.1];simp,fun i c v hi hv=>?_⟩
 rw [List.getElem?_map] at hi
 obtain ⟨c',hc',rfl⟩:=Option.map_eq_some_iff.1 hi
 exact ⟨g.cell (h.2 i c' v hc' hv).1,(h.2 i c' v hc' hv).2⟩
theorem Ren.comp {M M':Mem} {r:Nat->Option Nat} (g:Ren M M' r) {c:av} {v:Value} (h:dG M c v):dG M' (c.ren r) v:=by
 cases c with
 | cell c=>exact g.cell h
 | agg cs=>
  obtain ⟨vs,hv,hc⟩:=h
  exact ⟨vs,hv,g.cells hc⟩
theorem Ren.slot {M M':Mem} {r:Nat->Option Nat} (g:Ren M M' r) {s:Slot} {v:Value} (h:eY M s v):eY M' (s.ren r) v:=by
 cases s with
 | one c=>exact g.comp h
 | wN cs=>
  obtain ⟨vs,hv,hl,hc⟩:=h
  refine ⟨vs,hv,by rw [hl];simp,fun i c u hi hu=>?_⟩
  rw [List.getElem?_map] at hi
  obtain ⟨c',hc',rfl⟩:=Option.map_eq_some_iff.1 hi
  exact g.comp (hc i c' u hc' hu)
theorem FP:∀ {ks:List Nat} {f:Nat->Slot} {t:Nat},Jc ks (ks.map f) t=f t\/Jc ks (ks.map f) t=.undef
 | [],f,t=>.inr rfl
 | k :: ks,f,t=>by
  simp only [List.map_cons,Jc]
  cases hb:Nat.beq k t with
  | true=>simp [Nat.eq_of_beq_eq_true hb]
  | false=>exact FP (ks:=ks)
theorem Ko {F0:jo} {G:Nat->Prop} {s:St} {a:Act} {w:World} {pl:Nat->Option Pl} (i:Inv F0 G s a w pl) {keep:List Nat} {h:Head} (hh:Fv keep s=some h):∃ kK,Inv F0 G (h.st s.n keep) a w kK:=by
 unfold Fv at hh
 simp only at hh
 generalize ho:reach s.aj 256 0 (zI [] ((keep.map s.env).flatMap Slot.ids))=order at hh
 have hnd:order.Nodup:=by rw [<- ho];exact xu (qM List.nodup_nil)
 split at hh
 ·rename_i es hes
  have hes:=DC hes
  obtain rfl:=Option.some.inj hh
  have hent:∀ (p:Nat) (id:Nat),order[p]? = some id->∃ e,s.aj id=some e/\es[p]? = some (e.ren (Dq order)):=by
   intro p id hp
   have h1:=congrArg (·[p]?) hes
   simp only [List.getElem?_map,hp,Option.map_some] at h1
   cases hs:s.aj id with
   | none=>
    rw [hs] at h1
    cases hq:es[p]? <;> simp [hq] at h1
   | some e=>
    simp [hs] at h1
    refine ⟨e,rfl, ?_⟩
    cases hq:es[p]? with
    | none=>simp [hq] at h1
    | some e'=>simp [hq] at h1;rw [h1]
  have hlen:es.length=order.length:=by have:=congrArg List.length hes;simpa using this.symm
  let kK:Nat->Option Pl:=fun k=>if k % 4=1 then (order[k / 4]?).bind pl else none
  have hpl:∀ p id,order[p]? = some id->kK (iG p)=pl id:=by
   intro p id hp
   have h1:iG p % 4=1:=by unfold iG;omega
   have h2:iG p / 4=p:=by unfold iG;omega
   simp only [kK,h1,if_true,h2,hp,Option.bind_some]
  have g:Ren (mem F0 G w.heap s.aj pl) (mem F0 G w.heap (Ay es 0) kK) (Dq order):=by
   refine ⟨rfl,rfl,rfl,rfl,fun id j e hr he=>?_⟩
   unfold Dq at hr
   obtain ⟨p,hp,rfl⟩:=Option.map_eq_some_iff.1 hr
   obtain ⟨_,hp2⟩:=FM hp
   rw [Nat.sub_zero] at hp2
   obtain ⟨e',he',hes'⟩:=hent p id hp2
   rw [show s.aj id=some e from he] at he'
   cases he'
   refine ⟨_,by have:=LJ (p:=0) hes';rwa [Nat.zero_add] at this, ?_,hpl p id hp2⟩
   cases e with
   | box _ _=>trivial
   | arr _ _ _=>exact ⟨rfl,rfl⟩
   | deep _ _ _=>exact ⟨rfl,rfl,rfl⟩
  have back:∀ {k e'},Ay es 0 k=some e'->∃ p id e,k=iG p/\order[p]? = some id/\s.aj id=some e/\e'=e.ren (Dq order):=by
   intro k e' hk
   obtain ⟨p,rfl,_,hp⟩:=FN hk
   rw [Nat.sub_zero] at hp
   have hlt:p<order.length:=by rw [<- hlen];exact (List.getElem?_eq_some_iff.1 hp).1
   obtain ⟨e,he,hes'⟩:=hent p order[p] (List.getElem?_eq_getElem hlt)
   rw [hp] at hes'
   exact ⟨p,order[p],e,rfl,List.getElem?_eq_getElem hlt,he,Option.some.inj hes'⟩
  refine ⟨kK,i.size,fun t=>?_,⟨i.aj.gf,i.aj.lt,fun k e' hk=>?_,fun x y ex ey p q hx hy hxy hp hq=>?_,fun k t l n hk=>by
   obtain ⟨p,id,e,rfl,hp,he,hee⟩:=back hk
   show kK (iG p)=_/\_
   rw [hpl p id hp]
   cases e with
   | box _ _=>cases hee
   | arr t' l' o'=>cases hee;exact i.aj.pin id t l n he
   | deep _ _ _=>(cases hee),fun k t l n hk=>by
   obtain ⟨p,id,e,rfl,hp,he,hee⟩:=back hk
   show kK (iG p)=_/\_
   rw [hpl p id hp]
   cases e with
   | box _ _=>cases hee
   | arr _ _ _=>cases hee
   | deep t' l' o'=>cases hee;exact i.aj.yO id t l n he⟩,i.defers⟩
  ·show eY _ (Jc keep ((keep.map s.env).map (Slot.ren (Dq order))) t) _
   rw [List.map_map]
   rcases FP (ks:=keep) (f:=Slot.ren (Dq order) ∘ s.env) (t:=t) with h1 | h1
   ·rw [h1];exact g.slot (i.env t)
   ·rw [h1];exact trivial
  ·obtain ⟨p,id,e,rfl,hp,he,rfl⟩:=back hk
   have RO:=i.aj.ent id e he
   show fG _ _ (kK (iG p))
   rw [hpl p id hp]
   cases e with
   | box t cs=>
    obtain ⟨p',c,e,fz,h1,h2,h3,h4,h5,h6,h7,h8,h9⟩:=RO
    exact ⟨p',c,e,fz,h1,h2,h3,h4,h5,by simpa using h6,fun u hu=>by simpa using h7 u hu,g.cells h8,h9⟩
   | arr t l o=>exact RO
   | deep t l o=>exact RO
  ·obtain ⟨px,ix,ex',rfl,hpx,hex,rfl⟩:=back hx
   obtain ⟨py,iy,Ls,rfl,hpy,Zx,rfl⟩:=back hy
   have hne:ix ≠ iy:=by
    intro e
    subst e
    apply hxy
    congr 1
    obtain ⟨h1,h2⟩:=List.getElem?_eq_some_iff.1 hpx
    obtain ⟨h3,h4⟩:=List.getElem?_eq_some_iff.1 hpy
    have hpw:=List.pairwise_iff_getElem.1 hnd
    rcases Nat.lt_trichotomy px py with h | h | h
    ·exact absurd (h2.trans h4.symm) (hpw px py h1 h3 h)
    ·exact h
    ·exact absurd (h4.trans h2.symm) (hpw py px h3 h1 h)
   have hbs:∀ (e:Entry) (p:Pl),(e.ren (Dq order)).bs p=e.bs p:=fun e p=>by cases e <;> rfl
   rw [hbs,hbs]
   exact i.aj.apart' ix iy ex' Ls p q hex Zx hne ((hpl px ix hpx).symm.trans hp) ((hpl py iy hpy).symm.trans hq)
 ·cases hh
end Go.Flat
