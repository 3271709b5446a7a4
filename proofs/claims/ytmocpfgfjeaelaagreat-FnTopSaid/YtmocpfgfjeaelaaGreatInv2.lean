/- How the state goes on when memory grows, a row is added, written, laid for good, or no longer named. No condition. -/
import Derived.Test.YtmocpfgfjeaelaaGreatOps2
set_option linter.unusedVariables false
set_option linter.unusedSimpArgs false
namespace Go.Flat
def Entry.ids:Entry->List Nat
 | .box _ cs=>cs.flatMap Cell.ids
 | .arr _ _ _=>[]
 | .deep _ _ _=>[]
theorem Goes.entry {D:Nat->Prop} {M M':Mem} (g:Goes D M M') {e:Entry} {π:Option Pl} (hb:∀ p,π=some p->∀ b ∈ e.bs p,M'.h[b]? = M.h[b]?) (hn:∀ p,π=some p->∀ b ∈ e.bs p,¬ M.F b->¬ M'.F b)
  (hd:∀ id ∈ e.ids,¬ D id) (h:iG M e π):iG M' e π:=by
 cases e with
 | box t cs=>
  obtain ⟨p,c,e,fz,hp,ho,hh,hfz,hsz,hcs,hty,hrel,hF⟩:=h
  exact ⟨p,c,e,fz,hp,ho,by rw [hb p hp p.b (by simp [Entry.bs])];exact hh,hfz,hsz,hcs,hty,g.cells (fun c hc id hid=>hd id (by simp only [Entry.ids,List.mem_flatMap];exact ⟨c,hc,hid⟩)) hrel,hn p hp p.b (by simp [Entry.bs]) hF⟩
 | arr t l o=>
  obtain ⟨ha,hp⟩:=h
  exact ⟨g.SF (fun p hp=>hb p hp p.b (by simp [Entry.bs])) ha,fun p hpp=>⟨⟨fun ho=>g.G _ ((hp p hpp).1.1 ho),(hp p hpp).1.2⟩,fun ho=>hn p hpp p.b (by simp [Entry.bs]) ((hp p hpp).2 ho)⟩⟩
 | deep t l n=>
  obtain ⟨ha,hp⟩:=h
  refine ⟨g.QZ hb ha,fun p hpp=>⟨fun b hbb=>⟨?_,hn p hpp b hbb ((hp p hpp).1 b hbb).2⟩,fun k hk i off hi hf=>?_⟩⟩
  ·have h1:=((hp p hpp).1 b hbb).1
   have h2:=hb p hpp b hbb
   rw [Array.getElem?_eq_getElem h1] at h2
   exact (Array.getElem?_eq_some_iff.1 h2).1
  ·rw [uo (hb p hpp p.b (Pl.pQ p)),g.inn]
   exact (hp p hpp).2 k hk i off hi hf
theorem iG.pU {M:Mem} {e:Entry} {p:Pl} (h:iG M e (some p)):∀ b ∈ e.bs p,b<M.h.size:=by
 cases e with
 | box t cs=>
  obtain ⟨p',c,e,fz,hp,ho,hh,_⟩:=h
  simp at hp
  subst hp
  intro b hb
  simp only [Entry.bs,List.mem_singleton] at hb
  subst hb
  exact (Array.getElem?_eq_some_iff.1 hh).1
 | arr t l o=>
  obtain ⟨⟨c,e,fz,hh,_⟩,_⟩:=h
  intro b hb
  simp only [Entry.bs,List.mem_singleton] at hb
  subst hb
  exact (Array.getElem?_eq_some_iff.1 hh).1
 | deep t l n=>exact fun b hb=>((h.2 p rfl).1 b hb).1
theorem iG.lt {M:Mem} {e:Entry} {p:Pl} (h:iG M e (some p)):p.b<M.h.size:=h.pU _ (e.pQ p)
theorem pI.Vq {M:Mem} (h:pI M) {id:Nat} {e:Entry} {p:Pl} (he:M.ak id=some e) (hp:M.pl id=some p):p.b<M.h.size:=by
 have:=h.ent id e he
 rw [hp] at this
 exact this.lt
theorem pI.pU {M:Mem} (h:pI M) {id:Nat} {e:Entry} {p:Pl} (he:M.ak id=some e) (hp:M.pl id=some p):∀ b ∈ e.bs p,b<M.h.size:=by
 have:=h.ent id e he
 rw [hp] at this
 exact this.pU
theorem Inv.slots {F0:lS} {G G':Nat->Prop} {s s':St} {a:Act} {w w':World} {pl nP:Nat->Option Pl} (i:Inv F0 G s a w pl) (g:Goes (fun _=>False) (mem F0 G w.heap s.ak pl) (mem F0 G' w'.heap s'.ak nP))
  (he:s'.env=s.env) (hn:s'.n=s.n) (hs:pI (mem F0 G' w'.heap s'.ak nP)):Inv F0 G' s' a w' nP:=
 ⟨by rw [hn];exact i.size,fun t=>by rw [he];exact g.slot (fun _ _ h=>h) (i.env t),hs,by rw [hn];exact i.defers⟩
theorem Inv.grow {F0:lS} {G G':Nat->Prop} {s:St} {a:Act} {w w':World} {pl:Nat->Option Pl} (i:Inv F0 G s a w pl) (hsz:w.heap.size<=w'.heap.size) (hstr:Str F0.mono w w') (hh:∀ b,b<w.heap.size->w'.heap[b]? = w.heap[b]?)
  (hG:∀ b,G b->G' b) (hn:∀ b,G' b->G b\/(w.heap.size<=b/\b<w'.heap.size)):Inv F0 G' s a w' pl/\Fr F0 G w G' w':=by
 have hF:∀ b,(F0 b\/G' b)->(F0 b\/G b)\/w.heap.size<=b:=by
  intro b hb
  rcases hb with hb | hb
  ·exact .inl (.inl hb)
  ·rcases hn b hb with h | h
   ·exact .inl (.inr h)
   ·exact .inr h.1
 have g:Goes (fun _=>False) (mem F0 G w.heap s.ak pl) (mem F0 G' w'.heap s.ak pl):=
  ⟨fun b hb=>hb.imp id (hG b),hG,i.ak.gf,fun b hb=>hh b (i.ak.lt b hb),fun id e _ he=>⟨e,he,e.lZ,jo.refl _⟩,rfl⟩
 refine ⟨i.slots g rfl rfl ⟨fun b hb=>.inr hb,fun b hb=>?_,fun id e he=>?_,i.ak.apart',i.ak.pin,i.ak.Dz⟩,fun b hb=>hh b (i.ak.lt b hb),hG,fun b hb hf=>?_,hsz,hstr⟩
 ·rcases hb with hb | hb
  ·exact Nat.lt_of_lt_of_le (i.ak.lt b (.inl hb)) hsz
  ·rcases hn b hb with h | h
   ·exact Nat.lt_of_lt_of_le (i.ak.lt b (.inr h)) hsz
   ·exact h.2
 ·refine g.entry (fun p hp b hb=>hh _ (i.ak.pU he hp b hb)) (fun p hp b hb hnF hF'=>?_) (fun _ _ h=>h) (i.ak.ent id e he)
  rcases hF b hF' with h | h
  ·exact hnF h
  ·have:=i.ak.pU he hp b hb
   exact absurd this (Nat.not_lt.2 h)
 ·rcases hn b hb with h | h
  ·exact h
  ·have:=i.ak.lt b (.inl hf)
   exact absurd this (Nat.not_lt.2 h.1)
theorem Inv.add {F0:lS} {G:Nat->Prop} {s:St} {a:Act} {w:World} {pl:Nat->Option Pl} (i:Inv F0 G s a w pl) {key:Nat} {E:Entry} {π:Option Pl} (hk:s.ak key=none)
  (hE:iG (mem F0 G w.heap s.ak pl) E π) (hd:∀ id e p q,s.ak id=some e->pl id=some p->π=some q->∀ b ∈ e.bs p,b ∉ E.bs q) (Nh:∀ t l n,E ≠ .arr t l (.pinned n):=by intro _ _ _ h;cases h) (IU:∀ t l n,E ≠ .deep t l (some n):=by intro _ _ _ h;cases h) :
  Inv F0 G { s with ak:=upd s.ak key (some E) } a w (upd pl key π):=by
 have hne:∀ {id e},s.ak id=some e->id ≠ key:=by
  intro id e he h
  subst h
  rw [hk] at he
  cases he
 have g:Goes (fun _=>False) (mem F0 G w.heap s.ak pl) (mem F0 G w.heap (upd s.ak key (some E)) (upd pl key π)):=
  ⟨fun _ h=>h,fun _ h=>h,i.ak.gf,fun _ _=>rfl,fun id e _ he=>⟨e,by
   show upd s.ak key (some E) id=some e
   rw [upd_ne _ _ (hne he)];exact he,e.lZ,by
   show jo (pl id) (upd pl key π id)
   rw [upd_ne _ _ (hne he)]
   exact jo.refl _⟩,rfl⟩
 refine i.slots g rfl rfl ⟨i.ak.gf,i.ak.lt,fun id e he=>?_,fun x y ex ey p q hx hy hxy hp hq=>?_,fun id t l n he=>by
  have he:upd s.ak key (some E) id=some (.arr t l (.pinned n)):=he
  by_cases h:id=key
  ·subst h
   rw [upd_same] at he
   exact absurd (Option.some.inj he) (Nh t l n)
  ·rw [upd_ne _ _ h] at he
   show upd pl key π id=_/\_
   rw [upd_ne _ _ h]
   exact i.ak.pin id t l n he,fun id t l n he=>by
  have he:upd s.ak key (some E) id=some (.deep t l (some n)):=he
  by_cases h:id=key
  ·subst h
   rw [upd_same] at he
   exact absurd (Option.some.inj he) (IU t l n)
  ·rw [upd_ne _ _ h] at he
   show upd pl key π id=_/\_
   rw [upd_ne _ _ h]
   exact i.ak.Dz id t l n he⟩
 ·by_cases h:id=key
  ·subst h
   have he:upd s.ak id (some E) id=some e:=he
   rw [upd_same] at he
   cases he
   show iG _ _ (upd pl id π id)
   rw [upd_same]
   exact g.entry (fun _ _ _ _=>rfl) (fun _ _ _ _ h=>h) (fun _ _ h=>h) hE
  ·have he:upd s.ak key (some E) id=some e:=he
   rw [upd_ne _ _ h] at he
   show iG _ _ (upd pl key π id)
   rw [upd_ne _ _ h]
   exact g.entry (fun _ _ _ _=>rfl) (fun _ _ _ _ h=>h) (fun _ _ h=>h) (i.ak.ent id e he)
 ·have hx:upd s.ak key (some E) x=some ex:=hx
  have hy:upd s.ak key (some E) y=some ey:=hy
  have hp:upd pl key π x=some p:=hp
  have hq:upd pl key π y=some q:=hq
  by_cases h1:x=key
  ·have h2:y ≠ key:=fun e=>hxy (h1.trans e.symm)
   rw [h1,upd_same] at hx hp
   cases hx
   exact fun b hb hb'=>hd y ey q p ((upd_ne _ _ h2).symm.trans hy) ((upd_ne _ _ h2).symm.trans hq) hp b hb' hb
  ·by_cases h2:y=key
   ·rw [h2,upd_same] at hy hq
    cases hy
    exact hd x ex p q ((upd_ne _ _ h1).symm.trans hx) ((upd_ne _ _ h1).symm.trans hp) hq
   ·exact i.ak.apart' x y ex ey p q ((upd_ne _ _ h1).symm.trans hx) ((upd_ne _ _ h2).symm.trans hy) hxy ((upd_ne _ _ h1).symm.trans hp) ((upd_ne _ _ h2).symm.trans hq)
theorem Entry.Xv {e e':Entry} (h:e.like e') (p:Pl):e'.bs p=e.bs p:=by
 cases e <;> cases e' <;> first | rfl | exact h.elim
theorem Inv.write {F0:lS} {G:Nat->Prop} {s:St} {a:Act} {w w':World} {pl:Nat->Option Pl} (i:Inv F0 G s a w pl) {id:Nat} {E E':Entry} {p:Pl} (hs:s.ak id=some E) (hp:pl id=some p) (hF:¬ (F0 p.b\/G p.b))
  (hsz:w'.heap.size=w.heap.size) (hstr:Str F0.mono w w') (hh:∀ b,b ≠ p.b->w'.heap[b]? = w.heap[b]?) (LW:E.like E')
  (hE:Goes (fun _=>False) (mem F0 G w.heap s.ak pl) (mem F0 G w'.heap (upd s.ak id (some E')) pl)->iG (mem F0 G w'.heap (upd s.ak id (some E')) pl) E' (some p))
  (Nh:∀ t l n,E'=.arr t l (.pinned n)->∃ l0,E=.arr t l0 (.pinned n):=by intro _ _ _ h;first | (cases h;done) | (cases h;exact ⟨_,rfl⟩)) :
  Inv F0 G { s with ak:=upd s.ak id (some E') } a w' pl/\Fr F0 G w G w':=by
 have aaJ:∀ b,F0 b\/G b->b ≠ p.b:=fun b hb e=>hF (e ▸ hb)
 have g:Goes (fun _=>False) (mem F0 G w.heap s.ak pl) (mem F0 G w'.heap (upd s.ak id (some E')) pl):=
  ⟨fun _ h=>h,fun _ h=>h,i.ak.gf,fun b hb=>hh b (aaJ b hb),fun j e _ he=>by
   by_cases h:j=id
   ·subst h
    have he:s.ak j=some e:=he
    rw [hs] at he
    cases he
    exact ⟨E',upd_same _ _ _,LW,jo.refl _⟩
   ·exact ⟨e,(upd_ne _ _ h).trans he,e.lZ,jo.refl _⟩,rfl⟩
 refine ⟨i.slots g rfl rfl ⟨i.ak.gf,fun b hb=>by show b<w'.heap.size;rw [hsz];exact i.ak.lt b hb,fun j e he=>?_,fun x y ex ey q q' hx hy hxy hq hq'=>?_,fun j t l n he=>by
  have he:upd s.ak id (some E') j=some (.arr t l (.pinned n)):=he
  by_cases h:j=id
  ·subst h
   rw [upd_same] at he
   have he:=Option.some.inj he
   obtain ⟨l0,rfl⟩:=Nh t l n he
   subst he
   obtain ⟨_,hll⟩:=LW
   obtain ⟨k1,k2⟩:=i.ak.pin j t l0 n hs
   exact ⟨k1,hll.symm.trans k2⟩
  ·rw [upd_ne _ _ h] at he
   exact i.ak.pin j t l n he,fun j t l n he=>by
  have he:upd s.ak id (some E') j=some (.deep t l (some n)):=he
  by_cases h:j=id
  ·subst h
   rw [upd_same] at he
   have he:=Option.some.inj he
   subst he
   cases E with
   | box _ _=>exact LW.elim
   | arr _ _ _=>exact LW.elim
   | deep t0 l0 n0=>
    obtain ⟨rfl,hll,rfl⟩:=LW
    obtain ⟨k1,k2⟩:=i.ak.Dz j t0 l0 n hs
    exact ⟨k1,hll.symm.trans k2⟩
  ·rw [upd_ne _ _ h] at he
   exact i.ak.Dz j t l n he⟩,fun b hb=>hh b (aaJ b hb),fun _ h=>h,fun _ h _=>h,by rw [hsz];exact Nat.le_refl _,hstr⟩
 ·by_cases h:j=id
  ·subst h
   have he:upd s.ak j (some E') j=some e:=he
   rw [upd_same] at he
   cases he
   show iG _ _ (pl j)
   rw [hp]
   exact hE g
  ·have he:upd s.ak id (some E') j=some e:=he
   rw [upd_ne _ _ h] at he
   refine g.entry (fun q hq b hb=>hh _ ?_) (fun _ _ _ _ h=>h) (fun _ _ h=>h) (i.ak.ent j e he)
   exact fun e'=>i.ak.apart' j id e E q p he hs h hq hp b hb (e' ▸ E.pQ p)
 ·have key:∀ {z ez},upd s.ak id (some E') z=some ez->∃ ez',s.ak z=some ez'/\∀ p,ez.bs p=ez'.bs p:=by
   intro z ez hz
   by_cases h:z=id
   ·subst h;rw [upd_same] at hz;cases hz;exact ⟨E,hs,fun p=>Entry.Xv LW p⟩
   ·rw [upd_ne _ _ h] at hz;exact ⟨ez,hz,fun _=>rfl⟩
  obtain ⟨ex',hx',bx⟩:=key hx
  obtain ⟨Oz,hy',bY⟩:=key hy
  rw [bx,bY]
  exact i.ak.apart' x y ex' Oz q q' hx' hy' hxy hq hq'
theorem Inv.freeze {F0:lS} {G:Nat->Prop} {s:St} {a:Act} {w:World} {pl:Nat->Option Pl} (i:Inv F0 G s a w pl) {id:Nat} {t:Ty} {l:List t.den} {o:Own} (hs:s.ak id=some (.arr t l o))
  (ho:∀ n,o ≠ .pinned n) :
  Inv F0 (fun b=>G b\/∃ p,pl id=some p/\b=p.b) { s with ak:=upd s.ak id (some (.arr t l .frozen)) } a w pl/\Fr F0 G w (fun b=>G b\/∃ p,pl id=some p/\b=p.b) w:=by
 have hent:=i.ak.ent id _ hs
 have g:Goes (fun _=>False) (mem F0 G w.heap s.ak pl) (mem F0 (fun b=>G b\/∃ p,pl id=some p/\b=p.b) w.heap (upd s.ak id (some (.arr t l .frozen))) pl):=
  ⟨fun b h=>h.imp (fun x=>x) .inl,fun b h=>.inl h,i.ak.gf,fun _ _=>rfl,fun j e _ he=>by
   by_cases h:j=id
   ·subst h
    have he:s.ak j=some e:=he
    rw [hs] at he
    cases he
    exact ⟨_,upd_same _ _ _,⟨rfl,rfl⟩,jo.refl _⟩
   ·exact ⟨e,(upd_ne _ _ h).trans he,e.lZ,jo.refl _⟩,rfl⟩
 refine ⟨i.slots g rfl rfl ⟨fun b hb=>.inr hb,fun b hb=>?_,fun j e he=>?_,fun x y ex ey q q' hx hy hxy hq hq'=>?_,fun j t' l' n he=>by
  have he:upd s.ak id (some (.arr t l .frozen)) j=some (.arr t' l' (.pinned n)):=he
  by_cases h:j=id
  ·subst h
   rw [upd_same] at he
   cases he
  ·rw [upd_ne _ _ h] at he
   exact i.ak.pin j t' l' n he,fun j t' l' n he=>by
  have he:upd s.ak id (some (.arr t l .frozen)) j=some (.deep t' l' (some n)):=he
  by_cases h:j=id
  ·subst h
   rw [upd_same] at he
   cases he
  ·rw [upd_ne _ _ h] at he
   exact i.ak.Dz j t' l' n he⟩,fun _ _=>rfl,fun b h=>.inl h,fun b hb hf=>?_,Nat.le_refl _,Str.refl _ _⟩
 ·rcases hb with hb | hb | ⟨p,hp,rfl⟩
  ·exact i.ak.lt b (.inl hb)
  ·exact i.ak.lt b (.inr hb)
  ·exact i.ak.Vq hs hp
 ·by_cases h:j=id
  ·subst h
   have he:upd s.ak j (some (.arr t l .frozen)) j=some e:=he
   rw [upd_same] at he
   cases he
   exact ⟨g.SF (fun _ _=>rfl) hent.1,fun p hp=>⟨⟨fun _=>.inr ⟨p,hp,rfl⟩,(hent.2 p hp).1.2⟩,fun h=>absurd rfl h⟩⟩
  ·have he:upd s.ak id (some (.arr t l .frozen)) j=some e:=he
   rw [upd_ne _ _ h] at he
   refine g.entry (fun _ _ _ _=>rfl) (fun q hq b hb hn hF=>?_) (fun _ _ h=>h) (i.ak.ent j e he)
   rcases hF with hF | hF | ⟨p,hp,Xw⟩
   ·exact hn (.inl hF)
   ·exact hn (.inr hF)
   ·exact i.ak.apart' j id e _ q p he hs h hq hp b hb (by rw [Xw];exact Entry.pQ _ _)
 ·have key:∀ {z ez},upd s.ak id (some (.arr t l .frozen)) z=some ez->∃ ez',s.ak z=some ez'/\∀ p,ez.bs p=ez'.bs p:=by
   intro z ez hz
   by_cases h:z=id
   ·subst h;rw [upd_same] at hz;cases hz;exact ⟨_,hs,fun _=>rfl⟩
   ·rw [upd_ne _ _ h] at hz;exact ⟨ez,hz,fun _=>rfl⟩
  obtain ⟨ex',hx',bx⟩:=key hx
  obtain ⟨Oz,hy',bY⟩:=key hy
  rw [bx,bY]
  exact i.ak.apart' x y ex' Oz q q' hx' hy' hxy hq hq'
 ·rcases hb with hb | ⟨p,hp,rfl⟩
  ·exact hb
  ·have:=hent.2 p hp
   cases o with
   | frozen=>exact this.1.1 rfl
   | «open»=>exact absurd (.inl hf) (this.2 (by simp))
   | pinned n=>exact absurd rfl (ho n)
theorem yQ {F0:lS} {a:Act} {w:World} {pl:Nat->Option Pl}:∀ {ids:List Nat} {G:Nat->Prop} {s:St},Inv F0 G s a w pl->
  (∀ id ∈ ids,∀ t l n,s.ak id ≠ some (.arr t l (.pinned n)))->
  ∃ G',Inv F0 G' { s with ak:=cO s.ak ids } a w pl/\Fr F0 G w G' w/\(∀ id ∈ ids,∀ t l o,s.ak id=some (.arr t l o)->∀ p,pl id=some p->G' p.b) /\
   (∀ k,s.ak k=none->cO s.ak ids k=none):=by
 intro ids
 induction ids with
 | nil=>intro G s i _;exact ⟨G,i,Fr.refl _ _ _,fun id h=>by simp at h,fun k h=>h⟩
 | cons id ids ih=>
  intro G s i hp
  have hno:∀ {σ:Nat->Option Entry},(∀ t l o,σ id ≠ some (.arr t l o))->cO σ (id :: ids)=cO σ ids:=by
   intro σ h
   simp only [cO]
  by_cases h:∃ t l o,s.ak id=some (.arr t l o)
  ·obtain ⟨t,l,o,hs⟩:=h
   have ho:∀ n,o ≠ .pinned n:=fun n e=>hp id (by simp) t l n (e ▸ hs)
   obtain ⟨i',fr⟩:=i.freeze hs ho
   have hp':∀ j ∈ ids,∀ t' l' n',({ s with ak:=upd s.ak id (some (.arr t l .frozen)) }:St).ak j ≠ some (.arr t' l' (.pinned n')):=by
    intro j hj t' l' n' he
    by_cases hji:j=id
    ·subst hji
     have he:upd s.ak j (some (.arr t l .frozen)) j=_:=he
     rw [upd_same] at he
     cases he
    ·exact hp j (by simp [hj]) t' l' n' ((upd_ne s.ak _ hji).symm.trans he)
   obtain ⟨G',YI,fr',hG,hk⟩:=ih i' hp'
   have heq:cO s.ak (id :: ids)=cO (upd s.ak id (some (.arr t l .frozen))) ids:=by simp only [cO,hs]
   refine ⟨G',by rw [heq];exact YI,fr.trans fr',fun j hj t' l' o' he p hpp=>?_,fun k hk0=>?_⟩
   ·by_cases hji:j=id
    ·subst hji
     exact fr'.more _ (.inr ⟨p,hpp,rfl⟩)
    ·rcases List.mem_cons.1 hj with hj | hj
     ·exact absurd hj hji
     ·exact hG j hj t' l' o' ((upd_ne s.ak _ hji).trans he) p hpp
   ·rw [heq]
    refine hk k ?_
    by_cases hki:k=id
    ·subst hki;rw [hs] at hk0;cases hk0
    ·exact (upd_ne s.ak _ hki).trans hk0
  ·have hne:∀ t l o,s.ak id ≠ some (.arr t l o):=fun t l o he=>h ⟨t,l,o,he⟩
   obtain ⟨G',i',fr,hG,hk⟩:=ih i (fun j hj=>hp j (by simp [hj]))
   rw [hno hne]
   refine ⟨G',i',fr,fun j hj t l o he p hpp=>?_,hk⟩
   rcases List.mem_cons.1 hj with rfl | hj
   ·exact absurd he (hne t l o)
   ·exact hG j hj t l o he p hpp
end Go.Flat
