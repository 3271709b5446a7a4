/- How the state goes on when memory grows, a row is added, written, laid for good, or no longer named. No condition. -/
import Derived.Test.YtmocpfgfjeaelaaGreatOps2
set_option linter.unusedVariables false
set_option linter.unusedSimpArgs false
namespace Go.Flat
def Entry.ids:Entry->List Nat
 | .box _ cs=>cs.flatMap Cell.ids
 | .arr _ _ _=>[]
 | .deep _ _ _=>[]
theorem Goes.entry {D:Nat->Prop} {M M':Mem} (g:Goes D M M') {e:Entry} {π:Option Pl} (hb:∀ p,π=some p->∀ b ∈ e.bs p,M'.h[b]? = M.h[b]?) (hn:∀ p,π=some p->∀ b ∈ e.bs p,¬ M.F b->¬ M'.F b)
  (hd:∀ id ∈ e.ids,¬ D id) (h:fG M e π):fG M' e π:=by
 cases e with
 | box t cs=>
  obtain ⟨p,c,e,fz,hp,ho,hh,hfz,hsz,hcs,hty,hrel,hF⟩:=h
  exact ⟨p,c,e,fz,hp,ho,by rw [hb p hp p.b (by simp [Entry.bs])];exact hh,hfz,hsz,hcs,hty,g.cells (fun c hc id hid=>hd id (by simp only [Entry.ids,List.mem_flatMap];exact ⟨c,hc,hid⟩)) hrel,hn p hp p.b (by simp [Entry.bs]) hF⟩
 | arr t l o=>
  obtain ⟨ha,hp⟩:=h
  exact ⟨g.OW (fun p hp=>hb p hp p.b (by simp [Entry.bs])) ha,fun p hpp=>⟨⟨fun ho=>g.G _ ((hp p hpp).1.1 ho),(hp p hpp).1.2⟩,fun ho=>hn p hpp p.b (by simp [Entry.bs]) ((hp p hpp).2 ho)⟩⟩
 | deep t l n=>
  obtain ⟨ha,hp⟩:=h
  refine ⟨g.NA hb ha,fun p hpp=>⟨fun b hbb=>⟨?_,hn p hpp b hbb ((hp p hpp).1 b hbb).2⟩,fun k hk i off hi hf=>?_⟩⟩
  ·have h1:=((hp p hpp).1 b hbb).1
   have h2:=hb p hpp b hbb
   rw [Array.getElem?_eq_getElem h1] at h2
   exact (Array.getElem?_eq_some_iff.1 h2).1
  ·rw [pO (hb p hpp p.b (Pl.gI p)),g.inn]
   exact (hp p hpp).2 k hk i off hi hf
theorem fG.jY {M:Mem} {e:Entry} {p:Pl} (h:fG M e (some p)):∀ b ∈ e.bs p,b<M.h.size:=by
 cases e with
 | box t cs=>
  obtain ⟨p',c,e,fz,hp,ho,hh,_⟩:=h
  simp at hp
  subst hp
  intro b hb
  simp only [Entry.bs,List.mem_singleton] at hb
  subst hb
  exact (Array.getElem?_eq_some_iff.1 hh).1
 | arr t l o=>
  obtain ⟨⟨c,e,fz,hh,_⟩,_⟩:=h
  intro b hb
  simp only [Entry.bs,List.mem_singleton] at hb
  subst hb
  exact (Array.getElem?_eq_some_iff.1 hh).1
 | deep t l n=>exact fun b hb=>((h.2 p rfl).1 b hb).1
theorem fG.lt {M:Mem} {e:Entry} {p:Pl} (h:fG M e (some p)):p.b<M.h.size:=h.jY _ (e.gI p)
theorem lg.Rt {M:Mem} (h:lg M) {id:Nat} {e:Entry} {p:Pl} (he:M.aj id=some e) (hp:M.pl id=some p):p.b<M.h.size:=by
 have:=h.ent id e he
 rw [hp] at this
 exact this.lt
theorem lg.jY {M:Mem} (h:lg M) {id:Nat} {e:Entry} {p:Pl} (he:M.aj id=some e) (hp:M.pl id=some p):∀ b ∈ e.bs p,b<M.h.size:=by
 have:=h.ent id e he
 rw [hp] at this
 exact this.jY
theorem Inv.slots {F0:jo} {G G':Nat->Prop} {s s':St} {a:Act} {w w':World} {pl kK:Nat->Option Pl} (i:Inv F0 G s a w pl) (g:Goes (fun _=>False) (mem F0 G w.heap s.aj pl) (mem F0 G' w'.heap s'.aj kK))
  (he:s'.env=s.env) (hn:s'.n=s.n) (hs:lg (mem F0 G' w'.heap s'.aj kK)):Inv F0 G' s' a w' kK:=
 ⟨by rw [hn];exact i.size,fun t=>by rw [he];exact g.slot (fun _ _ h=>h) (i.env t),hs,by rw [hn];exact i.defers⟩
theorem Inv.grow {F0:jo} {G G':Nat->Prop} {s:St} {a:Act} {w w':World} {pl:Nat->Option Pl} (i:Inv F0 G s a w pl) (hsz:w.heap.size<=w'.heap.size) (hstr:Str F0.mono w w') (hh:∀ b,b<w.heap.size->w'.heap[b]? = w.heap[b]?)
  (hG:∀ b,G b->G' b) (hn:∀ b,G' b->G b\/(w.heap.size<=b/\b<w'.heap.size)):Inv F0 G' s a w' pl/\Fr F0 G w G' w':=by
 have hF:∀ b,(F0 b\/G' b)->(F0 b\/G b)\/w.heap.size<=b:=by
  intro b hb
  rcases hb with hb | hb
  ·exact .inl (.inl hb)
  ·rcases hn b hb with h | h
   ·exact .inl (.inr h)
   ·exact .inr h.1
 have g:Goes (fun _=>False) (mem F0 G w.heap s.aj pl) (mem F0 G' w'.heap s.aj pl):=
  ⟨fun b hb=>hb.imp id (hG b),hG,i.aj.gf,fun b hb=>hh b (i.aj.lt b hb),fun id e _ he=>⟨e,he,e.jh,gQ.refl _⟩,rfl⟩
 refine ⟨i.slots g rfl rfl ⟨fun b hb=>.inr hb,fun b hb=>?_,fun id e he=>?_,i.aj.apart',i.aj.pin,i.aj.yO⟩,fun b hb=>hh b (i.aj.lt b hb),hG,fun b hb hf=>?_,hsz,hstr⟩
 ·rcases hb with hb | hb
  ·exact Nat.lt_of_lt_of_le (i.aj.lt b (.inl hb)) hsz
  ·rcases hn b hb with h | h
   ·exact Nat.lt_of_lt_of_le (i.aj.lt b (.inr h)) hsz
   ·exact h.2
 ·refine g.entry (fun p hp b hb=>hh _ (i.aj.jY he hp b hb)) (fun p hp b hb hnF hF'=>?_) (fun _ _ h=>h) (i.aj.ent id e he)
  rcases hF b hF' with h | h
  ·exact hnF h
  ·have:=i.aj.jY he hp b hb
   exact absurd this (Nat.not_lt.2 h)
 ·rcases hn b hb with h | h
  ·exact h
  ·have:=i.aj.lt b (.inl hf)
   exact absurd this (Nat.not_lt.2 h.1)
theorem Inv.add {F0:jo} {G:Nat->Prop} {s:St} {a:Act} {w:World} {pl:Nat->Option Pl} (i:Inv F0 G s a w pl) {key:Nat} {E:Entry} {π:Option Pl} (hk:s.aj key=none)
  (hE:fG (mem F0 G w.heap s.aj pl) E π) (hd:∀ id e p q,s.aj id=some e->pl id=some p->π=some q->∀ b ∈ e.bs p,b ∉ E.bs q) (Cg:∀ t l n,E ≠ .arr t l (.pinned n):=by intro _ _ _ h;cases h) (Az:∀ t l n,E ≠ .deep t l (some n):=by intro _ _ _ h;cases h) :
  Inv F0 G { s with aj:=upd s.aj key (some E) } a w (upd pl key π):=by
 have hne:∀ {id e},s.aj id=some e->id ≠ key:=by
  intro id e he h
  subst h
  rw [hk] at he
  cases he
 have g:Goes (fun _=>False) (mem F0 G w.heap s.aj pl) (mem F0 G w.heap (upd s.aj key (some E)) (upd pl key π)):=
  ⟨fun _ h=>h,fun _ h=>h,i.aj.gf,fun _ _=>rfl,fun id e _ he=>⟨e,by
   show upd s.aj key (some E) id=some e
   rw [upd_ne _ _ (hne he)];exact he,e.jh,by
   show gQ (pl id) (upd pl key π id)
   rw [upd_ne _ _ (hne he)]
   exact gQ.refl _⟩,rfl⟩
 refine i.slots g rfl rfl ⟨i.aj.gf,i.aj.lt,fun id e he=>?_,fun x y ex ey p q hx hy hxy hp hq=>?_,fun id t l n he=>by
  have he:upd s.aj key (some E) id=some (.arr t l (.pinned n)):=he
  by_cases h:id=key
  ·subst h
   rw [upd_same] at he
   exact absurd (Option.some.inj he) (Cg t l n)
  ·rw [upd_ne _ _ h] at he
   show upd pl key π id=_/\_
   rw [upd_ne _ _ h]
   exact i.aj.pin id t l n he,fun id t l n he=>by
  have he:upd s.aj key (some E) id=some (.deep t l (some n)):=he
  by_cases h:id=key
  ·subst h
   rw [upd_same] at he
   exact absurd (Option.some.inj he) (Az t l n)
  ·rw [upd_ne _ _ h] at he
   show upd pl key π id=_/\_
   rw [upd_ne _ _ h]
   exact i.aj.yO id t l n he⟩
 ·by_cases h:id=key
  ·subst h
   have he:upd s.aj id (some E) id=some e:=he
   rw [upd_same] at he
   cases he
   show fG _ _ (upd pl id π id)
   rw [upd_same]
   exact g.entry (fun _ _ _ _=>rfl) (fun _ _ _ _ h=>h) (fun _ _ h=>h) hE
  ·have he:upd s.aj key (some E) id=some e:=he
   rw [upd_ne _ _ h] at he
   show fG _ _ (upd pl key π id)
   rw [upd_ne _ _ h]
   exact g.entry (fun _ _ _ _=>rfl) (fun _ _ _ _ h=>h) (fun _ _ h=>h) (i.aj.ent id e he)
 ·have hx:upd s.aj key (some E) x=some ex:=hx
  have hy:upd s.aj key (some E) y=some ey:=hy
  have hp:upd pl key π x=some p:=hp
  have hq:upd pl key π y=some q:=hq
  by_cases h1:x=key
  ·have h2:y ≠ key:=fun e=>hxy (h1.trans e.symm)
   rw [h1,upd_same] at hx hp
   cases hx
   exact fun b hb hb'=>hd y ey q p ((upd_ne _ _ h2).symm.trans hy) ((upd_ne _ _ h2).symm.trans hq) hp b hb' hb
  ·by_cases h2:y=key
   ·rw [h2,upd_same] at hy hq
    cases hy
    exact hd x ex p q ((upd_ne _ _ h1).symm.trans hx) ((upd_ne _ _ h1).symm.trans hp) hq
   ·exact i.aj.apart' x y ex ey p q ((upd_ne _ _ h1).symm.trans hx) ((upd_ne _ _ h2).symm.trans hy) hxy ((upd_ne _ _ h1).symm.trans hp) ((upd_ne _ _ h2).symm.trans hq)
theorem Entry.Tp {e e':Entry} (h:e.like e') (p:Pl):e'.bs p=e.bs p:=by
 cases e <;> cases e' <;> first | rfl | exact h.elim
theorem Inv.write {F0:jo} {G:Nat->Prop} {s:St} {a:Act} {w w':World} {pl:Nat->Option Pl} (i:Inv F0 G s a w pl) {id:Nat} {E E':Entry} {p:Pl} (hs:s.aj id=some E) (hp:pl id=some p) (hF:¬ (F0 p.b\/G p.b))
  (hsz:w'.heap.size=w.heap.size) (hstr:Str F0.mono w w') (hh:∀ b,b ≠ p.b->w'.heap[b]? = w.heap[b]?) (um:E.like E')
  (hE:Goes (fun _=>False) (mem F0 G w.heap s.aj pl) (mem F0 G w'.heap (upd s.aj id (some E')) pl)->fG (mem F0 G w'.heap (upd s.aj id (some E')) pl) E' (some p))
  (Cg:∀ t l n,E'=.arr t l (.pinned n)->∃ l0,E=.arr t l0 (.pinned n):=by intro _ _ _ h;first | (cases h;done) | (cases h;exact ⟨_,rfl⟩)) :
  Inv F0 G { s with aj:=upd s.aj id (some E') } a w' pl/\Fr F0 G w G w':=by
 have Wm:∀ b,F0 b\/G b->b ≠ p.b:=fun b hb e=>hF (e ▸ hb)
 have g:Goes (fun _=>False) (mem F0 G w.heap s.aj pl) (mem F0 G w'.heap (upd s.aj id (some E')) pl):=
  ⟨fun _ h=>h,fun _ h=>h,i.aj.gf,fun b hb=>hh b (Wm b hb),fun j e _ he=>by
   by_cases h:j=id
   ·subst h
    have he:s.aj j=some e:=he
    rw [hs] at he
    cases he
    exact ⟨E',upd_same _ _ _,um,gQ.refl _⟩
   ·exact ⟨e,(upd_ne _ _ h).trans he,e.jh,gQ.refl _⟩,rfl⟩
 refine ⟨i.slots g rfl rfl ⟨i.aj.gf,fun b hb=>by show b<w'.heap.size;rw [hsz];exact i.aj.lt b hb,fun j e he=>?_,fun x y ex ey q q' hx hy hxy hq hq'=>?_,fun j t l n he=>by
  have he:upd s.aj id (some E') j=some (.arr t l (.pinned n)):=he
  by_cases h:j=id
  ·subst h
   rw [upd_same] at he
   have he:=Option.some.inj he
   obtain ⟨l0,rfl⟩:=Cg t l n he
   subst he
   obtain ⟨_,hll⟩:=um
   obtain ⟨k1,k2⟩:=i.aj.pin j t l0 n hs
   exact ⟨k1,hll.symm.trans k2⟩
  ·rw [upd_ne _ _ h] at he
   exact i.aj.pin j t l n he,fun j t l n he=>by
  have he:upd s.aj id (some E') j=some (.deep t l (some n)):=he
  by_cases h:j=id
  ·subst h
   rw [upd_same] at he
   have he:=Option.some.inj he
   subst he
   cases E with
   | box _ _=>exact um.elim
   | arr _ _ _=>exact um.elim
   | deep t0 l0 n0=>
    obtain ⟨rfl,hll,rfl⟩:=um
    obtain ⟨k1,k2⟩:=i.aj.yO j t0 l0 n hs
    exact ⟨k1,hll.symm.trans k2⟩
  ·rw [upd_ne _ _ h] at he
   exact i.aj.yO j t l n he⟩,fun b hb=>hh b (Wm b hb),fun _ h=>h,fun _ h _=>h,by rw [hsz];exact Nat.le_refl _,hstr⟩
 ·by_cases h:j=id
  ·subst h
   have he:upd s.aj j (some E') j=some e:=he
   rw [upd_same] at he
   cases he
   show fG _ _ (pl j)
   rw [hp]
   exact hE g
  ·have he:upd s.aj id (some E') j=some e:=he
   rw [upd_ne _ _ h] at he
   refine g.entry (fun q hq b hb=>hh _ ?_) (fun _ _ _ _ h=>h) (fun _ _ h=>h) (i.aj.ent j e he)
   exact fun e'=>i.aj.apart' j id e E q p he hs h hq hp b hb (e' ▸ E.gI p)
 ·have key:∀ {z ez},upd s.aj id (some E') z=some ez->∃ Wn,s.aj z=some Wn/\∀ p,ez.bs p=Wn.bs p:=by
   intro z ez hz
   by_cases h:z=id
   ·subst h;rw [upd_same] at hz;cases hz;exact ⟨E,hs,fun p=>Entry.Tp um p⟩
   ·rw [upd_ne _ _ h] at hz;exact ⟨ez,hz,fun _=>rfl⟩
  obtain ⟨ex',hx',bx⟩:=key hx
  obtain ⟨Ls,hy',bY⟩:=key hy
  rw [bx,bY]
  exact i.aj.apart' x y ex' Ls q q' hx' hy' hxy hq hq'
theorem Inv.freeze {F0:jo} {G:Nat->Prop} {s:St} {a:Act} {w:World} {pl:Nat->Option Pl} (i:Inv F0 G s a w pl) {id:Nat} {t:Ty} {l:List t.den} {o:Own} (hs:s.aj id=some (.arr t l o))
  (ho:∀ n,o ≠ .pinned n) :
  Inv F0 (fun b=>G b\/∃ p,pl id=some p/\b=p.b) { s with aj:=upd s.aj id (some (.arr t l .frozen)) } a w pl/\Fr F0 G w (fun b=>G b\/∃ p,pl id=some p/\b=p.b) w:=by
 have hent:=i.aj.ent id _ hs
 have g:Goes (fun _=>False) (mem F0 G w.heap s.aj pl) (mem F0 (fun b=>G b\/∃ p,pl id=some p/\b=p.b) w.heap (upd s.aj id (some (.arr t l .frozen))) pl):=
  ⟨fun b h=>h.imp (fun x=>x) .inl,fun b h=>.inl h,i.aj.gf,fun _ _=>rfl,fun j e _ he=>by
   by_cases h:j=id
   ·subst h
    have he:s.aj j=some e:=he
    rw [hs] at he
    cases he
    exact ⟨_,upd_same _ _ _,⟨rfl,rfl⟩,gQ.refl _⟩
   ·exact ⟨e,(upd_ne _ _ h).trans he,e.jh,gQ.refl _⟩,rfl⟩
 refine ⟨i.slots g rfl rfl ⟨fun b hb=>.inr hb,fun b hb=>?_,fun j e he=>?_,fun x y ex ey q q' hx hy hxy hq hq'=>?_,fun j t' l' n he=>by
  have he:upd s.aj id (some (.arr t l .frozen)) j=some (.arr t' l' (.pinned n)):=he
  by_cases h:j=id
  ·subst h
   rw [upd_same] at he
   cases he
  ·rw [upd_ne _ _ h] at he
   exact i.aj.pin j t' l' n he,fun j t' l' n he=>by
  have he:upd s.aj id (some (.arr t l .frozen)) j=some (.deep t' l' (some n)):=he
  by_cases h:j=id
  ·subst h
   rw [upd_same] at he
   cases he
  ·rw [upd_ne _ _ h] at he
   exact i.aj.yO j t' l' n he⟩,fun _ _=>rfl,fun b h=>.inl h,fun b hb hf=>?_,Nat.le_refl _,Str.refl _ _⟩
 ·rcases hb with hb | hb | ⟨p,hp,rfl⟩
  ·exact i.aj.lt b (.inl hb)
  ·exact i.aj.lt b (.inr hb)
  ·exact i.aj.Rt hs hp
 ·by_cases h:j=id
  ·subst h
   have he:upd s.aj j (some (.arr t l .frozen)) j=some e:=he
   rw [upd_same] at he
   cases he
   exact ⟨g.OW (fun _ _=>rfl) hent.1,fun p hp=>⟨⟨fun _=>.inr ⟨p,hp,rfl⟩,(hent.2 p hp).1.2⟩,fun h=>absurd rfl h⟩⟩
  ·have he:upd s.aj id (some (.arr t l .frozen)) j=some e:=he
   rw [upd_ne _ _ h] at he
   refine g.entry (fun _ _ _ _=>rfl) (fun q hq b hb hn hF=>?_) (fun _ _ h=>h) (i.aj.ent j e he)
   rcases hF with hF | hF | ⟨p,hp,Ru⟩
   ·exact hn (.inl hF)
   ·exact hn (.inr hF)
   ·exact i.aj.apart' j id e _ q p he hs h hq hp b hb (by rw [Ru];exact Entry.gI _ _)
 ·have key:∀ {z ez},upd s.aj id (some (.arr t l .frozen)) z=some ez->∃ Wn,s.aj z=some Wn/\∀ p,ez.bs p=Wn.bs p:=by
   intro z ez hz
   by_cases h:z=id
   ·subst h;rw [upd_same] at hz;cases hz;exact ⟨_,hs,fun _=>rfl⟩
   ·rw [upd_ne _ _ h] at hz;exact ⟨ez,hz,fun _=>rfl⟩
  obtain ⟨ex',hx',bx⟩:=key hx
  obtain ⟨Ls,hy',bY⟩:=key hy
  rw [bx,bY]
  exact i.aj.apart' x y ex' Ls q q' hx' hy' hxy hq hq'
 ·rcases hb with hb | ⟨p,hp,rfl⟩
  ·exact hb
  ·have:=hent.2 p hp
   cases o with
   | frozen=>exact this.1.1 rfl
   | «open»=>exact absurd (.inl hf) (this.2 (by simp))
   | pinned n=>exact absurd rfl (ho n)
theorem uZ {F0:jo} {a:Act} {w:World} {pl:Nat->Option Pl}:∀ {ids:List Nat} {G:Nat->Prop} {s:St},Inv F0 G s a w pl->
  (∀ id ∈ ids,∀ t l n,s.aj id ≠ some (.arr t l (.pinned n)))->
  ∃ G',Inv F0 G' { s with aj:=bB s.aj ids } a w pl/\Fr F0 G w G' w/\(∀ id ∈ ids,∀ t l o,s.aj id=some (.arr t l o)->∀ p,pl id=some p->G' p.b) /\
   (∀ k,s.aj k=none->bB s.aj ids k=none):=by
 intro ids
 induction ids with
 | nil=>intro G s i _;exact ⟨G,i,Fr.refl _ _ _,fun id h=>by simp at h,fun k h=>h⟩
 | cons id ids ih=>
  intro G s i hp
  have hno:∀ {σ:Nat->Option Entry},(∀ t l o,σ id ≠ some (.arr t l o))->bB σ (id :: ids)=bB σ ids:=by
   intro σ h
   simp only [bB]
  by_cases h:∃ t l o,s.aj id=some (.arr t l o)
  ·obtain ⟨t,l,o,hs⟩:=h
   have ho:∀ n,o ≠ .pinned n:=fun n e=>hp id (by simp) t l n (e ▸ hs)
   obtain ⟨i',fr⟩:=i.freeze hs ho
   have hp':∀ j ∈ ids,∀ t' l' n',({ s with aj:=upd s.aj id (some (.arr t l .frozen)) }:St).aj j ≠ some (.arr t' l' (.pinned n')):=by
    intro j hj t' l' n' he
    by_cases hji:j=id
    ·subst hji
     have he:upd s.aj j (some (.arr t l .frozen)) j=_:=he
     rw [upd_same] at he
     cases he
    ·exact hp j (by simp [hj]) t' l' n' ((upd_ne s.aj _ hji).symm.trans he)
   obtain ⟨G',Ur,fr',hG,hk⟩:=ih i' hp'
   have heq:bB s.aj (id :: ids)=bB (upd s.aj id (some (.arr t l .frozen))) ids:=by simp only [bB,hs]
   refine ⟨G',by rw [heq];exact Ur,fr.trans fr',fun j hj t' l' o' he p hpp=>?_,fun k hk0=>?_⟩
   ·by_cases hji:j=id
    ·subst hji
     exact fr'.more _ (.inr ⟨p,hpp,rfl⟩)
    ·rcases List.mem_cons.1 hj with hj | hj
     ·exact absurd hj hji
     ·exact hG j hj t' l' o' ((upd_ne s.aj _ hji).trans he) p hpp
   ·rw [heq]
    refine hk k ?_
    by_cases hki:k=id
    ·subst hki;rw [hs] at hk0;cases hk0
    ·exact (upd_ne s.aj _ hki).trans hk0
  ·have hne:∀ t l o,s.aj id ≠ some (.arr t l o):=fun t l o he=>h ⟨t,l,o,he⟩
   obtain ⟨G',i',fr,hG,hk⟩:=ih i (fun j hj=>hp j (by simp [hj]))
   rw [hno hne]
   refine ⟨G',i',fr,fun j hj t l o he p hpp=>?_,hk⟩
   rcases List.mem_cons.1 hj with rfl | hj
   ·exact absurd he (hne t l o)
   ·exact hG j hj t l o he p hpp
end Go.Flat
