/- What comes back of a call becomes the caller's own. No condition. -/
import Derived.Test.YtmocpfgfjeaelaaGreatCall1
set_option linter.unusedVariables false
set_option linter.unusedSimpArgs false
namespace Go.Flat
def At (M:Mem) (es:List (Nat × Entry)) (ps:List (Option Pl)):Prop:=
 ∀ (i:Nat) k e π,es[i]? = some (k,e)->ps[i]? = some π->M.aj k=some e/\M.pl k=π
theorem At.left {M:Mem} {es fs:List (Nat × Entry)} {ps qs:List (Option Pl)} (hl:es.length=ps.length) (h:At M (es++fs) (ps++qs)):At M es ps:=by
 intro i k e π hi hp
 have h1:=(List.getElem?_eq_some_iff.1 hi).1
 exact h i k e π (by rw [List.getElem?_append_left h1];exact hi) (by rw [List.getElem?_append_left (by omega)];exact hp)
theorem At.right {M:Mem} {es fs:List (Nat × Entry)} {ps qs:List (Option Pl)} (hl:es.length=ps.length) (h:At M (es++fs) (ps++qs)):At M fs qs:=by
 intro i k e π hi hp
 refine h (es.length+i) k e π ?_ ?_
 ·rw [List.getElem?_append_right (by omega)];simpa using hi
 ·rw [List.getElem?_append_right (by omega),<- hl];simpa using hp
def Rows (G:Nat->Prop) (h:Array Obj) (es:List (Nat × Entry)) (ps:List (Option Pl)):Prop:=
 es.length=ps.length/\∀ (i:Nat) k e π,es[i]? = some (k,e)->ps[i]? = some π->(∃ t l,e=.arr t l .open/\lS G h t l π/\uX π)\/∃ t l,e=.deep t l none/\iA G h t l π
theorem Rows.append {G:Nat->Prop} {h:Array Obj} {es fs:List (Nat × Entry)} {ps qs:List (Option Pl)} (h1:Rows G h es ps) (h2:Rows G h fs qs):Rows G h (es++fs) (ps++qs):=by
 refine ⟨by simp [h1.1,h2.1],fun i k e π hi hp=>?_⟩
 rw [List.getElem?_append] at hi hp
 split at hi
 ·rename_i hlt
  rw [if_pos (by rw [<- h1.1];exact hlt)] at hp
  exact h1.2 i k e π hi hp
 ·rename_i hlt
  rw [if_neg (by rw [<- h1.1];exact hlt)] at hp
  exact h2.2 _ k e π hi (by rw [h1.1];exact hp)
theorem kI {own:Bool} {key:Nat->Nat} {G:Nat->Prop} {h:Array Obj}:∀ {t:Ty} {x:t.den} {cs:List Value} {ps:List (Option Pl)} (j:Nat),aW own G h t x cs ps->
  Rows G h (aA own key t x j).2.1 ps/\∀ M:Mem,M.G=G->M.h=h->At M (aA own key t x j).2.1 ps->ay M (aA own key t x j).1 cs:=by
 intro t
 induction t with
 | list t _=>
  intro x cs ps j ho
  simp only [aW] at ho
  cases own with
  | true=>
   simp only [if_true] at ho
   obtain ⟨v,π,rfl,rfl,hs,ha,hfl⟩:=ho
   simp only [aA,if_true]
   refine ⟨⟨rfl,fun i k e π' hi hp=>?_⟩,fun M hG hh hat=>?_⟩
   ·cases i with
    | zero=>simp at hi hp;obtain ⟨rfl,rfl⟩:=hi;subst hp;exact .inl ⟨t,x,rfl,ha,hfl⟩
    | succ i=>simp at hi
   ·obtain ⟨h1,h2⟩:=hat 0 (key j) (.arr t x .open) π rfl rfl
    have hone:one v=true:=by
     cases π with
     | none=>rw [hs.2];rfl
     | some p=>obtain ⟨_,_,hv,_⟩:=hs;rw [hv];rfl
    exact ay.jD (c:=.ref (key j)) ⟨t,x,.open,h1,by rw [h2];exact hs⟩ hone ay.nil
  | false=>
   simp only [Bool.false_eq_true,if_false] at ho
   obtain ⟨rfl,hr⟩:=ho
   simp only [aA,Bool.false_eq_true,if_false]
   refine ⟨⟨rfl,fun i k e π' hi=>by simp at hi⟩,fun M hG hh _=>?_⟩
   have:Rd M.G M.h (.list t) (if true then M.G else M.F) x cs:=by rw [hG,hh];exact hr
   exact kC true this
 | aG t _=>
  intro x cs ps j ho
  cases own with
  | true=>
   obtain ⟨v,π,rfl,rfl,hs,ha⟩:=fC.1 ho
   simp only [aA,if_true]
   refine ⟨⟨rfl,fun i k e π' hi hp=>?_⟩,fun M hG hh hat=>?_⟩
   ·cases i with
    | zero=>simp at hi hp;obtain ⟨rfl,rfl⟩:=hi;subst hp;exact .inr ⟨t,x,rfl,ha⟩
    | succ i=>simp at hi
   ·obtain ⟨h1,h2⟩:=hat 0 (key j) (.deep t x none) π rfl rfl
    have hone:one v=true:=by
     cases π with
     | none=>rw [hs.2];rfl
     | some p=>obtain ⟨_,_,hv,_⟩:=hs;rw [hv];rfl
    exact ay.jD (c:=.fE (key j)) ⟨t,x,none,h1,by rw [h2];exact hs⟩ hone ay.nil
  | false=>
   simp only [aW,Bool.false_eq_true,if_false] at ho
   obtain ⟨rfl,hr⟩:=ho
   simp only [aA,Bool.false_eq_true,if_false]
   refine ⟨⟨rfl,fun i k e π' hi=>by simp at hi⟩,fun M hG hh _=>?_⟩
   have:Rd M.G M.h (.list t) (if true then M.G else M.F) x cs:=by rw [hG,hh];exact hr
   exact kC true this
 | pair a b iha ihb=>
  intro x cs ps j ho
  obtain ⟨c,d,p,q,rfl,rfl,h1,h2⟩:=ho
  obtain ⟨r1,k1⟩:=iha j h1
  simp only [aA]
  generalize hra:aA own key a x.1 j=ra at *
  obtain ⟨ca,ea,ja⟩:=ra
  obtain ⟨r2,k2⟩:=ihb ja h2
  generalize hrb:aA own key b x.2 ja=rb at *
  obtain ⟨cb,eb,jb⟩:=rb
  simp only at r1 k1 r2 k2 ⊢
  refine ⟨r1.append r2,fun M hG hh hat=>?_⟩
  exact (k1 M hG hh (hat.left r1.1)).append (k2 M hG hh (hat.right r1.1))
 | bool=>
  intro x cs ps j ho
  obtain ⟨rfl,rfl⟩:=ho
  exact ⟨⟨rfl,fun i k e π' hi=>by simp [aA] at hi⟩,fun M hG hh _=>kC (M:=M) true (t:=.bool) (x:=x) rfl⟩
 | int k=>
  intro x cs ps j ho
  obtain ⟨rfl,rfl⟩:=ho
  exact ⟨⟨rfl,fun i k e π' hi=>by simp [aA] at hi⟩,fun M hG hh _=>kC (M:=M) true (t:=.int k) (x:=x) rfl⟩
 | str=>
  intro x cs ps j ho
  obtain ⟨rfl,rfl⟩:=ho
  exact ⟨⟨rfl,fun i k e π' hi=>by simp [aA] at hi⟩,fun M hG hh _=>kC (M:=M) true (t:=.str) (x:=x) rfl⟩
 | unit=>
  intro x cs ps j ho
  obtain ⟨rfl,rfl⟩:=ho
  exact ⟨⟨rfl,fun i k e π' hi=>by simp [aA] at hi⟩,fun M hG hh _=>ay.nil⟩
theorem DF {own:Bool} {key:Nat->Nat} {G:Nat->Prop} {h:Array Obj}:∀ {t:Ty} {x:t.den} {cs:List Value} {ps:List (Option Pl)} {vs:List Value} (j:Nat),aW own G h t x cs ps->Jo t cs vs->
  Rows G h (lQ own key t x j).2 ps/\∀ M:Mem,M.G=G->M.h=h->At M (lQ own key t x j).2 ps->
   vs.length=(lQ own key t x j).1.length/\∀ (i:Nat) c u,(lQ own key t x j).1[i]? = some c->vs[i]? = some u->dG M c u
 | .unit,x,cs,ps,vs,j,ho,ht=>by
  obtain ⟨rfl,rfl⟩:=ho
  obtain ⟨_,rfl⟩:=ht
  exact ⟨⟨rfl,fun i k e π' hi=>by simp [lQ] at hi⟩,fun M _ _ _=>⟨rfl,fun i c u hi=>by simp [lQ] at hi⟩⟩
 | .pair a b,x,cs,ps,vs,j,ho,ht=>by
  obtain ⟨c,d,p,q,rfl,rfl,h1,h2⟩:=ho
  obtain ⟨v,vs',rfl,hv,ht'⟩:=ht
  rw [List.take_left' h1.len] at hv
  rw [List.drop_left' h1.len] at ht'
  obtain ⟨r1,k1⟩:=kI (key:=key) j h1
  simp only [lQ]
  generalize hra:aA own key a x.1 j=ra at *
  obtain ⟨ca,ea,ja⟩:=ra
  obtain ⟨r2,k2⟩:=DF (key:=key) ja h2 ht'
  generalize hrb:lQ own key b x.2 ja=rb at *
  obtain ⟨cb,eb⟩:=rb
  simp only at r1 k1 r2 k2 ⊢
  refine ⟨r1.append r2,fun M hG hh hat=>?_⟩
  have h3:=k1 M hG hh (hat.left r1.1)
  obtain ⟨h4,h5⟩:=k2 M hG hh (hat.right r1.1)
  refine ⟨by simp [h4],fun i c u hi hu=>?_⟩
  cases i with
  | zero=>simp at hi hu;subst hi hu;exact je h3 hv
  | succ i=>exact h5 i c u (by simpa using hi) (by simpa using hu)
 | .bool,_,_,_,_,_,_,ht=>ht.elim
 | .int _,_,_,_,_,_,_,ht=>ht.elim
 | .str,_,_,_,_,_,_,ht=>ht.elim
 | .list _,_,_,_,_,_,_,ht=>ht.elim
 | .aG _,_,_,_,_,_,_,ht=>ht.elim
theorem vB {own one:Bool} {key:Nat->Nat} {G:Nat->Prop} {h:Array Obj} {t:Ty} {x:t.den} {v:Value} {ps:List (Option Pl)} (hr:zn own one t G h x v ps) :
  Rows G h (fM own one key t x).2 ps/\∀ M:Mem,M.G=G->M.h=h->At M (fM own one key t x).2 ps->eY M (fM own one key t x).1 v:=by
 obtain ⟨cs,ho,hv⟩:=hr
 unfold fM
 cases one with
 | true=>
  simp only [if_true] at hv ⊢
  obtain ⟨r1,k1⟩:=kI (key:=key) 0 ho
  generalize hra:aA own key t x 0=ra at *
  obtain ⟨ca,ea,ja⟩:=ra
  exact ⟨r1,fun M hG hh hat=>je (k1 M hG hh hat) hv⟩
 | false=>
  simp only [Bool.false_eq_true,if_false] at hv ⊢
  obtain ⟨vs,hv,ht⟩:=hv
  obtain ⟨r1,k1⟩:=DF (key:=key) 0 ho ht
  generalize hra:lQ own key t x 0=ra at *
  obtain ⟨ca,ea⟩:=ra
  exact ⟨r1,fun M hG hh hat=>⟨vs,hv,k1 M hG hh hat⟩⟩
theorem nR {R:Type} {ah:FuncId->(t:Ty)->List Arg->Option t.den} {F0:jo} {G:Nat->Prop} {a:Act} {w:World} {κ:St->Option R} {r:R}:∀ {es:List (Nat × Entry)} {ps:List (Option Pl)} {s:St} {pl:Nat->Option Pl},
  Inv F0 G s a w pl->Rows G w.heap es ps->(∀ b ∈ blks ps,¬ (F0 b\/G b)/\b<w.heap.size/\∀ id e q,s.aj id=some e->pl id=some q->b ∉ e.bs q)->(blks ps).Nodup->(jL s es).run ah κ=some r->
  ∃ s' kK,κ s'=some r/\Inv F0 G s' a w kK/\At (mem F0 G w.heap s'.aj kK) es ps/\(∀ k e,s.aj k=some e->s'.aj k=some e/\kK k=pl k)
 | [],ps,s,pl,i,hr,hf,hn,h=>⟨s,pl,h,i,fun i k e π hi=>by simp at hi,fun k e he=>⟨he,rfl⟩⟩
 | (k,e) :: es,ps,s,pl,i,hr,hf,hn,h=>by
  cases ps with
  | nil=>have:=hr.1;simp at this
  | cons π ps=>
   simp only [jL,T.run_bind] at h
   obtain ⟨hk,h⟩:=jr h
   have hmem:∀ p,π=some p->∀ b ∈ p.bs,b ∈ blks (π :: ps):=by
    rintro p rfl b hb
    rw [oJ]
    exact List.mem_append_left _ (by simpa using hb)
   have hsub:∀ b ∈ blks ps,b ∈ blks (π :: ps):=fun b hb=>by
    rw [oJ]
    exact List.mem_append_right _ hb
   have WI:∀ p,π=some p->∀ b ∈ e.bs p,b ∈ p.bs:=by
    intro p hp b hb
    rcases hr.2 0 k e π rfl rfl with ⟨t,l,he,ha,hfl⟩ | ⟨t,l,he,ha⟩
    ·subst he
     simp only [Entry.bs,List.mem_singleton] at hb
     subst hb
     exact p.gI
    ·subst he
     exact hb
   have i1:Inv F0 G { s with aj:=upd s.aj k (some e) } a w (upd pl k π):=by
    have hd:∀ id e' p q,s.aj id=some e'->pl id=some p->π=some q->∀ b ∈ e'.bs p,b ∉ e.bs q:=fun id e' p q hid hp hq b hb hb'=>
     (hf b (hmem q hq b (WI q hq b hb'))).2.2 id e' p hid hp hb
    rcases hr.2 0 k e π rfl rfl with ⟨t,l,he,ha,hfl⟩ | ⟨t,l,he,ha⟩
    ·subst he
     exact i.add (key:=k) (E:=.arr t l .open) (π:=π) hk ⟨ha,fun p hp=>⟨⟨fun ho=>(by cases ho),hfl p hp⟩,fun _=>(hf p.b (hmem p hp p.b p.gI)).1⟩⟩ hd
    ·subst he
     exact i.add (key:=k) (E:=.deep t l none) (π:=π) hk ⟨ha,fun p hp=>⟨fun b hb=>⟨(hf b (hmem p hp b hb)).2.1,(hf b (hmem p hp b hb)).1⟩,fun k hk=>by cases hk⟩⟩ hd
   have hr':Rows G w.heap es ps:=⟨by have:=hr.1;simpa using this,fun i k e π hi hp=>hr.2 (i+1) k e π (by simpa using hi) (by simpa using hp)⟩
   rw [oJ] at hn
   obtain ⟨_,hn',DW⟩:=List.nodup_append.1 hn
   have hf':∀ b ∈ blks ps,¬ (F0 b\/G b)/\b<w.heap.size/\∀ id e' q,({ s with aj:=upd s.aj k (some e) }:St).aj id=some e'->upd pl k π id=some q->b ∉ e'.bs q:=by
    intro b hb
    obtain ⟨f1,f2,f3⟩:=hf b (hsub b hb)
    refine ⟨f1,f2,fun id e' q hid hq=>?_⟩
    by_cases hik:id=k
    ·subst hik
     have hid:upd s.aj id (some e) id=some e':=hid
     rw [upd_same] at hid hq
     cases hid
     intro hb'
     exact DW b (by rw [hq];simpa using WI q hq b hb') b hb rfl
    ·rw [upd_ne _ _ hik] at hq
     exact f3 id e' q ((upd_ne s.aj _ hik).symm.trans hid) hq
   obtain ⟨s',kK,h1,h2,h3,h4⟩:=nR i1 hr' hf' hn' h
   refine ⟨s',kK,h1,h2,fun j k' e' π' hi hp=>?_,fun k' e' he'=>?_⟩
   ·cases j with
    | zero=>
     simp at hi hp
     obtain ⟨rfl,rfl⟩:=hi
     subst hp
     obtain ⟨k1,k2⟩:=h4 k e (upd_same _ _ _)
     exact ⟨k1,k2.trans (upd_same _ _ _)⟩
    | succ j=>exact h3 j k' e' π' (by simpa using hi) (by simpa using hp)
   ·have hne:k' ≠ k:=fun e=>by subst e;rw [hk] at he';cases he'
    obtain ⟨k1,k2⟩:=h4 k' e' ((upd_ne s.aj _ hne).trans he')
    exact ⟨k1,k2.trans (upd_ne _ _ hne)⟩
theorem Inv.Ut {F0:jo} {G G' A:Nat->Prop} {s:St} {a:Act} {w w':World} {pl:Nat->Option Pl} (i:Inv F0 G s a w pl) (lq:∀ b,F0 b\/G b->A b) (sF:∀ id e p,s.aj id=some e->pl id=some p->∀ b ∈ e.bs p,A b)
  (hsz:w.heap.size<=w'.heap.size) (hstr:Str F0.mono w w') (hh:∀ b,A b->w'.heap[b]? = w.heap[b]?)
  (hG:∀ b,G b->G' b) (hn:∀ b,G' b->G b\/(¬ A b/\b<w'.heap.size)):Inv F0 G' s a w' pl/\Fr F0 G w G' w':=by
 have g:Goes (fun _=>False) (mem F0 G w.heap s.aj pl) (mem F0 G' w'.heap s.aj pl):=
  ⟨fun b hb=>hb.imp id (hG b),hG,i.aj.gf,fun b hb=>hh b (lq b hb),fun id e _ he=>⟨e,he,e.jh,gQ.refl _⟩,rfl⟩
 refine ⟨i.slots g rfl rfl ⟨fun b hb=>.inr hb,fun b hb=>?_,fun id e he=>?_,i.aj.apart',i.aj.pin,i.aj.yO⟩,fun b hb=>hh b (lq b hb),hG,fun b hb hf=>?_,hsz,hstr⟩
 ·rcases hb with hb | hb
  ·exact Nat.lt_of_lt_of_le (i.aj.lt b (.inl hb)) hsz
  ·rcases hn b hb with h | h
   ·exact Nat.lt_of_lt_of_le (i.aj.lt b (.inr h)) hsz
   ·exact h.2
 ·refine g.entry (fun p hp b hb=>hh _ (sF id e p he hp b hb)) (fun p hp b hb hnF hF'=>?_) (fun _ _ h=>h) (i.aj.ent id e he)
  rcases hF' with h | h
  ·exact hnF (.inl h)
  ·rcases hn _ h with h | h
   ·exact hnF (.inr h)
   ·exact h.1 (sF id e p he hp b hb)
 ·rcases hn b hb with h | h
  ·exact h
  ·exact absurd (lq b (.inl hf)) h.1
end Go.Flat
