/- Slices that are made, appended to, cleared. No condition. -/
import Derived.Test.YtmocpfgfjeaelaaGreatOps6
set_option linter.unusedVariables false
set_option linter.unusedSimpArgs false
namespace Go.Flat
theorem Inv.NM {F0:jo} {G:Nat->Prop} {s:St} {a:Act} {w w':World} {pl:Nat->Option Pl} (i:Inv F0 G s a w pl) {id:Nat} {E E':Entry} (hs:s.aj id=some E) (hnb:∀ t cs,E ≠ .box t cs) {π':Option Pl}
  (hF:∀ p,pl id=some p->∀ b ∈ E.bs p,¬ (F0 b\/G b)) (hsz:w.heap.size<=w'.heap.size) (hstr:Str F0.mono w w') (hh:∀ b,b<w.heap.size->(∀ p,pl id=some p->b ∉ E.bs p)->w'.heap[b]? = w.heap[b]?)
  (hE:fG (mem F0 G w'.heap (upd (s.kill id).aj id (some E')) (upd pl id π')) E' π') (DW:∀ j e q q',j ≠ id->s.aj j=some e->pl j=some q->π'=some q'->∀ b ∈ e.bs q,b ∉ E'.bs q')
  (Cg:∀ t l n,E' ≠ .arr t l (.pinned n)) (Az:∀ t l n,E' ≠ .deep t l (some n)) :
  Inv F0 G { s.kill id with aj:=upd (s.kill id).aj id (some E') } a w' (upd pl id π')/\Fr F0 G w G w':=by
 have hs':∀ t cs,s.aj id ≠ some (.box t cs):=fun t cs h=>by rw [hs] at h;exact hnb t cs (Option.some.inj h)
 have Ws:∀ b,F0 b\/G b->w'.heap[b]? = w.heap[b]?:=fun b hb=>hh b (i.aj.lt b hb) (fun p hp h=>hF p hp b h hb)
 have g:Goes (·=id) (mem F0 G w.heap s.aj pl) (mem F0 G w'.heap (upd (s.kill id).aj id (some E')) (upd pl id π')):=
  ⟨fun _ h=>h,fun _ h=>h,i.aj.gf,Ws,fun j e hj he=>by
   refine ⟨e.kill id,(upd_ne _ _ hj).trans ?_, ?_, ?_⟩
   ·show (s.aj j).map (·.kill id)=_
    rw [show s.aj j=some e from he]
    rfl
   ·cases e with
    | box _ _=>trivial
    | arr _ _ _=>exact ⟨rfl,rfl⟩
    | deep _ _ _=>exact ⟨rfl,rfl,rfl⟩
   ·show gQ (pl j) (upd pl id π' j)
    rw [upd_ne _ _ hj]
    exact gQ.refl _,rfl⟩
 have old:∀ {j e},j ≠ id->upd (s.kill id).aj id (some E') j=some e->∃ e',s.aj j=some e'/\e=e'.kill id:=by
  intro j e hj he
  rw [upd_ne _ _ hj] at he
  obtain ⟨e',h1,h2⟩:=Option.map_eq_some_iff.1 he
  exact ⟨e',h1,h2.symm⟩
 refine ⟨⟨i.size,fun t'=>Jf g hs' (i.env t'),⟨i.aj.gf,fun b hb=>Nat.lt_of_lt_of_le (i.aj.lt b hb) hsz,fun j e he=>?_,fun x y ex ey p q hx hy hxy hp hq=>?_,fun j t l n he=>?_,fun j t l n he=>?_⟩,i.defers⟩,Ws,fun _ h=>h,fun _ h _=>h,hsz,hstr⟩
 ·by_cases hj:j=id
  ·subst hj
   have he:upd (s.kill j).aj j (some E') j=some e:=he
   rw [upd_same] at he
   cases he
   show fG _ _ (upd pl j π' j)
   rw [upd_same]
   exact hE
  ·obtain ⟨e',he',rfl⟩:=old hj he
   show fG _ _ (upd pl id π' j)
   rw [upd_ne _ _ hj]
   have hent:=i.aj.ent j e' he'
   have hb:∀ p,pl j=some p->∀ b ∈ e'.bs p,w'.heap[b]? = w.heap[b]?:=fun p hp b hb=>hh b (i.aj.jY he' hp b hb) (fun p' hp' h=>i.aj.apart' j id e' _ p p' he' hs hj hp hp' b hb h)
   cases e' with
   | box tt cs=>
    obtain ⟨p,c,e,fz,hp,ho,Wp,hfz,hsz',hcs,hty,hrel,Wq⟩:=hent
    exact ⟨p,c,e,fz,hp,ho,(hb p hp p.b (by simp [Entry.bs])).trans Wp,hfz,hsz',by simpa using hcs,fun u hu=>by simpa using hty u hu,zM g hs' hrel,Wq⟩
   | arr tt ll oo=>
    exact g.entry hb (fun _ _ _ _ h=>h) (fun _ h=>by simp [Entry.ids,Entry.kill] at h) hent
   | deep tt ll nn=>
    exact g.entry hb (fun _ _ _ _ h=>h) (fun _ h=>by simp [Entry.ids,Entry.kill] at h) hent
 ·have hp:upd pl id π' x=some p:=hp
  have hq:upd pl id π' y=some q:=hq
  have hx:upd (s.kill id).aj id (some E') x=some ex:=hx
  have hy:upd (s.kill id).aj id (some E') y=some ey:=hy
  by_cases h1:x=id
  ·have h2:y ≠ id:=fun e=>hxy (h1.trans e.symm)
   obtain ⟨Ls,hy',rfl⟩:=old h2 hy
   rw [h1,upd_same] at hx hp
   cases hx
   rw [upd_ne _ _ h2] at hq
   rw [Entry.og]
   exact fun b hb hb'=>DW y Ls q p h2 hy' hq hp b hb' hb
  ·obtain ⟨ex',hx',rfl⟩:=old h1 hx
   rw [upd_ne _ _ h1] at hp
   rw [Entry.og]
   by_cases h2:y=id
   ·rw [h2,upd_same] at hy hq
    cases hy
    exact DW x ex' p q h1 hx' hp hq
   ·obtain ⟨Ls,hy',rfl⟩:=old h2 hy
    rw [upd_ne _ _ h2] at hq
    rw [Entry.og]
    exact i.aj.apart' x y ex' Ls p q hx' hy' hxy hp hq
 ·have he:upd (s.kill id).aj id (some E') j=some (.arr t l (.pinned n)):=he
  by_cases hj:j=id
  ·subst hj
   rw [upd_same] at he
   exact absurd (Option.some.inj he) (Cg t l n)
  ·obtain ⟨e',he',hee⟩:=old hj he
   show upd pl id π' j=_/\_
   rw [upd_ne _ _ hj]
   cases e' with
   | box _ _=>cases hee
   | arr t' l' o'=>cases hee;exact i.aj.pin j t l n he'
   | deep _ _ _=>cases hee
 ·have he:upd (s.kill id).aj id (some E') j=some (.deep t l (some n)):=he
  by_cases hj:j=id
  ·subst hj
   rw [upd_same] at he
   exact absurd (Option.some.inj he) (Az t l n)
  ·obtain ⟨e',he',hee⟩:=old hj he
   show upd pl id π' j=_/\_
   rw [upd_ne _ _ hj]
   cases e' with
   | box _ _=>cases hee
   | arr _ _ _=>cases hee
   | deep t' l' o'=>cases hee;exact i.aj.yO j t l n he'
theorem Inv.Wx {F0:jo} {G:Nat->Prop} {s:St} {a:Act} {w w':World} {pl:Nat->Option Pl} (i:Inv F0 G s a w pl) {id:Nat} {t:Ty} {l:List t.den} {o:Own} (hs:s.aj id=some (.arr t l o)) {u:Ty} {l':List u.den} {π':Option Pl}
  (hF:∀ p,pl id=some p->¬ (F0 p.b\/G p.b)) (hsz:w.heap.size<=w'.heap.size) (hstr:Str F0.mono w w') (hh:∀ b,b<w.heap.size->(∀ p,pl id=some p->b ≠ p.b)->w'.heap[b]? = w.heap[b]?)
  (hA:lS G w'.heap u l' π') (hfl:uX π') (hnew:∀ q,π'=some q->(∃ p,pl id=some p/\q.b=p.b)\/w.heap.size<=q.b) :
  Inv F0 G { s.kill id with aj:=upd (s.kill id).aj id (some (.arr u l' .open)) } a w' (upd pl id π')/\Fr F0 G w G w':=by
 refine i.NM hs (fun _ _ h=>by cases h) (fun p hp b hb=>?_) hsz hstr (fun b hb h=>hh b hb (fun p hp e=>h p hp (by simp [Entry.bs,e]))) ⟨hA,fun q hq=>⟨⟨fun ho=>(by cases ho),hfl q hq⟩,fun _ hb=>?_⟩⟩ (fun j e q q' hj he hq hq' b hb hb'=>?_) (fun _ _ _ h=>by cases h) (fun _ _ _ h=>by cases h)
 ·simp only [Entry.bs,List.mem_singleton] at hb
  subst hb
  exact hF p hp
 ·rcases hnew q hq with ⟨p,hp,e⟩ | h
  ·exact hF p hp (e ▸ hb)
  ·exact Nat.lt_irrefl _ (Nat.lt_of_lt_of_le (i.aj.lt _ hb) h)
 ·simp only [Entry.bs,List.mem_singleton] at hb'
  subst hb'
  rcases hnew q' hq' with ⟨p',hp',e'⟩ | h
  ·exact i.aj.apart' j id e _ q p' he hs hj hq hp' _ hb (by simp [Entry.bs,e'])
  ·exact Nat.lt_irrefl _ (Nat.lt_of_lt_of_le (i.aj.jY he hq _ hb) h)
theorem Jj {G A:Nat->Prop} {h:Array Obj} {t:Ty} {l:List t.den} {v:Value} (hr:Rd G h (.list t) A l [v]) :
  ∃ (a:Option Addr) (cap:Nat) (news:List Value),v=.slice a l.length cap/\l.length<=cap/\news.length=l.length*t.sz/\iF G h t l news 0/\(∀ u ∈ news,one u=true) /\
   (l ≠ []->∃ b o,a=some ⟨b,o,none⟩/\A b/\∀ k u,news[k]? = some u->hcell h b (o+k)=some u):=by
 obtain ⟨a,cap,hv,hl,hne⟩:=hr
 simp at hv
 by_cases h0:l=[]
 ·subst h0
  exact ⟨a,cap,[],hv,hl,by simp,fun i x hi=>by simp at hi,fun u hu=>by simp at hu,fun h=>absurd rfl h⟩
 ·obtain ⟨b,o,rfl,hb,hc⟩:=hne h0
  have key:∀ k,k<l.length*t.sz->∃ u,hcell h b (o+k)=some u/\one u=true:=by
   intro k hk
   have hs:0<t.sz:=by
    rcases Nat.eq_zero_or_pos t.sz with e | e
    ·rw [e] at hk;omega
    ·exact e
   have hd:k / t.sz<l.length:=(Nat.div_lt_iff_lt_mul hs).2 hk
   obtain ⟨es,hes,hj⟩:=hc (k / t.sz) _ (List.getElem?_eq_getElem hd)
   have hm:k % t.sz<es.length:=by rw [hes.len];exact Nat.mod_lt _ hs
   refine ⟨es[k % t.sz], ?_,hes.one _ (List.getElem_mem hm)⟩
   have:=hj (k % t.sz) _ (List.getElem?_eq_getElem hm)
   rw [show o+k=o+k / t.sz*t.sz+k % t.sz by have:=Nat.div_add_mod k t.sz;rw [Nat.mul_comm] at this;omega]
   exact this
  refine ⟨_,cap,(List.range (l.length*t.sz)).map fun k=>(hcell h b (o+k)).getD (.bool false),hv,hl,by simp,fun i x hi=>?_,fun u hu=>?_,fun _=>⟨b,o,rfl,hb,fun k u hk=>?_⟩⟩
  ·obtain ⟨es,hes,hj⟩:=hc i x hi
   refine ⟨es,hes,fun j u hu=>?_⟩
   have hil:i<l.length:=(List.getElem?_eq_some_iff.1 hi).1
   have hjl:j<t.sz:=by have:=(List.getElem?_eq_some_iff.1 hu).1;rwa [hes.len] at this
   have hmul:(i+1)*t.sz<=l.length*t.sz:=Nat.mul_le_mul_right _ hil
   rw [Nat.add_mul,Nat.one_mul] at hmul
   rw [List.getElem?_map,List.getElem?_range (by omega)]
   simp only [Option.map_some,Nat.zero_add]
   rw [show o+(i*t.sz+j)=o+i*t.sz+j by omega,hj j u hu]
   rfl
  ·obtain ⟨k,hk,rfl⟩:=List.mem_map.1 hu
   obtain ⟨u',h1,h2⟩:=key k (List.mem_range.1 hk)
   rw [h1]
   exact h2
  ·rw [List.getElem?_map] at hk
   obtain ⟨k',hk',rfl⟩:=Option.map_eq_some_iff.1 hk
   obtain ⟨hlt,rfl⟩:=List.getElem?_eq_some_iff.1 hk'
   simp only [List.getElem_range]
   obtain ⟨u',h1,h2⟩:=key k (by simpa using hlt)
   rw [h1]
   rfl
theorem Jk {P:Program} {G A:Nat->Prop} {w:World} {t:Ty} {l:List t.den} {v:Value} {tx:TypeId} (hk:∃ e',P.underlying tx=some (.slice e')) (hr:Rd G w.heap (.list t) A l [v]) :
  ∃ (a:Option Addr) (cap:Nat) (news:List Value),v=.slice a l.length cap/\Src P t.sz tx v l.length news w/\iF G w.heap t l news 0:=by
 obtain ⟨e',hk⟩:=hk
 obtain ⟨a,cap,news,rfl,hl,hlen,hrow,hone,hne⟩:=Jj hr
 refine ⟨a,cap,news,rfl, ?_,hrow⟩
 cases a with
 | none=>
  have h0:l=[]:=by
   by_cases h0:l=[]
   ·exact h0
   ·obtain ⟨b,o,h,_⟩:=hne h0;cases h
  subst h0
  have hn:news=[]:=List.eq_nil_of_length_eq_zero (by simpa using hlen)
  subst hn
  exact Src.ofNil w hk cap
 | some x=>
  refine Src.ofSlice w hk x l.length cap news hlen (fun j u hu=>?_) (fun u hu=>by rw [Ci];exact hone u hu)
  have h0:l ≠ []:=by
   intro e
   subst e
   have:news=[]:=List.eq_nil_of_length_eq_zero (by simpa using hlen)
   subst this
   simp at hu
  obtain ⟨b,o,h,_,hc⟩:=hne h0
  cases h
  rw [pR,pz]
  exact hc j u hu
theorem FE {need cap bytes:Nat} (h:cap<need) (hb:bytes<=1048576) (hm:need*bytes<=bN):Builtin.nextslicecap need cap*bytes<=281474976710656:=by
 have key:Builtin.nextslicecap need cap<=need+need / 4+768:=by
  unfold Builtin.nextslicecap
  split
  ·omega
  ·split
   ·omega
   ·have grow:∀ (r c:Nat),c<=need+need / 4+768->Builtin.growBy need r c<=need+need / 4+768:=by
     intro r
     induction r with
     | zero=>intro c hc;exact hc
     | succ r ih=>
      intro c hc
      simp only [Builtin.growBy]
      split
      ·exact hc
      ·exact ih _ (by omega)
    exact grow 4 cap (by omega)
 have h1:(need / 4)*bytes<=need*bytes / 4:=by
  rw [Nat.le_div_iff_mul_le (by omega)]
  have:=Nat.mul_le_mul_right bytes (Nat.div_mul_le_self need 4)
  calc need / 4*bytes*4=need / 4*4*bytes:=by rw [Nat.mul_right_comm]
   _<=need*bytes:=this
 have h2:Builtin.nextslicecap need cap*bytes<=(need+need / 4+768)*bytes:=Nat.mul_le_mul_right _ key
 rw [Nat.add_mul,Nat.add_mul] at h2
 unfold bN at hm
 have h3:768*bytes<=768*1048576:=Nat.mul_le_mul_left _ hb
 omega
theorem iF.append {G:Nat->Prop} {h:Array Obj} {t:Ty} {l k:List t.den} {c news:List Value} {o:Nat} (H:iF G h t l c o) (K:iF G h t k news 0) (hn:news.length=k.length*t.sz) (hle:o+l.length*t.sz+news.length<=c.length) :
  iF G h t (l++k) (c.take (o+l.length*t.sz)++news++c.drop (o+l.length*t.sz+news.length)) o:=by
 intro i x hi
 rw [List.getElem?_append] at hi
 split at hi
 ·rename_i hlt
  obtain ⟨es,hes,hj⟩:=H i x hi
  refine ⟨es,hes,fun j v hv=>?_⟩
  have hjl:j<t.sz:=by have:=(List.getElem?_eq_some_iff.1 hv).1;rwa [hes.len] at this
  have hmul:(i+1)*t.sz<=l.length*t.sz:=Nat.mul_le_mul_right _ hlt
  rw [Nat.add_mul,Nat.one_mul] at hmul
  rw [bP hle,if_pos (by omega)]
  exact hj j v hv
 ·rename_i hge
  obtain ⟨es,hes,hj⟩:=K (i - l.length) x hi
  refine ⟨es,hes,fun j v hv=>?_⟩
  have hjl:j<t.sz:=by have:=(List.getElem?_eq_some_iff.1 hv).1;rwa [hes.len] at this
  have hlt:i - l.length<k.length:=(List.getElem?_eq_some_iff.1 hi).1
  have hmul:(i - l.length+1)*t.sz<=k.length*t.sz:=Nat.mul_le_mul_right _ hlt
  rw [Nat.add_mul,Nat.one_mul] at hmul
  have hsum:i*t.sz=l.length*t.sz+(i - l.length)*t.sz:=by rw [<- Nat.add_mul];congr 1;omega
  rw [bP hle,if_neg (by omega),if_pos (by omega)]
  have:=hj j v hv
  rw [Nat.zero_add] at this
  rw [show o+i*t.sz+j - (o+l.length*t.sz)=(i - l.length)*t.sz+j by omega]
  exact this
end Go.Flat
