/- Rows that are given up: no way leads to them any more; what a value gives away. No condition. -/
import Derived.Test.YtmocpfgfjeaelaaGreatOps4
set_option linter.unusedVariables false
set_option linter.unusedSimpArgs false
namespace Go.Flat
theorem Entry.og (id:Nat) (e:Entry) (p:Pl):(e.kill id).bs p=e.bs p:=by cases e <;> rfl
theorem Rx {M M':Mem} {id:Nat} (g:Goes (·=id) M M') (ha:∀ t cs,M.aj id ≠ some (.box t cs)) {c:Cap} {v:Value} (h:mU M c v):mU M' c v:=by
 refine g.cap (fun j hj hji=>?_) h
 subst hji hj
 obtain ⟨_,_,_,hs,_⟩:=h
 exact ha _ _ hs
theorem Je {M M':Mem} {id:Nat} (g:Goes (·=id) M M') (ha:∀ t cs,M.aj id ≠ some (.box t cs)) {c:Cell} {v:Value} (h:bO M c v):bO M' (c.kill id) v:=by
 have ne:∀ {j},Nat.beq j id=false->j ≠ id:=fun h e=>by subst e;simp at h
 cases c with
 | ref j=>
  simp only [Cell.kill]
  cases hb:Nat.beq j id with
  | true=>exact trivial
  | false=>exact g.cell (fun k hk=>by simp [Cell.ids] at hk;rw [hk];exact ne hb) h
 | sub j off n=>
  simp only [Cell.kill]
  cases hb:Nat.beq j id with
  | true=>exact trivial
  | false=>exact g.cell (fun k hk=>by simp [Cell.ids] at hk;rw [hk];exact ne hb) h
 | ko j ix off=>
  simp only [Cell.kill]
  cases hb:Nat.beq j id with
  | true=>exact trivial
  | false=>exact g.cell (fun k hk=>by simp [Cell.ids] at hk;rw [hk];exact ne hb) h
 | fE j=>
  simp only [Cell.kill]
  cases hb:Nat.beq j id with
  | true=>exact trivial
  | false=>exact g.cell (fun k hk=>by simp [Cell.ids] at hk;rw [hk];exact ne hb) h
 | kJ j ix off=>
  simp only [Cell.kill]
  cases hb:Nat.beq j id with
  | true=>exact trivial
  | false=>exact g.cell (fun k hk=>by simp [Cell.ids] at hk;rw [hk];exact ne hb) h
 | inn j ix off=>
  simp only [Cell.kill]
  cases hb:Nat.beq j id with
  | true=>exact trivial
  | false=>exact g.cell (fun k hk=>by simp [Cell.ids] at hk;rw [hk];exact ne hb) h
 | ptr j off=>
  refine g.cell (c:=.ptr j off) (fun k hk vg=>?_) h
  simp [Cell.ids] at hk
  obtain ⟨_,_,_,hs,_⟩:=h
  rw [<- hk,vg] at hs
  exact ha _ _ hs
 | qY f caps=>
  obtain ⟨vs,hv,hl,hc⟩:=h
  exact ⟨vs,hv,hl,fun i c u hi hu=>Rx g ha (hc i c u hi hu)⟩
 | undef=>exact trivial
 | void=>exact h
 | bool b=>exact h
 | prop p d=>exact h
 | int k n=>exact h
 | str s=>exact h
 | nil=>exact h
 | list fr t l=>exact g.cell (c:=.list fr t l) (fun k hk=>by simp [Cell.ids] at hk) h
 | nH fr t x off=>exact g.cell (c:=.nH fr t x off) (fun k hk=>by simp [Cell.ids] at hk) h
theorem zM {M M':Mem} {id:Nat} (g:Goes (·=id) M M') (ha:∀ t cs,M.aj id ≠ some (.box t cs)) {cs:List Cell} {vs:List Value} (h:ay M cs vs):ay M' (cs.map (·.kill id)) vs:=by
 refine ⟨by rw [h.1];simp,fun i c v hi hv=>?_⟩
 rw [List.getElem?_map] at hi
 obtain ⟨c',hc',rfl⟩:=Option.map_eq_some_iff.1 hi
 exact ⟨Je g ha (h.2 i c' v hc' hv).1,(h.2 i c' v hc' hv).2⟩
theorem yE {M M':Mem} {id:Nat} (g:Goes (·=id) M M') (ha:∀ t cs,M.aj id ≠ some (.box t cs)) {c:av} {v:Value} (h:dG M c v):dG M' (c.kill id) v:=by
 cases c with
 | cell c=>exact Je g ha h
 | agg cs=>
  obtain ⟨vs,hv,hc⟩:=h
  exact ⟨vs,hv,zM g ha hc⟩
theorem Jf {M M':Mem} {id:Nat} (g:Goes (·=id) M M') (ha:∀ t cs,M.aj id ≠ some (.box t cs)) {s:Slot} {v:Value} (h:eY M s v):eY M' (s.kill id) v:=by
 cases s with
 | one c=>exact yE g ha h
 | wN cs=>
  obtain ⟨vs,hv,hl,hc⟩:=h
  refine ⟨vs,hv,by rw [hl];simp,fun i c u hi hu=>?_⟩
  rw [List.getElem?_map] at hi
  obtain ⟨c',hc',rfl⟩:=Option.map_eq_some_iff.1 hi
  exact yE g ha (hc i c' u hc' hu)
theorem Inv.drop {F0:jo} {G:Nat->Prop} {s:St} {a:Act} {w:World} {pl:Nat->Option Pl} (i:Inv F0 G s a w pl) {id:Nat} (hs:∀ t cs,s.aj id ≠ some (.box t cs)) :
  Inv F0 G (s.drop id) a w pl/\Goes (·=id) (mem F0 G w.heap s.aj pl) (mem F0 G w.heap (s.drop id).aj pl)/\(∀ j e,(s.drop id).aj j=some e->j ≠ id/\∃ e',s.aj j=some e'/\e=e'.kill id):=by
 have g:Goes (·=id) (mem F0 G w.heap s.aj pl) (mem F0 G w.heap (s.drop id).aj pl):=
  ⟨fun _ h=>h,fun _ h=>h,i.aj.gf,fun _ _=>rfl,fun j e hj he=>by
   refine ⟨e.kill id,(upd_ne _ _ hj).trans ?_, ?_,gQ.refl _⟩
   ·show (s.aj j).map (·.kill id)=_
    rw [show s.aj j=some e from he]
    rfl
   ·cases e with
    | box _ _=>trivial
    | arr _ _ _=>exact ⟨rfl,rfl⟩
    | deep _ _ _=>exact ⟨rfl,rfl,rfl⟩,rfl⟩
 have old:∀ {j e},(s.drop id).aj j=some e->j ≠ id/\∃ e',s.aj j=some e'/\e=e'.kill id:=by
  intro j e he
  have he:upd (s.kill id).aj id none j=some e:=he
  by_cases hj:j=id
  ·subst hj
   rw [upd_same] at he
   cases he
  ·rw [upd_ne _ _ hj] at he
   obtain ⟨e',h1,h2⟩:=Option.map_eq_some_iff.1 he
   exact ⟨hj,e',h1,h2.symm⟩
 refine ⟨⟨i.size,fun t'=>Jf g hs (i.env t'),⟨i.aj.gf,i.aj.lt,fun j e he=>?_,fun x y ex ey p q hx hy hxy hp hq=>?_,fun j t l n he=>by
  obtain ⟨_,e',he',hee⟩:=old he
  cases e' with
  | box _ _=>cases hee
  | arr t' l' o'=>cases hee;exact i.aj.pin j t l n he'
  | deep _ _ _=>(cases hee),fun j t l n he=>by
  obtain ⟨_,e',he',hee⟩:=old he
  cases e' with
  | box _ _=>cases hee
  | arr t' l' o'=>cases hee
  | deep _ _ _=>cases hee;exact i.aj.yO j t l n he'⟩,i.defers⟩,g,fun j e he=>old he⟩
 ·obtain ⟨hj,e',he',rfl⟩:=old he
  have hent:=i.aj.ent j e' he'
  cases e' with
  | box tt cs=>
   obtain ⟨p,c,e,fz,hp,ho,Wp,hfz,hsz',hcs,hty,hrel,Wq⟩:=hent
   exact ⟨p,c,e,fz,hp,ho,Wp,hfz,hsz',by simpa using hcs,fun u hu=>by simpa using hty u hu,zM g hs hrel,Wq⟩
  | arr tt ll oo=>
   obtain ⟨h1,h2⟩:=hent
   exact ⟨g.OW (fun _ _=>rfl) h1,h2⟩
  | deep tt ll nn=>
   obtain ⟨h1,h2⟩:=hent
   exact ⟨g.NA (fun _ _ _ _=>rfl) h1,h2⟩
 ·obtain ⟨_,ex',hx',e1⟩:=old hx
  obtain ⟨_,Ls,hy',e2⟩:=old hy
  rw [e1,e2,Entry.og,Entry.og]
  exact i.aj.apart' x y ex' Ls p q hx' hy' hxy hp hq
theorem iR:∀ {l:List Nat},nodup l=true->l.Nodup
 | [],_=>List.nodup_nil
 | x :: l,h=>by
  simp only [nodup,Bool.and_eq_true] at h
  rw [List.nodup_cons]
  exact ⟨by simpa using h.1,iR h.2⟩
theorem Inv.aJ {F0:jo} {G:Nat->Prop} {a:Act} {w:World} {pl:Nat->Option Pl}:∀ {ids:List Nat} {s:St},Inv F0 G s a w pl->ids.Nodup->(∀ id ∈ ids,∀ t cs,s.aj id ≠ some (.box t cs))->
  Inv F0 G (s.aJ ids) a w pl/\(∀ j e,(s.aJ ids).aj j=some e->j ∉ ids/\∃ e',s.aj j=some e'/\∀ p,e.bs p=e'.bs p)/\∀ c v,dG (mem F0 G w.heap s.aj pl) c v->dG (mem F0 G w.heap (s.aJ ids).aj pl) (nu c ids) v
 | [],s,i,_,_=>⟨i,fun j e he=>⟨by simp,e,he,fun _=>rfl⟩,fun c v h=>h⟩
 | id :: ids,s,i,hn,hl=>by
  rw [List.nodup_cons] at hn
  have hs:=hl id (by simp)
  obtain ⟨i1,g,old⟩:=i.drop hs
  obtain ⟨i2,UW,k2⟩:=Inv.aJ (ids:=ids) i1 hn.2 (fun j hj t cs h=>by
   obtain ⟨hne,e',he',_⟩:=old j _ h
   have h:upd (s.kill id).aj id none j=some (.box t cs):=h
   rw [upd_ne _ _ hne] at h
   obtain ⟨e2,h1,h2⟩:=Option.map_eq_some_iff.1 h
   cases e2 with
   | box t2 cs2=>exact hl j (by simp [hj]) t2 cs2 h1
   | arr _ _ _=>cases h2
   | deep _ _ _=>cases h2)
  refine ⟨i2,fun j e he=>?_,fun c v h=>k2 _ v (yE g hs h)⟩
  obtain ⟨h1,e',h2,h5⟩:=UW j e he
  obtain ⟨h3,e2,h4,h6⟩:=old j e' h2
  exact ⟨by simp [h1,h3],e2,h4,fun p=>by rw [h5,h6,Entry.og]⟩
theorem AB {id:Nat} {t:Ty} {l:List t.den} {n:Option Nat}:∀ {ids:List Nat} {s:St},id ∉ ids->s.aj id=some (.deep t l n)->(s.aJ ids).aj id=some (.deep t l n)
 | [],s,_,h=>h
 | j :: ids,s,hn,h=>by
  refine AB (s:=s.drop j) (fun hm=>hn (by simp [hm])) ?_
  have hne:id ≠ j:=fun e=>hn (by simp [e])
  show upd (s.kill j).aj j none id=_
  rw [upd_ne _ _ hne]
  show (s.aj id).map (·.kill j)=_
  rw [h]
  rfl
theorem Jg:∀ {ids:List Nat} {s:St},(s.aJ ids).n=s.n
 | [],s=>rfl
 | j :: ids,s=>Jg (ids:=ids) (s:=s.drop j)
theorem Du {σ:Nat->Option Entry} {m:Mode} {t:Ty} {c:Cell} {l:List t.den} {ids:List Nat} (h:gN σ m t c=some (l,ids)):∀ id ∈ ids,∃ u l' o,σ id=some (.arr u l' o)/\(m=.give->o=.open):=by
 intro id hid
 cases c <;> simp only [gN] at h <;> try (cases h;done)
 case nil=>simp at h;rw [h.2] at hid;simp at hid
 case list fr u l'=>
  cases m <;> cases fr <;> simp at h
  all_goals
   obtain ⟨x,hx,rfl,rfl⟩:=h
   simp at hid
 case ref id'=>
  cases hs:σ id' with
  | none=>simp [hs] at h
  | some e=>
   cases e with
   | box _ _=>simp [hs] at h
   | deep _ _ _=>simp [hs] at h
   | arr u l' o=>
    cases m <;> cases o <;> simp [hs] at h
    all_goals
     obtain ⟨x,hx,rfl,rfl⟩:=h
     simp at hid
     subst hid
     exact ⟨u,l',_,hs,by simp⟩
 case sub id' off n=>
  cases hs:σ id' with
  | none=>simp [hs] at h
  | some e=>
   cases e with
   | box _ _=>simp [hs] at h
   | deep _ _ _=>simp [hs] at h
   | arr u l' o=>
    cases m <;> cases o <;> simp [hs] at h
    all_goals
     obtain ⟨x,hx,rfl,rfl⟩:=h
     simp at hid
     subst hid
     exact ⟨u,l',_,hs,by simp⟩
def Lv (σ:Nat->Option Entry) (m:Mode) (id:Nat):Prop:=(∃ u l o,σ id=some (.arr u l o)/\(m=.give->o=.open))\/∃ u l n,σ id=some (.deep u l n)/\(m=.give->n=none)
theorem Lv.ent {σ:Nat->Option Entry} {m:Mode} {id:Nat} (h:Lv σ m id):∃ e,σ id=some e:=by
 rcases h with ⟨_,_,_,h,_⟩ | ⟨_,_,_,h,_⟩ <;> exact ⟨_,h⟩
theorem Lv.wo {σ:Nat->Option Entry} {m:Mode} {id:Nat} (h:Lv σ m id):∀ t cs,σ id ≠ some (.box t cs):=by
 intro t cs hb
 rcases h with ⟨_,_,_,h,_⟩ | ⟨_,_,_,h,_⟩ <;> (rw [h] at hb;cases hb)
theorem Ka {σ:Nat->Option Entry} {m:Mode} {t:Ty} {c:Cell} {l:List t.den} {ids:List Nat} (h:iV σ m t c=some (l,ids)):∀ id ∈ ids,∃ u l' n,σ id=some (.deep u l' n)/\(m=.give->n=none):=by
 intro id hid
 cases c <;> simp only [iV] at h <;> try (cases h;done)
 case nil=>simp at h;rw [h.2] at hid;simp at hid
 case list fr u l'=>
  cases m <;> cases fr <;> simp at h
  all_goals
   obtain ⟨x,hx,rfl,rfl⟩:=h
   simp at hid
 case fE id'=>
  cases hs:σ id' with
  | none=>simp [hs] at h
  | some e=>
   cases e with
   | box _ _=>simp [hs] at h
   | arr _ _ _=>simp [hs] at h
   | deep u l' n=>
    cases m <;> cases n <;> simp [hs] at h
    all_goals
     obtain ⟨x,hx,rfl,rfl⟩:=h
     simp at hid
     subst hid
     exact ⟨u,l',_,hs,by simp⟩
theorem AJ {σ:Nat->Option Entry} {m:Mode}:∀ {t:Ty} {cs:List Cell} {x:t.den} {rest:List Cell} {ids:List Nat},au σ m t cs=some (x,rest,ids)->∀ id ∈ ids,Lv σ m id:=by
 intro t
 induction t with
 | list t _=>
  intro cs x rest ids h
  cases cs with
  | nil=>simp [au] at h
  | cons c cs=>
   have h:(gN σ m t c).map (fun (l,ids)=>(l,cs,ids))=some (x,rest,ids):=by cases c <;> simpa [au] using h
   rw [Option.map_eq_some_iff] at h
   obtain ⟨⟨l,js⟩,hl,he⟩:=h
   simp at he
   obtain ⟨rfl,rfl,rfl⟩:=he
   exact fun id hid=>.inl (Du hl id hid)
 | aG t _=>
  intro cs x rest ids h
  cases cs with
  | nil=>simp [au] at h
  | cons c cs=>
   have h:(iV σ m t c).map (fun (l,ids)=>(l,cs,ids))=some (x,rest,ids):=by cases c <;> simpa [au] using h
   rw [Option.map_eq_some_iff] at h
   obtain ⟨⟨l,js⟩,hl,he⟩:=h
   simp at he
   obtain ⟨rfl,rfl,rfl⟩:=he
   exact fun id hid=>.inr (Ka hl id hid)
 | pair a b iha ihb=>
  intro cs x rest ids h
  rw [iZ] at h
  cases h1:au σ m a cs with
  | none=>simp [h1] at h
  | some r1=>
   obtain ⟨x1,rz,Ib⟩:=r1
   simp only [h1] at h
   cases h2:au σ m b rz with
   | none=>simp [h2] at h
   | some r2=>
    obtain ⟨x2,pQ,Ic⟩:=r2
    simp [h2] at h
    obtain ⟨rfl,rfl,rfl⟩:=h
    intro id hid
    rcases List.mem_append.1 hid with hid | hid
    ·exact iha h1 id hid
    ·exact ihb h2 id hid
 | bool=>
  intro cs x rest ids h
  cases cs with
  | nil=>simp [au] at h
  | cons c cs=>cases c <;> simp [au] at h <;> (obtain ⟨_,_,rfl⟩:=h;intro id hid;simp at hid)
 | int k=>
  intro cs x rest ids h
  cases cs with
  | nil=>simp [au] at h
  | cons c cs=>cases c <;> simp [au] at h;obtain ⟨_,_,_,rfl⟩:=h;intro id hid;simp at hid
 | str=>
  intro cs x rest ids h
  cases cs with
  | nil=>simp [au] at h
  | cons c cs=>cases c <;> simp [au] at h;obtain ⟨_,_,rfl⟩:=h;intro id hid;simp at hid
 | unit=>
  intro cs x rest ids h
  have:ids=[]:=by
   cases cs with
   | nil=>simp [au] at h;exact h.2
   | cons c cs=>cases c <;> simp [au] at h <;> exact h.2
  subst this
  intro id hid
  simp at hid
theorem ig {σ:Nat->Option Entry} {m:Mode} {t:Ty} {cs:List Cell} {x:t.den} {ids:List Nat} (h:aL σ m t cs=some (x,ids)):∀ id ∈ ids,Lv σ m id:=by
 unfold aL at h
 split at h
 ·rename_i x' iQ he
  simp at h
  obtain ⟨rfl,rfl⟩:=h
  exact AJ he
 ·cases h
theorem Lv.bs {M:Mem} (hM:lg M) {m:Mode} {id:Nat} (h:Lv M.aj m id) {p:Pl} (hp:M.pl id=some p):∃ e,M.aj id=some e/\e.bs p=p.bs/\p.bs.Nodup/\(m=.give->∀ b ∈ p.bs,¬ M.F b):=by
 rcases h with ⟨u,l,o,h,ho⟩ | ⟨u,l,n,h,hn⟩
 ·have he:=hM.ent id _ h
  have hf:=((he.2 p hp).1).2
  refine ⟨_,h,by rw [Pl.pE hf];rfl,by rw [Pl.pE hf];simp,fun hm b hb=>?_⟩
  rw [Pl.pE hf,List.mem_singleton] at hb
  subst hb
  exact (he.2 p hp).2 (by rw [ho hm];simp)
 ·have he:=hM.ent id _ h
  refine ⟨_,h,rfl, ?_,fun _ b hb=>((he.2 p hp).1 b hb).2⟩
  have:=he.1
  rw [hp] at this
  obtain ⟨c,e,fz,k1,k2,k3,k4,k5,k6,_⟩:=this
  exact k6
theorem jP {M:Mem} (hM:lg M) {m:Mode}:∀ {ids:List Nat},ids.Nodup->(∀ id ∈ ids,Lv M.aj m id)->((ids.filterMap M.pl).flatMap Pl.bs).Nodup
 | [],_,_=>List.nodup_nil
 | id :: ids,hn,hl=>by
  rw [List.nodup_cons] at hn
  have ih:=jP hM hn.2 (fun j hj=>hl j (by simp [hj]))
  cases hp:M.pl id with
  | none=>simpa [List.filterMap_cons,hp] using ih
  | some p=>
   obtain ⟨e,he,hbs,hnd,_⟩:=(hl id (by simp)).bs hM hp
   simp only [List.filterMap_cons,hp,List.flatMap_cons]
   refine List.nodup_append.2 ⟨hnd,ih,fun b hb b' hb' hbb=>?_⟩
   subst hbb
   obtain ⟨q,hq,Nj⟩:=List.mem_flatMap.1 hb'
   obtain ⟨j,hj,hjq⟩:=List.mem_filterMap.1 hq
   obtain ⟨e',he',XU,_⟩:=(hl j (by simp [hj])).bs hM hjq
   have hne:id ≠ j:=fun e=>hn.1 (e ▸ hj)
   exact hM.apart' id j e e' p q he he' hne hp hjq b (by rw [hbs];exact hb) (by rw [XU];exact Nj)
theorem lV (ps qs:List (Option Pl)):blks (ps++qs)=blks ps++blks qs:=by simp [blks,List.filterMap_append,List.flatMap_append]
theorem oJ (π:Option Pl) (ps:List (Option Pl)):blks (π :: ps)=(π.toList.flatMap Pl.bs)++blks ps:=by cases π <;> simp [blks]
theorem Dv {M:Mem} (hM:lg M):∀ {t:Ty} {cs:List Cell} {x:t.den} {rest:List Cell} {ids:List Nat} {vs:List Value},au M.aj .give t cs=some (x,rest,ids)->ay M cs vs->
  ∃ ws us ps,vs=ws++us/\aW true M.G M.h t x ws ps/\ay M rest us/\blks ps=(ids.filterMap M.pl).flatMap Pl.bs:=by
 intro t
 induction t with
 | bool=>
  intro cs x rest ids vs h hc
  cases cs with
  | nil=>simp [au] at h
  | cons c cs=>
   obtain ⟨v,us,rfl,hv,_,hs⟩:=hc.cons
   cases c <;> simp [au] at h
   case bool b=>obtain ⟨rfl,rfl,rfl⟩:=h;exact ⟨[v],us,[],rfl,⟨rfl,by rw [show v=.bool b from hv]⟩,hs,rfl⟩
   case prop p d=>obtain ⟨rfl,rfl,rfl⟩:=h;exact ⟨[v],us,[],rfl,⟨rfl,by rw [show v=.bool (@decide p d) from hv]⟩,hs,rfl⟩
 | int k=>
  intro cs x rest ids vs h hc
  cases cs with
  | nil=>simp [au] at h
  | cons c cs=>
   obtain ⟨v,us,rfl,hv,_,hs⟩:=hc.cons
   cases c <;> simp [au] at h
   case int k' n=>obtain ⟨rfl,rfl,rfl,rfl⟩:=h;exact ⟨[v],us,[],rfl,⟨rfl,by rw [show v=.int k' n from hv]⟩,hs,rfl⟩
 | str=>
  intro cs x rest ids vs h hc
  cases cs with
  | nil=>simp [au] at h
  | cons c cs=>
   obtain ⟨v,us,rfl,hv,_,hs⟩:=hc.cons
   cases c <;> simp [au] at h
   case str b=>obtain ⟨rfl,rfl,rfl⟩:=h;exact ⟨[v],us,[],rfl,⟨rfl,by rw [show v=.string b from hv]⟩,hs,rfl⟩
 | unit=>
  intro cs x rest ids vs h hc
  have h:some ((),cs,([]:List Nat))=some (x,rest,ids):=by
   cases cs with
   | nil=>simpa [au] using h
   | cons c cs=>cases c <;> simpa [au] using h
  simp at h
  obtain ⟨rfl,rfl⟩:=h
  exact ⟨[],vs,[],rfl,⟨rfl,rfl⟩,hc,rfl⟩
 | pair a b iha ihb=>
  intro cs x rest ids vs h hc
  rw [iZ] at h
  cases h1:au M.aj .give a cs with
  | none=>simp [h1] at h
  | some r1=>
   obtain ⟨x1,rz,Ib⟩:=r1
   simp only [h1] at h
   cases h2:au M.aj .give b rz with
   | none=>simp [h2] at h
   | some r2=>
    obtain ⟨x2,pQ,Ic⟩:=r2
    simp [h2] at h
    obtain ⟨rfl,rfl,rfl⟩:=h
    obtain ⟨ws,us,ps,rfl,k1,k2,k3⟩:=iha h1 hc
    obtain ⟨ws',us',ps',rfl,k4,k5,k6⟩:=ihb h2 k2
    exact ⟨ws++ws',us',ps++ps',by simp,⟨ws,ws',ps,ps',rfl,rfl,k1,k4⟩,k5,by rw [lV,k3,k6];simp [List.filterMap_append,List.flatMap_append]⟩
 | aG t ih=>
  intro cs x rest ids vs h hc
  cases cs with
  | nil=>simp [au] at h
  | cons c cs=>
   obtain ⟨v,us,rfl,hv,hv1,hs⟩:=hc.cons
   have h:(iV M.aj .give t c).map (fun (l,ids)=>(l,cs,ids))=some (x,rest,ids):=by cases c <;> simpa [au] using h
   rw [Option.map_eq_some_iff] at h
   obtain ⟨⟨l,js⟩,hl,he⟩:=h
   simp at he
   obtain ⟨rfl,rfl,rfl⟩:=he
   cases c <;> simp only [iV] at hl <;> try (cases hl;done)
   case nil=>
    simp at hl
    obtain ⟨rfl,rfl⟩:=hl
    exact ⟨[v],us,[none],rfl,fC.2 ⟨v,none,rfl,rfl,⟨rfl,hv⟩,rfl⟩,hs,rfl⟩
   case fE id=>
    obtain ⟨u,l',n,hst,hsl⟩:=hv
    rw [hst] at hl
    cases n <;> simp at hl
    obtain ⟨y,hy,rfl,rfl⟩:=hl
    obtain ⟨rfl,rfl⟩:=bG hy
    refine ⟨[v],us,[M.pl id],rfl,fC.2 ⟨v,_,rfl,rfl,hsl,(hM.ent id _ hst).1⟩,hs, ?_⟩
    cases hp:M.pl id <;> simp [blks,hp]
 | list t ih=>
  intro cs x rest ids vs h hc
  cases cs with
  | nil=>simp [au] at h
  | cons c cs=>
   obtain ⟨v,us,rfl,hv,hv1,hs⟩:=hc.cons
   have h:(gN M.aj .give t c).map (fun (l,ids)=>(l,cs,ids))=some (x,rest,ids):=by cases c <;> simpa [au] using h
   rw [Option.map_eq_some_iff] at h
   obtain ⟨⟨l,js⟩,hl,he⟩:=h
   simp at he
   obtain ⟨rfl,rfl,rfl⟩:=he
   have fin:∀ {π:Option Pl},SliceAt t.sz π 0 l.length v->lS M.G M.h t l π->uX π->(π.toList).flatMap Pl.bs=(js.filterMap M.pl).flatMap Pl.bs->
     ∃ ws us' ps,v :: us=ws++us'/\aW true M.G M.h (.list t) l ws ps/\ay M cs us'/\blks ps=(js.filterMap M.pl).flatMap Pl.bs:=by
    intro π h1 h2 hf h3
    refine ⟨[v],us,[π],rfl, ?_,hs, ?_⟩
    ·simp only [aW,if_true]
     exact ⟨v,π,rfl,rfl,h1,h2,hf⟩
    ·rw [<- h3];cases π <;> simp [blks]
   cases c <;> simp only [gN] at hl <;> try (cases hl;done)
   case nil=>
    simp at hl
    obtain ⟨rfl,rfl⟩:=hl
    exact fin (π:=none) ⟨rfl,hv⟩ rfl (fun p hp=>by cases hp) rfl
   case ref id=>
    obtain ⟨u,l',o,hst,hsl⟩:=hv
    rw [hst] at hl
    cases o <;> simp at hl
    obtain ⟨y,hy,rfl,rfl⟩:=hl
    obtain ⟨rfl,rfl⟩:=bG hy
    refine fin (π:=M.pl id) hsl (hM.ent id _ hst).1 (fun p hp=>(((hM.ent id _ hst).2 p hp).1).2) ?_
    cases hp:M.pl id <;> simp [hp]
   case sub id off n=>
    obtain ⟨u,l',o,hst,hle,hsl⟩:=hv
    rw [hst] at hl
    cases o <;> simp at hl
    obtain ⟨y,hy,rfl,rfl⟩:=hl
    obtain ⟨rfl,rfl⟩:=bG hy
    have hlen:((l'.drop off).take n).length=n:=by simp;omega
    have ha:=(hM.ent id _ hst).1
    cases hp:M.pl id with
    | none=>
     rw [hp] at hsl ha
     obtain ⟨rfl,hv⟩:=hsl
     exact fin (π:=none) ⟨by simp,by rw [hv]⟩ (show (l'.drop off).take 0=[] by simp) (fun p hp=>by cases hp) (by simp [hp])
    | some p=>
     rw [hp] at hsl ha
     obtain ⟨A,cap,hv,hnc,nO,hroom⟩:=hsl
     obtain ⟨c,e,fz,k1,k2,k3,k4,k5⟩:=ha
     refine fin (π:=some ⟨p.b,p.o+off*u.sz,p.size,[]⟩) ⟨A,cap,by rw [hlen];exact hv,by rw [hlen];exact hnc,fun hc=>by rw [nO hc];simp, ?_⟩ ⟨c,e,fz,k1,k2,k3, ?_,fun j y hj=>?_⟩ (fun q hq=>by cases hq;rfl) (by simp [hp,Pl.bs,Pl.tT,(((hM.ent id _ hst).2 p hp).1).2])
     ·show p.o+off*u.sz+(0+cap)*u.sz<=p.size
      rw [Nat.add_mul] at hroom
      rw [Nat.zero_add]
      omega
     ·rw [hlen]
      show p.o+off*u.sz+n*u.sz<=p.size
      have:n*u.sz<=cap*u.sz:=Nat.mul_le_mul_right _ hnc
      rw [Nat.add_mul] at hroom
      omega
     ·rw [List.getElem?_take] at hj
      split at hj
      ·rw [List.getElem?_drop] at hj
       obtain ⟨es,h1,h2⟩:=k5 _ y hj
       refine ⟨es,h1,fun q v' hq=>?_⟩
       have:=h2 q v' hq
       rw [Nat.add_mul] at this
       show c[p.o+off*u.sz+j*u.sz+q]? = some v'
       rw [show p.o+off*u.sz+j*u.sz+q=p.o+(off*u.sz+j*u.sz)+q by omega]
       exact this
      ·cases hj
theorem kE {M:Mem} (hM:lg M) {t:Ty} {cs:List Cell} {x:t.den} {ids:List Nat} {vs:List Value} (h:aL M.aj .give t cs=some (x,ids)) (hc:ay M cs vs) :
  ∃ ps,aW true M.G M.h t x vs ps/\blks ps=(ids.filterMap M.pl).flatMap Pl.bs:=by
 unfold aL at h
 split at h
 ·rename_i x' iQ he
  simp at h
  obtain ⟨rfl,rfl⟩:=h
  obtain ⟨ws,us,ps,rfl,h1,h2,h3⟩:=Dv hM he hc
  have:us=[]:=by have:=h2.1;simpa using this
  subst this
  rw [List.append_nil]
  exact ⟨ps,h1,h3⟩
 ·cases h
end Go.Flat
