/- A box that is lent: no way of the caller's leads to it meanwhile. No condition. -/
import Derived.Test.YtmocpfgfjeaelaaGreatLend
set_option linter.unusedVariables false
set_option linter.unusedSimpArgs false
namespace Go.Flat
theorem Entry.Cn (id:Nat) (e:Entry) (p:Pl):(e.forget id).bs p=e.bs p:=by cases e <;> rfl
theorem DI {M M':Mem} {id:Nat} {tb:Option Ty} {cb:List Cell} (g:Goes (·=id) M M') (ha:M.aj id=some (.box tb cb)) {c:Cell} {v:Value} (h:bO M c v):bO M' (c.forget id) v:=by
 have ne:∀ {j},Nat.beq j id=false->j ≠ id:=fun h e=>by subst e;simp at h
 cases c with
 | ptr j off=>
  simp only [Cell.forget]
  cases hb:Nat.beq j id with
  | true=>exact trivial
  | false=>exact g.cell (c:=.ptr j off) (fun k hk=>by simp [Cell.ids] at hk;rw [hk];exact ne hb) h
 | qY f caps=>
  simp only [Cell.forget]
  cases hb:caps.any (Cap.IK id) with
  | true=>exact trivial
  | false=>
   refine g.cell (c:=.qY f caps) (fun k hk vg=>?_) h
   subst vg
   simp only [Cell.ids,List.mem_filterMap] at hk
   obtain ⟨cp,hm,hcp⟩:=hk
   cases cp with
   | ro _ _=>simp at hcp
   | ptr j=>
    simp at hcp
    subst hcp
    have:=List.any_eq_false.1 hb _ hm
    simp [Cap.IK] at this
 | ref j=>
  refine g.cell (c:=.ref j) (fun k hk vg=>?_) h
  simp [Cell.ids] at hk
  obtain ⟨_,_,_,hs,_⟩:=h
  rw [<- hk,vg,ha] at hs
  cases hs
 | sub j off n=>
  refine g.cell (c:=.sub j off n) (fun k hk vg=>?_) h
  simp [Cell.ids] at hk
  obtain ⟨_,_,_,hs,_⟩:=h
  rw [<- hk,vg,ha] at hs
  cases hs
 | ko j ix off=>
  refine g.cell (c:=.ko j ix off) (fun k hk vg=>?_) h
  simp [Cell.ids] at hk
  obtain ⟨_,_,_,_,hs,_⟩:=h
  rw [<- hk,vg,ha] at hs
  cases hs
 | fE j=>
  refine g.cell (c:=.fE j) (fun k hk vg=>?_) h
  simp [Cell.ids] at hk
  obtain ⟨_,_,_,hs,_⟩:=h
  rw [<- hk,vg,ha] at hs
  cases hs
 | kJ j ix off=>
  refine g.cell (c:=.kJ j ix off) (fun k hk vg=>?_) h
  simp [Cell.ids] at hk
  obtain ⟨_,_,_,_,hs,_⟩:=h
  rw [<- hk,vg,ha] at hs
  cases hs
 | inn j ix off=>
  refine g.cell (c:=.inn j ix off) (fun k hk vg=>?_) h
  simp [Cell.ids] at hk
  obtain ⟨_,_,_,hs,_⟩:=h
  rw [<- hk,vg,ha] at hs
  cases hs
 | undef=>exact trivial
 | void=>exact h
 | bool b=>exact h
 | prop p d=>exact h
 | int k n=>exact h
 | str s=>exact h
 | nil=>exact h
 | list fr t l=>exact g.cell (c:=.list fr t l) (fun k hk=>by simp [Cell.ids] at hk) h
 | nH fr t x off=>exact g.cell (c:=.nH fr t x off) (fun k hk=>by simp [Cell.ids] at hk) h
theorem AP {M M':Mem} {id:Nat} {tb:Option Ty} {cb:List Cell} (g:Goes (·=id) M M') (ha:M.aj id=some (.box tb cb)) {cs:List Cell} {vs:List Value} (h:ay M cs vs):ay M' (cs.map (·.forget id)) vs:=by
 refine ⟨by rw [h.1];simp,fun i c v hi hv=>?_⟩
 rw [List.getElem?_map] at hi
 obtain ⟨c',hc',rfl⟩:=Option.map_eq_some_iff.1 hi
 exact ⟨DI g ha (h.2 i c' v hc' hv).1,(h.2 i c' v hc' hv).2⟩
theorem xA {M M':Mem} {id:Nat} {tb:Option Ty} {cb:List Cell} (g:Goes (·=id) M M') (ha:M.aj id=some (.box tb cb)) {c:av} {v:Value} (h:dG M c v):dG M' (c.forget id) v:=by
 cases c with
 | cell c=>exact DI g ha h
 | agg cs=>
  obtain ⟨vs,hv,hc⟩:=h
  exact ⟨vs,hv,AP g ha hc⟩
theorem LW {M M':Mem} {id:Nat} {tb:Option Ty} {cb:List Cell} (g:Goes (·=id) M M') (ha:M.aj id=some (.box tb cb)) {s:Slot} {v:Value} (h:eY M s v):eY M' (s.forget id) v:=by
 cases s with
 | one c=>exact xA g ha h
 | wN cs=>
  obtain ⟨vs,hv,hl,hc⟩:=h
  refine ⟨vs,hv,by rw [hl];simp,fun i c u hi hu=>?_⟩
  rw [List.getElem?_map] at hi
  obtain ⟨c',hc',rfl⟩:=Option.map_eq_some_iff.1 hi
  exact xA g ha (hc i c' u hc' hu)
theorem Inv.forget {F0:jo} {G:Nat->Prop} {s:St} {a:Act} {w:World} {pl:Nat->Option Pl} (i:Inv F0 G s a w pl) {id:Nat} {tb:Option Ty} {cb:List Cell} (hs:s.aj id=some (.box tb cb)) :
  Inv F0 G (s.forget id) a w pl/\(∀ c v,dG (mem F0 G w.heap s.aj pl) c v->dG (mem F0 G w.heap (s.forget id).aj pl) (c.forget id) v)/\(∀ j e,(s.forget id).aj j=some e->j ≠ id/\∃ e',s.aj j=some e'/\∀ p,e.bs p=e'.bs p):=by
 have g:Goes (·=id) (mem F0 G w.heap s.aj pl) (mem F0 G w.heap (s.forget id).aj pl):=
  ⟨fun _ h=>h,fun _ h=>h,i.aj.gf,fun _ _=>rfl,fun j e hj he=>by
   refine ⟨e.forget id, ?_, ?_,gQ.refl _⟩
   ·show upd (fun k=>(s.aj k).map (·.forget id)) id none j=_
    rw [upd_ne _ _ hj]
    show (s.aj j).map (·.forget id)=_
    rw [show s.aj j=some e from he]
    rfl
   ·cases e with
    | box _ _=>trivial
    | arr _ _ _=>exact ⟨rfl,rfl⟩
    | deep _ _ _=>exact ⟨rfl,rfl,rfl⟩,rfl⟩
 have old:∀ {j e},(s.forget id).aj j=some e->j ≠ id/\∃ e',s.aj j=some e'/\e=e'.forget id:=by
  intro j e he
  have he:upd (fun k=>(s.aj k).map (·.forget id)) id none j=some e:=he
  by_cases hj:j=id
  ·subst hj
   rw [upd_same] at he
   cases he
  ·rw [upd_ne _ _ hj] at he
   obtain ⟨e',h1,h2⟩:=Option.map_eq_some_iff.1 he
   exact ⟨hj,e',h1,h2.symm⟩
 refine ⟨⟨i.size,fun t'=>LW g hs (i.env t'),⟨i.aj.gf,i.aj.lt,fun j e he=>?_,fun x y ex ey p q hx hy hxy hp hq=>?_,fun j t l n he=>by
  obtain ⟨_,e',he',hee⟩:=old he
  cases e' with
  | box _ _=>cases hee
  | arr t' l' o'=>cases hee;exact i.aj.pin j t l n he'
  | deep _ _ _=>(cases hee),fun j t l n he=>by
  obtain ⟨_,e',he',hee⟩:=old he
  cases e' with
  | box _ _=>cases hee
  | arr t' l' o'=>cases hee
  | deep _ _ _=>cases hee;exact i.aj.yO j t l n he'⟩,i.defers⟩,fun c v h=>xA g hs h,fun j e he=>?_⟩
 ·obtain ⟨hj,e',he',rfl⟩:=old he
  have hent:=i.aj.ent j e' he'
  cases e' with
  | box tt cs=>
   obtain ⟨p,c,e,fz,hp,ho,Wp,hfz,hsz',hcs,hty,hrel,Wq⟩:=hent
   exact ⟨p,c,e,fz,hp,ho,Wp,hfz,hsz',by simpa using hcs,fun u hu=>by simpa using hty u hu,AP g hs hrel,Wq⟩
  | arr tt ll oo=>
   obtain ⟨h1,h2⟩:=hent
   exact ⟨g.OW (fun _ _=>rfl) h1,h2⟩
  | deep tt ll nn=>
   obtain ⟨h1,h2⟩:=hent
   exact ⟨g.NA (fun _ _ _ _=>rfl) h1,h2⟩
 ·obtain ⟨_,ex',hx',e1⟩:=old hx
  obtain ⟨_,Ls,hy',e2⟩:=old hy
  rw [e1,e2,Entry.Cn,Entry.Cn]
  exact i.aj.apart' x y ex' Ls p q hx' hy' hxy hp hq
 ·obtain ⟨hj,e',he',rfl⟩:=old he
  exact ⟨hj,e',he',fun p=>Entry.Cn id e' p⟩
theorem DJ {id:Nat} {t:Option Ty}:∀ {ids:List Nat} {s:St} {cs:List Cell},id ∉ ids->s.aj id=some (.box t cs)->∃ cs',(s.aJ ids).aj id=some (.box t cs')
 | [],s,cs,_,h=>⟨cs,h⟩
 | j :: ids,s,cs,hn,h=>by
  refine DJ (s:=s.drop j) (cs:=cs.map (·.kill j)) (fun hm=>hn (by simp [hm])) ?_
  have hne:id ≠ j:=fun e=>hn (by simp [e])
  show upd (s.kill j).aj j none id=_
  rw [upd_ne _ _ hne]
  show (s.aj id).map (·.kill j)=_
  rw [h]
  rfl
theorem DK {f:FuncId} {caps:List Cap}:∀ {ids:List Nat},nu (.cell (.qY f caps)) ids=.cell (.qY f caps)
 | []=>rfl
 | id :: ids=>DK (ids:=ids)
theorem FT {s:St}:∀ {caps l:List Cap},iW s caps=some l->∀ c ∈ caps,∃ c',tY s c=some c'
 | [],l,h,c,hc=>by simp at hc
 | c0 :: caps,l,h,c,hc=>by
  simp only [iW] at h
  split at h
  ·rename_i c' r h1 h2
   rcases List.mem_cons.1 hc with rfl | hc
   ·exact ⟨_,h1⟩
   ·exact FT h2 c hc
  ·cases h
theorem Inv.TB {F0:jo} {G G' A:Nat->Prop} {s:St} {a:Act} {w w':World} {pl:Nat->Option Pl} (i:Inv F0 G s a w pl) {id:Nat} {t:Option Ty} {cs:List Cell} {p:Pl} (hs:s.aj id=some (.box t cs)) (hp:pl id=some p) (hpo:p.o=0)
  {c:Array Value} {e:TypeId} {fz:Nat × Nat} (hc:w'.heap[p.b]? = some (.cells c e fz)) (hfz:Free fz c.size) (hcs:c.size=p.size) (hone:∀ v ∈ c.toList,one v=true) (Vh:¬ G' p.b)
  (lq:∀ b,F0 b\/G b->A b) (sF:∀ j e q,j ≠ id->s.aj j=some e->pl j=some q->∀ b ∈ e.bs q,A b)
  (hsz:w.heap.size<=w'.heap.size) (hstr:Str F0.mono w w') (hh:∀ b,A b->w'.heap[b]? = w.heap[b]?)
  (hG:∀ b,G b->G' b) (hnew:∀ b,G' b->G b\/(¬ A b/\b<w'.heap.size)) :
  Inv F0 G' { s with aj:=upd s.aj id (some (.box none (List.replicate c.size .undef))) } a w' pl/\Fr F0 G w G' w':=by
 have ZB:¬ F0 p.b:=fun h=>by
  obtain ⟨p',_,_,_,hp',_,_,_,_,_,_,_,hF⟩:=i.aj.ent id _ hs
  have hp':pl id=some p':=hp'
  rw [hp] at hp'
  cases hp'
  exact hF (.inl h)
 have g:Goes (fun _=>False) (mem F0 G w.heap s.aj pl) (mem F0 G' w'.heap (upd s.aj id (some (.box none (List.replicate c.size .undef)))) pl):=
  ⟨fun b hb=>hb.imp (fun h=>h) (hG b),hG,i.aj.gf,fun b hb=>hh b (lq b hb),fun j e _ La=>by
   by_cases hj:j=id
   ·subst hj
    have La:s.aj j=some e:=La
    rw [hs] at La
    cases La
    exact ⟨_,upd_same _ _ _,trivial,gQ.refl _⟩
   ·exact ⟨e,(upd_ne _ _ hj).trans La,e.jh,gQ.refl _⟩,rfl⟩
 have old:∀ {j e},upd s.aj id (some (.box none (List.replicate c.size .undef))) j=some e->∃ e',s.aj j=some e'/\(∀ p,e.bs p=e'.bs p)/\(j ≠ id->e=e')/\(j=id->e=.box none (List.replicate c.size .undef)):=by
  intro j e hj
  by_cases hji:j=id
  ·subst hji
   rw [upd_same] at hj
   cases hj
   exact ⟨_,hs,fun _=>rfl,fun h=>absurd rfl h,fun _=>rfl⟩
  ·rw [upd_ne _ _ hji] at hj
   exact ⟨e,hj,fun _=>rfl,fun _=>rfl,fun h=>absurd h hji⟩
 refine ⟨i.slots g rfl rfl ⟨fun b hb=>.inr hb,fun b hb=>?_,fun j e' La=>?_,fun x y ex ey p q hx hy hxy hp hq=>?_,fun j t l n hj=>?_,fun j t l n hj=>?_⟩,fun b hb=>hh b (lq b hb),hG,fun b hb hf=>?_,hsz,hstr⟩
 ·rcases hb with hb | hb
  ·exact Nat.lt_of_lt_of_le (i.aj.lt b (.inl hb)) hsz
  ·rcases hnew b hb with h | h
   ·exact Nat.lt_of_lt_of_le (i.aj.lt b (.inr h)) hsz
   ·exact h.2
 ·obtain ⟨e0,he0,_,h1,h2⟩:=old La
  by_cases hji:j=id
  ·subst hji
   rw [h2 rfl]
   refine ⟨p,c,e,fz,hp,hpo,hc,hfz,hcs,by simp,fun u hu=>(by cases hu),⟨by simp,fun m c0 v hm hv=>⟨?_,hone v (List.mem_of_getElem? hv)⟩⟩,fun h=>?_⟩
   ·have:=List.eq_of_mem_replicate (List.mem_of_getElem? hm)
    subst this
    exact trivial
   ·rcases h with h | h
    ·exact ZB h
    ·exact Vh h
  ·have:=h1 hji
   subst this
   refine g.entry (fun q hq b hb=>hh b (sF j e' q hji he0 hq b hb)) (fun q hq b hb hnF hF'=>?_) (fun _ _ h=>h) (i.aj.ent j e' he0)
   rcases hF' with h | h
   ·exact hnF (.inl h)
   ·rcases hnew _ h with h | h
    ·exact hnF (.inr h)
    ·exact h.1 (sF j e' q hji he0 hq b hb)
 ·obtain ⟨ex',hx',bx,_⟩:=old hx
  obtain ⟨Ls,hy',bY,_⟩:=old hy
  rw [bx,bY]
  exact i.aj.apart' x y ex' Ls p q hx' hy' hxy hp hq
 ·obtain ⟨e',he',_,h1,h2⟩:=old hj
  by_cases hji:j=id
  ·have:=h2 hji
   cases this
  ·have:=h1 hji
   subst this
   exact i.aj.pin j t l n he'
 ·obtain ⟨e',he',_,h1,h2⟩:=old hj
  by_cases hji:j=id
  ·have:=h2 hji
   cases this
  ·have:=h1 hji
   subst this
   exact i.aj.yO j t l n he'
 ·rcases hnew b hb with h | h
  ·exact h
  ·exact absurd (lq b (.inl hf)) h.1
theorem pV {G:Nat->Prop} {h:Array Obj}:∀ {t:Ty} {x:t.den} {cs:List Value},Rd G h t G x cs->aW false G h t x cs []
 | .bool,_,_,e=>⟨rfl,e⟩
 | .int _,_,_,e=>⟨rfl,e⟩
 | .str,_,_,e=>⟨rfl,e⟩
 | .unit,_,_,e=>⟨rfl,e⟩
 | .list t,_,_,e=>by simp only [aW,Bool.false_eq_true,if_false];exact ⟨trivial,e⟩
 | .aG t,_,_,e=>by simp only [aW,Bool.false_eq_true,if_false];exact ⟨trivial,e⟩
 | .pair a b,_,_,⟨c,d,e,h1,h2⟩=>⟨c,d,[],[],e,rfl,pV h1,pV h2⟩
theorem FU {M:Mem} (hM:lg M) {T:Ty} {cs:List Cell} {x:T.den} {ids:List Nat} {vs:List Value} (h:aL M.aj (bif T.ob then .give else .keep) T cs=some (x,ids)) (hi:(T.ob || ids.isEmpty)=true) (hc:ay M cs vs) :
  (∃ ps,aW T.ob M.G M.h T x vs ps/\blks ps=(ids.filterMap M.pl).flatMap Pl.bs)/\∀ j ∈ ids,Lv M.aj .give j:=by
 cases hb:T.ob with
 | true=>
  rw [hb] at h
  exact ⟨kE hM h hc,ig h⟩
 | false=>
  rw [hb] at h hi
  obtain rfl:ids=[]:=by simpa using hi
  exact ⟨⟨[],pV (iI hM (fun _ h=>h) (fun _ h=>h) (fun h=>by cases h) h hc (by simp) (by simp)),rfl⟩,by simp⟩
end Go.Flat
