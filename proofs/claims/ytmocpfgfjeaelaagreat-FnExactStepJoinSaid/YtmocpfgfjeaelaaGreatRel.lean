/- What the plain evaluator's values stand for in memory, and that this lasts while memory that they lie in is not written. No condition. -/
import Derived.Test.YtmocpfgfjeaelaaGreatEv
set_option linter.unusedVariables false
set_option linter.unusedSimpArgs false
namespace Go.Flat
def hcell (h:Array Obj) (b o:Nat):Option Value:=
 match h[b]? with
 | some (.cells c _ _)=>c[o]?
 | _=>none
theorem pz (w:World) (b o:Nat):w.cell? ⟨b,o,none⟩=hcell w.heap b o:=by
 unfold World.cell? hcell
 cases w.heap[b]? with
 | none=>rfl
 | some x=>cases x <;> rfl
theorem pO {h h':Array Obj} {b:Nat} (e:h'[b]? = h[b]?) (o:Nat):hcell h' b o=hcell h b o:=by
 unfold hcell;rw [e]
def one:Value->Bool
 | .agg _ | .tuple _=>false
 | _=>true
def Rd (G:Nat->Prop) (h:Array Obj):(t:Ty)->(Nat->Prop)->t.den->List Value->Prop
 | .bool,_,b,cs=>cs=[.bool b]
 | .int k,_,n,cs=>cs=[.int k n]
 | .str,_,s,cs=>cs=[.string s]
 | .list t,F,l,cs=>∃ a cap,cs=[.slice a l.length cap]/\l.length<=cap /\
   (l ≠ []->∃ b o,a=some ⟨b,o,none⟩/\F b/\∀ i x,l[i]? = some x->∃ es,Rd G h t G x es/\∀ j v,es[j]? = some v->hcell h b (o+i*t.sz+j)=some v)
 | .aG t,F,l,cs=>∃ a cap,cs=[.slice a l.length cap]/\l.length<=cap /\
   (l ≠ []->∃ b o,a=some ⟨b,o,none⟩/\F b/\∀ i x,l[i]? = some x->∃ es,Rd G h t G x es/\∀ j v,es[j]? = some v->hcell h b (o+i*t.sz+j)=some v)
 | .unit,_,_,cs=>cs=[]
 | .pair a b,F,x,cs=>∃ c d,cs=c++d/\Rd G h a F x.1 c/\Rd G h b F x.2 d
theorem Rd.len {G:Nat->Prop} {h:Array Obj}:∀ {t:Ty} {F:Nat->Prop} {x:t.den} {cs:List Value},Rd G h t F x cs->cs.length=t.sz
 | .bool,_,_,_,e=>by cases e;rfl
 | .int _,_,_,_,e=>by cases e;rfl
 | .str,_,_,_,e=>by cases e;rfl
 | .list _,_,_,_,⟨_,_,e,_⟩=>by cases e;rfl
 | .aG _,_,_,_,⟨_,_,e,_⟩=>by cases e;rfl
 | .unit,_,_,_,e=>by cases e;rfl
 | .pair a b,_,x,_,⟨c,d,e,p,q⟩=>by
  have:=Rd.len p
  have:=Rd.len q
  subst e
  simp [Ty.sz, *]
theorem Rd.one {G:Nat->Prop} {h:Array Obj}:∀ {t:Ty} {F:Nat->Prop} {x:t.den} {cs:List Value},Rd G h t F x cs->∀ v ∈ cs,one v=true
 | .bool,_,_,_,e=>by cases e;simp [Flat.one]
 | .int _,_,_,_,e=>by cases e;simp [Flat.one]
 | .str,_,_,_,e=>by cases e;simp [Flat.one]
 | .list _,_,_,_,⟨_,_,e,_⟩=>by cases e;simp [Flat.one]
 | .aG _,_,_,_,⟨_,_,e,_⟩=>by cases e;simp [Flat.one]
 | .unit,_,_,_,e=>by cases e;simp
 | .pair a b,_,x,_,⟨c,d,e,p,q⟩=>by
  subst e
  intro v hv
  rcases List.mem_append.1 hv with hv | hv
  ·exact Rd.one p v hv
  ·exact Rd.one q v hv
theorem Rd.move {G G':Nat->Prop} {h h':Array Obj} (hG:∀ b,G b->G' b) (hs:∀ b,G b->h'[b]? = h[b]?) :
  ∀ {t:Ty} {F F':Nat->Prop} (hF:∀ b,F b->F' b) (UL:∀ b,F b->h'[b]? = h[b]?) {x:t.den} {cs:List Value},Rd G h t F x cs->Rd G' h' t F' x cs
 | .bool,_,_,_,_,_,_,e=>e
 | .int _,_,_,_,_,_,_,e=>e
 | .str,_,_,_,_,_,_,e=>e
 | .list t,F,F',hF,UL,l,cs,⟨a,cap,e,hl,hx⟩=>by
  refine ⟨a,cap,e,hl,fun hne=>?_⟩
  obtain ⟨b,o,ha,hb,hc⟩:=hx hne
  refine ⟨b,o,ha,hF b hb,fun i x hi=>?_⟩
  obtain ⟨es,hes,hj⟩:=hc i x hi
  exact ⟨es,Rd.move hG hs hG hs hes,fun j v hv=>by rw [pO (UL b hb)];exact hj j v hv⟩
 | .aG t,F,F',hF,UL,l,cs,⟨a,cap,e,hl,hx⟩=>by
  refine ⟨a,cap,e,hl,fun hne=>?_⟩
  obtain ⟨b,o,ha,hb,hc⟩:=hx hne
  refine ⟨b,o,ha,hF b hb,fun i x hi=>?_⟩
  obtain ⟨es,hes,hj⟩:=hc i x hi
  exact ⟨es,Rd.move hG hs hG hs hes,fun j v hv=>by rw [pO (UL b hb)];exact hj j v hv⟩
 | .unit,_,_,_,_,_,_,e=>e
 | .pair a b,_,_,hF,UL,_,_,⟨c,d,e,p,q⟩=>⟨c,d,e,Rd.move hG hs hF UL p,Rd.move hG hs hF UL q⟩
structure Pl where
 b:Nat
 o:Nat
 size:Nat
 inn:List (List (Option Pl))
def Pl.tT (p:Pl):List Nat:=(p.inn.flatten.filterMap id).map Pl.b
def Pl.bs (p:Pl):List Nat:=p.b :: p.tT
theorem Pl.gI (p:Pl):p.b ∈ p.bs:=by simp [Pl.bs]
theorem Pl.pE {p:Pl} (h:p.inn=[]):p.bs=[p.b]:=by simp [Pl.bs,Pl.tT,h]
theorem Pl.sj {p:Pl} {qs:List (Option Pl)} {q:Pl} (h:qs ∈ p.inn) (hq:some q ∈ qs):q.b ∈ p.tT:=by
 simp only [Pl.tT,List.mem_map,List.mem_filterMap,id]
 exact ⟨q,⟨_,List.mem_flatten.2 ⟨qs,h,hq⟩,rfl⟩,rfl⟩
def uX (π:Option Pl):Prop:=∀ p,π=some p->p.inn=[]
def blks (ps:List (Option Pl)):List Nat:=(ps.filterMap id).flatMap Pl.bs
def SliceAt (sz:Nat):Option Pl->Nat->Nat->Value->Prop
 | none,_,n,v=>n=0/\v=.slice none 0 0
 | some p,off,n,v=>∃ a cap,v=.slice (some a) n cap/\n<=cap/\(0<cap->a=⟨p.b,p.o+off*sz,none⟩)/\p.o+(off+cap)*sz<=p.size
def Free (fz:Nat × Nat) (n:Nat):Prop:=∀ o,o<=n->¬ (fz.1<=o/\o<fz.2)
theorem Free.zero (n:Nat):Free (0,0) n:=fun o _ h=>by simp at h
def lS (G:Nat->Prop) (h:Array Obj) (t:Ty) (l:List t.den):Option Pl->Prop
 | none=>l=[]
 | some p=>∃ c e fz,h[p.b]? = some (.cells c e fz)/\Free fz c.size/\c.size=p.size/\p.o+l.length*t.sz<=p.size /\
   ∀ i x,l[i]? = some x->∃ es,Rd G h t G x es/\∀ j v,es[j]? = some v->c[p.o+i*t.sz+j]? = some v
def aW (own:Bool) (G:Nat->Prop) (h:Array Obj):(t:Ty)->t.den->List Value->List (Option Pl)->Prop
 | .list t,l,cs,ps=>if own then ∃ v π,cs=[v]/\ps=[π]/\SliceAt t.sz π 0 l.length v/\lS G h t l π/\uX π else ps=[]/\Rd G h (.list t) G l cs
 | .aG t,l,cs,ps=>if own then ∃ v π,cs=[v]/\ps=[π]/\SliceAt t.sz π 0 l.length v /\
   (match π with
   | none=>l=[]
   | some p=>∃ c e fz,h[p.b]? = some (.cells c e fz)/\Free fz c.size/\c.size=p.size/\p.o+l.length*t.sz<=p.size/\p.inn.length=l.length/\p.bs.Nodup/\(∀ q,some q ∈ p.inn.flatten->q.inn=[]) /\
    ∀ i x qs,l[i]? = some x->p.inn[i]? = some qs->∃ es,aW own G h t x es qs/\∀ j v,es[j]? = some v->c[p.o+i*t.sz+j]? = some v)
   else ps=[]/\Rd G h (.list t) G l cs
 | .pair a b,x,cs,ps=>∃ c d p q,cs=c++d/\ps=p++q/\aW own G h a x.1 c p/\aW own G h b x.2 d q
 | .bool,x,cs,ps=>ps=[]/\cs=[.bool x]
 | .int k,x,cs,ps=>ps=[]/\cs=[.int k x]
 | .str,x,cs,ps=>ps=[]/\cs=[.string x]
 | .unit,_,cs,ps=>ps=[]/\cs=[]
def iA (G:Nat->Prop) (h:Array Obj) (t:Ty) (l:List t.den):Option Pl->Prop
 | none=>l=[]
 | some p=>∃ c e fz,h[p.b]? = some (.cells c e fz)/\Free fz c.size/\c.size=p.size/\p.o+l.length*t.sz<=p.size/\p.inn.length=l.length/\p.bs.Nodup/\(∀ q,some q ∈ p.inn.flatten->q.inn=[]) /\
   ∀ i x qs,l[i]? = some x->p.inn[i]? = some qs->∃ es,aW true G h t x es qs/\∀ j v,es[j]? = some v->c[p.o+i*t.sz+j]? = some v
theorem fC {G:Nat->Prop} {h:Array Obj} {t:Ty} {l:List t.den} {cs:List Value} {ps:List (Option Pl)} :
  aW true G h (.aG t) l cs ps ↔ ∃ v π,cs=[v]/\ps=[π]/\SliceAt t.sz π 0 l.length v/\iA G h t l π:=by
 simp only [aW,if_true]
 constructor
 ·rintro ⟨v,π,h1,h2,h3,h4⟩
  exact ⟨v,π,h1,h2,h3,by cases π <;> exact h4⟩
 ·rintro ⟨v,π,h1,h2,h3,h4⟩
  exact ⟨v,π,h1,h2,h3,by cases π <;> exact h4⟩
theorem aW.len {own:Bool} {G:Nat->Prop} {h:Array Obj}:∀ {t:Ty} {x:t.den} {cs:List Value} {ps:List (Option Pl)},aW own G h t x cs ps->cs.length=t.sz
 | .bool,_,_,_,⟨_,e⟩=>by subst e;rfl
 | .int _,_,_,_,⟨_,e⟩=>by subst e;rfl
 | .str,_,_,_,⟨_,e⟩=>by subst e;rfl
 | .unit,_,_,_,⟨_,e⟩=>by subst e;rfl
 | .list t,l,cs,ps,h=>by
  simp only [aW] at h
  split at h
  ·obtain ⟨v,π,rfl,_⟩:=h;rfl
  ·exact h.2.len
 | .aG t,l,cs,ps,h=>by
  simp only [aW] at h
  split at h
  ·obtain ⟨v,π,rfl,_⟩:=h;rfl
  ·exact h.2.len
 | .pair a b,x,cs,ps,⟨c,d,p,q,hc,_,h1,h2⟩=>by
  subst hc
  simp [Ty.sz,aW.len h1,aW.len h2]
theorem lS.move {G G':Nat->Prop} {h h':Array Obj} (hG:∀ b,G b->G' b) (hs:∀ b,G b->h'[b]? = h[b]?) {t:Ty} {l:List t.den} {π:Option Pl} (hb:∀ p,π=some p->h'[p.b]? = h[p.b]?) (H:lS G h t l π):lS G' h' t l π:=by
 cases π with
 | none=>exact H
 | some p=>
  obtain ⟨c,e,fz,hc,hfz,hsz,hle,hx⟩:=H
  refine ⟨c,e,fz,by rw [hb p rfl];exact hc,hfz,hsz,hle,fun i x hi=>?_⟩
  obtain ⟨es,hes,hj⟩:=hx i x hi
  exact ⟨es,Rd.move hG hs hG hs hes,hj⟩
theorem aW.move {G G':Nat->Prop} {h h':Array Obj} (hG:∀ b,G b->G' b) (hs:∀ b,G b->h'[b]? = h[b]?):∀ {t:Ty} {x:t.den} {cs:List Value} {ps:List (Option Pl)} (hb:∀ b ∈ blks ps,h'[b]? = h[b]?),aW true G h t x cs ps->aW true G' h' t x cs ps
 | .bool,_,_,_,_,e=>e
 | .int _,_,_,_,_,e=>e
 | .str,_,_,_,_,e=>e
 | .unit,_,_,_,_,e=>e
 | .list t,l,cs,ps,hb,H=>by
  simp only [aW,if_true] at H ⊢
  obtain ⟨v,π,rfl,rfl,h1,h2,h3⟩:=H
  exact ⟨v,π,rfl,rfl,h1,h2.move hG hs (fun p hp=>hb _ (by subst hp;simp [blks,Pl.bs])),h3⟩
 | .aG t,l,cs,ps,hb,H=>by
  rw [fC] at H ⊢
  obtain ⟨v,π,rfl,rfl,h1,h2⟩:=H
  refine ⟨v,π,rfl,rfl,h1, ?_⟩
  cases π with
  | none=>exact h2
  | some p=>
   obtain ⟨c,e,fz,k1,k2,k3,k4,k5,k6,k7,k8⟩:=h2
   refine ⟨c,e,fz,by rw [hb p.b (by simp [blks,Pl.bs])];exact k1,k2,k3,k4,k5,k6,k7,fun i x qs hi hq=>?_⟩
   obtain ⟨es,hes,hj⟩:=k8 i x qs hi hq
   refine ⟨es,aW.move hG hs (fun b hbq=>hb b ?_) hes,hj⟩
   have hm:qs ∈ p.inn:=List.mem_of_getElem? hq
   simp only [blks,List.mem_flatMap,List.mem_filterMap,id] at hbq
   obtain ⟨q,⟨_,hq1,rfl⟩,hq2⟩:=hbq
   have hqi:=k7 q (List.mem_flatten.2 ⟨qs,hm,hq1⟩)
   rw [Pl.pE hqi] at hq2
   simp only [List.mem_singleton] at hq2
   subst hq2
   simp only [blks,List.filterMap_cons,id,List.filterMap_nil,List.flatMap_cons,List.flatMap_nil,List.append_nil,Pl.bs,Pl.tT,List.mem_cons,List.mem_map,List.mem_filterMap]
   exact .inr ⟨q,⟨_,List.mem_flatten.2 ⟨qs,hm,hq1⟩,rfl⟩,rfl⟩
 | .pair a b,x,cs,ps,hb,⟨c,d,p,q,h1,h2,h3,h4⟩=>by
  subst h2
  exact ⟨c,d,p,q,h1,rfl,aW.move hG hs (fun z hz=>hb z (by simp only [blks,List.filterMap_append,List.flatMap_append,List.mem_append];exact .inl hz)) h3,aW.move hG hs (fun z hz=>hb z (by simp only [blks,List.filterMap_append,List.flatMap_append,List.mem_append];exact .inr hz)) h4⟩
theorem iA.move {G G':Nat->Prop} {h h':Array Obj} (hG:∀ b,G b->G' b) (hs:∀ b,G b->h'[b]? = h[b]?) {t:Ty} {l:List t.den} {π:Option Pl} (hb:∀ p,π=some p->∀ b ∈ p.bs,h'[b]? = h[b]?) (H:iA G h t l π):iA G' h' t l π:=by
 cases π with
 | none=>exact H
 | some p=>
  obtain ⟨c,e,fz,k1,k2,k3,k4,k5,k6,k7,k8⟩:=H
  refine ⟨c,e,fz,by rw [hb p rfl p.b p.gI];exact k1,k2,k3,k4,k5,k6,k7,fun i x qs hi hq=>?_⟩
  obtain ⟨es,hes,hj⟩:=k8 i x qs hi hq
  refine ⟨es,aW.move hG hs (fun b hbq=>hb p rfl b ?_) hes,hj⟩
  have hm:qs ∈ p.inn:=List.mem_of_getElem? hq
  simp only [blks,List.mem_flatMap,List.mem_filterMap,id] at hbq
  obtain ⟨q,⟨_,hq1,rfl⟩,hq2⟩:=hbq
  rw [Pl.pE (k7 q (List.mem_flatten.2 ⟨qs,hm,hq1⟩))] at hq2
  simp only [List.mem_singleton] at hq2
  subst hq2
  simp only [Pl.bs,Pl.tT,List.mem_cons,List.mem_map,List.mem_filterMap,id]
  exact .inr ⟨q,⟨_,List.mem_flatten.2 ⟨qs,hm,hq1⟩,rfl⟩,rfl⟩
structure Mem where
 F:Nat->Prop
 G:Nat->Prop
 h:Array Obj
 aj:Nat->Option Entry
 pl:Nat->Option Pl
 pin:Nat->Option Pl
 len:Nat->Nat
 inn:Nat->Nat->Nat->Value
structure jo where
 F:Nat->Prop
 pin:Nat->Option Pl
 len:Nat->Nat
 inn:Nat->Nat->Nat->Value
 mono:Bool
 par:Nat->Option Value:=fun _=>none
instance:CoeFun jo (fun _=>Nat->Prop):=⟨jo.F⟩
instance:Coe jo (Nat->Prop):=⟨jo.F⟩
def mU (M:Mem):Cap->Value->Prop
 | .ptr id,v=>∃ t cs p,M.aj id=some (.box t cs)/\M.pl id=some p/\p.o=0/\v=.pointer (some ⟨p.b,0,none⟩)
 | .ro t x,v=>∃ b o es,v=.pointer (some ⟨b,o,none⟩)/\M.F b/\Rd M.G M.h t M.F x es/\∀ j u,es[j]? = some u->hcell M.h b (o+j)=some u
def bO (M:Mem):Cell->Value->Prop
 | .undef,_=>True
 | .void,v=>v=undef
 | .bool b,v=>v=.bool b
 | .prop p d,v=>v=.bool (@decide p d)
 | .int k n,v=>v=.int k n
 | .str s,v=>v=.string s
 | .nil,v=>v=.slice none 0 0
 | .list fr t l,v=>Rd M.G M.h (.list t) (if fr then M.G else M.F) l [v]
 | .ref id,v=>∃ t l o,M.aj id=some (.arr t l o)/\SliceAt t.sz (M.pl id) 0 l.length v
 | .sub id off n,v=>∃ t l o,M.aj id=some (.arr t l o)/\off+n<=l.length/\SliceAt t.sz (M.pl id) off n v
 | .ptr id off,v=>∃ t cs p,M.aj id=some (.box t cs)/\M.pl id=some p/\p.o=0/\v=.pointer (some ⟨p.b,off,none⟩)
 | .ko id i off,v=>∃ t l o p,M.aj id=some (.arr t l o)/\i<l.length/\M.pl id=some p/\v=.pointer (some ⟨p.b,p.o+i*t.sz+off,none⟩)
 | .nH fr t x off,v=>∃ b o es,v=.pointer (some ⟨b,o+off,none⟩)/\M.F b/\Rd M.G M.h t (if fr then M.G else M.F) x es/\∀ j u,es[j]? = some u->hcell M.h b (o+j)=some u
 | .fE id,v=>∃ t l p,M.aj id=some (.deep t l p)/\SliceAt t.sz (M.pl id) 0 l.length v
 | .kJ id i off,v=>∃ t l n p,M.aj id=some (.deep t l n)/\i<l.length/\M.pl id=some p/\v=.pointer (some ⟨p.b,p.o+i*t.sz+off,none⟩)
 | .inn id i off,v=>∃ t l n,M.aj id=some (.deep t l (some n))/\i<l.length/\(jq t)[off]? = some true/\v=M.inn n i off/\one v=true
 | .qY f caps,v=>∃ vs:List Value,v=.func (.func f) #[] vs.toArray/\vs.length=caps.length/\∀ (i:Nat) c u,caps[i]? = some c->vs[i]? = some u->mU M c u
def ay (M:Mem) (cs:List Cell) (vs:List Value):Prop:=
 vs.length=cs.length/\∀ (i:Nat) c v,cs[i]? = some c->vs[i]? = some v->bO M c v/\one v=true
def dG (M:Mem):av->Value->Prop
 | .cell c,v=>bO M c v
 | .agg cs,v=>∃ vs:List Value,v=.agg vs.toArray/\ay M cs vs
def eY (M:Mem):Slot->Value->Prop
 | .one c,v=>dG M c v
 | .wN cs,v=>∃ vs:List Value,v=.tuple vs.toArray/\vs.length=cs.length/\∀ (i:Nat) c u,cs[i]? = some c->vs[i]? = some u->dG M c u
def fG (M:Mem):Entry->Option Pl->Prop
 | .box t cs,π=>∃ p c e fz,π=some p/\p.o=0/\M.h[p.b]? = some (.cells c e fz)/\Free fz c.size/\c.size=p.size/\c.size=cs.length/\(∀ u,t=some u->cs.length=u.sz)/\ay M cs c.toList/\¬ M.F p.b
 | .arr t l o,π=>lS M.G M.h t l π/\∀ p,π=some p->((o=.frozen->M.G p.b)/\p.inn=[])/\(o ≠ .frozen->¬ M.F p.b)
 | .deep t l n,π=>iA M.G M.h t l π/\∀ p,π=some p->(∀ b ∈ p.bs,b<M.h.size/\¬ M.F b) /\
   ∀ k,n=some k->∀ i off,i<l.length->(jq t)[off]? = some true->hcell M.h p.b (p.o+i*t.sz+off)=some (M.inn k i off)
def Entry.bs:Entry->Pl->List Nat
 | .deep _ _ _,p=>p.bs
 | _,p=>[p.b]
theorem Entry.gI (e:Entry) (p:Pl):p.b ∈ e.bs p:=by cases e <;> simp [Entry.bs,Pl.bs]
structure lg (M:Mem):Prop where
 gf:∀ b,M.G b->M.F b
 lt:∀ b,M.F b->b<M.h.size
 ent:∀ id e,M.aj id=some e->fG M e (M.pl id)
 apart':∀ i j ei ej p q,M.aj i=some ei->M.aj j=some ej->i ≠ j->M.pl i=some p->M.pl j=some q->∀ b ∈ ei.bs p,b ∉ ej.bs q
 pin:∀ id t l n,M.aj id=some (.arr t l (.pinned n))->M.pl id=M.pin n/\l.length=M.len n
 yO:∀ id t l n,M.aj id=some (.deep t l (some n))->M.pl id=M.pin n/\l.length=M.len n
def Entry.like:Entry->Entry->Prop
 | .box t cs,.box t' cs'=>True
 | .arr t l _,.arr t' l' _=>∃ h:t=t',l.length=l'.length
 | .deep t l n,.deep t' l' n'=>t=t'/\l.length=l'.length/\n=n'
 | _,_=>False
theorem Entry.jh:∀ e:Entry,e.like e
 | .box _ _=>trivial
 | .arr _ _ _=>⟨rfl,rfl⟩
 | .deep _ _ _=>⟨rfl,rfl,rfl⟩
def Pl.same (p q:Pl):Prop:=q.b=p.b/\q.o=p.o/\q.size=p.size
def gQ:Option Pl->Option Pl->Prop
 | none,none=>True
 | some p,some q=>p.same q
 | _,_=>False
theorem gQ.refl:∀ π:Option Pl,gQ π π
 | none=>trivial
 | some _=>⟨rfl,rfl,rfl⟩
theorem gQ.slice {π π':Option Pl} (h:gQ π π') {sz off n:Nat} {v:Value} (H:SliceAt sz π off n v):SliceAt sz π' off n v:=by
 cases π with
 | none=>cases π' with
  | none=>exact H
  | some _=>exact h.elim
 | some p=>cases π' with
  | none=>exact h.elim
  | some q=>
   obtain ⟨h1,h2,h3⟩:=h
   obtain ⟨a,cap,k1,k2,k3,k4⟩:=H
   exact ⟨a,cap,k1,k2,fun hc=>by rw [h1,h2];exact k3 hc,by rw [h2,h3];exact k4⟩
theorem gQ.at {π π':Option Pl} (h:gQ π π') {p:Pl} (hp:π=some p):∃ q,π'=some q/\p.same q:=by
 subst hp
 cases π' with
 | none=>exact h.elim
 | some q=>exact ⟨q,rfl,h⟩
structure Goes (D:Nat->Prop) (M M':Mem):Prop where
 F:∀ b,M.F b->M'.F b
 G:∀ b,M.G b->M'.G b
 gf:∀ b,M.G b->M.F b
 h:∀ b,M.F b->M'.h[b]? = M.h[b]?
 aj:∀ id e,¬ D id->M.aj id=some e->∃ e',M'.aj id=some e'/\e.like e'/\gQ (M.pl id) (M'.pl id)
 inn:M'.inn=M.inn
theorem Goes.rd {D:Nat->Prop} {M M':Mem} (g:Goes D M M') {t:Ty} {x:t.den} {cs:List Value} (h:Rd M.G M.h t M.F x cs):Rd M'.G M'.h t M'.F x cs:=
 Rd.move g.G (fun b hb=>g.h b (g.gf b hb)) g.F g.h h
theorem Goes.Zn {D:Nat->Prop} {M M':Mem} (g:Goes D M M') {t:Ty} {x:t.den} {cs:List Value} (h:Rd M.G M.h t M.G x cs):Rd M'.G M'.h t M'.G x cs:=
 Rd.move g.G (fun b hb=>g.h b (g.gf b hb)) g.G (fun b hb=>g.h b (g.gf b hb)) h
theorem Goes.Wj {D:Nat->Prop} {M M':Mem} (g:Goes D M M') (fr:Bool) {t:Ty} {x:t.den} {cs:List Value} (h:Rd M.G M.h t (if fr then M.G else M.F) x cs):Rd M'.G M'.h t (if fr then M'.G else M'.F) x cs:=by
 cases fr
 ·exact g.rd h
 ·exact g.Zn h
theorem Goes.cap {D:Nat->Prop} {M M':Mem} (g:Goes D M M') {c:Cap} {v:Value} (hd:∀ id,c=.ptr id->¬ D id) (h:mU M c v):mU M' c v:=by
 cases c with
 | ptr id=>
  obtain ⟨t,cs,p,hs,hp,ho,hv⟩:=h
  obtain ⟨e',he',hl,hpl⟩:=g.aj id _ (hd id rfl) hs
  obtain ⟨q,hq,q1,q2,q3⟩:=hpl.at hp
  cases e' with
  | box t' cs'=>exact ⟨t',cs',q,he',hq,q2.trans ho,by rw [q1];exact hv⟩
  | arr _ _ _=>exact hl.elim
  | deep _ _ _=>exact hl.elim
 | ro t x=>
  obtain ⟨b,o,es,hv,hb,hr,hj⟩:=h
  exact ⟨b,o,es,hv,g.F b hb,g.rd hr,fun j u hu=>by rw [pO (g.h b hb)];exact hj j u hu⟩
theorem Goes.cell {D:Nat->Prop} {M M':Mem} (g:Goes D M M') {c:Cell} {v:Value} (hd:∀ id ∈ c.ids,¬ D id) (h:bO M c v):bO M' c v:=by
 cases c with
 | undef=>trivial
 | void=>exact h
 | bool b=>exact h
 | prop p d=>exact h
 | int k n=>exact h
 | str s=>exact h
 | nil=>exact h
 | list fr t l=>exact g.Wj fr h
 | ref id=>
  obtain ⟨t,l,o,hs,hv⟩:=h
  obtain ⟨e',he',hl,hpl⟩:=g.aj id _ (hd id (by simp [Cell.ids])) hs
  cases e' with
  | box _ _=>exact hl.elim
  | arr t' l' o'=>
   obtain ⟨rfl,hl⟩:=hl
   exact ⟨t,l',o',he',by rw [<- hl];exact hpl.slice hv⟩
  | deep _ _ _=>exact hl.elim
 | sub id off n=>
  obtain ⟨t,l,o,hs,hle,hv⟩:=h
  obtain ⟨e',he',hl,hpl⟩:=g.aj id _ (hd id (by simp [Cell.ids])) hs
  cases e' with
  | box _ _=>exact hl.elim
  | arr t' l' o'=>
   obtain ⟨rfl,hl⟩:=hl
   exact ⟨t,l',o',he',by rw [<- hl];exact hle,hpl.slice hv⟩
  | deep _ _ _=>exact hl.elim
 | ptr id off=>
  obtain ⟨t,cs,p,hs,hp,ho,hv⟩:=h
  obtain ⟨e',he',hl,hpl⟩:=g.aj id _ (hd id (by simp [Cell.ids])) hs
  obtain ⟨q,hq,q1,q2,q3⟩:=hpl.at hp
  cases e' with
  | box t' cs'=>exact ⟨t',cs',q,he',hq,q2.trans ho,by rw [q1];exact hv⟩
  | arr _ _ _=>exact hl.elim
  | deep _ _ _=>exact hl.elim
 | ko id i off=>
  obtain ⟨t,l,o,p,hs,hi,hp,hv⟩:=h
  obtain ⟨e',he',hl,hpl⟩:=g.aj id _ (hd id (by simp [Cell.ids])) hs
  obtain ⟨q,hq,q1,q2,q3⟩:=hpl.at hp
  cases e' with
  | box _ _=>exact hl.elim
  | arr t' l' o'=>
   obtain ⟨rfl,hl⟩:=hl
   exact ⟨t,l',o',q,he',by rw [<- hl];exact hi,hq,by rw [q1,q2];exact hv⟩
  | deep _ _ _=>exact hl.elim
 | fE id=>
  obtain ⟨t,l,o,hs,hv⟩:=h
  obtain ⟨e',he',hl,hpl⟩:=g.aj id _ (hd id (by simp [Cell.ids])) hs
  cases e' with
  | box _ _=>exact hl.elim
  | arr _ _ _=>exact hl.elim
  | deep t' l' o'=>
   obtain ⟨rfl,hl,_⟩:=hl
   exact ⟨t,l',o',he',by rw [<- hl];exact hpl.slice hv⟩
 | kJ id i off=>
  obtain ⟨t,l,o,p,hs,hi,hp,hv⟩:=h
  obtain ⟨e',he',hl,hpl⟩:=g.aj id _ (hd id (by simp [Cell.ids])) hs
  obtain ⟨q,hq,q1,q2,q3⟩:=hpl.at hp
  cases e' with
  | box _ _=>exact hl.elim
  | arr _ _ _=>exact hl.elim
  | deep t' l' o'=>
   obtain ⟨rfl,hl,_⟩:=hl
   exact ⟨t,l',o',q,he',by rw [<- hl];exact hi,hq,by rw [q1,q2];exact hv⟩
 | inn id i off=>
  obtain ⟨t,l,n,hs,hi,hf,hv⟩:=h
  obtain ⟨e',he',hl,hpl⟩:=g.aj id _ (hd id (by simp [Cell.ids])) hs
  cases e' with
  | box _ _=>exact hl.elim
  | arr _ _ _=>exact hl.elim
  | deep t' l' o'=>
   obtain ⟨rfl,hl,rfl⟩:=hl
   exact ⟨t,l',n,he',by rw [<- hl];exact hi,hf,by rw [g.inn];exact hv.1,hv.2⟩
 | nH fr t x off=>
  obtain ⟨b,o,es,hv,hb,hr,hj⟩:=h
  exact ⟨b,o,es,hv,g.F b hb,g.Wj fr hr,fun j u hu=>by rw [pO (g.h b hb)];exact hj j u hu⟩
 | qY f caps=>
  obtain ⟨vs,hv,hl,hc⟩:=h
  refine ⟨vs,hv,hl,fun i c u hi hu=>g.cap (fun id he=>?_) (hc i c u hi hu)⟩
  subst he
  refine hd id ?_
  simp only [Cell.ids,List.mem_filterMap]
  exact ⟨_,List.mem_of_getElem? hi,rfl⟩
theorem Goes.cells {D:Nat->Prop} {M M':Mem} (g:Goes D M M') {cs:List Cell} {vs:List Value} (hd:∀ c ∈ cs,∀ id ∈ c.ids,¬ D id) (h:ay M cs vs):ay M' cs vs:=
 ⟨h.1,fun i c v hi hv=>⟨g.cell (hd c (List.mem_of_getElem? hi)) (h.2 i c v hi hv).1,(h.2 i c v hi hv).2⟩⟩
theorem Goes.comp {D:Nat->Prop} {M M':Mem} (g:Goes D M M') {c:av} {v:Value} (hd:∀ id ∈ c.ids,¬ D id) (h:dG M c v):dG M' c v:=by
 cases c with
 | cell c=>exact g.cell (fun id hi=>hd id (by simpa [av.ids,av.cells] using hi)) h
 | agg cs=>
  obtain ⟨vs,hv,hc⟩:=h
  exact ⟨vs,hv,g.cells (fun c hc id hi=>hd id (by simp only [av.ids,av.cells,List.mem_flatMap];exact ⟨c,hc,hi⟩)) hc⟩
theorem Goes.slot {D:Nat->Prop} {M M':Mem} (g:Goes D M M') {s:Slot} {v:Value} (hd:∀ id ∈ s.ids,¬ D id) (h:eY M s v):eY M' s v:=by
 cases s with
 | one c=>exact g.comp hd h
 | wN cs=>
  obtain ⟨vs,hv,hl,hc⟩:=h
  exact ⟨vs,hv,hl,fun i c u hi hu=>g.comp (fun id hid=>hd id (by simp only [Slot.ids,List.mem_flatMap];exact ⟨c,List.mem_of_getElem? hi,hid⟩)) (hc i c u hi hu)⟩
theorem Goes.refl (D:Nat->Prop) {M:Mem} (h:∀ b,M.G b->M.F b):Goes D M M:=
 ⟨fun _ h=>h,fun _ h=>h,h,fun _ _=>rfl,fun id e _ he=>⟨e,he,e.jh,gQ.refl _⟩,rfl⟩
theorem Goes.OW {D:Nat->Prop} {M M':Mem} (g:Goes D M M') {t:Ty} {l:List t.den} {π:Option Pl} (hb:∀ p,π=some p->M'.h[p.b]? = M.h[p.b]?) (h:lS M.G M.h t l π):lS M'.G M'.h t l π:=
 h.move g.G (fun b hb=>g.h b (g.gf b hb)) hb
theorem Goes.NA {D:Nat->Prop} {M M':Mem} (g:Goes D M M') {t:Ty} {l:List t.den} {π:Option Pl} (hb:∀ p,π=some p->∀ b ∈ p.bs,M'.h[b]? = M.h[b]?) (h:iA M.G M.h t l π):iA M'.G M'.h t l π:=
 h.move g.G (fun b hb=>g.h b (g.gf b hb)) hb
end Go.Flat
