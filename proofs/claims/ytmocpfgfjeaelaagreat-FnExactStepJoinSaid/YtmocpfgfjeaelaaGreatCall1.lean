/- What a call is handed, and what it hands back. No condition. -/
import Derived.Test.YtmocpfgfjeaelaaGreatCode3
import Derived.Test.YtmocpfgfjeaelaaGreatDeep1
set_option linter.unusedVariables false
set_option linter.unusedSimpArgs false
namespace Go.Flat
def Jo:Ty->List Value->List Value->Prop
 | .unit,cs,vs=>cs=[]/\vs=[]
 | .pair a b,cs,vs=>∃ v vs',vs=v :: vs'/\jO a.isAgg (cs.take a.sz) v/\Jo b (cs.drop a.sz) vs'
 | _,_,_=>False
def zn (own one:Bool) (t:Ty) (G:Nat->Prop) (h:Array Obj) (r:t.den) (v:Value) (ps:List (Option Pl)):Prop:=
 ∃ cs,aW own G h t r cs ps/\(if one then jO t.isAgg cs v else ∃ vs:List Value,v=.tuple vs.toArray/\Jo t cs vs)
def xw (A G:Nat->Prop) (h:Array Obj):Mem:=⟨A,G,h,fun _=>none,fun _=>none,fun _=>none,fun _=>0,fun _ _ _=>undef⟩
def ArgRel (A G:Nat->Prop) (h:Array Obj):Arg->Value->Prop
 | .val t x,v=>∃ es,Rd G h t (bif t.kept then G else A) x es/\jO t.isAgg es v
 | .qY f caps,v=>bO (xw A G h) (.qY f caps) v
 | .rp t x,v=>bO (xw A G h) (.nH false t x 0) v
 | .Nl t x,v=>∃ es,Rd G h t G x es/\jO t.isAgg es v
 | .give T x,v=>∃ cs ps,aW true G h T x cs ps/\jO T.isAgg cs v/\(∀ b ∈ blks ps,¬ A b/\b<h.size)/\(blks ps).Nodup
 | _,_=>False
def iJ (A G:Nat->Prop) (h:Array Obj) (as:List Arg) (vs:List Value):Prop:=
 vs.length=as.length/\∀ (i:Nat) a v,as[i]? = some a->vs[i]? = some v->ArgRel A G h a v
theorem ArgRel.solid {A G:Nat->Prop} {h:Array Obj} (Yc:∀ b,A b->G b) {a:Arg} {v:Value} (H:ArgRel A G h a v):ArgRel A G h a.solid v:=by
 cases a with
 | val t x=>
  obtain ⟨es,h1,h2⟩:=H
  refine ⟨es,Rd.move (fun _ h=>h) (fun _ _=>rfl) (fun b hb=>?_) (fun _ _=>rfl) h1,h2⟩
  cases hk:t.kept with
  | true=>rw [hk] at hb;exact hb
  | false=>rw [hk] at hb;exact Yc b hb
 | _=>exact H
theorem iJ.solid {A G:Nat->Prop} {h:Array Obj} (Yc:∀ b,A b->G b) {as:List Arg} {vs:List Value} (H:iJ A G h as vs):iJ A G h (as.map Arg.solid) vs:=by
 refine ⟨by rw [List.length_map];exact H.1,fun i a v ha hv=>?_⟩
 rw [List.getElem?_map] at ha
 obtain ⟨a',h1,rfl⟩:=Option.map_eq_some_iff.1 ha
 exact (H.2 i a' v h1 hv).solid Yc
def Arg.uq:Arg->Bool
 | .give _ _=>true
 | _=>false
def FQ (as:List Arg):Prop:=∀ (i j:Nat) a b,as[i]? = some a->as[j]? = some b->a.uq=true->b.uq=true->i=j
def FR (C:aZ) (ah:FuncId->(t:Ty)->List Arg->Option t.den):Prop:=
 ∀ (f:FuncId) (fn:Func) (t:Ty) (args:List Arg) (r:t.den),C.P.funcs[f]? = some fn->ah f t args=some r->(C.sig f).wI=false->fn.body.isSome=true /\
  ∀ (w:World) (A G:Nat->Prop) (vals:List Value),(∀ b,A b->b<w.heap.size)->(∀ b,G b->A b)->Tab C w A->FQ args->iJ A G w.heap args vals->
   Calls C.P f vals.toArray w fun e w'=>∃ v G' ps,e=.returned v/\w.heap.size<=w'.heap.size/\Str C.mono w w'/\(∀ b,A b->w'.heap[b]? = w.heap[b]?)/\(∀ b,G b->G' b)/\(∀ b,G' b->G b\/(¬ A b/\b<w'.heap.size)) /\
    zn (C.sig f).own (Nat.beq fn.resultTypes.size 1) t G' w'.heap r v ps/\(∀ b ∈ blks ps,¬ A b/\¬ G' b/\b<w'.heap.size)/\(blks ps).Nodup
def Kq (A G:Nat->Prop) (h:Array Obj) (T:Ty) (x:T.den) (v:Value) (cs:List Value) (ps:List (Option Pl)):Prop:=
 aW true G h T x cs ps/\jO T.isAgg cs v/\(∀ b ∈ blks ps,¬ A b/\b<h.size)/\(blks ps).Nodup
def rD (G:Nat->Prop) (h0 h:Array Obj):(T:Ty)->T.den->T.rows.den->List (Option Pl)->Prop
 | .list t,l,l',ps=>∃ π,ps=[π]/\lS G h t l' π/\l'.length=l.length
 | .aG t,l,l',ps=>∃ π,ps=[π]/\iA G h t l' π/\l'.length=l.length/\∀ p,π=some p->∀ i off,i<l.length->(jq t)[off]? = some true->hcell h p.b (p.o+i*t.sz+off)=hcell h0 p.b (p.o+i*t.sz+off)
 | .pair a b,x,z,ps=>∃ p q,ps=p++q/\rD G h0 h a x.1 z.1 p/\rD G h0 h b x.2 z.2 q
 | .bool,_,_,ps=>ps=[]
 | .int _,_,_,ps=>ps=[]
 | .str,_,_,ps=>ps=[]
 | .unit,_,_,ps=>ps=[]
def Kr (C:aZ) (ah:FuncId->(t:Ty)->List Arg->Option t.den):Prop:=
 ∀ (f:FuncId) (fn:Func) (rt T:Ty) (x:T.den) (i:Nat) (args:List Arg) (r:rt.den × T.rows.den),C.P.funcs[f]? = some fn->ah f (.pair rt T.rows) args=some r->args[i]? = some (.lend T x)->fn.body.isSome=true /\
  ∀ (w:World) (A G:Nat->Prop) (vals:List Value) (v0:Value) (cs:List Value) (ps:List (Option Pl)),(∀ b,A b->b<w.heap.size)->(∀ b,G b->A b)->Tab C w A->vals.length=args.length->vals[i]? = some v0->Kq A G w.heap T x v0 cs ps->
   (∀ (j:Nat) a v,j ≠ i->args[j]? = some a->vals[j]? = some v->a.uq=false/\ArgRel A G w.heap a v)->
   Calls C.P f vals.toArray w fun e w'=>∃ v G' qs,e=.returned v/\w.heap.size<=w'.heap.size/\Str C.mono w w'/\(∀ b,A b->w'.heap[b]? = w.heap[b]?)/\(∀ b,G b->G' b)/\(∀ b,G' b->G b\/(¬ A b/\b<w'.heap.size)) /\
    zn (C.sig f).own (Nat.beq fn.resultTypes.size 1) rt G' w'.heap r.1 v qs/\(∀ b ∈ blks qs,¬ A b/\¬ G' b/\b<w'.heap.size)/\(blks qs).Nodup /\
    rD G' w.heap w'.heap T x r.2 ps/\∀ b ∈ blks ps,¬ G' b/\b ∉ blks qs
def RP (A G:Nat->Prop) (h:Array Obj) (T:Ty) (x:T.den) (pb:Nat) (ps:List (Option Pl)):Prop:=
 (∃ c e fz,h[pb]? = some (.cells c e fz)/\Free fz c.size/\c.size=T.sz/\aW T.ob G h T x c.toList ps)/\(∀ b ∈ pb :: blks ps,¬ A b/\b<h.size)/\(pb :: blks ps).Nodup
def RQ (C:aZ) (ah:FuncId->(t:Ty)->List Arg->Option t.den):Prop:=
 ∀ (f:FuncId) (fn:Func) (rt T:Ty) (x:T.den) (i:Nat) (args:List Arg) (r:rt.den × T.den),C.P.funcs[f]? = some fn->ah f (.pair rt T) args=some r->args[i]? = some (.mQ T x)->fn.body.isSome=true /\
  ∀ (w:World) (A G:Nat->Prop) (vals:List Value) (pb:Nat) (ps:List (Option Pl)),(∀ b,A b->b<w.heap.size)->(∀ b,G b->A b)->Tab C w A->vals.length=args.length->vals[i]? = some (.pointer (some ⟨pb,0,none⟩))->RP A G w.heap T x pb ps->
   (∀ (j:Nat) a v,j ≠ i->args[j]? = some a->vals[j]? = some v->a.uq=false/\ArgRel A G w.heap a v)->
   Calls C.P f vals.toArray w fun e w'=>∃ v G' qs ps',e=.returned v/\w.heap.size<=w'.heap.size/\Str C.mono w w'/\(∀ b,A b->w'.heap[b]? = w.heap[b]?)/\(∀ b,G b->G' b)/\(∀ b,G' b->G b\/(¬ A b/\b<w'.heap.size)) /\
    zn true (Nat.beq fn.resultTypes.size 1) rt G' w'.heap r.1 v qs/\(∃ c e fz,w'.heap[pb]? = some (.cells c e fz)/\Free fz c.size/\c.size=T.sz/\aW T.ob G' w'.heap T r.2 c.toList ps') /\
    (∀ b ∈ blks qs++blks ps',¬ A b/\¬ G' b/\b<w'.heap.size/\b ≠ pb)/\(blks qs++blks ps').Nodup/\¬ G' pb
def WG (C:aZ) (ah:FuncId->(t:Ty)->List Arg->Option t.den):Prop:=
 ∀ (f:FuncId) (fn:Func) (t:Ty) (args:List Arg) (r:t.den),C.P.funcs[f]? = some fn->ah f t args=some r->(C.sig f).wI=true->fn.body.isSome=true /\
  ∀ (w:World) (A G:Nat->Prop) (vals:List Value),(∀ b,A b->b<w.heap.size)->(∀ b,G b->A b)->Tab C w A->FQ args->iJ A G w.heap args vals->
   Calls C.P f vals.toArray w fun e w'=>∃ pb G',e=.returned (.pointer (some ⟨pb,0,none⟩))/\w.heap.size<=w'.heap.size/\Str C.mono w w'/\(∀ b,A b->w'.heap[b]? = w.heap[b]?)/\(∀ b,G b->G' b)/\(∀ b,G' b->G b\/(¬ A b/\b<w'.heap.size)) /\
    (∃ c e fz,w'.heap[pb]? = some (.cells c e fz)/\Free fz c.size/\c.size=t.sz/\aW false G' w'.heap t r c.toList [])/\¬ A pb/\¬ G' pb
def ET (C:aZ) (ah:FuncId->(t:Ty)->List Arg->Option t.den):Prop:=FR C ah/\Kr C ah/\RQ C ah/\WG C ah
theorem pU {M:Mem} {c:av} {v:Value} {u:Ty} (hk:c.known=true) (ha:Aq u c=true) (h:dG M c v):jO u.isAgg v.cells.toList v:=by
 unfold jO
 cases c with
 | agg cs=>
  obtain ⟨vs,rfl,_⟩:=h
  have:u.isAgg=true:=ha
  rw [this]
  simp [Value.cells]
 | cell c=>
  have hf:u.isAgg=false:=by simpa [Aq] using ha
  rw [hf]
  have h1:one v=true:=Lj hk h
  simp only [Bool.false_eq_true,if_false]
  cases v <;> simp [one] at h1 <;> rfl
theorem LK {C:aZ} {s:St} {t:TypeId} {c:av} {x:Arg} (h:lN C s t c=some x):x.uq=false:=by
 unfold lN at h
 split at h
 ·rename_i u hu
  cases hb:(c.known && Aq u c) with
  | false=>rw [hb] at h;cases h
  | true=>
   rw [hb] at h
   simp only [cond_true] at h
   cases hkt:C.QY.contains t with
   | true=>
    rw [hkt] at h
    simp only [cond_true] at h
    split at h
    ·simp at h;subst h;rfl
    ·cases h
   | false=>
   rw [hkt] at h
   simp only [cond_false] at h
   cases hk:u.kept with
   | true=>
    rw [hk] at h
    simp only [cond_true] at h
    split at h
    ·simp at h;subst h;rfl
    ·cases h
   | false=>
    rw [hk] at h
    obtain ⟨_,_,rfl⟩:=Option.map_eq_some_iff.1 h
    rfl
 ·split at h
  ·obtain ⟨_,_,rfl⟩:=Option.map_eq_some_iff.1 h;rfl
  ·split at h
   ·simp at h;subst h;rfl
   ·cases h
  ·simp at h;subst h;rfl
  ·cases h
theorem Qa {c:Cap} {x:Arg} (h:oH c=some x):x.uq=false:=by
 cases c <;> simp [oH] at h
 subst h;rfl
theorem LM {σ:Nat->Option Entry} {m:Mode}:∀ {t:Ty} {cs:List Cell} {x:t.den} {rest:List Cell} {ids:List Nat},au σ m t cs=some (x,rest,ids)->(∀ c ∈ rest,c ∈ cs)/\∀ id ∈ ids,(∃ u l o,σ id=some (.arr u l o))\/Cell.fE id ∈ cs:=by
 intro t
 induction t with
 | list t _=>
  intro cs x rest ids h
  cases cs with
  | nil=>simp [au] at h
  | cons c cs=>
   have h:(gN σ m t c).map (fun (l,ids)=>(l,cs,ids))=some (x,rest,ids):=by cases c <;> simpa [au] using h
   rw [Option.map_eq_some_iff] at h
   obtain ⟨⟨l,js⟩,hl,he⟩:=h
   simp at he
   obtain ⟨rfl,rfl,rfl⟩:=he
   refine ⟨fun c hc=>List.mem_cons_of_mem _ hc,fun id hid=>.inl ?_⟩
   obtain ⟨u,l',o,h,_⟩:=Du hl id hid
   exact ⟨u,l',o,h⟩
 | aG t _=>
  intro cs x rest ids h
  cases cs with
  | nil=>simp [au] at h
  | cons c cs=>
   have h:(iV σ m t c).map (fun (l,ids)=>(l,cs,ids))=some (x,rest,ids):=by cases c <;> simpa [au] using h
   rw [Option.map_eq_some_iff] at h
   obtain ⟨⟨l,js⟩,hl,he⟩:=h
   simp at he
   obtain ⟨rfl,rfl,rfl⟩:=he
   refine ⟨fun c hc=>List.mem_cons_of_mem _ hc,fun id hid=>.inr ?_⟩
   clear h
   cases c <;> simp only [iV] at hl <;> try (cases hl;done)
   case nil=>simp at hl;rw [hl.2] at hid;simp at hid
   case list fr u l'=>
    cases m <;> cases fr <;> simp at hl
    all_goals
     obtain ⟨x,hx,rfl,rfl⟩:=hl
     simp at hid
   case fE id'=>
    cases hs:σ id' with
    | none=>simp [hs] at hl
    | some e=>
     cases e with
     | box _ _=>simp [hs] at hl
     | arr _ _ _=>simp [hs] at hl
     | deep u l' n=>
      cases m <;> cases n <;> simp [hs] at hl
      all_goals
       obtain ⟨x,hx,rfl,rfl⟩:=hl
       simp at hid
       subst hid
       simp
 | pair a b iha ihb=>
  intro cs x rest ids h
  rw [iZ] at h
  cases h1:au σ m a cs with
  | none=>simp [h1] at h
  | some r1=>
   obtain ⟨x1,rz,Ib⟩:=r1
   simp only [h1] at h
   cases h2:au σ m b rz with
   | none=>simp [h2] at h
   | some r2=>
    obtain ⟨x2,pQ,Ic⟩:=r2
    simp [h2] at h
    obtain ⟨rfl,rfl,rfl⟩:=h
    obtain ⟨k1,k2⟩:=iha h1
    obtain ⟨k3,k4⟩:=ihb h2
    refine ⟨fun c hc=>k1 c (k3 c hc),fun id hid=>?_⟩
    rcases List.mem_append.1 hid with hid | hid
    ·exact k2 id hid
    ·exact (k4 id hid).imp_right (k1 _)
 | bool=>
  intro cs x rest ids h
  cases cs with
  | nil=>simp [au] at h
  | cons c cs=>cases c <;> simp [au] at h <;> (obtain ⟨_,rfl,rfl⟩:=h;exact ⟨fun c hc=>List.mem_cons_of_mem _ hc,fun id hid=>(by simp at hid)⟩)
 | int k=>
  intro cs x rest ids h
  cases cs with
  | nil=>simp [au] at h
  | cons c cs=>cases c <;> simp [au] at h;obtain ⟨_,_,rfl,rfl⟩:=h;exact ⟨fun c hc=>List.mem_cons_of_mem _ hc,fun id hid=>(by simp at hid)⟩
 | str=>
  intro cs x rest ids h
  cases cs with
  | nil=>simp [au] at h
  | cons c cs=>cases c <;> simp [au] at h;obtain ⟨_,rfl,rfl⟩:=h;exact ⟨fun c hc=>List.mem_cons_of_mem _ hc,fun id hid=>(by simp at hid)⟩
 | unit=>
  intro cs x rest ids h
  have h:rest=cs/\ids=[]:=by
   cases cs with
   | nil=>simp [au] at h;exact ⟨h.1,h.2⟩
   | cons c cs=>cases c <;> simp [au] at h <;> exact ⟨h.1.symm,h.2⟩
  obtain ⟨rfl,rfl⟩:=h
  exact ⟨fun c hc=>hc,fun id hid=>by simp at hid⟩
def Ck (s:St) (pl:Nat->Option Pl) (G:Nat->Prop):Prop:=∀ id t l n p,s.aj id=some (.deep t l n)->pl id=some p->∀ b ∈ p.tT,G b
theorem wB {s:St} {m:Mode} {t:Ty} {cs:List Cell} {x:t.den} {ids:List Nat} (h:aL s.aj m t cs=some (x,ids)):∀ id ∈ ids,∀ u l n,s.aj id=some (.deep u l n)->Cell.fE id ∈ cs:=by
 unfold aL at h
 split at h
 ·rename_i x' iQ he
  simp at h
  obtain ⟨rfl,rfl⟩:=h
  intro id hid u l n hs
  rcases (LM he).2 id hid with ⟨_,_,_,h⟩ | h
  ·rw [hs] at h;cases h
  ·exact h
 ·cases h
theorem LP {F0:jo} {A G Gc:Nat->Prop} {s:St} {a:Act} {w:World} {pl:Nat->Option Pl} (i:Inv F0 G s a w pl) (HZ:∀ b,G b->Gc b) (lq:∀ b,F0 b\/G b->A b) (sF:∀ id e p,s.aj id=some e->pl id=some p->∀ b ∈ e.bs p,A b) {cp cp':Cap} {u:Value} (hu:mU (mem F0 G w.heap s.aj pl) cp u) (hcp:tY s cp=some cp') (hD:jJ s cp=true->Ck s pl Gc) :
  mU (xw A Gc w.heap) cp' u:=by
  have sV:∀ b,G b->A b:=fun b hb=>lq b (.inr hb)
  cases cp with
  | ro t y=>
   simp [tY] at hcp
   subst hcp
   obtain ⟨b,o,es,h1,h2,h3,h4⟩:=hu
   exact ⟨b,o,es,h1,lq b h2,Rd.move HZ (fun _ _=>rfl) lq (fun _ _=>rfl) h3,h4⟩
  | ptr id=>
   obtain ⟨t',cs,p,hs,hp,ho,hv⟩:=hu
   obtain ⟨p',c,e,fz,h1,h2,h3,h4,h5,h6,h7,h8,h9⟩:=i.aj.ent id _ hs
   obtain rfl:p=p':=Option.some.inj (hp.symm.trans h1)
   simp only [tY,show s.aj id=some (.box t' cs) from hs] at hcp
   cases t' with
   | none=>simp at hcp
   | some t'=>
    simp only at hcp
    obtain ⟨⟨y,ids⟩,hof,rfl⟩:=Option.map_eq_some_iff.1 hcp
    have hh:w.heap[p.b]? = some (.cells c e fz):=h3
    have hb:A p.b:=sF id _ p hs hp _ (Entry.gI _ p)
    have hr:Rd Gc w.heap t' A y c.toList:=iI i.aj HZ sV (fun _=>lq) hof h8 (fun j hj q hq=>by
     obtain ⟨_,he⟩:=(ig hof j hj).ent
     exact sF j _ q he hq _ (Entry.gI _ q)) (fun j hj t l n q hs' hq=>hD (by
      simp only [jJ,show s.aj id=some (.box (some t') cs) from hs,List.any_eq_true]
      exact ⟨.fE j,wB hof j hj t l n hs',rfl⟩) j t l n q hs' hq)
    refine ⟨p.b,0,c.toList,hv,hb,hr,fun j u hj=>?_⟩
    unfold hcell
    show (match w.heap[p.b]? with | some (.cells c _ _)=>c[0+j]? | _=>none)=_
    rw [hh]
    simpa using hj
theorem Cm {F0:jo} {A G Gc:Nat->Prop} {s:St} {a:Act} {w:World} {pl:Nat->Option Pl} (i:Inv F0 G s a w pl) (HZ:∀ b,G b->Gc b) (lq:∀ b,F0 b\/G b->A b) (sF:∀ id e p,s.aj id=some e->pl id=some p->∀ b ∈ e.bs p,A b):∀ {caps wW:List Cap} {vs:List Value},iW s caps=some wW->vs.length=caps.length->
  (∀ (i:Nat) c u,caps[i]? = some c->vs[i]? = some u->mU (mem F0 G w.heap s.aj pl) c u)->
  (caps.any (jJ s)=true->Ck s pl Gc)->vs.length=wW.length/\∀ (i:Nat) c u,wW[i]? = some c->vs[i]? = some u->mU (xw A Gc w.heap) c u:=by
 intro caps
 induction caps with
 | nil=>intro wW vs h hl _ _;simp [iW] at h;subst h;exact ⟨hl,fun i c u hi=>by simp at hi⟩
 | cons c0 caps ih=>
  intro wW vs h hl hcs hD
  simp only [iW] at h
  split at h
  ·rename_i c1 r1 hc1 hr1
   simp at h
   subst h
   cases vs with
   | nil=>simp at hl
   | cons v vs=>
    obtain ⟨k1,k2⟩:=ih hr1 (by simpa using hl) (fun i c u hi hu=>hcs (i+1) c u (by simpa using hi) (by simpa using hu)) (fun h=>hD (by rw [List.any_cons,h,Bool.or_true]))
    refine ⟨by simp [k1],fun j c u hi hu=>?_⟩
    cases j with
    | zero=>simp at hi hu;subst hi hu;exact LP i HZ lq sF (hcs 0 c0 v rfl rfl) hc1 (fun h=>hD (by rw [List.any_cons,h,Bool.true_or]))
    | succ j=>exact k2 j c u (by simpa using hi) (by simpa using hu)
  ·cases h
theorem LQ {C:aZ} {F0:jo} {A G Gc:Nat->Prop} {s:St} {a:Act} {w:World} {pl:Nat->Option Pl} (i:Inv F0 G s a w pl) (HZ:∀ b,G b->Gc b) (lq:∀ b,F0 b\/G b->A b) (sF:∀ id e p,s.aj id=some e->pl id=some p->∀ b ∈ e.bs p,A b) {t:TypeId} {c:av} {v:Value} {x:Arg} (hc:dG (mem F0 G w.heap s.aj pl) c v)
  (h:lN C s t c=some x) (ZA:∀ b,Gc b->A b) (hD:c.cells.any (jK s)=true->Ck s pl Gc):ArgRel A Gc w.heap x v:=by
 have sV:∀ b,G b->A b:=fun b hb=>lq b (.inr hb)
 unfold lN at h
 ·split at h
  ·rename_i u hu
   cases hb:(c.known && Aq u c) with
   | false=>rw [hb] at h;cases h
   | true=>
    rw [hb] at h
    simp only [cond_true] at h
    simp only [Bool.and_eq_true] at hb
    cases hkt:C.QY.contains t with
    | true=>
    rw [hkt] at h
    simp only [cond_true] at h
    split at h
    ·rename_i y hof
     simp at h
     subst h
     exact ⟨v.cells.toList,iI i.aj HZ HZ (fun h=>by cases h) hof (eZ hb.1 hc) (fun j hj=>by simp at hj) (fun j hj=>by simp at hj),pU hb.1 hb.2 hc⟩
    ·cases h
    | false=>
    rw [hkt] at h
    simp only [cond_false] at h
    cases hk:u.kept with
    | true=>
    rw [hk] at h
    simp only [cond_true] at h
    split at h
    ·rename_i y hof
     simp at h
     subst h
     exact ⟨v.cells.toList,by rw [hk];exact iI i.aj HZ HZ (fun h=>by cases h) hof (eZ hb.1 hc) (fun j hj=>by simp at hj) (fun j hj=>by simp at hj),pU hb.1 hb.2 hc⟩
    ·cases h
    | false=>
    rw [hk] at h
    simp only [cond_false] at h
    obtain ⟨⟨y,ids⟩,hof,rfl⟩:=Option.map_eq_some_iff.1 h
    exact ⟨v.cells.toList,by rw [hk];exact iI i.aj HZ sV (fun _=>lq) hof (eZ hb.1 hc) (fun j hj q hq=>by
     obtain ⟨_,he⟩:=(ig hof j hj).ent
     exact sF j _ q he hq _ (Entry.gI _ q)) (fun j hj t l n q hs' hq=>hD (by
      simp only [List.any_eq_true]
      exact ⟨.fE j,wB hof j hj t l n hs',rfl⟩) j t l n q hs' hq),pU hb.1 hb.2 hc⟩
  ·split at h
   ·rename_i f caps
    obtain ⟨wW,WH,rfl⟩:=Option.map_eq_some_iff.1 h
    obtain ⟨vs,hv,hl,hcs⟩:=hc
    obtain ⟨k1,k2⟩:=Cm i HZ lq sF WH hl hcs (fun h=>hD (by simpa [av.cells,jK] using h))
    exact ⟨vs,hv,k1,k2⟩
   ·rename_i id
    split at h
    ·rename_i t' y hcp
     simp at h
     subst h
     obtain ⟨b,o,es,h1,h2,h3,h4⟩:=LP i HZ lq sF (cp:=.ptr id) hc hcp (fun h=>hD (by simpa [av.cells,jK] using h))
     exact ⟨b,o,es,by rw [Nat.add_zero];exact h1,h2,h3,h4⟩
    ·cases h
   ·rename_i fr t' y
    simp at h
    subst h
    obtain ⟨b,o,es,h1,h2,h3,h4⟩:=hc
    refine ⟨b,o,es,h1,lq b h2, ?_,h4⟩
    show Rd Gc w.heap t' A y es
    cases fr with
    | false=>exact Rd.move HZ (fun _ _=>rfl) lq (fun _ _=>rfl) h3
    | true=>exact Rd.move HZ (fun _ _=>rfl) sV (fun _ _=>rfl) h3
   ·cases h
end Go.Flat
