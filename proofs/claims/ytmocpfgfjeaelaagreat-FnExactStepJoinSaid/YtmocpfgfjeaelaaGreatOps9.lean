/- Numbers, comparisons, conversions. No condition. -/
import Derived.Test.YtmocpfgfjeaelaaGreatOps8
set_option linter.unusedVariables false
set_option linter.unusedSimpArgs false
namespace Go.Flat
def aQ:(T:Ty)->T.den->List Value
 | .bool,b=>[.bool b]
 | .int k,n=>[.int k n]
 | .str,s=>[.string s]
 | .list _,_=>[]
 | .aG _,_=>[]
 | .unit,_=>[]
 | .pair a b,x=>aQ a x.1++aQ b x.2
theorem pF:∀ {T:Ty} (x:T.den),T.plain=true->(aQ T x).length=T.sz
 | .bool,_,_=>rfl
 | .int _,_,_=>rfl
 | .str,_,_=>rfl
 | .list _,_,h=>by simp [Ty.plain] at h
 | .aG _,_,h=>by simp [Ty.plain] at h
 | .unit,_,_=>rfl
 | .pair a b,x,h=>by
  simp only [Ty.plain,Bool.and_eq_true] at h
  simp [aQ,Ty.sz,pF x.1 h.1,pF x.2 h.2]
theorem Ig {M:Mem} {σ:Nat->Option Entry} {m:Mode}:∀ {T:Ty} {cs:List Cell} {x:T.den} {rest:List Cell} {ids:List Nat} {vs:List Value},T.plain=true->au σ m T cs=some (x,rest,ids)->ay M cs vs->
  ∃ us,vs=aQ T x++us/\ay M rest us:=by
 intro T
 induction T with
 | bool=>
  intro cs x rest ids vs _ h hc
  cases cs with
  | nil=>simp [au] at h
  | cons c cs=>
   obtain ⟨v,us,rfl,hv,_,hs⟩:=hc.cons
   cases c <;> simp [au] at h
   case bool b=>obtain ⟨rfl,rfl,rfl⟩:=h;exact ⟨us,by rw [show v=.bool b from hv];rfl,hs⟩
   case prop p d=>obtain ⟨rfl,rfl,rfl⟩:=h;exact ⟨us,by rw [show v=.bool (@decide p d) from hv];rfl,hs⟩
 | int k=>
  intro cs x rest ids vs _ h hc
  cases cs with
  | nil=>simp [au] at h
  | cons c cs=>
   obtain ⟨v,us,rfl,hv,_,hs⟩:=hc.cons
   cases c <;> simp [au] at h
   case int k' n=>obtain ⟨rfl,rfl,rfl,rfl⟩:=h;exact ⟨us,by rw [show v=.int k' n from hv];rfl,hs⟩
 | str=>
  intro cs x rest ids vs _ h hc
  cases cs with
  | nil=>simp [au] at h
  | cons c cs=>
   obtain ⟨v,us,rfl,hv,_,hs⟩:=hc.cons
   cases c <;> simp [au] at h
   case str b=>obtain ⟨rfl,rfl,rfl⟩:=h;exact ⟨us,by rw [show v=.string b from hv];rfl,hs⟩
 | list t _=>intro cs x rest ids vs hp;simp [Ty.plain] at hp
 | aG t _=>intro cs x rest ids vs hp;simp [Ty.plain] at hp
 | unit=>
  intro cs x rest ids vs _ h hc
  have h:some ((),cs,([]:List Nat))=some (x,rest,ids):=by
   cases cs with
   | nil=>simpa [au] using h
   | cons c cs=>cases c <;> simpa [au] using h
  simp at h
  obtain ⟨rfl,rfl⟩:=h
  exact ⟨vs,rfl,hc⟩
 | pair a b iha ihb=>
  intro cs x rest ids vs hp h hc
  simp only [Ty.plain,Bool.and_eq_true] at hp
  rw [iZ] at h
  cases h1:au σ m a cs with
  | none=>simp [h1] at h
  | some r1=>
   obtain ⟨x1,rz,Ib⟩:=r1
   simp only [h1] at h
   cases h2:au σ m b rz with
   | none=>simp [h2] at h
   | some r2=>
    obtain ⟨x2,pQ,Ic⟩:=r2
    simp [h2] at h
    obtain ⟨rfl,rfl,rfl⟩:=h
    obtain ⟨us,rfl,hs⟩:=iha hp.1 h1 hc
    obtain ⟨us',rfl,hs'⟩:=ihb hp.2 h2 hs
    exact ⟨us',by simp [aQ],hs'⟩
theorem uo {M:Mem} {σ:Nat->Option Entry} {m:Mode} {T:Ty} {cs:List Cell} {vs:List Value} (hp:T.plain=true) (h:(aL σ m T cs).isSome=true) (hc:ay M cs vs):∃ x,vs=aQ T x:=by
 unfold aL at h
 split at h
 ·rename_i x ids he
  obtain ⟨us,rfl,hs⟩:=Ig hp he hc
  have:us=[]:=by have:=hs.1;simpa using this
  subst this
  exact ⟨x,by simp⟩
 ·cases h
theorem FJ {M:Mem} {c d:Cell} {v u:Value} {p:Prop} {i:Decidable p} (h:lD.IL c d=some ⟨p,i⟩) (hv:bO M c v) (hu:bO M d u):p ↔ v=u:=by
 cases c <;> cases d <;> simp only [lD.IL,lD.dec] at h <;> try (cases h;done)
 case int.int k a k' b=>
  split at h
  ·rename_i hk
   have hp:=congrArg PSigma.fst (Option.some.inj h)
   dsimp only at hp
   subst hp
   rw [show v=.int k a from hv,show u=.int k' b from hu,hk]
   simp
  ·cases h
 all_goals
  have hp:=congrArg PSigma.fst (Option.some.inj h)
  dsimp only at hp
  subst hp
  simp only [bO] at hv hu
  rw [hv,hu]
  simp
theorem FK {M:Mem}:∀ {cs ds:List Cell} {vs us:List Value} {p:Prop} {i:Decidable p},lD cs ds=some ⟨p,i⟩->ay M cs vs->ay M ds us->(p ↔ vs=us)
 | [],[],vs,us,p,i,h,hv,hu=>by
  have hp:=congrArg PSigma.fst (Option.some.inj h)
  dsimp only at hp
  subst hp
  have h1:vs=[]:=List.eq_nil_of_length_eq_zero hv.1
  have h2:us=[]:=List.eq_nil_of_length_eq_zero hu.1
  simp [h1,h2]
 | [x],[y],vs,us,p,i,h,hv,hu=>by
  obtain ⟨v,vs',rfl,hv1,_,hv2⟩:=hv.cons
  obtain ⟨u,us',rfl,hu1,_,hu2⟩:=hu.cons
  have h1:vs'=[]:=List.eq_nil_of_length_eq_zero hv2.1
  have h2:us'=[]:=List.eq_nil_of_length_eq_zero hu2.1
  subst h1 h2
  have:=FJ h hv1 hu1
  simpa using this
 | x :: x2 :: xs,y :: ys,vs,us,p,i,h,hv,hu=>by
  obtain ⟨v,vs',rfl,hv1,_,hv2⟩:=hv.cons
  obtain ⟨u,us',rfl,hu1,_,hu2⟩:=hu.cons
  simp only [lD] at h
  split at h
  ·rename_i p1 d1 q e h1 h2
   have hp:=congrArg PSigma.fst (Option.some.inj h)
   dsimp only at hp
   subst hp
   have k1:=FJ h1 hv1 hu1
   have k2:=FK h2 hv2 hu2
   simp [k1,k2]
  ·cases h
 | [x],y :: y2 :: ys,vs,us,p,i,h,hv,hu=>by
  simp only [lD] at h
  split at h
  ·rename_i p1 d1 q e h1 h2
   simp [lD] at h2
  ·cases h
 | [],_ :: _,vs,us,p,i,h,hv,hu=>by simp [lD] at h
 | _ :: _,[],vs,us,p,i,h,hv,hu=>by simp [lD] at h
section
variable {P:Program} (w:World)
theorem Km {t:TypeId} {i:TypeInfo} {d:TypeDesc} (hi:P.info? t=some i) (hd:P.underlying t=some d) (ha:qV d=true) (cs:Array Value) (off:Nat) :
  (part t cs off).run P w=.ok (.agg (cs.extract off (off+i.size))) w:=by
 simp only [part,Sem.run_bind,yx hd,ha,Result.andThen_ok,if_true,run_sizeOf hi,Sem.run_pure]
theorem AO {t:TypeId} {d:TypeDesc} (hd:P.underlying t=some d) (ha:qV d=false) (cs:Array Value) (off:Nat) (v:Value) (hv:cs[off]? = some v) :
  (part t cs off).run P w=.ok v w:=by
 simp only [part,Sem.run_bind,yx hd,ha,Result.andThen_ok,Bool.false_eq_true,if_false,hv,Sem.run_pure]
end
theorem Ih {a a' b b':List Value} (h:a.length=a'.length) [Decidable (a=a')] [Decidable (b=b')] [Decidable (a++b=a'++b')]:decide (a++b=a'++b')=(decide (a=a') && decide (b=b')):=by
 rw [Bool.eq_iff_iff]
 simp only [decide_eq_true_eq,Bool.and_eq_true]
 exact ⟨fun e=>List.append_inj e h,fun ⟨e1,e2⟩=>by rw [e1,e2]⟩
open Classical in
theorem Cj {P:Program} (w:World):∀ (T:Ty),T.plain=true->
  (∀ (t:TypeId) (d:Nat) (x y:T.den),jU P T t=true->T.isAgg=true->T.ht<d->(Op.equalIn d t (.agg (aQ T x).toArray) (.agg (aQ T y).toArray)).run P w=.ok (decide (aQ T x=aQ T y)) w) /\
  (∀ (t:TypeId) (d:Nat) (x y:T.den) (v u:Value),jU P T t=true->T.isAgg=false->0<d->aQ T x=[v]->aQ T y=[u]->(Op.equalIn d t v u).run P w=.ok (decide (v=u)) w) /\
  (∀ (fs:List Field) (off d:Nat) (x y:T.den) (xs ys:Array Value),dV P T fs off=true->T.ht<=d->xs.toList.drop off=aQ T x->ys.toList.drop off=aQ T y->
   (Op.eqFields d xs ys fs).run P w=.ok (decide (aQ T x=aQ T y)) w)
 | .bool,_=>by
  refine ⟨fun _ _ _ _ _ h=>by simp [Ty.isAgg] at h, ?_,fun fs off d x y xs ys h=>by simp [dV] at h⟩
  intro t d x y v u hok _ hd hx hy
  simp [aQ] at hx hy
  subst hx hy
  obtain ⟨d,rfl⟩:∃ e,d=e+1:=⟨d - 1,by omega⟩
  simp only [jU,Bool.and_eq_true] at hok
  have h2:=hok.2
  split at h2
  ·rename_i hu
   rw [run_equalIn_bool' w d t x y hu]
   congr 1
   simp only [Value.bool.injEq,Value.int.injEq,true_and]
   exact Bool.eq_iff_iff.2 (beq_iff_eq.trans decide_eq_true_iff.symm)
  ·cases h2
 | .int k,_=>by
  refine ⟨fun _ _ _ _ _ h=>by simp [Ty.isAgg] at h, ?_,fun fs off d x y xs ys h=>by simp [dV] at h⟩
  intro t d x y v u hok _ hd hx hy
  simp [aQ] at hx hy
  subst hx hy
  obtain ⟨d,rfl⟩:∃ e,d=e+1:=⟨d - 1,by omega⟩
  simp only [jU,Bool.and_eq_true] at hok
  have h2:=hok.2
  split at h2
  ·rename_i hu
   rw [run_equalIn_int w d t k _ x y hu]
   congr 1
   simp only [Value.bool.injEq,Value.int.injEq,true_and]
   exact Bool.eq_iff_iff.2 (beq_iff_eq.trans decide_eq_true_iff.symm)
  ·cases h2
 | .str,_=>by
  refine ⟨fun _ _ _ _ _ h=>by simp [Ty.isAgg] at h, ?_,fun fs off d x y xs ys h=>by simp [dV] at h⟩
  intro t d x y v u hok _ hd hx hy
  simp [aQ] at hx hy
  subst hx hy
  obtain ⟨d,rfl⟩:∃ e,d=e+1:=⟨d - 1,by omega⟩
  simp only [jU,Bool.and_eq_true] at hok
  have h2:=hok.2
  split at h2
  ·rename_i hu
   rw [run_equalIn_string w d t x y hu]
   congr 1
   rw [Bool.eq_iff_iff]
   simp only [beq_iff_eq,decide_eq_true_eq,Value.string.injEq,ByteArray.toList_eq]
   constructor
   ·intro e
    obtain ⟨⟨x⟩⟩:=x
    obtain ⟨⟨y⟩⟩:=y
    simp at e
    rw [e]
   ·intro e;rw [e]
  ·cases h2
 | .list _,h=>by simp [Ty.plain] at h
 | .aG _,h=>by simp [Ty.plain] at h
 | .unit,_=>by
  refine ⟨?_,fun _ _ _ _ _ _ _ h=>by simp [Ty.isAgg] at h, ?_⟩
  ·intro t d x y hok _ hd
   obtain ⟨d,rfl⟩:∃ e,d=e+1:=⟨d - 1,by omega⟩
   simp only [jU,Bool.and_eq_true] at hok
   have h2:=hok.2
   split at h2
   ·rename_i fs hfs
    simp only [Bool.and_eq_true,Bool.not_eq_true'] at h2
    have hz:fs=#[]:=Array.eq_empty_of_size_eq_zero (by simpa using h2.1.1)
    subst hz
    have hfo:P.fieldsOf t=#[]:=by unfold Program.fieldsOf;rw [hfs]
    rw [run_equalIn_agg w d t _ _ (by rw [hfo];exact hfs) h2.1.2,hfo]
    simp [Op.eqFields,aQ]
   ·cases h2
  ·intro fs off d x y xs ys h hd hx hy
   cases fs with
   | nil=>simp [Op.eqFields,aQ]
   | cons _ _=>simp [dV] at h
 | .pair a b,hp=>by
  simp only [Ty.plain,Bool.and_eq_true] at hp
  obtain ⟨XZ,Ya,Zr⟩:=Cj w a hp.1
  obtain ⟨Zt,Zu,Yb⟩:=Cj w b hp.2
  have fields:∀ (f:Field) (fs:List Field) (off d:Nat) (x y:(Ty.pair a b).den) (xs ys:Array Value),f.offset=off->f.name ≠ "_" -> jU P a f.type=true->dV P b fs (off+a.sz)=true->(Ty.pair a b).ht<=d->
    xs.toList.drop off=aQ (.pair a b) x->ys.toList.drop off=aQ (.pair a b) y->(Op.eqFields d xs ys (f :: fs)).run P w=.ok (decide (aQ (.pair a b) x=aQ (.pair a b) y)) w:=by
   intro f fs off d x y xs ys ho hne hok hfs hd hx hy
   subst ho
   have hda:a.ht+1<=d:=Nat.le_trans (Nat.le_max_left _ _) hd
   have hdb:b.ht<=d:=Nat.le_trans (Nat.le_max_right _ _) hd
   obtain ⟨inf,desc,hi,hsz,hdesc,hagg⟩:=mG (lU hok)
   have hx1:xs.toList.drop f.offset=aQ a x.1++aQ b x.2:=hx
   have hy1:ys.toList.drop f.offset=aQ a y.1++aQ b y.2:=hy
   have lx:=pF x.1 hp.1
   have ly:=pF y.1 hp.1
   have hx2:xs.toList.drop (f.offset+a.sz)=aQ b x.2:=by rw [<- List.drop_drop,hx1,List.drop_left' lx]
   have hy2:ys.toList.drop (f.offset+a.sz)=aQ b y.2:=by rw [<- List.drop_drop,hy1,List.drop_left' ly]
   have rest:=Yb fs (f.offset+a.sz) d x.2 y.2 xs ys hfs hdb hx2 hy2
   have head:(part f.type xs f.offset >>= fun v=>part f.type ys f.offset >>= fun u=>Op.equalIn d f.type v u:Sem Bool).run P w=.ok (decide (aQ a x.1=aQ a y.1)) w:=by
    cases ha:a.isAgg with
    | true=>
     rw [ha] at hagg
     have ex:xs.extract f.offset (f.offset+inf.size)=(aQ a x.1).toArray:=by
      apply Array.ext'
      rw [Array.toList_extract,List.extract_eq_take_drop,hx1,hsz,Nat.add_sub_cancel_left,List.take_left' lx]
     have ey:ys.extract f.offset (f.offset+inf.size)=(aQ a y.1).toArray:=by
      apply Array.ext'
      rw [Array.toList_extract,List.extract_eq_take_drop,hy1,hsz,Nat.add_sub_cancel_left,List.take_left' ly]
     simp only [Sem.run_bind,Km w hi hdesc hagg,Result.andThen_ok,ex,ey]
     exact XZ f.type d x.1 y.1 hok ha (by omega)
    | false=>
     rw [ha] at hagg
     have h1:a.sz=1:=by cases a <;> first | rfl | simp [Ty.isAgg] at ha
     obtain ⟨v,hv⟩:∃ v,aQ a x.1=[v]:=List.length_eq_one_iff.1 (by rw [lx,h1])
     obtain ⟨u,hu⟩:∃ u,aQ a y.1=[u]:=List.length_eq_one_iff.1 (by rw [ly,h1])
     have Tz:xs[f.offset]? = some v:=by
      have:=congrArg (·[0]?) hx1
      simp only [List.getElem?_drop,hv] at this
      simpa using this
     have Zv:ys[f.offset]? = some u:=by
      have:=congrArg (·[0]?) hy1
      simp only [List.getElem?_drop,hu] at this
      simpa using this
     simp only [Sem.run_bind,AO w hdesc hagg xs f.offset v Tz,AO w hdesc hagg ys f.offset u Zv,Result.andThen_ok]
     rw [Ya f.type d x.1 y.1 v u hok ha (by omega) hv hu,hv,hu]
     congr 1
     simp
   have hdec:decide (aQ (.pair a b) x=aQ (.pair a b) y)=(decide (aQ a x.1=aQ a y.1) && decide (aQ b x.2=aQ b y.2)):=Ih (by rw [lx,ly])
   rw [hdec]
   unfold Op.eqFields
   rw [if_pos hne]
   simp only [Sem.run_bind] at head ⊢
   cases hpx:(part f.type xs f.offset).run P w with
   | halt _ _=>rw [hpx] at head;cases head
   | ok v w1=>
    rw [hpx] at head
    simp only [Result.andThen_ok] at head ⊢
    cases hpy:(part f.type ys f.offset).run P w1 with
    | halt _ _=>rw [hpy] at head;cases head
    | ok u w2=>
     rw [hpy] at head
     simp only [Result.andThen_ok] at head ⊢
     rw [head]
     simp only [Result.andThen_ok]
     by_cases h:aQ a x.1=aQ a y.1
     ·simp only [h,decide_true,Bool.not_true,Bool.false_eq_true,if_false,Bool.true_and]
      exact rest
     ·simp only [h,decide_false,Bool.not_false,if_true,Bool.false_and,Sem.run_pure]
  refine ⟨fun t d x y hok _ hd=>?_,fun _ _ _ _ _ _ _ h=>by simp [Ty.isAgg] at h,fun fs off d x y xs ys h hd hx hy=>?_⟩
  ·obtain ⟨d,rfl⟩:∃ e,d=e+1:=⟨d - 1,by omega⟩
   simp only [jU,Bool.and_eq_true] at hok
   have h2:=hok.2
   split at h2
   ·rename_i fs hfs
    simp only [Bool.and_eq_true,Bool.not_eq_true'] at h2
    obtain ⟨⟨h3,h4⟩,_⟩:=h2
    have hfo:P.fieldsOf t=fs:=by unfold Program.fieldsOf;rw [hfs]
    rw [run_equalIn_agg w d t _ _ (by rw [hfo];exact hfs) h4,hfo]
    split at h3
    ·rename_i f r hl
     simp only [Bool.and_eq_true,beq_iff_eq,bne_iff_ne,ne_eq] at h3
     obtain ⟨⟨⟨h5,h6⟩,h7⟩,h8⟩:=h3
     rw [hl]
     refine fields f r 0 d x y _ _ h5 h6 h7 (by rw [Nat.zero_add];exact h8) (by omega) (by simp) (by simp)
    ·cases h3
   ·cases h2
  ·cases fs with
   | nil=>simp [dV] at h
   | cons f fs=>
    simp only [dV,Bool.and_eq_true,beq_iff_eq,bne_iff_ne,ne_eq] at h
    obtain ⟨⟨⟨h5,h6⟩,h7⟩,h8⟩:=h
    exact fields f fs off d x y xs ys h5 h6 h7 h8 hd hx hy
end Go.Flat
