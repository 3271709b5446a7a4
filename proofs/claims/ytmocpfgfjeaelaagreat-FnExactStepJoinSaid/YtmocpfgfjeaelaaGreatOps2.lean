/- Operations that read memory, compare, cut. No condition. -/
import Derived.Test.YtmocpfgfjeaelaaGreatOps1
import Derived.Laws.BytesString
import Derived.Laws.Strings
set_option linter.unusedVariables false
set_option linter.unusedSimpArgs false
namespace Go.Flat
theorem yB {α:Type} {l:List α} {i:Nat} {d:α} (h:i<l.length):l[i]? = some (l.getD i d):=by
 simp [List.getD,List.getElem?_eq_getElem h]
theorem nL:∀ t:Ty,(jq t).length=t.sz
 | .bool=>rfl
 | .int _=>rfl
 | .str=>rfl
 | .unit=>rfl
 | .list _=>rfl
 | .aG _=>rfl
 | .pair a b=>by simp [jq,Ty.sz,nL a,nL b]
theorem zL (id i:Nat) (p:Bool):∀ (t:Ty) (x:t.den) (o:Nat),(cellsD id i p t x o).length=t.sz
 | .bool,_,_=>rfl
 | .int _,_,_=>rfl
 | .str,_,_=>rfl
 | .unit,_,_=>rfl
 | .list _,_,_=>rfl
 | .aG _,_,_=>rfl
 | .pair a b,x,o=>by simp [cellsD,Ty.sz,zL id i p a,zL id i p b]
theorem Cc {M:Mem} {G:Nat->Prop} {h:Array Obj} {id i:Nat} {n:Option Nat} {T:Ty} {l:List T.den} (hs:M.aj id=some (.deep T l n)) (hi:i<l.length):∀ {t:Ty} {x:t.den} {es:List Value} {qs:List (Option Pl)} (o:Nat),aW true G h t x es qs->
  (∀ off:Nat,(jq t)[off]? = some true->(jq T)[o+off]? = some true)->(∀ k,n=some k->∀ (off:Nat) v,(jq t)[off]? = some true->es[off]? = some v->v=M.inn k i (o+off))->ay M (cellsD id i n.isSome t x o) es
 | .bool,x,es,qs,o,H,_,_=>by
  obtain ⟨_,rfl⟩:=H
  exact kC (M:=M) true (t:=.bool) (x:=x) rfl
 | .int k,x,es,qs,o,H,_,_=>by
  obtain ⟨_,rfl⟩:=H
  exact kC (M:=M) true (t:=.int k) (x:=x) rfl
 | .str,x,es,qs,o,H,_,_=>by
  obtain ⟨_,rfl⟩:=H
  exact kC (M:=M) true (t:=.str) (x:=x) rfl
 | .unit,x,es,qs,o,H,_,_=>by
  obtain ⟨_,rfl⟩:=H
  exact ay.nil
 | .list t,x,es,qs,o,H,hf,hv=>by
  simp only [aW,if_true] at H
  obtain ⟨v,π,rfl,rfl,h1,h2,h3⟩:=H
  have hone:one v=true:=by
   cases π with
   | none=>rw [h1.2];rfl
   | some p=>obtain ⟨_,_,hv,_⟩:=h1;rw [hv];rfl
  cases n with
  | none=>exact ay.jD (c:=.undef) trivial hone ay.nil
  | some k=>
   refine ay.jD (c:=.inn id i o) ⟨T,l,k,hs,hi, ?_, ?_,hone⟩ hone ay.nil
   ·simpa using hf 0 rfl
   ·simpa using hv k rfl 0 v rfl rfl
 | .aG t,x,es,qs,o,H,_,_=>by
  rw [fC] at H
  obtain ⟨v,π,rfl,rfl,h1,h2⟩:=H
  have hone:one v=true:=by
   cases π with
   | none=>rw [h1.2];rfl
   | some p=>obtain ⟨_,_,hv,_⟩:=h1;rw [hv];rfl
  exact ay.jD (c:=.undef) trivial hone ay.nil
 | .pair a b,x,es,qs,o,H,hf,hv=>by
  obtain ⟨c,d,p,q,rfl,rfl,h3,h4⟩:=H
  have hla:=nL a
  have hlc:=h3.len
  refine (Cc hs hi o h3 (fun off ho=>hf off ?_) (fun k hk off v ho hvv=>hv k hk off v ?_ ?_)).append (Cc hs hi (o+a.sz) h4 (fun off ho=>?_) (fun k hk off v ho hvv=>?_))
  ·simp only [jq];rw [List.getElem?_append_left (List.getElem?_eq_some_iff.1 ho).1];exact ho
  ·simp only [jq];rw [List.getElem?_append_left (List.getElem?_eq_some_iff.1 ho).1];exact ho
  ·rw [List.getElem?_append_left (List.getElem?_eq_some_iff.1 hvv).1];exact hvv
  ·have:=hf (a.sz+off) (by simp only [jq];rw [List.getElem?_append_right (by omega),hla,Nat.add_sub_cancel_left];exact ho)
   rwa [<- Nat.add_assoc] at this
  ·have:=hv k hk (a.sz+off) v (by simp only [jq];rw [List.getElem?_append_right (by omega),hla,Nat.add_sub_cancel_left];exact ho) (by rw [List.getElem?_append_right (by omega),hlc,Nat.add_sub_cancel_left];exact hvv)
   rwa [<- Nat.add_assoc] at this
theorem Fz {R:Type} {ah:FuncId->(t:Ty)->List Arg->Option t.den} {F0:jo} {G:Nat->Prop} {s:St} {a:Act} {w:World} {pl:Nat->Option Pl} {κ:av->Option R} {r:R}
  (i:Inv F0 G s a w pl) {n:Nat} {agg:Bool} (h1:agg=false->n=1) {p:Cell} {v:Value} (hp:bO (mem F0 G w.heap s.aj pl) p v)
  (h:(s.gu n agg p).run ah κ=some r) :
  ∃ b o es u c,v=.pointer (some ⟨b,o,none⟩)/\(∀ j x,es[j]? = some x->hcell w.heap b (o+j)=some x)/\es.length=n/\jO agg es u /\
   dG (mem F0 G w.heap s.aj pl) c u/\κ c=some r:=by
 have fin:∀ {b o off:Nat} {cs:List Cell} {vs:List Value},v=.pointer (some ⟨b,o+off,none⟩)->ay (mem F0 G w.heap s.aj pl) cs vs->off+n<=cs.length->
   (∀ j x,vs[j]? = some x->hcell w.heap b (o+j)=some x)->κ (aP agg ((cs.drop off).take n))=some r->
   ∃ b o es u c,v=.pointer (some ⟨b,o,none⟩)/\(∀ j x,es[j]? = some x->hcell w.heap b (o+j)=some x)/\es.length=n/\jO agg es u /\
   dG (mem F0 G w.heap s.aj pl) c u/\κ c=some r:=by
  intro b o off cs vs hv hc hle hcell hk
  have hle':off+n<=vs.length:=by rw [hc.1];exact hle
  obtain ⟨u,hu⟩:=jO.take (agg:=agg) hle' h1
  refine ⟨b,o+off,(vs.drop off).take n,u,_,hv,fun j x hj=>?_,by simp;omega,hu,je ((hc.drop off).take n) hu,hk⟩
  rw [List.getElem?_take] at hj
  split at hj
  ·rw [List.getElem?_drop] at hj
   rw [Nat.add_assoc]
   exact hcell _ _ hj
  ·cases hj
 cases p <;> simp only [St.gu] at h <;> try (simp at h;done)
 case ptr id off=>
  obtain ⟨t,cs,p,hs,hpl,ho,hv⟩:=hp
  obtain ⟨p',c,e,fz,hpl',ho',hh,hfz,hsz,hcs,hty,hrel,hF⟩:=i.aj.ent id _ hs
  simp only [show s.aj id=some (.box t cs) from hs] at h
  obtain rfl:p=p':=Option.some.inj (hpl.symm.trans hpl')
  split at h
  ·rename_i hle
   refine fin (b:=p.b) (o:=0) (off:=off) (by rw [Nat.zero_add];exact hv) hrel hle (fun j x hj=>?_) h
   unfold hcell
   rw [show w.heap[p.b]? = _ from hh]
   simpa using hj
  ·simp at h
 case ko id ix off=>
  obtain ⟨t,l,o,p,hs,hix,hpl,hv⟩:=hp
  obtain ⟨harr,_⟩:=i.aj.ent id _ hs
  simp only [show s.aj id=some (.arr t l o) from hs] at h
  rw [show (mem F0 G w.heap s.aj pl).pl id=some p from hpl] at harr
  obtain ⟨c,e,fz,hh,hfz,hsz,hlen,hx⟩:=harr
  split at h
  ·rename_i hle
   obtain ⟨es,hes,hj⟩:=hx ix _ (yB (d:=t.dflt) hix)
   refine fin (b:=p.b) (o:=p.o+ix*t.sz) (off:=off) hv (kC true hes) (by rw [su];exact hle) (fun j x Wl=>?_) h
   unfold hcell
   rw [show w.heap[p.b]? = _ from hh]
   exact hj j x Wl
  ·simp at h
 case kJ id ix off=>
  obtain ⟨t,l,n',p,hs,hix,hpl,hv⟩:=hp
  obtain ⟨hd,hrest⟩:=i.aj.ent id _ hs
  simp only [show s.aj id=some (.deep t l n') from hs] at h
  have hpl:pl id=some p:=hpl
  rw [show (mem F0 G w.heap s.aj pl).pl id=some p from hpl] at hd
  obtain ⟨c,e,fz,hh,hfz,hsz,hlen,k5,k6,k7,k8⟩:=hd
  have JY:=(hrest p hpl).2
  split at h
  ·rename_i hle
   obtain ⟨es,hes,hj⟩:=k8 ix _ _ (yB (d:=t.dflt) hix) (List.getElem?_eq_getElem (by omega:ix<p.inn.length))
   have hcell:∀ j x,es[j]? = some x->hcell w.heap p.b (p.o+ix*t.sz+j)=some x:=fun j x Wl=>by
    unfold hcell
    rw [show w.heap[p.b]? = _ from hh]
    exact hj j x Wl
   refine fin (b:=p.b) (o:=p.o+ix*t.sz) (off:=off) hv (Cc (M:=mem F0 G w.heap s.aj pl) hs hix 0 hes (fun off ho=>by simpa using ho) (fun k hk o' v' hf hv'=>?_)) (by rw [zL];exact hle) hcell h
   have h1:=JY k hk ix o' hix hf
   rw [show (mem F0 G w.heap s.aj pl).h=w.heap from rfl,hcell o' v' hv'] at h1
   rw [Nat.zero_add]
   exact Option.some.inj h1
  ·simp at h
 case nH fr t x off=>
  obtain ⟨b,o,es,hv,hb,hr,hj⟩:=hp
  split at h
  ·rename_i hle
   exact fin hv (kC fr hr) (by rw [su];exact hle) hj h
  ·simp at h
section
variable {C:aZ} {ah:FuncId->(t:Ty)->List Arg->Option t.den}
 {dst:Option Tmp} {type:TypeId} {pos:String} {after:Array Edge} {guard:Option (Nat × Bool)}
theorem Tm (good:Good C) (t:TypeId) (x:Operand) (htk:C.take dst t=false):kD C ah ⟨dst,.load t x,type,pos,after,guard⟩:=by
 intro R F0 G s a w pl κ r Q i ht h
 simp only [jT,htk,cond_false] at h
 have hx:=i.slot x
 split at h
 ·rename_i n agg p hsh hs
  rw [hs] at hx
  rw [T.run_bind] at h
  obtain ⟨b,o,es,u,c,hv,hc,hn,hu,hrel,hk⟩:=Fz i (fun e=>by subst e;exact aZ.yA hsh) hx h
  refine bM (v:=.one c) (u:=u) i ?_ hrel hk
  simp only [execOp,Sem.run_bind,hv,zK good hsh hc hn hu,Result.andThen_ok,Sem.run_pure]
 ·simp at h
theorem Lr (f:FuncId) (first captured:Array Operand):kD C ah ⟨dst,.makeFunc (.func f) first captured,type,pos,after,guard⟩:=by
 intro R F0 G s a w pl κ r Q i ht h
 simp only [jT] at h
 split at h
 ·rename_i hz
  split at h
  ·rename_i caps hc
   have UN:first=#[]:=Array.eq_empty_of_size_eq_zero hz
   subst UN
   have key:∀ (xs:List Operand) (caps:List Cap),(bg s xs).bind (·.mapM capOf)=some caps->
     (xs.map a.eval).length=caps.length/\∀ (j:Nat) (c:Cap) (u:Value),caps[j]? = some c->(xs.map a.eval)[j]? = some u->mU (mem F0 G w.heap s.aj pl) c u:=by
    intro xs
    induction xs with
    | nil=>
     intro caps hc
     simp [bg] at hc
     subst hc
     exact ⟨rfl,fun j c u hj=>by simp at hj⟩
    | cons x xs ih=>
     intro caps hc
     rw [Option.bind_eq_some_iff] at hc
     obtain ⟨cs,hcs,hm⟩:=hc
     simp only [bg] at hcs
     split at hcs
     ·rename_i c r hs hr
      simp at hcs
      subst hcs
      rw [List.mapM_cons] at hm
      simp only [Option.bind_eq_bind,Option.bind_eq_some_iff,Option.pure_def,Option.some.injEq] at hm
      obtain ⟨c',hc',wW,Ce,rfl⟩:=hm
      obtain ⟨hl,hrel⟩:=ih wW (by rw [hr];exact Ce)
      refine ⟨by simpa using hl,fun j c0 u hj hu=>?_⟩
      cases j with
      | succ j=>exact hrel j c0 u (by simpa using hj) (by simpa using hu)
      | zero=>
       simp at hj hu
       subst hj hu
       have hx:=i.slot x
       rw [hs] at hx
       unfold capOf at hc'
       split at hc'
       ·simp at hc'
        subst hc'
        obtain ⟨t,cs,p,h1,h2,h3,hv⟩:=hx
        exact ⟨t,cs,p,h1,h2,h3,hv⟩
       ·rename_i fr t y
        simp at hc'
        subst hc'
        obtain ⟨b,o,es,hv,hb,hr,hj⟩:=hx
        refine ⟨b,o,es,by rw [hv,Nat.add_zero],hb, ?_,hj⟩
        cases fr with
        | false=>exact hr
        | true=>exact Rd.move (fun _ h=>h) (fun _ _=>rfl) i.aj.gf (fun _ _=>rfl) hr
       ·cases hc'
     ·cases hcs
   obtain ⟨hl,hrel⟩:=key _ _ hc
   refine bM (v:=.cell (.qY f caps)) (u:=.func (.func f) #[] (captured.toList.map a.eval).toArray) i ?_ ⟨captured.toList.map a.eval,rfl,hl,hrel⟩ h
   simp [execOp,Instr.makeFunc]
   apply Array.ext'
   simp
  ·simp at h
 ·simp at h
theorem UO {R:Type} {F0:jo} {G:Nat->Prop} {s:St} {w:World} {pl:Nat->Option Pl} {κ:Int->Option R} {r:R}
  {c:Cell} {v:Value} {d:TypeDesc} (hc:bO (mem F0 G w.heap s.aj pl) c v) (h:(s.len d c).run ah κ=some r) :
  ∃ n:Nat,κ n=some r/\(((∃ e,d=.slice e)/\∃ a cap,v=.slice a n cap)\/(d=.string/\∃ b,v=.string b/\b.size=n)):=by
 have sl:∀ {sz:Nat} {π:Option Pl} {off n:Nat} {v:Value},SliceAt sz π off n v->∃ a cap,v=.slice a n cap:=by
  intro sz π off n v hv
  cases π with
  | none=>obtain ⟨rfl,rfl⟩:=hv;exact ⟨none,0,rfl⟩
  | some p=>obtain ⟨x,cap,rfl,_⟩:=hv;exact ⟨some x,cap,rfl⟩
 cases d <;> cases c <;> simp only [St.len] at h <;> try (simp at h;done)
 case string.str b=>exact ⟨b.size,h,.inr ⟨rfl,b,hc,rfl⟩⟩
 case slice.nil=>exact ⟨0,h,.inl ⟨⟨_,rfl⟩,none,0,hc⟩⟩
 case slice.list fr t l=>
  obtain ⟨x,cap,hv,_⟩:=hc
  simp at hv
  exact ⟨l.length,h,.inl ⟨⟨_,rfl⟩,x,cap,hv⟩⟩
 case slice.ref id=>
  obtain ⟨t,l,o,hs,hv⟩:=hc
  simp only [show s.aj id=some (.arr t l o) from hs] at h
  obtain ⟨x,cap,rfl⟩:=sl hv
  exact ⟨l.length,h,.inl ⟨⟨_,rfl⟩,x,cap,rfl⟩⟩
 case slice.sub id off n=>
  obtain ⟨t,l,o,hs,hle,hv⟩:=hc
  obtain ⟨x,cap,rfl⟩:=sl hv
  exact ⟨n,h,.inl ⟨⟨_,rfl⟩,x,cap,rfl⟩⟩
 case slice.fE id=>
  obtain ⟨t,l,o,hs,hv⟩:=hc
  simp only [show s.aj id=some (.deep t l o) from hs] at h
  obtain ⟨x,cap,rfl⟩:=sl hv
  exact ⟨l.length,h,.inl ⟨⟨_,rfl⟩,x,cap,rfl⟩⟩
theorem UQ (args:Array Operand) (argTypes:Array TypeId):kD C ah ⟨dst,.call ⟨.builtin .len,args,argTypes⟩,type,pos,after,guard⟩:=by
 intro R F0 G s a w pl κ r Q i ht h
 simp only [jT] at h
 split at h
 ·rename_i x d hargs hd
  split at h
  ·rename_i c hs
   have hx:=i.slot x
   rw [hs] at hx
   rw [T.run_bind] at h
   obtain ⟨n,hk,hv⟩:=UO hx h
   rw [Option.bind_eq_some_iff] at hd
   obtain ⟨t,ht,hd⟩:=hd
   have hargs':args=#[x]:=by apply Array.ext';simpa using hargs
   subst hargs'
   refine bM (v:=.cell (.int .i64 n)) (u:=.int .i64 n) i ?_ rfl hk
   simp only [execOp,resolve,Sem.run_bind,invoke,builtin,Sem.run_pure,Result.andThen_ok,List.map_toArray,List.map_cons,List.map_nil,Builtin.len_,ht]
   rcases hv with ⟨⟨e,rfl⟩,b,cap,hv⟩ | ⟨rfl,b,hv,hb⟩
   ·simp [run_underlying hd,hv,goInt]
   ·simp [run_underlying hd,hv,goInt,hb]
  ·simp at h
 ·simp at h
theorem FB {R:Type} {F0:jo} {G:Nat->Prop} {s:St} {a:Act} {w:World} {pl:Nat->Option Pl} {κ:IntKind × Int->Option R} {r:R}
  (i:Inv F0 G s a w pl) {x:Operand} (h:(s.int x).run ah κ=some r):∃ k n,a.eval x=.int k n/\κ (k,n)=some r:=by
 unfold St.int at h
 have hx:=i.slot x
 split at h
 ·rename_i k n hs
  rw [hs] at hx
  exact ⟨k,n,hx,h⟩
 ·simp at h
theorem yC {R:Type} {F0:jo} {G:Nat->Prop} {s:St} {a:Act} {w:World} {pl:Nat->Option Pl} {κ:Option Int->Option R} {r:R}
  (i:Inv F0 G s a w pl) {x:Option Operand} (h:(oI s x).run ah κ=some r) :
  ∃ o:Option Int,κ o=some r/\((x=none/\o=none)\/∃ y k n,x=some y/\o=some n/\a.eval y=.int k n):=by
 cases x with
 | none=>exact ⟨none,h,.inl ⟨rfl,rfl⟩⟩
 | some y=>
  simp only [oI,T.run_bind] at h
  obtain ⟨k,n,hv,hk⟩:=FB i h
  exact ⟨some n,hk,.inr ⟨y,k,n,rfl,rfl,hv⟩⟩
theorem uj {R:Type} {P:Program} {a:Act} {n:Nat} {lo hi:Option Int} {x y:Option Operand} {κ:Int × Int->Option R} {r:R} (isSlice:Bool) {w:World}
  (hlo:(x=none/\lo=none)\/∃ z k m,x=some z/\lo=some m/\a.eval z=.int k m) (hhi:(y=none/\hi=none)\/∃ z k m,y=some z/\hi=some m/\a.eval z=.int k m)
  (h:(bounds n lo hi).run ah κ=some r) :
  ∃ l e:Nat,l<=e/\e<=n/\κ (l,e)=some r/\∀ cap,n<=cap->(Instr.sliceBounds isSlice n cap (x.map a.eval) (y.map a.eval) none).run P w=.ok (l,e,cap) w:=by
 have key:∀ {e:Nat},e<=n->(bounds.low lo e).run ah κ=some r->∃ l:Nat,l<=e/\κ (l,e)=some r /\
   ((x=none/\l=0)\/∃ z k,x=some z/\a.eval z=.int k l):=by
  intro e he h
  rcases hlo with ⟨rfl,rfl⟩ | ⟨z,k,m,rfl,rfl,hv⟩
  ·exact ⟨0,by omega,h,.inl ⟨rfl,rfl⟩⟩
  ·simp only [bounds.low] at h
   obtain ⟨h0,h⟩:=T.eF ah h
   obtain ⟨h1,h⟩:=T.eF ah h
   obtain ⟨l,rfl⟩:=Int.eq_ofNat_of_zero_le h0
   exact ⟨l,by omega,h,.inr ⟨z,k,rfl,hv⟩⟩
 unfold bounds at h
 rcases hhi with ⟨rfl,rfl⟩ | ⟨z,k,m,rfl,rfl,hv⟩
 ·obtain ⟨l,hl,hk,hx⟩:=key (Nat.le_refl _) h
  refine ⟨l,n,hl,Nat.le_refl _,hk,fun cap hn=>?_⟩
  rcases hx with ⟨rfl,rfl⟩ | ⟨z,k,rfl,hv⟩
  ·simp [Instr.sliceBounds]
  ·simp [Instr.sliceBounds,Instr.sliceBound,hv,asIntOf,hl]
 ·obtain ⟨h0,h⟩:=T.eF ah h
  obtain ⟨h1,h⟩:=T.eF ah h
  obtain ⟨e,rfl⟩:=Int.eq_ofNat_of_zero_le h0
  obtain ⟨l,hl,hk,hx⟩:=key (by omega) h
  refine ⟨l,e,hl,by omega,hk,fun cap hn=>?_⟩
  have h2:e<=cap:=by omega
  rcases hx with ⟨rfl,rfl⟩ | ⟨z,k,rfl,hv'⟩
  ·cases isSlice <;> simp [Instr.sliceBounds,Instr.sliceBound,hv,asIntOf,h2]
  ·cases isSlice <;> simp [Instr.sliceBounds,Instr.sliceBound,hv,hv',asIntOf,h2,hl]
theorem aZ.qW {C:aZ} {t e:TypeId} {u:Ty} (h:C.elem t=some (e,u)):C.P.underlying t=some (.slice e)/\C.ty e=some u:=by
 unfold aZ.elem at h
 split at h
 ·rename_i e' he
  rw [Option.map_eq_some_iff] at h
  obtain ⟨u',hu,hx⟩:=h
  simp at hx
  obtain ⟨rfl,rfl⟩:=hx
  exact ⟨he,hu⟩
 ·cases h
theorem Good.size {C:aZ} (good:Good C) {t:TypeId} {u:Ty} (h:C.ty t=some u):∃ i,C.P.info? t=some i/\i.size=u.sz:=by
 obtain ⟨i,d,hi,hs,_⟩:=mG (lU (good.ty h).1)
 exact ⟨i,hi,hs⟩
theorem run_indexAt {P:Program} {t e:TypeId} {i:TypeInfo} (ht:P.underlying t=some (.slice e)) (hi:P.info? e=some i) {b:Addr} {n cap:Nat} {k:IntKind} {x:Int} {w:World} (h0:0<=x) (h1:x<n) :
  (Instr.indexAt t (.slice (some b) n cap) (.int k x)).run P w=.ok (.pointer (some (b.add (x.toNat*i.size)))) w:=by
 have h2:0<=x/\x<n:=⟨h0,h1⟩
 simp [Instr.indexAt,asIntOf,run_underlying ht,h2,run_sizeOf hi]
theorem JZ (good:Good C) (t:TypeId) (x ix:Operand):kD C ah ⟨dst,.indexAddr t x ix,type,pos,after,guard⟩:=by
 intro R F0 G s a w pl κ r Q i ht h
 simp only [jT,T.run_bind] at h
 obtain ⟨k,n,hn,h⟩:=FB i h
 have hx:=i.slot x
 split at h
 ·rename_i e u c he hs
  rw [hs] at hx
  rw [T.run_bind] at h
  obtain ⟨ht,hu⟩:=aZ.qW he
  obtain ⟨inf,hi,hsz⟩:=good.size hu
  have key:∀ {b o m cap:Nat},a.eval x=.slice (some ⟨b,o,none⟩) m cap->0<=n->n<(m:Int)->
    (execOp a.eval ⟨dst,.indexAddr t x ix,type,pos,after,guard⟩).run C.P w=.ok (.value (.pointer (some ⟨b,o+n.toNat*u.sz,none⟩))) w:=by
   intro b o m cap hv h0 h1
   simp only [execOp,Sem.run_bind,hv,hn,run_indexAt ht hi h0 h1,Result.andThen_ok,Sem.run_pure,pR,hsz]
  cases c <;> simp only [jG] at h <;> try (simp at h;done)
  case list fr t' l=>
   split at h
   ·rename_i htu
    subst htu
    obtain ⟨h0,h⟩:=T.eF ah h
    obtain ⟨h1,h⟩:=T.eF ah h
    obtain ⟨a',cap,hv,hl,hne⟩:=hx
    simp at hv
    have hlt:n.toNat<l.length:=by omega
    obtain ⟨b,o,rfl,hb,hc⟩:=hne (by intro e;subst e;simp at hlt)
    obtain ⟨es,hes,hj⟩:=hc n.toNat _ (yB (d:=t'.dflt) hlt)
    refine bM (v:=.cell (.nH true t' (rd t' l n) 0)) i (key hv h0 h1) ⟨b,o+n.toNat*t'.sz,es,by simp, ?_,hes,hj⟩ h
    cases fr with
    | false=>exact hb
    | true=>exact .inr hb
   ·simp at h
  case ref id=>
   obtain ⟨t',l,o,hst,hv⟩:=hx
   simp only [show s.aj id=some (.arr t' l o) from hst] at h
   split at h
   ·rename_i htu
    subst htu
    obtain ⟨h0,h⟩:=T.eF ah h
    obtain ⟨h1,h⟩:=T.eF ah h
    have hlt:n.toNat<l.length:=by omega
    cases hp:(mem F0 G w.heap s.aj pl).pl id with
    | none=>rw [hp] at hv;obtain ⟨hz,_⟩:=hv;omega
    | some p=>
     rw [hp] at hv
     obtain ⟨a',cap,hv,hle,ha,hroom⟩:=hv
     obtain rfl:=ha (by omega)
     exact bM (v:=.cell (.ko id n.toNat 0)) i (key hv h0 h1) ⟨t',l,o,p,hst,hlt,hp,by simp⟩ h
   ·simp at h
  case fE id=>
   obtain ⟨t',l,o,hst,hv⟩:=hx
   simp only [show s.aj id=some (.deep t' l o) from hst] at h
   split at h
   ·rename_i htu
    subst htu
    obtain ⟨h0,h⟩:=T.eF ah h
    obtain ⟨h1,h⟩:=T.eF ah h
    have hlt:n.toNat<l.length:=by omega
    cases hp:(mem F0 G w.heap s.aj pl).pl id with
    | none=>rw [hp] at hv;obtain ⟨hz,_⟩:=hv;omega
    | some p=>
     rw [hp] at hv
     obtain ⟨a',cap,hv,hle,ha,hroom⟩:=hv
     obtain rfl:=ha (by omega)
     exact bM (v:=.cell (.kJ id n.toNat 0)) i (key hv h0 h1) ⟨t',l,o,p,hst,hlt,hp,by simp⟩ h
   ·simp at h
  case sub id off m=>
   obtain ⟨t',l,o,hst,hle',hv⟩:=hx
   simp only [show s.aj id=some (.arr t' l o) from hst] at h
   split at h
   ·rename_i htu
    subst htu
    obtain ⟨h0,h⟩:=T.eF ah h
    obtain ⟨h1,h⟩:=T.eF ah h
    cases hp:(mem F0 G w.heap s.aj pl).pl id with
    | none=>rw [hp] at hv;obtain ⟨hz,_⟩:=hv;omega
    | some p=>
     rw [hp] at hv
     obtain ⟨a',cap,hv,hle,ha,hroom⟩:=hv
     obtain rfl:=ha (by omega)
     exact bM (v:=.cell (.ko id (off+n.toNat) 0)) i (key hv h0 h1) ⟨t',l,o,p,hst,by omega,hp,by simp [Nat.add_mul];omega⟩ h
   ·simp at h
 ·simp at h
theorem Rs (t:TypeId) (x ix:Operand):kD C ah ⟨dst,.index t x ix,type,pos,after,guard⟩:=by
 intro R F0 G s a w pl κ r Q i ht h
 simp only [jT,T.run_bind] at h
 obtain ⟨k,n,hn,h⟩:=FB i h
 have hx:=i.slot x
 split at h
 ·rename_i b hd hs
  rw [hs] at hx
  obtain ⟨h0,h⟩:=T.eF ah h
  obtain ⟨h1,h⟩:=T.eF ah h
  refine bM (v:=.cell (.int .u8 (bt b n))) (u:=.int .u8 (bt b n)) i ?_ rfl h
  have hlt:n.toNat<b.size:=by omega
  have hb:b[n.toNat]? = some b[n.toNat]:=by simp [hlt]
  simp only [execOp,Instr.index,Sem.run_bind,hn,asIntOf,Sem.run_pure,Result.andThen_ok,run_underlying hd,show a.eval x=.string b from hx,if_pos h0]
  rw [hb]
  simp only [Sem.run_pure,Result.andThen_ok,bt]
  congr 3
  simp only [Array.getD_eq_getD_getElem?]
  rw [show b.data[n.toNat]? = some b.data[n.toNat] from Array.getElem?_eq_getElem hlt]
  rfl
 ·simp at h
theorem ok_slice (good:Good C) (t:TypeId) (x:Operand) (lo hi:Option Operand):kD C ah ⟨dst,.slice t x lo hi none,type,pos,after,guard⟩:=by
 intro R F0 G s a w pl κ r Q i ht h
 simp only [jT] at h
 have hx:=i.slot x
 split at h
 ·rename_i b hd hs
  rw [hs] at hx
  rw [T.run_bind] at h
  obtain ⟨ol,h,hol⟩:=yC i h
  rw [T.run_bind] at h
  obtain ⟨oh,h,VL⟩:=yC i h
  simp only [T.run_bind,wQ] at h
  obtain ⟨l,e,h1,h2,hk,hrun⟩:=uj (P:=C.P) (w:=w) false hol VL h
  replace hrun:=hrun _ (Nat.le_refl _)
  refine bM (v:=.cell (.str (b.extract l e))) (u:=.string (b.extract l e)) i ?_ rfl (by simpa using hk)
  simp only [execOp,Instr.sliceAt,Instr.slice,Sem.run_bind,run_underlying hd,Result.andThen_ok,show a.eval x=.string b from hx,Option.map_none,Option.isSome_none,Bool.false_eq_true,if_false,hrun,Sem.run_pure]
 ·rename_i e c hd hs
  rw [hs] at hx
  split at h
  ·rename_i u hu
   rw [T.run_bind] at h
   obtain ⟨ol,h1,hol⟩:=yC i h
   clear h
   rw [T.run_bind] at h1
   obtain ⟨oh,h,VL⟩:=yC i h1
   clear h1
   rw [T.run_bind] at h
   obtain ⟨inf,Tn,hsz⟩:=good.size hu
   have key:∀ {A:Option Addr} {m cap l e':Nat},a.eval x=.slice A m cap->(Instr.sliceBounds true m cap (lo.map a.eval) (hi.map a.eval) none).run C.P w=.ok (l,e',cap) w->
     (execOp a.eval ⟨dst,.slice t x lo hi none,type,pos,after,guard⟩).run C.P w=.ok (.value (.slice (if cap=l then A else A.map (·.add (l*u.sz))) (e' - l) (cap - l))) w:=by
    intro A m cap l e' hv hrun
    simp only [execOp,Instr.sliceAt,Instr.slice,Sem.run_bind,run_underlying hd,Result.andThen_ok,hv,Option.map_none,hrun,Sem.run_pure,run_sizeOf Tn,hsz]
   have sub:∀ {t':Ty} {l:List t'.den} {o:Own} {id off n l1 e1:Nat},s.aj id=some (.arr t' l o)->t'=u->off+n<=l.length->l1<=e1->e1<=n->SliceAt t'.sz (pl id) off n (a.eval x)->
     (∀ cap,n<=cap->(Instr.sliceBounds true n cap (lo.map a.eval) (hi.map a.eval) none).run C.P w=.ok (l1,e1,cap) w)->
     (s.put dst (.cell (.sub id (off+l1) (e1 - l1)))).run ah κ=some r->Oper.wp C.P ⟨dst,.slice t x lo hi none,type,pos,after,guard⟩ a w (sS F0 G w κ r) Q:=by
    intro t' l o id off n l1 e1 hst htu hle h1 h2 hsl hrun hk
    subst htu
    cases hp:pl id with
    | none=>
     rw [hp] at hsl
     obtain ⟨rfl,hv⟩:=hsl
     obtain rfl:l1=0:=by omega
     obtain rfl:e1=0:=by omega
     refine bM (v:=.cell (.sub id (off+0) (0 - 0))) i (key hv (hrun 0 (Nat.le_refl _))) ⟨t',l,o,hst,by omega, ?_⟩ hk
     show SliceAt _ (pl id) _ _ _
     rw [hp]
     exact ⟨rfl,by simp⟩
    | some p=>
     rw [hp] at hsl
     obtain ⟨A,cap,hv,hnc,ha,hroom⟩:=hsl
     refine bM (v:=.cell (.sub id (off+l1) (e1 - l1))) i (key hv (hrun cap hnc)) ⟨t',l,o,hst,by omega, ?_⟩ hk
     show SliceAt _ (pl id) _ _ _
     rw [hp]
     refine ⟨if cap=l1 then A else A.add (l1*t'.sz),cap - l1,by split <;> rfl,by omega,fun hc=>?_, ?_⟩
     ·rw [if_neg (by omega),ha (by omega),pR,Nat.add_mul]
      congr 1
      omega
     ·have:off+l1+(cap - l1)=off+cap:=by omega
      rw [this];exact hroom
   cases c with
   | nil=>
    simp only [jg] at h
    rw [T.run_bind] at h
    obtain ⟨l1,e1,h1,h2,hk,hrun⟩:=uj (P:=C.P) (w:=w) (n:=0) true hol VL h
    replace hrun:=hrun 0 (Nat.le_refl _)
    obtain rfl:e1=0:=by omega
    obtain rfl:l1=0:=by omega
    refine bM (v:=.cell .nil) i (key hx hrun) ?_ hk
    rfl
   | list fr t' l=>
    simp only [jg] at h
    split at h
    ·rename_i htu
     subst htu
     rw [T.run_bind] at h
     obtain ⟨A,cap,hv,hl,hne⟩:=hx
     simp at hv
     obtain ⟨l1,e1,h1,h2,hk,hrun⟩:=uj (P:=C.P) (w:=w) (n:=l.length) true hol VL h
     replace hrun:=hrun cap hl
     simp only [Int.toNat_natCast,T.bK] at hk
     refine bM (v:=.cell (.list fr t' ((l.drop l1).take (e1 - l1)))) i (key hv hrun) ?_ hk
     have hlen:((l.drop l1).take (e1 - l1)).length=e1 - l1:=by simp;omega
     refine ⟨_,cap - l1,by rw [hlen],by rw [hlen];omega,fun hn=>?_⟩
     have hlt:l1<e1:=by
      rcases Nat.lt_or_ge l1 e1 with h | h
      ·exact h
      ·exact absurd (List.eq_nil_of_length_eq_zero (by rw [hlen];omega)) hn
     obtain ⟨b,o,rfl,hb,hc⟩:=hne (by intro e;subst e;simp at h2;omega)
     refine ⟨b,o+l1*t'.sz,by rw [if_neg (by omega)];simp [pR],hb,fun j y hj=>?_⟩
     rw [List.getElem?_take] at hj
     split at hj
     ·rw [List.getElem?_drop] at hj
      obtain ⟨es,hes,La⟩:=hc _ y hj
      refine ⟨es,hes,fun q v hq=>?_⟩
      have:=La q v hq
      rw [Nat.add_mul] at this
      rw [show o+l1*t'.sz+j*t'.sz+q=o+(l1*t'.sz+j*t'.sz)+q by omega]
      exact this
     ·cases hj
    ·simp at h
   | ref id=>
    simp only [jg] at h
    obtain ⟨t',l,o,hst,hv⟩:=hx
    simp only [show s.aj id=some (.arr t' l o) from hst] at h
    split at h
    ·rename_i htu
     rw [T.run_bind] at h
     obtain ⟨l1,e1,h1,h2,hk,hrun⟩:=uj (P:=C.P) (w:=w) (n:=l.length) true hol VL h
     simp only [Int.toNat_natCast,T.bK] at hk
     exact sub (off:=0) hst htu (by omega) h1 h2 hv hrun (by rw [Nat.zero_add];exact hk)
    ·simp at h
   | sub id off n=>
    simp only [jg] at h
    obtain ⟨t',l,o,hst,hle,hv⟩:=hx
    simp only [show s.aj id=some (.arr t' l o) from hst] at h
    split at h
    ·rename_i htu
     rw [T.run_bind] at h
     obtain ⟨l1,e1,h1,h2,hk,hrun⟩:=uj (P:=C.P) (w:=w) (n:=n) true hol VL h
     simp only [Int.toNat_natCast,T.bK] at hk
     exact sub hst htu hle h1 h2 hv hrun hk
    ·simp at h
   | _=>simp [jg] at h
  ·simp at h
 ·simp at h
end
end Go.Flat
