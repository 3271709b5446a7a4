/- The operations that leave memory. No condition. -/
import Derived.Test.YtmocpfgfjeaelaaGreatInv
import Derived.Laws.StructEq
import Derived.Laws.Cells
import Derived.Laws.Tables
set_option linter.unusedVariables false
set_option linter.unusedSimpArgs false
namespace Go.Flat
def vY:TypeDesc->Bool
 | .struct _ | .array _ _=>true
 | _=>false
def qy (P:Program) (t:TypeId) (n:Nat) (agg:Bool):Bool:=
 match P.info? t,P.underlying t with
 | some i,some d=>i.size == n && vY d == agg
 | _,_=>false
def jR:Ty->List Value
 | .bool=>[.bool false]
 | .int k=>[.int k 0]
 | .str=>[.string ByteArray.empty]
 | .list _=>[.slice none 0 0]
 | .bR _=>[.slice none 0 0]
 | .unit=>[]
 | .pair a b=>jR a++jR b
mutual
def lT (P:Program):Ty->TypeId->Bool
 | .bool,t=>qy P t 1 false && (match P.underlying t with | some .bool=>true | _=>false)
 | .int k,t=>qy P t 1 false && (match P.underlying t with | some (.int k')=>decide (k'=k) | _=>false)
 | .str,t=>qy P t 1 false && (match P.underlying t with | some .string=>true | _=>false)
 | .list a,t=>qy P t 1 false && (match P.underlying t with | some (.slice e)=>lT P a e | _=>false)
 | .bR a,t=>qy P t 1 false && (match P.underlying t with | some (.slice e)=>lT P a e | _=>false)
 | .unit,t=>qy P t 0 true && (match P.underlying t with | some (.struct fs)=>fs.size == 0 && !P.stoodInHeld t && !P.eqGuardType P.depth t | _=>false)
 | .pair a b,t=>qy P t (a.sz+b.sz) true && (match P.underlying t with | some (.struct fs)=>(match fs.toList with | f :: r=>f.offset == 0 && f.name != "_" && lT P a f.type && fG P b r a.sz | []=>false) && !P.stoodInHeld t && !P.eqGuardType P.depth t | _=>false)
def fG (P:Program):Ty->List Field->Nat->Bool
 | .unit,[],_=>true
 | .pair a b,f :: fs,off=>f.offset == off && f.name != "_" && lT P a f.type && fG P b fs (off+a.sz)
 | _,_,_=>false
end
def Vk:Value->Value->Bool
 | .bool a,.bool b=>a == b
 | .int k a,.int k' b=>decide (k=k') && decide (a=b)
 | .string a,.string b=>decide (a.data.toList=b.data.toList)
 | .slice none 0 0,.slice none 0 0=>true
 | _,_=>false
def EJ:List Value->List Value->Bool
 | [],[]=>true
 | x :: xs,y :: ys=>Vk x y && EJ xs ys
 | _,_=>false
theorem Vl {x y:Value} (h:Vk x y=true):x=y:=by
 unfold Vk at h
 split at h
 ·simpa using h
 ·simp at h;rw [h.1,h.2]
 ·rename_i a b
  simp at h
  obtain ⟨⟨x⟩⟩:=a
  obtain ⟨⟨y⟩⟩:=b
  simp at h
  rw [h]
 ·rfl
 ·cases h
theorem xZ:∀ {xs ys:List Value},EJ xs ys=true->xs=ys
 | [],[],_=>rfl
 | x :: xs,y :: ys,h=>by
  simp only [EJ,Bool.and_eq_true] at h
  rw [Vl h.1,xZ h.2]
 | [],_ :: _,h=>by simp [EJ] at h
 | _ :: _,[],h=>by simp [EJ] at h
def xH (P:Program) (t:TypeId) (T:Option Ty):Bool:=
 match (P.info? t).bind (·.zero),T with
 | some z,some T=>EJ z.cells.toList (jR T)
 | some z,none=>one z
 | none,_=>false
def IJ (P:Program):Nat × Option Ty->Bool
 | (t,some T)=>lT P T t && xH P t (some T)
 | (t,none)=>qy P t 1 false && xH P t none
structure Good (C:dh):Prop where
 rows:C.tt.all (IJ C.P)=true
 names:(C.P.funcs.all fun f=>f.name != "runtime.NumGoroutine")=true
 mixed:C.P.follows .mixedOrders=true
theorem LV {α:Type}:∀ {l:List (Nat × α)} {n:Nat} {v:α},assoc l n=some v->(n,v) ∈ l
 | (k,u) :: r,n,v,h=>by
  simp only [assoc] at h
  cases hb:Nat.beq k n with
  | true=>
   simp [hb] at h
   subst h
   rw [Nat.eq_of_beq_eq_true hb]
   exact List.mem_cons_self
  | false=>
   simp [hb] at h
   exact List.mem_cons_of_mem _ (LV h)
theorem oK {P:Program} {t:TypeId} {n:Nat} {agg:Bool} (h:qy P t n agg=true) :
  ∃ i d,P.info? t=some i/\i.size=n/\P.underlying t=some d/\vY d=agg:=by
 unfold qy at h
 split at h
 ·rename_i i d hi hd
  simp at h
  exact ⟨i,d,hi,h.1,hd,h.2⟩
 ·cases h
theorem nV {P:Program} {T:Ty} {t:TypeId} (h:lT P T t=true):qy P t T.sz T.isAgg=true:=by
 cases T <;> simp only [lT,Bool.and_eq_true] at h <;> exact h.1
section
variable {C:dh} (good:Good C)
include good
theorem Good.row {t:TypeId} {T:Option Ty} (h:assoc C.tt t=some T):IJ C.P (t,T)=true:=
 List.all_eq_true.1 good.rows _ (LV h)
theorem Good.ty {t:TypeId} {T:Ty} (h:C.ty t=some T):lT C.P T t=true/\xH C.P t (some T)=true:=by
 unfold dh.ty at h
 cases ha:assoc C.tt t with
 | none=>simp [ha] at h
 | some x=>
  simp [ha] at h
  subst h
  have:=good.row ha
  simpa [IJ] using this
theorem Good.shape {t:TypeId} {n:Nat} {agg:Bool} (h:C.shape t=some (n,agg)) :
  ∃ i d,C.P.info? t=some i/\i.size=n/\C.P.underlying t=some d/\vY d=agg:=by
 unfold dh.shape at h
 cases ha:assoc C.tt t with
 | none=>simp [ha] at h
 | some x=>
  have hr:=good.row ha
  cases x with
  | none=>
   simp [ha] at h
   obtain ⟨rfl,rfl⟩:=h
   simp only [IJ,Bool.and_eq_true] at hr
   exact oK hr.1
  | some T=>
   simp [ha] at h
   obtain ⟨rfl,rfl⟩:=h
   simp only [IJ,Bool.and_eq_true] at hr
   exact oK (nV hr.1)
end
theorem AX {P:Program} {t:TypeId} {d:TypeDesc} (h:P.underlying t=some d) (w:World):(isAgg t).run P w=.ok (vY d) w:=by
 unfold isAgg
 rw [Sem.run_bind,run_underlying h]
 cases d <;> rfl
theorem run_typeInfo {P:Program} {t:TypeId} {i:TypeInfo} (h:P.info? t=some i) (w:World):(typeInfo t).run P w=.ok i w:=by
 simp only [typeInfo,Sem.run_bind,run_program,Result.andThen_ok]
 rw [show P.info? t=some i from h]
 rfl
theorem run_sizeOf {P:Program} {t:TypeId} {i:TypeInfo} (h:P.info? t=some i) (w:World):(sizeOf t).run P w=.ok i.size w:=by
 simp only [sizeOf,Sem.run_bind,run_typeInfo h,Result.andThen_ok,Sem.run_pure]
theorem wC (b o n:Nat):(⟨b,o,none⟩:Addr).add n=⟨b,o+n,none⟩:=by
 unfold Addr.add
 split
 ·rename_i h;rw [h,Nat.add_zero]
 ·rfl
theorem IK {C:dh} (good:Good C) {t:TypeId} {n:Nat} {agg:Bool} (hs:C.shape t=some (n,agg)) {w:World} {b o:Nat} {es:List Value} {v:Value}
  (hc:∀ j u,es[j]? = some u->hcell w.heap b (o+j)=some u) (hn:es.length=n) (hv:ku agg es v) :
  (Instr.loadAt t (.pointer (some ⟨b,o,none⟩))).run C.P w=.ok v w:=by
 obtain ⟨i,d,hi,hsz,hd,hagg⟩:=good.shape hs
 unfold Instr.loadAt
 simp only [Instr.sureAddr,Sem.run_bind,Sem.run_pure,Result.andThen_ok]
 unfold loadVar
 rw [Sem.run_bind,AX hd,hagg]
 cases agg with
 | true=>
  have hl:=run_loadCells_list (P:=C.P) w ⟨b,o,none⟩ es (fun j u hu=>by rw [wC,mQ];exact hc j u hu)
  simp only [ku,if_true] at hv
  simp only [Result.andThen_ok,if_true,Sem.run_bind,run_sizeOf hi,hsz,<- hn,hl,Sem.run_pure,hv]
 | false=>
  simp [ku] at hv
  subst hv
  have h0:=hc 0 v rfl
  simp only [Result.andThen_ok,Bool.false_eq_true,if_false,run_load]
  rw [mQ]
  rw [Nat.add_zero] at h0
  rw [h0]
section
variable {R:Type} {C:dh} {ah:FuncId->(t:Ty)->List Arg->Option t.den} {F0:lS} {G:Nat->Prop} {s:St} {a:Act} {w:World} {pl:Nat->Option Pl} {κ:St->Option R} {r:R} {Q:Exit->Act->World->Prop}
 {dst:Option Tmp} {type:TypeId} {pos:String} {after:Array Edge} {guard:Option (Nat × Bool)}
def mM (C:dh) (ah:FuncId->(t:Ty)->List Arg->Option t.den) (o:Oper):Prop:=
 ∀ ⦃R:Type⦄ ⦃F0:lS⦄ ⦃G:Nat->Prop⦄ ⦃s:St⦄ ⦃a:Act⦄ ⦃w:World⦄ ⦃pl:Nat->Option Pl⦄ ⦃κ:St->Option R⦄ ⦃r:R⦄ ⦃Q:Exit->Act->World->Prop⦄,
  Inv F0 G s a w pl->wB C w F0->(mK C o s).run ah κ=some r->o.wp C.P a w (zJ F0 G w κ r) Q
theorem Xr (op:UnOp) (t:TypeId) (x:Operand):mM C ah ⟨dst,.unOp op t x,type,pos,after,guard⟩:=by
 intro R F0 G s a w pl κ r Q i ht h
 simp only [mK,St.comp,T.run_bind] at h
 have hx:=i.slot x
 cases hs:s.ev x with
 | Dm cs=>simp [hs] at h
 | one c=>
  simp only [hs,T.gK] at h
  rw [hs] at hx
  replace hx:eY _ c (a.eval x):=hx
  cases c with
  | agg cs=>cases op <;> simp [unOp] at h
  | cell c=>
   replace hx:fB _ c (a.eval x):=hx
   have key:∀ (c':Cell) (u:Value),(Op.unary op (a.eval x)).run C.P w=.ok u w->fB (mem F0 G w.heap s.ak pl) c' u->(s.put dst (.cell c')).run ah κ=some r->
     Oper.wp C.P ⟨dst,.unOp op t x,type,pos,after,guard⟩ a w (zJ F0 G w κ r) Q:=fun c' u h1 h2 h3=>
    dH (v:=.cell c') (u:=u) i (by simp only [execOp,Sem.run_bind,h1,Result.andThen_ok,Sem.run_pure]) h2 h3
   cases op <;> cases c <;> simp [unOp] at h
   case neg.int k n=>
    refine key (.int k (k.wrap (-n))) (.int k (k.wrap (-n))) ?_ rfl h
    rw [show a.eval x=.int k n from hx]
    simp [Op.unary,Op.intArith]
   case not.bool b=>
    refine key (.bool (!b)) (.bool (!b)) ?_ rfl h
    rw [show a.eval x=.bool b from hx]
    simp [Op.unary]
   case not.prop p d=>
    refine key _ (.bool (!@decide p d)) ?_ ?_ h
    ·rw [show a.eval x=.bool (@decide p d) from hx]
     simp [Op.unary]
    ·show Value.bool _=.bool _
     congr 1
     cases d with
     | isTrue h=>rfl
     | isFalse h=>rfl
theorem Xt (c x y:Operand):mM C ah ⟨dst,.pick c x y,type,pos,after,guard⟩:=by
 intro R F0 G s a w pl κ r Q i ht h
 simp only [mK] at h
 have hc:=i.slot c
 have hx:=i.slot x
 have hy:=i.slot y
 have key:∀ b:Bool,a.eval c=.bool b->(s.put dst (if b then s.ev x else s.ev y)).run ah κ=some r->Oper.wp C.P ⟨dst,.pick c x y,type,pos,after,guard⟩ a w (zJ F0 G w κ r) Q:=by
  intro b hb hk
  refine dH (v:=if b then s.ev x else s.ev y) (u:=if b then a.eval x else a.eval y) i ?_ ?_ hk
  ·simp [execOp,hb,asBool]
  ·cases b
   ·exact hy
   ·exact hx
 split at h
 ·rename_i hs;rw [hs] at hc;exact key true hc h
 ·rename_i hs;rw [hs] at hc;exact key false hc h
 ·rename_i p d hs
  rw [hs] at hc
  simp only [T.run] at h
  cases d with
  | isTrue hp=>exact key true hc h
  | isFalse hp=>exact key false hc h
 ·simp at h
theorem Rf (x:Operand) (ix:Nat):mM C ah ⟨dst,.extract x ix,type,pos,after,guard⟩:=by
 intro R F0 G s a w pl κ r Q i ht h
 simp only [mK] at h
 have hx:=i.slot x
 split at h
 ·rename_i cs hs
  rw [hs] at hx
  obtain ⟨vs,hv,hl,hc⟩:=hx
  split at h
  ·rename_i c hci
   have hlt:ix<vs.length:=by rw [hl];exact (List.getElem?_eq_some_iff.1 hci).1
   refine dH (v:=.one c) (u:=vs[ix]) i ?_ (hc ix c _ hci (by simp [hlt])) h
   simp [execOp,Instr.extract,hv,hlt]
  ·simp at h
 ·simp at h
theorem Ox (x:Operand):mM C ah ⟨dst,.nilCheck x,type,pos,after,guard⟩:=by
 intro R F0 G s a w pl κ r Q i ht h
 simp only [mK] at h
 have hx:=i.slot x
 split at h
 ·rename_i id off hs
  rw [hs] at hx
  obtain ⟨t,cs,p,h1,h2,h3,hv⟩:=hx
  refine dH (v:=.cell (.ptr id off)) (u:=a.eval x) i ?_ ⟨t,cs,p,h1,h2,h3,hv⟩ h
  simp [execOp,hv]
 ·rename_i id j off hs
  rw [hs] at hx
  obtain ⟨t,l,o,p,h1,h2,h3,hv⟩:=hx
  refine dH (v:=.cell (.mJ id j off)) (u:=a.eval x) i ?_ ⟨t,l,o,p,h1,h2,h3,hv⟩ h
  simp [execOp,hv]
 ·rename_i fr t y off hs
  rw [hs] at hx
  obtain ⟨b,o,es,hv,h1⟩:=hx
  refine dH (v:=.cell (.ru fr t y off)) (u:=a.eval x) i ?_ ⟨b,o,es,hv,h1⟩ h
  simp [execOp,hv]
 ·rename_i id j off hs
  rw [hs] at hx
  obtain ⟨t,l,o,p,h1,h2,h3,hv⟩:=hx
  refine dH (v:=.cell (.oI id j off)) (u:=a.eval x) i ?_ ⟨t,l,o,p,h1,h2,h3,hv⟩ h
  simp [execOp,hv]
 ·simp at h
theorem dh.yP {C:dh} {t:TypeId} {i off:Nat} {u:TypeId} (h:C.fieldAt t i=some (off,u)) :
  ∃ fs f,C.P.underlying t=some (.struct fs)/\fs[i]? = some f/\f.offset=off/\f.type=u:=by
 unfold dh.fieldAt at h
 split at h
 ·rename_i fs hfs
  rw [Option.map_eq_some_iff] at h
  obtain ⟨f,hf,he⟩:=h
  simp at he
  exact ⟨fs,f,hfs,hf,he.1,he.2⟩
 ·cases h
theorem Nf (good:Good C) (t:TypeId) (x:Operand) (ix:Nat):mM C ah ⟨dst,.fieldAddr t x ix,type,pos,after,guard⟩:=by
 intro R F0 G s a w pl κ r Q i ht h
 simp only [mK] at h
 have hx:=i.slot x
 have key:∀ {off b o:Nat},C.placeOf t ix=some off->a.eval x=.pointer (some ⟨b,o,none⟩)->
   (execOp a.eval ⟨dst,.fieldAddr t x ix,type,pos,after,guard⟩).run C.P w=.ok (.value (.pointer (some ⟨b,o+off,none⟩))) w:=by
  intro off b o hp hv
  unfold dh.placeOf at hp
  split at hp
  ·rename_i off' u hf
   split at hp
   ·rename_i n agg hsh
    obtain ⟨fs,f,hfs,hfi,ho,hu⟩:=dh.yP hf
    obtain ⟨inf,d,hi,hsz,hd,_⟩:=good.shape hsh
    simp at hp
    subst hp ho hu
    simp only [execOp,Instr.fieldAt,Sem.run_bind,run_underlying hfs,Result.andThen_ok,hfi,hv,Instr.sureAddr,Sem.run_pure,fieldPlace,run_sizeOf hi,hsz,Nat.add_one_ne_zero,if_false,wC]
   ·cases hp
  ·cases hp
 split at h
 ·rename_i off id o' hp hs
  rw [hs] at hx
  obtain ⟨t',cs,p,h1,h2,h3,hv⟩:=hx
  exact dH (v:=.cell (.ptr id (o'+off))) i (key hp hv) ⟨t',cs,p,h1,h2,h3,rfl⟩ h
 ·rename_i off id j o' hp hs
  rw [hs] at hx
  obtain ⟨t',l,o,p,h1,h2,h3,hv⟩:=hx
  exact dH (v:=.cell (.mJ id j (o'+off))) i (key hp hv) ⟨t',l,o,p,h1,h2,h3,by rw [Nat.add_assoc]⟩ h
 ·rename_i off fr u y o' hp hs
  rw [hs] at hx
  obtain ⟨b,o,es,hv,h1⟩:=hx
  exact dH (v:=.cell (.ru fr u y (o'+off))) i (key hp hv) ⟨b,o,es,by rw [Nat.add_assoc],h1⟩ h
 ·rename_i off id j o' hp hs
  rw [hs] at hx
  obtain ⟨t',l,o,p,h1,h2,h3,hv⟩:=hx
  exact dH (v:=.cell (.oI id j (o'+off))) i (key hp hv) ⟨t',l,o,p,h1,h2,h3,by rw [Nat.add_assoc]⟩ h
 ·simp at h
theorem ku.take {agg:Bool} {vs:List Value} {off n:Nat} (hl:off+n<=vs.length) (h1:agg=false->n=1) :
  ∃ v,ku agg ((vs.drop off).take n) v:=by
 cases agg with
 | true=>exact ⟨.agg ((vs.drop off).take n).toArray,by simp [ku]⟩
 | false=>
  obtain rfl:=h1 rfl
  refine ⟨vs[off]'(by omega), ?_⟩
  simp only [ku,Bool.false_eq_true,if_false]
  rw [List.take_one]
  simp only [List.head?_drop]
  rw [List.getElem?_eq_getElem (by omega)]
  rfl
theorem dh.AY {C:dh} {t:TypeId} {n:Nat} (h:C.shape t=some (n,false)):n=1:=by
 unfold dh.shape at h
 cases ha:assoc C.tt t with
 | none=>simp [ha] at h
 | some x=>
  cases x with
  | none=>simp [ha] at h;exact h.symm
  | some T=>
   simp [ha] at h
   obtain ⟨rfl,h⟩:=h
   cases T <;> first | rfl | simp [Ty.isAgg] at h
theorem Vm (good:Good C) (t:TypeId) (x:Operand) (ix:Nat):mM C ah ⟨dst,.field t x ix,type,pos,after,guard⟩:=by
 intro R F0 G s a w pl κ r Q i ht h
 simp only [mK] at h
 have hx:=i.slot x
 split at h
 ·rename_i off u cs hf hs
  rw [hs] at hx
  obtain ⟨vs,hv,hc⟩:=hx
  split at h
  ·rename_i n agg hsh
   split at h
   ·rename_i hle
    obtain ⟨fs,f,hfs,hfi,ho,hu⟩:=dh.yP hf
    obtain ⟨inf,d,hi,hsz,hd,hagg⟩:=good.shape hsh
    have hle':off+n<=vs.length:=by rw [hc.1];exact hle
    obtain ⟨v,Rh⟩:=ku.take (agg:=agg) hle' (fun e=>by subst e;exact dh.AY hsh)
    refine dH (v:=.one (bO agg ((cs.drop off).take n))) (u:=v) i ?_ (lD ((hc.drop off).take n) Rh) h
    subst ho hu
    simp only [execOp,Instr.field,Sem.run_bind,run_underlying hfs,Result.andThen_ok,hfi,hv,asAgg,Sem.run_pure,part,AX hd,hagg]
    cases agg with
    | true=>
     simp only [ku,if_true] at Rh
     simp only [if_true,Sem.run_bind,run_sizeOf hi,hsz,Result.andThen_ok,Sem.run_pure,Rh]
     congr 3
     apply Array.ext'
     simp [Array.toList_extract,List.extract_eq_take_drop]
    | false=>
     obtain rfl:=dh.AY hsh
     simp [ku] at Rh
     have hq:vs[f.offset]? = some v:=by
      rw [List.take_one] at Rh
      simp only [List.head?_drop] at Rh
      cases hq:vs[f.offset]? with
      | none=>simp [hq] at Rh
      | some z=>simp [hq] at Rh;rw [Rh]
     simp [hq]
   ·simp at h
  ·simp at h
 ·simp at h
end
end Go.Flat
