/- The operations that leave memory. No condition. -/
import Derived.Test.YtmocpfgfjeaelaaGreatInv
import Derived.Laws.StructEq
import Derived.Laws.Cells
import Derived.Laws.Tables
set_option linter.unusedVariables false
set_option linter.unusedSimpArgs false
namespace Go.Flat
def qV:TypeDesc->Bool
 | .struct _ | .array _ _=>true
 | _=>false
def nA (P:Program) (t:TypeId) (n:Nat) (agg:Bool):Bool:=
 match P.info? t,P.underlying t with
 | some i,some d=>i.size == n && qV d == agg
 | _,_=>false
def iN:Ty->List Value
 | .bool=>[.bool false]
 | .int k=>[.int k 0]
 | .str=>[.string ByteArray.empty]
 | .list _=>[.slice none 0 0]
 | .aG _=>[.slice none 0 0]
 | .unit=>[]
 | .pair a b=>iN a++iN b
mutual
def jU (P:Program):Ty->TypeId->Bool
 | .bool,t=>nA P t 1 false && (match P.underlying t with | some .bool=>true | _=>false)
 | .int k,t=>nA P t 1 false && (match P.underlying t with | some (.int k')=>decide (k'=k) | _=>false)
 | .str,t=>nA P t 1 false && (match P.underlying t with | some .string=>true | _=>false)
 | .list a,t=>nA P t 1 false && (match P.underlying t with | some (.slice e)=>jU P a e | _=>false)
 | .aG a,t=>nA P t 1 false && (match P.underlying t with | some (.slice e)=>jU P a e | _=>false)
 | .unit,t=>nA P t 0 true && (match P.underlying t with | some (.struct fs)=>fs.size == 0 && !P.stoodInHeld t && !P.eqGuardType P.depth t | _=>false)
 | .pair a b,t=>nA P t (a.sz+b.sz) true && (match P.underlying t with | some (.struct fs)=>(match fs.toList with | f :: r=>f.offset == 0 && f.name != "_" && jU P a f.type && dV P b r a.sz | []=>false) && !P.stoodInHeld t && !P.eqGuardType P.depth t | _=>false)
def dV (P:Program):Ty->List Field->Nat->Bool
 | .unit,[],_=>true
 | .pair a b,f :: fs,off=>f.offset == off && f.name != "_" && jU P a f.type && dV P b fs (off+a.sz)
 | _,_,_=>false
end
def Ro:Value->Value->Bool
 | .bool a,.bool b=>a == b
 | .int k a,.int k' b=>decide (k=k') && decide (a=b)
 | .string a,.string b=>decide (a.data.toList=b.data.toList)
 | .slice none 0 0,.slice none 0 0=>true
 | _,_=>false
def Cb:List Value->List Value->Bool
 | [],[]=>true
 | x :: xs,y :: ys=>Ro x y && Cb xs ys
 | _,_=>false
theorem Rp {x y:Value} (h:Ro x y=true):x=y:=by
 unfold Ro at h
 split at h
 ·simpa using h
 ·simp at h;rw [h.1,h.2]
 ·rename_i a b
  simp at h
  obtain ⟨⟨x⟩⟩:=a
  obtain ⟨⟨y⟩⟩:=b
  simp at h
  rw [h]
 ·rfl
 ·cases h
theorem uh:∀ {xs ys:List Value},Cb xs ys=true->xs=ys
 | [],[],_=>rfl
 | x :: xs,y :: ys,h=>by
  simp only [Cb,Bool.and_eq_true] at h
  rw [Rp h.1,uh h.2]
 | [],_ :: _,h=>by simp [Cb] at h
 | _ :: _,[],h=>by simp [Cb] at h
def sU (P:Program) (t:TypeId) (T:Option Ty):Bool:=
 match (P.info? t).bind (·.zero),T with
 | some z,some T=>Cb z.cells.toList (iN T)
 | some z,none=>one z
 | none,_=>false
def Fy (P:Program):Nat × Option Ty->Bool
 | (t,some T)=>jU P T t && sU P t (some T)
 | (t,none)=>nA P t 1 false && sU P t none
def UM (C:aZ) (f:FuncId):Prop:=∀ (fn:Func) (e:TypeId) (u:Ty),C.P.funcs[f]? = some fn->(fn.params.toList[0]?).bind C.elem=some (e,u)->fn.body.isSome=true /\
 ∀ (w:World) (π:Option Pl) (p2:Pl) (v y:Value) (olds news:List Value) (n i:Nat),SliceAt u.sz π 0 n v->SliceAt u.sz (some p2) 0 1 y->(∀ p,π=some p->p2.b ≠ p.b)->
  (∀ p,π=some p->∃ c ee fz,w.heap[p.b]? = some (.cells c ee fz)/\Free fz c.size/\c.size=p.size/\∀ (j:Nat) x,olds[j]? = some x->c[p.o+j]? = some x)->
  (∃ c ee fz,w.heap[p2.b]? = some (.cells c ee fz)/\∀ (j:Nat) x,news[j]? = some x->c[p2.o+j]? = some x)->
  olds.length=n*u.sz->news.length=u.sz->(∀ x ∈ olds,x.oneCell'=true)->(∀ x ∈ news,x.oneCell'=true)->i<=n->(n+1)*C.bytes e<=140737488355328->
  Calls C.P f #[v,.int .i64 i,y] w fun e0 w'=>∃ p v',e0=.returned v'/\SliceAt u.sz (some p) 0 (n+1) v' /\
   (∃ c ee fz,w'.heap[p.b]? = some (.cells c ee fz)/\Free fz c.size/\c.size=p.size/\p.o+(n+1)*u.sz<=p.size/\∀ (j:Nat) x,(olds.take (i*u.sz)++news++olds.drop (i*u.sz))[j]? = some x->c[p.o+j]? = some x) /\
   w.heap.size<=w'.heap.size/\Str C.mono w w'/\(∀ b,b<w.heap.size->(∀ p,π=some p->b ≠ p.b)->w'.heap[b]? = w.heap[b]?)/\((∃ q,π=some q/\p.b=q.b)\/w.heap.size<=p.b)/\p.b<w'.heap.size
structure Good (C:aZ):Prop where
 rows:C.tt.all (Fy C.P)=true
 names:(C.P.funcs.all fun f=>f.name != "runtime.NumGoroutine")=true
 mixed:C.P.follows .mixedOrders=true
 ins:∀ f,C.Le.contains f=true->UM C f:=by intro f h;exact absurd h (by simp)
theorem Jd {α:Type}:∀ {l:List (Nat × α)} {n:Nat} {v:α},assoc l n=some v->(n,v) ∈ l
 | (k,u) :: r,n,v,h=>by
  simp only [assoc] at h
  cases hb:Nat.beq k n with
  | true=>
   simp [hb] at h
   subst h
   rw [Nat.eq_of_beq_eq_true hb]
   exact List.mem_cons_self
  | false=>
   simp [hb] at h
   exact List.mem_cons_of_mem _ (Jd h)
theorem mG {P:Program} {t:TypeId} {n:Nat} {agg:Bool} (h:nA P t n agg=true) :
  ∃ i d,P.info? t=some i/\i.size=n/\P.underlying t=some d/\qV d=agg:=by
 unfold nA at h
 split at h
 ·rename_i i d hi hd
  simp at h
  exact ⟨i,d,hi,h.1,hd,h.2⟩
 ·cases h
theorem lU {P:Program} {T:Ty} {t:TypeId} (h:jU P T t=true):nA P t T.sz T.isAgg=true:=by
 cases T <;> simp only [jU,Bool.and_eq_true] at h <;> exact h.1
section
variable {C:aZ} (good:Good C)
include good
theorem Good.row {t:TypeId} {T:Option Ty} (h:assoc C.tt t=some T):Fy C.P (t,T)=true:=
 List.all_eq_true.1 good.rows _ (Jd h)
theorem Good.ty {t:TypeId} {T:Ty} (h:C.ty t=some T):jU C.P T t=true/\sU C.P t (some T)=true:=by
 unfold aZ.ty at h
 cases ha:assoc C.tt t with
 | none=>simp [ha] at h
 | some x=>
  simp [ha] at h
  subst h
  have:=good.row ha
  simpa [Fy] using this
theorem Good.shape {t:TypeId} {n:Nat} {agg:Bool} (h:C.shape t=some (n,agg)) :
  ∃ i d,C.P.info? t=some i/\i.size=n/\C.P.underlying t=some d/\qV d=agg:=by
 unfold aZ.shape at h
 cases ha:assoc C.tt t with
 | none=>simp [ha] at h
 | some x=>
  have hr:=good.row ha
  cases x with
  | none=>
   simp [ha] at h
   obtain ⟨rfl,rfl⟩:=h
   simp only [Fy,Bool.and_eq_true] at hr
   exact mG hr.1
  | some T=>
   simp [ha] at h
   obtain ⟨rfl,rfl⟩:=h
   simp only [Fy,Bool.and_eq_true] at hr
   exact mG (lU hr.1)
end
theorem yx {P:Program} {t:TypeId} {d:TypeDesc} (h:P.underlying t=some d) (w:World):(isAgg t).run P w=.ok (qV d) w:=by
 unfold isAgg
 rw [Sem.run_bind,run_underlying h]
 cases d <;> rfl
theorem run_typeInfo {P:Program} {t:TypeId} {i:TypeInfo} (h:P.info? t=some i) (w:World):(typeInfo t).run P w=.ok i w:=by
 simp only [typeInfo,Sem.run_bind,run_program,Result.andThen_ok]
 rw [show P.info? t=some i from h]
 rfl
theorem run_sizeOf {P:Program} {t:TypeId} {i:TypeInfo} (h:P.info? t=some i) (w:World):(sizeOf t).run P w=.ok i.size w:=by
 simp only [sizeOf,Sem.run_bind,run_typeInfo h,Result.andThen_ok,Sem.run_pure]
theorem pR (b o n:Nat):(⟨b,o,none⟩:Addr).add n=⟨b,o+n,none⟩:=by
 unfold Addr.add
 split
 ·rename_i h;rw [h,Nat.add_zero]
 ·rfl
theorem zK {C:aZ} (good:Good C) {t:TypeId} {n:Nat} {agg:Bool} (hs:C.shape t=some (n,agg)) {w:World} {b o:Nat} {es:List Value} {v:Value}
  (hc:∀ j u,es[j]? = some u->hcell w.heap b (o+j)=some u) (hn:es.length=n) (hv:jO agg es v) :
  (Instr.loadAt t (.pointer (some ⟨b,o,none⟩))).run C.P w=.ok v w:=by
 obtain ⟨i,d,hi,hsz,hd,hagg⟩:=good.shape hs
 unfold Instr.loadAt
 simp only [Instr.sureAddr,Sem.run_bind,Sem.run_pure,Result.andThen_ok]
 unfold loadVar
 rw [Sem.run_bind,yx hd,hagg]
 cases agg with
 | true=>
  have hl:=run_loadCells_list (P:=C.P) w ⟨b,o,none⟩ es (fun j u hu=>by rw [pR,pz];exact hc j u hu)
  simp only [jO,if_true] at hv
  simp only [Result.andThen_ok,if_true,Sem.run_bind,run_sizeOf hi,hsz,<- hn,hl,Sem.run_pure,hv]
 | false=>
  simp [jO] at hv
  subst hv
  have h0:=hc 0 v rfl
  simp only [Result.andThen_ok,Bool.false_eq_true,if_false,run_load]
  rw [pz]
  rw [Nat.add_zero] at h0
  rw [h0]
section
variable {R:Type} {C:aZ} {ah:FuncId->(t:Ty)->List Arg->Option t.den} {F0:jo} {G:Nat->Prop} {s:St} {a:Act} {w:World} {pl:Nat->Option Pl} {κ:St->Option R} {r:R} {Q:Exit->Act->World->Prop}
 {dst:Option Tmp} {type:TypeId} {pos:String} {after:Array Edge} {guard:Option (Nat × Bool)}
def kD (C:aZ) (ah:FuncId->(t:Ty)->List Arg->Option t.den) (o:Oper):Prop:=
 ∀ ⦃R:Type⦄ ⦃F0:jo⦄ ⦃G:Nat->Prop⦄ ⦃s:St⦄ ⦃a:Act⦄ ⦃w:World⦄ ⦃pl:Nat->Option Pl⦄ ⦃κ:St->Option R⦄ ⦃r:R⦄ ⦃Q:Exit->Act->World->Prop⦄,
  Inv F0 G s a w pl->qz C w F0->(jT C o s).run ah κ=some r->o.wp C.P a w (sS F0 G w κ r) Q
theorem Tj (op:UnOp) (t:TypeId) (x:Operand):kD C ah ⟨dst,.unOp op t x,type,pos,after,guard⟩:=by
 intro R F0 G s a w pl κ r Q i ht h
 simp only [jT,St.comp,T.run_bind] at h
 have hx:=i.slot x
 cases hs:s.ev x with
 | wN cs=>simp [hs] at h
 | one c=>
  simp only [hs,T.bK] at h
  rw [hs] at hx
  replace hx:dG _ c (a.eval x):=hx
  cases c with
  | agg cs=>cases op <;> simp [unOp] at h
  | cell c=>
   replace hx:bO _ c (a.eval x):=hx
   have key:∀ (c':Cell) (u:Value),(Op.unary op (a.eval x)).run C.P w=.ok u w->bO (mem F0 G w.heap s.aj pl) c' u->(s.put dst (.cell c')).run ah κ=some r->
     Oper.wp C.P ⟨dst,.unOp op t x,type,pos,after,guard⟩ a w (sS F0 G w κ r) Q:=fun c' u h1 h2 h3=>
    bM (v:=.cell c') (u:=u) i (by simp only [execOp,Sem.run_bind,h1,Result.andThen_ok,Sem.run_pure]) h2 h3
   cases op <;> cases c <;> simp [unOp] at h
   case neg.int k n=>
    refine key (.int k (k.wrap (-n))) (.int k (k.wrap (-n))) ?_ rfl h
    rw [show a.eval x=.int k n from hx]
    simp [Op.unary,Op.intArith]
   case not.bool b=>
    refine key (.bool (!b)) (.bool (!b)) ?_ rfl h
    rw [show a.eval x=.bool b from hx]
    simp [Op.unary]
   case not.prop p d=>
    refine key _ (.bool (!@decide p d)) ?_ ?_ h
    ·rw [show a.eval x=.bool (@decide p d) from hx]
     simp [Op.unary]
    ·show Value.bool _=.bool _
     congr 1
     cases d with
     | isTrue h=>rfl
     | isFalse h=>rfl
theorem Tk (c x y:Operand):kD C ah ⟨dst,.pick c x y,type,pos,after,guard⟩:=by
 intro R F0 G s a w pl κ r Q i ht h
 simp only [jT] at h
 have hc:=i.slot c
 have hx:=i.slot x
 have hy:=i.slot y
 have key:∀ b:Bool,a.eval c=.bool b->(s.put dst (if b then s.ev x else s.ev y)).run ah κ=some r->Oper.wp C.P ⟨dst,.pick c x y,type,pos,after,guard⟩ a w (sS F0 G w κ r) Q:=by
  intro b hb hk
  refine bM (v:=if b then s.ev x else s.ev y) (u:=if b then a.eval x else a.eval y) i ?_ ?_ hk
  ·simp [execOp,hb,asBool]
  ·cases b
   ·exact hy
   ·exact hx
 split at h
 ·rename_i hs;rw [hs] at hc;exact key true hc h
 ·rename_i hs;rw [hs] at hc;exact key false hc h
 ·rename_i p d hs
  rw [hs] at hc
  simp only [T.run] at h
  cases d with
  | isTrue hp=>exact key true hc h
  | isFalse hp=>exact key false hc h
 ·simp at h
theorem NG (x:Operand) (ix:Nat):kD C ah ⟨dst,.extract x ix,type,pos,after,guard⟩:=by
 intro R F0 G s a w pl κ r Q i ht h
 simp only [jT] at h
 have hx:=i.slot x
 split at h
 ·rename_i cs hs
  rw [hs] at hx
  obtain ⟨vs,hv,hl,hc⟩:=hx
  split at h
  ·rename_i c hci
   have hlt:ix<vs.length:=by rw [hl];exact (List.getElem?_eq_some_iff.1 hci).1
   refine bM (v:=.one c) (u:=vs[ix]) i ?_ (hc ix c _ hci (by simp [hlt])) h
   simp [execOp,Instr.extract,hv,hlt]
  ·simp at h
 ·simp at h
theorem Lp (x:Operand):kD C ah ⟨dst,.nilCheck x,type,pos,after,guard⟩:=by
 intro R F0 G s a w pl κ r Q i ht h
 simp only [jT] at h
 have hx:=i.slot x
 split at h
 ·rename_i id off hs
  rw [hs] at hx
  obtain ⟨t,cs,p,h1,h2,h3,hv⟩:=hx
  refine bM (v:=.cell (.ptr id off)) (u:=a.eval x) i ?_ ⟨t,cs,p,h1,h2,h3,hv⟩ h
  simp [execOp,hv]
 ·rename_i id j off hs
  rw [hs] at hx
  obtain ⟨t,l,o,p,h1,h2,h3,hv⟩:=hx
  refine bM (v:=.cell (.ko id j off)) (u:=a.eval x) i ?_ ⟨t,l,o,p,h1,h2,h3,hv⟩ h
  simp [execOp,hv]
 ·rename_i fr t y off hs
  rw [hs] at hx
  obtain ⟨b,o,es,hv,h1⟩:=hx
  refine bM (v:=.cell (.nH fr t y off)) (u:=a.eval x) i ?_ ⟨b,o,es,hv,h1⟩ h
  simp [execOp,hv]
 ·rename_i id j off hs
  rw [hs] at hx
  obtain ⟨t,l,o,p,h1,h2,h3,hv⟩:=hx
  refine bM (v:=.cell (.kJ id j off)) (u:=a.eval x) i ?_ ⟨t,l,o,p,h1,h2,h3,hv⟩ h
  simp [execOp,hv]
 ·simp at h
theorem aZ.uY {C:aZ} {t:TypeId} {i off:Nat} {u:TypeId} (h:C.fieldAt t i=some (off,u)) :
  ∃ fs f,C.P.underlying t=some (.struct fs)/\fs[i]? = some f/\f.offset=off/\f.type=u:=by
 unfold aZ.fieldAt at h
 split at h
 ·rename_i fs hfs
  rw [Option.map_eq_some_iff] at h
  obtain ⟨f,hf,he⟩:=h
  simp at he
  exact ⟨fs,f,hfs,hf,he.1,he.2⟩
 ·cases h
theorem JX (good:Good C) (t:TypeId) (x:Operand) (ix:Nat):kD C ah ⟨dst,.fieldAddr t x ix,type,pos,after,guard⟩:=by
 intro R F0 G s a w pl κ r Q i ht h
 simp only [jT] at h
 have hx:=i.slot x
 have key:∀ {off b o:Nat},C.placeOf t ix=some off->a.eval x=.pointer (some ⟨b,o,none⟩)->
   (execOp a.eval ⟨dst,.fieldAddr t x ix,type,pos,after,guard⟩).run C.P w=.ok (.value (.pointer (some ⟨b,o+off,none⟩))) w:=by
  intro off b o hp hv
  unfold aZ.placeOf at hp
  split at hp
  ·rename_i off' u hf
   split at hp
   ·rename_i n agg hsh
    obtain ⟨fs,f,hfs,hfi,ho,hu⟩:=aZ.uY hf
    obtain ⟨inf,d,hi,hsz,hd,_⟩:=good.shape hsh
    simp at hp
    subst hp ho hu
    simp only [execOp,Instr.fieldAt,Sem.run_bind,run_underlying hfs,Result.andThen_ok,hfi,hv,Instr.sureAddr,Sem.run_pure,fieldPlace,run_sizeOf hi,hsz,Nat.add_one_ne_zero,if_false,pR]
   ·cases hp
  ·cases hp
 split at h
 ·rename_i off id o' hp hs
  rw [hs] at hx
  obtain ⟨t',cs,p,h1,h2,h3,hv⟩:=hx
  exact bM (v:=.cell (.ptr id (o'+off))) i (key hp hv) ⟨t',cs,p,h1,h2,h3,rfl⟩ h
 ·rename_i off id j o' hp hs
  rw [hs] at hx
  obtain ⟨t',l,o,p,h1,h2,h3,hv⟩:=hx
  exact bM (v:=.cell (.ko id j (o'+off))) i (key hp hv) ⟨t',l,o,p,h1,h2,h3,by rw [Nat.add_assoc]⟩ h
 ·rename_i off fr u y o' hp hs
  rw [hs] at hx
  obtain ⟨b,o,es,hv,h1⟩:=hx
  exact bM (v:=.cell (.nH fr u y (o'+off))) i (key hp hv) ⟨b,o,es,by rw [Nat.add_assoc],h1⟩ h
 ·rename_i off id j o' hp hs
  rw [hs] at hx
  obtain ⟨t',l,o,p,h1,h2,h3,hv⟩:=hx
  exact bM (v:=.cell (.kJ id j (o'+off))) i (key hp hv) ⟨t',l,o,p,h1,h2,h3,by rw [Nat.add_assoc]⟩ h
 ·simp at h
theorem jO.take {agg:Bool} {vs:List Value} {off n:Nat} (hl:off+n<=vs.length) (h1:agg=false->n=1) :
  ∃ v,jO agg ((vs.drop off).take n) v:=by
 cases agg with
 | true=>exact ⟨.agg ((vs.drop off).take n).toArray,by simp [jO]⟩
 | false=>
  obtain rfl:=h1 rfl
  refine ⟨vs[off]'(by omega), ?_⟩
  simp only [jO,Bool.false_eq_true,if_false]
  rw [List.take_one]
  simp only [List.head?_drop]
  rw [List.getElem?_eq_getElem (by omega)]
  rfl
theorem aZ.yA {C:aZ} {t:TypeId} {n:Nat} (h:C.shape t=some (n,false)):n=1:=by
 unfold aZ.shape at h
 cases ha:assoc C.tt t with
 | none=>simp [ha] at h
 | some x=>
  cases x with
  | none=>simp [ha] at h;exact h.symm
  | some T=>
   simp [ha] at h
   obtain ⟨rfl,h⟩:=h
   cases T <;> first | rfl | simp [Ty.isAgg] at h
theorem Rq (good:Good C) (t:TypeId) (x:Operand) (ix:Nat):kD C ah ⟨dst,.field t x ix,type,pos,after,guard⟩:=by
 intro R F0 G s a w pl κ r Q i ht h
 simp only [jT] at h
 have hx:=i.slot x
 split at h
 ·rename_i off u cs hf hs
  rw [hs] at hx
  obtain ⟨vs,hv,hc⟩:=hx
  split at h
  ·rename_i n agg hsh
   split at h
   ·rename_i hle
    obtain ⟨fs,f,hfs,hfi,ho,hu⟩:=aZ.uY hf
    obtain ⟨inf,d,hi,hsz,hd,hagg⟩:=good.shape hsh
    have hle':off+n<=vs.length:=by rw [hc.1];exact hle
    obtain ⟨v,HY⟩:=jO.take (agg:=agg) hle' (fun e=>by subst e;exact aZ.yA hsh)
    refine bM (v:=.one (aP agg ((cs.drop off).take n))) (u:=v) i ?_ (je ((hc.drop off).take n) HY) h
    subst ho hu
    simp only [execOp,Instr.field,Sem.run_bind,run_underlying hfs,Result.andThen_ok,hfi,hv,asAgg,Sem.run_pure,part,yx hd,hagg]
    cases agg with
    | true=>
     simp only [jO,if_true] at HY
     simp only [if_true,Sem.run_bind,run_sizeOf hi,hsz,Result.andThen_ok,Sem.run_pure,HY]
     congr 3
     apply Array.ext'
     simp [Array.toList_extract,List.extract_eq_take_drop]
    | false=>
     obtain rfl:=aZ.yA hsh
     simp [jO] at HY
     have hq:vs[f.offset]? = some v:=by
      rw [List.take_one] at HY
      simp only [List.head?_drop] at HY
      cases hq:vs[f.offset]? with
      | none=>simp [hq] at HY
      | some z=>simp [hq] at HY;rw [HY]
     simp [hq]
   ·simp at h
  ·simp at h
 ·simp at h
end
end Go.Flat
