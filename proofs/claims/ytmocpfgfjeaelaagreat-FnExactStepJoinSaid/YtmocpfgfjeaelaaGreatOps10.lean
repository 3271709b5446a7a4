/- The operations on numbers, bools, texts; clear. No condition. -/
import Derived.Test.YtmocpfgfjeaelaaGreatOps9
import Derived.Laws.BytesString
set_option linter.unusedVariables false
set_option linter.unusedSimpArgs false
namespace Go.Flat
theorem PW {p q:Prop} (i:Decidable p) (j:Decidable q) (h:p ↔ q):@decide p i=@decide q j:=by
 cases i <;> cases j <;> simp_all
section
variable {C:aZ} {ah:FuncId->(t:Ty)->List Arg->Option t.den}
 {dst:Option Tmp} {type:TypeId} {pos:String} {after:Array Edge} {guard:Option (Nat × Bool)}
theorem PX {R:Type} {M:Mem} {P:Program} {w:World} {op:BinOp} {k:IntKind} {a b:Int} {κ:Cell->Option R} {r:R} (t:TypeId) (h:(zG op k a b).run ah κ=some r) :
  ∃ c v,κ c=some r/\bO M c v/\(Go.binOp op t (.int k a) (.int k b)).run P w=.ok v w:=by
 cases op <;> simp only [zG] at h <;> try (simp at h;done)
 case add=>exact ⟨_,_,h,rfl,by simp [Go.binOp,Op.intArith]⟩
 case sub=>exact ⟨_,_,h,rfl,by simp [Go.binOp,Op.intArith]⟩
 case mul=>exact ⟨_,_,h,rfl,by simp [Go.binOp,Op.intArith]⟩
 case quo=>
  obtain ⟨h0,h⟩:=T.sw ah h
  exact ⟨_,_,h,rfl,by simp [Go.binOp,Op.intDiv,h0]⟩
 case rem=>
  obtain ⟨h0,h⟩:=T.sw ah h
  exact ⟨_,_,h,rfl,by simp [Go.binOp,Op.intDiv,h0]⟩
 case and=>exact ⟨_,_,h,rfl,by simp [Go.binOp,Op.intBits]⟩
 case or=>exact ⟨_,_,h,rfl,by simp [Go.binOp,Op.intBits]⟩
 case xor=>exact ⟨_,_,h,rfl,by simp [Go.binOp,Op.intBits]⟩
 case andNot=>exact ⟨_,_,h,rfl,by simp [Go.binOp,Op.intBits]⟩
 case eql=>exact ⟨.is (a=b),.bool (decide (a=b)),h,rfl,by simp [Go.binOp,Op.intCmp];exact Bool.eq_iff_iff.2 (by simp)⟩
 case neq=>exact ⟨.is (a ≠ b),.bool (decide (a ≠ b)),h,rfl,by simp [Go.binOp,Op.intCmp];exact Bool.eq_iff_iff.2 (by simp)⟩
 case lss=>exact ⟨.is (a<b),.bool (decide (a<b)),h,rfl,by simp [Go.binOp,Op.intCmp]⟩
 case leq=>exact ⟨.is (a<=b),.bool (decide (a<=b)),h,rfl,by simp [Go.binOp,Op.intCmp]⟩
 case gtr=>exact ⟨.is (b<a),.bool (decide (b<a)),h,rfl,by simp [Go.binOp,Op.intCmp]⟩
 case geq=>exact ⟨.is (b<=a),.bool (decide (b<=a)),h,rfl,by simp [Go.binOp,Op.intCmp]⟩
theorem FL {M:Mem} (good:Good C) {t:TypeId} {U:Ty} (hU:C.ty t=some U) {x y:av} {v u:Value} {p:Prop} {i:Decidable p} {w:World} (h:EH U x y=some ⟨p,i⟩) (hx:dG M x v) (hy:dG M y u)
  (X Y:Operand):(do eqGuard .eql t X Y v u;Go.binOp .eql t v u:Sem Value).run C.P w=.ok (.bool (@decide p i)) w/\(do eqGuard .neq t X Y v u;Go.binOp .neq t v u:Sem Value).run C.P w=.ok (.bool (!@decide p i)) w:=by
 have hok:=(good.ty hU).1
 unfold EH at h
 split at h
 ·rename_i a b
  replace hx:bO M a v:=hx
  replace hy:bO M b u:=hy
  split at h
  ·rename_i s1 s2
   have hv:v=.string s1:=hx
   have hu:u=.string s2:=hy
   have hp:=congrArg PSigma.fst (Option.some.inj h)
   dsimp only at hp
   subst hp
   have key:(s1.toList == s2.toList)=@decide (s1=s2) i:=by
    refine Bool.eq_iff_iff.2 ?_
    rw [@decide_eq_true_iff _ i,beq_iff_eq,ByteArray.toList_eq,ByteArray.toList_eq]
    constructor
    ·intro e
     obtain ⟨⟨x⟩⟩:=s1
     obtain ⟨⟨y⟩⟩:=s2
     simp at e
     rw [e]
    ·intro e;rw [e]
   subst hv hu
   constructor
   ·simp [eqGuard,Go.binOp,Op.stringOp,key]
   ·simp [eqGuard,Go.binOp,Op.stringOp,key]
  ·split at h
   ·rename_i a' b' hne hcond
    obtain ⟨rfl,hb⟩:=hcond
    have hiff:=FJ h hx hy
    have hva:∃ b1,v=.bool b1:=by
     cases a <;> simp [Cell.asBool] at hb
     ·exact ⟨_,hx⟩
     ·exact ⟨_,hx⟩
    have hub:∃ b2,u=.bool b2:=by
     cases a <;> simp [Cell.asBool] at hb <;> cases b <;> simp [lD.IL] at h <;> exact ⟨_,hy⟩
    obtain ⟨b1,rfl⟩:=hva
    obtain ⟨b2,rfl⟩:=hub
    simp only [jU,Bool.and_eq_true] at hok
    have h2:=hok.2
    split at h2
    ·rename_i WC
     have key:(b1 == b2)=@decide p i:=Bool.eq_iff_iff.2 (by rw [@decide_eq_true_iff _ i,beq_iff_eq,hiff];simp)
     have hr:=run_equalIn_bool' w 9999 t b1 b2 WC
     constructor
     ·simp [eqGuard,Go.binOp,Op.equal,Op.maxDepth,hr,key]
     ·simp [eqGuard,Go.binOp,Op.equal,Op.maxDepth,hr,key]
    ·cases h2
   ·cases h
 ·rename_i cs ds
  obtain ⟨vs,rfl,hcv⟩:=hx
  obtain ⟨us,rfl,YN⟩:=hy
  split at h
  ·rename_i hcond
   simp only [Bool.and_eq_true] at hcond
   obtain ⟨⟨⟨⟨hagg,hplain⟩,hht⟩,h1⟩,h2⟩:=hcond
   obtain ⟨x,rfl⟩:=uo hplain h1 hcv
   obtain ⟨y,rfl⟩:=uo hplain h2 YN
   have hiff:=FK h hcv YN
   have Zw:U.ht<100:=by simpa using hht
   have hr0:=(Cj (P:=C.P) w U hplain).1 t 10000 x y hok hagg (by omega)
   have hr:(Op.equalIn 10000 t (.agg (aQ U x).toArray) (.agg (aQ U y).toArray)).run C.P w=.ok (@decide p i) w:=by
    rw [hr0]
    congr 1
    exact PW _ _ hiff.symm
   have hg:C.P.eqGuardType C.P.depth t=false:=by
    cases U <;> simp [Ty.isAgg] at hagg
    ·simp only [jU,Bool.and_eq_true] at hok
     have h3:=hok.2
     split at h3
     ·simp only [Bool.and_eq_true,Bool.not_eq_true'] at h3;exact h3.2
     ·cases h3
    ·simp only [jU,Bool.and_eq_true] at hok
     have h3:=hok.2
     split at h3
     ·simp only [Bool.and_eq_true,Bool.not_eq_true'] at h3;exact h3.2
     ·cases h3
   constructor
   ·rw [Sem.run_bind,run_eqGuard_agg w .eql t X Y _ _ hg,Result.andThen_ok,run_eql_struct,hr,Result.andThen_ok]
   ·rw [Sem.run_bind,run_eqGuard_agg w .neq t X Y _ _ hg,Result.andThen_ok,run_neq_struct,hr,Result.andThen_ok]
  ·cases h
 ·cases h
theorem RI (good:Good C) (op:BinOp) (t t':TypeId) (x y:Operand):kD C ah ⟨dst,.binOp op t x y t',type,pos,after,guard⟩:=by
 intro R F0 G s a w pl κ r Q i ht h
 simp only [jT,St.comp,T.run_bind] at h
 have hx:=i.slot x
 have hy:=i.slot y
 cases hsx:s.ev x with
 | wN cs=>simp [hsx] at h
 | one cx=>
  cases hsy:s.ev y with
  | wN cs=>simp [hsx,hsy] at h
  | one cy=>
   simp only [hsx,hsy,T.bK] at h
   rw [hsx] at hx
   rw [hsy] at hy
   replace hx:dG _ cx (a.eval x):=hx
   replace hy:dG _ cy (a.eval y):=hy
   have key:∀ {c:Cell} {v:Value},(do eqGuard op t x y (a.eval x) (a.eval y);Go.binOp op t (a.eval x) (a.eval y):Sem Value).run C.P w=.ok v w->bO (mem F0 G w.heap s.aj pl) c v->(s.put dst (.cell c)).run ah κ=some r->
     Oper.wp C.P ⟨dst,.binOp op t x y t',type,pos,after,guard⟩ a w (sS F0 G w κ r) Q:=fun {c v} h1 h2 h3=>by
    refine bM (v:=.cell c) (u:=v) i ?_ h2 h3
    show ((do eqGuard op t x y (a.eval x) (a.eval y);Go.binOp op t (a.eval x) (a.eval y):Sem Value) >>= fun v=>(pure (.value v):Sem Next)).run C.P w=_
    rw [Sem.run_bind,h1]
    rfl
   have ints:∀ {k:IntKind} {m n:Int},cx=.cell (.int k m)->cy=.cell (.int k n)->(∀ c,(zG op k m n).run ah c=some r->True)->op ≠ .shl->op ≠ .shr->(zG op k m n).run ah (fun c=>(s.put dst (.cell c)).run ah κ)=some r->
     Oper.wp C.P ⟨dst,.binOp op t x y t',type,pos,after,guard⟩ a w (sS F0 G w κ r) Q:=by
    intro k m n hcx hcy _ _ _ hint
    subst hcx hcy
    have Tz:a.eval x=.int k m:=hx
    have Vd:a.eval y=.int k n:=hy
    obtain ⟨c,v,hk,hrel,hrun⟩:=PX (M:=mem F0 G w.heap s.aj pl) (P:=C.P) (w:=w) t hint
    refine key (c:=c) (v:=v) ?_ hrel hk
    rw [Tz,Vd]
    have hg:(eqGuard op t x y (.int k m) (.int k n)).run C.P w=.ok () w:=by cases op <;> simp [eqGuard]
    rw [Sem.run_bind,hg,Result.andThen_ok,hrun]
   unfold binOp at h
   split at h
   ·rename_i k m k' n
    have Tz:a.eval x=.int k m:=hx
    have Vd:a.eval y=.int k' n:=hy
    simp only [tX] at h
    obtain ⟨h0,h⟩:=T.sw ah h
    refine key (c:=.int k (k.wrap (m*2 ^ (min n.toNat k.bits)))) (v:=.int k (k.wrap (m*2 ^ (min n.toNat k.bits)))) ?_ rfl h
    rw [Tz,Vd]
    simp [eqGuard,Go.binOp,Op.shift,h0]
   ·rename_i k m k' n
    have Tz:a.eval x=.int k m:=hx
    have Vd:a.eval y=.int k' n:=hy
    simp only [tX] at h
    obtain ⟨h0,h⟩:=T.sw ah h
    refine key (c:=.int k (m.fdiv (2 ^ (min n.toNat k.bits)))) (v:=.int k (m.fdiv (2 ^ (min n.toNat k.bits)))) ?_ rfl h
    rw [Tz,Vd]
    simp [eqGuard,Go.binOp,Op.shift,h0]
   ·rename_i k m k' n hn1 hn2
    split at h
    ·rename_i hk
     subst hk
     exact ints rfl rfl (fun _ _=>trivial) hn1 hn2 h
    ·simp at h
   ·rename_i s1 s2
    have Tz:a.eval x=.string s1:=hx
    have Vd:a.eval y=.string s2:=hy
    obtain ⟨h0,h⟩:=T.eF ah h
    refine key (c:=.str (s1++s2)) (v:=.string (s1++s2)) ?_ rfl h
    rw [Tz,Vd]
    unfold bN at h0
    have h1:¬ (((s1.size+s2.size:Nat):Int) > IntKind.i64.max):=by
     have:IntKind.i64.max=9223372036854775807:=by decide
     rw [this];omega
    simp [eqGuard,Go.binOp,Op.stringOp]
    omega
   ·split at h
    ·rename_i p d he
     rw [Option.bind_eq_some_iff] at he
     obtain ⟨U,hU,he⟩:=he
     exact key (c:=.prop p d) (v:=.bool (@decide p d)) (FL good hU he hx hy x y).1 rfl h
    ·simp at h
   ·split at h
    ·rename_i p d he
     rw [Option.bind_eq_some_iff] at he
     obtain ⟨U,hU,he⟩:=he
     refine key (c:=.prop (¬ p) (@instDecidableNot p d)) (v:=.bool (!@decide p d)) (FL good hU he hx hy x y).2 ?_ h
     show Value.bool _=.bool _
     congr 1
     cases d with
     | isTrue h=>rfl
     | isFalse h=>rfl
    ·simp at h
   ·simp at h
theorem iF.mid {G:Nat->Prop} {h:Array Obj} {t:Ty} {l k:List t.den} {c news:List Value} {o off:Nat} (H:iF G h t l c o) (K:iF G h t k news 0) (hn:news.length=k.length*t.sz) (hoff:off+k.length<=l.length) (hle:o+l.length*t.sz<=c.length) :
  iF G h t (l.take off++k++l.drop (off+k.length)) (c.take (o+off*t.sz)++news++c.drop (o+off*t.sz+news.length)) o:=by
 have hmul:(off+k.length)*t.sz<=l.length*t.sz:=Nat.mul_le_mul_right _ hoff
 rw [Nat.add_mul] at hmul
 intro i x hi
 rw [bP hoff] at hi
 have old:l[i]? = some x->(i<off\/off+k.length<=i)->∃ es,Rd G h t G x es/\∀ j v,es[j]? = some v->(c.take (o+off*t.sz)++news++c.drop (o+off*t.sz+news.length))[o+i*t.sz+j]? = some v:=by
  intro hx hcase
  obtain ⟨es,hes,hj⟩:=H i x hx
  refine ⟨es,hes,fun j v hv=>?_⟩
  have hjl:j<t.sz:=by have:=(List.getElem?_eq_some_iff.1 hv).1;rwa [hes.len] at this
  rw [bP (by omega)]
  rcases hcase with h1 | h1
  ·have h2:(i+1)*t.sz<=off*t.sz:=Nat.mul_le_mul_right _ h1
   rw [Nat.add_mul,Nat.one_mul] at h2
   rw [if_pos (by omega)]
   exact hj j v hv
  ·have h2:(off+k.length)*t.sz<=i*t.sz:=Nat.mul_le_mul_right _ h1
   rw [Nat.add_mul] at h2
   rw [if_neg (by omega),if_neg (by omega)]
   exact hj j v hv
 split at hi
 ·rename_i h1;exact old hi (.inl h1)
 ·rename_i h1
  split at hi
  ·rename_i h2
   obtain ⟨es,hes,hj⟩:=K (i - off) x hi
   refine ⟨es,hes,fun j v hv=>?_⟩
   have hjl:j<t.sz:=by have:=(List.getElem?_eq_some_iff.1 hv).1;rwa [hes.len] at this
   have hlt:i - off<k.length:=(List.getElem?_eq_some_iff.1 hi).1
   have h3:(i - off+1)*t.sz<=k.length*t.sz:=Nat.mul_le_mul_right _ hlt
   rw [Nat.add_mul,Nat.one_mul] at h3
   have hsum:i*t.sz=off*t.sz+(i - off)*t.sz:=by rw [<- Nat.add_mul];congr 1;omega
   rw [bP (by omega),if_neg (by omega),if_pos (by omega)]
   have:=hj j v hv
   rw [Nat.zero_add] at this
   rw [show o+i*t.sz+j - (o+off*t.sz)=(i - off)*t.sz+j by omega]
   exact this
  ·rename_i h2;exact old hi (.inr (by omega))
theorem foldl_push (ns:List Int):∀ s:ByteArray,ns.foldl (fun r n=>r.push (UInt8.ofNat n.toNat)) s=⟨s.data++(ns.map fun n=>UInt8.ofNat n.toNat).toArray⟩:=by
 induction ns with
 | nil=>intro s;simp
 | cons n ns ih=>
  intro s
  rw [List.foldl_cons,ih]
  congr 1
  simp [ByteArray.push]
theorem NR (good:Good C) (src dt:TypeId) (x:Operand):kD C ah ⟨dst,.convert src dt x,type,pos,after,guard⟩:=by
 intro R F0 G s a w pl κ r Q i ht h
 simp only [jT] at h
 have hx:=i.slot x
 split at h
 ·rename_i d k k' n h1 h2 hs
  rw [hs] at hx
  refine bM (v:=.cell (.int k (k.wrap n))) (u:=.int k (k.wrap n)) i ?_ rfl h
  simp only [execOp,convert,Sem.run_bind,run_underlying h1,run_underlying h2,Result.andThen_ok,show a.eval x=.int k' n from hx,Conv.intToInt,Sem.run_pure]
 ·rename_i d b h1 h2 hs
  rw [hs] at hx
  refine bM (v:=.cell (.str b)) (u:=.string b) i ?_ rfl h
  simp only [execOp,convert,Sem.run_bind,run_underlying h1,run_underlying h2,Result.andThen_ok,show a.eval x=.string b from hx,Sem.run_pure]
 ·rename_i e c hns h1 h2 hs
  rw [hs] at hx
  split at h
  ·rename_i hu
   rw [T.run_bind] at h
   unfold St.look at h
   cases hl:gN s.aj .look (.int .u8) c with
   | none=>simp [hl,T.ofOption] at h
   | some y=>
    obtain ⟨l,ids⟩:=y
    simp only [hl,Option.map_some,T.ofOption,T.bK] at h
    have hr:=Ca (A:=fun _=>True) (G':=G) i.aj hl hx (fun _ h=>h) (fun _ _=>trivial) (fun _ _ _=>trivial) (fun _ _ _ _=>trivial)
    obtain ⟨A,cap,news,hv,hle,hlen,hrow,hone,hne⟩:=Jj hr
    have he:C.P.underlying e=some (.int .u8):=by
     have hok:=(good.ty hu).1
     simp only [jU,Bool.and_eq_true] at hok
     have h3:=hok.2
     split at h3
     ·rename_i k' hk';simp at h3;rw [<- h3];exact hk'
     ·cases h3
    have hnews:news=l.map (Value.int .u8):=by
     apply List.ext_getElem?
     intro j
     rw [List.getElem?_map]
     by_cases hj:j<l.length
     ·obtain ⟨es,hes,hq⟩:=hrow j l[j] (List.getElem?_eq_getElem hj)
      have hes:es=[.int .u8 l[j]]:=hes
      subst hes
      have:=hq 0 _ rfl
      rw [List.getElem?_eq_getElem hj]
      simpa [Ty.sz] using this
     ·rw [List.getElem?_eq_none (by rw [hlen];simp [Ty.sz];omega),List.getElem?_eq_none (by omega)]
      rfl
    refine bM (v:=.cell (.str (ofBytes l))) (u:=.string (ofBytes l)) i ?_ rfl h
    have WE:(convert src dt (.slice A l.length cap)).run C.P w=.ok (.string (ofBytes l)) w:=by
     rw [run_convert_bytes_string w src dt e A l.length cap h1 he h2]
     cases A with
     | none=>
      have h0:l=[]:=by
       by_cases h0:l=[]
       ·exact h0
       ·obtain ⟨b,o,hh,_⟩:=hne h0;cases hh
      subst h0
      simp [Conv.bytesToString,ofBytes]
      rfl
     | some A=>
      have hload:(loadCells A l.length).run C.P w=.ok (l.map (Value.int .u8)).toArray w:=by
       have hll:l.length=news.length:=by rw [hlen];simp [Ty.sz]
       rw [hll,<- hnews]
       refine run_loadCells_list w A news (fun j u hu=>?_)
       have h0:l ≠ []:=by
        intro e0
        subst e0
        simp at hnews
        subst hnews
        simp at hu
       obtain ⟨b,o,hh,_,hc⟩:=hne h0
       cases hh
       rw [pR,pz]
       exact hc j u hu
      rw [run_bytesToString w A l.length cap l hload,foldl_push]
      simp [ofBytes]
    simp only [execOp,Sem.run_bind,hv,WE,Result.andThen_ok,Sem.run_pure]
  ·simp at h
 ·simp at h
theorem RJ (good:Good C) (args:Array Operand) (argTypes:Array TypeId):kD C ah ⟨dst,.call ⟨.builtin .clear,args,argTypes⟩,type,pos,after,guard⟩:=by
 intro R F0 G s a w pl κ r Q i ht h
 simp only [jT] at h
 split at h
 ·rename_i x e u hargs he
  split at h
  ·rename_i id off n hs
   have hx:=i.slot x
   rw [hs] at hx
   obtain ⟨v,l,o,hst,hle,hsl⟩:=hx
   have hst:s.aj id=some (.arr v l o):=hst
   simp only [hst] at h
   split at h
   ·simp at h
   ·rename_i hno
    split at h
    ·rename_i huv
     subst huv
     rw [Option.bind_eq_some_iff] at he
     obtain ⟨t,ht0,he⟩:=he
     obtain ⟨ht,hu⟩:=aZ.qW he
     obtain ⟨inf,z,hi,hz,hsz,hzv⟩:=good.zeroOf hu
     have hargs':args=#[x]:=by apply Array.ext';simpa using hargs
     subst hargs'
     obtain ⟨ha,hown⟩:=i.aj.ent id _ hst
     have hzs:z.cells.size=v.sz:=by have:=congrArg List.length hzv;rw [fH] at this;simpa using this
     have gq:∀ {w':World},(Builtin.clear_ argTypes type #[a.eval x]).run C.P w=.ok undef w'->
       (execOp a.eval ⟨dst,.call ⟨.builtin .clear,#[x],argTypes⟩,type,pos,after,guard⟩).run C.P w=.ok (.value undef) w':=by
      intro w' hr
      simp only [execOp,resolve,Sem.run_bind,invoke,builtin,Sem.run_pure,Result.andThen_ok,List.map_toArray,List.map_cons,List.map_nil,hr]
     by_cases h0:n=0
     ·subst h0
      have hl:l.take off++List.replicate 0 v.dflt++l.drop (off+0)=l:=by simp
      rw [hl] at h
      have hup:upd s.aj id (some (.arr v l o))=s.aj:=by
       funext k
       by_cases hk:k=id
       ·subst hk;rw [upd_same,hst]
       ·rw [upd_ne _ _ hk]
      rw [hup] at h
      refine lG (v:=.undef) (u:=undef) (gq ?_) i (Fr.refl _ _ _) trivial h
      have hv:∃ A cap,a.eval x=.slice A 0 cap:=by
       cases hp:pl id with
       | none=>rw [show (mem F0 G w.heap s.aj pl).pl id=none from hp] at hsl;exact ⟨none,0,hsl.2⟩
       | some p=>rw [show (mem F0 G w.heap s.aj pl).pl id=some p from hp] at hsl;obtain ⟨A,cap,hv,_⟩:=hsl;exact ⟨some A,cap,hv⟩
      obtain ⟨A,cap,hv⟩:=hv
      rw [hv]
      cases A <;> simp [Builtin.clear_,ht0,run_underlying ht] <;> rfl
     ·cases hp:pl id with
      | none=>rw [show (mem F0 G w.heap s.aj pl).pl id=none from hp] at hsl;exact absurd hsl.1 h0
      | some p=>
       rw [show (mem F0 G w.heap s.aj pl).pl id=some p from hp] at hsl ha
       obtain ⟨A,cap,hv,hnc,nO,hroom⟩:=hsl
       obtain rfl:=nO (by omega)
       obtain ⟨c,e',fz,hh,hfz,hcs,hll,hrow⟩:=ha
       have hh:w.heap[p.b]? = some (.cells c e' fz):=hh
       have hF:=(hown p hp).2 hno
       have hmul:(off+n)*v.sz<=l.length*v.sz:=Nat.mul_le_mul_right _ hle
       rw [Nat.add_mul] at hmul
       have OZ:(Builtin.zeroCells z.cells n).toList.length=n*v.sz:=by simp [Builtin.zeroCells,hzs]
       have hfit:p.o+off*v.sz+(Builtin.zeroCells z.cells n).toList.length<=c.size:=by rw [OZ];omega
       have hone:∀ q ∈ (Builtin.zeroCells z.cells n).toList,q.oneCell'=true:=by
        intro q hq
        rw [Ci]
        simp only [Builtin.zeroCells,Array.toList_map,List.mem_map] at hq
        obtain ⟨j,hj,rfl⟩:=hq
        have hj':j<n*z.cells.size:=by simpa using hj
        have hpos:0<z.cells.size:=by
         rcases Nat.eq_zero_or_pos z.cells.size with e | e
         ·rw [e] at hj';omega
         ·exact e
        have hm:j % z.cells.size<z.cells.size:=Nat.mod_lt _ hpos
        rw [getElem!_pos z.cells _ hm]
        refine (yD (G:=G) (h:=w.heap) (t:=v) (F:=G)).one _ ?_
        rw [<- hzv]
        simp
       have rT:=run_storeCells_cells (P:=C.P) p.b (p.o+off*v.sz) (Builtin.zeroCells z.cells n).toList 0 w (fun j hj=>by rw [Nat.add_zero];exact sD hh hfit j hj) (fun j hj=>by rw [Nat.add_zero];exact vk hh hfz hfit j hj) hone
       simp only [Nat.add_zero] at rT
       rw [mH p.b e' fz _ _ c w hh hfit] at rT
       have hrun:(Builtin.clear_ argTypes type #[a.eval x]).run C.P w=.ok undef (w.setRow p.b (c.toList.take (p.o+off*v.sz)++(Builtin.zeroCells z.cells n).toList++c.toList.drop (p.o+off*v.sz+(Builtin.zeroCells z.cells n).toList.length)).toArray):=by
        rw [hv]
        obtain ⟨n,rfl⟩:∃ m,n=m+1:=⟨n - 1,by omega⟩
        simp [Builtin.clear_,ht0,run_underlying ht,zeroValue,run_typeInfo hi,hz,rT]
        rfl
       obtain ⟨i',fr⟩:=i.write (w':=w.setRow p.b (c.toList.take (p.o+off*v.sz)++(Builtin.zeroCells z.cells n).toList++c.toList.drop (p.o+off*v.sz+(Builtin.zeroCells z.cells n).toList.length)).toArray) (id:=id) (E':=.arr v (l.take off++List.replicate n v.dflt++l.drop (off+n)) o) hst hp hF (by simp) ⟨rfl,rfl,rfl,fun _=>Nat.le_refl _⟩ (fun b hb=>setRow_other w p.b b _ hb) ⟨rfl,by simp;omega⟩ (fun g=>by
        refine ⟨⟨_,e',fz,setRow_heap w p.b c _ e' fz hh, ?_, ?_, ?_, ?_⟩,fun q hq=>⟨⟨fun ho=>absurd ho hno,(by cases hq;exact (hown p hp).1.2)⟩,fun _=>(by cases hq;exact hF)⟩⟩
        ·intro o' ho'
         refine hfz o' ?_
         have hz1:(Builtin.zeroCells z.cells n).size=n*v.sz:=by simpa using OZ
         rw [OZ] at hfit
         simp [hz1] at ho'
         omega
        ·simp [Builtin.zeroCells,hzs];omega
        ·simp;rw [show min off l.length+(n+(l.length - (off+n)))=l.length by omega];exact hll
        ·have hrow':iF G w.heap v l c.toList p.o:=fun j y hj=>by
          obtain ⟨es,h1,h2⟩:=hrow j y hj
          exact ⟨es,h1,fun q u hq=>by simpa using h2 q u hq⟩
         have hz0:iF G w.heap v (List.replicate n v.dflt) (Builtin.zeroCells z.cells n).toList 0:=by
          have:=FC (G:=G) (h:=w.heap) hzv n n (Nat.le_refl _)
          unfold Builtin.zeroCells
          rw [hzs]
          rw [hzs] at this
          exact this
         have hmid:=hrow'.mid (off:=off) hz0 (by rw [OZ];simp) (by simpa using hle) (by simp;omega)
         rw [List.length_replicate] at hmid
         have hmv:=iF.move (G':=G) (h':=(w.setRow p.b (c.toList.take (p.o+off*v.sz)++(Builtin.zeroCells z.cells n).toList++c.toList.drop (p.o+off*v.sz+(Builtin.zeroCells z.cells n).toList.length)).toArray).heap) (fun _ h=>h) (fun b hb=>setRow_other w p.b b _ (fun e=>hF (.inr (e ▸ hb)))) hmid
         intro j y hj
         obtain ⟨es,h1,h2⟩:=hmv j y hj
         exact ⟨es,h1,fun q u hq=>by simpa using h2 q u hq⟩)
       exact lG (v:=.undef) (u:=undef) (gq hrun) i' fr trivial h
    ·simp at h
  ·simp at h
 ·simp at h
theorem RL {R:Type} {F0:jo} {G:Nat->Prop} {s:St} {a:Act} {w:World} {pl:Nat->Option Pl} {κ:St->Option R} {r:R} {o:Oper} (i:Inv F0 G s a w pl) {g:Int->Int->Int} {op2:Value->Value->Sem Value} (k:IntKind)
  (hop:∀ m n:Int,(op2 (.int k m) (.int k n)).run C.P w=.ok (.int k (g m n)) w):∀ (xs:List Operand) (m:Int),(jT.mm o g k m (xs.map s.ev) s).run ah κ=some r->
   ∃ n,(s.put o.dst (.cell (.int k n))).run ah κ=some r/\((xs.map a.eval).foldlM op2 (.int k m)).run C.P w=.ok (.int k n) w
 | [],m,h=>⟨m,h,by simp⟩
 | x :: xs,m,h=>by
  simp only [List.map_cons] at h
  have hx:=i.slot x
  cases hs:s.ev x with
  | wN _=>rw [hs] at h;simp [jT.mm] at h
  | one c=>
   cases c with
   | agg _=>rw [hs] at h;simp [jT.mm] at h
   | cell c=>
    cases c <;> (rw [hs] at h;simp only [jT.mm] at h) <;> try (simp at h;done)
    case int k' b=>
     split at h
     ·rename_i hk
      subst hk
      rw [hs] at hx
      obtain ⟨n,h1,h2⟩:=RL i k' hop xs (g m b) h
      refine ⟨n,h1, ?_⟩
      rw [List.map_cons,List.foldlM_cons,Sem.run_bind,show a.eval x=.int k' b from hx,hop,Result.andThen_ok]
      exact h2
     ·simp at h
theorem Ve (args:Array Operand) (argTypes:Array TypeId):kD C ah ⟨dst,.call ⟨.builtin .min,args,argTypes⟩,type,pos,after,guard⟩:=by
 intro R F0 G s a w pl κ r Q i ht h
 simp only [jT] at h
 split at h
 ·rename_i k m rs hargs
  cases hl:args.toList with
  | nil=>rw [hl] at hargs;simp at hargs
  | cons x xs=>
   rw [hl] at hargs
   simp at hargs
   obtain ⟨hs,rfl⟩:=hargs
   have hx:=i.slot x
   rw [hs] at hx
   obtain ⟨n,h1,h2⟩:=RL (C:=C) (op2:=Builtin.min2) i k (fun m n=>by
    simp only [Builtin.min2,Sem.run_pure]
    congr 2
    split <;> omega) xs m h
   refine bM (v:=.cell (.int k n)) (u:=.int k n) i ?_ rfl h1
   have hargs':args=(x :: xs).toArray:=by apply Array.ext';simpa using hl
   subst hargs'
   simp only [execOp,resolve,Sem.run_bind,invoke,builtin,Sem.run_pure,Result.andThen_ok,List.map_toArray,List.map_cons,Builtin.min_]
   rw [show a.eval x=.int k m from hx,h2]
   rfl
 ·simp at h
theorem Vf (args:Array Operand) (argTypes:Array TypeId):kD C ah ⟨dst,.call ⟨.builtin .max,args,argTypes⟩,type,pos,after,guard⟩:=by
 intro R F0 G s a w pl κ r Q i ht h
 simp only [jT] at h
 split at h
 ·rename_i k m rs hargs
  cases hl:args.toList with
  | nil=>rw [hl] at hargs;simp at hargs
  | cons x xs=>
   rw [hl] at hargs
   simp at hargs
   obtain ⟨hs,rfl⟩:=hargs
   have hx:=i.slot x
   rw [hs] at hx
   obtain ⟨n,h1,h2⟩:=RL (C:=C) (op2:=Builtin.max2) i k (fun m n=>by
    simp only [Builtin.max2,Sem.run_pure]
    congr 2
    split <;> omega) xs m h
   refine bM (v:=.cell (.int k n)) (u:=.int k n) i ?_ rfl h1
   have hargs':args=(x :: xs).toArray:=by apply Array.ext';simpa using hl
   subst hargs'
   simp only [execOp,resolve,Sem.run_bind,invoke,builtin,Sem.run_pure,Result.andThen_ok,List.map_toArray,List.map_cons,Builtin.max_]
   rw [show a.eval x=.int k m from hx,h2]
   rfl
 ·simp at h
end
end Go.Flat
