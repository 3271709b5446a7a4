/- Operations that change nothing but their slots. No condition. -/
import Derived.Test.YtmocpfgfjeaelaaGreatRun2
set_option linter.unusedVariables false
set_option linter.unusedSimpArgs false
namespace Go.Flat
theorem T.bind_assoc {α β γ:Type} (x:T α) (f:α->T β) (g:β->T γ):(x.bind f).bind g=x.bind fun a=>(f a).bind g:=by
 induction x with
 | ret a=>rfl
 | fail=>rfl
 | br p d x y QU ihy=>simp only [T.bind,QU,ihy]
 | call f t args k ih=>simp only [T.bind];congr 1;funext r;exact ih r
def nC (dst:Option Tmp) (s:St) (x:Slot × List (Nat × Entry)):T St:=(jL s x.2).bind fun s=>s.put dst x.1
theorem bQ (dst:Option Tmp) (s:St) (v:Slot):nC dst s (v,[])=s.put dst v:=rfl
theorem oM (dst:Option Tmp) (s:St) (v:Slot) (k:Nat) (e:Entry):nC dst s (v,[(k,e)])=(s.alloc k e).bind fun s=>s.put dst v:=by
 unfold nC
 simp only [jL,T.bind_assoc,T.lT]
theorem Cq {s:St} {u:Ty} (hp:u.plain=true):∀ {parts:List (Nat × Operand)} {l l':List u.den} {ids:List Nat},bL s u parts l []=some (l',ids)->ids=[]:=by
 have key:∀ {σ:Nat->Option Entry} {t:Ty} {cs:List Cell} {x:t.den} {rest:List Cell} {ids:List Nat},t.plain=true->au σ .keep t cs=some (x,rest,ids)->ids=[]:=by
  intro σ t
  induction t with
  | list t _=>intro cs x rest ids hp;simp [Ty.plain] at hp
  | aG t _=>intro cs x rest ids hp;simp [Ty.plain] at hp
  | pair a b iha ihb=>
   intro cs x rest ids hp h
   simp only [Ty.plain,Bool.and_eq_true] at hp
   rw [iZ] at h
   cases h1:au σ .keep a cs with
   | none=>simp [h1] at h
   | some r1=>
    obtain ⟨x1,rz,Ib⟩:=r1
    simp only [h1] at h
    cases h2:au σ .keep b rz with
    | none=>simp [h2] at h
    | some r2=>
     obtain ⟨x2,pQ,Ic⟩:=r2
     simp [h2] at h
     obtain ⟨rfl,rfl,rfl⟩:=h
     rw [iha hp.1 h1,ihb hp.2 h2]
     rfl
  | bool=>
   intro cs x rest ids _ h
   cases cs with
   | nil=>simp [au] at h
   | cons c cs=>cases c <;> simp [au] at h <;> (obtain ⟨_,_,rfl⟩:=h;rfl)
  | int k=>
   intro cs x rest ids _ h
   cases cs with
   | nil=>simp [au] at h
   | cons c cs=>cases c <;> simp [au] at h;obtain ⟨_,_,_,rfl⟩:=h;rfl
  | str=>
   intro cs x rest ids _ h
   cases cs with
   | nil=>simp [au] at h
   | cons c cs=>cases c <;> simp [au] at h;obtain ⟨_,_,rfl⟩:=h;rfl
  | unit=>
   intro cs x rest ids _ h
   cases cs with
   | nil=>simp [au] at h;exact h.2
   | cons c cs=>cases c <;> simp [au] at h <;> exact h.2
 intro parts
 induction parts with
 | nil=>intro l l' ids h;simp [bL] at h;exact h.2
 | cons p parts ih=>
  intro l l' ids h
  obtain ⟨i,x⟩:=p
  simp only [bL] at h
  split at h
  ·split at h
   ·rename_i y js hof
    split at h
    ·have hjs:js=[]:=by
      unfold aL at hof
      split at hof
      ·rename_i x' iQ he
       simp at hof
       obtain ⟨rfl,rfl⟩:=hof
       exact key hp he
      ·cases hof
     subst hjs
     exact ih h
    ·cases h
   ·cases h
  ·cases h
theorem NZ {o:Oper} {g:Int->Int->Int} {k:IntKind} {s:St}:∀ (r:List Slot) (a:Int),jT.mm o g k a r s=(VU g k a r).bind (nC o.dst s)
 | [],a=>rfl
 | x :: r,a=>by
  cases x with
  | wN _=>rfl
  | one c=>
   cases c with
   | agg _=>rfl
   | cell c=>
    cases c <;> try rfl
    case int k' b=>
     simp only [jT.mm,VU]
     split
     ·exact NZ r _
     ·rfl
theorem TQ {C:aZ} {o:Oper} {s:St} (h:aT C o=true):jT C o s=(aS C o s).bind (nC o.dst s):=by
 obtain ⟨dst,op,type,pos,after,guard⟩:=o
 simp only [aT,Bool.and_eq_true] at h
 obtain ⟨hd,h⟩:=h
 obtain ⟨d,rfl⟩:∃ d,dst=some d:=Option.isSome_iff_exists.1 hd
 cases op <;> try (simp at h;done)
 case move x=>
  simp only [jT,aS]
  split
  ·split
   ·simp [bQ]
   ·split <;> simp [oM,bQ]
  ·simp [bQ]
 case assign x=>
  simp only [jT,aS]
  split
  ·split
   ·simp [bQ]
   ·split <;> simp [oM,bQ]
  ·simp [bQ]
 case pick c a b=>
  simp only [jT,aS]
  split <;> simp [bQ,T.bind]
 case alloc t=>
  simp only [jT,aS]
  split <;> simp [oM]
 case box t x=>
  simp only [jT,aS]
  split
  ·split <;> simp [oM]
  ·rfl
 case build t parts=>
  simp only [jT,aS]
  split
  ·split
   ·split <;> simp [bQ]
   ·rfl
  ·rfl
 case buildSlice t n parts=>
  cases hbr:C.Lf (some d) t with
  | true=>
   simp only [jT,aS,hbr,cond_true,BR]
   split
   ·rename_i e u d' he hd'
    cases hd'
    split
    ·cases hb:bL s u parts.toList (List.replicate n u.dflt) [] with
     | none=>rfl
     | some x=>
      obtain ⟨l,ids⟩:=x
      cases ids with
      | nil=>simp [bQ]
      | cons _ _=>rfl
    ·rfl
   ·rfl
  | false=>
  simp only [hbr,Bool.false_or,Bool.and_eq_true] at h
  obtain ⟨h1,h⟩:=h
  have hdn:C.Fb t=none:=Option.isNone_iff_eq_none.1 h1
  simp only [jT,aS,hdn,hbr,cond_false]
  split
  ·rename_i e u d' he hd'
   have hp:u.plain=true:=by simpa [he] using h
   split
   ·cases hb:bL s u parts.toList (List.replicate n u.dflt) [] with
    | none=>rfl
    | some x=>
     obtain ⟨l,ids⟩:=x
     have:=Cq hp hb
     subst this
     simp [oM,bB]
   ·rfl
  ·rfl
 case load t x=>
  have htk:C.take (some d) t=false:=by simpa using h
  simp only [jT,aS,htk,cond_false]
  split
  ·simp only [T.bind_assoc,T.lT,bQ]
  ·rfl
 case nilCheck x=>
  simp only [jT,aS]
  split <;> simp [bQ]
 case binOp op t x y t'=>
  simp only [jT,aS,T.bind_assoc,T.lT,bQ]
 case unOp op t x=>
  simp only [jT,aS,T.bind_assoc,T.lT,bQ]
 case convert src dt x=>
  simp only [jT,aS]
  split
  ·simp [bQ]
  ·simp [bQ]
  ·split
   ·simp only [T.bind_assoc,T.lT,bQ]
   ·rfl
  ·rfl
 case makeFunc fn first captured=>
  cases fn <;> try (simp at h;done)
  simp only [jT,aS]
  split
  ·split <;> simp [bQ]
  ·rfl
 case makeSlice t l c=>
  have h:(C.Fb t).isNone=true:=by simpa using h
  have hdn:C.Fb t=none:=Option.isNone_iff_eq_none.1 h
  simp only [jT,aS,hdn,Option.isSome_none,cond_false]
  split
  ·split
   ·simp only [T.bind_assoc]
    congr 1
    funext x
    congr 1
    funext y
    simp only [T.test,T.bind,oM]
   ·rfl
  ·rfl
 case slice t x lo hi mx=>
  cases mx with
  | some _=>simp at h
  | none=>
   simp only [jT,aS]
   split
   ·simp only [T.bind_assoc,T.lT,bQ]
   ·split
    ·simp only [T.bind_assoc,T.lT,bQ]
    ·rfl
   ·rfl
 case fieldAddr t x ix=>
  simp only [jT,aS]
  split <;> simp [bQ]
 case field t x ix=>
  simp only [jT,aS]
  split
  ·split
   ·split <;> simp [bQ]
   ·rfl
  ·rfl
 case indexAddr t x ix=>
  simp only [jT,aS,T.bind_assoc]
  congr 1
  funext y
  split
  ·simp only [T.bind_assoc,T.lT,bQ]
  ·rfl
 case index t x ix=>
  simp only [jT,aS,T.bind_assoc]
  congr 1
  funext y
  split
  ·simp only [T.test,T.bind,bQ]
  ·rfl
 case extract x ix=>
  simp only [jT,aS]
  split
  ·split <;> simp [bQ]
  ·rfl
 case call c=>
  obtain ⟨callee,args,argTypes⟩:=c
  cases callee with
  | invoke _ _=>simp at h
  | value g=>
   simp only [jT,aS]
   split
   ·rename_i f caps vs hg hvs
    simp only [hg,hvs]
    unfold zH Ar
    cases hle:(C.sig f).lend with
    | some i1=>
     cases g with
     | func f'=>
      simp only [St.ev,Slot.cell,Slot.one.injEq,av.cell.injEq,Cell.qY.injEq] at hg
      obtain ⟨rfl,_⟩:=hg
      simp [hle] at h
     | tmp z=>
      have hl:Oper.IQ ⟨some d,.call ⟨.value (.tmp z),args,argTypes⟩,type,pos,after,guard⟩ C=false:=by simpa using h
      simp only [hl,cond_false]
      cases hmk:(C.sig f).wI with
      | true=>cases caps <;> rfl
      | false=>
      simp only [cond_false]
      split <;> rfl
     | const z=>
      have hl:Oper.IQ ⟨some d,.call ⟨.value (.const z),args,argTypes⟩,type,pos,after,guard⟩ C=false:=by simpa using h
      simp only [hl,cond_false]
      cases hmk:(C.sig f).wI with
      | true=>cases caps <;> rfl
      | false=>
      simp only [cond_false]
      split <;> rfl
     | global z=>
      have hl:Oper.IQ ⟨some d,.call ⟨.value (.global z),args,argTypes⟩,type,pos,after,guard⟩ C=false:=by simpa using h
      simp only [hl,cond_false]
      cases hmk:(C.sig f).wI with
      | true=>cases caps <;> rfl
      | false=>
      simp only [cond_false]
      split <;> rfl
    | none=>
    simp only
    cases zo:(C.sig f).io with
    | cons i0 r0=>
     cases g with
     | func f'=>
      simp only [St.ev,Slot.cell,Slot.one.injEq,av.cell.injEq,Cell.qY.injEq] at hg
      obtain ⟨rfl,_⟩:=hg
      simp [zo] at h
     | _=>rfl
    | nil=>
    simp only
    unfold JQ qZ
    simp only
    cases hf:C.P.funcs[f]? with
    | none=>rfl
    | some fn=>
     simp only
     split
     ·split
      ·rfl
      ·simp only [T.bind,Option.getD_some]
       congr 1
     ·rfl
   ·rename_i hno
    split
    ·rename_i f caps vs hg hvs
     exact (hno _ _ _ (by first | exact hg | exact hvs) (by first | exact hvs | exact hg)).elim
    ·rfl
  | builtin b=>
   cases b <;> try (simp at h;done)
   case len=>
    simp only [jT,aS]
    split
    ·split
     ·simp only [T.bind_assoc,T.lT,bQ]
     ·rfl
    ·rfl
   case max=>
    simp only [jT,aS]
    split
    ·exact NZ _ _
    ·rfl
   case min=>
    simp only [jT,aS]
    split
    ·exact NZ _ _
    ·rfl
end Go.Flat
