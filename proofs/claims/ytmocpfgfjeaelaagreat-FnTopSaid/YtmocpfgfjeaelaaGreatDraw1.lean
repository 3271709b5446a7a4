/- Operations that change nothing but their slots. No condition. -/
import Derived.Test.YtmocpfgfjeaelaaGreatRun2
set_option linter.unusedVariables false
set_option linter.unusedSimpArgs false
namespace Go.Flat
theorem T.bind_assoc {α β γ:Type} (x:T α) (f:α->T β) (g:β->T γ):(x.bind f).bind g=x.bind fun a=>(f a).bind g:=by
 induction x with
 | ret a=>rfl
 | fail=>rfl
 | br p d x y UQ ihy=>simp only [T.bind,UQ,ihy]
 | call f t args k ih=>simp only [T.bind];congr 1;funext r;exact ih r
def qz (dst:Option Tmp) (s:St) (x:Slot × List (Nat × Entry)):T St:=(mZ s x.2).bind fun s=>s.put dst x.1
theorem dN (dst:Option Tmp) (s:St) (v:Slot):qz dst s (v,[])=s.put dst v:=rfl
theorem sQ (dst:Option Tmp) (s:St) (v:Slot) (k:Nat) (e:Entry):qz dst s (v,[(k,e)])=(s.alloc k e).bind fun s=>s.put dst v:=by
 unfold qz
 simp only [mZ,T.bind_assoc,T.nU]
theorem EU {s:St} {u:Ty} (hp:u.plain=true):∀ {parts:List (Nat × Operand)} {l l':List u.den} {ids:List Nat},dG s u parts l []=some (l',ids)->ids=[]:=by
 have key:∀ {σ:Nat->Option Entry} {t:Ty} {cs:List Cell} {x:t.den} {rest:List Cell} {ids:List Nat},t.plain=true->aF σ .keep t cs=some (x,rest,ids)->ids=[]:=by
  intro σ t
  induction t with
  | list t _=>intro cs x rest ids hp;simp [Ty.plain] at hp
  | bR t _=>intro cs x rest ids hp;simp [Ty.plain] at hp
  | pair a b iha ihb=>
   intro cs x rest ids hp h
   simp only [Ty.plain,Bool.and_eq_true] at hp
   rw [jX] at h
   cases h1:aF σ .keep a cs with
   | none=>simp [h1] at h
   | some r1=>
    obtain ⟨x1,wz,KP⟩:=r1
    simp only [h1] at h
    cases h2:aF σ .keep b wz with
    | none=>simp [h2] at h
    | some r2=>
     obtain ⟨x2,uq,KQ⟩:=r2
     simp [h2] at h
     obtain ⟨rfl,rfl,rfl⟩:=h
     rw [iha hp.1 h1,ihb hp.2 h2]
     rfl
  | bool=>
   intro cs x rest ids _ h
   cases cs with
   | nil=>simp [aF] at h
   | cons c cs=>cases c <;> simp [aF] at h <;> (obtain ⟨_,_,rfl⟩:=h;rfl)
  | int k=>
   intro cs x rest ids _ h
   cases cs with
   | nil=>simp [aF] at h
   | cons c cs=>cases c <;> simp [aF] at h;obtain ⟨_,_,_,rfl⟩:=h;rfl
  | str=>
   intro cs x rest ids _ h
   cases cs with
   | nil=>simp [aF] at h
   | cons c cs=>cases c <;> simp [aF] at h;obtain ⟨_,_,rfl⟩:=h;rfl
  | unit=>
   intro cs x rest ids _ h
   cases cs with
   | nil=>simp [aF] at h;exact h.2
   | cons c cs=>cases c <;> simp [aF] at h <;> exact h.2
 intro parts
 induction parts with
 | nil=>intro l l' ids h;simp [dG] at h;exact h.2
 | cons p parts ih=>
  intro l l' ids h
  obtain ⟨i,x⟩:=p
  simp only [dG] at h
  split at h
  ·split at h
   ·rename_i y js hof
    split at h
    ·have hjs:js=[]:=by
      unfold bG at hof
      split at hof
      ·rename_i x' qE he
       simp at hof
       obtain ⟨rfl,rfl⟩:=hof
       exact key hp he
      ·cases hof
     subst hjs
     exact ih h
    ·cases h
   ·cases h
  ·cases h
theorem Rt {o:Oper} {g:Int->Int->Int} {k:IntKind} {s:St}:∀ (r:List Slot) (a:Int),mK.mm o g k a r s=(mmV g k a r).bind (qz o.dst s)
 | [],a=>rfl
 | x :: r,a=>by
  cases x with
  | Dm _=>rfl
  | one c=>
   cases c with
   | agg _=>rfl
   | cell c=>
    cases c <;> try rfl
    case int k' b=>
     simp only [mK.mm,mmV]
     split
     ·exact Rt r _
     ·rfl
theorem XR {C:dh} {o:Oper} {s:St} (h:dw C o=true):mK C o s=(dB C o s).bind (qz o.dst s):=by
 obtain ⟨dst,op,type,pos,after,guard⟩:=o
 simp only [dw,Bool.and_eq_true] at h
 obtain ⟨hd,h⟩:=h
 obtain ⟨d,rfl⟩:∃ d,dst=some d:=Option.isSome_iff_exists.1 hd
 cases op <;> try (simp at h;done)
 case move x=>
  simp only [mK,dB]
  split
  ·split
   ·simp [dN]
   ·split <;> simp [sQ,dN]
  ·simp [dN]
 case assign x=>
  simp only [mK,dB]
  split
  ·split
   ·simp [dN]
   ·split <;> simp [sQ,dN]
  ·simp [dN]
 case pick c a b=>
  simp only [mK,dB]
  split <;> simp [dN,T.bind]
 case alloc t=>
  simp only [mK,dB]
  split <;> simp [sQ]
 case box t x=>
  simp only [mK,dB]
  split
  ·split <;> simp [sQ]
  ·rfl
 case build t parts=>
  simp only [mK,dB]
  split
  ·split
   ·split <;> simp [dN]
   ·rfl
  ·rfl
 case buildSlice t n parts=>
  cases hbr:C.UY (some d) t with
  | true=>
   simp only [mK,dB,hbr,cond_true,EG]
   split
   ·rename_i e u d' he hd'
    cases hd'
    split
    ·cases hb:dG s u parts.toList (List.replicate n u.dflt) [] with
     | none=>rfl
     | some x=>
      obtain ⟨l,ids⟩:=x
      cases ids with
      | nil=>simp [dN]
      | cons _ _=>rfl
    ·rfl
   ·rfl
  | false=>
  simp only [hbr,Bool.false_or,Bool.and_eq_true] at h
  obtain ⟨h1,h⟩:=h
  have hdn:C.QJ t=none:=Option.isNone_iff_eq_none.1 h1
  simp only [mK,dB,hdn,hbr,cond_false]
  split
  ·rename_i e u d' he hd'
   have hp:u.plain=true:=by simpa [he] using h
   split
   ·cases hb:dG s u parts.toList (List.replicate n u.dflt) [] with
    | none=>rfl
    | some x=>
     obtain ⟨l,ids⟩:=x
     have:=EU hp hb
     subst this
     simp [sQ,cO]
   ·rfl
  ·rfl
 case load t x=>
  have htk:C.take (some d) t=false:=by simpa using h
  simp only [mK,dB,htk,cond_false]
  split
  ·simp only [T.bind_assoc,T.nU,dN]
  ·rfl
 case nilCheck x=>
  simp only [mK,dB]
  split <;> simp [dN]
 case binOp op t x y t'=>
  simp only [mK,dB,T.bind_assoc,T.nU,dN]
 case unOp op t x=>
  simp only [mK,dB,T.bind_assoc,T.nU,dN]
 case convert src dt x=>
  simp only [mK,dB]
  split
  ·simp [dN]
  ·simp [dN]
  ·split
   ·simp only [T.bind_assoc,T.nU,dN]
   ·rfl
  ·rfl
 case makeFunc fn first captured=>
  cases fn <;> try (simp at h;done)
  simp only [mK,dB]
  split
  ·split <;> simp [dN]
  ·rfl
 case makeSlice t l c=>
  have h:(C.QJ t).isNone=true:=by simpa using h
  have hdn:C.QJ t=none:=Option.isNone_iff_eq_none.1 h
  simp only [mK,dB,hdn,Option.isSome_none,cond_false]
  split
  ·split
   ·simp only [T.bind_assoc]
    congr 1
    funext x
    congr 1
    funext y
    simp only [T.test,T.bind,sQ]
   ·rfl
  ·rfl
 case slice t x lo hi mx=>
  cases mx with
  | some _=>simp at h
  | none=>
   simp only [mK,dB]
   split
   ·simp only [T.bind_assoc,T.nU,dN]
   ·split
    ·simp only [T.bind_assoc,T.nU,dN]
    ·rfl
   ·rfl
 case fieldAddr t x ix=>
  simp only [mK,dB]
  split <;> simp [dN]
 case field t x ix=>
  simp only [mK,dB]
  split
  ·split
   ·split <;> simp [dN]
   ·rfl
  ·rfl
 case indexAddr t x ix=>
  simp only [mK,dB,T.bind_assoc]
  congr 1
  funext y
  split
  ·simp only [T.bind_assoc,T.nU,dN]
  ·rfl
 case index t x ix=>
  simp only [mK,dB,T.bind_assoc]
  congr 1
  funext y
  split
  ·simp only [T.test,T.bind,dN]
  ·rfl
 case extract x ix=>
  simp only [mK,dB]
  split
  ·split <;> simp [dN]
  ·rfl
 case call c=>
  obtain ⟨callee,args,argTypes⟩:=c
  cases callee with
  | invoke _ _=>simp at h
  | value g=>
   simp only [mK,dB]
   split
   ·rename_i f caps vs hg hvs
    simp only [hg,hvs]
    unfold Iu Iw
    cases hle:(C.sig f).lend with
    | some i1=>
     cases g with
     | func f'=>
      simp only [St.ev,Slot.cell,Slot.one.injEq,aJ.cell.injEq,Cell.nL.injEq] at hg
      obtain ⟨rfl,_⟩:=hg
      simp [hle] at h
     | tmp z=>
      have hl:Oper.LG ⟨some d,.call ⟨.value (.tmp z),args,argTypes⟩,type,pos,after,guard⟩ C=false:=by simpa using h
      simp only [hl,cond_false]
      cases hmk:(C.sig f).yK with
      | true=>cases caps <;> rfl
      | false=>
      simp only [cond_false]
      split <;> rfl
     | const z=>
      have hl:Oper.LG ⟨some d,.call ⟨.value (.const z),args,argTypes⟩,type,pos,after,guard⟩ C=false:=by simpa using h
      simp only [hl,cond_false]
      cases hmk:(C.sig f).yK with
      | true=>cases caps <;> rfl
      | false=>
      simp only [cond_false]
      split <;> rfl
     | global z=>
      have hl:Oper.LG ⟨some d,.call ⟨.value (.global z),args,argTypes⟩,type,pos,after,guard⟩ C=false:=by simpa using h
      simp only [hl,cond_false]
      cases hmk:(C.sig f).yK with
      | true=>cases caps <;> rfl
      | false=>
      simp only [cond_false]
      split <;> rfl
    | none=>
    simp only
    cases Cw:(C.sig f).io with
    | cons i0 r0=>
     cases g with
     | func f'=>
      simp only [St.ev,Slot.cell,Slot.one.injEq,aJ.cell.injEq,Cell.nL.injEq] at hg
      obtain ⟨rfl,_⟩:=hg
      simp [Cw] at h
     | _=>rfl
    | nil=>
    simp only
    unfold Na zP
    simp only
    cases hf:C.P.funcs[f]? with
    | none=>rfl
    | some fn=>
     simp only
     split
     ·split
      ·rfl
      ·simp only [T.bind,Option.getD_some]
       congr 1
     ·rfl
   ·rename_i hno
    split
    ·rename_i f caps vs hg hvs
     exact (hno _ _ _ (by first | exact hg | exact hvs) (by first | exact hvs | exact hg)).elim
    ·rfl
  | builtin b=>
   cases b <;> try (simp at h;done)
   case len=>
    simp only [mK,dB]
    split
    ·split
     ·simp only [T.bind_assoc,T.nU,dN]
     ·rfl
    ·rfl
   case max=>
    simp only [mK,dB]
    split
    ·exact Rt _ _
    ·rfl
   case min=>
    simp only [mK,dB]
    split
    ·exact Rt _ _
    ·rfl
end Go.Flat
