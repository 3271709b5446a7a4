/- Whatever the evaluator answers, the program answers. No condition. -/
import Derived.Test.YtmocpfgfjeaelaaGreatCall3
set_option linter.unusedVariables false
set_option linter.unusedSimpArgs false
namespace Go.Flat
theorem LZ {C:aZ} (good:Good C) {ah:FuncId->(t:Ty)->List Arg->Option t.den} (hcall:ET C ah) (o:Oper):kD C ah o:=by
 obtain ⟨dst,op,type,pos,after,guard⟩:=o
 have no:(∀ s,jT C ⟨dst,op,type,pos,after,guard⟩ s=.fail)->kD C ah ⟨dst,op,type,pos,after,guard⟩:=by
  intro hf R F0 G s a w pl κ r Q i ht h
  rw [hf] at h
  simp at h
 cases op with
 | move x=>exact Tq x
 | assign x=>exact PO x
 | pick c x y=>exact Tk c x y
 | alloc t=>exact Rv good t
 | box t x=>exact UU t x
 | build t parts=>exact Rw good t parts
 | buildSlice t n parts=>exact Ie good t n parts
 | load t x=>
  cases htk:C.take dst t with
  | false=>exact Tm good t x htk
  | true=>exact TK good t x htk
 | store t p x=>exact Rz good t p x
 | nilCheck x=>exact Lp x
 | binOp op t x y t'=>exact RI good op t t' x y
 | unOp op t x=>exact Tj op t x
 | convert src dt x=>exact NR good src dt x
 | makeFunc fn first captured=>
  cases fn with
  | func f=>exact Lr f first captured
  | _=>exact no fun s=>rfl
 | makeSlice t l c=>exact Kl good t l c
 | slice t x lo hi mx=>
  cases mx with
  | none=>exact ok_slice good t x lo hi
  | some m=>exact no fun s=>rfl
 | fieldAddr t x ix=>exact JX good t x ix
 | field t x ix=>exact Rq good t x ix
 | indexAddr t x ix=>exact JZ good t x ix
 | index t x ix=>exact Rs t x ix
 | extract x ix=>exact NG x ix
 | call c=>
  obtain ⟨callee,args,argTypes⟩:=c
  cases callee with
  | value g=>exact TJ good hcall g args argTypes
  | invoke _ _=>exact no fun s=>rfl
  | builtin b=>
   cases b with
   | len=>exact UQ args argTypes
   | append=>exact PV good args argTypes
   | clear=>exact RJ good args argTypes
   | min=>exact Ve args argTypes
   | max=>exact Vf args argTypes
   | _=>exact no fun s=>rfl
 | _=>exact no fun s=>rfl
def EU (tmps:Array Value):ResultVar->Sem Value
 | .tmp t=>pure (tmps.getD t undef)
 | .cell x t=>do loadVar t (<- asAddr (tmps.getD x undef))
theorem pW {C:aZ} (good:Good C) {F0:jo} {G:Nat->Prop} {s:St} {a:Act} {w:World} {pl:Nat->Option Pl} (i:Inv F0 G s a w pl):∀ {rs:List ResultVar} {vs:List av},iU C s rs=some vs->
  ∃ us:List Value,(rs.mapM (EU a.tmps)).run C.P w=.ok us w/\us.length=vs.length/\∀ (j:Nat) c u,vs[j]? = some c->us[j]? = some u->dG (mem F0 G w.heap s.aj pl) c u
 | [],vs,h=>by
  simp [iU] at h
  subst h
  exact ⟨[],by simp,rfl,fun j c u hj=>by simp at hj⟩
 | .tmp t :: rs,vs,h=>by
  simp only [iU] at h
  split at h
  ·rename_i c r hs hr
   simp at h
   subst h
   obtain ⟨us,k1,k2,k3⟩:=pW good i hr
   have hv:=i.env t
   rw [hs] at hv
   refine ⟨a.tmps.getD t undef :: us, ?_,by simp [k2],fun j c' u hj hu=>?_⟩
   ·rw [List.mapM_cons]
    simp only [EU,Sem.run_bind,Sem.run_pure,Result.andThen_ok,k1]
   ·cases j with
    | succ j=>exact k3 j c' u (by simpa using hj) (by simpa using hu)
    | zero=>cases hj;cases hu;exact hv
  ·cases h
 | .cell x t :: rs,vs,h=>by
  simp only [iU] at h
  split at h
  ·rename_i n agg p r hsh hs hr
   split at h
   ·rename_i c hc
    simp at h
    subst h
    obtain ⟨us,k1,k2,k3⟩:=pW good i hr
    have hv:=i.env x
    rw [hs] at hv
    obtain ⟨b,o,es,u0,c0,h1,h2,h3,h4,h5,h6⟩:=Fz (n:=n) (agg:=agg) (p:=p) (ah:=fun _ _ _=>none) (κ:=some) i (fun e=>by subst e;exact aZ.yA hsh) hv (r:=c) (by rw [hc];rfl)
    simp at h6
    subst h6
    have hload:=zK good hsh h2 h3 h4
    unfold Instr.loadAt at hload
    simp only [Instr.sureAddr,Sem.run_bind,Sem.run_pure,Result.andThen_ok] at hload
    refine ⟨u0 :: us, ?_,by simp [k2],fun j c' u hj hu=>?_⟩
    ·rw [List.mapM_cons]
     simp only [EU,Sem.run_bind,h1,asAddr,Sem.run_pure,Result.andThen_ok,hload,k1]
    ·cases j with
     | succ j=>exact k3 j c' u (by simpa using hj) (by simpa using hu)
     | zero=>cases hj;cases hu;exact h5
   ·cases h
  ·cases h
end Go.Flat
