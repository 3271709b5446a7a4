/- The frame of a call beside the plain evaluator's state. No condition. -/
import Derived.Test.YtmocpfgfjeaelaaGreatData
import Derived.Laws.Sem
import GoSem.Claims
set_option linter.unusedVariables false
set_option linter.unusedSimpArgs false
namespace Go.Flat
namespace T
variable {α β R:Type} (ah:FuncId->(t:Ty)->List Arg->Option t.den)
@[simp] theorem bK (a:α) (κ:α->Option R):(T.ret a).run ah κ=κ a:=rfl
@[simp] theorem Fx (κ:α->Option R):(T.fail:T α).run ah κ=none:=rfl
@[simp] theorem lT (a:α) (f:α->T β):(T.ret a).bind f=f a:=rfl
@[simp] theorem VK (f:α->T β):(T.fail:T α).bind f=.fail:=rfl
theorem run_bind (x:T α) (f:α->T β) (κ:β->Option R):(x.bind f).run ah κ=x.run ah fun a=>(f a).run ah κ:=by
 induction x with
 | ret a=>rfl
 | fail=>rfl
 | br p d x y QU ihy=>simp only [T.bind,T.run,QU,ihy]
 | call f t args k ih=>simp only [T.bind,T.run];congr 1;funext r;exact ih r
theorem zl {p:Prop} [d:Decidable p] {x y:T α} {κ:α->Option R} {r:R} (h:(T.test p x y).run ah κ=some r) :
  (p/\x.run ah κ=some r)\/(¬ p/\y.run ah κ=some r):=by
 simp only [T.test,T.run] at h
 split at h
 ·rename_i hp;exact .inl ⟨hp,h⟩
 ·rename_i hp;exact .inr ⟨hp,h⟩
theorem eF {p:Prop} [d:Decidable p] {x:T α} {κ:α->Option R} {r:R} (h:(T.test p x .fail).run ah κ=some r) :
  p/\x.run ah κ=some r:=by
 rcases zl ah h with h | ⟨_,h⟩
 ·exact h
 ·simp at h
theorem sw {p:Prop} [d:Decidable p] {x:T α} {κ:α->Option R} {r:R} (h:(T.test p .fail x).run ah κ=some r) :
  ¬ p/\x.run ah κ=some r:=by
 rcases zl ah h with ⟨_,h⟩ | h
 ·simp at h
 ·exact h
end T
def mem (F0:jo) (G:Nat->Prop) (h:Array Obj) (aj:Nat->Option Entry) (pl:Nat->Option Pl):Mem:=⟨fun b=>F0 b\/G b,G,h,aj,pl,F0.pin,F0.len,F0.inn⟩
structure Inv (F0:jo) (G:Nat->Prop) (s:St) (a:Act) (w:World) (pl:Nat->Option Pl):Prop where
 size:a.tmps.size=s.n / 1048576
 env:∀ t,eY (mem F0 G w.heap s.aj pl) (s.env t) (a.tmps.getD t undef)
 aj:lg (mem F0 G w.heap s.aj pl)
 defers:a.defers=[]/\∀ t v,F0.par t=some v->t<s.n % 1048576/\a.tmps.getD t undef=v
def Str (m:Bool) (w w':World):Prop:=w'.os=w.os/\w'.tape=w.tape/\w'.output=w.output/\(m=true->w.drawn<=w'.drawn)
theorem Str.refl (m:Bool) (w:World):Str m w w:=⟨rfl,rfl,rfl,fun _=>Nat.le_refl _⟩
theorem Str.trans {m:Bool} {w w' w'':World} (h:Str m w w') (k:Str m w' w''):Str m w w'':=⟨k.1.trans h.1,k.2.1.trans h.2.1,k.2.2.1.trans h.2.2.1,fun e=>Nat.le_trans (h.2.2.2 e) (k.2.2.2 e)⟩
structure Fr (F0:jo) (G:Nat->Prop) (w:World) (G':Nat->Prop) (w':World):Prop where
 h:∀ b,F0 b\/G b->w'.heap[b]? = w.heap[b]?
 more:∀ b,G b->G' b
 new:∀ b,G' b->F0 b->G b
 size:w.heap.size<=w'.heap.size
 str:Str F0.mono w w'
theorem Fr.refl (F0:jo) (G:Nat->Prop) (w:World):Fr F0 G w G w:=⟨fun _ _=>rfl,fun _ h=>h,fun _ h _=>h,Nat.le_refl _,Str.refl _ _⟩
theorem Fr.trans {F0:jo} {G G' Ll:Nat->Prop} {w w' w'':World} (h:Fr F0 G w G' w') (h':Fr F0 G' w' Ll w''):Fr F0 G w Ll w'':=
 ⟨fun b hb=>(h'.h b (hb.imp id (h.more b))).trans (h.h b hb),fun b hb=>h'.more b (h.more b hb),fun b hb hf=>h.new b (h'.new b hb hf) hf,Nat.le_trans h.size h'.size,h.str.trans h'.str⟩
def Tab (C:aZ) (w:World) (F0:Nat->Prop):Prop:=∀ x ∈ C.tabs,w.var? C.P x.1=some (x.2.map fun z=>Value.int .u64 z).toArray/\∀ g,C.P.globalNamed x.1=some g->F0 g
theorem Tab.same {C:aZ} {w w':World} {F0:Nat->Prop} (h:Tab C w F0) (e:∀ b,F0 b->w'.heap[b]? = w.heap[b]?):Tab C w' F0:=by
 intro x hx
 obtain ⟨h1,h2⟩:=h x hx
 refine ⟨?_,h2⟩
 rw [<- h1]
 unfold World.var?
 cases hg:C.P.globalNamed x.1 with
 | none=>rfl
 | some g=>simp only [Option.bind_some];rw [e g (h2 g hg)]
def qz (C:aZ) (w:World) (F0:jo):Prop:=Tab C w F0.F/\(F0.mono=true->C.mono=true)
theorem qz.fr {C:aZ} {w w':World} {F0:jo} {G G':Nat->Prop} (h:qz C w F0) (fr:Fr F0 G w G' w'):qz C w' F0:=⟨h.1.same fun b hb=>fr.h b (.inl hb),h.2⟩
theorem qz.same {C:aZ} {w w':World} {F0:jo} (h:qz C w F0) (e:∀ b,F0 b->w'.heap[b]? = w.heap[b]?):qz C w' F0:=⟨h.1.same e,h.2⟩
theorem qz.str {C:aZ} {w0 w w':World} {F0:jo} (h:qz C w0 F0) (k:Str C.mono w w'):Str F0.mono w w':=⟨k.1,k.2.1,k.2.2.1,fun e=>k.2.2.2 (h.2 e)⟩
theorem Tab.more {C:aZ} {w:World} {F0 A:Nat->Prop} (h:Tab C w F0) (e:∀ b,F0 b->A b):Tab C w A:=fun x hx=>⟨(h x hx).1,fun g hg=>e g ((h x hx).2 g hg)⟩
def sS {R:Type} (F0:jo) (G:Nat->Prop) (w:World) (κ:St->Option R) (r:R) (a':Act) (w':World):Prop:=
 ∃ s' G' kK,κ s'=some r/\Inv F0 G' s' a' w' kK/\Fr F0 G w G' w'
theorem Inv.slot {F0:jo} {G:Nat->Prop} {s:St} {a:Act} {w:World} {pl:Nat->Option Pl} (i:Inv F0 G s a w pl) (x:Operand) :
  eY (mem F0 G w.heap s.aj pl) (s.ev x) (a.eval x):=by
 cases x with
 | tmp t=>exact i.env t
 | global g=>exact trivial
 | func f=>exact ⟨[],rfl,rfl,fun i c u hi=>by simp at hi⟩
 | const v=>
  simp only [St.ev,Act.eval]
  unfold ofConst
  split
  ·exact rfl
  ·exact rfl
  ·exact rfl
  ·exact rfl
  ·exact trivial
theorem upd_same {α:Type} (f:Nat->α) (i:Nat) (v:α):upd f i v i=v:=by simp [upd]
theorem upd_ne {α:Type} (f:Nat->α) {i j:Nat} (v:α) (h:j ≠ i):upd f i v j=f j:=by
 have:Nat.beq j i=false:=by cases e:Nat.beq j i with
  | false=>rfl
  | true=>exact absurd (Nat.eq_of_beq_eq_true e) h
 simp [upd,this]
theorem Lm (a:Act) (d:Nat) (v:Value) (t:Nat) (hd:d<a.tmps.size) :
  (a.tmps.setIfInBounds d v).getD t undef=if t=d then v else a.tmps.getD t undef:=by
 simp only [Array.getD_eq_getD_getElem?,Array.getElem?_setIfInBounds]
 by_cases h:t=d
 ·subst h;simp [hd]
 ·have h':¬ d=t:=fun e=>h e.symm
  simp [h,h']
theorem rA {R:Type} {ah:FuncId->(t:Ty)->List Arg->Option t.den} {F0:jo} {G:Nat->Prop} {s:St} {a:Act} {w:World} {pl:Nat->Option Pl} {v:Slot} {u:Value} {dst:Option Tmp} {κ:St->Option R} {r:R}
  (i:Inv F0 G s a w pl) (hv:eY (mem F0 G w.heap s.aj pl) v u) (h:(s.put dst v).run ah κ=some r) :
  ∃ s',κ s'=some r/\Inv F0 G s' (a.put dst u) w pl/\s'.aj=s.aj/\s'.n=s.n:=by
 cases dst with
 | none=>exact ⟨s,h,i,rfl,rfl⟩
 | some d=>
  simp only [St.put] at h
  cases hd:mR d s.n with
  | false=>simp [hd] at h
  | true=>
   simp only [hd,cond_true,T.bK] at h
   have hd':d<s.n / 1048576/\s.n % 1048576<=d:=by simpa [mR] using hd
   have hlt:d<a.tmps.size:=by rw [i.size];exact hd'.1
   refine ⟨_,h,⟨?_,fun t=>?_,i.aj,i.defers.1,fun t v ht=>⟨(i.defers.2 t v ht).1, ?_⟩⟩,rfl,rfl⟩
   ·simp [Act.put,i.size]
   ·simp only [Act.put]
    rw [Lm a d u t hlt]
    by_cases ht:t=d
    ·subst ht;rw [upd_same,if_pos rfl];exact hv
    ·rw [upd_ne _ _ ht,if_neg ht];exact i.env t
   ·obtain ⟨h1,h2⟩:=i.defers.2 t v ht
    show (a.tmps.setIfInBounds d u).getD t undef=v
    rw [Lm a d u t hlt,if_neg (by omega)]
    exact h2
theorem bM {R:Type} {P:Program} {o:Oper} {ah:FuncId->(t:Ty)->List Arg->Option t.den} {F0:jo} {G:Nat->Prop} {s:St} {a:Act} {w:World} {pl:Nat->Option Pl} {v:Slot} {u:Value} {κ:St->Option R} {r:R} {Q:Exit->Act->World->Prop}
  (i:Inv F0 G s a w pl) (hx:(execOp a.eval o).run P w=.ok (.value u) w) (hv:eY (mem F0 G w.heap s.aj pl) v u) (h:(s.put o.dst v).run ah κ=some r) :
  o.wp P a w (sS F0 G w κ r) Q:=by
 unfold Oper.wp
 rw [hx]
 show sS F0 G w κ r (a.put o.dst u) w
 obtain ⟨s',h1,h2,h3,h4⟩:=rA i hv h
 exact ⟨s',G,pl,h1,h2,Fr.refl _ _ _⟩
end Go.Flat
