/- Functions of Go's library whose answers are told by their contracts. No condition. -/
import Derived.Test.YtmocpfgfjeaelaaGreatDraw4
import Derived.Lib.Join
import Derived.Lib.ItoaNum
import Derived.Lib.Repeat
import Derived.Lib.LaidTab
import Derived.Sort.Grow
import Derived.Deep.Draws
import Derived.Below
set_option linter.unusedVariables false
set_option linter.unusedSimpArgs false
namespace Go.Flat
open Go.RowKit
section
variable {C:dh} {f:FuncId} {fn:Func}
theorem Ii {A G:Nat->Prop} {h:Array Obj} {k:IntKind} {n:Int} {v:Value} (ha:ArgRel A G h (.val (.int k) n) v):v=.int k n:=by
 obtain ⟨es,hes,hv⟩:=ha
 have hes:es=[.int k n]:=hes
 subst hes
 have hv:[Value.int k n]=[v]:=hv
 simpa using hv.symm
theorem NJ {p:(t:Ty)->List Arg->Option t.den} (hf:C.P.funcs[f]? = some fn) (hb:fn.body.isSome=true) (hno:∀ (t:Ty) (args:List Arg) (r:t.den) (T:Ty) (x:T.den),p t args=some r->Arg.lend T x ∉ args/\Arg.iF T x ∉ args)
  (h:∀ (t:Ty) (args:List Arg) (r:t.den),p t args=some r->∀ (w:World) (A G:Nat->Prop) (vals:List Value),(∀ b,A b->b<w.heap.size)->(∀ b,G b->A b)->Tab C w A->gZ A G w.heap args vals->
   Calls C.P f vals.toArray w fun e w'=>∃ v G' ps,e=.returned v/\w.heap.size<=w'.heap.size/\Str C.mono w w'/\(∀ b,A b->w'.heap[b]? = w.heap[b]?)/\(∀ b,G b->G' b)/\(∀ b,G' b->G b\/(¬ A b/\b<w'.heap.size)) /\
    wF (C.sig f).own (Nat.beq fn.resultTypes.size 1) t G' w'.heap r v ps/\(∀ b ∈ blks ps,¬ A b/\¬ G' b/\b<w'.heap.size)/\(blks ps).Nodup) :
  ET C fun g t args=>if g=f then p t args else none:=by
 refine ⟨?_,fun g fn' rt T x i args r hg hrun hai=>(by
  by_cases hgf:g=f
  ·exact absurd (List.mem_of_getElem? hai) (hno _ args r T x (by simpa [hgf] using hrun)).1
  ·simp [hgf] at hrun),fun g fn' rt T x i args r hg hrun hai=>(by
  by_cases hgf:g=f
  ·exact absurd (List.mem_of_getElem? hai) (hno _ args r T x (by simpa [hgf] using hrun)).2
  ·simp [hgf] at hrun)⟩
 intro g fn' t args r hg hrun
 by_cases hgf:g=f
 ·subst hgf
  rw [hf] at hg
  cases hg
  exact fun _=>⟨hb,fun w A G vals hA sD htab _ hargs=>h t args r (by simpa using hrun) w A G vals hA sD htab hargs⟩
 ·simp [hgf] at hrun
end
end Go.Flat
