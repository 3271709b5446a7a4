/- What copies a slot or looks into a box, beside what gives rows up. No condition. -/
import Derived.Test.YtmocpfgfjeaelaaGreatDrawC
set_option linter.unusedVariables false
set_option linter.unusedSimpArgs false
namespace Go.Flat
section
variable {C:dh} {ah:FuncId->(t:Ty)->List Arg->Option t.den} {ops:List Oper}
structure Shut (s:St) (P:Nat->Prop):Prop where
 ent:∀ i,P i->∃ e,s.ak i=some e
 box:∀ i t cs,P i->s.ak i=some (.box t cs)->∀ c ∈ cs,∀ j ∈ c.ids,P j
variable {s0:St}
theorem Shut.same {s s2:St} {P:Nat->Prop} (h:Shut s P) (hs:∀ i,P i->s2.ak i=s.ak i):Shut s2 P:=
 ⟨fun i hi=>by rw [hs i hi];exact h.ent i hi,fun i t cs hi hb=>h.box i t cs hi (by rw [<- hs i hi];exact hb)⟩
theorem Ub (hg:∀ o ∈ ops,o.guard=none) {j:Nat} {o:Oper} (ho:o ∈ ops) (hq:dw C o=true) {s s2:St} (h:(stepT C ops j o s).run ah some=some s2) :
  ∃ x v es σ,o.dst=some x/\(dB C o s).run ah some=some (v,es)/\dA s.ak es=some σ/\sF x s.n=true/\s2=⟨s.n,upd s.env x v,σ⟩:=by
 obtain ⟨x,hx⟩:∃ d,o.dst=some d:=Option.isSome_iff_exists.1 (by simp only [dw,Bool.and_eq_true] at hq;exact hq.1)
 rw [gL hq,hx,T.run_bind,kZ hg ho] at h
 obtain ⟨⟨v,es⟩,hv,h⟩:=T.bH h
 rw [bW] at h
 obtain ⟨σ,hσ,h⟩:=Option.bind_eq_some_iff.1 h
 cases hb:sF x s.n with
 | false=>rw [hb] at h;cases h
 | true=>
  rw [hb] at h
  simp only [cond_true,Option.some.injEq] at h
  exact ⟨x,v,es,σ,hx,hv,hσ,hb,h.symm⟩
end
end Go.Flat
