/- Tools for walks: a call of a function value that lies in a slot, as one step. No condition. -/
import Derived.Test.YtaidfaagmecdlaaWLast
import Derived.Test.YtaidfaagmecdlaaWMore
import Derived.Test.YtaidfaagmecdlaaWKept
namespace Go.Proofs.Ytaidfaagmecdlaa.Fnw
open Go.RowKit Go.Proofs.YtaidfaagmecdlaaW.PrintWords Go.Proofs.YtaidfaagmecdlaaW.PrintLast Go.Proofs.YtaidfaagmecdlaaW.PrintMore
section
variable {P : Program} {ops : Array Oper} {rest : List Oper} {o : Oper} {a : Act} {W : World} {Q : Exit → Act → World → Prop}
/-- The operation is a call of what lies in this slot. -/
theorem gate_slot {t : Tmp} {as : Array Operand} {ts : Array TypeId} (_ho : o.op = .call { callee := .value (.tmp t), args := as, argTypes := ts }) (h : wpList P ops Q (o :: rest) a W) : wpList P ops Q (o :: rest) a W := h
theorem goesV_ {oi : Oper} {w : World} (N : Option Tmp) (hd : oi.dst = N) (hg : oi.guard = none) {f : FuncId} {fn : Func} {t : Tmp} {as : Array Operand} {ts : Array TypeId} (hf : P.funcs[f]? = some fn) (hname : (fn.name == "runtime.NumGoroutine") = false) (hb : fn.body.isSome = true) (args : Array Value)
    (hop : oi.op = .call { callee := .value (.tmp t), args := as, argTypes := ts }) {cap : Array Value} (hv : a.eval (.tmp t) = .func (.func f) #[] cap) (hargs : as.map a.eval ++ cap = args)
    (h : Calls P f args w fun e w' => ∃ v, e = .returned v ∧ wpList P ops Q rest (a.put N v) w') : wpList P ops Q (oi :: rest) a w := by
  refine wpList_plain hg fun K hK => ?_
  have he := enters_ hf hname hb args w
  have hrun : (execOp a.eval oi).run P w = .ok (.enter f args) w := by
    unfold execOp
    simp [hop, resolve, Deferred.ofValue, invoke, hv, hargs, he]
  unfold Oper.wp
  rw [hrun, Oper.upon_enter]
  refine h.mono fun e w'' hh => ?_
  obtain ⟨v, rfl, hk⟩ := hh
  subst hd
  exact hK _ _ hk
theorem goesW_ {oi : Oper} {N : Option Tmp} {w : World} {K : Act → World → Prop} {f : FuncId} {fn : Func} {t : Tmp} {as : Array Operand} {ts : Array TypeId} (hf : P.funcs[f]? = some fn) (hname : (fn.name == "runtime.NumGoroutine") = false) (hb : fn.body.isSome = true) (args : Array Value)
    (hw : Region.wanted oi (yielded ops a.tmps) = true) (hN : oi.dst = N) (hop : oi.op = .call { callee := .value (.tmp t), args := as, argTypes := ts }) {cap : Array Value} (hv : a.eval (.tmp t) = .func (.func f) #[] cap) (hargs : as.map a.eval ++ cap = args)
    (h : Calls P f args w fun e w' => ∃ v, e = .returned v ∧ K (a.put N v) w') : if Region.wanted oi (yielded ops a.tmps) = true then Oper.wp P oi a w K Q else K (a.put N undef) w := by
  refine call_ f args hw hN ?_ h
  have he := enters_ hf hname hb args w
  unfold execOp
  simp [hop, resolve, Deferred.ofValue, invoke, hv, hargs, he]
end
/-- A variable in memory, as a row of one element that is read. -/
theorem C_box {α : Type} {d : Kd α} {w : World} {g T : Nat} {cs : Array Value} {x : α} (hb : w.heap[g]? = some (.cells cs T (0, 0))) (hK : d.K w x cs.toList) : d.C w (some ⟨g, 0, none⟩) 1 [x] := by
  refine ⟨rfl, by omega, fun _ => ⟨⟨g, 0, none⟩, rfl, fun j p hp => ?_⟩⟩
  obtain ⟨rfl, rfl⟩ : j = 0 ∧ p = x := by
    cases j with
    | zero => simpa [eq_comm] using hp
    | succ j => simp at hp
  refine ⟨cs.toList, d.K_len hK, hK, fun i u hu => ?_⟩
  have hc := blk_cell hb i
  rw [Nat.zero_mul, Nat.zero_add]
  have ha : (⟨g, 0, none⟩ : Addr).add i = ⟨g, i, none⟩ := by
    unfold Addr.add
    by_cases h : i = 0
    · subst h; rfl
    · rw [if_neg h]; simp
  rw [ha, hc]
  simpa using hu
theorem C_kept_box {α : Type} {d : Kd α} {w : World} {g T : Nat} {cs : Array Value} {x : α} {S : Nat → Prop} (hb : w.heap[g]? = some (.cells cs T (0, 0))) (hK : ∀ W, d.K W x cs.toList) (hS : ∀ k, S k → k = g → False) : ∀ W', Kept w W' S → d.C W' (some ⟨g, 0, none⟩) 1 [x] := fun W' hk =>
  C_box ((hk.2 g (Array.getElem?_eq_some_iff.1 hb).1 (fun h => hS g h rfl)).trans hb) (hK W')
end Go.Proofs.Ytaidfaagmecdlaa.Fnw
