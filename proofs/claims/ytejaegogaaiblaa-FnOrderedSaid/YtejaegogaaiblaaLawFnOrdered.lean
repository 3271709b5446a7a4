/- The row of the law FnOrdered, out of its plain statement. No condition. -/
import Derived.Test.YtejaegogaaiblaaRows
import Derived.Test.YtejaegogaaiblaaFitF
import Derived.Test.YtejaegogaaiblaaPureFnOrdered
import Derived.WalkKit
import Derived.ProofKit
import Derived.OpenShut
import Derived.ShutString
import Derived.ChangeOld
import Derived.Below
import Derived.SizedLaws
import Derived.Test.YtejaegogaaiblaaBestW
set_option linter.unusedVariables false
namespace Go.Proofs.Ytejaegogaaiblaa.fnOrdered
open Go.ChangeShapes Go.WideShapes Go.ChangeAt Go.RowKit Go.Flat Go.QFnOrdered
theorem own : ownKnob Try.prog.godebug = none := by kernel_rfl
theorem laidOut : laidOutB Try.prog = true := by kernel_rfl
theorem good : Go.Flat.Good Go.QFnOrdered.C := ⟨by kernel_rfl, by kernel_rfl, by kernel_rfl⟩
theorem prim : PrimOk Go.QFnOrdered.C := fun f p h => by
  have h : (bif Nat.beq f 7 then some (primBest Go.QBest.awB Go.QBest.costF) else none) = some p := h
  cases hb0 : Nat.beq f 7 with
  | true =>
    rw [hb0] at h
    obtain rfl := Option.some.inj h
    obtain rfl := Nat.eq_of_beq_eq_true hb0
    exact ⟨by kernel_rfl, best_ok (C := Go.QFnOrdered.C) rfl Try.func7 (by kernel_rfl) (by kernel_rfl) (by kernel_rfl) Try.best_walk⟩
  | false =>
  rw [hb0] at h
  simp only [cond_false] at h
  cases h
theorem func : Try.prog.funcs[3]? = some Try.f3 := by kernel_rfl
theorem params : Try.f3.params.toList = [22] := by kernel_rfl
theorem result : Try.prog.underlying 4 = some .bool := by kernel_rfl
theorem okT22 : okTy Try.prog (.list (.int .u8)) 22 = true := by kernel_rfl
set_option maxRecDepth 100000 in
theorem lifted (os : Os) (started : os.Started) (H : Type) (enc : TypeId × Value → H) :
    ReturnsInHanded {} Try.checked os 3 .any (Rows.fnOrderedSpec.pre6 enc Try.prog Try.f3 Rows.fnOrderedRow.domain false) (Rows.fnOrderedSpec.post enc Try.prog Try.f3 false true false false) := by
  refine returnsInHanded_of_change_sized (C := Try.checked) own started (by kernel_rfl) func
    (ChangeSpec.witness6 (enc := enc) (C := Try.checked) false ⟨#[], #[.slice none 0 0], []⟩ 8 (by kernel_rfl) (by kernel_rfl) (by kernel_rfl) (by kernel_rfl)) ?_
  intro W base args ds gs before hval0 hW hcnd hsz0 _
  have hval : ∀ (j : Nat) t v, Try.f3.params[j]? = some t → args[j]? = some v → Value.okWide Try.prog W .any base t v := hval0
  have hvalL : ∀ (j : Nat) t v, Try.f3.params.toList[j]? = some t → args[j]? = some v → Value.okWide Try.prog W .any base t v := fun j t v h => hval j t v (by rw [← Array.getElem?_toList]; exact h)
  have hW' := hW
  obtain ⟨p, q, hA0, hV, rfl, hfz, hnd⟩ := hW
  have hA : DataW.TrodAll enc Try.prog W 0 (fun _ => true) true Try.f3.params.toList args.toList ds p := hA0
  rw [params] at hA hvalL
  obtain ⟨v0, vs0, d0, ds0, p0, q0, hargs, rfl, rfl, h0, r0⟩ := trodAll_cons hA
  obtain ⟨hvs0, rfl, rfl⟩ := trodAll_nil r0
  obtain rfl : args = #[v0] := by cases args; simp_all
  obtain ⟨rfl, rfl⟩ := trodVars_none hV
  have lt0 : ∀ x ∈ p0, x.block < W.heap.size := by obtain ⟨m, hm⟩ := h0; exact DataW.trod_lt m _ _ _ hm
  obtain ⟨a0, ha0, w0⟩ := arg_in okT22 (by kernel_rfl) (hvalL 0 22 v0 rfl rfl) h0
  obtain ⟨k, hk⟩ := Go.QFnOrdered.pure a0 w0
  refine (law_calls (C := Go.QFnOrdered.C) good prim (k := k) (args := [.val (.list (.int .u8)) a0]) (vals := [v0]) (w := W) func (by kernel_rfl) (fun x hx => by cases hx) (fun i j a b hi _ ha _ => by have hm := List.mem_of_getElem? hi; simp at hm; rcases hm with rfl <;> simp [Arg.isIo] at ha) ⟨rfl, fun i a v hi hv => ?_⟩ hk (by kernel_rfl)).mono fun e W' hh => ?_
  · rcases i with _ | i
    · simp at hi hv; subst hi hv; exact ha0
    · simp at hi
  obtain ⟨he, bel⟩ := hh
  subst he
  exact ⟨_, rfl, _, _, _, [], _, [], hW', trodAll_mk1 (shut_bool result _), (trodAll_cons_mk (Below.trod laidOut (by kernel_rfl) (of_decide_eq_true (by kernel_rfl)) h0 bel lt0) trodAll_mk0), rfl, bel.frame _, fun h => by cases h⟩
theorem over : Rows.fnOrderedRow.holds Try.pinned (OpenSpec.ofChange Rows.fnOrderedSpec) :=
  OpenClaim.holds_of_wide 3 Try.f3 rfl rfl rfl rfl rfl rfl rfl ⟨rfl, rfl, rfl, rfl, rfl⟩ rfl rfl rfl rfl rfl (by kernel_rfl) func (by kernel_rfl)
    (of_decide_eq_true (by kernel_rfl)) (by unfold Func.isWrapper; first | (rw [if_pos (by decide +kernel)]; kernel_rfl) | (rw [if_neg (by decide +kernel)]; exact ⟨rfl, rfl⟩))
    (fun os started H enc _ => lifted os started H enc)

theorem proved : Rows.FnOrderedSaid := over
#print axioms proved
end Go.Proofs.Ytejaegogaaiblaa.fnOrdered
namespace Go.Proofs.Ytejaegogaaiblaa
/-- The row, under a short name, for the claim. -/
theorem fnOrdered_holds : Rows.FnOrderedSaid := fnOrdered.proved
end Go.Proofs.Ytejaegogaaiblaa
