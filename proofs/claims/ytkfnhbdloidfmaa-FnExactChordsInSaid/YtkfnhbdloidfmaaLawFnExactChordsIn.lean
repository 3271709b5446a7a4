/- The row of the law FnExactChordsIn, out of its plain statement. No condition. -/
import Derived.Test.YtkfnhbdloidfmaaRows
import Derived.Test.YtkfnhbdloidfmaaFitF
import Derived.Test.YtkfnhbdloidfmaaPureFnExactChordsIn
import Derived.WalkKit
import Derived.ProofKit
import Derived.OpenShut
import Derived.ShutString
import Derived.ChangeOld
import Derived.Below
import Derived.SizedLaws
import Derived.Test.YtkfnhbdloidfmaaSh
set_option linter.unusedVariables false
namespace Go.Proofs.Ytkfnhbdloidfmaa.fnExactChordsIn
open Go.ChangeShapes Go.WideShapes Go.ChangeAt Go.RowKit Go.Flat Go.QFnExactChordsIn
theorem own : ownKnob Try.prog.godebug = none := by kernel_rfl
theorem laidOut : laidOutB Try.prog = true := by kernel_rfl
theorem good : Go.Flat.Good Go.QFnExactChordsIn.C := ⟨by kernel_rfl, by kernel_rfl, by kernel_rfl⟩
theorem prim : PrimOk Go.QFnExactChordsIn.C := fun f p h => by
  have h : (bif Nat.beq f 133 then some primSort else none) = some p := h
  cases hb0 : Nat.beq f 133 with
  | true =>
    rw [hb0] at h
    obtain rfl := Option.some.inj h
    obtain rfl := Nat.eq_of_beq_eq_true hb0
    exact sort_ok (C := Go.QFnExactChordsIn.C) Try.func133 (by kernel_rfl) (by kernel_rfl) Try.slices_Sort_int_none Try.slices_Sort_int
  | false =>
  rw [hb0] at h
  simp only [cond_false] at h
  cases h
theorem func : Try.prog.funcs[10]? = some Try.f10 := by kernel_rfl
theorem params : Try.f10.params.toList = [59] := by kernel_rfl
theorem result : Try.prog.underlying 4 = some .bool := by kernel_rfl
theorem okT59 : okTy Try.prog (.list T135) 59 = true := by kernel_rfl
set_option maxRecDepth 100000 in
theorem lifted (os : Os) (started : os.Started) (H : Type) (enc : TypeId × Value → H) :
    ReturnsInHanded {} Try.checked os 10 .any (Rows.fnExactChordsInSpec.pre6 enc Try.prog Try.f10 Rows.fnExactChordsInRow.domain false) (Rows.fnExactChordsInSpec.post enc Try.prog Try.f10 false true false false) := by
  refine returnsInHanded_of_change_sized (C := Try.checked) own started (by kernel_rfl) func
    (ChangeSpec.witness6 (enc := enc) (C := Try.checked) false ⟨#[], #[.slice none 0 0], []⟩ 8 (by kernel_rfl) (by kernel_rfl) (by kernel_rfl) (by kernel_rfl)) ?_
  intro W base args ds gs before hval0 hW hcnd hsz0 _
  have hval : ∀ (j : Nat) t v, Try.f10.params[j]? = some t → args[j]? = some v → Value.okWide Try.prog W .any base t v := hval0
  have hvalL : ∀ (j : Nat) t v, Try.f10.params.toList[j]? = some t → args[j]? = some v → Value.okWide Try.prog W .any base t v := fun j t v h => hval j t v (by rw [← Array.getElem?_toList]; exact h)
  have hW' := hW
  obtain ⟨p, q, hA0, hV, rfl, hfz, hnd⟩ := hW
  have hA : DataW.TrodAll enc Try.prog W 0 (fun _ => true) true Try.f10.params.toList args.toList ds p := hA0
  rw [params] at hA hvalL
  obtain ⟨v0, vs0, d0, ds0, p0, q0, hargs, rfl, rfl, h0, r0⟩ := trodAll_cons hA
  obtain ⟨hvs0, rfl, rfl⟩ := trodAll_nil r0
  obtain rfl : args = #[v0] := by cases args; simp_all
  obtain ⟨rfl, rfl⟩ := trodVars_none hV
  have lt0 : ∀ x ∈ p0, x.block < W.heap.size := by obtain ⟨m, hm⟩ := h0; exact DataW.trod_lt m _ _ _ hm
  obtain ⟨a0, ha0, w0⟩ := arg_in okT59 (by kernel_rfl) (hvalL 0 59 v0 rfl rfl) h0
  obtain ⟨k, hk⟩ := Go.QFnExactChordsIn.pure a0 w0
  refine (law_calls (C := Go.QFnExactChordsIn.C) good prim (k := k) (args := [.val (.list T135) a0]) (vals := [v0]) (w := W) func (by kernel_rfl) (fun x hx => by cases hx) (fun i j a b hi _ ha _ => by have hm := List.mem_of_getElem? hi; simp at hm; rcases hm with rfl <;> simp [Arg.isIo] at ha) ⟨rfl, fun i a v hi hv => ?_⟩ hk).mono fun e W' hh => ?_
  · rcases i with _ | i
    · simp at hi hv; subst hi hv; exact ha0
    · simp at hi
  obtain ⟨he, bel⟩ := hh
  subst he
  exact ⟨_, rfl, _, _, _, [], _, [], hW', trodAll_mk1 (shut_bool result _), (trodAll_cons_mk (Below.trod laidOut (by kernel_rfl) (of_decide_eq_true (by kernel_rfl)) h0 bel lt0) trodAll_mk0), rfl, bel.frame _, fun h => by cases h⟩
theorem over : Rows.fnExactChordsInRow.holds Try.pinned (OpenSpec.ofChange Rows.fnExactChordsInSpec) :=
  OpenClaim.holds_of_wide 10 Try.f10 rfl rfl rfl rfl rfl rfl rfl ⟨rfl, rfl, rfl, rfl, rfl⟩ rfl rfl rfl rfl rfl (by kernel_rfl) func (by kernel_rfl)
    (of_decide_eq_true (by kernel_rfl)) (by unfold Func.isWrapper; first | (rw [if_pos (by decide +kernel)]; kernel_rfl) | (rw [if_neg (by decide +kernel)]; exact ⟨rfl, rfl⟩))
    (fun os started H enc _ => lifted os started H enc)

theorem proved : Rows.FnExactChordsInSaid := over
#print axioms proved
end Go.Proofs.Ytkfnhbdloidfmaa.fnExactChordsIn
namespace Go.Proofs.Ytkfnhbdloidfmaa
/-- The row, under a short name, for the claim. -/
theorem fnExactChordsIn_holds : Rows.FnExactChordsInSaid := fnExactChordsIn.proved
end Go.Proofs.Ytkfnhbdloidfmaa
