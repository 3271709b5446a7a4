/- The row of the law FnExactExamplePlayers, out of its plain statement. No condition. -/
import Derived.Test.YtkfnhbdloidfmaaRows
import Derived.Test.YtkfnhbdloidfmaaFitF
import Derived.Test.YtkfnhbdloidfmaaPureFnExactExamplePlayers
import Derived.WalkKit
import Derived.ProofKit
import Derived.OpenShut
import Derived.ShutString
import Derived.ChangeOld
import Derived.Below
import Derived.SizedLaws
set_option linter.unusedVariables false
namespace Go.Proofs.Ytkfnhbdloidfmaa.fnExactExamplePlayers
open Go.ChangeShapes Go.WideShapes Go.ChangeAt Go.RowKit Go.Flat Go.QFnExactExamplePlayers
theorem own : ownKnob Try.prog.godebug = none := by kernel_rfl
theorem laidOut : laidOutB Try.prog = true := by kernel_rfl
theorem good : Go.Flat.Good Go.QFnExactExamplePlayers.C := ⟨by kernel_rfl, by kernel_rfl, by kernel_rfl⟩
theorem prim : PrimOk Go.QFnExactExamplePlayers.C := fun f p h => by cases h
theorem func : Try.prog.funcs[3]? = some Try.f3 := by kernel_rfl
theorem params : Try.f3.params.toList = [] := by kernel_rfl
theorem result : Try.prog.underlying 4 = some .bool := by kernel_rfl
set_option maxRecDepth 100000 in
theorem lifted (os : Os) (started : os.Started) (H : Type) (enc : TypeId × Value → H) :
    ReturnsInHanded {} Try.checked os 3 .any (Rows.fnExactExamplePlayersSpec.pre6 enc Try.prog Try.f3 Rows.fnExactExamplePlayersRow.domain false) (Rows.fnExactExamplePlayersSpec.post enc Try.prog Try.f3 false true false false) := by
  refine returnsInHanded_of_change_sized (C := Try.checked) own started (by kernel_rfl) func
    (ChangeSpec.witness6 (enc := enc) (C := Try.checked) false ⟨#[], #[], []⟩ 8 (by kernel_rfl) (by kernel_rfl) (by kernel_rfl) (by kernel_rfl)) ?_
  intro W base args ds gs before hval0 hW hcnd hsz0 _
  have hval : ∀ (j : Nat) t v, Try.f3.params[j]? = some t → args[j]? = some v → Value.okWide Try.prog W .any base t v := hval0
  have hvalL : ∀ (j : Nat) t v, Try.f3.params.toList[j]? = some t → args[j]? = some v → Value.okWide Try.prog W .any base t v := fun j t v h => hval j t v (by rw [← Array.getElem?_toList]; exact h)
  have hW' := hW
  obtain ⟨p, q, hA0, hV, rfl, hfz, hnd⟩ := hW
  have hA : DataW.TrodAll enc Try.prog W 0 (fun _ => true) true Try.f3.params.toList args.toList ds p := hA0
  rw [params] at hA hvalL
  obtain ⟨hargs, rfl, rfl⟩ := trodAll_nil hA
  obtain rfl : args = #[] := by cases args; simp_all
  obtain ⟨rfl, rfl⟩ := trodVars_none hV
  obtain ⟨k, hk⟩ := Go.QFnExactExamplePlayers.pure  
  refine (law_calls (C := Go.QFnExactExamplePlayers.C) good prim (k := k) (args := []) (vals := []) (w := W) func (by kernel_rfl) (fun x hx => by cases hx) (fun i j a b hi _ ha _ => by simp at hi) ⟨rfl, fun i a v hi hv => ?_⟩ hk).mono fun e W' hh => ?_
  · · simp at hi
  obtain ⟨he, bel⟩ := hh
  subst he
  exact ⟨_, rfl, _, _, _, [], _, [], hW', trodAll_mk1 (shut_bool result _), trodAll_mk0, rfl, bel.frame _, fun h => by cases h⟩
theorem over : Rows.fnExactExamplePlayersRow.holds Try.pinned (OpenSpec.ofChange Rows.fnExactExamplePlayersSpec) :=
  OpenClaim.holds_of_wide 3 Try.f3 rfl rfl rfl rfl rfl rfl rfl ⟨rfl, rfl, rfl, rfl, rfl⟩ rfl rfl rfl rfl rfl (by kernel_rfl) func (by kernel_rfl)
    (of_decide_eq_true (by kernel_rfl)) (by unfold Func.isWrapper; first | (rw [if_pos (by decide +kernel)]; kernel_rfl) | (rw [if_neg (by decide +kernel)]; exact ⟨rfl, rfl⟩))
    (fun os started H enc _ => lifted os started H enc)

theorem proved : Rows.FnExactExamplePlayersSaid := over
#print axioms proved
end Go.Proofs.Ytkfnhbdloidfmaa.fnExactExamplePlayers
namespace Go.Proofs.Ytkfnhbdloidfmaa
/-- The row, under a short name, for the claim. -/
theorem fnExactExamplePlayers_holds : Rows.FnExactExamplePlayersSaid := fnExactExamplePlayers.proved
end Go.Proofs.Ytkfnhbdloidfmaa
