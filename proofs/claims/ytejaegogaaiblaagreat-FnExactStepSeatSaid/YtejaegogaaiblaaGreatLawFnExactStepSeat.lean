/- The row of the law FnExactStepSeat, out of its plain statement. No condition. -/
import Derived.Test.YtejaegogaaiblaaGreatRows
import Derived.Test.YtejaegogaaiblaaGreatFitF
import Derived.Test.YtejaegogaaiblaaGreatPureFnExactStepSeat
import Derived.WalkKit
import Derived.ProofKit
import Derived.OpenShut
import Derived.ShutString
import Derived.ChangeOld
import Derived.Below
import Derived.SizedLaws
import Derived.Test.YtejaegogaaiblaaGreatSeatW
set_option linter.unusedVariables false
namespace Go.Proofs.YtejaegogaaiblaaGreat.fnExactStepSeat
open Go.ChangeShapes Go.WideShapes Go.ChangeAt Go.RowKit Go.Flat Go.QFnExactStepSeat
theorem own : ownKnob Tryz.prog.godebug = none := by kernel_rfl
theorem laidOut : laidOutB Tryz.prog = true := by kernel_rfl
theorem good : Go.Flat.Good Go.QFnExactStepSeat.C := ⟨by kernel_rfl, by kernel_rfl, by kernel_rfl⟩
theorem prim : PrimOk Go.QFnExactStepSeat.C := fun f p h => by
  have h : (bif Nat.beq f 57 then some (primSeat Go.QSeat.plB Go.QSeat.scB Go.QSeat.canB) else none) = some p := h
  cases hb0 : Nat.beq f 57 with
  | true =>
    rw [hb0] at h
    obtain rfl := Option.some.inj h
    obtain rfl := Nat.eq_of_beq_eq_true hb0
    exact ⟨by kernel_rfl, seat_ok (C := Go.QFnExactStepSeat.C) rfl Tryz.func57 (by kernel_rfl) (by kernel_rfl) (by kernel_rfl) Tryz.seat_walk⟩
  | false =>
  rw [hb0] at h
  simp only [cond_false] at h
  cases h
theorem func : Tryz.prog.funcs[3]? = some Tryz.f3 := by kernel_rfl
theorem params : Tryz.f3.params.toList = [31, 3] := by kernel_rfl
theorem result : Tryz.prog.underlying 4 = some .bool := by kernel_rfl
theorem okT3 : okTy Tryz.prog (.int .i64) 3 = true := by kernel_rfl
theorem okT31 : okTy Tryz.prog T30 31 = true := by kernel_rfl
set_option maxRecDepth 100000 in
theorem lifted (os : Os) (started : os.Started) (H : Type) (enc : TypeId × Value → H) :
    ReturnsInHanded {} Tryz.checked os 3 .any (Rows.fnExactStepSeatSpec.pre6 enc Tryz.prog Tryz.f3 Rows.fnExactStepSeatRow.domain false) (Rows.fnExactStepSeatSpec.post enc Tryz.prog Tryz.f3 false true false false) := by
  refine returnsInHanded_of_change_sized (C := Tryz.checked) own started (by kernel_rfl) func
    (ChangeSpec.witness6 (enc := enc) (C := Tryz.checked) false ⟨#[], #[.agg #[.slice none 0 0, .int .i64 0, .int .i64 0, .slice none 0 0, .slice none 0 0, .slice none 0 0, .slice none 0 0, .slice none 0 0, .int .i64 0, .int .i64 0], .int .i64 0], []⟩ 8 (by kernel_rfl) (by kernel_rfl) (by kernel_rfl) (by kernel_rfl)) ?_
  intro W base args ds gs before hval0 hW hcnd hsz0 _
  have hval : ∀ (j : Nat) t v, Tryz.f3.params[j]? = some t → args[j]? = some v → Value.okWide Tryz.prog W .any base t v := hval0
  have hvalL : ∀ (j : Nat) t v, Tryz.f3.params.toList[j]? = some t → args[j]? = some v → Value.okWide Tryz.prog W .any base t v := fun j t v h => hval j t v (by rw [← Array.getElem?_toList]; exact h)
  have hW' := hW
  obtain ⟨p, q, hA0, hV, rfl, hfz, hnd⟩ := hW
  have hA : DataW.TrodAll enc Tryz.prog W 0 (fun _ => true) true Tryz.f3.params.toList args.toList ds p := hA0
  rw [params] at hA hvalL
  obtain ⟨v0, vs0, d0, ds0, p0, q0, hargs, rfl, rfl, h0, r0⟩ := trodAll_cons hA
  obtain ⟨v1, vs1, d1, ds1, p1, q1, hvs0, rfl, rfl, h1, r1⟩ := trodAll_cons r0
  obtain ⟨hvs1, rfl, rfl⟩ := trodAll_nil r1
  obtain rfl : args = #[v0, v1] := by cases args; simp_all
  obtain ⟨rfl, rfl⟩ := trodVars_none hV
  have lt0 : ∀ x ∈ p0, x.block < W.heap.size := by obtain ⟨m, hm⟩ := h0; exact DataW.trod_lt m _ _ _ hm
  obtain ⟨a0, ha0, w0⟩ := arg_in okT31 (by kernel_rfl) (hvalL 0 31 v0 rfl rfl) h0
  have lt1 : ∀ x ∈ p1, x.block < W.heap.size := by obtain ⟨m, hm⟩ := h1; exact DataW.trod_lt m _ _ _ hm
  obtain ⟨a1, ha1, w1⟩ := arg_in okT3 (by kernel_rfl) (hvalL 1 3 v1 rfl rfl) h1
  obtain ⟨k, hk⟩ := Go.QFnExactStepSeat.pure a0 a1 w0 w1
  refine (law_calls (C := Go.QFnExactStepSeat.C) good prim (k := k) (args := [.val T30 a0, .val (.int .i64) a1]) (vals := [v0, v1]) (w := W) func (by kernel_rfl) (fun x hx => by cases hx) (fun i j a b hi _ ha _ => by have hm := List.mem_of_getElem? hi; simp at hm; rcases hm with rfl | rfl <;> simp [Arg.isIo] at ha) ⟨rfl, fun i a v hi hv => ?_⟩ hk (by kernel_rfl)).mono fun e W' hh => ?_
  · rcases i with _ | i
    · simp at hi hv; subst hi hv; exact ha0
    rcases i with _ | i
    · simp at hi hv; subst hi hv; exact ha1
    · simp at hi
  obtain ⟨he, bel⟩ := hh
  subst he
  exact ⟨_, rfl, _, _, _, [], _, [], hW', trodAll_mk1 (shut_bool result _), (trodAll_cons_mk (Below.trod laidOut (by kernel_rfl) (of_decide_eq_true (by kernel_rfl)) h0 bel lt0) (trodAll_cons_mk (Below.trod laidOut (by kernel_rfl) (of_decide_eq_true (by kernel_rfl)) h1 bel lt1) trodAll_mk0)), rfl, bel.frame _, fun h => by cases h⟩
theorem over : Rows.fnExactStepSeatRow.holds Tryz.pinned (OpenSpec.ofChange Rows.fnExactStepSeatSpec) :=
  OpenClaim.holds_of_wide 3 Tryz.f3 rfl rfl rfl rfl rfl rfl rfl ⟨rfl, rfl, rfl, rfl, rfl⟩ rfl rfl rfl rfl rfl (by kernel_rfl) func (by kernel_rfl)
    (of_decide_eq_true (by kernel_rfl)) (by unfold Func.isWrapper; first | (rw [if_pos (by decide +kernel)]; kernel_rfl) | (rw [if_neg (by decide +kernel)]; exact ⟨rfl, rfl⟩))
    (fun os started H enc _ => lifted os started H enc)

theorem proved : Rows.FnExactStepSeatSaid := over
#print axioms proved
end Go.Proofs.YtejaegogaaiblaaGreat.fnExactStepSeat
namespace Go.Proofs.YtejaegogaaiblaaGreat
/-- The row, under a short name, for the claim. -/
theorem fnExactStepSeat_holds : Rows.FnExactStepSeatSaid := fnExactStepSeat.proved
end Go.Proofs.YtejaegogaaiblaaGreat
