/- The row of the law FnExactStepTempo, out of its plain statement. No condition. -/
import Derived.Test.YtocpdnbhdnaobaaGreatRows
import Derived.Test.YtocpdnbhdnaobaaGreatFitF
import Derived.Test.YtocpdnbhdnaobaaGreatPureFnExactStepTempo
import Derived.WalkKit
import Derived.ProofKit
import Derived.OpenShut
import Derived.ShutString
import Derived.ChangeOld
import Derived.Below
import Derived.SizedLaws
import Derived.Test.YtocpdnbhdnaobaaGreatInsW80
set_option linter.unusedVariables false
namespace Go.Proofs.YtocpdnbhdnaobaaGreat.fnExactStepTempo
open Go.ChangeShapes Go.WideShapes Go.ChangeAt Go.RowKit Go.Flat Go.QFnExactStepTempo
theorem own : ownKnob Tryz.prog.godebug = none := by kernel_rfl
theorem laidOut : laidOutB Tryz.prog = true := by kernel_rfl
theorem good : Go.Flat.Good Go.QFnExactStepTempo.C := ⟨by kernel_rfl, by kernel_rfl, by kernel_rfl⟩
theorem prim : PrimOk Go.QFnExactStepTempo.C := fun f p h => by
  have h : (bif Nat.beq f 80 then some (primInsert T23 16) else none) = some p := h
  cases hb0 : Nat.beq f 80 with
  | true =>
    rw [hb0] at h
    obtain rfl := Option.some.inj h
    obtain rfl := Nat.eq_of_beq_eq_true hb0
    exact insert_ok (C := Go.QFnExactStepTempo.C) 2 16 (.agg #[.int .i64 0, .int .i64 0]) rfl (by decide) (by decide) rfl rfl (by kernel_rfl) Tryz.func80 (by kernel_rfl) (by kernel_rfl) Tryz.insert80_shift Tryz.insert80_room Tryz.insert80_new Tryz.insert80_grow
  | false =>
  rw [hb0] at h
  simp only [cond_false] at h
  cases h
theorem func : Tryz.prog.funcs[5]? = some Tryz.f5 := by kernel_rfl
theorem params : Tryz.f5.params.toList = [31, 54] := by kernel_rfl
theorem result : Tryz.prog.underlying 4 = some .bool := by kernel_rfl
theorem okT31 : okTy Tryz.prog T30 31 = true := by kernel_rfl
theorem okT54 : okTy Tryz.prog T23 54 = true := by kernel_rfl
set_option maxRecDepth 100000 in
theorem lifted (os : Os) (started : os.Started) (H : Type) (enc : TypeId × Value → H) :
    ReturnsInHanded {} Tryz.checked os 5 .any (Rows.fnExactStepTempoSpec.pre6 enc Tryz.prog Tryz.f5 Rows.fnExactStepTempoRow.domain false) (Rows.fnExactStepTempoSpec.post enc Tryz.prog Tryz.f5 false true false false) := by
  refine returnsInHanded_of_change_sized (C := Tryz.checked) own started (by kernel_rfl) func
    (ChangeSpec.witness6 (enc := enc) (C := Tryz.checked) false ⟨#[], #[.agg #[.slice none 0 0, .int .i64 0, .int .i64 0, .slice none 0 0, .slice none 0 0, .slice none 0 0, .slice none 0 0, .slice none 0 0, .int .i64 0, .int .i64 0], .agg #[.int .i64 0, .int .i64 0]], []⟩ 8 (by kernel_rfl) (by kernel_rfl) (by kernel_rfl) (by kernel_rfl)) ?_
  intro W base args ds gs before hval0 hW hcnd hsz0 _
  have hval : ∀ (j : Nat) t v, Tryz.f5.params[j]? = some t → args[j]? = some v → Value.okWide Tryz.prog W .any base t v := hval0
  have hvalL : ∀ (j : Nat) t v, Tryz.f5.params.toList[j]? = some t → args[j]? = some v → Value.okWide Tryz.prog W .any base t v := fun j t v h => hval j t v (by rw [← Array.getElem?_toList]; exact h)
  have hW' := hW
  obtain ⟨p, q, hA0, hV, rfl, hfz, hnd⟩ := hW
  have hA : DataW.TrodAll enc Tryz.prog W 0 (fun _ => true) true Tryz.f5.params.toList args.toList ds p := hA0
  rw [params] at hA hvalL
  obtain ⟨v0, vs0, d0, ds0, p0, q0, hargs, rfl, rfl, h0, r0⟩ := trodAll_cons hA
  obtain ⟨v1, vs1, d1, ds1, p1, q1, hvs0, rfl, rfl, h1, r1⟩ := trodAll_cons r0
  obtain ⟨hvs1, rfl, rfl⟩ := trodAll_nil r1
  obtain rfl : args = #[v0, v1] := by cases args; simp_all
  obtain ⟨rfl, rfl⟩ := trodVars_none hV
  have lt0 : ∀ x ∈ p0, x.block < W.heap.size := by obtain ⟨m, hm⟩ := h0; exact DataW.trod_lt m _ _ _ hm
  obtain ⟨a0, ha0, w0⟩ := arg_in okT31 (by kernel_rfl) (hvalL 0 31 v0 rfl rfl) h0
  have lt1 : ∀ x ∈ p1, x.block < W.heap.size := by obtain ⟨m, hm⟩ := h1; exact DataW.trod_lt m _ _ _ hm
  obtain ⟨a1, ha1, w1⟩ := arg_in okT54 (by kernel_rfl) (hvalL 1 54 v1 rfl rfl) h1
  obtain ⟨k, hk⟩ := Go.QFnExactStepTempo.pure a0 a1 w0 w1
  refine (law_calls (C := Go.QFnExactStepTempo.C) good prim (k := k) (args := [.val T30 a0, .val T23 a1]) (vals := [v0, v1]) (w := W) func (by kernel_rfl) (fun x hx => by cases hx) (fun i j a b hi _ ha _ => by have hm := List.mem_of_getElem? hi; simp at hm; rcases hm with rfl | rfl <;> simp [Arg.isIo] at ha) ⟨rfl, fun i a v hi hv => ?_⟩ hk).mono fun e W' hh => ?_
  · rcases i with _ | i
    · simp at hi hv; subst hi hv; exact ha0
    rcases i with _ | i
    · simp at hi hv; subst hi hv; exact ha1
    · simp at hi
  obtain ⟨he, bel⟩ := hh
  subst he
  exact ⟨_, rfl, _, _, _, [], _, [], hW', trodAll_mk1 (shut_bool result _), (trodAll_cons_mk (Below.trod laidOut (by kernel_rfl) (of_decide_eq_true (by kernel_rfl)) h0 bel lt0) (trodAll_cons_mk (Below.trod laidOut (by kernel_rfl) (of_decide_eq_true (by kernel_rfl)) h1 bel lt1) trodAll_mk0)), rfl, bel.frame _, fun h => by cases h⟩
theorem over : Rows.fnExactStepTempoRow.holds Tryz.pinned (OpenSpec.ofChange Rows.fnExactStepTempoSpec) :=
  OpenClaim.holds_of_wide 5 Tryz.f5 rfl rfl rfl rfl rfl rfl rfl ⟨rfl, rfl, rfl, rfl, rfl⟩ rfl rfl rfl rfl rfl (by kernel_rfl) func (by kernel_rfl)
    (of_decide_eq_true (by kernel_rfl)) (by unfold Func.isWrapper; first | (rw [if_pos (by decide +kernel)]; kernel_rfl) | (rw [if_neg (by decide +kernel)]; exact ⟨rfl, rfl⟩))
    (fun os started H enc _ => lifted os started H enc)

theorem proved : Rows.FnExactStepTempoSaid := over
#print axioms proved
end Go.Proofs.YtocpdnbhdnaobaaGreat.fnExactStepTempo
namespace Go.Proofs.YtocpdnbhdnaobaaGreat
/-- The row, under a short name, for the claim. -/
theorem fnExactStepTempo_holds : Rows.FnExactStepTempoSaid := fnExactStepTempo.proved
end Go.Proofs.YtocpdnbhdnaobaaGreat
