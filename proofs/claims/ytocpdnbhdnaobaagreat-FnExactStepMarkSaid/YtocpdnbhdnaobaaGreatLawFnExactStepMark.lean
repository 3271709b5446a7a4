/- The row of the law FnExactStepMark, out of its plain statement. No condition. -/
import Derived.Test.YtocpdnbhdnaobaaGreatRows
import Derived.Test.YtocpdnbhdnaobaaGreatFitF
import Derived.Test.YtocpdnbhdnaobaaGreatPureFnExactStepMark
import Derived.WalkKit
import Derived.ProofKit
import Derived.OpenShut
import Derived.ShutString
import Derived.ChangeOld
import Derived.Below
import Derived.SizedLaws
import Derived.Test.YtocpdnbhdnaobaaGreatInsW152
set_option linter.unusedVariables false
namespace Go.Proofs.YtocpdnbhdnaobaaGreat.fnExactStepMark
open Go.ChangeShapes Go.WideShapes Go.ChangeAt Go.RowKit Go.Flat Go.QFnExactStepMark
theorem own : ownKnob Tryz.prog.godebug = none := by kernel_rfl
theorem laidOut : laidOutB Tryz.prog = true := by kernel_rfl
theorem good : Go.Flat.Good Go.QFnExactStepMark.C := ⟨by kernel_rfl, by kernel_rfl, by kernel_rfl⟩
theorem prim : PrimOk Go.QFnExactStepMark.C := fun f p h => by
  have h : (bif Nat.beq f 152 then some (primInsert T108 40) else none) = some p := h
  cases hb0 : Nat.beq f 152 with
  | true =>
    rw [hb0] at h
    obtain rfl := Option.some.inj h
    obtain rfl := Nat.eq_of_beq_eq_true hb0
    exact insert_ok (C := Go.QFnExactStepMark.C) 5 40 (.agg #[.int .i64 0, .int .i64 0, .int .i64 0, .int .i64 0, .int .i64 0]) rfl (by decide) (by decide) rfl rfl (by kernel_rfl) Tryz.func152 (by kernel_rfl) (by kernel_rfl) Tryz.insert152_shift Tryz.insert152_room Tryz.insert152_new Tryz.insert152_grow
  | false =>
  rw [hb0] at h
  simp only [cond_false] at h
  cases h
theorem func : Tryz.prog.funcs[7]? = some Tryz.f7 := by kernel_rfl
theorem params : Tryz.f7.params.toList = [31, 3, 3, 3, 3] := by kernel_rfl
theorem result : Tryz.prog.underlying 4 = some .bool := by kernel_rfl
theorem okT3 : okTy Tryz.prog (.int .i64) 3 = true := by kernel_rfl
theorem okT31 : okTy Tryz.prog T30 31 = true := by kernel_rfl
set_option maxRecDepth 100000 in
theorem lifted (os : Os) (started : os.Started) (H : Type) (enc : TypeId × Value → H) :
    ReturnsInHanded {} Tryz.checked os 7 .any (Rows.fnExactStepMarkSpec.pre6 enc Tryz.prog Tryz.f7 Rows.fnExactStepMarkRow.domain false) (Rows.fnExactStepMarkSpec.post enc Tryz.prog Tryz.f7 false true false false) := by
  refine returnsInHanded_of_change_sized (C := Tryz.checked) own started (by kernel_rfl) func
    (ChangeSpec.witness6 (enc := enc) (C := Tryz.checked) false ⟨#[], #[.agg #[.slice none 0 0, .int .i64 0, .int .i64 0, .slice none 0 0, .slice none 0 0, .slice none 0 0, .slice none 0 0, .slice none 0 0, .int .i64 0, .int .i64 0], .int .i64 0, .int .i64 0, .int .i64 0, .int .i64 0], []⟩ 8 (by kernel_rfl) (by kernel_rfl) (by kernel_rfl) (by kernel_rfl)) ?_
  intro W base args ds gs before hval0 hW hcnd hsz0 _
  have hval : ∀ (j : Nat) t v, Tryz.f7.params[j]? = some t → args[j]? = some v → Value.okWide Tryz.prog W .any base t v := hval0
  have hvalL : ∀ (j : Nat) t v, Tryz.f7.params.toList[j]? = some t → args[j]? = some v → Value.okWide Tryz.prog W .any base t v := fun j t v h => hval j t v (by rw [← Array.getElem?_toList]; exact h)
  have hW' := hW
  obtain ⟨p, q, hA0, hV, rfl, hfz, hnd⟩ := hW
  have hA : DataW.TrodAll enc Tryz.prog W 0 (fun _ => true) true Tryz.f7.params.toList args.toList ds p := hA0
  rw [params] at hA hvalL
  obtain ⟨v0, vs0, d0, ds0, p0, q0, hargs, rfl, rfl, h0, r0⟩ := trodAll_cons hA
  obtain ⟨v1, vs1, d1, ds1, p1, q1, hvs0, rfl, rfl, h1, r1⟩ := trodAll_cons r0
  obtain ⟨v2, vs2, d2, ds2, p2, q2, hvs1, rfl, rfl, h2, r2⟩ := trodAll_cons r1
  obtain ⟨v3, vs3, d3, ds3, p3, q3, hvs2, rfl, rfl, h3, r3⟩ := trodAll_cons r2
  obtain ⟨v4, vs4, d4, ds4, p4, q4, hvs3, rfl, rfl, h4, r4⟩ := trodAll_cons r3
  obtain ⟨hvs4, rfl, rfl⟩ := trodAll_nil r4
  obtain rfl : args = #[v0, v1, v2, v3, v4] := by cases args; simp_all
  obtain ⟨rfl, rfl⟩ := trodVars_none hV
  have lt0 : ∀ x ∈ p0, x.block < W.heap.size := by obtain ⟨m, hm⟩ := h0; exact DataW.trod_lt m _ _ _ hm
  obtain ⟨a0, ha0, w0⟩ := arg_in okT31 (by kernel_rfl) (hvalL 0 31 v0 rfl rfl) h0
  have lt1 : ∀ x ∈ p1, x.block < W.heap.size := by obtain ⟨m, hm⟩ := h1; exact DataW.trod_lt m _ _ _ hm
  obtain ⟨a1, ha1, w1⟩ := arg_in okT3 (by kernel_rfl) (hvalL 1 3 v1 rfl rfl) h1
  have lt2 : ∀ x ∈ p2, x.block < W.heap.size := by obtain ⟨m, hm⟩ := h2; exact DataW.trod_lt m _ _ _ hm
  obtain ⟨a2, ha2, w2⟩ := arg_in okT3 (by kernel_rfl) (hvalL 2 3 v2 rfl rfl) h2
  have lt3 : ∀ x ∈ p3, x.block < W.heap.size := by obtain ⟨m, hm⟩ := h3; exact DataW.trod_lt m _ _ _ hm
  obtain ⟨a3, ha3, w3⟩ := arg_in okT3 (by kernel_rfl) (hvalL 3 3 v3 rfl rfl) h3
  have lt4 : ∀ x ∈ p4, x.block < W.heap.size := by obtain ⟨m, hm⟩ := h4; exact DataW.trod_lt m _ _ _ hm
  obtain ⟨a4, ha4, w4⟩ := arg_in okT3 (by kernel_rfl) (hvalL 4 3 v4 rfl rfl) h4
  obtain ⟨k, hk⟩ := Go.QFnExactStepMark.pure a0 a1 a2 a3 a4 w0 w1 w2 w3 w4
  refine (law_calls (C := Go.QFnExactStepMark.C) good prim (k := k) (args := [.val T30 a0, .val (.int .i64) a1, .val (.int .i64) a2, .val (.int .i64) a3, .val (.int .i64) a4]) (vals := [v0, v1, v2, v3, v4]) (w := W) func (by kernel_rfl) (fun x hx => by cases hx) (fun i j a b hi _ ha _ => by have hm := List.mem_of_getElem? hi; simp at hm; rcases hm with rfl | rfl | rfl | rfl | rfl <;> simp [Arg.isIo] at ha) ⟨rfl, fun i a v hi hv => ?_⟩ hk).mono fun e W' hh => ?_
  · rcases i with _ | i
    · simp at hi hv; subst hi hv; exact ha0
    rcases i with _ | i
    · simp at hi hv; subst hi hv; exact ha1
    rcases i with _ | i
    · simp at hi hv; subst hi hv; exact ha2
    rcases i with _ | i
    · simp at hi hv; subst hi hv; exact ha3
    rcases i with _ | i
    · simp at hi hv; subst hi hv; exact ha4
    · simp at hi
  obtain ⟨he, bel⟩ := hh
  subst he
  exact ⟨_, rfl, _, _, _, [], _, [], hW', trodAll_mk1 (shut_bool result _), (trodAll_cons_mk (Below.trod laidOut (by kernel_rfl) (of_decide_eq_true (by kernel_rfl)) h0 bel lt0) (trodAll_cons_mk (Below.trod laidOut (by kernel_rfl) (of_decide_eq_true (by kernel_rfl)) h1 bel lt1) (trodAll_cons_mk (Below.trod laidOut (by kernel_rfl) (of_decide_eq_true (by kernel_rfl)) h2 bel lt2) (trodAll_cons_mk (Below.trod laidOut (by kernel_rfl) (of_decide_eq_true (by kernel_rfl)) h3 bel lt3) (trodAll_cons_mk (Below.trod laidOut (by kernel_rfl) (of_decide_eq_true (by kernel_rfl)) h4 bel lt4) trodAll_mk0))))), rfl, bel.frame _, fun h => by cases h⟩
theorem over : Rows.fnExactStepMarkRow.holds Tryz.pinned (OpenSpec.ofChange Rows.fnExactStepMarkSpec) :=
  OpenClaim.holds_of_wide 7 Tryz.f7 rfl rfl rfl rfl rfl rfl rfl ⟨rfl, rfl, rfl, rfl, rfl⟩ rfl rfl rfl rfl rfl (by kernel_rfl) func (by kernel_rfl)
    (of_decide_eq_true (by kernel_rfl)) (by unfold Func.isWrapper; first | (rw [if_pos (by decide +kernel)]; kernel_rfl) | (rw [if_neg (by decide +kernel)]; exact ⟨rfl, rfl⟩))
    (fun os started H enc _ => lifted os started H enc)

theorem proved : Rows.FnExactStepMarkSaid := over
#print axioms proved
end Go.Proofs.YtocpdnbhdnaobaaGreat.fnExactStepMark
namespace Go.Proofs.YtocpdnbhdnaobaaGreat
/-- The row, under a short name, for the claim. -/
theorem fnExactStepMark_holds : Rows.FnExactStepMarkSaid := fnExactStepMark.proved
end Go.Proofs.YtocpdnbhdnaobaaGreat
