/- The row of the law FnExactMoves, out of its plain statement and the walks. No condition. -/
import Derived.Test.YtidegbeadeoaeaaRows
import Derived.Test.YtidegbeadeoaeaaSFnExactMoves
import Derived.Test.YtidegbeadeoaeaaPureFnExactMoves
import Derived.WalkKit
import Derived.ProofKit
import Derived.OpenShut
import Derived.ShutString
import Derived.ChangeOld
import Derived.Below
import Derived.SizedLaws
namespace Go.Proofs.Ytidegbeadeoaeaa.fnExactMoves
open Go.ChangeShapes Go.WideShapes Go.ChangeAt Go.RowKit Go.Proofs.Ytidegbeadeoaeaa.PFnExactMoves Go.Proofs.YtidegbeadeoaeaaW.PrintWords Go.Proofs.YtidegbeadeoaeaaW.PrintLast
open Go.ChangeMaps (open_string shut_string)
theorem own : ownKnob Try.prog.godebug = none := by kernel_rfl
theorem laidOut : laidOutB Try.prog = true := by kernel_rfl
set_option maxRecDepth 100000 in
theorem lifted (os : Os) (started : os.Started) (H : Type) (enc : TypeId × Value → H) :
    ReturnsInHanded {} Try.checked os 5 .any (Rows.fnExactMovesSpec.pre6 enc Try.prog Try.f5 Rows.fnExactMovesRow.domain false) (Rows.fnExactMovesSpec.post enc Try.prog Try.f5 false true false false) := by
  refine returnsInHanded_of_change_sized (C := Try.checked) own started (by kernel_rfl) Try.func5
    (ChangeSpec.witness6 (enc := enc) (C := Try.checked) false ⟨#[], #[.agg #[.int .i64 0, .slice none 0 0], .agg #[.int .i64 0, .slice none 0 0]], []⟩ 8 (by kernel_rfl) (by kernel_rfl) (by kernel_rfl) (by kernel_rfl)) ?_
  intro W base args ds gs before hval0 hW hcnd hsz0 _
  have hval : ∀ (j : Nat) t v, Try.f5.params[j]? = some t → args[j]? = some v → Value.okWide Try.prog W .any base t v := hval0
  have hW' := hW
  obtain ⟨p, q, hA0, hV, rfl, hfz, hnd⟩ := hW
  have hA : DataW.TrodAll enc Try.prog W 0 (fun _ => true) true Try.f5.params.toList args.toList ds p := hA0
  rw [Try.params5] at hA hval
  obtain ⟨v0, vs0, d0, ds0, p0, q0, hargs, rfl, rfl, h0, r0⟩ := trodAll_cons hA
  obtain ⟨v1, vs1, d1, ds1, p1, q1, rfl, rfl, rfl, h1, r1⟩ := trodAll_cons r0
  obtain ⟨rfl, rfl, rfl⟩ := trodAll_nil r1
  obtain rfl : args = #[v0, v1] := by cases args; simp_all
  obtain ⟨rfl, rfl⟩ := trodVars_none hV
  have k0 := h0
  have lt0 : ∀ x ∈ p0, x.block < W.heap.size := by obtain ⟨m, hm⟩ := k0; exact DataW.trod_lt m _ _ _ hm
  obtain ⟨a0, cs0, rfl, hK0, w0⟩ := Fit.in_struct fit33 Try.underlying33 (hval 0 33 v0 rfl rfl) h0
  obtain ⟨A0_1, c0_1, rfl, hl0_1, hc0_1⟩ := k33_open hK0
  have k1 := h1
  have lt1 : ∀ x ∈ p1, x.block < W.heap.size := by obtain ⟨m, hm⟩ := k1; exact DataW.trod_lt m _ _ _ hm
  obtain ⟨a1, cs1, rfl, hK1, w1⟩ := Fit.in_struct fit33 Try.underlying33 (hval 1 33 v1 rfl rfl) h1
  obtain ⟨A1_1, c1_1, rfl, hl1_1, hc1_1⟩ := k33_open hK1
  clear hA0 hval0 hsz0
  obtain ⟨k, hk⟩ := Pure.FnExactMoves a0 a1 w0 w1
  refine (laws_FnExactMoves.calls k a0.f0 _ _ a0.f1 a1.f0 _ _ a1.f1 true W hc0_1 hl0_1 hc1_1 hl1_1 hk).mono fun e W' hh => ?_
  have he := hh.1
  have bel : Below W.heap.size W W' := by first | exact hh.2 | exact hh.2.below
  subst he
  exact ⟨_, rfl, _, _, _, [], _, [], hW', trodAll_mk1 (shut_bool Try.underlying4 _), (trodAll_cons_mk (Below.trod laidOut (by kernel_rfl) (of_decide_eq_true (by kernel_rfl)) k0 bel lt0) (trodAll_cons_mk (Below.trod laidOut (by kernel_rfl) (of_decide_eq_true (by kernel_rfl)) k1 bel lt1) trodAll_mk0)), rfl, bel.frame _, fun h => by cases h⟩
theorem over : Rows.fnExactMovesRow.holds Try.pinned (OpenSpec.ofChange Rows.fnExactMovesSpec) :=
  OpenClaim.holds_of_wide 5 Try.f5 rfl rfl rfl rfl rfl rfl rfl ⟨rfl, rfl, rfl, rfl, rfl⟩ rfl rfl rfl rfl rfl (by kernel_rfl) Try.func5 (by kernel_rfl)
    (of_decide_eq_true (by kernel_rfl)) (by unfold Func.isWrapper; first | (rw [if_pos (by decide +kernel)]; kernel_rfl) | (rw [if_neg (by decide +kernel)]; exact ⟨rfl, rfl⟩))
    (fun os started H enc _ => lifted os started H enc)
theorem proved : Rows.FnExactMovesSaid := over
#print axioms proved
end Go.Proofs.Ytidegbeadeoaeaa.fnExactMoves
namespace Go.Proofs.Ytidegbeadeoaeaa
/-- The row, under a short name, for the claim. -/
theorem fnExactMoves_holds : Rows.FnExactMovesSaid := fnExactMoves.proved
end Go.Proofs.Ytidegbeadeoaeaa
