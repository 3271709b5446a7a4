/- The row of the law FnExactBusiestPlayer, out of its plain statement and the walks. No condition. -/
import Derived.Test.YtaidfaagmecdlaaRows
import Derived.Test.YtaidfaagmecdlaaSFnExactBusiestPlayer
import Derived.Test.YtaidfaagmecdlaaPureFnExactBusiestPlayer
import Derived.WalkKit
import Derived.ProofKit
import Derived.OpenShut
import Derived.ShutString
import Derived.ChangeOld
import Derived.Below
import Derived.SizedLaws
namespace Go.Proofs.Ytaidfaagmecdlaa.fnExactBusiestPlayer
open Go.ChangeShapes Go.WideShapes Go.ChangeAt Go.RowKit Go.Proofs.Ytaidfaagmecdlaa.PFnExactBusiestPlayer Go.Proofs.YtaidfaagmecdlaaW.PrintWords Go.Proofs.YtaidfaagmecdlaaW.PrintLast
open Go.ChangeMaps (open_string shut_string)
theorem own : ownKnob Try.prog.godebug = none := by kernel_rfl
theorem laidOut : laidOutB Try.prog = true := by kernel_rfl
set_option maxRecDepth 100000 in
theorem lifted (os : Os) (started : os.Started) (H : Type) (enc : TypeId × Value → H) :
    ReturnsInHanded {} Try.checked os 9 .any (Rows.fnExactBusiestPlayerSpec.pre6 enc Try.prog Try.f9 Rows.fnExactBusiestPlayerRow.domain false) (Rows.fnExactBusiestPlayerSpec.post enc Try.prog Try.f9 false true false false) := by
  refine returnsInHanded_of_change_sized (C := Try.checked) own started (by kernel_rfl) Try.func9
    (ChangeSpec.witness6 (enc := enc) (C := Try.checked) false ⟨#[], #[.agg #[.slice none 0 0, .int .i64 0, .int .i64 0, .slice none 0 0, .slice none 0 0, .slice none 0 0, .slice none 0 0, .slice none 0 0, .int .i64 0, .int .i64 0]], []⟩ 8 (by kernel_rfl) (by kernel_rfl) (by kernel_rfl) (by kernel_rfl)) ?_
  intro W base args ds gs before hval0 hW hcnd hsz0 _
  have hval : ∀ (j : Nat) t v, Try.f9.params[j]? = some t → args[j]? = some v → Value.okWide Try.prog W .any base t v := hval0
  have hW' := hW
  obtain ⟨p, q, hA0, hV, rfl, hfz, hnd⟩ := hW
  have hA : DataW.TrodAll enc Try.prog W 0 (fun _ => true) true Try.f9.params.toList args.toList ds p := hA0
  rw [Try.params9] at hA hval
  obtain ⟨v0, vs0, d0, ds0, p0, q0, hargs, rfl, rfl, h0, r0⟩ := trodAll_cons hA
  obtain ⟨rfl, rfl, rfl⟩ := trodAll_nil r0
  obtain rfl : args = #[v0] := by cases args; simp_all
  obtain ⟨rfl, rfl⟩ := trodVars_none hV
  have k0 := h0
  have lt0 : ∀ x ∈ p0, x.block < W.heap.size := by obtain ⟨m, hm⟩ := k0; exact DataW.trod_lt m _ _ _ hm
  obtain ⟨a0, cs0, rfl, hK0, w0⟩ := Fit.in_struct fit72 Try.underlying72 (hval 0 72 v0 rfl rfl) h0
  obtain ⟨A0_0, c0_0, A0_3, c0_3, A0_4, c0_4, A0_5, c0_5, A0_6, c0_6, A0_7, c0_7, rfl, hl0_0, hc0_0, hl0_3, hc0_3, hl0_4, hc0_4, hl0_5, hc0_5, hl0_6, hc0_6, hl0_7, hc0_7⟩ := k72_open hK0
  clear hA0 hval0 hsz0
  obtain ⟨k, hk⟩ := Pure.FnExactBusiestPlayer a0 w0
  refine (laws_FnExactBusiestPlayer.calls k _ _ a0.f0 a0.f1.f0 a0.f1.f1 _ _ a0.f2 _ _ a0.f3 _ _ a0.f4 _ _ a0.f5 _ _ a0.f6 a0.f7 a0.f8 true W hc0_0 hl0_0 hc0_3 hl0_3 hc0_4 hl0_4 hc0_5 hl0_5 hc0_6 hl0_6 hc0_7 hl0_7 hk).mono fun e W' hh => ?_
  have he := hh.1
  have bel : Below W.heap.size W W' := by first | exact hh.2 | exact hh.2.below
  subst he
  exact ⟨_, rfl, _, _, _, [], _, [], hW', trodAll_mk1 (shut_bool Try.underlying4 _), (trodAll_cons_mk (Below.trod laidOut (by kernel_rfl) (of_decide_eq_true (by kernel_rfl)) k0 bel lt0) trodAll_mk0), rfl, bel.frame _, fun h => by cases h⟩
theorem over : Rows.fnExactBusiestPlayerRow.holds Try.pinned (OpenSpec.ofChange Rows.fnExactBusiestPlayerSpec) :=
  OpenClaim.holds_of_wide 9 Try.f9 rfl rfl rfl rfl rfl rfl rfl ⟨rfl, rfl, rfl, rfl, rfl⟩ rfl rfl rfl rfl rfl (by kernel_rfl) Try.func9 (by kernel_rfl)
    (of_decide_eq_true (by kernel_rfl)) (by unfold Func.isWrapper; first | (rw [if_pos (by decide +kernel)]; kernel_rfl) | (rw [if_neg (by decide +kernel)]; exact ⟨rfl, rfl⟩))
    (fun os started H enc _ => lifted os started H enc)
theorem proved : Rows.FnExactBusiestPlayerSaid := over
#print axioms proved
end Go.Proofs.Ytaidfaagmecdlaa.fnExactBusiestPlayer
namespace Go.Proofs.Ytaidfaagmecdlaa
/-- The row, under a short name, for the claim. -/
theorem fnExactBusiestPlayer_holds : Rows.FnExactBusiestPlayerSaid := fnExactBusiestPlayer.proved
end Go.Proofs.Ytaidfaagmecdlaa
