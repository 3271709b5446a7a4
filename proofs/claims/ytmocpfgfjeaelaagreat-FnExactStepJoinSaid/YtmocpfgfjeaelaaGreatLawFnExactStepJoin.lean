/- The row of the law FnExactStepJoin, out of its plain statement. No condition. -/
import Derived.Test.YtmocpfgfjeaelaaGreatRows
import Derived.Test.YtmocpfgfjeaelaaGreatFitF
import Derived.Test.YtmocpfgfjeaelaaGreatPureFnExactStepJoin
import Derived.WalkKit
import Derived.ProofKit
import Derived.OpenShut
import Derived.ShutString
import Derived.ChangeOld
import Derived.Below
import Derived.SizedLaws
import Derived.Test.YtmocpfgfjeaelaaGreatInsD
import Derived.Test.YtmocpfgfjeaelaaGreatInsW117
set_option linter.unusedVariables false
namespace Go.Proofs.YtmocpfgfjeaelaaGreat.fnExactStepJoin
open Go.ChangeShapes Go.WideShapes Go.ChangeAt Go.RowKit Go.Flat Go.dB
theorem own : ownKnob Tryz.prog.godebug = none := by kernel_rfl
theorem laidOut : laidOutB Tryz.prog = true := by kernel_rfl
theorem VJ : UM Go.dB.C 117 := Um (C := Go.dB.C) (T := bD) (et := 44) 4 48 (.agg #[.int .i64 0, .int .i64 0, .int .i64 0, .slice none 0 0]) rfl (by decide) (by kernel_rfl) (by decide) rfl Tryz.func117 (by kernel_rfl) (by kernel_rfl) Tryz.EG Tryz.Hz Tryz.II Tryz.HV
theorem good : Go.Flat.Good Go.dB.C := ⟨by kernel_rfl, by kernel_rfl, by kernel_rfl, fun f h => by
 have h : [117].contains f = true := h
 obtain rfl : f = 117 := by simpa using h
 exact VJ⟩
theorem Ld : Kv Go.dB.C := fun f p h => by cases h
theorem func : Tryz.prog.funcs[6]? = some Tryz.f6 := by kernel_rfl
theorem params : Tryz.f6.params.toList = [94, 95] := by kernel_rfl
theorem result : Tryz.prog.underlying 4 = some .bool := by kernel_rfl
theorem XF : jU Tryz.prog nG 94 = true := by kernel_rfl
theorem XG : jU Tryz.prog bD 95 = true := by kernel_rfl
set_option maxRecDepth 100000 in
theorem lifted (os : Os) (started : os.Started) (H : Type) (enc : TypeId × Value -> H) :
  ReturnsInHanded {} Tryz.checked os 6 .any (Rows.fnExactStepJoinSpec.pre6 enc Tryz.prog Tryz.f6 Rows.fnExactStepJoinRow.domain false) (Rows.fnExactStepJoinSpec.post enc Tryz.prog Tryz.f6 false true false false) := by
 refine returnsInHanded_of_change_sized (C := Tryz.checked) own started (by kernel_rfl) func
  (ChangeSpec.witness6 (enc := enc) (C := Tryz.checked) false ⟨#[], #[.agg #[.slice none 0 0, .int .i64 0, .int .i64 0, .slice none 0 0, .slice none 0 0, .slice none 0 0, .slice none 0 0, .slice none 0 0, .int .i64 0, .int .i64 0], .agg #[.int .i64 0, .int .i64 0, .int .i64 0, .slice none 0 0]], []⟩ 8 (by kernel_rfl) (by kernel_rfl) (by kernel_rfl) (by kernel_rfl)) ?_
 intro W base args ds gs before hval0 hW hcnd hsz0 _
 have hval : ∀ (j : Nat) t v, Tryz.f6.params[j]? = some t -> args[j]? = some v -> Value.okWide Tryz.prog W .any base t v := hval0
 have Tc : ∀ (j : Nat) t v, Tryz.f6.params.toList[j]? = some t -> args[j]? = some v -> Value.okWide Tryz.prog W .any base t v := fun j t v h => hval j t v (by rw [<- Array.getElem?_toList]; exact h)
 have hW' := hW
 obtain ⟨p, q, XV, hV, rfl, hfz, hnd⟩ := hW
 have hA : DataW.TrodAll enc Tryz.prog W 0 (fun _ => true) true Tryz.f6.params.toList args.toList ds p := XV
 rw [params] at hA Tc
 obtain ⟨v0, vs0, d0, ds0, p0, q0, hargs, rfl, rfl, h0, r0⟩ := trodAll_cons hA
 obtain ⟨v1, vs1, d1, ds1, p1, q1, aau, rfl, rfl, h1, r1⟩ := trodAll_cons r0
 obtain ⟨aav, rfl, rfl⟩ := trodAll_nil r1
 obtain rfl : args = #[v0, v1] := by cases args; simp_all
 obtain ⟨rfl, rfl⟩ := trodVars_none hV
 have lt0 : ∀ x ∈ p0, x.block < W.heap.size := by obtain ⟨m, hm⟩ := h0; exact DataW.trod_lt m _ _ _ hm
 obtain ⟨a0, ha0, w0⟩ := SI XF (by kernel_rfl) (Tc 0 94 v0 rfl rfl) h0
 have lt1 : ∀ x ∈ p1, x.block < W.heap.size := by obtain ⟨m, hm⟩ := h1; exact DataW.trod_lt m _ _ _ hm
 obtain ⟨a1, ha1, w1⟩ := SI XG (by kernel_rfl) (Tc 1 95 v1 rfl rfl) h1
 obtain ⟨k, hk⟩ := Go.dB.pure a0 a1 w0 w1
 refine (Qq (C := Go.dB.C) good Ld (k := k) (args := [.val nG a0, .val bD a1]) (vals := [v0, v1]) (w := W) func (by kernel_rfl) (fun x hx => by cases hx) (fun i j a b hi _ ha _ => by have hm := List.mem_of_getElem? hi; simp at hm; rcases hm with rfl | rfl <;> simp [Arg.uq] at ha) ⟨rfl, fun i a v hi hv => ?_⟩ hk (by kernel_rfl)).mono fun e W' hh => ?_
 ·rcases i with _ | i
  ·simp at hi hv; subst hi hv; exact ha0
  rcases i with _ | i
  ·simp at hi hv; subst hi hv; exact ha1
  ·simp at hi
 obtain ⟨he, YH⟩ := hh
 subst he
 exact ⟨_, rfl, _, _, _, [], _, [], hW', trodAll_mk1 (shut_bool result _), (trodAll_cons_mk (Below.trod laidOut (by kernel_rfl) (of_decide_eq_true (by kernel_rfl)) h0 YH lt0) (trodAll_cons_mk (Below.trod laidOut (by kernel_rfl) (of_decide_eq_true (by kernel_rfl)) h1 YH lt1) trodAll_mk0)), rfl, YH.frame _, fun h => by cases h⟩
theorem over : Rows.fnExactStepJoinRow.holds Tryz.pinned (OpenSpec.ofChange Rows.fnExactStepJoinSpec) :=
 OpenClaim.holds_of_wide 6 Tryz.f6 rfl rfl rfl rfl rfl rfl rfl ⟨rfl, rfl, rfl, rfl, rfl⟩ rfl rfl rfl rfl rfl (by kernel_rfl) func (by kernel_rfl)
  (of_decide_eq_true (by kernel_rfl)) (by unfold Func.isWrapper; first | (rw [if_pos (by decide +kernel)]; kernel_rfl) | (rw [if_neg (by decide +kernel)]; exact ⟨rfl, rfl⟩))
  (fun os started H enc _ => lifted os started H enc)
theorem proved : Rows.FnExactStepJoinSaid := over
#print axioms proved
end Go.Proofs.YtmocpfgfjeaelaaGreat.fnExactStepJoin
namespace Go.Proofs.YtmocpfgfjeaelaaGreat
theorem fnExactStepJoin_holds : Rows.FnExactStepJoinSaid := fnExactStepJoin.proved
end Go.Proofs.YtmocpfgfjeaelaaGreat
