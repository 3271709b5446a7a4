/- The row of the law FnSteps, out of its plain statement. No condition. -/
import Derived.Test.YtmocpfgfjeaelaaGreatRows
import Derived.Test.YtmocpfgfjeaelaaGreatFitF
import Derived.Test.YtmocpfgfjeaelaaGreatPureFnSteps
import Derived.WalkKit
import Derived.ProofKit
import Derived.OpenShut
import Derived.ShutString
import Derived.ChangeOld
import Derived.Below
import Derived.SizedLaws
import Derived.Test.YtmocpfgfjeaelaaGreatInsW106
import Derived.Test.YtmocpfgfjeaelaaGreatSeatW
import Derived.Test.YtmocpfgfjeaelaaGreatDelW114
import Derived.Test.YtmocpfgfjeaelaaGreatInsW117
import Derived.Test.YtmocpfgfjeaelaaGreatInsW201
import Derived.Test.YtmocpfgfjeaelaaGreatDelW204
import Derived.Test.YtmocpfgfjeaelaaGreatInsW245
set_option linter.unusedVariables false
namespace Go.Proofs.YtmocpfgfjeaelaaGreat.fnSteps
open Go.ChangeShapes Go.WideShapes Go.ChangeAt Go.RowKit Go.Flat Go.jy
theorem own : ownKnob Tryz.prog.godebug = none := by kernel_rfl
theorem laidOut : laidOutB Tryz.prog = true := by kernel_rfl
theorem good : Go.Flat.Good Go.jy.C := ⟨by kernel_rfl, by kernel_rfl, by kernel_rfl⟩
theorem Lj : LW Go.jy.C := fun f p h => by
 have h : (bif Nat.beq f 106 then some (gL dn 16) else bif Nat.beq f 108 then some (tF Go.fZ.OO Go.fZ.OP Go.fZ.AJ) else bif Nat.beq f 114 then some (kC bV) else bif Nat.beq f 117 then some (gL bV 48) else bif Nat.beq f 201 then some (gL bR 32) else bif Nat.beq f 204 then some (kC bR) else bif Nat.beq f 245 then some (gL dY 40) else none) = some p := h
 cases hb0 : Nat.beq f 106 with
 | true =>
  rw [hb0] at h
  obtain rfl := Option.some.inj h
  obtain rfl := Nat.eq_of_beq_eq_true hb0
  exact ⟨by kernel_rfl, Aw (C := Go.jy.C) 2 16 (.agg #[.int .i64 0, .int .i64 0]) rfl (by decide) (by decide) rfl (by kernel_rfl) Tryz.func106 (by kernel_rfl) (by kernel_rfl) Tryz.FW Tryz.Jr Tryz.Kc Tryz.Js⟩
 | false =>
 rw [hb0] at h
 simp only [cond_false] at h
 cases hb1 : Nat.beq f 108 with
 | true =>
  rw [hb1] at h
  obtain rfl := Option.some.inj h
  obtain rfl := Nat.eq_of_beq_eq_true hb1
  exact ⟨by kernel_rfl, Xd (C := Go.jy.C) rfl Tryz.func108 (by kernel_rfl) (by kernel_rfl) (by kernel_rfl) Tryz.Ud⟩
 | false =>
 rw [hb1] at h
 simp only [cond_false] at h
 cases hb2 : Nat.beq f 114 with
 | true =>
  rw [hb2] at h
  obtain rfl := Option.some.inj h
  obtain rfl := Nat.eq_of_beq_eq_true hb2
  exact ⟨by kernel_rfl, KV (C := Go.jy.C) 4 (.agg #[.int .i64 0, .int .i64 0, .int .i64 0, .slice none 0 0]) rfl rfl (by kernel_rfl) Tryz.func114 (by kernel_rfl) (by kernel_rfl) Tryz.Ju⟩
 | false =>
 rw [hb2] at h
 simp only [cond_false] at h
 cases hb3 : Nat.beq f 117 with
 | true =>
  rw [hb3] at h
  obtain rfl := Option.some.inj h
  obtain rfl := Nat.eq_of_beq_eq_true hb3
  exact ⟨by kernel_rfl, Aw (C := Go.jy.C) 4 48 (.agg #[.int .i64 0, .int .i64 0, .int .i64 0, .slice none 0 0]) rfl (by decide) (by decide) rfl (by kernel_rfl) Tryz.func117 (by kernel_rfl) (by kernel_rfl) Tryz.FX Tryz.Jv Tryz.Ke Tryz.Jw⟩
 | false =>
 rw [hb3] at h
 simp only [cond_false] at h
 cases hb4 : Nat.beq f 201 with
 | true =>
  rw [hb4] at h
  obtain rfl := Option.some.inj h
  obtain rfl := Nat.eq_of_beq_eq_true hb4
  exact ⟨by kernel_rfl, Aw (C := Go.jy.C) 4 32 (.agg #[.int .i64 0, .int .i64 0, .int .i64 0, .int .i64 0]) rfl (by decide) (by decide) rfl (by kernel_rfl) Tryz.func201 (by kernel_rfl) (by kernel_rfl) Tryz.FY Tryz.Jy Tryz.Kg Tryz.Jz⟩
 | false =>
 rw [hb4] at h
 simp only [cond_false] at h
 cases hb5 : Nat.beq f 204 with
 | true =>
  rw [hb5] at h
  obtain rfl := Option.some.inj h
  obtain rfl := Nat.eq_of_beq_eq_true hb5
  exact ⟨by kernel_rfl, KV (C := Go.jy.C) 4 (.agg #[.int .i64 0, .int .i64 0, .int .i64 0, .int .i64 0]) rfl rfl (by kernel_rfl) Tryz.func204 (by kernel_rfl) (by kernel_rfl) Tryz.JA⟩
 | false =>
 rw [hb5] at h
 simp only [cond_false] at h
 cases hb6 : Nat.beq f 245 with
 | true =>
  rw [hb6] at h
  obtain rfl := Option.some.inj h
  obtain rfl := Nat.eq_of_beq_eq_true hb6
  exact ⟨by kernel_rfl, Aw (C := Go.jy.C) 5 40 (.agg #[.int .i64 0, .int .i64 0, .int .i64 0, .int .i64 0, .int .i64 0]) rfl (by decide) (by decide) rfl (by kernel_rfl) Tryz.func245 (by kernel_rfl) (by kernel_rfl) Tryz.FZ Tryz.JB Tryz.Kh Tryz.JC⟩
 | false =>
 rw [hb6] at h
 simp only [cond_false] at h
 cases h
theorem func : Tryz.prog.funcs[5]? = some Tryz.f5 := by kernel_rfl
theorem params : Tryz.f5.params.toList = [22] := by kernel_rfl
theorem result : Tryz.prog.underlying 4 = some .bool := by kernel_rfl
theorem abk : kZ Tryz.prog (.list (.int .u8)) 22 = true := by kernel_rfl
set_option maxRecDepth 100000 in
theorem lifted (os : Os) (started : os.Started) (H : Type) (enc : TypeId × Value -> H) :
  ReturnsInHanded {} Tryz.checked os 5 .any (Rows.fnStepsSpec.pre6 enc Tryz.prog Tryz.f5 Rows.fnStepsRow.domain false) (Rows.fnStepsSpec.post enc Tryz.prog Tryz.f5 false true false false) := by
 refine returnsInHanded_of_change_sized (C := Tryz.checked) own started (by kernel_rfl) func
  (ChangeSpec.witness6 (enc := enc) (C := Tryz.checked) false ⟨#[], #[.slice none 0 0], []⟩ 8 (by kernel_rfl) (by kernel_rfl) (by kernel_rfl) (by kernel_rfl)) ?_
 intro W base args ds gs before hval0 hW hcnd hsz0 _
 have hval : ∀ (j : Nat) t v, Tryz.f5.params[j]? = some t -> args[j]? = some v -> Value.okWide Tryz.prog W .any base t v := hval0
 have YG : ∀ (j : Nat) t v, Tryz.f5.params.toList[j]? = some t -> args[j]? = some v -> Value.okWide Tryz.prog W .any base t v := fun j t v h => hval j t v (by rw [<- Array.getElem?_toList]; exact h)
 have hW' := hW
 obtain ⟨p, q, hA0, hV, rfl, hfz, hnd⟩ := hW
 have hA : DataW.TrodAll enc Tryz.prog W 0 (fun _ => true) true Tryz.f5.params.toList args.toList ds p := hA0
 rw [params] at hA YG
 obtain ⟨v0, vs0, d0, ds0, p0, q0, hargs, rfl, rfl, h0, r0⟩ := trodAll_cons hA
 obtain ⟨ae4, rfl, rfl⟩ := trodAll_nil r0
 obtain rfl : args = #[v0] := by cases args; simp_all
 obtain ⟨rfl, rfl⟩ := trodVars_none hV
 have lt0 : ∀ x ∈ p0, x.block < W.heap.size := by obtain ⟨m, hm⟩ := h0; exact DataW.trod_lt m _ _ _ hm
 obtain ⟨a0, ha0, w0⟩ := Zm abk (by kernel_rfl) (YG 0 22 v0 rfl rfl) h0
 obtain ⟨k, hk⟩ := Go.jy.pure a0 w0
 refine (Tg (C := Go.jy.C) good Lj (k := k) (args := [.val (.list (.int .u8)) a0]) (vals := [v0]) (w := W) func (by kernel_rfl) (fun x hx => by cases hx) (fun i j a b hi _ ha _ => by have hm := List.mem_of_getElem? hi; simp at hm; rcases hm with rfl <;> simp [Arg.sV] at ha) ⟨rfl, fun i a v hi hv => ?_⟩ hk (by kernel_rfl)).mono fun e W' hh => ?_
 ·rcases i with _ | i
  ·simp at hi hv; subst hi hv; exact ha0
  ·simp at hi
 obtain ⟨he, bel⟩ := hh
 subst he
 exact ⟨_, rfl, _, _, _, [], _, [], hW', trodAll_mk1 (shut_bool result _), (trodAll_cons_mk (Below.trod laidOut (by kernel_rfl) (of_decide_eq_true (by kernel_rfl)) h0 bel lt0) trodAll_mk0), rfl, bel.frame _, fun h => by cases h⟩
theorem over : Rows.fnStepsRow.holds Tryz.pinned (OpenSpec.ofChange Rows.fnStepsSpec) :=
 OpenClaim.holds_of_wide 5 Tryz.f5 rfl rfl rfl rfl rfl rfl rfl ⟨rfl, rfl, rfl, rfl, rfl⟩ rfl rfl rfl rfl rfl (by kernel_rfl) func (by kernel_rfl)
  (of_decide_eq_true (by kernel_rfl)) (by unfold Func.isWrapper; first | (rw [if_pos (by decide +kernel)]; kernel_rfl) | (rw [if_neg (by decide +kernel)]; exact ⟨rfl, rfl⟩))
  (fun os started H enc _ => lifted os started H enc)
theorem proved : Rows.FnStepsSaid := over
#print axioms proved
end Go.Proofs.YtmocpfgfjeaelaaGreat.fnSteps
namespace Go.Proofs.YtmocpfgfjeaelaaGreat
theorem fnSteps_holds : Rows.FnStepsSaid := fnSteps.proved
end Go.Proofs.YtmocpfgfjeaelaaGreat
