/- The row of the law FnHappened, out of its plain statement. No condition. -/
import Derived.Test.YtmocpfgfjeaelaaGreatRows
import Derived.Test.YtmocpfgfjeaelaaGreatFitF
import Derived.Test.YtmocpfgfjeaelaaGreatPureFnHappened
import Derived.WalkKit
import Derived.ProofKit
import Derived.OpenShut
import Derived.ShutString
import Derived.ChangeOld
import Derived.Below
import Derived.SizedLaws
import Derived.Test.YtmocpfgfjeaelaaGreatInsW106
import Derived.Test.YtmocpfgfjeaelaaGreatSeatW
import Derived.Test.YtmocpfgfjeaelaaGreatDelW114
import Derived.Test.YtmocpfgfjeaelaaGreatInsW117
import Derived.Test.YtmocpfgfjeaelaaGreatInsW201
import Derived.Test.YtmocpfgfjeaelaaGreatDelW204
import Derived.Test.YtmocpfgfjeaelaaGreatInsW245
set_option linter.unusedVariables false
namespace Go.Proofs.YtmocpfgfjeaelaaGreat.fnHappened
open Go.ChangeShapes Go.WideShapes Go.ChangeAt Go.RowKit Go.Flat Go.fM
theorem own : ownKnob Tryz.prog.godebug = none := by kernel_rfl
theorem laidOut : laidOutB Tryz.prog = true := by kernel_rfl
theorem good : Go.Flat.Good Go.fM.C := ⟨by kernel_rfl, by kernel_rfl, by kernel_rfl⟩
theorem Lj : LW Go.fM.C := fun f p h => by
 have h : (bif Nat.beq f 106 then some (gL dV 16) else bif Nat.beq f 108 then some (tJ Go.fZ.Pf Go.fZ.Pg Go.fZ.AP) else bif Nat.beq f 114 then some (kD dx) else bif Nat.beq f 117 then some (gL dx 48) else bif Nat.beq f 201 then some (gL bL 32) else bif Nat.beq f 204 then some (kD bL) else bif Nat.beq f 245 then some (gL eP 40) else none) = some p := h
 cases hb0 : Nat.beq f 106 with
 | true =>
  rw [hb0] at h
  obtain rfl := Option.some.inj h
  obtain rfl := Nat.eq_of_beq_eq_true hb0
  exact ⟨by kernel_rfl, Ay (C := Go.fM.C) 2 16 (.agg #[.int .i64 0, .int .i64 0]) rfl (by decide) (by decide) rfl (by kernel_rfl) Tryz.func106 (by kernel_rfl) (by kernel_rfl) Tryz.FU Tryz.Js Tryz.Kc Tryz.Jt⟩
 | false =>
 rw [hb0] at h
 simp only [cond_false] at h
 cases hb1 : Nat.beq f 108 with
 | true =>
  rw [hb1] at h
  obtain rfl := Option.some.inj h
  obtain rfl := Nat.eq_of_beq_eq_true hb1
  exact ⟨by kernel_rfl, Wt (C := Go.fM.C) rfl Tryz.func108 (by kernel_rfl) (by kernel_rfl) (by kernel_rfl) Tryz.Tn⟩
 | false =>
 rw [hb1] at h
 simp only [cond_false] at h
 cases hb2 : Nat.beq f 114 with
 | true =>
  rw [hb2] at h
  obtain rfl := Option.some.inj h
  obtain rfl := Nat.eq_of_beq_eq_true hb2
  exact ⟨by kernel_rfl, KV (C := Go.fM.C) 4 (.agg #[.int .i64 0, .int .i64 0, .int .i64 0, .slice none 0 0]) rfl rfl (by kernel_rfl) Tryz.func114 (by kernel_rfl) (by kernel_rfl) Tryz.Jv⟩
 | false =>
 rw [hb2] at h
 simp only [cond_false] at h
 cases hb3 : Nat.beq f 117 with
 | true =>
  rw [hb3] at h
  obtain rfl := Option.some.inj h
  obtain rfl := Nat.eq_of_beq_eq_true hb3
  exact ⟨by kernel_rfl, Ay (C := Go.fM.C) 4 48 (.agg #[.int .i64 0, .int .i64 0, .int .i64 0, .slice none 0 0]) rfl (by decide) (by decide) rfl (by kernel_rfl) Tryz.func117 (by kernel_rfl) (by kernel_rfl) Tryz.FV Tryz.Jw Tryz.Ke Tryz.Jy⟩
 | false =>
 rw [hb3] at h
 simp only [cond_false] at h
 cases hb4 : Nat.beq f 201 with
 | true =>
  rw [hb4] at h
  obtain rfl := Option.some.inj h
  obtain rfl := Nat.eq_of_beq_eq_true hb4
  exact ⟨by kernel_rfl, Ay (C := Go.fM.C) 4 32 (.agg #[.int .i64 0, .int .i64 0, .int .i64 0, .int .i64 0]) rfl (by decide) (by decide) rfl (by kernel_rfl) Tryz.func201 (by kernel_rfl) (by kernel_rfl) Tryz.FW Tryz.Jz Tryz.Kg Tryz.JA⟩
 | false =>
 rw [hb4] at h
 simp only [cond_false] at h
 cases hb5 : Nat.beq f 204 with
 | true =>
  rw [hb5] at h
  obtain rfl := Option.some.inj h
  obtain rfl := Nat.eq_of_beq_eq_true hb5
  exact ⟨by kernel_rfl, KV (C := Go.fM.C) 4 (.agg #[.int .i64 0, .int .i64 0, .int .i64 0, .int .i64 0]) rfl rfl (by kernel_rfl) Tryz.func204 (by kernel_rfl) (by kernel_rfl) Tryz.JB⟩
 | false =>
 rw [hb5] at h
 simp only [cond_false] at h
 cases hb6 : Nat.beq f 245 with
 | true =>
  rw [hb6] at h
  obtain rfl := Option.some.inj h
  obtain rfl := Nat.eq_of_beq_eq_true hb6
  exact ⟨by kernel_rfl, Ay (C := Go.fM.C) 5 40 (.agg #[.int .i64 0, .int .i64 0, .int .i64 0, .int .i64 0, .int .i64 0]) rfl (by decide) (by decide) rfl (by kernel_rfl) Tryz.func245 (by kernel_rfl) (by kernel_rfl) Tryz.FX Tryz.JC Tryz.Kh Tryz.JD⟩
 | false =>
 rw [hb6] at h
 simp only [cond_false] at h
 cases h
theorem func : Tryz.prog.funcs[7]? = some Tryz.f7 := by kernel_rfl
theorem params : Tryz.f7.params.toList = [22] := by kernel_rfl
theorem result : Tryz.prog.underlying 4 = some .bool := by kernel_rfl
theorem ZY : lH Tryz.prog (.list (.int .u8)) 22 = true := by kernel_rfl
set_option maxRecDepth 100000 in
theorem lifted (os : Os) (started : os.Started) (H : Type) (enc : TypeId × Value -> H) :
  ReturnsInHanded {} Tryz.checked os 7 .any (Rows.fnHappenedSpec.pre6 enc Tryz.prog Tryz.f7 Rows.fnHappenedRow.domain false) (Rows.fnHappenedSpec.post enc Tryz.prog Tryz.f7 false true false false) := by
 refine returnsInHanded_of_change_sized (C := Tryz.checked) own started (by kernel_rfl) func
  (ChangeSpec.witness6 (enc := enc) (C := Tryz.checked) false ⟨#[], #[.slice none 0 0], []⟩ 8 (by kernel_rfl) (by kernel_rfl) (by kernel_rfl) (by kernel_rfl)) ?_
 intro W base args ds gs before hval0 hW hcnd hsz0 _
 have hval : ∀ (j : Nat) t v, Tryz.f7.params[j]? = some t -> args[j]? = some v -> Value.okWide Tryz.prog W .any base t v := hval0
 have Xh : ∀ (j : Nat) t v, Tryz.f7.params.toList[j]? = some t -> args[j]? = some v -> Value.okWide Tryz.prog W .any base t v := fun j t v h => hval j t v (by rw [<- Array.getElem?_toList]; exact h)
 have hW' := hW
 obtain ⟨p, q, hA0, hV, rfl, hfz, hnd⟩ := hW
 have hA : DataW.TrodAll enc Tryz.prog W 0 (fun _ => true) true Tryz.f7.params.toList args.toList ds p := hA0
 rw [params] at hA Xh
 obtain ⟨v0, vs0, d0, ds0, p0, q0, hargs, rfl, rfl, h0, r0⟩ := trodAll_cons hA
 obtain ⟨acp, rfl, rfl⟩ := trodAll_nil r0
 obtain rfl : args = #[v0] := by cases args; simp_all
 obtain ⟨rfl, rfl⟩ := trodVars_none hV
 have lt0 : ∀ x ∈ p0, x.block < W.heap.size := by obtain ⟨m, hm⟩ := h0; exact DataW.trod_lt m _ _ _ hm
 obtain ⟨a0, ha0, w0⟩ := XK ZY (by kernel_rfl) (Xh 0 22 v0 rfl rfl) h0
 obtain ⟨k, hk⟩ := Go.fM.pure a0 w0
 refine (Sj (C := Go.fM.C) good Lj (k := k) (args := [.val (.list (.int .u8)) a0]) (vals := [v0]) (w := W) func (by kernel_rfl) (fun x hx => by cases hx) (fun i j a b hi _ ha _ => by have hm := List.mem_of_getElem? hi; simp at hm; rcases hm with rfl <;> simp [Arg.sZ] at ha) ⟨rfl, fun i a v hi hv => ?_⟩ hk (by kernel_rfl)).mono fun e W' hh => ?_
 ·rcases i with _ | i
  ·simp at hi hv; subst hi hv; exact ha0
  ·simp at hi
 obtain ⟨he, bel⟩ := hh
 subst he
 exact ⟨_, rfl, _, _, _, [], _, [], hW', trodAll_mk1 (shut_bool result _), (trodAll_cons_mk (Below.trod laidOut (by kernel_rfl) (of_decide_eq_true (by kernel_rfl)) h0 bel lt0) trodAll_mk0), rfl, bel.frame _, fun h => by cases h⟩
theorem over : Rows.fnHappenedRow.holds Tryz.pinned (OpenSpec.ofChange Rows.fnHappenedSpec) :=
 OpenClaim.holds_of_wide 7 Tryz.f7 rfl rfl rfl rfl rfl rfl rfl ⟨rfl, rfl, rfl, rfl, rfl⟩ rfl rfl rfl rfl rfl (by kernel_rfl) func (by kernel_rfl)
  (of_decide_eq_true (by kernel_rfl)) (by unfold Func.isWrapper; first | (rw [if_pos (by decide +kernel)]; kernel_rfl) | (rw [if_neg (by decide +kernel)]; exact ⟨rfl, rfl⟩))
  (fun os started H enc _ => lifted os started H enc)
theorem proved : Rows.FnHappenedSaid := over
#print axioms proved
end Go.Proofs.YtmocpfgfjeaelaaGreat.fnHappened
namespace Go.Proofs.YtmocpfgfjeaelaaGreat
theorem fnHappened_holds : Rows.FnHappenedSaid := fnHappened.proved
end Go.Proofs.YtmocpfgfjeaelaaGreat
