/- The row of the law FnTop, out of its plain statement. No condition. -/
import Derived.Test.YtmocpfgfjeaelaaGreatRows
import Derived.Test.YtmocpfgfjeaelaaGreatFitF
import Derived.Test.YtmocpfgfjeaelaaGreatPureFnTop
import Derived.WalkKit
import Derived.ProofKit
import Derived.OpenShut
import Derived.ShutString
import Derived.ChangeOld
import Derived.Below
import Derived.SizedLaws
import Derived.Test.YtmocpfgfjeaelaaGreatInsWs
import Derived.Test.YtmocpfgfjeaelaaGreatSeatW
import Derived.Test.YtmocpfgfjeaelaaGreatSortW184
set_option linter.unusedVariables false
namespace Go.Proofs.YtmocpfgfjeaelaaGreat.fnTop
open Go.ChangeShapes Go.WideShapes Go.ChangeAt Go.RowKit Go.Flat Go.pK
theorem own : ownKnob Tryz.prog.godebug = none := by kernel_rfl
theorem laidOut : laidOutB Tryz.prog = true := by kernel_rfl
theorem good : Go.Flat.Good Go.pK.C := ⟨by kernel_rfl, by kernel_rfl, by kernel_rfl⟩
theorem MX : Ny Go.pK.C := fun f p h => by
 have h : (bif Nat.beq f 106 then some (gN aY 16) else bif Nat.beq f 108 then some (uI Go.gy.QK Go.gy.QN Go.gy.Bv) else bif Nat.beq f 114 then some (kJ dL) else bif Nat.beq f 117 then some (gN dL 48) else bif Nat.beq f 184 then some (qU 164 aP uG) else bif Nat.beq f 201 then some (gN aP 32) else bif Nat.beq f 204 then some (kJ aP) else bif Nat.beq f 245 then some (gN gX 40) else none) = some p := h
 cases hb0 : Nat.beq f 106 with
 | true =>
  rw [hb0] at h
  obtain rfl := Option.some.inj h
  obtain rfl := Nat.eq_of_beq_eq_true hb0
  exact ⟨by kernel_rfl, Bf (C := Go.pK.C) 2 16 (.agg #[.int .i64 0, .int .i64 0]) rfl (by decide) (by decide) rfl (by kernel_rfl) Tryz.func106 (by kernel_rfl) (by kernel_rfl) Tryz.Ho Tryz.Kz Tryz.Ls Tryz.KA⟩
 | false =>
 rw [hb0] at h
 simp only [cond_false] at h
 cases hb1 : Nat.beq f 108 with
 | true =>
  rw [hb1] at h
  obtain rfl := Option.some.inj h
  obtain rfl := Nat.eq_of_beq_eq_true hb1
  exact ⟨by kernel_rfl, Ye (C := Go.pK.C) rfl Tryz.func108 (by kernel_rfl) (by kernel_rfl) (by kernel_rfl) Tryz.UN⟩
 | false =>
 rw [hb1] at h
 simp only [cond_false] at h
 cases hb2 : Nat.beq f 114 with
 | true =>
  rw [hb2] at h
  obtain rfl := Option.some.inj h
  obtain rfl := Nat.eq_of_beq_eq_true hb2
  exact ⟨by kernel_rfl, Mx (C := Go.pK.C) 4 (.agg #[.int .i64 0, .int .i64 0, .int .i64 0, .slice none 0 0]) rfl rfl (by kernel_rfl) Tryz.func114 (by kernel_rfl) (by kernel_rfl) Tryz.KI⟩
 | false =>
 rw [hb2] at h
 simp only [cond_false] at h
 cases hb3 : Nat.beq f 117 with
 | true =>
  rw [hb3] at h
  obtain rfl := Option.some.inj h
  obtain rfl := Nat.eq_of_beq_eq_true hb3
  exact ⟨by kernel_rfl, Bf (C := Go.pK.C) 4 48 (.agg #[.int .i64 0, .int .i64 0, .int .i64 0, .slice none 0 0]) rfl (by decide) (by decide) rfl (by kernel_rfl) Tryz.func117 (by kernel_rfl) (by kernel_rfl) Tryz.Hq Tryz.KC Tryz.Lu Tryz.KD⟩
 | false =>
 rw [hb3] at h
 simp only [cond_false] at h
 cases hb4 : Nat.beq f 184 with
 | true =>
  rw [hb4] at h
  obtain rfl := Option.some.inj h
  obtain rfl := Nat.eq_of_beq_eq_true hb4
  exact ⟨by kernel_rfl, Wo (C := Go.pK.C) rfl (by decide) Tryz.func184 (by kernel_rfl) (by kernel_rfl) Tryz.Ol Tryz.Sz Tryz.QH⟩
 | false =>
 rw [hb4] at h
 simp only [cond_false] at h
 cases hb5 : Nat.beq f 201 with
 | true =>
  rw [hb5] at h
  obtain rfl := Option.some.inj h
  obtain rfl := Nat.eq_of_beq_eq_true hb5
  exact ⟨by kernel_rfl, Bf (C := Go.pK.C) 4 32 (.agg #[.int .i64 0, .int .i64 0, .int .i64 0, .int .i64 0]) rfl (by decide) (by decide) rfl (by kernel_rfl) Tryz.func201 (by kernel_rfl) (by kernel_rfl) Tryz.Hr Tryz.KE Tryz.Lx Tryz.KF⟩
 | false =>
 rw [hb5] at h
 simp only [cond_false] at h
 cases hb6 : Nat.beq f 204 with
 | true =>
  rw [hb6] at h
  obtain rfl := Option.some.inj h
  obtain rfl := Nat.eq_of_beq_eq_true hb6
  exact ⟨by kernel_rfl, Mx (C := Go.pK.C) 4 (.agg #[.int .i64 0, .int .i64 0, .int .i64 0, .int .i64 0]) rfl rfl (by kernel_rfl) Tryz.func204 (by kernel_rfl) (by kernel_rfl) Tryz.KJ⟩
 | false =>
 rw [hb6] at h
 simp only [cond_false] at h
 cases hb7 : Nat.beq f 245 with
 | true =>
  rw [hb7] at h
  obtain rfl := Option.some.inj h
  obtain rfl := Nat.eq_of_beq_eq_true hb7
  exact ⟨by kernel_rfl, Bf (C := Go.pK.C) 5 40 (.agg #[.int .i64 0, .int .i64 0, .int .i64 0, .int .i64 0, .int .i64 0]) rfl (by decide) (by decide) rfl (by kernel_rfl) Tryz.func245 (by kernel_rfl) (by kernel_rfl) Tryz.Ht Tryz.KG Tryz.LA Tryz.KH⟩
 | false =>
 rw [hb7] at h
 simp only [cond_false] at h
 cases h
theorem func : Tryz.prog.funcs[3]? = some Tryz.f3 := by kernel_rfl
theorem params : Tryz.f3.params.toList = [22] := by kernel_rfl
theorem result : Tryz.prog.underlying 4 = some .bool := by kernel_rfl
theorem abT : lT Tryz.prog (.list (.int .u8)) 22 = true := by kernel_rfl
set_option maxRecDepth 100000 in
theorem lifted (os : Os) (started : os.Started) (H : Type) (enc : TypeId × Value -> H) :
  ReturnsInHanded {} Tryz.checked os 3 .any (Rows.fnTopSpec.pre6 enc Tryz.prog Tryz.f3 Rows.fnTopRow.domain false) (Rows.fnTopSpec.post enc Tryz.prog Tryz.f3 false true false false) := by
 refine returnsInHanded_of_change_sized (C := Tryz.checked) own started (by kernel_rfl) func
  (ChangeSpec.witness6 (enc := enc) (C := Tryz.checked) false ⟨#[], #[.slice none 0 0], []⟩ 8 (by kernel_rfl) (by kernel_rfl) (by kernel_rfl) (by kernel_rfl)) ?_
 intro W base args ds gs before hval0 hW hcnd hsz0 _
 have hval : ∀ (j : Nat) t v, Tryz.f3.params[j]? = some t -> args[j]? = some v -> Value.okWide Tryz.prog W .any base t v := hval0
 have Zf : ∀ (j : Nat) t v, Tryz.f3.params.toList[j]? = some t -> args[j]? = some v -> Value.okWide Tryz.prog W .any base t v := fun j t v h => hval j t v (by rw [<- Array.getElem?_toList]; exact h)
 have hW' := hW
 obtain ⟨p, q, hA0, hV, rfl, hfz, hnd⟩ := hW
 have hA : DataW.TrodAll enc Tryz.prog W 0 (fun _ => true) true Tryz.f3.params.toList args.toList ds p := hA0
 rw [params] at hA Zf
 obtain ⟨v0, vs0, d0, ds0, p0, q0, hargs, rfl, rfl, h0, r0⟩ := trodAll_cons hA
 obtain ⟨ad3, rfl, rfl⟩ := trodAll_nil r0
 obtain rfl : args = #[v0] := by cases args; simp_all
 obtain ⟨rfl, rfl⟩ := trodVars_none hV
 have lt0 : ∀ x ∈ p0, x.block < W.heap.size := by obtain ⟨m, hm⟩ := h0; exact DataW.trod_lt m _ _ _ hm
 obtain ⟨a0, ha0, w0⟩ := ZL abT (by kernel_rfl) (Zf 0 22 v0 rfl rfl) h0
 obtain ⟨k, hk⟩ := Go.pK.pure a0 w0
 refine (Ud (C := Go.pK.C) good MX (k := k) (args := [.val (.list (.int .u8)) a0]) (vals := [v0]) (w := W) func (by kernel_rfl) (fun x hx => by cases hx) (fun i j a b hi _ ha _ => by have hm := List.mem_of_getElem? hi; simp at hm; rcases hm with rfl <;> simp [Arg.sO] at ha) ⟨rfl, fun i a v hi hv => ?_⟩ hk (by kernel_rfl)).mono fun e W' hh => ?_
 ·rcases i with _ | i
  ·simp at hi hv; subst hi hv; exact ha0
  ·simp at hi
 obtain ⟨he, bel⟩ := hh
 subst he
 exact ⟨_, rfl, _, _, _, [], _, [], hW', trodAll_mk1 (shut_bool result _), (trodAll_cons_mk (Below.trod laidOut (by kernel_rfl) (of_decide_eq_true (by kernel_rfl)) h0 bel lt0) trodAll_mk0), rfl, bel.frame _, fun h => by cases h⟩
theorem over : Rows.fnTopRow.holds Tryz.pinned (OpenSpec.ofChange Rows.fnTopSpec) :=
 OpenClaim.holds_of_wide 3 Tryz.f3 rfl rfl rfl rfl rfl rfl rfl ⟨rfl, rfl, rfl, rfl, rfl⟩ rfl rfl rfl rfl rfl (by kernel_rfl) func (by kernel_rfl)
  (of_decide_eq_true (by kernel_rfl)) (by unfold Func.isWrapper; first | (rw [if_pos (by decide +kernel)]; kernel_rfl) | (rw [if_neg (by decide +kernel)]; exact ⟨rfl, rfl⟩))
  (fun os started H enc _ => lifted os started H enc)
theorem proved : Rows.FnTopSaid := over
#print axioms proved
end Go.Proofs.YtmocpfgfjeaelaaGreat.fnTop
namespace Go.Proofs.YtmocpfgfjeaelaaGreat
theorem fnTop_holds : Rows.FnTopSaid := fnTop.proved
end Go.Proofs.YtmocpfgfjeaelaaGreat
