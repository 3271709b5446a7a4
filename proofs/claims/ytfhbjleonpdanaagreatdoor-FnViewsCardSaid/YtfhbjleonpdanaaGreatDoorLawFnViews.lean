/- The row of the law FnViews, out of its plain statement. No condition. -/
import Derived.Test.YtfhbjleonpdanaaGreatDoorRows
import Derived.Test.YtfhbjleonpdanaaGreatDoorFitF
import Derived.Test.YtfhbjleonpdanaaGreatDoorPureFnViews
import Derived.WalkKit
import Derived.ProofKit
import Derived.OpenShut
import Derived.ShutString
import Derived.ChangeOld
import Derived.Below
import Derived.SizedLaws
import Derived.Test.YtfhbjleonpdanaaGreatDoorCards
import Derived.Test.YtfhbjleonpdanaaGreatDoorTie
import Derived.LaidMore
import Derived.Stop.Joined
import Derived.SevenTiedAt
import Derived.Test.YtfhbjleonpdanaaGreatDoorSh
import Derived.Test.YtfhbjleonpdanaaGreatDoorHal
set_option linter.unusedVariables false
namespace Go.Proofs.YtfhbjleonpdanaaGreatDoor.fnViews
open Go.ChangeShapes Go.WideShapes Go.ChangeAt Go.RowKit Go.Flat Go.QFnViews
theorem own : ownKnob Tryz.prog.godebug = none := by kernel_rfl
theorem laidOut : laidOutB Tryz.prog = true := by kernel_rfl
theorem good : Go.Flat.Good Go.QFnViews.C := ⟨by kernel_rfl, by kernel_rfl, by kernel_rfl⟩
theorem prim : PrimOk Go.QFnViews.C := fun f p h => by
  have h : (bif Nat.beq f 35 then some primJoin else bif Nat.beq f 39 then some primItoa else bif Nat.beq f 55 then some primRepeat else bif Nat.beq f 70 then some primHalves else none) = some p := h
  cases hb0 : Nat.beq f 35 with
  | true =>
    rw [hb0] at h
    obtain rfl := Option.some.inj h
    obtain rfl := Nat.eq_of_beq_eq_true hb0
    exact ⟨by kernel_rfl, join_ok (C := Go.QFnViews.C) rfl Tryz.func35 (by kernel_rfl) (by kernel_rfl) Tryz.strings_Join_none Tryz.strings_Join⟩
  | false =>
  rw [hb0] at h
  simp only [cond_false] at h
  cases hb1 : Nat.beq f 39 with
  | true =>
    rw [hb1] at h
    obtain rfl := Option.some.inj h
    obtain rfl := Nat.eq_of_beq_eq_true hb1
    exact ⟨by kernel_rfl, itoa_ok (C := Go.QFnViews.C) rfl Tryz.func39 (by kernel_rfl) (by kernel_rfl) (by simp [Go.QFnViews.C]) Tryz.strconv_Itoa⟩
  | false =>
  rw [hb1] at h
  simp only [cond_false] at h
  cases hb2 : Nat.beq f 55 with
  | true =>
    rw [hb2] at h
    obtain rfl := Option.some.inj h
    obtain rfl := Nat.eq_of_beq_eq_true hb2
    exact ⟨by kernel_rfl, repeat_ok (C := Go.QFnViews.C) rfl Tryz.func55 (by kernel_rfl) (by kernel_rfl) Tryz.strings_Repeat⟩
  | false =>
  rw [hb2] at h
  simp only [cond_false] at h
  cases hb3 : Nat.beq f 70 with
  | true =>
    rw [hb3] at h
    obtain rfl := Option.some.inj h
    obtain rfl := Nat.eq_of_beq_eq_true hb3
    exact ⟨by kernel_rfl, halves_ok (C := Go.QFnViews.C) rfl Tryz.func70 (by kernel_rfl) (by kernel_rfl) Tryz.halves_walk⟩
  | false =>
  rw [hb3] at h
  simp only [cond_false] at h
  cases h
theorem func : Tryz.prog.funcs[3]? = some Tryz.f3 := by kernel_rfl
theorem params : Tryz.f3.params.toList = [22] := by kernel_rfl
theorem result : Tryz.prog.underlying 4 = some .bool := by kernel_rfl
theorem okT22 : okTy Tryz.prog (.list (.int .u8)) 22 = true := by kernel_rfl
def laidL : List (String × DataW Unit) := Rows.fnViewsRow.laid
theorem door_met (os : Os) (args : Array Value) : laidMetH Tryz.prog laidL ((World.doorLaid Tryz.prog 4000 os).forCall (fun _ _ => 0) ⟨#[], args, []⟩).memory :=
  laidMetH_of_parts3 (fuel := 8) (laidMet_of_run' 8 (by kernel_rfl) (by kernel_rfl)) (by kernel_rfl) (by kernel_rfl)
theorem tabs_of {W : World} (h : laidMetH Tryz.prog laidL W) : Tab Go.QFnViews.C W (· < W.heap.size) := by
  rw [MakeChecks.laidMetH_plain _ _ _ (by kernel_rfl)] at h
  obtain ⟨ps, ⟨g0, t0, cs0, f0, p0, q0, hg0, ht0, hv0, hd0, ⟨g1, t1, cs1, f1, p1, q1, hg1, ht1, hv1, hd1, ⟨g2, t2, cs2, f2, p2, q2, hg2, ht2, hv2, hd2, _, _⟩, _⟩, _⟩, _, _⟩ := h
  obtain ⟨g, hg⟩ : ∃ g, Tryz.prog.globalNamed "internal/strconv.uint64pow10" = some g := ⟨_, hg2⟩
  intro x hx
  have hx : x = ("internal/strconv.uint64pow10", Lib.pow10Tab) := by simpa [Go.QFnViews.C] using hx
  subst hx
  have ht : t2 = (Tryz.prog.globals[g2]?.map (·.type)).getD 0 := by rw [ht2]; rfl
  have hgg : g2 = (Tryz.prog.globalNamed "internal/strconv.uint64pow10").getD 0 := by rw [hg2]; rfl
  have hcs : cs2.toList = Lib.pow10Tab.map fun z => Value.int .u64 z := by
    subst hgg
    subst ht
    exact Lib.cells_of_tab (n := 20) (e := 142) (by kernel_rfl) (by kernel_rfl) (by kernel_rfl) (by kernel_rfl) (show DataW.trod _ _ _ _ _ _ _ _ _ = some (Lib.tabData .u64 Lib.pow10Tab, _) from hd2)
  refine ⟨?_, fun g' hg' => ?_⟩
  · show World.var? Tryz.prog W "internal/strconv.uint64pow10" = _
    rw [hv2]
    congr 1
    exact Array.ext' (by simpa using hcs)
  · have hv := hv2
    unfold World.var? at hv
    have hg' : Tryz.prog.globalNamed "internal/strconv.uint64pow10" = some g' := hg'
    rw [hg'] at hv
    simp only [Option.bind_some] at hv
    cases hh : W.heap[g']? with
    | none => rw [hh] at hv; cases hv
    | some _ => exact (Array.getElem?_eq_some_iff.1 hh).1
set_option maxRecDepth 100000 in
theorem lifted (os : Os) (started : os.Started) (H : Type) (enc : TypeId × Value → H) :
    ReturnsInHanded {} Tryz.checked os 3 .any (fun w args => (Rows.fnViewsSpec.pre enc Tryz.prog Tryz.f3 [] false w args ∧ laidMetH Tryz.prog laidL w) ∧ sizedMet enc Tryz.prog Tryz.f3 (OpenSpec.ofChange Rows.fnViewsSpec) false w args) (Rows.fnViewsSpec.post enc Tryz.prog Tryz.f3 false true false false) := by
  refine returnsInHanded_of_change_and (C := Tryz.checked) (X := fun w _ => laidMetH Tryz.prog laidL w) (fun _ _ _ hh h => h.of_heap hh) own started (by kernel_rfl) func
    (ChangeSpec.witness_shaped (enc := enc) (C := Tryz.checked) (os := os) (X := fun w _ => laidMetH Tryz.prog laidL w) false (World.doorLaid Tryz.prog 4000 os) #[.slice none 0 0] 8 rfl (World.shaped_of_RefB (by kernel_rfl) (by kernel_rfl)) (by kernel_rfl) (by kernel_rfl) (by kernel_rfl) (door_met os _)) ?_
  intro W base args ds gs before hval0 hW hcnd hsz0 hL _
  have hval : ∀ (j : Nat) t v, Tryz.f3.params[j]? = some t → args[j]? = some v → Value.okWide Tryz.prog W .any base t v := hval0
  have hvalL : ∀ (j : Nat) t v, Tryz.f3.params.toList[j]? = some t → args[j]? = some v → Value.okWide Tryz.prog W .any base t v := fun j t v h => hval j t v (by rw [← Array.getElem?_toList]; exact h)
  have hW' := hW
  obtain ⟨p, q, hA0, hV, rfl, hfz, hnd⟩ := hW
  have hA : DataW.TrodAll enc Tryz.prog W 0 (fun _ => true) true Tryz.f3.params.toList args.toList ds p := hA0
  rw [params] at hA hvalL
  obtain ⟨v0, vs0, d0, ds0, p0, q0, hargs, rfl, rfl, h0, r0⟩ := trodAll_cons hA
  obtain ⟨hvs0, rfl, rfl⟩ := trodAll_nil r0
  obtain rfl : args = #[v0] := by cases args; simp_all
  obtain ⟨rfl, rfl⟩ := trodVars_none hV
  have lt0 : ∀ x ∈ p0, x.block < W.heap.size := by obtain ⟨m, hm⟩ := h0; exact DataW.trod_lt m _ _ _ hm
  obtain ⟨a0, ha0, w0⟩ := arg_in okT22 (by kernel_rfl) (hvalL 0 22 v0 rfl rfl) h0
  obtain ⟨k, hk⟩ := Go.QFnViews.pure a0 w0
  refine (law_calls (C := Go.QFnViews.C) good prim (k := k) (args := [.val (.list (.int .u8)) a0]) (vals := [v0]) (w := W) func (by kernel_rfl) (tabs_of hL) (fun i j a b hi _ ha _ => by have hm := List.mem_of_getElem? hi; simp at hm; rcases hm with rfl <;> simp [Arg.isIo] at ha) ⟨rfl, fun i a v hi hv => ?_⟩ hk (by kernel_rfl)).mono fun e W' hh => ?_
  · rcases i with _ | i
    · simp at hi hv; subst hi hv; exact ha0
    · simp at hi
  obtain ⟨he, bel⟩ := hh
  subst he
  exact ⟨_, rfl, _, _, _, [], _, [], hW', trodAll_mk1 (shut_bool result _), (trodAll_cons_mk (Below.trod laidOut (by kernel_rfl) (of_decide_eq_true (by kernel_rfl)) h0 bel lt0) trodAll_mk0), rfl, bel.frame _, fun h => by cases h⟩
theorem over : Rows.fnViewsRow.holds Tryz.pinned (OpenSpec.ofChange Rows.fnViewsSpec) :=
  OpenClaim.holds_of_wide 3 Tryz.f3 rfl rfl rfl rfl rfl rfl rfl ⟨rfl, rfl, rfl, rfl, rfl⟩ rfl rfl rfl rfl rfl (by kernel_rfl) func (by kernel_rfl)
    (of_decide_eq_true (by kernel_rfl)) (by unfold Func.isWrapper; first | (rw [if_pos (by decide +kernel)]; kernel_rfl) | (rw [if_neg (by decide +kernel)]; exact ⟨rfl, rfl⟩))
    (fun os started H enc _ => lifted os started H enc)

theorem proved : Rows.FnViewsCardSaid :=
  Claim7.holds_tied_plain_at .later [] [.data, .data, .data] true (true, "a9679737b06136c771239aa674a2e983ac0a4b66eef1f9b77f2c703dac25fa32") false
    over (fun _ h => by cases h) (by kernel_rfl) (fun _ h => by cases h) fnViews_row_tie rfl ⟨rfl, rfl⟩ (by kernel_rfl) rfl
    (fun f fn hf hfn => by
      obtain rfl : f = 3 := Option.some.inj ((show Tryz.prog.funcNamed "loop.example/g03004/laws.FnViews" = some 3 by kernel_rfl).symm.trans hf) |>.symm
      obtain rfl : fn = Tryz.f3 := (Option.some.inj (func.symm.trans hfn)).symm
      exact ⟨by kernel_rfl, fun j t ht => by
        have ht : Tryz.f3.params.toList[j]? = some t := by rw [Array.getElem?_toList]; exact ht
        rw [params] at ht
        have hm : t ∈ [22] := List.mem_of_getElem? ht
        have hall : ([22].all fun u => !Tryz.prog.wantsStandIn u) = true := by kernel_rfl
        exact (show Tryz.prog.wantsStandIn t = false by simpa using List.all_eq_true.1 hall t hm)⟩)
    (by kernel_rfl)
#print axioms proved
end Go.Proofs.YtfhbjleonpdanaaGreatDoor.fnViews
namespace Go.Proofs.YtfhbjleonpdanaaGreatDoor
/-- The row, under a short name, for the claim. -/
theorem fnViews_holds : Rows.FnViewsCardSaid := fnViews.proved
end Go.Proofs.YtfhbjleonpdanaaGreatDoor
