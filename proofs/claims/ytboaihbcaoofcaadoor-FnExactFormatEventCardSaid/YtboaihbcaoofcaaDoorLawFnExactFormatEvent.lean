/- The row of the law FnExactFormatEvent, out of its plain statement. No condition. -/
import Derived.Test.YtboaihbcaoofcaaDoorRows
import Derived.Test.YtboaihbcaoofcaaDoorFitF
import Derived.Test.YtboaihbcaoofcaaDoorPureFnExactFormatEvent
import Derived.WalkKit
import Derived.ProofKit
import Derived.OpenShut
import Derived.ShutString
import Derived.ChangeOld
import Derived.Below
import Derived.SizedLaws
import Derived.Test.YtboaihbcaoofcaaDoorCards
import Derived.Test.YtboaihbcaoofcaaDoorTie
import Derived.LaidMore
import Derived.Stop.Joined
import Derived.SevenTiedAt
import Derived.Test.YtboaihbcaoofcaaDoorSh
import Derived.Test.YtboaihbcaoofcaaDoorHal
set_option linter.unusedVariables false
namespace Go.Proofs.YtboaihbcaoofcaaDoor.fnExactFormatEvent
open Go.ChangeShapes Go.WideShapes Go.ChangeAt Go.RowKit Go.Flat Go.QFnExactFormatEvent
theorem own : ownKnob Tryd.prog.godebug = none := by kernel_rfl
theorem laidOut : laidOutB Tryd.prog = true := by kernel_rfl
theorem good : Go.Flat.Good Go.QFnExactFormatEvent.C := ⟨by kernel_rfl, by kernel_rfl, by kernel_rfl⟩
theorem prim : PrimOk Go.QFnExactFormatEvent.C := fun f p h => by
  have h : (bif Nat.beq f 30 then some primItoa else bif Nat.beq f 47 then some primRepeat else bif Nat.beq f 52 then some primHalves else none) = some p := h
  cases hb0 : Nat.beq f 30 with
  | true =>
    rw [hb0] at h
    obtain rfl := Option.some.inj h
    obtain rfl := Nat.eq_of_beq_eq_true hb0
    exact itoa_ok (C := Go.QFnExactFormatEvent.C) Tryd.func30 (by kernel_rfl) (by kernel_rfl) (by simp [Go.QFnExactFormatEvent.C]) Tryd.strconv_Itoa
  | false =>
  rw [hb0] at h
  simp only [cond_false] at h
  cases hb1 : Nat.beq f 47 with
  | true =>
    rw [hb1] at h
    obtain rfl := Option.some.inj h
    obtain rfl := Nat.eq_of_beq_eq_true hb1
    exact repeat_ok (C := Go.QFnExactFormatEvent.C) Tryd.func47 (by kernel_rfl) (by kernel_rfl) Tryd.strings_Repeat
  | false =>
  rw [hb1] at h
  simp only [cond_false] at h
  cases hb2 : Nat.beq f 52 with
  | true =>
    rw [hb2] at h
    obtain rfl := Option.some.inj h
    obtain rfl := Nat.eq_of_beq_eq_true hb2
    exact halves_ok (C := Go.QFnExactFormatEvent.C) Tryd.func52 (by kernel_rfl) (by kernel_rfl) Tryd.halves_walk
  | false =>
  rw [hb2] at h
  simp only [cond_false] at h
  cases h
theorem func : Tryd.prog.funcs[5]? = some Tryd.f5 := by kernel_rfl
theorem params : Tryd.f5.params.toList = [35] := by kernel_rfl
theorem result : Tryd.prog.underlying 4 = some .bool := by kernel_rfl
theorem okT35 : okTy Tryd.prog T34 35 = true := by kernel_rfl
def laidL : List (String × DataW Unit) := Rows.fnExactFormatEventRow.laid
theorem door_met (os : Os) (args : Array Value) : laidMetH Tryd.prog laidL ((World.doorLaid Tryd.prog 4000 os).forCall (fun _ _ => 0) ⟨#[], args, []⟩).memory :=
  laidMetH_of_parts3 (fuel := 8) (laidMet_of_run' 8 (by kernel_rfl) (by kernel_rfl)) (by kernel_rfl) (by kernel_rfl)
theorem tabs_of {W : World} (h : laidMetH Tryd.prog laidL W) : Tab Go.QFnExactFormatEvent.C W (· < W.heap.size) := by
  rw [MakeChecks.laidMetH_plain _ _ _ (by kernel_rfl)] at h
  obtain ⟨ps, ⟨g0, t0, cs0, f0, p0, q0, hg0, ht0, hv0, hd0, ⟨g1, t1, cs1, f1, p1, q1, hg1, ht1, hv1, hd1, ⟨g2, t2, cs2, f2, p2, q2, hg2, ht2, hv2, hd2, _, _⟩, _⟩, _⟩, _, _⟩ := h
  obtain ⟨g, hg⟩ : ∃ g, Tryd.prog.globalNamed "internal/strconv.uint64pow10" = some g := ⟨_, hg2⟩
  intro x hx
  have hx : x = ("internal/strconv.uint64pow10", Lib.pow10Tab) := by simpa [Go.QFnExactFormatEvent.C] using hx
  subst hx
  have ht : t2 = (Tryd.prog.globals[g2]?.map (·.type)).getD 0 := by rw [ht2]; rfl
  have hgg : g2 = (Tryd.prog.globalNamed "internal/strconv.uint64pow10").getD 0 := by rw [hg2]; rfl
  have hcs : cs2.toList = Lib.pow10Tab.map fun z => Value.int .u64 z := by
    subst hgg
    subst ht
    exact Lib.cells_of_tab (n := 20) (e := 85) (by kernel_rfl) (by kernel_rfl) (by kernel_rfl) (by kernel_rfl) (show DataW.trod _ _ _ _ _ _ _ _ _ = some (Lib.tabData .u64 Lib.pow10Tab, _) from hd2)
  refine ⟨?_, fun g' hg' => ?_⟩
  · show World.var? Tryd.prog W "internal/strconv.uint64pow10" = _
    rw [hv2]
    congr 1
    exact Array.ext' (by simpa using hcs)
  · have hv := hv2
    unfold World.var? at hv
    have hg' : Tryd.prog.globalNamed "internal/strconv.uint64pow10" = some g' := hg'
    rw [hg'] at hv
    simp only [Option.bind_some] at hv
    cases hh : W.heap[g']? with
    | none => rw [hh] at hv; cases hv
    | some _ => exact (Array.getElem?_eq_some_iff.1 hh).1
set_option maxRecDepth 100000 in
theorem lifted (os : Os) (started : os.Started) (H : Type) (enc : TypeId × Value → H) :
    ReturnsInHanded {} Tryd.checked os 5 .any (fun w args => (Rows.fnExactFormatEventSpec.pre enc Tryd.prog Tryd.f5 [] false w args ∧ laidMetH Tryd.prog laidL w) ∧ sizedMet enc Tryd.prog Tryd.f5 (OpenSpec.ofChange Rows.fnExactFormatEventSpec) false w args) (Rows.fnExactFormatEventSpec.post enc Tryd.prog Tryd.f5 false true false false) := by
  refine returnsInHanded_of_change_and (C := Tryd.checked) (X := fun w _ => laidMetH Tryd.prog laidL w) (fun _ _ _ hh h => h.of_heap hh) own started (by kernel_rfl) func
    (ChangeSpec.witness_shaped (enc := enc) (C := Tryd.checked) (os := os) (X := fun w _ => laidMetH Tryd.prog laidL w) false (World.doorLaid Tryd.prog 4000 os) #[.agg #[.int .i64 0, .int .i64 0, .int .i64 0, .int .i64 0]] 8 rfl (World.shaped_of_RefB (by kernel_rfl) (by kernel_rfl)) (by kernel_rfl) (by kernel_rfl) (by kernel_rfl) (door_met os _)) ?_
  intro W base args ds gs before hval0 hW hcnd hsz0 hL _
  have hval : ∀ (j : Nat) t v, Tryd.f5.params[j]? = some t → args[j]? = some v → Value.okWide Tryd.prog W .any base t v := hval0
  have hvalL : ∀ (j : Nat) t v, Tryd.f5.params.toList[j]? = some t → args[j]? = some v → Value.okWide Tryd.prog W .any base t v := fun j t v h => hval j t v (by rw [← Array.getElem?_toList]; exact h)
  have hW' := hW
  obtain ⟨p, q, hA0, hV, rfl, hfz, hnd⟩ := hW
  have hA : DataW.TrodAll enc Tryd.prog W 0 (fun _ => true) true Tryd.f5.params.toList args.toList ds p := hA0
  rw [params] at hA hvalL
  obtain ⟨v0, vs0, d0, ds0, p0, q0, hargs, rfl, rfl, h0, r0⟩ := trodAll_cons hA
  obtain ⟨hvs0, rfl, rfl⟩ := trodAll_nil r0
  obtain rfl : args = #[v0] := by cases args; simp_all
  obtain ⟨rfl, rfl⟩ := trodVars_none hV
  have lt0 : ∀ x ∈ p0, x.block < W.heap.size := by obtain ⟨m, hm⟩ := h0; exact DataW.trod_lt m _ _ _ hm
  obtain ⟨a0, ha0, w0⟩ := arg_in okT35 (by kernel_rfl) (hvalL 0 35 v0 rfl rfl) h0
  obtain ⟨k, hk⟩ := Go.QFnExactFormatEvent.pure a0 w0
  refine (law_calls (C := Go.QFnExactFormatEvent.C) good prim (k := k) (args := [.val T34 a0]) (vals := [v0]) (w := W) func (by kernel_rfl) (tabs_of hL) (fun i j a b hi _ ha _ => by have hm := List.mem_of_getElem? hi; simp at hm; rcases hm with rfl <;> simp [Arg.isIo] at ha) ⟨rfl, fun i a v hi hv => ?_⟩ hk).mono fun e W' hh => ?_
  · rcases i with _ | i
    · simp at hi hv; subst hi hv; exact ha0
    · simp at hi
  obtain ⟨he, bel⟩ := hh
  subst he
  exact ⟨_, rfl, _, _, _, [], _, [], hW', trodAll_mk1 (shut_bool result _), (trodAll_cons_mk (Below.trod laidOut (by kernel_rfl) (of_decide_eq_true (by kernel_rfl)) h0 bel lt0) trodAll_mk0), rfl, bel.frame _, fun h => by cases h⟩
theorem over : Rows.fnExactFormatEventRow.holds Tryd.pinned (OpenSpec.ofChange Rows.fnExactFormatEventSpec) :=
  OpenClaim.holds_of_wide 5 Tryd.f5 rfl rfl rfl rfl rfl rfl rfl ⟨rfl, rfl, rfl, rfl, rfl⟩ rfl rfl rfl rfl rfl (by kernel_rfl) func (by kernel_rfl)
    (of_decide_eq_true (by kernel_rfl)) (by unfold Func.isWrapper; first | (rw [if_pos (by decide +kernel)]; kernel_rfl) | (rw [if_neg (by decide +kernel)]; exact ⟨rfl, rfl⟩))
    (fun os started H enc _ => lifted os started H enc)

theorem proved : Rows.FnExactFormatEventCardSaid :=
  Claim7.holds_tied_plain_at .later [] [.data, .data, .data] true (true, "34e90830b0047af8f15cb4f57a5d081b4c374d2d6754693016fd3dbec886cf81") false
    over (fun _ h => by cases h) (by kernel_rfl) (fun _ h => by cases h) fnExactFormatEvent_row_tie rfl ⟨rfl, rfl⟩ (by kernel_rfl) rfl
    (fun f fn hf hfn => by
      obtain rfl : f = 5 := Option.some.inj ((show Tryd.prog.funcNamed "loop.example/g03004/laws.FnExactFormatEvent" = some 5 by kernel_rfl).symm.trans hf) |>.symm
      obtain rfl : fn = Tryd.f5 := (Option.some.inj (func.symm.trans hfn)).symm
      exact ⟨by kernel_rfl, fun j t ht => by
        have ht : Tryd.f5.params.toList[j]? = some t := by rw [Array.getElem?_toList]; exact ht
        rw [params] at ht
        have hm : t ∈ [35] := List.mem_of_getElem? ht
        have hall : ([35].all fun u => !Tryd.prog.wantsStandIn u) = true := by kernel_rfl
        exact (show Tryd.prog.wantsStandIn t = false by simpa using List.all_eq_true.1 hall t hm)⟩)
    (by kernel_rfl)
#print axioms proved
end Go.Proofs.YtboaihbcaoofcaaDoor.fnExactFormatEvent
namespace Go.Proofs.YtboaihbcaoofcaaDoor
/-- The row, under a short name, for the claim. -/
theorem fnExactFormatEvent_holds : Rows.FnExactFormatEventCardSaid := fnExactFormatEvent.proved
end Go.Proofs.YtboaihbcaoofcaaDoor
