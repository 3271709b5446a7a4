-- Printed by wip/myprint.py: one Lean function and its proof for each Go function.
import Derived.Test.YtaidfaagmecdlaaPFnExactBusiestPlayerx0
import Derived.Test.YtaidfaagmecdlaaPFnExactBusiestPlayerx2
import Derived.Test.YtaidfaagmecdlaaPFnExactBusiestPlayerx3
import Derived.Test.YtaidfaagmecdlaaPFnExactBusiestPlayerx4
namespace Go.Proofs.Ytaidfaagmecdlaa.PFnExactBusiestPlayer
open Go.RowKit Go.Proofs.YtaidfaagmecdlaaW.PrintWords Go.Proofs.YtaidfaagmecdlaaW.PrintLast Go.Proofs.YtaidfaagmecdlaaW.PrintMore
attribute [local go_sem] max2_int min2_int max_two min_two max_three min_three max_four min_four   -- for this text's walks alone
set_option linter.unusedVariables false
set_option linter.unusedSimpArgs false

/-! ### laws_eqOrchestra: function 49 -/
def laws_eqOrchestra.f (k : Nat) (l0_0 : List (S114)) (a0_1 : Int) (a0_2 : Int) (l0_3 : List (S116)) (l0_4 : List (S118)) (l0_5 : List Int) (l0_6 : List (S120)) (l0_7 : List (S147)) (a0_8 : Int) (a0_9 : Int) (l1_0 : List (S114)) (a1_1 : Int) (a1_2 : Int) (l1_3 : List (S116)) (l1_4 : List (S118)) (l1_5 : List Int) (l1_6 : List (S120)) (l1_7 : List (S147)) (a1_8 : Int) (a1_9 : Int) : Option (Bool) := (laws_eqEventS.f k l0_0 l1_0).bind fun t237 => (if t237 = true then ((laws_eqMeter.f a0_1 a0_2 a1_1 a1_2).bind fun t238 => (if t238 = true then ((laws_eqTempoS.f k l0_3 l1_3).bind fun t239 => (if t239 = true then ((laws_eqPlayerS.f k l0_4 l1_4).bind fun t240 => (if t240 = true then ((laws_eqIntS.f k l0_5 l1_5).bind fun t241 => (if t241 = true then ((laws_eqMarkS.f k l0_6 l1_6).bind fun t242 => (if t242 = true then ((laws_eqLetterS.f k l0_7 l1_7).bind fun t243 => (if t243 = true then (if a0_8 = a1_8 then (if a0_9 = a1_9 then (some true) else (none)) else (none)) else (none))) else (none))) else (none))) else (none))) else (none))) else (none))) else (none))
theorem laws_eqOrchestra.mono : ∀ a0 a1 a2 a3 a4 a5 a6 a7 a8 a9 a10 a11 a12 a13 a14 a15 a16 a17 a18 a19 k, LeO (laws_eqOrchestra.f k a0 a1 a2 a3 a4 a5 a6 a7 a8 a9 a10 a11 a12 a13 a14 a15 a16 a17 a18 a19) (laws_eqOrchestra.f (k + 1) a0 a1 a2 a3 a4 a5 a6 a7 a8 a9 a10 a11 a12 a13 a14 a15 a16 a17 a18 a19) := by
  intro a0 a1 a2 a3 a4 a5 a6 a7 a8 a9 a10 a11 a12 a13 a14 a15 a16 a17 a18 a19 k
  unfold laws_eqOrchestra.f
  repeat' first
      | (with_reducible exact laws_eqEventS.mono _ _ _)
      | (with_reducible exact laws_eqIntS.mono _ _ _)
      | (with_reducible exact laws_eqLetterS.mono _ _ _)
      | (with_reducible exact laws_eqMarkS.mono _ _ _)
      | (with_reducible exact laws_eqPlayerS.mono _ _ _)
      | (with_reducible exact laws_eqTempoS.mono _ _ _)
      | (with_reducible exact LeO.refl _)
      | (with_reducible exact LeO.none _)
      | (with_reducible refine LeO.ite ?_ ?_)
      | (with_reducible refine LeO.bind ?_ (fun _ => ?_))
      | exact laws_eqEventS.mono _ _ _
      | exact laws_eqIntS.mono _ _ _
      | exact laws_eqLetterS.mono _ _ _
      | exact laws_eqMarkS.mono _ _ _
      | exact laws_eqPlayerS.mono _ _ _
      | exact laws_eqTempoS.mono _ _ _
      | exact LeO.none _
      | refine LeO.ite ?_ ?_
      | refine LeO.bind ?_ (fun _ => ?_)
set_option maxHeartbeats 8000000 in
set_option maxRecDepth 100000 in
theorem laws_eqOrchestra.calls (k : Nat) (A0_0 : Option Addr) (c0_0 : Nat) (l0_0 : List (S114)) (a0_1 : Int) (a0_2 : Int) (A0_3 : Option Addr) (c0_3 : Nat) (l0_3 : List (S116)) (A0_4 : Option Addr) (c0_4 : Nat) (l0_4 : List (S118)) (A0_5 : Option Addr) (c0_5 : Nat) (l0_5 : List Int) (A0_6 : Option Addr) (c0_6 : Nat) (l0_6 : List (S120)) (A0_7 : Option Addr) (c0_7 : Nat) (l0_7 : List (S147)) (a0_8 : Int) (a0_9 : Int) (A1_0 : Option Addr) (c1_0 : Nat) (l1_0 : List (S114)) (a1_1 : Int) (a1_2 : Int) (A1_3 : Option Addr) (c1_3 : Nat) (l1_3 : List (S116)) (A1_4 : Option Addr) (c1_4 : Nat) (l1_4 : List (S118)) (A1_5 : Option Addr) (c1_5 : Nat) (l1_5 : List Int) (A1_6 : Option Addr) (c1_6 : Nat) (l1_6 : List (S120)) (A1_7 : Option Addr) (c1_7 : Nat) (l1_7 : List (S147)) (a1_8 : Int) (a1_9 : Int) (r : Bool) (w : World) (hr0_0 : Kd.C k114 w A0_0 l0_0.length l0_0) (hc0_0 : l0_0.length ≤ c0_0) (hr0_3 : Kd.C k116 w A0_3 l0_3.length l0_3) (hc0_3 : l0_3.length ≤ c0_3) (hr0_4 : Kd.C k118 w A0_4 l0_4.length l0_4) (hc0_4 : l0_4.length ≤ c0_4) (hr0_5 : Kd.C (Kd.int .i64) w A0_5 l0_5.length l0_5) (hc0_5 : l0_5.length ≤ c0_5) (hr0_6 : Kd.C k120 w A0_6 l0_6.length l0_6) (hc0_6 : l0_6.length ≤ c0_6) (hr0_7 : Kd.C k147 w A0_7 l0_7.length l0_7) (hc0_7 : l0_7.length ≤ c0_7) (hr1_0 : Kd.C k114 w A1_0 l1_0.length l1_0) (hc1_0 : l1_0.length ≤ c1_0) (hr1_3 : Kd.C k116 w A1_3 l1_3.length l1_3) (hc1_3 : l1_3.length ≤ c1_3) (hr1_4 : Kd.C k118 w A1_4 l1_4.length l1_4) (hc1_4 : l1_4.length ≤ c1_4) (hr1_5 : Kd.C (Kd.int .i64) w A1_5 l1_5.length l1_5) (hc1_5 : l1_5.length ≤ c1_5) (hr1_6 : Kd.C k120 w A1_6 l1_6.length l1_6) (hc1_6 : l1_6.length ≤ c1_6) (hr1_7 : Kd.C k147 w A1_7 l1_7.length l1_7) (hc1_7 : l1_7.length ≤ c1_7) (h : laws_eqOrchestra.f k l0_0 a0_1 a0_2 l0_3 l0_4 l0_5 l0_6 l0_7 a0_8 a0_9 l1_0 a1_1 a1_2 l1_3 l1_4 l1_5 l1_6 l1_7 a1_8 a1_9 = some r) :
    Calls Try.prog 49 #[.agg #[.slice A0_0 l0_0.length c0_0, .int .i64 a0_1, .int .i64 a0_2, .slice A0_3 l0_3.length c0_3, .slice A0_4 l0_4.length c0_4, .slice A0_5 l0_5.length c0_5, .slice A0_6 l0_6.length c0_6, .slice A0_7 l0_7.length c0_7, .int .i64 a0_8, .int .i64 a0_9], .agg #[.slice A1_0 l1_0.length c1_0, .int .i64 a1_1, .int .i64 a1_2, .slice A1_3 l1_3.length c1_3, .slice A1_4 l1_4.length c1_4, .slice A1_5 l1_5.length c1_5, .slice A1_6 l1_6.length c1_6, .slice A1_7 l1_7.length c1_7, .int .i64 a1_8, .int .i64 a1_9]] w fun e w' => e = .returned (.bool r) ∧ Below w.heap.size w w' := by
  have hu81 := Try.underlying81
  have hu75 := Try.underlying75
  have HR0_0 := Aside0.mk hr0_0
  have HC0_0 := Aside0.mk hc0_0
  clear hr0_0 hc0_0
  have HR0_3 := Aside0.mk hr0_3
  have HC0_3 := Aside0.mk hc0_3
  clear hr0_3 hc0_3
  have HR0_4 := Aside0.mk hr0_4
  have HC0_4 := Aside0.mk hc0_4
  clear hr0_4 hc0_4
  have HR0_5 := Aside0.mk hr0_5
  have HC0_5 := Aside0.mk hc0_5
  clear hr0_5 hc0_5
  have HR0_6 := Aside0.mk hr0_6
  have HC0_6 := Aside0.mk hc0_6
  clear hr0_6 hc0_6
  have HR0_7 := Aside0.mk hr0_7
  have HC0_7 := Aside0.mk hc0_7
  clear hr0_7 hc0_7
  have HR1_0 := Aside0.mk hr1_0
  have HC1_0 := Aside0.mk hc1_0
  clear hr1_0 hc1_0
  have HR1_3 := Aside0.mk hr1_3
  have HC1_3 := Aside0.mk hc1_3
  clear hr1_3 hc1_3
  have HR1_4 := Aside0.mk hr1_4
  have HC1_4 := Aside0.mk hc1_4
  clear hr1_4 hc1_4
  have HR1_5 := Aside0.mk hr1_5
  have HC1_5 := Aside0.mk hc1_5
  clear hr1_5 hc1_5
  have HR1_6 := Aside0.mk hr1_6
  have HC1_6 := Aside0.mk hc1_6
  clear hr1_6 hc1_6
  have HR1_7 := Aside0.mk hr1_7
  have HC1_7 := Aside0.mk hc1_7
  clear hr1_7 hc1_7
  have HB := Aside0.mk (Below.refl w.heap.size w)
  have H : ((laws_eqEventS.f k l0_0 l1_0).bind fun t237 => (if t237 = true then ((laws_eqMeter.f a0_1 a0_2 a1_1 a1_2).bind fun t238 => (if t238 = true then ((laws_eqTempoS.f k l0_3 l1_3).bind fun t239 => (if t239 = true then ((laws_eqPlayerS.f k l0_4 l1_4).bind fun t240 => (if t240 = true then ((laws_eqIntS.f k l0_5 l1_5).bind fun t241 => (if t241 = true then ((laws_eqMarkS.f k l0_6 l1_6).bind fun t242 => (if t242 = true then ((laws_eqLetterS.f k l0_7 l1_7).bind fun t243 => (if t243 = true then (if a0_8 = a1_8 then (if a0_9 = a1_9 then (some true) else (none)) else (none)) else (none))) else (none))) else (none))) else (none))) else (none))) else (none))) else (none))) = some r := h
  clear h
  replace H := Option.bind_eq_some_iff.mp H
  obtain ⟨t237, A30, H⟩ := H
  replace H : (if t237 = true then ((laws_eqMeter.f a0_1 a0_2 a1_1 a1_2).bind fun t238 => (if t238 = true then ((laws_eqTempoS.f k l0_3 l1_3).bind fun t239 => (if t239 = true then ((laws_eqPlayerS.f k l0_4 l1_4).bind fun t240 => (if t240 = true then ((laws_eqIntS.f k l0_5 l1_5).bind fun t241 => (if t241 = true then ((laws_eqMarkS.f k l0_6 l1_6).bind fun t242 => (if t242 = true then ((laws_eqLetterS.f k l0_7 l1_7).bind fun t243 => (if t243 = true then (if a0_8 = a1_8 then (if a0_9 = a1_9 then (some true) else (none)) else (none)) else (none))) else (none))) else (none))) else (none))) else (none))) else (none))) else (none)) = some r := H
  have A3 := Aside0.mk A30
  clear A30
  by_cases c4 : t237 = true
  · subst c4
    have H1 : ((laws_eqMeter.f a0_1 a0_2 a1_1 a1_2).bind fun t238 => (if t238 = true then ((laws_eqTempoS.f k l0_3 l1_3).bind fun t239 => (if t239 = true then ((laws_eqPlayerS.f k l0_4 l1_4).bind fun t240 => (if t240 = true then ((laws_eqIntS.f k l0_5 l1_5).bind fun t241 => (if t241 = true then ((laws_eqMarkS.f k l0_6 l1_6).bind fun t242 => (if t242 = true then ((laws_eqLetterS.f k l0_7 l1_7).bind fun t243 => (if t243 = true then (if a0_8 = a1_8 then (if a0_9 = a1_9 then (some true) else (none)) else (none)) else (none))) else (none))) else (none))) else (none))) else (none))) else (none))) = some r := by rw [if_pos rfl] at H; exact H
    clear H
    have H := H1
    clear H1
    replace H := Option.bind_eq_some_iff.mp H
    obtain ⟨t238, A50, H⟩ := H
    replace H : (if t238 = true then ((laws_eqTempoS.f k l0_3 l1_3).bind fun t239 => (if t239 = true then ((laws_eqPlayerS.f k l0_4 l1_4).bind fun t240 => (if t240 = true then ((laws_eqIntS.f k l0_5 l1_5).bind fun t241 => (if t241 = true then ((laws_eqMarkS.f k l0_6 l1_6).bind fun t242 => (if t242 = true then ((laws_eqLetterS.f k l0_7 l1_7).bind fun t243 => (if t243 = true then (if a0_8 = a1_8 then (if a0_9 = a1_9 then (some true) else (none)) else (none)) else (none))) else (none))) else (none))) else (none))) else (none))) else (none)) = some r := H
    have A5 := Aside0.mk A50
    clear A50
    by_cases c6 : t238 = true
    · subst c6
      have H1 : ((laws_eqTempoS.f k l0_3 l1_3).bind fun t239 => (if t239 = true then ((laws_eqPlayerS.f k l0_4 l1_4).bind fun t240 => (if t240 = true then ((laws_eqIntS.f k l0_5 l1_5).bind fun t241 => (if t241 = true then ((laws_eqMarkS.f k l0_6 l1_6).bind fun t242 => (if t242 = true then ((laws_eqLetterS.f k l0_7 l1_7).bind fun t243 => (if t243 = true then (if a0_8 = a1_8 then (if a0_9 = a1_9 then (some true) else (none)) else (none)) else (none))) else (none))) else (none))) else (none))) else (none))) = some r := by rw [if_pos rfl] at H; exact H
      clear H
      have H := H1
      clear H1
      replace H := Option.bind_eq_some_iff.mp H
      obtain ⟨t239, A70, H⟩ := H
      replace H : (if t239 = true then ((laws_eqPlayerS.f k l0_4 l1_4).bind fun t240 => (if t240 = true then ((laws_eqIntS.f k l0_5 l1_5).bind fun t241 => (if t241 = true then ((laws_eqMarkS.f k l0_6 l1_6).bind fun t242 => (if t242 = true then ((laws_eqLetterS.f k l0_7 l1_7).bind fun t243 => (if t243 = true then (if a0_8 = a1_8 then (if a0_9 = a1_9 then (some true) else (none)) else (none)) else (none))) else (none))) else (none))) else (none))) else (none)) = some r := H
      have A7 := Aside0.mk A70
      clear A70
      by_cases c8 : t239 = true
      · subst c8
        have H1 : ((laws_eqPlayerS.f k l0_4 l1_4).bind fun t240 => (if t240 = true then ((laws_eqIntS.f k l0_5 l1_5).bind fun t241 => (if t241 = true then ((laws_eqMarkS.f k l0_6 l1_6).bind fun t242 => (if t242 = true then ((laws_eqLetterS.f k l0_7 l1_7).bind fun t243 => (if t243 = true then (if a0_8 = a1_8 then (if a0_9 = a1_9 then (some true) else (none)) else (none)) else (none))) else (none))) else (none))) else (none))) = some r := by rw [if_pos rfl] at H; exact H
        clear H
        have H := H1
        clear H1
        replace H := Option.bind_eq_some_iff.mp H
        obtain ⟨t240, A90, H⟩ := H
        replace H : (if t240 = true then ((laws_eqIntS.f k l0_5 l1_5).bind fun t241 => (if t241 = true then ((laws_eqMarkS.f k l0_6 l1_6).bind fun t242 => (if t242 = true then ((laws_eqLetterS.f k l0_7 l1_7).bind fun t243 => (if t243 = true then (if a0_8 = a1_8 then (if a0_9 = a1_9 then (some true) else (none)) else (none)) else (none))) else (none))) else (none))) else (none)) = some r := H
        have A9 := Aside0.mk A90
        clear A90
        by_cases c10 : t240 = true
        · subst c10
          have H1 : ((laws_eqIntS.f k l0_5 l1_5).bind fun t241 => (if t241 = true then ((laws_eqMarkS.f k l0_6 l1_6).bind fun t242 => (if t242 = true then ((laws_eqLetterS.f k l0_7 l1_7).bind fun t243 => (if t243 = true then (if a0_8 = a1_8 then (if a0_9 = a1_9 then (some true) else (none)) else (none)) else (none))) else (none))) else (none))) = some r := by rw [if_pos rfl] at H; exact H
          clear H
          have H := H1
          clear H1
          replace H := Option.bind_eq_some_iff.mp H
          obtain ⟨t241, A110, H⟩ := H
          replace H : (if t241 = true then ((laws_eqMarkS.f k l0_6 l1_6).bind fun t242 => (if t242 = true then ((laws_eqLetterS.f k l0_7 l1_7).bind fun t243 => (if t243 = true then (if a0_8 = a1_8 then (if a0_9 = a1_9 then (some true) else (none)) else (none)) else (none))) else (none))) else (none)) = some r := H
          have A11 := Aside0.mk A110
          clear A110
          by_cases c12 : t241 = true
          · subst c12
            have H1 : ((laws_eqMarkS.f k l0_6 l1_6).bind fun t242 => (if t242 = true then ((laws_eqLetterS.f k l0_7 l1_7).bind fun t243 => (if t243 = true then (if a0_8 = a1_8 then (if a0_9 = a1_9 then (some true) else (none)) else (none)) else (none))) else (none))) = some r := by rw [if_pos rfl] at H; exact H
            clear H
            have H := H1
            clear H1
            replace H := Option.bind_eq_some_iff.mp H
            obtain ⟨t242, A130, H⟩ := H
            replace H : (if t242 = true then ((laws_eqLetterS.f k l0_7 l1_7).bind fun t243 => (if t243 = true then (if a0_8 = a1_8 then (if a0_9 = a1_9 then (some true) else (none)) else (none)) else (none))) else (none)) = some r := H
            have A13 := Aside0.mk A130
            clear A130
            by_cases c14 : t242 = true
            · subst c14
              have H1 : ((laws_eqLetterS.f k l0_7 l1_7).bind fun t243 => (if t243 = true then (if a0_8 = a1_8 then (if a0_9 = a1_9 then (some true) else (none)) else (none)) else (none))) = some r := by rw [if_pos rfl] at H; exact H
              clear H
              have H := H1
              clear H1
              replace H := Option.bind_eq_some_iff.mp H
              obtain ⟨t243, A150, H⟩ := H
              replace H : (if t243 = true then (if a0_8 = a1_8 then (if a0_9 = a1_9 then (some true) else (none)) else (none)) else (none)) = some r := H
              have A15 := Aside0.mk A150
              clear A150
              by_cases c16 : t243 = true
              · subst c16
                have H1 : (if a0_8 = a1_8 then (if a0_9 = a1_9 then (some true) else (none)) else (none)) = some r := by rw [if_pos rfl] at H; exact H
                clear H
                have H := H1
                clear H1
                by_cases c17 : a0_8 = a1_8
                · rw [if_pos c17] at H
                  have c17b0 : (a0_8 == a1_8) = true := beq_iff_eq.mpr c17
                  have c17b1 : (a0_8 != a1_8) = false := bne_eq_false_iff_eq.mpr c17
                  clear c17
                  by_cases c18 : a0_9 = a1_9
                  · rw [if_pos c18] at H
                    have c18b0 : (a0_9 == a1_9) = true := beq_iff_eq.mpr c18
                    have c18b1 : (a0_9 != a1_9) = false := bne_eq_false_iff_eq.mpr c18
                    clear c18
                    obtain rfl := Option.some.inj H
                    go_enter Try.func49, Try.ntmps49
                    go_wp2_with (first | ((with_reducible refine gate_dst (N := 2) rfl ?_); refine box_event ?hg (N := 2) ?hd (cs := #[.slice A0_0 l0_0.length c0_0, .int .i64 a0_1, .int .i64 a0_2, .slice A0_3 l0_3.length c0_3, .slice A0_4 l0_4.length c0_4, .slice A0_5 l0_5.length c0_5, .slice A0_6 l0_6.length c0_6, .slice A0_7 l0_7.length c0_7, .int .i64 a0_8, .int .i64 a0_9]) (t := 81) ?hr ?_; (case hd => rfl); (case hg => rfl); (case hr => first | (go_simp; done) | (go_simp; rfl)); intro gb235 hg w19 hbox hb; have n0_ := Aside0.mk (below_step (by repeat (first | (with_reducible first | exact HB.out | apply below_alloc | apply pw_below_drewN | apply below_drew1) | exact HB.out)) hb); have n1_ := Aside0.mk (hbox); have n2_ := Aside0.mk ((by rw [hg]; exact (below_size (by repeat (first | (with_reducible first | exact HB.out | apply below_alloc | apply pw_below_drewN | apply below_drew1) | exact HB.out))) : w.heap.size ≤ gb235)); have n3_ := Aside0.mk ((by rw [hg]; exact (below_size (by repeat (first | (with_reducible first | exact HB.out | apply below_alloc | apply pw_below_drewN | apply below_drew1) | exact HB.out))) : w.heap.size ≤ gb235)); clear HB; have HB := n0_; have BK235 := n1_; have GW235 := n2_; have GE235 := n3_; clear n0_ n1_ n2_ n3_; clear hb hbox hg) | ((with_reducible refine gate_dst (N := 3) rfl ?_); refine box_event ?hg (N := 3) ?hd (cs := #[.slice A1_0 l1_0.length c1_0, .int .i64 a1_1, .int .i64 a1_2, .slice A1_3 l1_3.length c1_3, .slice A1_4 l1_4.length c1_4, .slice A1_5 l1_5.length c1_5, .slice A1_6 l1_6.length c1_6, .slice A1_7 l1_7.length c1_7, .int .i64 a1_8, .int .i64 a1_9]) (t := 81) ?hr ?_; (case hd => rfl); (case hg => rfl); (case hr => first | (go_simp; done) | (go_simp; rfl)); intro gb236 hg w20 hbox hb; have n0_ := Aside0.mk (blk_below (g := gb235) (o := .cells #[.slice A0_0 l0_0.length c0_0, .int .i64 a0_1, .int .i64 a0_2, .slice A0_3 l0_3.length c0_3, .slice A0_4 l0_4.length c0_4, .slice A0_5 l0_5.length c0_5, .slice A0_6 l0_6.length c0_6, .slice A0_7 l0_7.length c0_7, .int .i64 a0_8, .int .i64 a0_9] 81 (0, 0)) (by (with_reducible repeat (first | refine blk_drewN ?_ _ | refine blk_drew ?_ | refine blk_alloc ?_ _)); exact BK235.out) hb); have n1_ := Aside0.mk (below_step (by repeat (first | (with_reducible first | exact HB.out | apply below_alloc | apply pw_below_drewN | apply below_drew1 | refine below_set ?_ GE235.out) | exact HB.out)) hb); have n2_ := Aside0.mk (hbox); have n3_ := Aside0.mk ((by rw [hg]; exact (below_size (by repeat (first | (with_reducible first | exact HB.out | apply below_alloc | apply pw_below_drewN | apply below_drew1 | refine below_set ?_ GE235.out) | exact HB.out))) : w.heap.size ≤ gb236)); have n4_ := Aside0.mk ((by rw [hg]; exact (below_size (by repeat (first | (with_reducible first | exact HB.out | apply below_alloc | apply pw_below_drewN | apply below_drew1 | refine below_set ?_ GE235.out) | exact HB.out))) : w.heap.size ≤ gb236)); have n5_ := Aside0.mk ((by rw [hg]; exact Nat.ne_of_lt (blk_lt (g := gb235) (o := .cells #[.slice A0_0 l0_0.length c0_0, .int .i64 a0_1, .int .i64 a0_2, .slice A0_3 l0_3.length c0_3, .slice A0_4 l0_4.length c0_4, .slice A0_5 l0_5.length c0_5, .slice A0_6 l0_6.length c0_6, .slice A0_7 l0_7.length c0_7, .int .i64 a0_8, .int .i64 a0_9] 81 (0, 0)) (by (with_reducible repeat (first | refine blk_drewN ?_ _ | refine blk_drew ?_ | refine blk_alloc ?_ _)); exact BK235.out)) : gb235 ≠ gb236)); have n6_ := Aside0.mk ((by rw [hg]; exact Nat.ne_of_gt (blk_lt (g := gb235) (o := .cells #[.slice A0_0 l0_0.length c0_0, .int .i64 a0_1, .int .i64 a0_2, .slice A0_3 l0_3.length c0_3, .slice A0_4 l0_4.length c0_4, .slice A0_5 l0_5.length c0_5, .slice A0_6 l0_6.length c0_6, .slice A0_7 l0_7.length c0_7, .int .i64 a0_8, .int .i64 a0_9] 81 (0, 0)) (by (with_reducible repeat (first | refine blk_drewN ?_ _ | refine blk_drew ?_ | refine blk_alloc ?_ _)); exact BK235.out)) : gb236 ≠ gb235)); clear BK235; clear HB; have BK235 := n0_; have HB := n1_; have BK236 := n2_; have GW236 := n3_; have GE236 := n4_; have NB235_236 := n5_; have NB236_235 := n6_; clear n0_ n1_ n2_ n3_ n4_ n5_ n6_; clear hb hbox hg; have hnb21 := NB235_236.out; have hnc21 := NB236_235.out; have hcz22_0 : w20.cell? ⟨gb235, 0, none⟩ = some (.slice A0_0 l0_0.length c0_0) := (blk_cell BK235.out 0).trans rfl; have hcz22_1 : w20.cell? ⟨gb235, 1, none⟩ = some (.int .i64 a0_1) := (blk_cell BK235.out 1).trans rfl; have hcz22_2 : w20.cell? ⟨gb235, 2, none⟩ = some (.int .i64 a0_2) := (blk_cell BK235.out 2).trans rfl; have hcz22_3 : w20.cell? ⟨gb235, 3, none⟩ = some (.slice A0_3 l0_3.length c0_3) := (blk_cell BK235.out 3).trans rfl; have hcz22_4 : w20.cell? ⟨gb235, 4, none⟩ = some (.slice A0_4 l0_4.length c0_4) := (blk_cell BK235.out 4).trans rfl; have hcz22_5 : w20.cell? ⟨gb235, 5, none⟩ = some (.slice A0_5 l0_5.length c0_5) := (blk_cell BK235.out 5).trans rfl; have hcz22_6 : w20.cell? ⟨gb235, 6, none⟩ = some (.slice A0_6 l0_6.length c0_6) := (blk_cell BK235.out 6).trans rfl; have hcz22_7 : w20.cell? ⟨gb235, 7, none⟩ = some (.slice A0_7 l0_7.length c0_7) := (blk_cell BK235.out 7).trans rfl; have hcz22_8 : w20.cell? ⟨gb235, 8, none⟩ = some (.int .i64 a0_8) := (blk_cell BK235.out 8).trans rfl; have hcz22_9 : w20.cell? ⟨gb235, 9, none⟩ = some (.int .i64 a0_9) := (blk_cell BK235.out 9).trans rfl; have hfz22_0 := blk_frozen BK235.out 0; have hfz22_1 := blk_frozen BK235.out 1; have hfz22_2 := blk_frozen BK235.out 2; have hfz22_3 := blk_frozen BK235.out 3; have hfz22_4 := blk_frozen BK235.out 4; have hfz22_5 := blk_frozen BK235.out 5; have hfz22_6 := blk_frozen BK235.out 6; have hfz22_7 := blk_frozen BK235.out 7; have hfz22_8 := blk_frozen BK235.out 8; have hfz22_9 := blk_frozen BK235.out 9; have hcz23_0 : w20.cell? ⟨gb236, 0, none⟩ = some (.slice A1_0 l1_0.length c1_0) := (blk_cell BK236.out 0).trans rfl; have hcz23_1 : w20.cell? ⟨gb236, 1, none⟩ = some (.int .i64 a1_1) := (blk_cell BK236.out 1).trans rfl; have hcz23_2 : w20.cell? ⟨gb236, 2, none⟩ = some (.int .i64 a1_2) := (blk_cell BK236.out 2).trans rfl; have hcz23_3 : w20.cell? ⟨gb236, 3, none⟩ = some (.slice A1_3 l1_3.length c1_3) := (blk_cell BK236.out 3).trans rfl; have hcz23_4 : w20.cell? ⟨gb236, 4, none⟩ = some (.slice A1_4 l1_4.length c1_4) := (blk_cell BK236.out 4).trans rfl; have hcz23_5 : w20.cell? ⟨gb236, 5, none⟩ = some (.slice A1_5 l1_5.length c1_5) := (blk_cell BK236.out 5).trans rfl; have hcz23_6 : w20.cell? ⟨gb236, 6, none⟩ = some (.slice A1_6 l1_6.length c1_6) := (blk_cell BK236.out 6).trans rfl; have hcz23_7 : w20.cell? ⟨gb236, 7, none⟩ = some (.slice A1_7 l1_7.length c1_7) := (blk_cell BK236.out 7).trans rfl; have hcz23_8 : w20.cell? ⟨gb236, 8, none⟩ = some (.int .i64 a1_8) := (blk_cell BK236.out 8).trans rfl; have hcz23_9 : w20.cell? ⟨gb236, 9, none⟩ = some (.int .i64 a1_9) := (blk_cell BK236.out 9).trans rfl; have hfz23_0 := blk_frozen BK236.out 0; have hfz23_1 := blk_frozen BK236.out 1; have hfz23_2 := blk_frozen BK236.out 2; have hfz23_3 := blk_frozen BK236.out 3; have hfz23_4 := blk_frozen BK236.out 4; have hfz23_5 := blk_frozen BK236.out 5; have hfz23_6 := blk_frozen BK236.out 6; have hfz23_7 := blk_frozen BK236.out 7; have hfz23_8 := blk_frozen BK236.out 8; have hfz23_9 := blk_frozen BK236.out 9) | ((with_reducible refine gate_callee (f := 41) rfl ?_); refine goesL_ (some 9) rfl rfl Try.func41 (by kernel_rfl) rfl #[.slice A0_0 l0_0.length c0_0, .slice A1_0 l1_0.length c1_0] rfl (by (try simp only [List.map_toArray, List.map_cons, List.map_nil]); first | done | rfl | (simp only [List.length_drop, List.length_take]; rfl)) ?_; (with_reducible refine (laws_eqEventS.calls k _ _ l0_0 _ _ l1_0 true _ ?side1 ?side2 ?side3 ?side4 A3.out).mono ?_); (case side1 => repeat (first | exact (Kd.C_below HR0_0.out HB.out) | (with_reducible refine Kd.C_alloc ?_ _) | (with_reducible refine Kd.C_drewN ?_ _) | (with_reducible refine Kd.C_drew ?_))); (case side2 => exact HC0_0.out); (case side3 => repeat (first | exact (Kd.C_below HR1_0.out HB.out) | (with_reducible refine Kd.C_alloc ?_ _) | (with_reducible refine Kd.C_drewN ?_ _) | (with_reducible refine Kd.C_drew ?_))); (case side4 => exact HC1_0.out); rintro e w24 ⟨rfl, hb⟩; refine ⟨_, rfl, ?_⟩; have n0_ := Aside0.mk (blk_below (g := gb235) (o := .cells #[.slice A0_0 l0_0.length c0_0, .int .i64 a0_1, .int .i64 a0_2, .slice A0_3 l0_3.length c0_3, .slice A0_4 l0_4.length c0_4, .slice A0_5 l0_5.length c0_5, .slice A0_6 l0_6.length c0_6, .slice A0_7 l0_7.length c0_7, .int .i64 a0_8, .int .i64 a0_9] 81 (0, 0)) (by (with_reducible repeat (first | refine blk_drewN ?_ _ | refine blk_drew ?_ | refine blk_alloc ?_ _)); exact BK235.out) hb); have n1_ := Aside0.mk (blk_below (g := gb236) (o := .cells #[.slice A1_0 l1_0.length c1_0, .int .i64 a1_1, .int .i64 a1_2, .slice A1_3 l1_3.length c1_3, .slice A1_4 l1_4.length c1_4, .slice A1_5 l1_5.length c1_5, .slice A1_6 l1_6.length c1_6, .slice A1_7 l1_7.length c1_7, .int .i64 a1_8, .int .i64 a1_9] 81 (0, 0)) (by (with_reducible repeat (first | refine blk_drewN ?_ _ | refine blk_drew ?_ | refine blk_alloc ?_ _)); exact BK236.out) hb); have n2_ := Aside0.mk (below_step (by repeat (first | (with_reducible first | exact HB.out | apply below_alloc | apply pw_below_drewN | apply below_drew1 | refine below_set ?_ GE235.out | refine below_set ?_ GE236.out) | exact HB.out)) hb); clear BK235; clear BK236; clear HB; have BK235 := n0_; have BK236 := n1_; have HB := n2_; clear n0_ n1_ n2_; (try clear hb); (try clear hb2); (try clear hk); (try clear hi); have hcz25_0 : w24.cell? ⟨gb235, 0, none⟩ = some (.slice A0_0 l0_0.length c0_0) := (blk_cell BK235.out 0).trans rfl; have hcz25_1 : w24.cell? ⟨gb235, 1, none⟩ = some (.int .i64 a0_1) := (blk_cell BK235.out 1).trans rfl; have hcz25_2 : w24.cell? ⟨gb235, 2, none⟩ = some (.int .i64 a0_2) := (blk_cell BK235.out 2).trans rfl; have hcz25_3 : w24.cell? ⟨gb235, 3, none⟩ = some (.slice A0_3 l0_3.length c0_3) := (blk_cell BK235.out 3).trans rfl; have hcz25_4 : w24.cell? ⟨gb235, 4, none⟩ = some (.slice A0_4 l0_4.length c0_4) := (blk_cell BK235.out 4).trans rfl; have hcz25_5 : w24.cell? ⟨gb235, 5, none⟩ = some (.slice A0_5 l0_5.length c0_5) := (blk_cell BK235.out 5).trans rfl; have hcz25_6 : w24.cell? ⟨gb235, 6, none⟩ = some (.slice A0_6 l0_6.length c0_6) := (blk_cell BK235.out 6).trans rfl; have hcz25_7 : w24.cell? ⟨gb235, 7, none⟩ = some (.slice A0_7 l0_7.length c0_7) := (blk_cell BK235.out 7).trans rfl; have hcz25_8 : w24.cell? ⟨gb235, 8, none⟩ = some (.int .i64 a0_8) := (blk_cell BK235.out 8).trans rfl; have hcz25_9 : w24.cell? ⟨gb235, 9, none⟩ = some (.int .i64 a0_9) := (blk_cell BK235.out 9).trans rfl; have hfz25_0 := blk_frozen BK235.out 0; have hfz25_1 := blk_frozen BK235.out 1; have hfz25_2 := blk_frozen BK235.out 2; have hfz25_3 := blk_frozen BK235.out 3; have hfz25_4 := blk_frozen BK235.out 4; have hfz25_5 := blk_frozen BK235.out 5; have hfz25_6 := blk_frozen BK235.out 6; have hfz25_7 := blk_frozen BK235.out 7; have hfz25_8 := blk_frozen BK235.out 8; have hfz25_9 := blk_frozen BK235.out 9; have hcz26_0 : w24.cell? ⟨gb236, 0, none⟩ = some (.slice A1_0 l1_0.length c1_0) := (blk_cell BK236.out 0).trans rfl; have hcz26_1 : w24.cell? ⟨gb236, 1, none⟩ = some (.int .i64 a1_1) := (blk_cell BK236.out 1).trans rfl; have hcz26_2 : w24.cell? ⟨gb236, 2, none⟩ = some (.int .i64 a1_2) := (blk_cell BK236.out 2).trans rfl; have hcz26_3 : w24.cell? ⟨gb236, 3, none⟩ = some (.slice A1_3 l1_3.length c1_3) := (blk_cell BK236.out 3).trans rfl; have hcz26_4 : w24.cell? ⟨gb236, 4, none⟩ = some (.slice A1_4 l1_4.length c1_4) := (blk_cell BK236.out 4).trans rfl; have hcz26_5 : w24.cell? ⟨gb236, 5, none⟩ = some (.slice A1_5 l1_5.length c1_5) := (blk_cell BK236.out 5).trans rfl; have hcz26_6 : w24.cell? ⟨gb236, 6, none⟩ = some (.slice A1_6 l1_6.length c1_6) := (blk_cell BK236.out 6).trans rfl; have hcz26_7 : w24.cell? ⟨gb236, 7, none⟩ = some (.slice A1_7 l1_7.length c1_7) := (blk_cell BK236.out 7).trans rfl; have hcz26_8 : w24.cell? ⟨gb236, 8, none⟩ = some (.int .i64 a1_8) := (blk_cell BK236.out 8).trans rfl; have hcz26_9 : w24.cell? ⟨gb236, 9, none⟩ = some (.int .i64 a1_9) := (blk_cell BK236.out 9).trans rfl; have hfz26_0 := blk_frozen BK236.out 0; have hfz26_1 := blk_frozen BK236.out 1; have hfz26_2 := blk_frozen BK236.out 2; have hfz26_3 := blk_frozen BK236.out 3; have hfz26_4 := blk_frozen BK236.out 4; have hfz26_5 := blk_frozen BK236.out 5; have hfz26_6 := blk_frozen BK236.out 6; have hfz26_7 := blk_frozen BK236.out 7; have hfz26_8 := blk_frozen BK236.out 8; have hfz26_9 := blk_frozen BK236.out 9) | ((with_reducible refine gate_callee (f := 99) rfl ?_); refine goesL_ (some 15) rfl rfl Try.func99 (by kernel_rfl) rfl #[.agg #[.int .i64 a0_1, .int .i64 a0_2], .agg #[.int .i64 a1_1, .int .i64 a1_2]] rfl (by (try simp only [List.map_toArray, List.map_cons, List.map_nil]); first | done | rfl | (simp only [List.length_drop, List.length_take]; rfl)) ?_; (with_reducible refine (laws_eqMeter.calls a0_1 a0_2 a1_1 a1_2 true _ A5.out).mono ?_); rintro e w27 ⟨rfl, hb⟩; refine ⟨_, rfl, ?_⟩; have n0_ := Aside0.mk (blk_below (g := gb235) (o := .cells #[.slice A0_0 l0_0.length c0_0, .int .i64 a0_1, .int .i64 a0_2, .slice A0_3 l0_3.length c0_3, .slice A0_4 l0_4.length c0_4, .slice A0_5 l0_5.length c0_5, .slice A0_6 l0_6.length c0_6, .slice A0_7 l0_7.length c0_7, .int .i64 a0_8, .int .i64 a0_9] 81 (0, 0)) (by (with_reducible repeat (first | refine blk_drewN ?_ _ | refine blk_drew ?_ | refine blk_alloc ?_ _)); exact BK235.out) hb); have n1_ := Aside0.mk (blk_below (g := gb236) (o := .cells #[.slice A1_0 l1_0.length c1_0, .int .i64 a1_1, .int .i64 a1_2, .slice A1_3 l1_3.length c1_3, .slice A1_4 l1_4.length c1_4, .slice A1_5 l1_5.length c1_5, .slice A1_6 l1_6.length c1_6, .slice A1_7 l1_7.length c1_7, .int .i64 a1_8, .int .i64 a1_9] 81 (0, 0)) (by (with_reducible repeat (first | refine blk_drewN ?_ _ | refine blk_drew ?_ | refine blk_alloc ?_ _)); exact BK236.out) hb); have n2_ := Aside0.mk (below_step (by repeat (first | (with_reducible first | exact HB.out | apply below_alloc | apply pw_below_drewN | apply below_drew1 | refine below_set ?_ GE235.out | refine below_set ?_ GE236.out) | exact HB.out)) hb); clear BK235; clear BK236; clear HB; have BK235 := n0_; have BK236 := n1_; have HB := n2_; clear n0_ n1_ n2_; (try clear hb); (try clear hb2); (try clear hk); (try clear hi); have hcz28_0 : w27.cell? ⟨gb235, 0, none⟩ = some (.slice A0_0 l0_0.length c0_0) := (blk_cell BK235.out 0).trans rfl; have hcz28_1 : w27.cell? ⟨gb235, 1, none⟩ = some (.int .i64 a0_1) := (blk_cell BK235.out 1).trans rfl; have hcz28_2 : w27.cell? ⟨gb235, 2, none⟩ = some (.int .i64 a0_2) := (blk_cell BK235.out 2).trans rfl; have hcz28_3 : w27.cell? ⟨gb235, 3, none⟩ = some (.slice A0_3 l0_3.length c0_3) := (blk_cell BK235.out 3).trans rfl; have hcz28_4 : w27.cell? ⟨gb235, 4, none⟩ = some (.slice A0_4 l0_4.length c0_4) := (blk_cell BK235.out 4).trans rfl; have hcz28_5 : w27.cell? ⟨gb235, 5, none⟩ = some (.slice A0_5 l0_5.length c0_5) := (blk_cell BK235.out 5).trans rfl; have hcz28_6 : w27.cell? ⟨gb235, 6, none⟩ = some (.slice A0_6 l0_6.length c0_6) := (blk_cell BK235.out 6).trans rfl; have hcz28_7 : w27.cell? ⟨gb235, 7, none⟩ = some (.slice A0_7 l0_7.length c0_7) := (blk_cell BK235.out 7).trans rfl; have hcz28_8 : w27.cell? ⟨gb235, 8, none⟩ = some (.int .i64 a0_8) := (blk_cell BK235.out 8).trans rfl; have hcz28_9 : w27.cell? ⟨gb235, 9, none⟩ = some (.int .i64 a0_9) := (blk_cell BK235.out 9).trans rfl; have hfz28_0 := blk_frozen BK235.out 0; have hfz28_1 := blk_frozen BK235.out 1; have hfz28_2 := blk_frozen BK235.out 2; have hfz28_3 := blk_frozen BK235.out 3; have hfz28_4 := blk_frozen BK235.out 4; have hfz28_5 := blk_frozen BK235.out 5; have hfz28_6 := blk_frozen BK235.out 6; have hfz28_7 := blk_frozen BK235.out 7; have hfz28_8 := blk_frozen BK235.out 8; have hfz28_9 := blk_frozen BK235.out 9; have hcz29_0 : w27.cell? ⟨gb236, 0, none⟩ = some (.slice A1_0 l1_0.length c1_0) := (blk_cell BK236.out 0).trans rfl; have hcz29_1 : w27.cell? ⟨gb236, 1, none⟩ = some (.int .i64 a1_1) := (blk_cell BK236.out 1).trans rfl; have hcz29_2 : w27.cell? ⟨gb236, 2, none⟩ = some (.int .i64 a1_2) := (blk_cell BK236.out 2).trans rfl; have hcz29_3 : w27.cell? ⟨gb236, 3, none⟩ = some (.slice A1_3 l1_3.length c1_3) := (blk_cell BK236.out 3).trans rfl; have hcz29_4 : w27.cell? ⟨gb236, 4, none⟩ = some (.slice A1_4 l1_4.length c1_4) := (blk_cell BK236.out 4).trans rfl; have hcz29_5 : w27.cell? ⟨gb236, 5, none⟩ = some (.slice A1_5 l1_5.length c1_5) := (blk_cell BK236.out 5).trans rfl; have hcz29_6 : w27.cell? ⟨gb236, 6, none⟩ = some (.slice A1_6 l1_6.length c1_6) := (blk_cell BK236.out 6).trans rfl; have hcz29_7 : w27.cell? ⟨gb236, 7, none⟩ = some (.slice A1_7 l1_7.length c1_7) := (blk_cell BK236.out 7).trans rfl; have hcz29_8 : w27.cell? ⟨gb236, 8, none⟩ = some (.int .i64 a1_8) := (blk_cell BK236.out 8).trans rfl; have hcz29_9 : w27.cell? ⟨gb236, 9, none⟩ = some (.int .i64 a1_9) := (blk_cell BK236.out 9).trans rfl; have hfz29_0 := blk_frozen BK236.out 0; have hfz29_1 := blk_frozen BK236.out 1; have hfz29_2 := blk_frozen BK236.out 2; have hfz29_3 := blk_frozen BK236.out 3; have hfz29_4 := blk_frozen BK236.out 4; have hfz29_5 := blk_frozen BK236.out 5; have hfz29_6 := blk_frozen BK236.out 6; have hfz29_7 := blk_frozen BK236.out 7; have hfz29_8 := blk_frozen BK236.out 8; have hfz29_9 := blk_frozen BK236.out 9) | ((with_reducible refine gate_callee (f := 100) rfl ?_); refine goesL_ (some 21) rfl rfl Try.func100 (by kernel_rfl) rfl #[.slice A0_3 l0_3.length c0_3, .slice A1_3 l1_3.length c1_3] rfl (by (try simp only [List.map_toArray, List.map_cons, List.map_nil]); first | done | rfl | (simp only [List.length_drop, List.length_take]; rfl)) ?_; (with_reducible refine (laws_eqTempoS.calls k _ _ l0_3 _ _ l1_3 true _ ?side1 ?side2 ?side3 ?side4 A7.out).mono ?_); (case side1 => repeat (first | exact (Kd.C_below HR0_3.out HB.out) | (with_reducible refine Kd.C_alloc ?_ _) | (with_reducible refine Kd.C_drewN ?_ _) | (with_reducible refine Kd.C_drew ?_))); (case side2 => exact HC0_3.out); (case side3 => repeat (first | exact (Kd.C_below HR1_3.out HB.out) | (with_reducible refine Kd.C_alloc ?_ _) | (with_reducible refine Kd.C_drewN ?_ _) | (with_reducible refine Kd.C_drew ?_))); (case side4 => exact HC1_3.out); rintro e w30 ⟨rfl, hb⟩; refine ⟨_, rfl, ?_⟩; have n0_ := Aside0.mk (blk_below (g := gb235) (o := .cells #[.slice A0_0 l0_0.length c0_0, .int .i64 a0_1, .int .i64 a0_2, .slice A0_3 l0_3.length c0_3, .slice A0_4 l0_4.length c0_4, .slice A0_5 l0_5.length c0_5, .slice A0_6 l0_6.length c0_6, .slice A0_7 l0_7.length c0_7, .int .i64 a0_8, .int .i64 a0_9] 81 (0, 0)) (by (with_reducible repeat (first | refine blk_drewN ?_ _ | refine blk_drew ?_ | refine blk_alloc ?_ _)); exact BK235.out) hb); have n1_ := Aside0.mk (blk_below (g := gb236) (o := .cells #[.slice A1_0 l1_0.length c1_0, .int .i64 a1_1, .int .i64 a1_2, .slice A1_3 l1_3.length c1_3, .slice A1_4 l1_4.length c1_4, .slice A1_5 l1_5.length c1_5, .slice A1_6 l1_6.length c1_6, .slice A1_7 l1_7.length c1_7, .int .i64 a1_8, .int .i64 a1_9] 81 (0, 0)) (by (with_reducible repeat (first | refine blk_drewN ?_ _ | refine blk_drew ?_ | refine blk_alloc ?_ _)); exact BK236.out) hb); have n2_ := Aside0.mk (below_step (by repeat (first | (with_reducible first | exact HB.out | apply below_alloc | apply pw_below_drewN | apply below_drew1 | refine below_set ?_ GE235.out | refine below_set ?_ GE236.out) | exact HB.out)) hb); clear BK235; clear BK236; clear HB; have BK235 := n0_; have BK236 := n1_; have HB := n2_; clear n0_ n1_ n2_; (try clear hb); (try clear hb2); (try clear hk); (try clear hi); have hcz31_0 : w30.cell? ⟨gb235, 0, none⟩ = some (.slice A0_0 l0_0.length c0_0) := (blk_cell BK235.out 0).trans rfl; have hcz31_1 : w30.cell? ⟨gb235, 1, none⟩ = some (.int .i64 a0_1) := (blk_cell BK235.out 1).trans rfl; have hcz31_2 : w30.cell? ⟨gb235, 2, none⟩ = some (.int .i64 a0_2) := (blk_cell BK235.out 2).trans rfl; have hcz31_3 : w30.cell? ⟨gb235, 3, none⟩ = some (.slice A0_3 l0_3.length c0_3) := (blk_cell BK235.out 3).trans rfl; have hcz31_4 : w30.cell? ⟨gb235, 4, none⟩ = some (.slice A0_4 l0_4.length c0_4) := (blk_cell BK235.out 4).trans rfl; have hcz31_5 : w30.cell? ⟨gb235, 5, none⟩ = some (.slice A0_5 l0_5.length c0_5) := (blk_cell BK235.out 5).trans rfl; have hcz31_6 : w30.cell? ⟨gb235, 6, none⟩ = some (.slice A0_6 l0_6.length c0_6) := (blk_cell BK235.out 6).trans rfl; have hcz31_7 : w30.cell? ⟨gb235, 7, none⟩ = some (.slice A0_7 l0_7.length c0_7) := (blk_cell BK235.out 7).trans rfl; have hcz31_8 : w30.cell? ⟨gb235, 8, none⟩ = some (.int .i64 a0_8) := (blk_cell BK235.out 8).trans rfl; have hcz31_9 : w30.cell? ⟨gb235, 9, none⟩ = some (.int .i64 a0_9) := (blk_cell BK235.out 9).trans rfl; have hfz31_0 := blk_frozen BK235.out 0; have hfz31_1 := blk_frozen BK235.out 1; have hfz31_2 := blk_frozen BK235.out 2; have hfz31_3 := blk_frozen BK235.out 3; have hfz31_4 := blk_frozen BK235.out 4; have hfz31_5 := blk_frozen BK235.out 5; have hfz31_6 := blk_frozen BK235.out 6; have hfz31_7 := blk_frozen BK235.out 7; have hfz31_8 := blk_frozen BK235.out 8; have hfz31_9 := blk_frozen BK235.out 9; have hcz32_0 : w30.cell? ⟨gb236, 0, none⟩ = some (.slice A1_0 l1_0.length c1_0) := (blk_cell BK236.out 0).trans rfl; have hcz32_1 : w30.cell? ⟨gb236, 1, none⟩ = some (.int .i64 a1_1) := (blk_cell BK236.out 1).trans rfl; have hcz32_2 : w30.cell? ⟨gb236, 2, none⟩ = some (.int .i64 a1_2) := (blk_cell BK236.out 2).trans rfl; have hcz32_3 : w30.cell? ⟨gb236, 3, none⟩ = some (.slice A1_3 l1_3.length c1_3) := (blk_cell BK236.out 3).trans rfl; have hcz32_4 : w30.cell? ⟨gb236, 4, none⟩ = some (.slice A1_4 l1_4.length c1_4) := (blk_cell BK236.out 4).trans rfl; have hcz32_5 : w30.cell? ⟨gb236, 5, none⟩ = some (.slice A1_5 l1_5.length c1_5) := (blk_cell BK236.out 5).trans rfl; have hcz32_6 : w30.cell? ⟨gb236, 6, none⟩ = some (.slice A1_6 l1_6.length c1_6) := (blk_cell BK236.out 6).trans rfl; have hcz32_7 : w30.cell? ⟨gb236, 7, none⟩ = some (.slice A1_7 l1_7.length c1_7) := (blk_cell BK236.out 7).trans rfl; have hcz32_8 : w30.cell? ⟨gb236, 8, none⟩ = some (.int .i64 a1_8) := (blk_cell BK236.out 8).trans rfl; have hcz32_9 : w30.cell? ⟨gb236, 9, none⟩ = some (.int .i64 a1_9) := (blk_cell BK236.out 9).trans rfl; have hfz32_0 := blk_frozen BK236.out 0; have hfz32_1 := blk_frozen BK236.out 1; have hfz32_2 := blk_frozen BK236.out 2; have hfz32_3 := blk_frozen BK236.out 3; have hfz32_4 := blk_frozen BK236.out 4; have hfz32_5 := blk_frozen BK236.out 5; have hfz32_6 := blk_frozen BK236.out 6; have hfz32_7 := blk_frozen BK236.out 7; have hfz32_8 := blk_frozen BK236.out 8; have hfz32_9 := blk_frozen BK236.out 9) | ((with_reducible refine gate_callee (f := 101) rfl ?_); refine goesL_ (some 27) rfl rfl Try.func101 (by kernel_rfl) rfl #[.slice A0_4 l0_4.length c0_4, .slice A1_4 l1_4.length c1_4] rfl (by (try simp only [List.map_toArray, List.map_cons, List.map_nil]); first | done | rfl | (simp only [List.length_drop, List.length_take]; rfl)) ?_; (with_reducible refine (laws_eqPlayerS.calls k _ _ l0_4 _ _ l1_4 true _ ?side1 ?side2 ?side3 ?side4 A9.out).mono ?_); (case side1 => repeat (first | exact (Kd.C_below HR0_4.out HB.out) | (with_reducible refine Kd.C_alloc ?_ _) | (with_reducible refine Kd.C_drewN ?_ _) | (with_reducible refine Kd.C_drew ?_))); (case side2 => exact HC0_4.out); (case side3 => repeat (first | exact (Kd.C_below HR1_4.out HB.out) | (with_reducible refine Kd.C_alloc ?_ _) | (with_reducible refine Kd.C_drewN ?_ _) | (with_reducible refine Kd.C_drew ?_))); (case side4 => exact HC1_4.out); rintro e w33 ⟨rfl, hb⟩; refine ⟨_, rfl, ?_⟩; have n0_ := Aside0.mk (blk_below (g := gb235) (o := .cells #[.slice A0_0 l0_0.length c0_0, .int .i64 a0_1, .int .i64 a0_2, .slice A0_3 l0_3.length c0_3, .slice A0_4 l0_4.length c0_4, .slice A0_5 l0_5.length c0_5, .slice A0_6 l0_6.length c0_6, .slice A0_7 l0_7.length c0_7, .int .i64 a0_8, .int .i64 a0_9] 81 (0, 0)) (by (with_reducible repeat (first | refine blk_drewN ?_ _ | refine blk_drew ?_ | refine blk_alloc ?_ _)); exact BK235.out) hb); have n1_ := Aside0.mk (blk_below (g := gb236) (o := .cells #[.slice A1_0 l1_0.length c1_0, .int .i64 a1_1, .int .i64 a1_2, .slice A1_3 l1_3.length c1_3, .slice A1_4 l1_4.length c1_4, .slice A1_5 l1_5.length c1_5, .slice A1_6 l1_6.length c1_6, .slice A1_7 l1_7.length c1_7, .int .i64 a1_8, .int .i64 a1_9] 81 (0, 0)) (by (with_reducible repeat (first | refine blk_drewN ?_ _ | refine blk_drew ?_ | refine blk_alloc ?_ _)); exact BK236.out) hb); have n2_ := Aside0.mk (below_step (by repeat (first | (with_reducible first | exact HB.out | apply below_alloc | apply pw_below_drewN | apply below_drew1 | refine below_set ?_ GE235.out | refine below_set ?_ GE236.out) | exact HB.out)) hb); clear BK235; clear BK236; clear HB; have BK235 := n0_; have BK236 := n1_; have HB := n2_; clear n0_ n1_ n2_; (try clear hb); (try clear hb2); (try clear hk); (try clear hi); have hcz34_0 : w33.cell? ⟨gb235, 0, none⟩ = some (.slice A0_0 l0_0.length c0_0) := (blk_cell BK235.out 0).trans rfl; have hcz34_1 : w33.cell? ⟨gb235, 1, none⟩ = some (.int .i64 a0_1) := (blk_cell BK235.out 1).trans rfl; have hcz34_2 : w33.cell? ⟨gb235, 2, none⟩ = some (.int .i64 a0_2) := (blk_cell BK235.out 2).trans rfl; have hcz34_3 : w33.cell? ⟨gb235, 3, none⟩ = some (.slice A0_3 l0_3.length c0_3) := (blk_cell BK235.out 3).trans rfl; have hcz34_4 : w33.cell? ⟨gb235, 4, none⟩ = some (.slice A0_4 l0_4.length c0_4) := (blk_cell BK235.out 4).trans rfl; have hcz34_5 : w33.cell? ⟨gb235, 5, none⟩ = some (.slice A0_5 l0_5.length c0_5) := (blk_cell BK235.out 5).trans rfl; have hcz34_6 : w33.cell? ⟨gb235, 6, none⟩ = some (.slice A0_6 l0_6.length c0_6) := (blk_cell BK235.out 6).trans rfl; have hcz34_7 : w33.cell? ⟨gb235, 7, none⟩ = some (.slice A0_7 l0_7.length c0_7) := (blk_cell BK235.out 7).trans rfl; have hcz34_8 : w33.cell? ⟨gb235, 8, none⟩ = some (.int .i64 a0_8) := (blk_cell BK235.out 8).trans rfl; have hcz34_9 : w33.cell? ⟨gb235, 9, none⟩ = some (.int .i64 a0_9) := (blk_cell BK235.out 9).trans rfl; have hfz34_0 := blk_frozen BK235.out 0; have hfz34_1 := blk_frozen BK235.out 1; have hfz34_2 := blk_frozen BK235.out 2; have hfz34_3 := blk_frozen BK235.out 3; have hfz34_4 := blk_frozen BK235.out 4; have hfz34_5 := blk_frozen BK235.out 5; have hfz34_6 := blk_frozen BK235.out 6; have hfz34_7 := blk_frozen BK235.out 7; have hfz34_8 := blk_frozen BK235.out 8; have hfz34_9 := blk_frozen BK235.out 9; have hcz35_0 : w33.cell? ⟨gb236, 0, none⟩ = some (.slice A1_0 l1_0.length c1_0) := (blk_cell BK236.out 0).trans rfl; have hcz35_1 : w33.cell? ⟨gb236, 1, none⟩ = some (.int .i64 a1_1) := (blk_cell BK236.out 1).trans rfl; have hcz35_2 : w33.cell? ⟨gb236, 2, none⟩ = some (.int .i64 a1_2) := (blk_cell BK236.out 2).trans rfl; have hcz35_3 : w33.cell? ⟨gb236, 3, none⟩ = some (.slice A1_3 l1_3.length c1_3) := (blk_cell BK236.out 3).trans rfl; have hcz35_4 : w33.cell? ⟨gb236, 4, none⟩ = some (.slice A1_4 l1_4.length c1_4) := (blk_cell BK236.out 4).trans rfl; have hcz35_5 : w33.cell? ⟨gb236, 5, none⟩ = some (.slice A1_5 l1_5.length c1_5) := (blk_cell BK236.out 5).trans rfl; have hcz35_6 : w33.cell? ⟨gb236, 6, none⟩ = some (.slice A1_6 l1_6.length c1_6) := (blk_cell BK236.out 6).trans rfl; have hcz35_7 : w33.cell? ⟨gb236, 7, none⟩ = some (.slice A1_7 l1_7.length c1_7) := (blk_cell BK236.out 7).trans rfl; have hcz35_8 : w33.cell? ⟨gb236, 8, none⟩ = some (.int .i64 a1_8) := (blk_cell BK236.out 8).trans rfl; have hcz35_9 : w33.cell? ⟨gb236, 9, none⟩ = some (.int .i64 a1_9) := (blk_cell BK236.out 9).trans rfl; have hfz35_0 := blk_frozen BK236.out 0; have hfz35_1 := blk_frozen BK236.out 1; have hfz35_2 := blk_frozen BK236.out 2; have hfz35_3 := blk_frozen BK236.out 3; have hfz35_4 := blk_frozen BK236.out 4; have hfz35_5 := blk_frozen BK236.out 5; have hfz35_6 := blk_frozen BK236.out 6; have hfz35_7 := blk_frozen BK236.out 7; have hfz35_8 := blk_frozen BK236.out 8; have hfz35_9 := blk_frozen BK236.out 9) | ((with_reducible refine gate_callee (f := 31) rfl ?_); refine goesL_ (some 33) rfl rfl Try.func31 (by kernel_rfl) rfl #[.slice A0_5 l0_5.length c0_5, .slice A1_5 l1_5.length c1_5] rfl (by (try simp only [List.map_toArray, List.map_cons, List.map_nil]); first | done | rfl | (simp only [List.length_drop, List.length_take]; rfl)) ?_; (with_reducible refine (laws_eqIntS.calls k _ _ l0_5 _ _ l1_5 true _ ?side1 ?side2 ?side3 ?side4 A11.out).mono ?_); (case side1 => repeat (first | exact (Kd.C_below HR0_5.out HB.out) | (with_reducible refine Kd.C_alloc ?_ _) | (with_reducible refine Kd.C_drewN ?_ _) | (with_reducible refine Kd.C_drew ?_))); (case side2 => exact HC0_5.out); (case side3 => repeat (first | exact (Kd.C_below HR1_5.out HB.out) | (with_reducible refine Kd.C_alloc ?_ _) | (with_reducible refine Kd.C_drewN ?_ _) | (with_reducible refine Kd.C_drew ?_))); (case side4 => exact HC1_5.out); rintro e w' ⟨rfl, ⟨nd, rfl⟩⟩; refine ⟨_, rfl, ?_⟩) | ((with_reducible refine gate_callee (f := 102) rfl ?_); refine goesL_ (some 39) rfl rfl Try.func102 (by kernel_rfl) rfl #[.slice A0_6 l0_6.length c0_6, .slice A1_6 l1_6.length c1_6] rfl (by (try simp only [List.map_toArray, List.map_cons, List.map_nil]); first | done | rfl | (simp only [List.length_drop, List.length_take]; rfl)) ?_; (with_reducible refine (laws_eqMarkS.calls k _ _ l0_6 _ _ l1_6 true _ ?side1 ?side2 ?side3 ?side4 A13.out).mono ?_); (case side1 => repeat (first | exact (Kd.C_below HR0_6.out (by repeat (first | (with_reducible first | exact HB.out | apply below_alloc | apply pw_below_drewN | apply below_drew1 | refine below_set ?_ GE235.out | refine below_set ?_ GE236.out) | exact HB.out))) | (with_reducible refine Kd.C_alloc ?_ _) | (with_reducible refine Kd.C_drewN ?_ _) | (with_reducible refine Kd.C_drew ?_))); (case side2 => exact HC0_6.out); (case side3 => repeat (first | exact (Kd.C_below HR1_6.out (by repeat (first | (with_reducible first | exact HB.out | apply below_alloc | apply pw_below_drewN | apply below_drew1 | refine below_set ?_ GE235.out | refine below_set ?_ GE236.out) | exact HB.out))) | (with_reducible refine Kd.C_alloc ?_ _) | (with_reducible refine Kd.C_drewN ?_ _) | (with_reducible refine Kd.C_drew ?_))); (case side4 => exact HC1_6.out); rintro e w36 ⟨rfl, hb⟩; refine ⟨_, rfl, ?_⟩; have n0_ := Aside0.mk (blk_below (g := gb235) (o := .cells #[.slice A0_0 l0_0.length c0_0, .int .i64 a0_1, .int .i64 a0_2, .slice A0_3 l0_3.length c0_3, .slice A0_4 l0_4.length c0_4, .slice A0_5 l0_5.length c0_5, .slice A0_6 l0_6.length c0_6, .slice A0_7 l0_7.length c0_7, .int .i64 a0_8, .int .i64 a0_9] 81 (0, 0)) (by (with_reducible repeat (first | refine blk_drewN ?_ _ | refine blk_drew ?_ | refine blk_alloc ?_ _)); exact BK235.out) hb); have n1_ := Aside0.mk (blk_below (g := gb236) (o := .cells #[.slice A1_0 l1_0.length c1_0, .int .i64 a1_1, .int .i64 a1_2, .slice A1_3 l1_3.length c1_3, .slice A1_4 l1_4.length c1_4, .slice A1_5 l1_5.length c1_5, .slice A1_6 l1_6.length c1_6, .slice A1_7 l1_7.length c1_7, .int .i64 a1_8, .int .i64 a1_9] 81 (0, 0)) (by (with_reducible repeat (first | refine blk_drewN ?_ _ | refine blk_drew ?_ | refine blk_alloc ?_ _)); exact BK236.out) hb); have n2_ := Aside0.mk (below_step (by repeat (first | (with_reducible first | exact HB.out | apply below_alloc | apply pw_below_drewN | apply below_drew1 | refine below_set ?_ GE235.out | refine below_set ?_ GE236.out) | exact HB.out)) hb); clear BK235; clear BK236; clear HB; have BK235 := n0_; have BK236 := n1_; have HB := n2_; clear n0_ n1_ n2_; (try clear hb); (try clear hb2); (try clear hk); (try clear hi); have hcz37_0 : w36.cell? ⟨gb235, 0, none⟩ = some (.slice A0_0 l0_0.length c0_0) := (blk_cell BK235.out 0).trans rfl; have hcz37_1 : w36.cell? ⟨gb235, 1, none⟩ = some (.int .i64 a0_1) := (blk_cell BK235.out 1).trans rfl; have hcz37_2 : w36.cell? ⟨gb235, 2, none⟩ = some (.int .i64 a0_2) := (blk_cell BK235.out 2).trans rfl; have hcz37_3 : w36.cell? ⟨gb235, 3, none⟩ = some (.slice A0_3 l0_3.length c0_3) := (blk_cell BK235.out 3).trans rfl; have hcz37_4 : w36.cell? ⟨gb235, 4, none⟩ = some (.slice A0_4 l0_4.length c0_4) := (blk_cell BK235.out 4).trans rfl; have hcz37_5 : w36.cell? ⟨gb235, 5, none⟩ = some (.slice A0_5 l0_5.length c0_5) := (blk_cell BK235.out 5).trans rfl; have hcz37_6 : w36.cell? ⟨gb235, 6, none⟩ = some (.slice A0_6 l0_6.length c0_6) := (blk_cell BK235.out 6).trans rfl; have hcz37_7 : w36.cell? ⟨gb235, 7, none⟩ = some (.slice A0_7 l0_7.length c0_7) := (blk_cell BK235.out 7).trans rfl; have hcz37_8 : w36.cell? ⟨gb235, 8, none⟩ = some (.int .i64 a0_8) := (blk_cell BK235.out 8).trans rfl; have hcz37_9 : w36.cell? ⟨gb235, 9, none⟩ = some (.int .i64 a0_9) := (blk_cell BK235.out 9).trans rfl; have hfz37_0 := blk_frozen BK235.out 0; have hfz37_1 := blk_frozen BK235.out 1; have hfz37_2 := blk_frozen BK235.out 2; have hfz37_3 := blk_frozen BK235.out 3; have hfz37_4 := blk_frozen BK235.out 4; have hfz37_5 := blk_frozen BK235.out 5; have hfz37_6 := blk_frozen BK235.out 6; have hfz37_7 := blk_frozen BK235.out 7; have hfz37_8 := blk_frozen BK235.out 8; have hfz37_9 := blk_frozen BK235.out 9; have hcz38_0 : w36.cell? ⟨gb236, 0, none⟩ = some (.slice A1_0 l1_0.length c1_0) := (blk_cell BK236.out 0).trans rfl; have hcz38_1 : w36.cell? ⟨gb236, 1, none⟩ = some (.int .i64 a1_1) := (blk_cell BK236.out 1).trans rfl; have hcz38_2 : w36.cell? ⟨gb236, 2, none⟩ = some (.int .i64 a1_2) := (blk_cell BK236.out 2).trans rfl; have hcz38_3 : w36.cell? ⟨gb236, 3, none⟩ = some (.slice A1_3 l1_3.length c1_3) := (blk_cell BK236.out 3).trans rfl; have hcz38_4 : w36.cell? ⟨gb236, 4, none⟩ = some (.slice A1_4 l1_4.length c1_4) := (blk_cell BK236.out 4).trans rfl; have hcz38_5 : w36.cell? ⟨gb236, 5, none⟩ = some (.slice A1_5 l1_5.length c1_5) := (blk_cell BK236.out 5).trans rfl; have hcz38_6 : w36.cell? ⟨gb236, 6, none⟩ = some (.slice A1_6 l1_6.length c1_6) := (blk_cell BK236.out 6).trans rfl; have hcz38_7 : w36.cell? ⟨gb236, 7, none⟩ = some (.slice A1_7 l1_7.length c1_7) := (blk_cell BK236.out 7).trans rfl; have hcz38_8 : w36.cell? ⟨gb236, 8, none⟩ = some (.int .i64 a1_8) := (blk_cell BK236.out 8).trans rfl; have hcz38_9 : w36.cell? ⟨gb236, 9, none⟩ = some (.int .i64 a1_9) := (blk_cell BK236.out 9).trans rfl; have hfz38_0 := blk_frozen BK236.out 0; have hfz38_1 := blk_frozen BK236.out 1; have hfz38_2 := blk_frozen BK236.out 2; have hfz38_3 := blk_frozen BK236.out 3; have hfz38_4 := blk_frozen BK236.out 4; have hfz38_5 := blk_frozen BK236.out 5; have hfz38_6 := blk_frozen BK236.out 6; have hfz38_7 := blk_frozen BK236.out 7; have hfz38_8 := blk_frozen BK236.out 8; have hfz38_9 := blk_frozen BK236.out 9) | ((with_reducible refine gate_callee (f := 103) rfl ?_); refine goesL_ (some 45) rfl rfl Try.func103 (by kernel_rfl) rfl #[.slice A0_7 l0_7.length c0_7, .slice A1_7 l1_7.length c1_7] rfl (by (try simp only [List.map_toArray, List.map_cons, List.map_nil]); first | done | rfl | (simp only [List.length_drop, List.length_take]; rfl)) ?_; (with_reducible refine (laws_eqLetterS.calls k _ _ l0_7 _ _ l1_7 true _ ?side1 ?side2 ?side3 ?side4 A15.out).mono ?_); (case side1 => repeat (first | exact (Kd.C_below HR0_7.out HB.out) | (with_reducible refine Kd.C_alloc ?_ _) | (with_reducible refine Kd.C_drewN ?_ _) | (with_reducible refine Kd.C_drew ?_))); (case side2 => exact HC0_7.out); (case side3 => repeat (first | exact (Kd.C_below HR1_7.out HB.out) | (with_reducible refine Kd.C_alloc ?_ _) | (with_reducible refine Kd.C_drewN ?_ _) | (with_reducible refine Kd.C_drew ?_))); (case side4 => exact HC1_7.out); rintro e w39 ⟨rfl, hb⟩; refine ⟨_, rfl, ?_⟩; have n0_ := Aside0.mk (blk_below (g := gb235) (o := .cells #[.slice A0_0 l0_0.length c0_0, .int .i64 a0_1, .int .i64 a0_2, .slice A0_3 l0_3.length c0_3, .slice A0_4 l0_4.length c0_4, .slice A0_5 l0_5.length c0_5, .slice A0_6 l0_6.length c0_6, .slice A0_7 l0_7.length c0_7, .int .i64 a0_8, .int .i64 a0_9] 81 (0, 0)) (by (with_reducible repeat (first | refine blk_drewN ?_ _ | refine blk_drew ?_ | refine blk_alloc ?_ _)); exact BK235.out) hb); have n1_ := Aside0.mk (blk_below (g := gb236) (o := .cells #[.slice A1_0 l1_0.length c1_0, .int .i64 a1_1, .int .i64 a1_2, .slice A1_3 l1_3.length c1_3, .slice A1_4 l1_4.length c1_4, .slice A1_5 l1_5.length c1_5, .slice A1_6 l1_6.length c1_6, .slice A1_7 l1_7.length c1_7, .int .i64 a1_8, .int .i64 a1_9] 81 (0, 0)) (by (with_reducible repeat (first | refine blk_drewN ?_ _ | refine blk_drew ?_ | refine blk_alloc ?_ _)); exact BK236.out) hb); have n2_ := Aside0.mk (below_step (by repeat (first | (with_reducible first | exact HB.out | apply below_alloc | apply pw_below_drewN | apply below_drew1 | refine below_set ?_ GE235.out | refine below_set ?_ GE236.out) | exact HB.out)) hb); clear BK235; clear BK236; clear HB; have BK235 := n0_; have BK236 := n1_; have HB := n2_; clear n0_ n1_ n2_; (try clear hb); (try clear hb2); (try clear hk); (try clear hi); have hcz40_0 : w39.cell? ⟨gb235, 0, none⟩ = some (.slice A0_0 l0_0.length c0_0) := (blk_cell BK235.out 0).trans rfl; have hcz40_1 : w39.cell? ⟨gb235, 1, none⟩ = some (.int .i64 a0_1) := (blk_cell BK235.out 1).trans rfl; have hcz40_2 : w39.cell? ⟨gb235, 2, none⟩ = some (.int .i64 a0_2) := (blk_cell BK235.out 2).trans rfl; have hcz40_3 : w39.cell? ⟨gb235, 3, none⟩ = some (.slice A0_3 l0_3.length c0_3) := (blk_cell BK235.out 3).trans rfl; have hcz40_4 : w39.cell? ⟨gb235, 4, none⟩ = some (.slice A0_4 l0_4.length c0_4) := (blk_cell BK235.out 4).trans rfl; have hcz40_5 : w39.cell? ⟨gb235, 5, none⟩ = some (.slice A0_5 l0_5.length c0_5) := (blk_cell BK235.out 5).trans rfl; have hcz40_6 : w39.cell? ⟨gb235, 6, none⟩ = some (.slice A0_6 l0_6.length c0_6) := (blk_cell BK235.out 6).trans rfl; have hcz40_7 : w39.cell? ⟨gb235, 7, none⟩ = some (.slice A0_7 l0_7.length c0_7) := (blk_cell BK235.out 7).trans rfl; have hcz40_8 : w39.cell? ⟨gb235, 8, none⟩ = some (.int .i64 a0_8) := (blk_cell BK235.out 8).trans rfl; have hcz40_9 : w39.cell? ⟨gb235, 9, none⟩ = some (.int .i64 a0_9) := (blk_cell BK235.out 9).trans rfl; have hfz40_0 := blk_frozen BK235.out 0; have hfz40_1 := blk_frozen BK235.out 1; have hfz40_2 := blk_frozen BK235.out 2; have hfz40_3 := blk_frozen BK235.out 3; have hfz40_4 := blk_frozen BK235.out 4; have hfz40_5 := blk_frozen BK235.out 5; have hfz40_6 := blk_frozen BK235.out 6; have hfz40_7 := blk_frozen BK235.out 7; have hfz40_8 := blk_frozen BK235.out 8; have hfz40_9 := blk_frozen BK235.out 9; have hcz41_0 : w39.cell? ⟨gb236, 0, none⟩ = some (.slice A1_0 l1_0.length c1_0) := (blk_cell BK236.out 0).trans rfl; have hcz41_1 : w39.cell? ⟨gb236, 1, none⟩ = some (.int .i64 a1_1) := (blk_cell BK236.out 1).trans rfl; have hcz41_2 : w39.cell? ⟨gb236, 2, none⟩ = some (.int .i64 a1_2) := (blk_cell BK236.out 2).trans rfl; have hcz41_3 : w39.cell? ⟨gb236, 3, none⟩ = some (.slice A1_3 l1_3.length c1_3) := (blk_cell BK236.out 3).trans rfl; have hcz41_4 : w39.cell? ⟨gb236, 4, none⟩ = some (.slice A1_4 l1_4.length c1_4) := (blk_cell BK236.out 4).trans rfl; have hcz41_5 : w39.cell? ⟨gb236, 5, none⟩ = some (.slice A1_5 l1_5.length c1_5) := (blk_cell BK236.out 5).trans rfl; have hcz41_6 : w39.cell? ⟨gb236, 6, none⟩ = some (.slice A1_6 l1_6.length c1_6) := (blk_cell BK236.out 6).trans rfl; have hcz41_7 : w39.cell? ⟨gb236, 7, none⟩ = some (.slice A1_7 l1_7.length c1_7) := (blk_cell BK236.out 7).trans rfl; have hcz41_8 : w39.cell? ⟨gb236, 8, none⟩ = some (.int .i64 a1_8) := (blk_cell BK236.out 8).trans rfl; have hcz41_9 : w39.cell? ⟨gb236, 9, none⟩ = some (.int .i64 a1_9) := (blk_cell BK236.out 9).trans rfl; have hfz41_0 := blk_frozen BK236.out 0; have hfz41_1 := blk_frozen BK236.out 1; have hfz41_2 := blk_frozen BK236.out 2; have hfz41_3 := blk_frozen BK236.out 3; have hfz41_4 := blk_frozen BK236.out 4; have hfz41_5 := blk_frozen BK236.out 5; have hfz41_6 := blk_frozen BK236.out 6; have hfz41_7 := blk_frozen BK236.out 7; have hfz41_8 := blk_frozen BK236.out 8; have hfz41_9 := blk_frozen BK236.out 9))
                    go_ret
                    exact ⟨by first | rfl | (simp [errW_none, errW_some] <;> rfl) | (simp [*, errW_none, errW_some] <;> rfl), by repeat (first | (with_reducible first | exact HB.out | apply below_alloc | apply pw_below_drewN | apply below_drew1 | refine below_set ?_ GE235.out | refine below_set ?_ GE236.out) | exact HB.out)⟩
                  · rw [if_neg c18] at H
                    exact absurd H (by simp)
                · rw [if_neg c17] at H
                  exact absurd H (by simp)
              · replace c16 := Bool.eq_false_iff.mpr c16
                subst c16
                have H1 : (none) = some r := by rw [if_neg (show ¬ (false = true) by decide)] at H; exact H
                clear H
                have H := H1
                clear H1
                exact absurd H (by simp)
            · replace c14 := Bool.eq_false_iff.mpr c14
              subst c14
              have H1 : (none) = some r := by rw [if_neg (show ¬ (false = true) by decide)] at H; exact H
              clear H
              have H := H1
              clear H1
              exact absurd H (by simp)
          · replace c12 := Bool.eq_false_iff.mpr c12
            subst c12
            have H1 : (none) = some r := by rw [if_neg (show ¬ (false = true) by decide)] at H; exact H
            clear H
            have H := H1
            clear H1
            exact absurd H (by simp)
        · replace c10 := Bool.eq_false_iff.mpr c10
          subst c10
          have H1 : (none) = some r := by rw [if_neg (show ¬ (false = true) by decide)] at H; exact H
          clear H
          have H := H1
          clear H1
          exact absurd H (by simp)
      · replace c8 := Bool.eq_false_iff.mpr c8
        subst c8
        have H1 : (none) = some r := by rw [if_neg (show ¬ (false = true) by decide)] at H; exact H
        clear H
        have H := H1
        clear H1
        exact absurd H (by simp)
    · replace c6 := Bool.eq_false_iff.mpr c6
      subst c6
      have H1 : (none) = some r := by rw [if_neg (show ¬ (false = true) by decide)] at H; exact H
      clear H
      have H := H1
      clear H1
      exact absurd H (by simp)
  · replace c4 := Bool.eq_false_iff.mpr c4
    subst c4
    have H1 : (none) = some r := by rw [if_neg (show ¬ (false = true) by decide)] at H; exact H
    clear H
    have H := H1
    clear H1
    exact absurd H (by simp)

/-! ### spec_VoiceOf: function 106 -/
def spec_VoiceOf.l0 : Nat → List (S114) → Int → List (S114) → Int → Option ((List (S114)))
  | 0, _, _, _, _ => none
  | k + 1, x0, x1, x5, x6 => if x6 < (x0.length : Int) then (if 0 ≤ x6 then (if ((rd_T114 x0 x6).f3) = x1 then (if x5.length < 4398046511104 then (spec_VoiceOf.l0 k x0 x1 (x5 ++ [(⟨(rd_T114 x0 x6).f0, (rd_T114 x0 x6).f1, (rd_T114 x0 x6).f2, (rd_T114 x0 x6).f3⟩ : S114)]) (wrap64 (x6 + 1))) else (none)) else (spec_VoiceOf.l0 k x0 x1 x5 (wrap64 (x6 + 1)))) else (none)) else (some x5)
def spec_VoiceOf.f (k : Nat) (l0 : List (S114)) (a1 : Int) : Option ((List (S114))) := spec_VoiceOf.l0 k l0 a1 (([] : List (S114))) 0
theorem spec_VoiceOf.mono_l : ∀ k, (∀ y0 y1 y2 y3, LeO (spec_VoiceOf.l0 k y0 y1 y2 y3) (spec_VoiceOf.l0 (k + 1) y0 y1 y2 y3))
  | 0 => fun _ _ _ _ r h => by simp [spec_VoiceOf.l0] at h
  | k + 1 => by
    have ih0 := spec_VoiceOf.mono_l k
    · intro y0 y1 y2 y3
      unfold spec_VoiceOf.l0
      repeat' first
      | (with_reducible exact ih0 _ _ _ _)
      | (with_reducible exact LeO.refl _)
      | (with_reducible exact LeO.none _)
      | (with_reducible refine LeO.ite ?_ ?_)
      | (with_reducible refine LeO.bind ?_ (fun _ => ?_))
      | exact ih0 _ _ _ _
      | exact LeO.none _
      | refine LeO.ite ?_ ?_
      | refine LeO.bind ?_ (fun _ => ?_)
theorem spec_VoiceOf.mono : ∀ a0 a1 k, LeO (spec_VoiceOf.f k a0 a1) (spec_VoiceOf.f (k + 1) a0 a1) := by
  intro a0 a1 k
  have ih0 := spec_VoiceOf.mono_l k
  unfold spec_VoiceOf.f
  repeat' first
      | (with_reducible exact ih0 _ _ _ _)
      | (with_reducible exact LeO.refl _)
      | (with_reducible exact LeO.none _)
      | (with_reducible refine LeO.ite ?_ ?_)
      | (with_reducible refine LeO.bind ?_ (fun _ => ?_))
      | exact ih0 _ _ _ _
      | exact LeO.none _
      | refine LeO.ite ?_ ?_
      | refine LeO.bind ?_ (fun _ => ?_)
set_option maxHeartbeats 8000000 in
set_option maxRecDepth 100000 in
theorem spec_VoiceOf.calls (k : Nat) (A0 : Option Addr) (c0 : Nat) (l0 : List (S114)) (a1 : Int) (r : List (S114)) (w : World) (hr0 : Kd.C k114 w A0 l0.length l0) (hc0 : l0.length ≤ c0) (h : spec_VoiceOf.f k l0 a1 = some r) :
    Calls Try.prog 106 #[.slice A0 l0.length c0, .int .i64 a1] w fun e w' => ∃ v0_ : Value, e = .returned (v0_) ∧ Kd.R k114 114 w' w.heap.size (fun _ => True) v0_ r ∧ Below w.heap.size w w' := by
  have hu114 := Try.underlying114
  have HR0 := Aside0.mk hr0
  have HC0 := Aside0.mk hc0
  clear hr0 hc0
  have HB := Aside0.mk (Below.refl w.heap.size w)
  have H : (spec_VoiceOf.l0 k l0 a1 (([] : List (S114))) 0) = some r := h
  clear h
  obtain ⟨y244, hy244⟩ : ∃ y_ : List (S114), y_ = (([] : List (S114))) := ⟨_, rfl⟩
  replace H : (spec_VoiceOf.l0 k l0 a1 y244 0) = some r := by first | (rw [hy244]; with_reducible exact H) | (have H2_ := (Option.bind_some _ _).symm.trans H; rw [hy244]; with_reducible exact H2_) | (have H2_ := (Option.bind_some _ _).symm.trans H; with_reducible exact H2_) | with_reducible exact H | (rw [hy244]; exact H) | exact H
  have Ny244 := Aside0.mk hy244
  clear hy244
  have H' := Aside0.mk H
  clear H
  go_enter Try.func106, Try.ntmps106
  go_wp2_with (first | ((with_reducible refine gate_dst (N := 7) rfl ?_); refine Kd.R_lit k114 _ 114 ?hg (N := 7) ?hd (xs := ([] : List (S114))) (inner := []) (ok := fun _ => True) (okp := fun _ => True) ?hr ?hp (fun _ hk => hk) trivial (Below.refl _ _) (Nat.le_refl _) (by simp) ?_; (case hd => rfl); (case hg => rfl); (case hr => first | (go_simp; done) | (go_simp; rfl)); (case hp => exact (Reps.none _ _)); intro v245 w3 ho4 hb hg_ hnew_; clear hg_ hnew_; (first | rw [← Ny244.out] at ho4 | (simp only [Int.reduceToNat] at ho4; rw [← Ny244.out] at ho4)); have n0_ := Aside0.mk (Kd.R_lower ho4 (below_size (by repeat (first | (with_reducible first | exact HB.out | apply below_alloc | apply pw_below_drewN | apply below_drew1) | exact HB.out)))); have n1_ := Aside0.mk (below_step (by repeat (first | (with_reducible first | exact HB.out | apply below_alloc | apply pw_below_drewN | apply below_drew1) | exact HB.out)) hb); clear HB; have HO246 := n0_; have HB := n1_; clear n0_ n1_; clear hb ho4))
  go_loopg [5, 6] k (fun kq v5 v6 w' => ∃ (x5_1 : List (S114)) (x6_1 : Int), v6 = .int .i64 x6_1 ∧ Aside0 (spec_VoiceOf.l0 kq l0 a1 x5_1 x6_1 = some r) ∧ Aside0 (kq ≤ k) ∧ Aside0 (Kd.R k114 114 w' w.heap.size (fun _ => True) v5 x5_1) ∧ Aside0 (Below w.heap.size w w'))
  case atStart => exact ⟨(y244), (0), (by first | rfl | (simp; done) | (simp [*]; done)), H', ⟨Nat.le_refl _⟩, ⟨by (with_reducible repeat (first | apply Kd.R_alloc | apply Kd.R_drewN | apply Kd.R_drew)); exact HO246.out⟩, ⟨by repeat (first | (with_reducible first | exact HB.out | apply below_alloc | apply pw_below_drewN | apply below_drew1) | exact HB.out)⟩⟩
  case round =>
    clear H'
    try clear c1
    try clear p2
    obtain ⟨x5_1, x6_1, rfl, HA, HK1, HO_5, HB⟩ := hrel
    cases gk with
    | zero => exact absurd HA.out (by simp [spec_VoiceOf.l0])
    | succ k1 =>
      have H := HA.out
      clear HA
      simp only [spec_VoiceOf.l0] at H
      by_cases c5 : x6_1 < (l0.length : Int)
      · rw [if_pos c5] at H
        have c5b0 : decide (x6_1 < (l0.length : Int)) = true := decide_eq_true c5
        clear c5
        by_cases c6 : 0 ≤ x6_1
        · rw [if_pos c6] at H
          have c6b0 : decide (0 ≤ x6_1) = true := decide_eq_true c6
          clear c6
          by_cases c7 : ((rd_T114 l0 x6_1).f3) = a1
          · rw [if_pos c7] at H
            have c7b0 : (((rd_T114 l0 x6_1).f3) == a1) = true := beq_iff_eq.mpr c7
            have c7b1 : (((rd_T114 l0 x6_1).f3) != a1) = false := bne_eq_false_iff_eq.mpr c7
            clear c7
            by_cases c8 : x5_1.length < 4398046511104
            · rw [if_pos c8] at H
              have LMc8 := Aside0.mk c8
              clear c8
              obtain ⟨y249, hy249⟩ : ∃ y_ : List (S114), y_ = (x5_1 ++ [(⟨(rd_T114 l0 x6_1).f0, (rd_T114 l0 x6_1).f1, (rd_T114 l0 x6_1).f2, (rd_T114 l0 x6_1).f3⟩ : S114)]) := ⟨_, rfl⟩
              replace H : (spec_VoiceOf.l0 k1 l0 a1 y249 (wrap64 (x6_1 + 1))) = some r := by first | (rw [hy249]; with_reducible exact H) | (have H2_ := (Option.bind_some _ _).symm.trans H; rw [hy249]; with_reducible exact H2_) | (have H2_ := (Option.bind_some _ _).symm.trans H; with_reducible exact H2_) | with_reducible exact H | (rw [hy249]; exact H) | exact H
              have Ny249 := Aside0.mk hy249
              clear hy249
              have H' := Aside0.mk H
              clear H
              have p247 : 0 ≤ (x6_1 : Int) := of_decide_eq_true (by first | (with_reducible assumption) | assumption)
              have q247 : x6_1 < (l0.length : Int) := of_decide_eq_true (by first | (with_reducible assumption) | assumption)
              obtain ⟨ad247, e247, hx247_0, hx247_1, hx247_2, hx247_3⟩ := at_T114 HR0.out x6_1 p247 q247
              cases e247
              replace hx247_0 := (HB.out.cell (World.block_lt_of_cell? w _ hx247_0)).trans hx247_0
              replace hx247_1 := (HB.out.cell (World.block_lt_of_cell? w _ hx247_1)).trans hx247_1
              replace hx247_2 := (HB.out.cell (World.block_lt_of_cell? w _ hx247_2)).trans hx247_2
              replace hx247_3 := (HB.out.cell (World.block_lt_of_cell? w _ hx247_3)).trans hx247_3
              replace p247 := eq_true p247
              replace q247 := eq_true q247
              have p248 : 0 ≤ (x6_1 : Int) := of_decide_eq_true (by first | (with_reducible assumption) | assumption)
              have q248 : x6_1 < (l0.length : Int) := of_decide_eq_true (by first | (with_reducible assumption) | assumption)
              obtain ⟨ad248, e248, hx248_0, hx248_1, hx248_2, hx248_3⟩ := at_T114 HR0.out x6_1 p248 q248
              obtain rfl : ad247 = ad248 := (by injection e248)
              replace hx248_0 := (HB.out.cell (World.block_lt_of_cell? w _ hx248_0)).trans hx248_0
              replace hx248_1 := (HB.out.cell (World.block_lt_of_cell? w _ hx248_1)).trans hx248_1
              replace hx248_2 := (HB.out.cell (World.block_lt_of_cell? w _ hx248_2)).trans hx248_2
              replace hx248_3 := (HB.out.cell (World.block_lt_of_cell? w _ hx248_3)).trans hx248_3
              replace p248 := eq_true p248
              replace q248 := eq_true q248
              go_wp2_with (first | ((with_reducible refine gate_builtin (b := .append) (xs := #[.tmp 21, .tmp 26]) rfl ?_); at_builtin; refine Kd.R_append k114 (w0 := w) w.heap.size rfl (.tmp 21) (.tmp 26) 58 114 (.agg #[(.int .i64 0), (.int .i64 0), (.int .i64 0), (.int .i64 0)]) 32 rfl Try.underlying58 info114 rfl (by decide) (by omega) u5 x5_1 (⟨(rd_T114 l0 x6_1).f0, (rd_T114 l0 x6_1).f1, (rd_T114 l0 x6_1).f2, (rd_T114 l0 x6_1).f3⟩ : S114) [.int .i64 ((rd_T114 l0 x6_1).f0), .int .i64 ((rd_T114 l0 x6_1).f1), .int .i64 ((rd_T114 l0 x6_1).f2), .int .i64 ((rd_T114 l0 x6_1).f3)] (fun _ => True) (fun _ => False) rfl rfl ?aP (fun _ hk => hk.elim) ?aF ?aO ?aB ?aS ?aL ?_; (case aP => exact k114_mkM _ _ _ (⟨(rd_T114 l0 x6_1).f0, (rd_T114 l0 x6_1).f1, (rd_T114 l0 x6_1).f2, (rd_T114 l0 x6_1).f3⟩ : S114)); (case aB => exact (by repeat (first | (with_reducible first | exact HB.out | apply below_alloc | apply pw_below_drewN | apply below_drew1) | exact HB.out))); (case aF => exact (fun _ _ => trivial)); (case aO => exact (by (with_reducible repeat (first | apply Kd.R_alloc | apply Kd.R_drewN | apply Kd.R_drew)); exact HO_5.out)); (case aS => exact (below_size (by repeat (first | (with_reducible first | exact HB.out | apply below_alloc | apply pw_below_drewN | apply below_drew1) | exact HB.out)))); (case aL => have := LMc8.out; omega); intro v250 w9 ho hb hg hat; rw [← Ny249.out] at ho; have n0_ := Aside0.mk (hb); have n1_ := Aside0.mk (ho); clear HB; clear HO_5; have HB := n0_; have HO251 := n1_; clear n0_ n1_; clear ho hb hg hat))
              go_roundg k1
              case measure => have := HK1.out; omega
              case rel => exact ⟨(y249), (wrap64 (x6_1 + 1)), (by first | rfl | (simp; done) | (simp [*]; done)), H', ⟨by have := HK1.out; omega⟩, ⟨by (with_reducible repeat (first | apply Kd.R_alloc | apply Kd.R_drewN | apply Kd.R_drew)); exact HO251.out⟩, ⟨by repeat (first | (with_reducible first | exact HB.out | apply below_alloc | apply pw_below_drewN | apply below_drew1) | exact HB.out)⟩⟩
            · rw [if_neg c8] at H
              exact absurd H (by simp)
          · rw [if_neg c7] at H
            have c7b0 : (((rd_T114 l0 x6_1).f3) == a1) = false := beq_eq_false_iff_ne.mpr c7
            have c7b1 : (((rd_T114 l0 x6_1).f3) != a1) = true := bne_iff_ne.mpr c7
            have H' := Aside0.mk H
            clear H
            have p247 : 0 ≤ (x6_1 : Int) := of_decide_eq_true (by first | (with_reducible assumption) | assumption)
            have q247 : x6_1 < (l0.length : Int) := of_decide_eq_true (by first | (with_reducible assumption) | assumption)
            obtain ⟨ad247, e247, hx247_0, hx247_1, hx247_2, hx247_3⟩ := at_T114 HR0.out x6_1 p247 q247
            cases e247
            replace hx247_0 := (HB.out.cell (World.block_lt_of_cell? w _ hx247_0)).trans hx247_0
            replace hx247_1 := (HB.out.cell (World.block_lt_of_cell? w _ hx247_1)).trans hx247_1
            replace hx247_2 := (HB.out.cell (World.block_lt_of_cell? w _ hx247_2)).trans hx247_2
            replace hx247_3 := (HB.out.cell (World.block_lt_of_cell? w _ hx247_3)).trans hx247_3
            replace p247 := eq_true p247
            replace q247 := eq_true q247
            go_wp2
            go_roundg k1
            case measure => have := HK1.out; omega
            case rel => exact ⟨(x5_1), (wrap64 (x6_1 + 1)), (by first | rfl | (simp; done) | (simp [*]; done)), H', ⟨by have := HK1.out; omega⟩, ⟨by (with_reducible repeat (first | apply Kd.R_alloc | apply Kd.R_drewN | apply Kd.R_drew)); exact HO_5.out⟩, ⟨by repeat (first | (with_reducible first | exact HB.out | apply below_alloc | apply pw_below_drewN | apply below_drew1) | exact HB.out)⟩⟩
        · rw [if_neg c6] at H
          exact absurd H (by simp)
      · rw [if_neg c5] at H
        have c5b0 : decide (x6_1 < (l0.length : Int)) = false := decide_eq_false c5
        clear c5
        obtain rfl := Option.some.inj H
        go_wp2
        go_ret
        exact ⟨_, by first | rfl | (simp [errW_none, errW_some] <;> rfl) | (simp [*, errW_none, errW_some] <;> rfl), by (with_reducible repeat (first | apply Kd.R_alloc | apply Kd.R_drewN | apply Kd.R_drew)); exact HO_5.out, by repeat (first | (with_reducible first | exact HB.out | apply below_alloc | apply pw_below_drewN | apply below_drew1) | exact HB.out)⟩

/-! ### spec_BusiestPlayer: function 52 -/
def spec_BusiestPlayer.l0 : Nat → Int → Int → Int → List (S114) → Int → Int → List (S116) → List (S118) → List Int → List (S120) → List (S147) → Int → Int → Option (Int)
  | 0, _, _, _, _, _, _, _, _, _, _, _, _, _ => none
  | k + 1, x3, x4, x5, x253000, x253001, x253002, x253003, x253004, x253005, x253006, x253007, x253008, x253009 => if x5 < (x253005.length : Int) then ((spec_VoiceOf.f k x253000 (wrap64 (x5 + 1))).bind fun t253 => (if (t253.length : Int) > x4 then (if 0 ≤ x5 then (spec_BusiestPlayer.l0 k (rd x253005 x5) (t253.length : Int) (wrap64 (x5 + 1)) x253000 x253001 x253002 x253003 x253004 x253005 x253006 x253007 x253008 x253009) else (none)) else (spec_BusiestPlayer.l0 k x3 x4 (wrap64 (x5 + 1)) x253000 x253001 x253002 x253003 x253004 x253005 x253006 x253007 x253008 x253009))) else (some x3)
def spec_BusiestPlayer.f (k : Nat) (l0_0 : List (S114)) (a0_1 : Int) (a0_2 : Int) (l0_3 : List (S116)) (l0_4 : List (S118)) (l0_5 : List Int) (l0_6 : List (S120)) (l0_7 : List (S147)) (a0_8 : Int) (a0_9 : Int) : Option (Int) := spec_BusiestPlayer.l0 k 0 (-1) 0 l0_0 a0_1 a0_2 l0_3 l0_4 l0_5 l0_6 l0_7 a0_8 a0_9
theorem spec_BusiestPlayer.mono_l : ∀ k, (∀ y0 y1 y2 y3 y4 y5 y6 y7 y8 y9 y10 y11 y12, LeO (spec_BusiestPlayer.l0 k y0 y1 y2 y3 y4 y5 y6 y7 y8 y9 y10 y11 y12) (spec_BusiestPlayer.l0 (k + 1) y0 y1 y2 y3 y4 y5 y6 y7 y8 y9 y10 y11 y12))
  | 0 => fun _ _ _ _ _ _ _ _ _ _ _ _ _ r h => by simp [spec_BusiestPlayer.l0] at h
  | k + 1 => by
    have ih0 := spec_BusiestPlayer.mono_l k
    · intro y0 y1 y2 y3 y4 y5 y6 y7 y8 y9 y10 y11 y12
      unfold spec_BusiestPlayer.l0
      repeat' first
      | (with_reducible exact ih0 _ _ _ _ _ _ _ _ _ _ _ _ _)
      | (with_reducible exact spec_VoiceOf.mono _ _ _)
      | (with_reducible exact LeO.refl _)
      | (with_reducible exact LeO.none _)
      | (with_reducible refine LeO.ite ?_ ?_)
      | (with_reducible refine LeO.bind ?_ (fun _ => ?_))
      | exact ih0 _ _ _ _ _ _ _ _ _ _ _ _ _
      | exact spec_VoiceOf.mono _ _ _
      | exact LeO.none _
      | refine LeO.ite ?_ ?_
      | refine LeO.bind ?_ (fun _ => ?_)
theorem spec_BusiestPlayer.mono : ∀ a0 a1 a2 a3 a4 a5 a6 a7 a8 a9 k, LeO (spec_BusiestPlayer.f k a0 a1 a2 a3 a4 a5 a6 a7 a8 a9) (spec_BusiestPlayer.f (k + 1) a0 a1 a2 a3 a4 a5 a6 a7 a8 a9) := by
  intro a0 a1 a2 a3 a4 a5 a6 a7 a8 a9 k
  have ih0 := spec_BusiestPlayer.mono_l k
  unfold spec_BusiestPlayer.f
  repeat' first
      | (with_reducible exact ih0 _ _ _ _ _ _ _ _ _ _ _ _ _)
      | (with_reducible exact spec_VoiceOf.mono _ _ _)
      | (with_reducible exact LeO.refl _)
      | (with_reducible exact LeO.none _)
      | (with_reducible refine LeO.ite ?_ ?_)
      | (with_reducible refine LeO.bind ?_ (fun _ => ?_))
      | exact ih0 _ _ _ _ _ _ _ _ _ _ _ _ _
      | exact spec_VoiceOf.mono _ _ _
      | exact LeO.none _
      | refine LeO.ite ?_ ?_
      | refine LeO.bind ?_ (fun _ => ?_)
set_option maxHeartbeats 8000000 in
set_option maxRecDepth 100000 in
theorem spec_BusiestPlayer.calls (k : Nat) (A0_0 : Option Addr) (c0_0 : Nat) (l0_0 : List (S114)) (a0_1 : Int) (a0_2 : Int) (A0_3 : Option Addr) (c0_3 : Nat) (l0_3 : List (S116)) (A0_4 : Option Addr) (c0_4 : Nat) (l0_4 : List (S118)) (A0_5 : Option Addr) (c0_5 : Nat) (l0_5 : List Int) (A0_6 : Option Addr) (c0_6 : Nat) (l0_6 : List (S120)) (A0_7 : Option Addr) (c0_7 : Nat) (l0_7 : List (S147)) (a0_8 : Int) (a0_9 : Int) (r : Int) (w : World) (hr0_0 : Kd.C k114 w A0_0 l0_0.length l0_0) (hc0_0 : l0_0.length ≤ c0_0) (hr0_3 : Kd.C k116 w A0_3 l0_3.length l0_3) (hc0_3 : l0_3.length ≤ c0_3) (hr0_4 : Kd.C k118 w A0_4 l0_4.length l0_4) (hc0_4 : l0_4.length ≤ c0_4) (hr0_5 : Kd.C (Kd.int .i64) w A0_5 l0_5.length l0_5) (hc0_5 : l0_5.length ≤ c0_5) (hr0_6 : Kd.C k120 w A0_6 l0_6.length l0_6) (hc0_6 : l0_6.length ≤ c0_6) (hr0_7 : Kd.C k147 w A0_7 l0_7.length l0_7) (hc0_7 : l0_7.length ≤ c0_7) (h : spec_BusiestPlayer.f k l0_0 a0_1 a0_2 l0_3 l0_4 l0_5 l0_6 l0_7 a0_8 a0_9 = some r) :
    Calls Try.prog 52 #[.agg #[.slice A0_0 l0_0.length c0_0, .int .i64 a0_1, .int .i64 a0_2, .slice A0_3 l0_3.length c0_3, .slice A0_4 l0_4.length c0_4, .slice A0_5 l0_5.length c0_5, .slice A0_6 l0_6.length c0_6, .slice A0_7 l0_7.length c0_7, .int .i64 a0_8, .int .i64 a0_9]] w fun e w' => e = .returned (.int .i64 r) ∧ Below w.heap.size w w' := by
  have hu81 := Try.underlying81
  have HR0_0 := Aside0.mk hr0_0
  have HC0_0 := Aside0.mk hc0_0
  clear hr0_0 hc0_0
  have HR0_3 := Aside0.mk hr0_3
  have HC0_3 := Aside0.mk hc0_3
  clear hr0_3 hc0_3
  have HR0_4 := Aside0.mk hr0_4
  have HC0_4 := Aside0.mk hc0_4
  clear hr0_4 hc0_4
  have HR0_5 := Aside0.mk hr0_5
  have HC0_5 := Aside0.mk hc0_5
  clear hr0_5 hc0_5
  have HR0_6 := Aside0.mk hr0_6
  have HC0_6 := Aside0.mk hc0_6
  clear hr0_6 hc0_6
  have HR0_7 := Aside0.mk hr0_7
  have HC0_7 := Aside0.mk hc0_7
  clear hr0_7 hc0_7
  have HB := Aside0.mk (Below.refl w.heap.size w)
  have H : (spec_BusiestPlayer.l0 k 0 (-1) 0 l0_0 a0_1 a0_2 l0_3 l0_4 l0_5 l0_6 l0_7 a0_8 a0_9) = some r := h
  clear h
  have H' := Aside0.mk H
  clear H
  go_enter Try.func52, Try.ntmps52
  go_wp2_with (first | ((with_reducible refine gate_dst (N := 1) rfl ?_); refine box_event ?hg (N := 1) ?hd (cs := #[.slice A0_0 l0_0.length c0_0, .int .i64 a0_1, .int .i64 a0_2, .slice A0_3 l0_3.length c0_3, .slice A0_4 l0_4.length c0_4, .slice A0_5 l0_5.length c0_5, .slice A0_6 l0_6.length c0_6, .slice A0_7 l0_7.length c0_7, .int .i64 a0_8, .int .i64 a0_9]) (t := 81) ?hr ?_; (case hd => rfl); (case hg => rfl); (case hr => first | (go_simp; done) | (go_simp; rfl)); intro gb252 hg w2 hbox hb; have n0_ := Aside0.mk (below_step (by repeat (first | (with_reducible first | exact HB.out | apply below_alloc | apply pw_below_drewN | apply below_drew1) | exact HB.out)) hb); have n1_ := Aside0.mk (hbox); have n2_ := Aside0.mk ((by rw [hg]; exact (below_size (by repeat (first | (with_reducible first | exact HB.out | apply below_alloc | apply pw_below_drewN | apply below_drew1) | exact HB.out))) : w.heap.size ≤ gb252)); have n3_ := Aside0.mk ((by rw [hg]; exact (below_size (by repeat (first | (with_reducible first | exact HB.out | apply below_alloc | apply pw_below_drewN | apply below_drew1) | exact HB.out))) : w.heap.size ≤ gb252)); clear HB; have HB := n0_; have BK252 := n1_; have GW252 := n2_; have GE252 := n3_; clear n0_ n1_ n2_ n3_; clear hb hbox hg))
  go_loopg [3, 4, 5] k (fun kq v3 v4 v5 w' => ∃ (x3_1 : Int) (x4_1 : Int) (x5_1 : Int), v3 = .int .i64 x3_1 ∧ v4 = .int .i64 x4_1 ∧ v5 = .int .i64 x5_1 ∧ Aside0 (spec_BusiestPlayer.l0 kq x3_1 x4_1 x5_1 l0_0 a0_1 a0_2 l0_3 l0_4 l0_5 l0_6 l0_7 a0_8 a0_9 = some r) ∧ Aside0 (kq ≤ k) ∧ Aside0 (w'.heap[gb252]? = some (.cells #[(.slice A0_0 l0_0.length c0_0), .int .i64 a0_1, .int .i64 a0_2, (.slice A0_3 l0_3.length c0_3), (.slice A0_4 l0_4.length c0_4), (.slice A0_5 l0_5.length c0_5), (.slice A0_6 l0_6.length c0_6), (.slice A0_7 l0_7.length c0_7), .int .i64 a0_8, .int .i64 a0_9] 81 (0, 0))) ∧ Aside0 (Below w.heap.size w w'))
  case atStart => exact ⟨(0), ((-1)), (0), (by first | rfl | (simp; done) | (simp [*]; done)), (by first | rfl | (simp; done) | (simp [*]; done)), (by first | rfl | (simp; done) | (simp [*]; done)), H', ⟨Nat.le_refl _⟩, ⟨by (with_reducible repeat (first | refine blk_drewN ?_ _ | refine blk_drew ?_ | refine blk_alloc ?_ _)); exact BK252.out⟩, ⟨by repeat (first | (with_reducible first | exact HB.out | apply below_alloc | apply pw_below_drewN | apply below_drew1 | refine below_set ?_ GE252.out) | exact HB.out)⟩⟩
  case round =>
    clear H'
    try clear p2
    obtain ⟨x3_1, x4_1, x5_1, rfl, rfl, rfl, HA, HK1, BK252, HB⟩ := hrel
    cases gk with
    | zero => exact absurd HA.out (by simp [spec_BusiestPlayer.l0])
    | succ k1 =>
      have H := HA.out
      clear HA
      simp only [spec_BusiestPlayer.l0] at H
      by_cases c3 : x5_1 < (l0_5.length : Int)
      · rw [if_pos c3] at H
        have c3b0 : decide (x5_1 < (l0_5.length : Int)) = true := decide_eq_true c3
        clear c3
        replace H := Option.bind_eq_some_iff.mp H
        obtain ⟨t253, A40, H⟩ := H
        replace H : (if (t253.length : Int) > x4_1 then (if 0 ≤ x5_1 then (spec_BusiestPlayer.l0 k1 (rd l0_5 x5_1) (t253.length : Int) (wrap64 (x5_1 + 1)) l0_0 a0_1 a0_2 l0_3 l0_4 l0_5 l0_6 l0_7 a0_8 a0_9) else (none)) else (spec_BusiestPlayer.l0 k1 x3_1 x4_1 (wrap64 (x5_1 + 1)) l0_0 a0_1 a0_2 l0_3 l0_4 l0_5 l0_6 l0_7 a0_8 a0_9)) = some r := H
        have A4 := Aside0.mk A40
        clear A40
        by_cases c5 : (t253.length : Int) > x4_1
        · rw [if_pos c5] at H
          have c5b0 : decide (x4_1 < (t253.length : Int)) = true := decide_eq_true c5
          clear c5
          by_cases c6 : 0 ≤ x5_1
          · rw [if_pos c6] at H
            have c6b0 : decide (0 ≤ x5_1) = true := decide_eq_true c6
            clear c6
            have H' := Aside0.mk H
            clear H
            have hcz7_0 : wr.cell? ⟨gb252, 0, none⟩ = some (.slice A0_0 l0_0.length c0_0) := (blk_cell BK252.out 0).trans rfl
            have hcz7_1 : wr.cell? ⟨gb252, 1, none⟩ = some (.int .i64 a0_1) := (blk_cell BK252.out 1).trans rfl
            have hcz7_2 : wr.cell? ⟨gb252, 2, none⟩ = some (.int .i64 a0_2) := (blk_cell BK252.out 2).trans rfl
            have hcz7_3 : wr.cell? ⟨gb252, 3, none⟩ = some (.slice A0_3 l0_3.length c0_3) := (blk_cell BK252.out 3).trans rfl
            have hcz7_4 : wr.cell? ⟨gb252, 4, none⟩ = some (.slice A0_4 l0_4.length c0_4) := (blk_cell BK252.out 4).trans rfl
            have hcz7_5 : wr.cell? ⟨gb252, 5, none⟩ = some (.slice A0_5 l0_5.length c0_5) := (blk_cell BK252.out 5).trans rfl
            have hcz7_6 : wr.cell? ⟨gb252, 6, none⟩ = some (.slice A0_6 l0_6.length c0_6) := (blk_cell BK252.out 6).trans rfl
            have hcz7_7 : wr.cell? ⟨gb252, 7, none⟩ = some (.slice A0_7 l0_7.length c0_7) := (blk_cell BK252.out 7).trans rfl
            have hcz7_8 : wr.cell? ⟨gb252, 8, none⟩ = some (.int .i64 a0_8) := (blk_cell BK252.out 8).trans rfl
            have hcz7_9 : wr.cell? ⟨gb252, 9, none⟩ = some (.int .i64 a0_9) := (blk_cell BK252.out 9).trans rfl
            have hfz7_0 := blk_frozen BK252.out 0
            have hfz7_1 := blk_frozen BK252.out 1
            have hfz7_2 := blk_frozen BK252.out 2
            have hfz7_3 := blk_frozen BK252.out 3
            have hfz7_4 := blk_frozen BK252.out 4
            have hfz7_5 := blk_frozen BK252.out 5
            have hfz7_6 := blk_frozen BK252.out 6
            have hfz7_7 := blk_frozen BK252.out 7
            have hfz7_8 := blk_frozen BK252.out 8
            have hfz7_9 := blk_frozen BK252.out 9
            go_wp2_with (first | ((with_reducible refine gate_callee (f := 106) rfl ?_); refine goesL_ (some 18) rfl rfl Try.func106 (by kernel_rfl) rfl #[.slice A0_0 l0_0.length c0_0, .int .i64 (wrap64 (x5_1 + 1))] rfl (by (try simp only [List.map_toArray, List.map_cons, List.map_nil]); first | done | rfl | (simp only [List.length_drop, List.length_take]; rfl)) ?_; (with_reducible refine (spec_VoiceOf.calls k1 _ _ l0_0 (wrap64 (x5_1 + 1)) t253 _ ?side1 ?side2 A4.out).mono ?_); (case side1 => repeat (first | exact (Kd.C_below HR0_0.out HB.out) | (with_reducible refine Kd.C_alloc ?_ _) | (with_reducible refine Kd.C_drewN ?_ _) | (with_reducible refine Kd.C_drew ?_))); (case side2 => exact HC0_0.out); rintro e w8 ⟨v254, rfl, ho0, hb⟩; refine ⟨_, rfl, ?_⟩; have n0_ := Aside0.mk (Kd.R_lower ho0 (below_size (by repeat (first | (with_reducible first | exact HB.out | apply below_alloc | apply pw_below_drewN | apply below_drew1 | refine below_set ?_ GE252.out) | exact HB.out)))); have n1_ := Aside0.mk (blk_below (g := gb252) (o := .cells #[.slice A0_0 l0_0.length c0_0, .int .i64 a0_1, .int .i64 a0_2, .slice A0_3 l0_3.length c0_3, .slice A0_4 l0_4.length c0_4, .slice A0_5 l0_5.length c0_5, .slice A0_6 l0_6.length c0_6, .slice A0_7 l0_7.length c0_7, .int .i64 a0_8, .int .i64 a0_9] 81 (0, 0)) (by (with_reducible repeat (first | refine blk_drewN ?_ _ | refine blk_drew ?_ | refine blk_alloc ?_ _)); exact BK252.out) hb); have n2_ := Aside0.mk (below_step (by repeat (first | (with_reducible first | exact HB.out | apply below_alloc | apply pw_below_drewN | apply below_drew1 | refine below_set ?_ GE252.out) | exact HB.out)) hb); clear BK252; clear HB; have HO255 := n0_; have BK252 := n1_; have HB := n2_; clear n0_ n1_ n2_; (try clear hb); (try clear hb2); (try clear hk); (try clear hi); (try clear ho0); obtain ⟨Ao9, co9, eo9⟩ := Kd.R_slice HO255.out; subst eo9; have hcz10_0 : w8.cell? ⟨gb252, 0, none⟩ = some (.slice A0_0 l0_0.length c0_0) := (blk_cell BK252.out 0).trans rfl; have hcz10_1 : w8.cell? ⟨gb252, 1, none⟩ = some (.int .i64 a0_1) := (blk_cell BK252.out 1).trans rfl; have hcz10_2 : w8.cell? ⟨gb252, 2, none⟩ = some (.int .i64 a0_2) := (blk_cell BK252.out 2).trans rfl; have hcz10_3 : w8.cell? ⟨gb252, 3, none⟩ = some (.slice A0_3 l0_3.length c0_3) := (blk_cell BK252.out 3).trans rfl; have hcz10_4 : w8.cell? ⟨gb252, 4, none⟩ = some (.slice A0_4 l0_4.length c0_4) := (blk_cell BK252.out 4).trans rfl; have hcz10_5 : w8.cell? ⟨gb252, 5, none⟩ = some (.slice A0_5 l0_5.length c0_5) := (blk_cell BK252.out 5).trans rfl; have hcz10_6 : w8.cell? ⟨gb252, 6, none⟩ = some (.slice A0_6 l0_6.length c0_6) := (blk_cell BK252.out 6).trans rfl; have hcz10_7 : w8.cell? ⟨gb252, 7, none⟩ = some (.slice A0_7 l0_7.length c0_7) := (blk_cell BK252.out 7).trans rfl; have hcz10_8 : w8.cell? ⟨gb252, 8, none⟩ = some (.int .i64 a0_8) := (blk_cell BK252.out 8).trans rfl; have hcz10_9 : w8.cell? ⟨gb252, 9, none⟩ = some (.int .i64 a0_9) := (blk_cell BK252.out 9).trans rfl; have hfz10_0 := blk_frozen BK252.out 0; have hfz10_1 := blk_frozen BK252.out 1; have hfz10_2 := blk_frozen BK252.out 2; have hfz10_3 := blk_frozen BK252.out 3; have hfz10_4 := blk_frozen BK252.out 4; have hfz10_5 := blk_frozen BK252.out 5; have hfz10_6 := blk_frozen BK252.out 6; have hfz10_7 := blk_frozen BK252.out 7; have hfz10_8 := blk_frozen BK252.out 8; have hfz10_9 := blk_frozen BK252.out 9; have p256 : 0 ≤ (x5_1 : Int) := of_decide_eq_true (by first | (with_reducible assumption) | assumption); have q256 : x5_1 < (l0_5.length : Int) := of_decide_eq_true (by first | (with_reducible assumption) | assumption); obtain ⟨ad256, e256, hx256_0⟩ := Kd.at_int HR0_5.out x5_1 p256 q256; cases e256; replace hx256_0 := (HB.out.cell (World.block_lt_of_cell? w _ hx256_0)).trans hx256_0; replace p256 := eq_true p256; replace q256 := eq_true q256))
            go_roundg k1
            case measure => have := HK1.out; omega
            case rel => exact ⟨(rd l0_5 x5_1), ((t253.length : Int)), (wrap64 (x5_1 + 1)), (by first | rfl | (simp; done) | (simp [*]; done)), (by first | rfl | (simp; done) | (simp [*]; done)), (by first | rfl | (simp; done) | (simp [*]; done)), H', ⟨by have := HK1.out; omega⟩, ⟨by (with_reducible repeat (first | refine blk_drewN ?_ _ | refine blk_drew ?_ | refine blk_alloc ?_ _)); exact BK252.out⟩, ⟨by repeat (first | (with_reducible first | exact HB.out | apply below_alloc | apply pw_below_drewN | apply below_drew1 | refine below_set ?_ GE252.out) | exact HB.out)⟩⟩
          · rw [if_neg c6] at H
            exact absurd H (by simp)
        · rw [if_neg c5] at H
          have c5b0 : decide (x4_1 < (t253.length : Int)) = false := decide_eq_false c5
          clear c5
          have H' := Aside0.mk H
          clear H
          have hcz11_0 : wr.cell? ⟨gb252, 0, none⟩ = some (.slice A0_0 l0_0.length c0_0) := (blk_cell BK252.out 0).trans rfl
          have hcz11_1 : wr.cell? ⟨gb252, 1, none⟩ = some (.int .i64 a0_1) := (blk_cell BK252.out 1).trans rfl
          have hcz11_2 : wr.cell? ⟨gb252, 2, none⟩ = some (.int .i64 a0_2) := (blk_cell BK252.out 2).trans rfl
          have hcz11_3 : wr.cell? ⟨gb252, 3, none⟩ = some (.slice A0_3 l0_3.length c0_3) := (blk_cell BK252.out 3).trans rfl
          have hcz11_4 : wr.cell? ⟨gb252, 4, none⟩ = some (.slice A0_4 l0_4.length c0_4) := (blk_cell BK252.out 4).trans rfl
          have hcz11_5 : wr.cell? ⟨gb252, 5, none⟩ = some (.slice A0_5 l0_5.length c0_5) := (blk_cell BK252.out 5).trans rfl
          have hcz11_6 : wr.cell? ⟨gb252, 6, none⟩ = some (.slice A0_6 l0_6.length c0_6) := (blk_cell BK252.out 6).trans rfl
          have hcz11_7 : wr.cell? ⟨gb252, 7, none⟩ = some (.slice A0_7 l0_7.length c0_7) := (blk_cell BK252.out 7).trans rfl
          have hcz11_8 : wr.cell? ⟨gb252, 8, none⟩ = some (.int .i64 a0_8) := (blk_cell BK252.out 8).trans rfl
          have hcz11_9 : wr.cell? ⟨gb252, 9, none⟩ = some (.int .i64 a0_9) := (blk_cell BK252.out 9).trans rfl
          have hfz11_0 := blk_frozen BK252.out 0
          have hfz11_1 := blk_frozen BK252.out 1
          have hfz11_2 := blk_frozen BK252.out 2
          have hfz11_3 := blk_frozen BK252.out 3
          have hfz11_4 := blk_frozen BK252.out 4
          have hfz11_5 := blk_frozen BK252.out 5
          have hfz11_6 := blk_frozen BK252.out 6
          have hfz11_7 := blk_frozen BK252.out 7
          have hfz11_8 := blk_frozen BK252.out 8
          have hfz11_9 := blk_frozen BK252.out 9
          go_wp2_with (first | ((with_reducible refine gate_callee (f := 106) rfl ?_); refine goesL_ (some 18) rfl rfl Try.func106 (by kernel_rfl) rfl #[.slice A0_0 l0_0.length c0_0, .int .i64 (wrap64 (x5_1 + 1))] rfl (by (try simp only [List.map_toArray, List.map_cons, List.map_nil]); first | done | rfl | (simp only [List.length_drop, List.length_take]; rfl)) ?_; (with_reducible refine (spec_VoiceOf.calls k1 _ _ l0_0 (wrap64 (x5_1 + 1)) t253 _ ?side1 ?side2 A4.out).mono ?_); (case side1 => repeat (first | exact (Kd.C_below HR0_0.out HB.out) | (with_reducible refine Kd.C_alloc ?_ _) | (with_reducible refine Kd.C_drewN ?_ _) | (with_reducible refine Kd.C_drew ?_))); (case side2 => exact HC0_0.out); rintro e w12 ⟨v254, rfl, ho0, hb⟩; refine ⟨_, rfl, ?_⟩; have n0_ := Aside0.mk (Kd.R_lower ho0 (below_size (by repeat (first | (with_reducible first | exact HB.out | apply below_alloc | apply pw_below_drewN | apply below_drew1 | refine below_set ?_ GE252.out) | exact HB.out)))); have n1_ := Aside0.mk (blk_below (g := gb252) (o := .cells #[.slice A0_0 l0_0.length c0_0, .int .i64 a0_1, .int .i64 a0_2, .slice A0_3 l0_3.length c0_3, .slice A0_4 l0_4.length c0_4, .slice A0_5 l0_5.length c0_5, .slice A0_6 l0_6.length c0_6, .slice A0_7 l0_7.length c0_7, .int .i64 a0_8, .int .i64 a0_9] 81 (0, 0)) (by (with_reducible repeat (first | refine blk_drewN ?_ _ | refine blk_drew ?_ | refine blk_alloc ?_ _)); exact BK252.out) hb); have n2_ := Aside0.mk (below_step (by repeat (first | (with_reducible first | exact HB.out | apply below_alloc | apply pw_below_drewN | apply below_drew1 | refine below_set ?_ GE252.out) | exact HB.out)) hb); clear BK252; clear HB; have HO255 := n0_; have BK252 := n1_; have HB := n2_; clear n0_ n1_ n2_; (try clear hb); (try clear hb2); (try clear hk); (try clear hi); (try clear ho0); obtain ⟨Ao13, co13, eo13⟩ := Kd.R_slice HO255.out; subst eo13))
          go_roundg k1
          case measure => have := HK1.out; omega
          case rel => exact ⟨(x3_1), (x4_1), (wrap64 (x5_1 + 1)), (by first | rfl | (simp; done) | (simp [*]; done)), (by first | rfl | (simp; done) | (simp [*]; done)), (by first | rfl | (simp; done) | (simp [*]; done)), H', ⟨by have := HK1.out; omega⟩, ⟨by (with_reducible repeat (first | refine blk_drewN ?_ _ | refine blk_drew ?_ | refine blk_alloc ?_ _)); exact BK252.out⟩, ⟨by repeat (first | (with_reducible first | exact HB.out | apply below_alloc | apply pw_below_drewN | apply below_drew1 | refine below_set ?_ GE252.out) | exact HB.out)⟩⟩
      · rw [if_neg c3] at H
        have c3b0 : decide (x5_1 < (l0_5.length : Int)) = false := decide_eq_false c3
        clear c3
        obtain rfl := Option.some.inj H
        have hcz14_0 : wr.cell? ⟨gb252, 0, none⟩ = some (.slice A0_0 l0_0.length c0_0) := (blk_cell BK252.out 0).trans rfl
        have hcz14_1 : wr.cell? ⟨gb252, 1, none⟩ = some (.int .i64 a0_1) := (blk_cell BK252.out 1).trans rfl
        have hcz14_2 : wr.cell? ⟨gb252, 2, none⟩ = some (.int .i64 a0_2) := (blk_cell BK252.out 2).trans rfl
        have hcz14_3 : wr.cell? ⟨gb252, 3, none⟩ = some (.slice A0_3 l0_3.length c0_3) := (blk_cell BK252.out 3).trans rfl
        have hcz14_4 : wr.cell? ⟨gb252, 4, none⟩ = some (.slice A0_4 l0_4.length c0_4) := (blk_cell BK252.out 4).trans rfl
        have hcz14_5 : wr.cell? ⟨gb252, 5, none⟩ = some (.slice A0_5 l0_5.length c0_5) := (blk_cell BK252.out 5).trans rfl
        have hcz14_6 : wr.cell? ⟨gb252, 6, none⟩ = some (.slice A0_6 l0_6.length c0_6) := (blk_cell BK252.out 6).trans rfl
        have hcz14_7 : wr.cell? ⟨gb252, 7, none⟩ = some (.slice A0_7 l0_7.length c0_7) := (blk_cell BK252.out 7).trans rfl
        have hcz14_8 : wr.cell? ⟨gb252, 8, none⟩ = some (.int .i64 a0_8) := (blk_cell BK252.out 8).trans rfl
        have hcz14_9 : wr.cell? ⟨gb252, 9, none⟩ = some (.int .i64 a0_9) := (blk_cell BK252.out 9).trans rfl
        have hfz14_0 := blk_frozen BK252.out 0
        have hfz14_1 := blk_frozen BK252.out 1
        have hfz14_2 := blk_frozen BK252.out 2
        have hfz14_3 := blk_frozen BK252.out 3
        have hfz14_4 := blk_frozen BK252.out 4
        have hfz14_5 := blk_frozen BK252.out 5
        have hfz14_6 := blk_frozen BK252.out 6
        have hfz14_7 := blk_frozen BK252.out 7
        have hfz14_8 := blk_frozen BK252.out 8
        have hfz14_9 := blk_frozen BK252.out 9
        go_wp2
        go_ret
        exact ⟨by first | rfl | (simp [errW_none, errW_some] <;> rfl) | (simp [*, errW_none, errW_some] <;> rfl), by repeat (first | (with_reducible first | exact HB.out | apply below_alloc | apply pw_below_drewN | apply below_drew1 | refine below_set ?_ GE252.out) | exact HB.out)⟩

-- NOT PRINTED: function 139 (slices_IndexFunc_impl_Event_impl_Event)

-- NOT PRINTED: function 140 (slices_DeleteFunc_impl_Event_impl_Event)

/-! ### impl_clone_impl_Event: function 141 -/
def impl_clone_impl_Event.f (l0 : List (S114)) : Option ((List (S114))) := (some (([] : List (S114)) : List (S114))).bind fun y257 => (if y257.length + l0.length < 4398046511104 then (some (y257 ++ l0)) else (none))
set_option maxHeartbeats 8000000 in
set_option maxRecDepth 100000 in
theorem impl_clone_impl_Event.calls (A0 : Option Addr) (c0 : Nat) (l0 : List (S114)) (r : List (S114)) (w : World) (hr0 : Kd.C k114 w A0 l0.length l0) (hc0 : l0.length ≤ c0) (h : impl_clone_impl_Event.f l0 = some r) :
    Calls Try.prog 141 #[.slice A0 l0.length c0] w fun e w' => ∃ v0_ : Value, e = .returned (v0_) ∧ Kd.R k114 114 w' w.heap.size (fun _ => True) v0_ r ∧ Below w.heap.size w w' := by
  have HR0 := Aside0.mk hr0
  have HC0 := Aside0.mk hc0
  clear hr0 hc0
  have HB := Aside0.mk (Below.refl w.heap.size w)
  have H : ((some (([] : List (S114)) : List (S114))).bind fun y257 => (if y257.length + l0.length < 4398046511104 then (some (y257 ++ l0)) else (none))) = some r := h
  clear h
  obtain ⟨y257, hy257⟩ : ∃ y_ : List (S114), y_ = (([] : List (S114))) := ⟨_, rfl⟩
  replace H : (if y257.length + l0.length < 4398046511104 then (some (y257 ++ l0)) else (none)) = some r := by first | (rw [hy257]; with_reducible exact H) | (have H2_ := (Option.bind_some _ _).symm.trans H; rw [hy257]; with_reducible exact H2_) | (have H2_ := (Option.bind_some _ _).symm.trans H; with_reducible exact H2_) | with_reducible exact H | (rw [hy257]; exact H) | exact H
  have Ny257 := Aside0.mk hy257
  clear hy257
  by_cases c2 : y257.length + l0.length < 4398046511104
  · rw [if_pos c2] at H
    have LMc2 := Aside0.mk c2
    clear c2
    obtain ⟨y260, hy260⟩ : ∃ y_ : List (S114), y_ = (y257 ++ l0) := ⟨_, rfl⟩
    replace H : (some y260) = some r := by first | (rw [hy260]; with_reducible exact H) | (have H2_ := (Option.bind_some _ _).symm.trans H; rw [hy260]; with_reducible exact H2_) | (have H2_ := (Option.bind_some _ _).symm.trans H; with_reducible exact H2_) | with_reducible exact H | (rw [hy260]; exact H) | exact H
    have Ny260 := Aside0.mk hy260
    clear hy260
    obtain rfl := Option.some.inj H
    go_enter Try.func141, Try.ntmps141
    go_wp2_with (first | ((with_reducible refine gate_dst (N := 3) rfl ?_); refine Kd.R_lit k114 _ 114 ?hg (N := 3) ?hd (xs := ([] : List (S114))) (inner := []) (ok := fun _ => True) (okp := fun _ => True) ?hr ?hp (fun _ hk => hk) trivial (Below.refl _ _) (Nat.le_refl _) (by simp) ?_; (case hd => rfl); (case hg => rfl); (case hr => first | (go_simp; done) | (go_simp; rfl)); (case hp => exact (Reps.none _ _)); intro v258 w3 ho4 hb hg_ hnew_; clear hg_ hnew_; (first | rw [← Ny257.out] at ho4 | (simp only [Int.reduceToNat] at ho4; rw [← Ny257.out] at ho4)); have n0_ := Aside0.mk (Kd.R_lower ho4 (below_size (by repeat (first | (with_reducible first | exact HB.out | apply below_alloc | apply pw_below_drewN | apply below_drew1) | exact HB.out)))); have n1_ := Aside0.mk (below_step (by repeat (first | (with_reducible first | exact HB.out | apply below_alloc | apply pw_below_drewN | apply below_drew1) | exact HB.out)) hb); clear HB; have HO259 := n0_; have HB := n1_; clear n0_ n1_; clear hb ho4) | ((with_reducible refine gate_builtin (b := .append) (xs := #[.tmp 3, .tmp 4]) rfl ?_); at_builtin; refine Kd.R_append_rows k114 (w0 := w) w.heap.size rfl (.tmp 3) (.tmp 4) 58 114 (.agg #[(.int .i64 0), (.int .i64 0), (.int .i64 0), (.int .i64 0)]) 32 rfl Try.underlying58 info114 rfl (by decide) (by omega) v258 y257 l0 _ _ _ (fun _ => True) (fun _ => False) rfl rfl ?aO ?aR (fun _ _ h => h) (fun _ h => h.elim) ?aF ?aB ?aS ?aL ?_; (case aR => repeat (first | exact (Kd.C_below HR0.out HB.out) | (with_reducible refine Kd.C_alloc ?_ _) | (with_reducible refine Kd.C_drewN ?_ _) | (with_reducible refine Kd.C_drew ?_))); (case aB => exact (by repeat (first | (with_reducible first | exact HB.out | apply below_alloc | apply pw_below_drewN | apply below_drew1) | exact HB.out))); (case aF => exact (fun _ _ => trivial)); (case aO => exact (by (with_reducible repeat (first | apply Kd.R_alloc | apply Kd.R_drewN | apply Kd.R_drew)); exact HO259.out)); (case aS => exact (below_size (by repeat (first | (with_reducible first | exact HB.out | apply below_alloc | apply pw_below_drewN | apply below_drew1) | exact HB.out)))); (case aL => have := LMc2.out; omega); intro v261 w5 ho hb hg hat; rw [← Ny260.out] at ho; have n0_ := Aside0.mk (hb); have n1_ := Aside0.mk (ho); clear HB; clear HO259; have HB := n0_; have HO262 := n1_; clear n0_ n1_; clear ho hb hg hat))
    go_ret
    exact ⟨_, by first | rfl | (simp [errW_none, errW_some] <;> rfl) | (simp [*, errW_none, errW_some] <;> rfl), by (with_reducible repeat (first | apply Kd.R_alloc | apply Kd.R_drewN | apply Kd.R_drew)); exact HO262.out, by repeat (first | (with_reducible first | exact HB.out | apply below_alloc | apply pw_below_drewN | apply below_drew1) | exact HB.out)⟩
  · rw [if_neg c2] at H
    exact absurd H (by simp)

/-! ### impl_VoiceOf_1: function 142 -/
def impl_VoiceOf_1.f (a0_0 : Int) (a0_1 : Int) (a0_2 : Int) (a0_3 : Int) (l1_0 : List Int) : Option (Bool) := if 0 < (l1_0.length : Int) then (some (a0_3 != (rd l1_0 0))) else (none)
set_option maxHeartbeats 8000000 in
set_option maxRecDepth 100000 in
theorem impl_VoiceOf_1.calls (a0_0 : Int) (a0_1 : Int) (a0_2 : Int) (a0_3 : Int) (A1_0 : Option Addr) (c1_0 : Nat) (l1_0 : List Int) (r : Bool) (w : World) (hr1_0 : Kd.C (Kd.int .i64) w A1_0 l1_0.length l1_0) (hc1_0 : l1_0.length ≤ c1_0) (h : impl_VoiceOf_1.f a0_0 a0_1 a0_2 a0_3 l1_0 = some r) :
    Calls Try.prog 142 #[.agg #[.int .i64 a0_0, .int .i64 a0_1, .int .i64 a0_2, .int .i64 a0_3], .pointer A1_0] w fun e w' => e = .returned (.bool r) ∧ Below w.heap.size w w' := by
  have hu114 := Try.underlying114
  have HR1_0 := Aside0.mk hr1_0
  have HC1_0 := Aside0.mk hc1_0
  clear hr1_0 hc1_0
  have HB := Aside0.mk (Below.refl w.heap.size w)
  have H : (if 0 < (l1_0.length : Int) then (some (a0_3 != (rd l1_0 0))) else (none)) = some r := h
  clear h
  by_cases c3 : 0 < (l1_0.length : Int)
  · rw [if_pos c3] at H
    have c3b0 : decide (0 < (l1_0.length : Int)) = true := decide_eq_true c3
    have c3b1 : decide (0 < l1_0.length) = true := decide_eq_true (by omega)
    clear c3
    obtain rfl := Option.some.inj H
    go_enter Try.func142, Try.ntmps142
    go_wp2_with (first | ((with_reducible refine gate_dst (N := 2) rfl ?_); refine box_event ?hg (N := 2) ?hd (cs := #[.int .i64 a0_0, .int .i64 a0_1, .int .i64 a0_2, .int .i64 a0_3]) (t := 114) ?hr ?_; (case hd => rfl); (case hg => rfl); (case hr => first | (go_simp; done) | (go_simp; rfl)); intro gb263 hg w4 hbox hb; have n0_ := Aside0.mk (below_step (by repeat (first | (with_reducible first | exact HB.out | apply below_alloc | apply pw_below_drewN | apply below_drew1) | exact HB.out)) hb); have n1_ := Aside0.mk (hbox); have n2_ := Aside0.mk ((by rw [hg]; exact (below_size (by repeat (first | (with_reducible first | exact HB.out | apply below_alloc | apply pw_below_drewN | apply below_drew1) | exact HB.out))) : w.heap.size ≤ gb263)); have n3_ := Aside0.mk ((by rw [hg]; exact (below_size (by repeat (first | (with_reducible first | exact HB.out | apply below_alloc | apply pw_below_drewN | apply below_drew1) | exact HB.out))) : w.heap.size ≤ gb263)); clear HB; have HB := n0_; have BK263 := n1_; have GW263 := n2_; have GE263 := n3_; clear n0_ n1_ n2_ n3_; clear hb hbox hg; have hcz5_0 : w4.cell? ⟨gb263, 0, none⟩ = some (.int .i64 a0_0) := (blk_cell BK263.out 0).trans rfl; have hcz5_1 : w4.cell? ⟨gb263, 1, none⟩ = some (.int .i64 a0_1) := (blk_cell BK263.out 1).trans rfl; have hcz5_2 : w4.cell? ⟨gb263, 2, none⟩ = some (.int .i64 a0_2) := (blk_cell BK263.out 2).trans rfl; have hcz5_3 : w4.cell? ⟨gb263, 3, none⟩ = some (.int .i64 a0_3) := (blk_cell BK263.out 3).trans rfl; have hfz5_0 := blk_frozen BK263.out 0; have hfz5_1 := blk_frozen BK263.out 1; have hfz5_2 := blk_frozen BK263.out 2; have hfz5_3 := blk_frozen BK263.out 3; have p264 : 0 ≤ (0 : Int) := (by omega); have q264 : 0 < (l1_0.length : Int) := of_decide_eq_true (by first | (with_reducible assumption) | assumption); obtain ⟨ad264, e264, hx264_0⟩ := Kd.at_int HR1_0.out 0 p264 q264; cases e264; have qi264 : (0 < l1_0.length) = True := eq_true (by omega); (try rw [show ((0 : Int)).toNat = 0 from rfl] at hx264_0); (try rw [Addr.add_zero'] at hx264_0); replace hx264_0 := (HB.out.cell (World.block_lt_of_cell? w _ hx264_0)).trans hx264_0; replace p264 := eq_true p264; replace q264 := eq_true q264))
    go_ret
    exact ⟨by first | rfl | (simp [errW_none, errW_some] <;> rfl) | (simp [*, errW_none, errW_some] <;> rfl), by repeat (first | (with_reducible first | exact HB.out | apply below_alloc | apply pw_below_drewN | apply below_drew1 | refine below_set ?_ GE263.out) | exact HB.out)⟩
  · rw [if_neg c3] at H
    exact absurd H (by simp)

/-! ### slices_IndexFunc_impl_Event_impl_Event_w_impl_VoiceOf_1: function 139 -/
def slices_IndexFunc_impl_Event_impl_Event_w_impl_VoiceOf_1.l0 : Nat → List (S114) → Int → Int → List Int → Option (Int)
  | 0, _, _, _, _ => none
  | k + 1, x0, x7, x8, x910 => if x8 < x7 then (if 0 ≤ x8 then (if x8 < (x0.length : Int) then ((impl_VoiceOf_1.f ((rd_T114 x0 x8).f0) ((rd_T114 x0 x8).f1) ((rd_T114 x0 x8).f2) ((rd_T114 x0 x8).f3) x910).bind fun t266 => (if t266 = true then (some x8) else (slices_IndexFunc_impl_Event_impl_Event_w_impl_VoiceOf_1.l0 k x0 x7 (wrap64 (x8 + 1)) x910))) else (none)) else (none)) else (some (-1))
def slices_IndexFunc_impl_Event_impl_Event_w_impl_VoiceOf_1.f (k : Nat) (l0 : List (S114)) (l1_0 : List Int) : Option (Int) := slices_IndexFunc_impl_Event_impl_Event_w_impl_VoiceOf_1.l0 k l0 (l0.length : Int) 0 l1_0
theorem slices_IndexFunc_impl_Event_impl_Event_w_impl_VoiceOf_1.mono_l : ∀ k, (∀ y0 y1 y2 y3, LeO (slices_IndexFunc_impl_Event_impl_Event_w_impl_VoiceOf_1.l0 k y0 y1 y2 y3) (slices_IndexFunc_impl_Event_impl_Event_w_impl_VoiceOf_1.l0 (k + 1) y0 y1 y2 y3))
  | 0 => fun _ _ _ _ r h => by simp [slices_IndexFunc_impl_Event_impl_Event_w_impl_VoiceOf_1.l0] at h
  | k + 1 => by
    have ih0 := slices_IndexFunc_impl_Event_impl_Event_w_impl_VoiceOf_1.mono_l k
    · intro y0 y1 y2 y3
      unfold slices_IndexFunc_impl_Event_impl_Event_w_impl_VoiceOf_1.l0
      repeat' first
      | (with_reducible exact ih0 _ _ _ _)
      | (with_reducible exact LeO.refl _)
      | (with_reducible exact LeO.none _)
      | (with_reducible refine LeO.ite ?_ ?_)
      | (with_reducible refine LeO.bind ?_ (fun _ => ?_))
      | exact ih0 _ _ _ _
      | exact LeO.none _
      | refine LeO.ite ?_ ?_
      | refine LeO.bind ?_ (fun _ => ?_)
theorem slices_IndexFunc_impl_Event_impl_Event_w_impl_VoiceOf_1.mono : ∀ a0 a1 k, LeO (slices_IndexFunc_impl_Event_impl_Event_w_impl_VoiceOf_1.f k a0 a1) (slices_IndexFunc_impl_Event_impl_Event_w_impl_VoiceOf_1.f (k + 1) a0 a1) := by
  intro a0 a1 k
  have ih0 := slices_IndexFunc_impl_Event_impl_Event_w_impl_VoiceOf_1.mono_l k
  unfold slices_IndexFunc_impl_Event_impl_Event_w_impl_VoiceOf_1.f
  repeat' first
      | (with_reducible exact ih0 _ _ _ _)
      | (with_reducible exact LeO.refl _)
      | (with_reducible exact LeO.none _)
      | (with_reducible refine LeO.ite ?_ ?_)
      | (with_reducible refine LeO.bind ?_ (fun _ => ?_))
      | exact ih0 _ _ _ _
      | exact LeO.none _
      | refine LeO.ite ?_ ?_
      | refine LeO.bind ?_ (fun _ => ?_)
set_option maxHeartbeats 8000000 in
set_option maxRecDepth 100000 in
theorem slices_IndexFunc_impl_Event_impl_Event_w_impl_VoiceOf_1.calls (k : Nat) (A0 : Option Addr) (c0 : Nat) (l0 : List (S114)) (A1_0 : Option Addr) (c1_0 : Nat) (l1_0 : List Int) (r : Int) (w : World) (hr0 : Kd.C k114 w A0 l0.length l0) (hc0 : l0.length ≤ c0) (hr1_0 : Kd.C (Kd.int .i64) w A1_0 l1_0.length l1_0) (hc1_0 : l1_0.length ≤ c1_0) (h : slices_IndexFunc_impl_Event_impl_Event_w_impl_VoiceOf_1.f k l0 l1_0 = some r) :
    Calls Try.prog 139 #[.slice A0 l0.length c0, .func (.func 142) #[] #[.pointer A1_0]] w fun e w' => e = .returned (.int .i64 r) ∧ Below w.heap.size w w' := by
  have hu114 := Try.underlying114
  have HR0 := Aside0.mk hr0
  have HC0 := Aside0.mk hc0
  clear hr0 hc0
  have HR1_0 := Aside0.mk hr1_0
  have HC1_0 := Aside0.mk hc1_0
  clear hr1_0 hc1_0
  have HB := Aside0.mk (Below.refl w.heap.size w)
  have H : (slices_IndexFunc_impl_Event_impl_Event_w_impl_VoiceOf_1.l0 k l0 (l0.length : Int) 0 l1_0) = some r := h
  clear h
  have H' := Aside0.mk H
  clear H
  go_enter Try.func139, Try.ntmps139
  go_wp2
  go_loopg [8] k (fun kq v8 w' => ∃ (x8_1 : Int), v8 = .int .i64 x8_1 ∧ Aside0 (slices_IndexFunc_impl_Event_impl_Event_w_impl_VoiceOf_1.l0 kq l0 (l0.length : Int) x8_1 l1_0 = some r) ∧ Aside0 (kq ≤ k) ∧ Aside0 (Below w.heap.size w w'))
  case atStart => exact ⟨(0), (by first | rfl | (simp; done) | (simp [*]; done)), H', ⟨Nat.le_refl _⟩, ⟨by repeat (first | (with_reducible first | exact HB.out | apply below_alloc | apply pw_below_drewN | apply below_drew1) | exact HB.out)⟩⟩
  case round =>
    clear H'
    try clear c1
    try clear p2
    obtain ⟨x8_1, rfl, HA, HK1, HB⟩ := hrel
    cases gk with
    | zero => exact absurd HA.out (by simp [slices_IndexFunc_impl_Event_impl_Event_w_impl_VoiceOf_1.l0])
    | succ k1 =>
      have H := HA.out
      clear HA
      simp only [slices_IndexFunc_impl_Event_impl_Event_w_impl_VoiceOf_1.l0] at H
      by_cases c3 : x8_1 < (l0.length : Int)
      · rw [if_pos c3] at H
        have c3b0 : decide (x8_1 < (l0.length : Int)) = true := decide_eq_true c3
        clear c3
        by_cases c4 : 0 ≤ x8_1
        · rw [if_pos c4] at H
          have c4b0 : decide (0 ≤ x8_1) = true := decide_eq_true c4
          clear c4
          by_cases c5 : x8_1 < (l0.length : Int)
          · rw [if_pos c5] at H
            have c5b0 : decide (x8_1 < (l0.length : Int)) = true := decide_eq_true c5
            clear c5
            replace H := Option.bind_eq_some_iff.mp H
            obtain ⟨t266, A60, H⟩ := H
            replace H : (if t266 = true then (some x8_1) else (slices_IndexFunc_impl_Event_impl_Event_w_impl_VoiceOf_1.l0 k1 l0 (l0.length : Int) (wrap64 (x8_1 + 1)) l1_0)) = some r := H
            have A6 := Aside0.mk A60
            clear A60
            by_cases c7 : t266 = true
            · subst c7
              have H1 : (some x8_1) = some r := by rw [if_pos rfl] at H; exact H
              clear H
              have H := H1
              clear H1
              obtain rfl := Option.some.inj H
              have p265 : 0 ≤ (x8_1 : Int) := of_decide_eq_true (by first | (with_reducible assumption) | assumption)
              have q265 : x8_1 < (l0.length : Int) := of_decide_eq_true (by first | (with_reducible assumption) | assumption)
              obtain ⟨ad265, e265, hx265_0, hx265_1, hx265_2, hx265_3⟩ := at_T114 HR0.out x8_1 p265 q265
              cases e265
              replace hx265_0 := (HB.out.cell (World.block_lt_of_cell? w _ hx265_0)).trans hx265_0
              replace hx265_1 := (HB.out.cell (World.block_lt_of_cell? w _ hx265_1)).trans hx265_1
              replace hx265_2 := (HB.out.cell (World.block_lt_of_cell? w _ hx265_2)).trans hx265_2
              replace hx265_3 := (HB.out.cell (World.block_lt_of_cell? w _ hx265_3)).trans hx265_3
              replace p265 := eq_true p265
              replace q265 := eq_true q265
              go_wp2_with (first | ((with_reducible refine Fnw.gate_slot (t := 11) rfl ?_); refine Fnw.goesV_ (some 16) rfl rfl Try.func142 (by kernel_rfl) rfl #[.agg #[.int .i64 ((rd_T114 l0 x8_1).f0), .int .i64 ((rd_T114 l0 x8_1).f1), .int .i64 ((rd_T114 l0 x8_1).f2), .int .i64 ((rd_T114 l0 x8_1).f3)], .pointer A1_0] rfl rfl (by (try simp only [List.append_toArray, List.cons_append, List.nil_append, List.map_toArray, List.map_cons, List.map_nil]); first | done | rfl | (simp only [List.length_drop, List.length_take]; rfl)) ?_; (with_reducible refine (impl_VoiceOf_1.calls ((rd_T114 l0 x8_1).f0) ((rd_T114 l0 x8_1).f1) ((rd_T114 l0 x8_1).f2) ((rd_T114 l0 x8_1).f3) _ c1_0 l1_0 true _ ?side1 ?side2 A6.out).mono ?_); (case side1 => repeat (first | exact (Kd.C_below HR1_0.out HB.out) | (with_reducible refine Kd.C_alloc ?_ _) | (with_reducible refine Kd.C_drewN ?_ _) | (with_reducible refine Kd.C_drew ?_))); (case side2 => exact HC1_0.out); rintro e w8 ⟨rfl, hb⟩; refine ⟨_, rfl, ?_⟩; have n0_ := Aside0.mk (below_step (by repeat (first | (with_reducible first | exact HB.out | apply below_alloc | apply pw_below_drewN | apply below_drew1) | exact HB.out)) hb); clear HB; have HB := n0_; clear n0_; (try clear hb); (try clear hb2); (try clear hk); (try clear hi)))
              go_ret
              exact ⟨by first | rfl | (simp [errW_none, errW_some] <;> rfl) | (simp [*, errW_none, errW_some] <;> rfl), by repeat (first | (with_reducible first | exact HB.out | apply below_alloc | apply pw_below_drewN | apply below_drew1) | exact HB.out)⟩
            · replace c7 := Bool.eq_false_iff.mpr c7
              subst c7
              have H1 : (slices_IndexFunc_impl_Event_impl_Event_w_impl_VoiceOf_1.l0 k1 l0 (l0.length : Int) (wrap64 (x8_1 + 1)) l1_0) = some r := by rw [if_neg (show ¬ (false = true) by decide)] at H; exact H
              clear H
              have H := H1
              clear H1
              have H' := Aside0.mk H
              clear H
              have p265 : 0 ≤ (x8_1 : Int) := of_decide_eq_true (by first | (with_reducible assumption) | assumption)
              have q265 : x8_1 < (l0.length : Int) := of_decide_eq_true (by first | (with_reducible assumption) | assumption)
              obtain ⟨ad265, e265, hx265_0, hx265_1, hx265_2, hx265_3⟩ := at_T114 HR0.out x8_1 p265 q265
              cases e265
              replace hx265_0 := (HB.out.cell (World.block_lt_of_cell? w _ hx265_0)).trans hx265_0
              replace hx265_1 := (HB.out.cell (World.block_lt_of_cell? w _ hx265_1)).trans hx265_1
              replace hx265_2 := (HB.out.cell (World.block_lt_of_cell? w _ hx265_2)).trans hx265_2
              replace hx265_3 := (HB.out.cell (World.block_lt_of_cell? w _ hx265_3)).trans hx265_3
              replace p265 := eq_true p265
              replace q265 := eq_true q265
              go_wp2_with (first | ((with_reducible refine Fnw.gate_slot (t := 11) rfl ?_); refine Fnw.goesV_ (some 16) rfl rfl Try.func142 (by kernel_rfl) rfl #[.agg #[.int .i64 ((rd_T114 l0 x8_1).f0), .int .i64 ((rd_T114 l0 x8_1).f1), .int .i64 ((rd_T114 l0 x8_1).f2), .int .i64 ((rd_T114 l0 x8_1).f3)], .pointer A1_0] rfl rfl (by (try simp only [List.append_toArray, List.cons_append, List.nil_append, List.map_toArray, List.map_cons, List.map_nil]); first | done | rfl | (simp only [List.length_drop, List.length_take]; rfl)) ?_; (with_reducible refine (impl_VoiceOf_1.calls ((rd_T114 l0 x8_1).f0) ((rd_T114 l0 x8_1).f1) ((rd_T114 l0 x8_1).f2) ((rd_T114 l0 x8_1).f3) _ c1_0 l1_0 false _ ?side1 ?side2 A6.out).mono ?_); (case side1 => repeat (first | exact (Kd.C_below HR1_0.out HB.out) | (with_reducible refine Kd.C_alloc ?_ _) | (with_reducible refine Kd.C_drewN ?_ _) | (with_reducible refine Kd.C_drew ?_))); (case side2 => exact HC1_0.out); rintro e w9 ⟨rfl, hb⟩; refine ⟨_, rfl, ?_⟩; have n0_ := Aside0.mk (below_step (by repeat (first | (with_reducible first | exact HB.out | apply below_alloc | apply pw_below_drewN | apply below_drew1) | exact HB.out)) hb); clear HB; have HB := n0_; clear n0_; (try clear hb); (try clear hb2); (try clear hk); (try clear hi)))
              go_roundg k1
              case measure => have := HK1.out; omega
              case rel => exact ⟨(wrap64 (x8_1 + 1)), (by first | rfl | (simp; done) | (simp [*]; done)), H', ⟨by have := HK1.out; omega⟩, ⟨by repeat (first | (with_reducible first | exact HB.out | apply below_alloc | apply pw_below_drewN | apply below_drew1) | exact HB.out)⟩⟩
          · rw [if_neg c5] at H
            exact absurd H (by simp)
        · rw [if_neg c4] at H
          exact absurd H (by simp)
      · rw [if_neg c3] at H
        have c3b0 : decide (x8_1 < (l0.length : Int)) = false := decide_eq_false c3
        clear c3
        obtain rfl := Option.some.inj H
        go_wp2
        go_ret
        exact ⟨by first | rfl | (simp [errW_none, errW_some] <;> rfl) | (simp [*, errW_none, errW_some] <;> rfl), by repeat (first | (with_reducible first | exact HB.out | apply below_alloc | apply pw_below_drewN | apply below_drew1) | exact HB.out)⟩

end Go.Proofs.Ytaidfaagmecdlaa.PFnExactBusiestPlayer
