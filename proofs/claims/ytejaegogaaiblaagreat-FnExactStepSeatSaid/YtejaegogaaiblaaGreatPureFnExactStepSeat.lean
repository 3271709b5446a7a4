/- The plain half of FnExactStepSeat. No condition. -/
import Derived.Test.YtejaegogaaiblaaGreatQFnExactStepSeat
import Derived.Test.YtejaegogaaiblaaGreatHFnExactStepSeat
import Derived.Test.YtejaegogaaiblaaGreatPur
import Derived.Test.YtejaegogaaiblaaGreatPureSeat
import Derived.Test.YtejaegogaaiblaaGreatSeatF
set_option linter.unusedVariables false
set_option linter.unusedSimpArgs false
open Go Go.Flat
namespace Go.QFnExactStepSeat
theorem l1In_ev (x lo hi : Int) : Ev (fun k => spec_l1In k x lo hi) (decide (lo ≤ x ∧ x ≤ hi)) := by
  by_cases c : lo ≤ x
  · exact Ev.eq (fun k => spec_l1In_eq k x lo hi) (Ev.pos c (Ev.ret.val (by simp [c])))
  · exact Ev.eq (fun k => spec_l1In_eq k x lo hi) (Ev.neg c (Ev.ret.val (by simp [c])))
theorem inRange_ev (x lo hi : Int) : Ev (fun k => impl_InRange k x lo hi) (decide (lo ≤ x ∧ x ≤ hi)) := by
  by_cases c : lo ≤ x
  · exact Ev.eq (fun k => impl_InRange_eq k x lo hi) (Ev.pos c (Ev.ret.val (by simp [c])))
  · exact Ev.eq (fun k => impl_InRange_eq k x lo hi) (Ev.neg c (Ev.ret.val (by simp [c])))
theorem nan_ev (x : Int) : Ev (fun k => cmp_isNaN_int k x) false := Ev.eq (fun k => cmp_isNaN_int_eq k x) (Ev.ret.val (by simp))
def cmpI (x y : Int) : Int := if x < y then -1 else if y < x then 1 else 0
theorem cmp_ev (x y : Int) : Ev (fun k => cmp_Compare_int k x y) (cmpI x y) := by
  unfold cmpI
  by_cases c : x < y
  · exact Ev.eq (fun k => cmp_Compare_int_eq k x y) (Ev.bind (nan_ev x) (Ev.bind (nan_ev y) (Ev.neg (by simp) (Ev.neg (by simp) (Ev.pos c (Ev.ret.val (by rw [if_pos c])))))))
  · by_cases c2 : y < x
    · exact Ev.eq (fun k => cmp_Compare_int_eq k x y) (Ev.bind (nan_ev x) (Ev.bind (nan_ev y) (Ev.neg (by simp) (Ev.neg (by simp) (Ev.neg c (Ev.pos c2 (Ev.ret.val (by rw [if_neg c, if_pos c2]))))))))
    · exact Ev.eq (fun k => cmp_Compare_int_eq k x y) (Ev.bind (nan_ev x) (Ev.bind (nan_ev y) (Ev.neg (by simp) (Ev.neg (by simp) (Ev.neg c (Ev.neg c2 (Ev.ret.val (by rw [if_neg c, if_neg c2]))))))))
theorem dec_of {f : Nat → Option Bool} {p : Prop} [d : Decidable p] (h : ∃ r, Ev f r ∧ (r = true ↔ p)) : Ev f (decide p) := by
  obtain ⟨r, e, hr⟩ := h
  exact e.val (by rw [Bool.eq_iff_iff, hr]; simp)
theorem loop_allE {F : Int → Nat → Nat → Option Bool} {n : Nat} (Q : Nat → Prop) (c : Bool) (hend : E2 (F (n : Int)) c)
    (hgo : ∀ i, i < n → Q i → ∀ v, E2 (F ((i + 1 : Nat) : Int)) v → E2 (F (i : Int)) v) (hstop : ∀ i, i < n → ¬ Q i → E2 (F (i : Int)) false) :
    ∃ r, E2 (F 0) r ∧ (r = true ↔ (∀ i, i < n → Q i) ∧ c = true) := by
  have key : ∀ d i, i + d = n → ∃ r, E2 (F (i : Int)) r ∧ (r = true ↔ (∀ j, i ≤ j → j < n → Q j) ∧ c = true) := by
    intro d
    induction d with
    | zero =>
      intro i hi
      have hi : i = n := by omega
      subst hi
      exact ⟨c, hend, ⟨fun h => ⟨fun j _ _ => by omega, h⟩, fun h => h.2⟩⟩
    | succ d ih =>
      intro i hi
      obtain ⟨r, er, hr⟩ := ih (i + 1) (by omega)
      by_cases hq : Q i
      · refine ⟨r, hgo i (by omega) hq r er, hr.trans ⟨fun h => ⟨fun j h1 h2 => ?_, h.2⟩, fun h => ⟨fun j h1 h2 => h.1 j (by omega) h2, h.2⟩⟩⟩
        by_cases hj : j = i
        · subst hj; exact hq
        · exact h.1 j (by omega) h2
      · exact ⟨false, hstop i (by omega) hq, by simp only [Bool.false_eq_true, false_iff]; exact fun h => hq (h.1 i (Nat.le_refl _) (by omega))⟩
  obtain ⟨r, er, hr⟩ := key n 0 (by omega)
  exact ⟨r, er, hr.trans ⟨fun h => ⟨fun i hi => h.1 i (Nat.zero_le _) hi, h.2⟩, fun h => ⟨fun i _ hi => h.1 i hi, h.2⟩⟩⟩
theorem wrapP {i : Nat} (h : 0 < i) (h2 : i < 9223372036854775807) : IntKind.wrap .i64 ((i : Int) - 1) = ((i - 1 : Nat) : Int) := by
  rw [wrapI (by omega) (by omega)]; omega
def okE (e : DT49) : Prop := (0 ≤ (e.1 : Int) ∧ (e.1 : Int) ≤ 2000) ∧ (1 ≤ (e.2.1 : Int) ∧ (e.2.1 : Int) ≤ 96) ∧ (21 ≤ (e.2.2.1 : Int) ∧ (e.2.2.1 : Int) ≤ 108) ∧ 1 ≤ (e.2.2.2.1 : Int) ∧ (e.2.2.2.1 : Int) ≤ 4
instance (e : DT49) : Decidable (okE e) := by unfold okE; infer_instance
theorem l8Ok_ev (e : DT49) : Ev (fun k => spec_l8Ok k e) (decide (okE e)) := by
  refine Ev.eq (fun k => spec_l8Ok_eq k e) (Ev.bind (l1In_ev _ _ _) ?_)
  unfold okE
  by_cases c1 : 0 ≤ (e.1 : Int) ∧ (e.1 : Int) ≤ 2000
  · refine Ev.pos (by simp [c1]) (Ev.bind (l1In_ev _ _ _) ?_)
    by_cases c2 : 1 ≤ (e.2.1 : Int) ∧ (e.2.1 : Int) ≤ 96
    · refine Ev.pos (by simp [c2]) (Ev.bind (l1In_ev _ _ _) ?_)
      by_cases c3 : 21 ≤ (e.2.2.1 : Int) ∧ (e.2.2.1 : Int) ≤ 108
      · exact Ev.pos (by simp [c3]) (Ev.bind (l1In_ev _ _ _) (Ev.ret.val (by simp only [c1, c2, c3, true_and, and_self, decide_eq_true_eq])))
      · exact Ev.neg (by simpa using c3) (Ev.ret.val (by simp only [c3, false_and, and_false, decide_false]))
    · exact Ev.neg (by simpa using c2) (Ev.ret.val (by simp only [c2, false_and, and_false, decide_false]))
  · exact Ev.neg (by simpa using c1) (Ev.ret.val (by simp only [c1, false_and, decide_false]))
def bef (a b : DT49) : Prop := (a.1 : Int) < b.1 ∨ (a.1 : Int) = b.1 ∧ ((a.2.2.2.1 : Int) < b.2.2.2.1 ∨ (a.2.2.2.1 : Int) = b.2.2.2.1 ∧ (a.2.2.1 : Int) < b.2.2.1)
instance (a b : DT49) : Decidable (bef a b) := by unfold bef; infer_instance
theorem before_ev (a b : DT49) : Ev (fun k => spec_l8Before k a b) (decide (bef a b)) := by
  refine Ev.eq (fun k => spec_l8Before_eq k a b) ?_
  unfold bef
  by_cases c1 : (a.1 : Int) = b.1
  · refine Ev.neg (by omega) ?_
    by_cases c2 : (a.2.2.2.1 : Int) = b.2.2.2.1
    · exact Ev.neg (by omega) (Ev.ret.val (by congr 1; exact propext ⟨fun h => .inr ⟨c1, .inr ⟨c2, h⟩⟩, fun h => by omega⟩))
    · exact Ev.pos (by omega) (Ev.ret.val (by congr 1; exact propext ⟨fun h => .inr ⟨c1, .inl h⟩, fun h => by omega⟩))
  · exact Ev.pos (by omega) (Ev.ret.val (by congr 1; exact propext ⟨fun h => .inl h, fun h => by omega⟩))
def orI (x y : Int) : Int := if x ≠ 0 then x else y
theorem or_ev (x y z : Int) : Ev (fun k => cmp_Or_int k [x, y, z]) (orI x (orI y z)) := by
  refine Ev.eq (fun k => cmp_Or_int_eq k _) (Ev.loop (f := fun k m => cmp_Or_int.l0 k m 0 [x, y, z] ((List.length [x, y, z] : Nat) : Int) 0) ?_)
  have w0 : IntKind.wrap .i64 ((0 : Int) + 1) = 1 := wrapI (by omega) (by omega)
  have w1 : IntKind.wrap .i64 ((1 : Int) + 1) = 2 := wrapI (by omega) (by omega)
  have w2 : IntKind.wrap .i64 ((2 : Int) + 1) = 3 := wrapI (by omega) (by omega)
  have r0 : rd (.int .i64) [x, y, z] 0 = x := rfl
  have r1 : rd (.int .i64) [x, y, z] 1 = y := rfl
  have r2 : rd (.int .i64) [x, y, z] 2 = z := rfl
  have hl : ((List.length [x, y, z] : Nat) : Int) = 3 := rfl
  unfold orI
  refine E2.eq (fun k m => cmp_Or_int.l0_eq k m 0 [x, y, z] _ 0) (E2.pos (by rw [hl]; omega) (E2.pos (by omega) (E2.pos (by rw [hl]; omega) ?_)))
  simp only [r0, w0]
  by_cases c0 : x = 0
  · refine E2.neg (fun h => h c0) ?_
    rw [if_neg (show ¬ x ≠ 0 by omega)]
    refine E2.eq (fun k m => cmp_Or_int.l0_eq k m 0 [x, y, z] _ 1) (E2.pos (by rw [hl]; omega) (E2.pos (by omega) (E2.pos (by rw [hl]; omega) ?_)))
    simp only [r1, w1]
    by_cases c1 : y = 0
    · refine E2.neg (fun h => h c1) ?_
      rw [if_neg (show ¬ y ≠ 0 by omega)]
      refine E2.eq (fun k m => cmp_Or_int.l0_eq k m 0 [x, y, z] _ 2) (E2.pos (by rw [hl]; omega) (E2.pos (by omega) (E2.pos (by rw [hl]; omega) ?_)))
      simp only [r2, w2]
      by_cases c2 : z = 0
      · exact E2.neg (fun h => h c2) (E2.eq (fun k m => cmp_Or_int.l0_eq k m 0 [x, y, z] _ 3) (E2.neg (by rw [hl]; omega) (E2.ret.val c2.symm)))
      · exact E2.pos c2 E2.ret
    · rw [if_pos c1]; exact E2.pos c1 E2.ret
  · rw [if_pos c0]; exact E2.pos c0 E2.ret
def ordI (a b : DT49) : Int := orI (cmpI a.1 b.1) (orI (cmpI a.2.2.2.1 b.2.2.2.1) (cmpI a.2.2.1 b.2.2.1))
theorem order_ev (a b : DT49) : Ev (fun k => impl_eventOrder k a b) (ordI a b) :=
  Ev.eq (fun k => impl_eventOrder_eq k a b) (Ev.bind (cmp_ev _ _) (Ev.bind (cmp_ev _ _) (Ev.bind (cmp_ev _ _) (Ev.bind (or_ev _ _ _) Ev.ret))))
theorem ordI_lt (a b : DT49) : ordI a b < 0 ↔ bef a b := by
  unfold ordI orI cmpI bef
  repeat' split
  all_goals omega
def QS (l : List DT49) (i : Nat) : Prop := okE (rd T49 l (i : Int)) ∧ (0 < i → bef (rd T49 l ((i - 1 : Nat) : Int)) (rd T49 l (i : Int)))
instance (l : List DT49) (i : Nat) : Decidable (QS l i) := by unfold QS; infer_instance
def scoreP (l : List DT49) : Prop := (∀ i, i < l.length → QS l i) ∧ decide (((l.length : Nat) : Int) ≤ 40) = true
instance (l : List DT49) : Decidable (scoreP l) := by unfold scoreP; infer_instance
theorem specScoreB_ev (l : List DT49) (hl : l.length ≤ 33554432) : Ev (fun k => spec_IsScore k l) (decide (scoreP l)) := by
  refine dec_of ?_
  obtain ⟨r, er, hr⟩ := loop_allE (F := fun i k m => spec_IsScore.l0 k m l i) (n := l.length) (QS l) (decide (((l.length : Nat) : Int) ≤ 40)) (E2.eq (fun k m => spec_IsScore.l0_eq k m l _) (E2.neg (by omega) E2.ret)) (fun i hi hq v e => by
    refine E2.eq (fun k m => spec_IsScore.l0_eq k m l _) (E2.pos (by omega) (E2.pos (by omega) (E2.pos (by omega) (E2.bind (l8Ok_ev _) (E2.neg (by simpa using hq.1) ?_)))))
    by_cases c : 0 < i
    · refine E2.pos (by omega) ?_
      simp only [wrapP c (show i < 9223372036854775807 by omega), wrapS (show i < 9223372036854775807 by omega)]
      exact E2.pos (by omega) (E2.pos (by omega) (E2.pos (by omega) (E2.pos (by omega) (E2.bind (before_ev _ _) (E2.neg (by simpa using hq.2 c) e)))))
    · refine E2.neg (by omega) ?_
      simp only [wrapS (show i < 9223372036854775807 by omega)]
      exact e) (fun i hi hq => by
    refine E2.eq (fun k m => spec_IsScore.l0_eq k m l _) (E2.pos (by omega) (E2.pos (by omega) (E2.pos (by omega) (E2.bind (l8Ok_ev _) ?_))))
    by_cases c0 : okE (rd T49 l (i : Int))
    · refine E2.neg (by simpa using c0) ?_
      have c : 0 < i := by
        rcases Nat.eq_zero_or_pos i with h | h
        · exact absurd ⟨c0, fun h' => by omega⟩ hq
        · exact h
      have c1 : ¬ bef (rd T49 l ((i - 1 : Nat) : Int)) (rd T49 l (i : Int)) := fun h => hq ⟨c0, fun _ => h⟩
      refine E2.pos (by omega) ?_
      simp only [wrapP c (show i < 9223372036854775807 by omega)]
      exact E2.pos (by omega) (E2.pos (by omega) (E2.pos (by omega) (E2.pos (by omega) (E2.bind (before_ev _ _) (E2.pos (by simpa using c1) E2.ret)))))
    · exact E2.pos (by simpa using c0) E2.ret)
  exact ⟨r, Ev.eq (fun k => spec_IsScore_eq k l) (Ev.loop (f := fun k m => spec_IsScore.l0 k m l 0) er), hr⟩
theorem specScore_ev (l : List DT49) (hl : l.length ≤ 1048576) : Ev (fun k => spec_IsScore k l) (decide (scoreP l)) := specScoreB_ev l (by omega)
theorem implScoreB_ev (l : List DT49) (hl : l.length ≤ 33554432) : Ev (fun k => impl_IsScore k l) (decide (scoreP l)) := by
  refine dec_of ?_
  obtain ⟨r, er, hr⟩ := loop_allE (F := fun i k m => impl_IsScore.l0 k m l l ((List.length l : Nat) : Int) i) (n := l.length) (QS l) (decide (((l.length : Nat) : Int) ≤ 40)) (E2.eq (fun k m => impl_IsScore.l0_eq k m l l _ _) (E2.neg (by omega) E2.ret)) (fun i hi hq v e => by
    obtain ⟨⟨h1, h2, h3, h4⟩, h5⟩ := hq
    refine E2.eq (fun k m => impl_IsScore.l0_eq k m l l _ _) (E2.pos (by omega) (E2.pos (by omega) (E2.pos (by omega) (E2.bind (inRange_ev _ _ _) (E2.neg (by simpa using h1) (E2.bind (inRange_ev _ _ _) (E2.neg (by simpa using h2) (E2.bind (inRange_ev _ _ _) (E2.neg (by simpa using h3) (E2.bind (inRange_ev _ _ _) (E2.neg (by simpa using h4) ?_)))))))))))
    by_cases c : 0 < i
    · refine E2.pos (by omega) ?_
      simp only [wrapP c (show i < 9223372036854775807 by omega), wrapS (show i < 9223372036854775807 by omega)]
      have := (ordI_lt _ _).2 (h5 c)
      exact E2.pos (by omega) (E2.pos (by omega) (E2.bind (order_ev _ _) (E2.neg (by omega) e)))
    · refine E2.neg (by omega) ?_
      simp only [wrapS (show i < 9223372036854775807 by omega)]
      exact e) (fun i hi hq => by
    refine E2.eq (fun k m => impl_IsScore.l0_eq k m l l _ _) (E2.pos (by omega) (E2.pos (by omega) (E2.pos (by omega) (E2.bind (inRange_ev _ _ _) ?_))))
    by_cases h1 : 0 ≤ ((rd T49 l (i : Int)).1 : Int) ∧ ((rd T49 l (i : Int)).1 : Int) ≤ 2000
    · refine E2.neg (by simpa using h1) (E2.bind (inRange_ev _ _ _) ?_)
      by_cases h2 : 1 ≤ ((rd T49 l (i : Int)).2.1 : Int) ∧ ((rd T49 l (i : Int)).2.1 : Int) ≤ 96
      · refine E2.neg (by simpa using h2) (E2.bind (inRange_ev _ _ _) ?_)
        by_cases h3 : 21 ≤ ((rd T49 l (i : Int)).2.2.1 : Int) ∧ ((rd T49 l (i : Int)).2.2.1 : Int) ≤ 108
        · refine E2.neg (by simpa using h3) (E2.bind (inRange_ev _ _ _) ?_)
          by_cases h4 : 1 ≤ ((rd T49 l (i : Int)).2.2.2.1 : Int) ∧ ((rd T49 l (i : Int)).2.2.2.1 : Int) ≤ 4
          · refine E2.neg (by simpa using h4) ?_
            have c : 0 < i := by
              rcases Nat.eq_zero_or_pos i with h | h
              · exact absurd ⟨⟨h1, h2, h3, h4⟩, fun h' => by omega⟩ hq
              · exact h
            have c1 : ¬ bef (rd T49 l ((i - 1 : Nat) : Int)) (rd T49 l (i : Int)) := fun h => hq ⟨⟨h1, h2, h3, h4⟩, fun _ => h⟩
            refine E2.pos (by omega) ?_
            simp only [wrapP c (show i < 9223372036854775807 by omega)]
            have := mt (ordI_lt _ _).1 c1
            exact E2.pos (by omega) (E2.pos (by omega) (E2.bind (order_ev _ _) (E2.pos (by omega) E2.ret)))
          · exact E2.pos (by simpa using h4) E2.ret
        · exact E2.pos (by simpa using h3) E2.ret
      · exact E2.pos (by simpa using h2) E2.ret
    · exact E2.pos (by simpa using h1) E2.ret)
  exact ⟨r, Ev.eq (fun k => impl_IsScore_eq k l) (Ev.loop (f := fun k m => impl_IsScore.l0 k m l l ((List.length l : Nat) : Int) 0) er), hr⟩
theorem implScore_ev (l : List DT49) (hl : l.length ≤ 1048576) : Ev (fun k => impl_IsScore k l) (decide (scoreP l)) := implScoreB_ev l (by omega)
def okT (t : DT23) : Prop := (20 ≤ (t.2.1 : Int) ∧ (t.2.1 : Int) ≤ 300) ∧ (0 ≤ (t.1 : Int) ∧ (t.1 : Int) ≤ 2000)
instance (e : DT23) : Decidable (okT e) := by unfold okT; infer_instance
def QT (l : List DT23) (i : Nat) : Prop := okT (rd T23 l (i : Int)) ∧ (i = 0 → Eq (α := Int) (rd T23 l (i : Int)).1 0) ∧ (0 < i → LT.lt (α := Int) (rd T23 l ((i - 1 : Nat) : Int)).1 (rd T23 l (i : Int)).1)
instance (l : List DT23) (i : Nat) : Decidable (QT l i) := by unfold QT; infer_instance
def tempoP (l : List DT23) : Prop := (∀ i, i < l.length → QT l i) ∧ decide (1 ≤ ((l.length : Nat) : Int) ∧ ((l.length : Nat) : Int) ≤ 8) = true
instance (l : List DT23) : Decidable (tempoP l) := by unfold tempoP; infer_instance
theorem specTempoB_ev (l : List DT23) (hl : l.length ≤ 2097152) : Ev (fun k => spec_IsTempo k l) (decide (tempoP l)) := by
  refine dec_of ?_
  obtain ⟨r, er, hr⟩ := loop_allE (F := fun i k m => spec_IsTempo.l0 k m l i) (n := l.length) (QT l) (decide (1 ≤ ((l.length : Nat) : Int) ∧ ((l.length : Nat) : Int) ≤ 8)) (E2.eq (fun k m => spec_IsTempo.l0_eq k m l _) (E2.neg (by omega) (E2.bind (l1In_ev _ _ _) (E2.ret.val (by simp))))) (fun i hi hq v e => by
    obtain ⟨⟨h1, h2⟩, h3, h4⟩ := hq
    refine E2.eq (fun k m => spec_IsTempo.l0_eq k m l _) (E2.pos (by omega) (E2.pos (by omega) (E2.pos (by omega) (E2.bind (l1In_ev _ _ _) (E2.neg (by simpa using h1) (E2.pos (by omega) (E2.pos (by omega) (E2.bind (l1In_ev _ _ _) (E2.neg (by simpa using h2) ?_)))))))))
    simp only [wrapS (show i < 9223372036854775807 by omega)]
    by_cases c : 0 < i
    · refine E2.neg (by omega) (E2.pos (by omega) ?_)
      simp only [wrapP c (show i < 9223372036854775807 by omega)]
      have := h4 c
      exact E2.pos (by omega) (E2.pos (by omega) (E2.pos (by omega) (E2.pos (by omega) (E2.neg (by omega) e))))
    · refine E2.pos (by omega) (E2.pos (by omega) (E2.pos (by omega) (E2.neg (fun h => h (h3 (by omega))) (E2.neg (by omega) e))))) (fun i hi hq => by
    refine E2.eq (fun k m => spec_IsTempo.l0_eq k m l _) (E2.pos (by omega) (E2.pos (by omega) (E2.pos (by omega) (E2.bind (l1In_ev _ _ _) ?_))))
    by_cases h1 : LE.le (α := Int) 20 (rd T23 l (i : Int)).2.1 ∧ LE.le (α := Int) (rd T23 l (i : Int)).2.1 300
    · refine E2.neg (by simpa using h1) (E2.pos (by omega) (E2.pos (by omega) (E2.bind (l1In_ev _ _ _) ?_)))
      by_cases h2 : LE.le (α := Int) 0 (rd T23 l (i : Int)).1 ∧ LE.le (α := Int) (rd T23 l (i : Int)).1 2000
      · refine E2.neg (by simpa using h2) ?_
        by_cases c : 0 < i
        · refine E2.neg (by omega) (E2.pos (by omega) ?_)
          simp only [wrapP c (show i < 9223372036854775807 by omega)]
          have h4 : ¬ LT.lt (α := Int) (rd T23 l ((i - 1 : Nat) : Int)).1 (rd T23 l (i : Int)).1 := fun h => hq ⟨⟨h1, h2⟩, fun h' => by omega, fun _ => h⟩
          exact E2.pos (by omega) (E2.pos (by omega) (E2.pos (by omega) (E2.pos (by omega) (E2.pos (by omega) E2.ret))))
        · have h3 : ¬ Eq (α := Int) (rd T23 l (i : Int)).1 0 := fun h => hq ⟨⟨h1, h2⟩, fun _ => h, fun h' => absurd h' c⟩
          exact E2.pos (by omega) (E2.pos (by omega) (E2.pos (by omega) (E2.pos h3 E2.ret)))
      · exact E2.pos (by simpa using h2) E2.ret
    · exact E2.pos (by simpa using h1) E2.ret)
  exact ⟨r, Ev.eq (fun k => spec_IsTempo_eq k l) (Ev.loop (f := fun k m => spec_IsTempo.l0 k m l 0) er), hr⟩
/-- The program's own test of an element: it leaves out what follows from the one before. -/
def QT' (l : List DT23) (i : Nat) : Prop := (i = 0 → Eq (α := Int) (rd T23 l (i : Int)).1 0) ∧ (0 < i → LT.lt (α := Int) (rd T23 l ((i - 1 : Nat) : Int)).1 (rd T23 l (i : Int)).1) ∧ LE.le (α := Int) (rd T23 l (i : Int)).1 2000 ∧ (LE.le (α := Int) 20 (rd T23 l (i : Int)).2.1 ∧ LE.le (α := Int) (rd T23 l (i : Int)).2.1 300)
theorem QT_iff (l : List DT23) : (∀ i, i < l.length → QT' l i) ↔ (∀ i, i < l.length → QT l i) := by
  constructor
  · intro h
    have hp : ∀ i, i < l.length → LE.le (α := Int) 0 (rd T23 l (i : Int)).1 := by
      intro i
      induction i with
      | zero => intro hi; have := (h 0 hi).1 rfl; omega
      | succ i ih =>
        intro hi
        have h1 := ih (by omega)
        have h2 := (h (i + 1) hi).2.1 (by omega)
        simp only [Nat.add_sub_cancel] at h2
        omega
    intro i hi
    obtain ⟨h1, h2, h3, h4⟩ := h i hi
    exact ⟨⟨h4, hp i hi, h3⟩, h1, h2⟩
  · intro h i hi
    obtain ⟨⟨h1, h2, h3⟩, h4, h5⟩ := h i hi
    exact ⟨h4, h5, h3, h1⟩
theorem implTempoB_ev (l : List DT23) (hl : l.length ≤ 2097152) : Ev (fun k => impl_IsTempo k l) (decide (tempoP l)) := by
  refine dec_of ?_
  obtain ⟨r, er, hr⟩ := loop_allE (F := fun i k m => impl_IsTempo.l0 k m l l ((List.length l : Nat) : Int) i) (n := l.length) (QT' l) (decide (1 ≤ ((l.length : Nat) : Int) ∧ ((l.length : Nat) : Int) ≤ 8)) (E2.eq (fun k m => impl_IsTempo.l0_eq k m l l _ _) (E2.neg (by omega) (E2.bind (inRange_ev _ _ _) (E2.ret.val (by simp))))) (fun i hi hq v e => by
    obtain ⟨h3, h4, h5, h6⟩ := hq
    refine E2.eq (fun k m => impl_IsTempo.l0_eq k m l l _ _) (E2.pos (by omega) (E2.pos (by omega) (E2.pos (by omega) ?_)))
    simp only [wrapS (show i < 9223372036854775807 by omega)]
    by_cases c : 0 < i
    · refine E2.neg (by omega) (E2.pos (by omega) ?_)
      simp only [wrapP c (show i < 9223372036854775807 by omega)]
      have := h4 c
      exact E2.pos (by omega) (E2.pos (by omega) (E2.neg (by omega) (E2.neg (by omega) (E2.bind (inRange_ev _ _ _) (E2.neg (by simpa using h6) e)))))
    · exact E2.pos (by omega) (E2.neg (fun h => h (h3 (by omega))) (E2.neg (by omega) (E2.neg (by omega) (E2.bind (inRange_ev _ _ _) (E2.neg (by simpa using h6) e)))))) (fun i hi hq => by
    refine E2.eq (fun k m => impl_IsTempo.l0_eq k m l l _ _) (E2.pos (by omega) (E2.pos (by omega) (E2.pos (by omega) ?_)))
    by_cases c : 0 < i
    · refine E2.neg (by omega) (E2.pos (by omega) ?_)
      simp only [wrapP c (show i < 9223372036854775807 by omega)]
      refine E2.pos (by omega) (E2.pos (by omega) ?_)
      by_cases h4 : LT.lt (α := Int) (rd T23 l ((i - 1 : Nat) : Int)).1 (rd T23 l (i : Int)).1
      · refine E2.neg (by omega) ?_
        by_cases h5 : LE.le (α := Int) (rd T23 l (i : Int)).1 2000
        · exact E2.neg (by omega) (E2.bind (inRange_ev _ _ _) (E2.pos (by simp only [decide_eq_true_eq]; exact fun h6 => hq ⟨fun h => by omega, fun _ => h4, h5, h6⟩) E2.ret))
        · exact E2.pos (by omega) E2.ret
      · exact E2.pos (by omega) E2.ret
    · refine E2.pos (by omega) ?_
      by_cases h3 : Eq (α := Int) (rd T23 l (i : Int)).1 0
      · refine E2.neg (fun h => h h3) (E2.neg (by omega) (E2.neg (by omega) (E2.bind (inRange_ev _ _ _) (E2.pos (by simp only [decide_eq_true_eq]; exact fun h6 => hq ⟨fun _ => h3, fun h => absurd h c, by omega, h6⟩) E2.ret))))
      · exact E2.pos h3 E2.ret)
  exact ⟨r, Ev.eq (fun k => impl_IsTempo_eq k l) (Ev.loop (f := fun k m => impl_IsTempo.l0 k m l l ((List.length l : Nat) : Int) 0) er), hr.trans (and_congr (QT_iff l) Iff.rfl)⟩
theorem specMeter_ev (m : DT23) : ∃ r, Ev (fun k => spec_IsMeter k m) r ∧ Ev (fun k => impl_IsMeter k m) r := by
  by_cases c1 : 1 ≤ (m.1 : Int) ∧ (m.1 : Int) ≤ 12
  · by_cases d1 : (m.2.1 : Int) = 1
    · exact ⟨true, Ev.eq (fun k => spec_IsMeter_eq k m) (Ev.bind (l1In_ev _ _ _) (Ev.pos (by simpa using c1) (Ev.pos d1 Ev.ret))), Ev.eq (fun k => impl_IsMeter_eq k m) (Ev.bind (inRange_ev _ _ _) (Ev.pos (by simpa using c1) (Ev.pos d1 Ev.ret)))⟩
    · by_cases d2 : (m.2.1 : Int) = 2
      · exact ⟨true, Ev.eq (fun k => spec_IsMeter_eq k m) (Ev.bind (l1In_ev _ _ _) (Ev.pos (by simpa using c1) (Ev.neg d1 (Ev.pos d2 Ev.ret)))), Ev.eq (fun k => impl_IsMeter_eq k m) (Ev.bind (inRange_ev _ _ _) (Ev.pos (by simpa using c1) (Ev.neg d1 (Ev.pos d2 Ev.ret))))⟩
      · by_cases d3 : (m.2.1 : Int) = 4
        · exact ⟨true, Ev.eq (fun k => spec_IsMeter_eq k m) (Ev.bind (l1In_ev _ _ _) (Ev.pos (by simpa using c1) (Ev.neg d1 (Ev.neg d2 (Ev.pos d3 Ev.ret))))), Ev.eq (fun k => impl_IsMeter_eq k m) (Ev.bind (inRange_ev _ _ _) (Ev.pos (by simpa using c1) (Ev.neg d1 (Ev.neg d2 (Ev.pos d3 Ev.ret)))))⟩
        · exact ⟨_, Ev.eq (fun k => spec_IsMeter_eq k m) (Ev.bind (l1In_ev _ _ _) (Ev.pos (by simpa using c1) (Ev.neg d1 (Ev.neg d2 (Ev.neg d3 Ev.ret))))), Ev.eq (fun k => impl_IsMeter_eq k m) (Ev.bind (inRange_ev _ _ _) (Ev.pos (by simpa using c1) (Ev.neg d1 (Ev.neg d2 (Ev.neg d3 Ev.ret)))))⟩
  · exact ⟨false, Ev.eq (fun k => spec_IsMeter_eq k m) (Ev.bind (l1In_ev _ _ _) (Ev.neg (by simpa using c1) Ev.ret)), Ev.eq (fun k => impl_IsMeter_eq k m) (Ev.bind (inRange_ev _ _ _) (Ev.neg (by simpa using c1) Ev.ret))⟩
def befM (a b : DT131) : Prop := (a.1 : Int) < b.1 ∨ (a.1 : Int) = b.1 ∧ (a.2.1 : Int) < b.2.1
instance (a b : DT131) : Decidable (befM a b) := by unfold befM; infer_instance
theorem beforeM_ev (a b : DT131) : Ev (fun k => spec_l25Before k a b) (decide (befM a b)) := by
  refine Ev.eq (fun k => spec_l25Before_eq k a b) ?_
  unfold befM
  by_cases c1 : (a.1 : Int) < b.1
  · exact Ev.pos c1 (Ev.ret.val (by simp [c1]))
  · refine Ev.neg c1 ?_
    by_cases c2 : (a.1 : Int) = b.1
    · exact Ev.pos c2 (Ev.ret.val (by congr 1; exact propext ⟨fun h => .inr ⟨c2, h⟩, fun h => by omega⟩))
    · exact Ev.neg c2 (Ev.ret.val (by simp [c1, c2]))
theorem or2_ev (x y : Int) : Ev (fun k => cmp_Or_int k [x, y]) (orI x y) := by
  refine Ev.eq (fun k => cmp_Or_int_eq k _) (Ev.loop (f := fun k m => cmp_Or_int.l0 k m 0 [x, y] ((List.length [x, y] : Nat) : Int) 0) ?_)
  have w0 : IntKind.wrap .i64 ((0 : Int) + 1) = 1 := wrapI (by omega) (by omega)
  have w1 : IntKind.wrap .i64 ((1 : Int) + 1) = 2 := wrapI (by omega) (by omega)
  have r0 : rd (.int .i64) [x, y] 0 = x := rfl
  have r1 : rd (.int .i64) [x, y] 1 = y := rfl
  have hl : ((List.length [x, y] : Nat) : Int) = 2 := rfl
  unfold orI
  refine E2.eq (fun k m => cmp_Or_int.l0_eq k m 0 [x, y] _ 0) (E2.pos (by rw [hl]; omega) (E2.pos (by omega) (E2.pos (by rw [hl]; omega) ?_)))
  simp only [r0, w0]
  by_cases c0 : x = 0
  · refine E2.neg (fun h => h c0) ?_
    rw [if_neg (show ¬ x ≠ 0 by omega)]
    refine E2.eq (fun k m => cmp_Or_int.l0_eq k m 0 [x, y] _ 1) (E2.pos (by rw [hl]; omega) (E2.pos (by omega) (E2.pos (by rw [hl]; omega) ?_)))
    simp only [r1, w1]
    by_cases c1 : y = 0
    · exact E2.neg (fun h => h c1) (E2.eq (fun k m => cmp_Or_int.l0_eq k m 0 [x, y] _ 2) (E2.neg (by rw [hl]; omega) (E2.ret.val c1.symm)))
    · exact E2.pos c1 E2.ret
  · rw [if_pos c0]; exact E2.pos c0 E2.ret
def ordM (a b : DT131) : Int := orI (cmpI a.1 b.1) (cmpI a.2.1 b.2.1)
theorem orderM_ev (a b : DT131) : Ev (fun k => impl_markOrder k a b) (ordM a b) :=
  Ev.eq (fun k => impl_markOrder_eq k a b) (Ev.bind (cmp_ev _ _) (Ev.bind (cmp_ev _ _) (Ev.bind (or2_ev _ _) Ev.ret)))
theorem ordM_lt (a b : DT131) : ordM a b < 0 ↔ befM a b := by
  unfold ordM orI cmpI befM
  repeat' split
  all_goals omega
def okM (e : DT131) : Prop := (1 ≤ (e.1 : Int) ∧ (e.1 : Int) ≤ 100) ∧ (1 ≤ (e.2.1 : Int) ∧ (e.2.1 : Int) ≤ 4) ∧ (0 ≤ (e.2.2.1 : Int) ∧ (e.2.2.1 : Int) ≤ 9) ∧ (0 ≤ (e.2.2.2.1 : Int) ∧ (e.2.2.2.1 : Int) ≤ 100000) ∧ (1 ≤ (e.2.2.2.2.1 : Int) ∧ (e.2.2.2.2.1 : Int) ≤ 99)
def QM (l : List DT131) (i : Nat) : Prop := okM (rd T131 l (i : Int)) ∧ (0 < i → befM (rd T131 l ((i - 1 : Nat) : Int)) (rd T131 l (i : Int)))
def marksP (l : List DT131) : Prop := (∀ i, i < l.length → QM l i) ∧ decide (((l.length : Nat) : Int) ≤ 30) = true
theorem notM (l : List DT131) (i : Nat) (h : ¬ QM l i) (h1 : okM (rd T131 l (i : Int))) : 0 < i ∧ ¬ befM (rd T131 l ((i - 1 : Nat) : Int)) (rd T131 l (i : Int)) := by
  refine ⟨?_, fun c => h ⟨h1, fun _ => c⟩⟩
  rcases Nat.eq_zero_or_pos i with hi | hi
  · exact absurd ⟨h1, fun h' => by omega⟩ h
  · exact hi
theorem specMarksB_ev (l : List DT131) (hl : l.length ≤ 2097152) : ∃ r, Ev (fun k => spec_AreMarks k l) r ∧ (r = true ↔ marksP l) := by
  obtain ⟨r, er, hr⟩ := loop_allR (R := fun i v => E2 (fun k m => spec_AreMarks.l0 k m l i) v) (n := l.length) (QM l) (decide (((l.length : Nat) : Int) ≤ 30)) (E2.eq (fun k m => spec_AreMarks.l0_eq k m l _) (E2.neg (by omega) E2.ret)) (fun i hi hq v e => by
    obtain ⟨⟨h1, h2, h3, h4, h5⟩, h6⟩ := hq
    refine E2.eq (fun k m => spec_AreMarks.l0_eq k m l _) (E2.pos (by omega) (E2.pos (by omega) (E2.pos (by omega) (E2.bind (l1In_ev _ _ _) (E2.neg (by simpa using h1) (E2.bind (l1In_ev _ _ _) (E2.neg (by simpa using h2) (E2.bind (l1In_ev _ _ _) (E2.neg (by simpa using h3) (E2.bind (l1In_ev _ _ _) (E2.neg (by simpa using h4) (E2.bind (l1In_ev _ _ _) (E2.neg (by simpa using h5) ?_)))))))))))))
    simp only [wrapS (show i < 9223372036854775807 by omega)]
    by_cases c : 0 < i
    · refine E2.pos (by omega) ?_
      simp only [wrapP c (show i < 9223372036854775807 by omega)]
      exact E2.pos (by omega) (E2.pos (by omega) (E2.bind (beforeM_ev _ _) (E2.neg (by simpa using h6 c) e)))
    · exact E2.neg (by omega) e) (fun i hi hq => by
    refine E2.eq (fun k m => spec_AreMarks.l0_eq k m l _) (E2.pos (by omega) (E2.pos (by omega) (E2.pos (by omega) (E2.bind (l1In_ev _ _ _) ?_))))
    by_cases h1 : 1 ≤ ((rd T131 l (i : Int)).1 : Int) ∧ ((rd T131 l (i : Int)).1 : Int) ≤ 100
    · refine E2.neg (by simpa using h1) (E2.bind (l1In_ev _ _ _) ?_)
      by_cases h2 : 1 ≤ ((rd T131 l (i : Int)).2.1 : Int) ∧ ((rd T131 l (i : Int)).2.1 : Int) ≤ 4
      · refine E2.neg (by simpa using h2) (E2.bind (l1In_ev _ _ _) ?_)
        by_cases h3 : 0 ≤ ((rd T131 l (i : Int)).2.2.1 : Int) ∧ ((rd T131 l (i : Int)).2.2.1 : Int) ≤ 9
        · refine E2.neg (by simpa using h3) (E2.bind (l1In_ev _ _ _) ?_)
          by_cases h4 : 0 ≤ ((rd T131 l (i : Int)).2.2.2.1 : Int) ∧ ((rd T131 l (i : Int)).2.2.2.1 : Int) ≤ 100000
          · refine E2.neg (by simpa using h4) (E2.bind (l1In_ev _ _ _) ?_)
            by_cases h5 : 1 ≤ ((rd T131 l (i : Int)).2.2.2.2.1 : Int) ∧ ((rd T131 l (i : Int)).2.2.2.2.1 : Int) ≤ 99
            · obtain ⟨c, c1⟩ := notM l i hq ⟨h1, h2, h3, h4, h5⟩
              refine E2.neg (by simpa using h5) (E2.pos (by omega) ?_)
              simp only [wrapP c (show i < 9223372036854775807 by omega)]
              exact E2.pos (by omega) (E2.pos (by omega) (E2.bind (beforeM_ev _ _) (E2.pos (by simpa using c1) E2.ret)))
            · exact E2.pos (by simpa using h5) E2.ret
          · exact E2.pos (by simpa using h4) E2.ret
        · exact E2.pos (by simpa using h3) E2.ret
      · exact E2.pos (by simpa using h2) E2.ret
    · exact E2.pos (by simpa using h1) E2.ret)
  exact ⟨r, Ev.eq (fun k => spec_AreMarks_eq k l) (Ev.loop (f := fun k m => spec_AreMarks.l0 k m l 0) er), hr⟩
theorem specMarks_ev (l : List DT131) (hl : l.length ≤ 1048576) : ∃ r, Ev (fun k => spec_AreMarks k l) r ∧ (r = true ↔ marksP l) := specMarksB_ev l (by omega)
theorem implMarksB_ev (l : List DT131) (hl : l.length ≤ 2097152) : ∃ r, Ev (fun k => impl_AreMarks k l) r ∧ (r = true ↔ marksP l) := by
  obtain ⟨r, er, hr⟩ := loop_allR (R := fun i v => E2 (fun k m => impl_AreMarks.l0 k m l l ((List.length l : Nat) : Int) i) v) (n := l.length) (QM l) (decide (((l.length : Nat) : Int) ≤ 30)) (E2.eq (fun k m => impl_AreMarks.l0_eq k m l l _ _) (E2.neg (by omega) E2.ret)) (fun i hi hq v e => by
    obtain ⟨⟨h1, h2, h3, h4, h5⟩, h6⟩ := hq
    refine E2.eq (fun k m => impl_AreMarks.l0_eq k m l l _ _) (E2.pos (by omega) (E2.pos (by omega) (E2.pos (by omega) (E2.bind (inRange_ev _ _ _) (E2.neg (by simpa using h1) (E2.bind (inRange_ev _ _ _) (E2.neg (by simpa using h2) (E2.bind (inRange_ev _ _ _) (E2.neg (by simpa using h3) (E2.bind (inRange_ev _ _ _) (E2.neg (by simpa using h4) (E2.bind (inRange_ev _ _ _) (E2.neg (by simpa using h5) ?_)))))))))))))
    simp only [wrapS (show i < 9223372036854775807 by omega)]
    by_cases c : 0 < i
    · refine E2.pos (by omega) ?_
      simp only [wrapP c (show i < 9223372036854775807 by omega)]
      have := (ordM_lt _ _).2 (h6 c)
      exact E2.pos (by omega) (E2.pos (by omega) (E2.bind (orderM_ev _ _) (E2.neg (by omega) e)))
    · exact E2.neg (by omega) e) (fun i hi hq => by
    refine E2.eq (fun k m => impl_AreMarks.l0_eq k m l l _ _) (E2.pos (by omega) (E2.pos (by omega) (E2.pos (by omega) (E2.bind (inRange_ev _ _ _) ?_))))
    by_cases h1 : 1 ≤ ((rd T131 l (i : Int)).1 : Int) ∧ ((rd T131 l (i : Int)).1 : Int) ≤ 100
    · refine E2.neg (by simpa using h1) (E2.bind (inRange_ev _ _ _) ?_)
      by_cases h2 : 1 ≤ ((rd T131 l (i : Int)).2.1 : Int) ∧ ((rd T131 l (i : Int)).2.1 : Int) ≤ 4
      · refine E2.neg (by simpa using h2) (E2.bind (inRange_ev _ _ _) ?_)
        by_cases h3 : 0 ≤ ((rd T131 l (i : Int)).2.2.1 : Int) ∧ ((rd T131 l (i : Int)).2.2.1 : Int) ≤ 9
        · refine E2.neg (by simpa using h3) (E2.bind (inRange_ev _ _ _) ?_)
          by_cases h4 : 0 ≤ ((rd T131 l (i : Int)).2.2.2.1 : Int) ∧ ((rd T131 l (i : Int)).2.2.2.1 : Int) ≤ 100000
          · refine E2.neg (by simpa using h4) (E2.bind (inRange_ev _ _ _) ?_)
            by_cases h5 : 1 ≤ ((rd T131 l (i : Int)).2.2.2.2.1 : Int) ∧ ((rd T131 l (i : Int)).2.2.2.2.1 : Int) ≤ 99
            · obtain ⟨c, c1⟩ := notM l i hq ⟨h1, h2, h3, h4, h5⟩
              refine E2.neg (by simpa using h5) (E2.pos (by omega) ?_)
              simp only [wrapP c (show i < 9223372036854775807 by omega)]
              have := mt (ordM_lt _ _).1 c1
              exact E2.pos (by omega) (E2.pos (by omega) (E2.bind (orderM_ev _ _) (E2.pos (by omega) E2.ret)))
            · exact E2.pos (by simpa using h5) E2.ret
          · exact E2.pos (by simpa using h4) E2.ret
        · exact E2.pos (by simpa using h3) E2.ret
      · exact E2.pos (by simpa using h2) E2.ret
    · exact E2.pos (by simpa using h1) E2.ret)
  exact ⟨r, Ev.eq (fun k => impl_AreMarks_eq k l) (Ev.loop (f := fun k m => impl_AreMarks.l0 k m l l ((List.length l : Nat) : Int) 0) er), hr⟩
theorem implMarks_ev (l : List DT131) (hl : l.length ≤ 1048576) : ∃ r, Ev (fun k => impl_AreMarks k l) r ∧ (r = true ↔ marksP l) := implMarksB_ev l (by omega)
def QL (l : List DT23) (i : Nat) : Prop := Eq (α := Int) (rd T23 l (i : Int)).1 (i : Int) ∧ (LE.le (α := Int) 1 (rd T23 l (i : Int)).2.1 ∧ LE.le (α := Int) (rd T23 l (i : Int)).2.1 500) ∧ (0 < i → LT.lt (α := Int) (rd T23 l ((i - 1 : Nat) : Int)).2.1 (rd T23 l (i : Int)).2.1)
def lettersP (l : List DT23) : Prop := (∀ i, i < l.length → QL l i) ∧ decide (((l.length : Nat) : Int) ≤ 26) = true
theorem specLetters_ev (l : List DT23) (hl : l.length ≤ 1048576) : ∃ r, Ev (fun k => spec_AreLetters k l) r ∧ (r = true ↔ lettersP l) := by
  obtain ⟨r, er, hr⟩ := loop_allR (R := fun i v => E2 (fun k m => spec_AreLetters.l0 k m l i) v) (n := l.length) (QL l) (decide (((l.length : Nat) : Int) ≤ 26)) (E2.eq (fun k m => spec_AreLetters.l0_eq k m l _) (E2.neg (by omega) E2.ret)) (fun i hi hq v e => by
    obtain ⟨h1, h2, h3⟩ := hq
    refine E2.eq (fun k m => spec_AreLetters.l0_eq k m l _) (E2.pos (by omega) (E2.pos (by omega) (E2.pos (by omega) (E2.neg (fun c => c h1) (E2.pos (by omega) (E2.pos (by omega) (E2.bind (l1In_ev _ _ _) (E2.neg (by simpa using h2) ?_))))))))
    simp only [wrapS (show i < 9223372036854775807 by omega)]
    by_cases c : 0 < i
    · refine E2.pos (by omega) ?_
      simp only [wrapP c (show i < 9223372036854775807 by omega)]
      have := h3 c
      exact E2.pos (by omega) (E2.pos (by omega) (E2.pos (by omega) (E2.pos (by omega) (E2.neg (by omega) e))))
    · exact E2.neg (by omega) e) (fun i hi hq => by
    refine E2.eq (fun k m => spec_AreLetters.l0_eq k m l _) (E2.pos (by omega) (E2.pos (by omega) (E2.pos (by omega) ?_)))
    by_cases h1 : Eq (α := Int) (rd T23 l (i : Int)).1 (i : Int)
    · refine E2.neg (fun c => c h1) (E2.pos (by omega) (E2.pos (by omega) (E2.bind (l1In_ev _ _ _) ?_)))
      by_cases h2 : LE.le (α := Int) 1 (rd T23 l (i : Int)).2.1 ∧ LE.le (α := Int) (rd T23 l (i : Int)).2.1 500
      · have c : 0 < i := by
          rcases Nat.eq_zero_or_pos i with h | h
          · exact absurd ⟨h1, h2, fun h' => by omega⟩ hq
          · exact h
        have h3 : ¬ LT.lt (α := Int) (rd T23 l ((i - 1 : Nat) : Int)).2.1 (rd T23 l (i : Int)).2.1 := fun h => hq ⟨h1, h2, fun _ => h⟩
        refine E2.neg (by simpa using h2) (E2.pos (by omega) ?_)
        simp only [wrapP c (show i < 9223372036854775807 by omega)]
        exact E2.pos (by omega) (E2.pos (by omega) (E2.pos (by omega) (E2.pos (by omega) (E2.pos (by omega) E2.ret))))
      · exact E2.pos (by simpa using h2) E2.ret
    · exact E2.pos h1 E2.ret)
  exact ⟨r, Ev.eq (fun k => spec_AreLetters_eq k l) (Ev.loop (f := fun k m => spec_AreLetters.l0 k m l 0) er), hr⟩
theorem implLetters_ev (l : List DT23) (hl : l.length ≤ 1048576) : ∃ r, Ev (fun k => impl_AreLetters k l) r ∧ (r = true ↔ lettersP l) := by
  obtain ⟨r, er, hr⟩ := loop_allR (R := fun i v => E2 (fun k m => impl_AreLetters.l0 k m l l ((List.length l : Nat) : Int) i) v) (n := l.length) (QL l) (decide (((l.length : Nat) : Int) ≤ 26)) (E2.eq (fun k m => impl_AreLetters.l0_eq k m l l _ _) (E2.neg (by omega) E2.ret)) (fun i hi hq v e => by
    obtain ⟨h1, h2, h3⟩ := hq
    refine E2.eq (fun k m => impl_AreLetters.l0_eq k m l l _ _) (E2.pos (by omega) (E2.pos (by omega) (E2.pos (by omega) (E2.neg (fun c => c h1) (E2.bind (inRange_ev _ _ _) (E2.neg (by simpa using h2) ?_))))))
    simp only [wrapS (show i < 9223372036854775807 by omega)]
    by_cases c : 0 < i
    · refine E2.pos (by omega) ?_
      simp only [wrapP c (show i < 9223372036854775807 by omega)]
      have := h3 c
      exact E2.pos (by omega) (E2.pos (by omega) (E2.neg (by omega) e))
    · exact E2.neg (by omega) e) (fun i hi hq => by
    refine E2.eq (fun k m => impl_AreLetters.l0_eq k m l l _ _) (E2.pos (by omega) (E2.pos (by omega) (E2.pos (by omega) ?_)))
    by_cases h1 : Eq (α := Int) (rd T23 l (i : Int)).1 (i : Int)
    · refine E2.neg (fun c => c h1) (E2.bind (inRange_ev _ _ _) ?_)
      by_cases h2 : LE.le (α := Int) 1 (rd T23 l (i : Int)).2.1 ∧ LE.le (α := Int) (rd T23 l (i : Int)).2.1 500
      · have c : 0 < i := by
          rcases Nat.eq_zero_or_pos i with h | h
          · exact absurd ⟨h1, h2, fun h' => by omega⟩ hq
          · exact h
        have h3 : ¬ LT.lt (α := Int) (rd T23 l ((i - 1 : Nat) : Int)).2.1 (rd T23 l (i : Int)).2.1 := fun h => hq ⟨h1, h2, fun _ => h⟩
        refine E2.neg (by simpa using h2) (E2.pos (by omega) ?_)
        simp only [wrapP c (show i < 9223372036854775807 by omega)]
        exact E2.pos (by omega) (E2.pos (by omega) (E2.pos (by omega) E2.ret))
      · exact E2.pos (by simpa using h2) E2.ret
    · exact E2.pos h1 E2.ret)
  exact ⟨r, Ev.eq (fun k => impl_AreLetters_eq k l) (Ev.loop (f := fun k m => impl_AreLetters.l0 k m l l ((List.length l : Nat) : Int) 0) er), hr⟩
theorem has_ev (l : List Int) (x : Int) (hl : l.length ≤ 1048576) : Ev (fun k => spec_l27Has k l x) (decide (x ∈ l)) := by
  refine dec_of ?_
  obtain ⟨r, er, hr⟩ := loop_anyR (R := fun i v => E2 (fun k m => spec_l27Has.l0 k m l x i) v) (n := l.length) (fun i => Eq (α := Int) (rd (.int .i64) l (i : Int)) x) (E2.eq (fun k m => spec_l27Has.l0_eq k m l x _) (E2.neg (by omega) E2.ret)) (fun i hi hq v e => by
    refine E2.eq (fun k m => spec_l27Has.l0_eq k m l x _) (E2.pos (by omega) (E2.pos (by omega) (E2.pos (by omega) (E2.neg hq ?_))))
    simp only [wrapS (show i < 9223372036854775807 by omega)]; exact e) (fun i hi hq => E2.eq (fun k m => spec_l27Has.l0_eq k m l x _) (E2.pos (by omega) (E2.pos (by omega) (E2.pos (by omega) (E2.pos hq E2.ret)))))
  refine ⟨r, Ev.eq (fun k => spec_l27Has_eq k l x) (Ev.loop (f := fun k m => spec_l27Has.l0 k m l x 0) er), hr.trans ⟨fun ⟨i, hi, h⟩ => ?_, fun h => ?_⟩⟩
  · rw [← h, rd_at hi]; exact List.getElem_mem hi
  · obtain ⟨i, hi, h⟩ := List.mem_iff_getElem.1 h
    exact ⟨i, hi, by rw [rd_at hi]; exact h⟩
theorem index_ev (l : List Int) (x : Int) (hl : l.length ≤ 1048576) : Ev (fun k => slices_Index___int_int k l x) (firstI (fun i => decide (Eq (α := Int) x (rd (.int .i64) l (i : Int)))) l.length) := by
  have er := loop_firstR (R := fun i v => E2 (fun k m => slices_Index___int_int.l0 k m l x ((List.length l : Nat) : Int) i) v) (n := l.length) (fun i => decide (Eq (α := Int) x (rd (.int .i64) l (i : Int)))) (E2.eq (fun k m => slices_Index___int_int.l0_eq k m l x _ _) (E2.neg (by omega) E2.ret)) (fun i hi hq v e => by
    refine E2.eq (fun k m => slices_Index___int_int.l0_eq k m l x _ _) (E2.pos (by omega) (E2.pos (by omega) (E2.pos (by omega) (E2.neg (by simpa using hq) ?_))))
    simp only [wrapS (show i < 9223372036854775807 by omega)]; exact e) (fun i hi hq => E2.eq (fun k m => slices_Index___int_int.l0_eq k m l x _ _) (E2.pos (by omega) (E2.pos (by omega) (E2.pos (by omega) (E2.pos (by simpa using hq) E2.ret)))))
  exact Ev.eq (fun k => slices_Index___int_int_eq k l x) (Ev.loop (f := fun k m => slices_Index___int_int.l0 k m l x ((List.length l : Nat) : Int) 0) er)
theorem contains_ev (l : List Int) (x : Int) (hl : l.length ≤ 1048576) : Ev (fun k => slices_Contains___int_int k l x) (decide (x ∈ l)) := by
  refine Ev.eq (fun k => slices_Contains___int_int_eq k l x) (Ev.bind (index_ev l x hl) (Ev.ret.val ?_))
  rw [Bool.eq_iff_iff, decide_eq_true_eq, decide_eq_true_eq, firstI_nonneg]
  constructor
  · rintro ⟨i, hi, h⟩
    have h : x = rd (.int .i64) l (i : Int) := by simpa using h
    rw [h, rd_at hi]; exact List.getElem_mem hi
  · intro h
    obtain ⟨i, hi, h⟩ := List.mem_iff_getElem.1 h
    exact ⟨i, hi, by rw [decide_eq_true_eq, rd_at hi]; exact h.symm⟩
def ofVoice (v : Int) (e : DT49) : Bool := decide ((e.2.2.2.1 : Int) = v)
theorem specVoice_ev (l : List DT49) (v : Int) (hl : l.length ≤ 1048576) : Ev (fun k => spec_VoiceOf k l v) (l.filter (ofVoice v)) := by
  have er := loop_filterR (t := T49) (l := l) (R := fun i s r => E2 (fun k m => spec_VoiceOf.l0 k m l v i s) r) (ofVoice v) (fun s => E2.eq (fun k m => spec_VoiceOf.l0_eq k m l v _ s) (E2.neg (by omega) E2.ret)) (fun i s hi hs hq r e => by
    refine E2.eq (fun k m => spec_VoiceOf.l0_eq k m l v _ s) (E2.pos (by omega) (E2.pos (by omega) (E2.pos (by omega) (E2.pos (of_decide_eq_true hq) (E2.pos (by omega) (E2.pos (by omega) (E2.pos (by simp only [List.length_cons, List.length_nil]; omega) ?_)))))))
    simp only [wrapS (show i < 9223372036854775807 by omega)]; exact e) (fun i s hi hs hq r e => by
    refine E2.eq (fun k m => spec_VoiceOf.l0_eq k m l v _ s) (E2.pos (by omega) (E2.pos (by omega) (E2.pos (by omega) (E2.neg (of_decide_eq_false hq) ?_))))
    simp only [wrapS (show i < 9223372036854775807 by omega)]; exact e)
  exact Ev.eq (fun k => spec_VoiceOf_eq k l v) (Ev.loop (f := fun k m => spec_VoiceOf.l0 k m l v 0 []) er)
theorem del_ev (e : DT49) (v : Int) : Ev (fun k => impl_VoiceOf_1 k e v) (! ofVoice v e) := by
  refine Ev.eq (fun k => impl_VoiceOf_1_eq k e v) (Ev.ret.val ?_)
  unfold ofVoice
  simp
theorem delete_ev (l : List DT49) (v : Int) (hl : l.length ≤ 1048576) : Ev (fun k => slices_DeleteFunc_impl_Event_198 k l v) (l.filter (ofVoice v)) := by
  have ei : Ev (fun k => slices_IndexFunc_impl_Event_198 k l v) (firstI (fun i => ! ofVoice v (rd T49 l (i : Int))) l.length) := by
    have er := loop_firstR (R := fun i r => E2 (fun k m => slices_IndexFunc_impl_Event_198.l0 k m l v ((List.length l : Nat) : Int) i) r) (n := l.length) (fun i => ! ofVoice v (rd T49 l (i : Int))) (E2.eq (fun k m => slices_IndexFunc_impl_Event_198.l0_eq k m l v _ _) (E2.neg (by omega) E2.ret)) (fun i hi hq r e => by
      refine E2.eq (fun k m => slices_IndexFunc_impl_Event_198.l0_eq k m l v _ _) (E2.pos (by omega) (E2.pos (by omega) (E2.pos (by omega) (E2.bind (del_ev _ _) (E2.neg (by rw [hq]; simp) ?_)))))
      simp only [wrapS (show i < 9223372036854775807 by omega)]; exact e) (fun i hi hq => E2.eq (fun k m => slices_IndexFunc_impl_Event_198.l0_eq k m l v _ _) (E2.pos (by omega) (E2.pos (by omega) (E2.pos (by omega) (E2.bind (del_ev _ _) (E2.pos hq E2.ret))))))
    exact Ev.eq (fun k => slices_IndexFunc_impl_Event_198_eq k l v) (Ev.loop (f := fun k m => slices_IndexFunc_impl_Event_198.l0 k m l v ((List.length l : Nat) : Int) 0) er)
  refine Ev.eq (fun k => slices_DeleteFunc_impl_Event_198_eq k l v) (Ev.bind ei ?_)
  rcases firstI_spec (fun i => ! ofVoice v (rd T49 l (i : Int))) l.length with ⟨h, hall⟩ | ⟨r, h, hr, h1, h0⟩
  · refine Ev.pos h (Ev.ret.val ?_)
    symm
    rw [List.filter_eq_self]
    intro x hx
    obtain ⟨i, hi, rfl⟩ := List.mem_iff_getElem.1 hx
    have := hall i hi
    rw [rd_at hi] at this
    simpa using this
  · rw [h]
    refine Ev.neg (by omega) ?_
    rw [wrapS (by omega)]
    refine Ev.loop (f := fun k m => slices_DeleteFunc_impl_Event_198.l0 k m v (r : Int) ((r + 1 : Nat) : Int) l) ?_
    refine loop_deleteR (t := T49) (l := l) (R := fun i j s w => E2 (fun k m => slices_DeleteFunc_impl_Event_198.l0 k m v i j s) w) (ofVoice v) (fun i s hi hs => ?_) (fun i j s hij hj hs hq w e => ?_) (fun i j s hij hj hs hq w e => ?_) r hr (fun j hj => by simpa using h0 j hj) (by simpa using h1)
    · refine E2.eq (fun k m => slices_DeleteFunc_impl_Event_198.l0_eq k m v _ _ s) (E2.neg (by omega) (E2.pos (by omega) (E2.pos (by omega) (E2.pos (by omega) (E2.pos ?_ (E2.ret.val ?_))))))
      · simp only [List.length_append, List.length_take, List.length_replicate, List.length_drop, Int.toNat_natCast]
        omega
      · simp only [Int.toNat_natCast, show Int.toNat 0 = 0 from rfl, Nat.sub_zero, List.drop_zero]
        rw [List.append_assoc, List.take_append_of_le_length (by simp; omega), List.take_take, Nat.min_self]
    · refine E2.eq (fun k m => slices_DeleteFunc_impl_Event_198.l0_eq k m v _ _ s) (E2.pos (by omega) (E2.pos (by omega) (E2.pos (by omega) (E2.bind (del_ev _ _) (E2.pos (by rw [hq]; simp) (E2.pos (by omega) (E2.pos (by omega) ?_)))))))
      simp only [wrapS (show i < 9223372036854775807 by omega), wrapS (show j < 9223372036854775807 by omega), Int.toNat_natCast]; exact e
    · refine E2.eq (fun k m => slices_DeleteFunc_impl_Event_198.l0_eq k m v _ _ s) (E2.pos (by omega) (E2.pos (by omega) (E2.pos (by omega) (E2.bind (del_ev _ _) (E2.neg (by rw [hq]; simp) ?_)))))
      simp only [wrapS (show j < 9223372036854775807 by omega)]; exact e
theorem cloneE_ev (l : List DT49) (hl : l.length ≤ 1048576) : Ev (fun k => impl_clone_impl_Event k l) l :=
  Ev.eq (fun k => impl_clone_impl_Event_eq k l) (Ev.pos (by simp only [List.length_nil]; omega) (Ev.ret.val (by simp)))
theorem implVoice_ev (l : List DT49) (v : Int) (hl : l.length ≤ 1048576) : Ev (fun k => impl_VoiceOf k l v) (l.filter (ofVoice v)) :=
  Ev.eq (fun k => impl_VoiceOf_eq k l v) (Ev.bind (cloneE_ev l hl) (Ev.bind (delete_ev l v hl) Ev.ret))
def QF (lo hi : Int) (l : List DT49) (i : Nat) : Prop := LE.le (α := Int) lo (rd T49 l (i : Int)).2.2.1 ∧ LE.le (α := Int) (rd T49 l (i : Int)).2.2.1 hi
def fitsP (l : List DT49) (lo hi : Int) : Prop := (∀ i, i < l.length → QF lo hi l i) ∧ decide (scoreP l) = true
theorem specFits_ev (l : List DT49) (lo hi : Int) (hl : l.length ≤ 1048576) : ∃ r, Ev (fun k => spec_FitsRange k l lo hi) r ∧ (r = true ↔ fitsP l lo hi) := by
  obtain ⟨r, er, hr⟩ := loop_allR (R := fun i v => E2 (fun k m => spec_FitsRange.l0 k m l lo hi i) v) (n := l.length) (QF lo hi l) (decide (scoreP l)) (E2.eq (fun k m => spec_FitsRange.l0_eq k m l lo hi _) (E2.neg (by omega) (E2.bind (specScore_ev l hl) (E2.ret.val (by simp))))) (fun i hi' hq v e => by
    refine E2.eq (fun k m => spec_FitsRange.l0_eq k m l lo hi _) (E2.pos (by omega) (E2.pos (by omega) (E2.pos (by omega) (E2.bind (l1In_ev _ _ _) (E2.neg (by simpa [QF] using hq) ?_)))))
    simp only [wrapS (show i < 9223372036854775807 by omega)]; exact e) (fun i hi' hq => E2.eq (fun k m => spec_FitsRange.l0_eq k m l lo hi _) (E2.pos (by omega) (E2.pos (by omega) (E2.pos (by omega) (E2.bind (l1In_ev _ _ _) (E2.pos (by simp only [decide_eq_true_eq]; exact hq) E2.ret))))))
  exact ⟨r, Ev.eq (fun k => spec_FitsRange_eq k l lo hi) (Ev.loop (f := fun k m => spec_FitsRange.l0 k m l lo hi 0) er), hr⟩
theorem implFits_ev (l : List DT49) (lo hi : Int) (hl : l.length ≤ 1048576) : ∃ r, Ev (fun k => impl_FitsRange k l lo hi) r ∧ (r = true ↔ fitsP l lo hi) := by
  obtain ⟨r, er, hr⟩ := loop_allR (R := fun i v => E2 (fun k m => impl_FitsRange.l0 k m l lo hi l ((List.length l : Nat) : Int) i) v) (n := l.length) (QF lo hi l) (decide (scoreP l)) (E2.eq (fun k m => impl_FitsRange.l0_eq k m l lo hi l _ _) (E2.neg (by omega) (E2.bind (implScore_ev l hl) (E2.ret.val (by simp))))) (fun i hi' hq v e => by
    refine E2.eq (fun k m => impl_FitsRange.l0_eq k m l lo hi l _ _) (E2.pos (by omega) (E2.pos (by omega) (E2.pos (by omega) (E2.bind (inRange_ev _ _ _) (E2.neg (by simpa [QF] using hq) ?_)))))
    simp only [wrapS (show i < 9223372036854775807 by omega)]; exact e) (fun i hi' hq => E2.eq (fun k m => impl_FitsRange.l0_eq k m l lo hi l _ _) (E2.pos (by omega) (E2.pos (by omega) (E2.pos (by omega) (E2.bind (inRange_ev _ _ _) (E2.pos (by simp only [decide_eq_true_eq]; exact hq) E2.ret))))))
  exact ⟨r, Ev.eq (fun k => impl_FitsRange_eq k l lo hi) (Ev.loop (f := fun k m => impl_FitsRange.l0 k m l lo hi l ((List.length l : Nat) : Int) 0) er), hr⟩
def canP (p : DT61) (l : List DT49) (v : Int) : Prop := (v : Int) ∈ p.2.2.2.1 ∧ scoreP l ∧ fitsP (l.filter (ofVoice v)) p.2.1 p.2.2.1
theorem filter_le (l : List DT49) (v : Int) (hl : l.length ≤ 1048576) : (l.filter (ofVoice v)).length ≤ 1048576 := Nat.le_trans (List.length_filter_le _ _) hl
theorem specCan_ev (p : DT61) (l : List DT49) (v : Int) (hp : p.2.2.2.1.length ≤ 1048576) (hl : l.length ≤ 1048576) : ∃ r, Ev (fun k => spec_CanPlay k p l v) r ∧ (r = true ↔ canP p l v) := by
  unfold canP
  by_cases c1 : (v : Int) ∈ p.2.2.2.1
  · by_cases c2 : scoreP l
    · obtain ⟨r, er, hr⟩ := specFits_ev (l.filter (ofVoice v)) p.2.1 p.2.2.1 (filter_le l v hl)
      exact ⟨r, Ev.eq (fun k => spec_CanPlay_eq k p l v) (Ev.bind (has_ev _ _ hp) (Ev.pos (by simpa using c1) (Ev.bind (specScore_ev l hl) (Ev.pos (by simpa using c2) (Ev.bind (specVoice_ev l v hl) (Ev.bind er (Ev.ret.val (by simp)))))))), by rw [hr]; exact ⟨fun h => ⟨c1, c2, h⟩, fun h => h.2.2⟩⟩
    · exact ⟨false, Ev.eq (fun k => spec_CanPlay_eq k p l v) (Ev.bind (has_ev _ _ hp) (Ev.pos (by simpa using c1) (Ev.bind (specScore_ev l hl) (Ev.neg (by simpa using c2) Ev.ret)))), by simp only [Bool.false_eq_true, false_iff]; exact fun h => c2 h.2.1⟩
  · exact ⟨false, Ev.eq (fun k => spec_CanPlay_eq k p l v) (Ev.bind (has_ev _ _ hp) (Ev.neg (by simpa using c1) Ev.ret)), by simp only [Bool.false_eq_true, false_iff]; exact fun h => c1 h.1⟩
theorem implCan_ev (p : DT61) (l : List DT49) (v : Int) (hp : p.2.2.2.1.length ≤ 1048576) (hl : l.length ≤ 1048576) : ∃ r, Ev (fun k => impl_CanPlay k p l v) r ∧ (r = true ↔ canP p l v) := by
  unfold canP
  by_cases c1 : (v : Int) ∈ p.2.2.2.1
  · by_cases c2 : scoreP l
    · obtain ⟨r, er, hr⟩ := implFits_ev (l.filter (ofVoice v)) p.2.1 p.2.2.1 (filter_le l v hl)
      exact ⟨r, Ev.eq (fun k => impl_CanPlay_eq k p l v) (Ev.bind (contains_ev _ _ hp) (Ev.pos (by simpa using c1) (Ev.bind (implScore_ev l hl) (Ev.pos (by simpa using c2) (Ev.bind (implVoice_ev l v hl) (Ev.bind er (Ev.ret.val (by simp)))))))), by rw [hr]; exact ⟨fun h => ⟨c1, c2, h⟩, fun h => h.2.2⟩⟩
    · exact ⟨false, Ev.eq (fun k => impl_CanPlay_eq k p l v) (Ev.bind (contains_ev _ _ hp) (Ev.pos (by simpa using c1) (Ev.bind (implScore_ev l hl) (Ev.neg (by simpa using c2) Ev.ret)))), by simp only [Bool.false_eq_true, false_iff]; exact fun h => c2 h.2.1⟩
  · exact ⟨false, Ev.eq (fun k => impl_CanPlay_eq k p l v) (Ev.bind (contains_ev _ _ hp) (Ev.neg (by simpa using c1) Ev.ret)), by simp only [Bool.false_eq_true, false_iff]; exact fun h => c1 h.1⟩
def QA (lo hi : Int) (l : List Int) (i : Nat) : Prop := (LE.le (α := Int) lo (rd (.int .i64) l (i : Int)) ∧ LE.le (α := Int) (rd (.int .i64) l (i : Int)) hi) ∧ (0 < i → LT.lt (α := Int) (rd (.int .i64) l ((i - 1 : Nat) : Int)) (rd (.int .i64) l (i : Int)))
def ascP (l : List Int) (lo hi : Int) : Prop := ∀ i, i < l.length → QA lo hi l i
theorem notA {lo hi : Int} {l : List Int} {i : Nat} (h : ¬ QA lo hi l i) (h1 : LE.le (α := Int) lo (rd (.int .i64) l (i : Int)) ∧ LE.le (α := Int) (rd (.int .i64) l (i : Int)) hi) : 0 < i ∧ ¬ LT.lt (α := Int) (rd (.int .i64) l ((i - 1 : Nat) : Int)) (rd (.int .i64) l (i : Int)) := by
  refine ⟨?_, fun c => h ⟨h1, fun _ => c⟩⟩
  rcases Nat.eq_zero_or_pos i with hi | hi
  · exact absurd ⟨h1, fun h' => by omega⟩ h
  · exact hi
theorem asc_ev (l : List Int) (lo hi : Int) (hl : l.length ≤ 1048576) : ∃ r, Ev (fun k => impl_ascending k l lo hi) r ∧ (r = true ↔ ascP l lo hi) := by
  obtain ⟨r, er, hr⟩ := loop_allR (R := fun i v => E2 (fun k m => impl_ascending.l0 k m l lo hi l ((List.length l : Nat) : Int) i) v) (n := l.length) (QA lo hi l) true (E2.eq (fun k m => impl_ascending.l0_eq k m l lo hi l _ _) (E2.neg (by omega) E2.ret)) (fun i hi' hq v e => by
    obtain ⟨h1, h2⟩ := hq
    refine E2.eq (fun k m => impl_ascending.l0_eq k m l lo hi l _ _) (E2.pos (by omega) (E2.pos (by omega) (E2.pos (by omega) (E2.bind (inRange_ev _ _ _) (E2.neg (by simpa using h1) ?_)))))
    simp only [wrapS (show i < 9223372036854775807 by omega)]
    by_cases c : 0 < i
    · refine E2.pos (by omega) ?_
      simp only [wrapP c (show i < 9223372036854775807 by omega)]
      have := h2 c
      exact E2.pos (by omega) (E2.pos (by omega) (E2.neg (by omega) e))
    · exact E2.neg (by omega) e) (fun i hi' hq => by
    refine E2.eq (fun k m => impl_ascending.l0_eq k m l lo hi l _ _) (E2.pos (by omega) (E2.pos (by omega) (E2.pos (by omega) (E2.bind (inRange_ev _ _ _) ?_))))
    by_cases h1 : LE.le (α := Int) lo (rd (.int .i64) l (i : Int)) ∧ LE.le (α := Int) (rd (.int .i64) l (i : Int)) hi
    · obtain ⟨c, c1⟩ := notA hq h1
      refine E2.neg (by simpa using h1) (E2.pos (by omega) ?_)
      simp only [wrapP c (show i < 9223372036854775807 by omega)]
      exact E2.pos (by omega) (E2.pos (by omega) (E2.pos (by omega) E2.ret))
    · exact E2.pos (by simp only [decide_eq_true_eq]; exact h1) E2.ret)
  exact ⟨r, Ev.eq (fun k => impl_ascending_eq k l lo hi) (Ev.loop (f := fun k m => impl_ascending.l0 k m l lo hi l ((List.length l : Nat) : Int) 0) er), hr.trans ⟨fun h => h.1, fun h => ⟨h, rfl⟩⟩⟩
/-- A player alone, as the program tests it ahead of the Ids. -/
def okP (p : DT61) : Prop := (21 ≤ (p.2.1 : Int) ∧ (p.2.1 : Int) ≤ p.2.2.1) ∧ (p.2.2.1 : Int) ≤ 108 ∧ ascP p.2.2.2.1 1 4
def QP (l : List DT61) (i : Nat) : Prop := okP (rd T61 l (i : Int)) ∧ (1 ≤ ((rd T61 l (i : Int)).1 : Int) ∧ ((rd T61 l (i : Int)).1 : Int) ≤ 99) ∧ (0 < i → LT.lt (α := Int) (rd T61 l ((i - 1 : Nat) : Int)).1 (rd T61 l (i : Int)).1)
def playersP (l : List DT61) : Prop := (∀ i, i < l.length → QP l i) ∧ decide (((l.length : Nat) : Int) ≤ 8) = true
/-- No row is longer than the law allows. -/
def SmP (l : List DT61) : Prop := l.length ≤ 1048576 ∧ ∀ i : Nat, i < l.length → (rd T61 l (i : Int)).2.2.2.1.length ≤ 1048576
theorem specPl_in (l : List DT61) (i : Nat) (a b c : Int) (vs : List Int) (hv : vs.length ≤ 1048576) (hi : i < l.length) (hl : l.length ≤ 1048576) (x : Bool) (e : E2 (fun k n => spec_ArePlayers.l0 k n l ((i + 1 : Nat) : Int)) x) :
    ∃ r, E2 (fun k n => spec_ArePlayers.l1 k k n l (i : Int) 0 a b c vs) r ∧ (r = true ↔ ascP vs 1 4 ∧ x = true) := by
  obtain ⟨r, er, hr⟩ := loop_allR (R := fun j v => E3 (fun k m n => spec_ArePlayers.l1 k m n l (i : Int) j a b c vs) v) (n := vs.length) (QA 1 4 vs) x (by
    refine E3.eq (fun k m n => spec_ArePlayers.l1_eq k m n l (i : Int) _ a b c vs) (E3.neg (by omega) ?_)
    simp only [wrapS (show i < 9223372036854775807 by omega)]
    exact E3.out e) (fun j hj hq v e => by
    obtain ⟨h1, h2⟩ := hq
    refine E3.eq (fun k m n => spec_ArePlayers.l1_eq k m n l (i : Int) _ a b c vs) (E3.pos (by omega) (E3.pos (by omega) (E3.pos (by omega) (E3.bind (l1In_ev _ _ _) (E3.neg (by simpa using h1) ?_)))))
    simp only [wrapS (show j < 9223372036854775807 by omega)]
    by_cases c : 0 < j
    · refine E3.pos (by omega) ?_
      simp only [wrapP c (show j < 9223372036854775807 by omega)]
      have := h2 c
      exact E3.pos (by omega) (E3.pos (by omega) (E3.pos (by omega) (E3.pos (by omega) (E3.neg (by omega) e))))
    · exact E3.neg (by omega) e) (fun j hj hq => by
    refine E3.eq (fun k m n => spec_ArePlayers.l1_eq k m n l (i : Int) _ a b c vs) (E3.pos (by omega) (E3.pos (by omega) (E3.pos (by omega) (E3.bind (l1In_ev _ _ _) ?_))))
    by_cases h1 : LE.le (α := Int) 1 (rd (.int .i64) vs (j : Int)) ∧ LE.le (α := Int) (rd (.int .i64) vs (j : Int)) 4
    · obtain ⟨c, c1⟩ := notA hq h1
      refine E3.neg (by simpa using h1) (E3.pos (by omega) ?_)
      simp only [wrapP c (show j < 9223372036854775807 by omega)]
      exact E3.pos (by omega) (E3.pos (by omega) (E3.pos (by omega) (E3.pos (by omega) (E3.pos (by omega) E3.ret))))
    · exact E3.pos (by simp only [decide_eq_true_eq]; exact h1) E3.ret)
  exact ⟨r, E3.loop (f := fun k m n => spec_ArePlayers.l1 k m n l (i : Int) 0 a b c vs) er, hr⟩
theorem specPlayers_ev (l : List DT61) (hs : SmP l) : ∃ r, Ev (fun k => spec_ArePlayers k l) r ∧ (r = true ↔ playersP l) := by
  have hl := hs.1
  have key : ∀ d i, i + d = l.length → ∃ r, E2 (fun k m => spec_ArePlayers.l0 k m l (i : Int)) r ∧ (r = true ↔ (∀ j, i ≤ j → j < l.length → QP l j) ∧ decide (((l.length : Nat) : Int) ≤ 8) = true) := by
    intro d
    induction d with
    | zero =>
      intro i hi
      exact ⟨_, E2.eq (fun k m => spec_ArePlayers.l0_eq k m l _) (E2.neg (by omega) E2.ret), ⟨fun h => ⟨fun j _ _ => by omega, h⟩, fun h => h.2⟩⟩
    | succ d ih =>
      intro i hi
      have hlt : i < l.length := by omega
      obtain ⟨x, ex, hx⟩ := ih (i + 1) (by omega)
      have stop : (∃ e : E2 (fun k m => spec_ArePlayers.l0 k m l (i : Int)) false, True) → ¬ QP l i → ∃ r, E2 (fun k m => spec_ArePlayers.l0 k m l (i : Int)) r ∧ (r = true ↔ (∀ j, i ≤ j → j < l.length → QP l j) ∧ decide (((l.length : Nat) : Int) ≤ 8) = true) := fun ⟨e, _⟩ h =>
        ⟨false, e, by simp only [Bool.false_eq_true, false_iff]; exact fun c => h (c.1 i (Nat.le_refl _) hlt)⟩
      have st : ∀ {f : Nat → Nat → Option Bool} {v : Bool}, (∀ k m, spec_ArePlayers.l0 k (m + 1) l (i : Int) = f k m) → E2 f v → E2 (fun k m => spec_ArePlayers.l0 k m l (i : Int)) v := fun h e => E2.eq h e
      by_cases h1 : LE.le (α := Int) 1 (rd T61 l (i : Int)).1 ∧ LE.le (α := Int) (rd T61 l (i : Int)).1 99
      · by_cases h2 : LE.le (α := Int) 21 (rd T61 l (i : Int)).2.1
        · by_cases h3 : LE.le (α := Int) (rd T61 l (i : Int)).2.1 (rd T61 l (i : Int)).2.2.1
          · by_cases h4 : LE.le (α := Int) (rd T61 l (i : Int)).2.2.1 108
            · obtain ⟨r, er, hr⟩ := specPl_in l i (rd T61 l (i : Int)).1 (rd T61 l (i : Int)).2.1 (rd T61 l (i : Int)).2.2.1 (rd T61 l (i : Int)).2.2.2.1 (hs.2 i hlt) hlt hl x ex
              by_cases c : 0 < i
              · by_cases h5 : LT.lt (α := Int) (rd T61 l ((i - 1 : Nat) : Int)).1 (rd T61 l (i : Int)).1
                · refine ⟨r, E2.eq (fun k m => spec_ArePlayers.l0_eq k m l _) (E2.pos (by omega) (E2.pos (by omega) (E2.pos (by omega) (E2.bind (l1In_ev _ _ _) (E2.neg (by simpa using h1) (E2.neg (by omega) (E2.neg (by omega) (E2.neg (by omega) (E2.pos (by omega) ?_))))))))), hr.trans ⟨fun ⟨h6, h7⟩ => ⟨fun j hj1 hj2 => ?_, (hx.1 h7).2⟩, fun h => ⟨(h.1 i (Nat.le_refl _) hlt).1.2.2, hx.2 ⟨fun j hj1 hj2 => h.1 j (by omega) hj2, h.2⟩⟩⟩⟩
                  · simp only [wrapP c (show i < 9223372036854775807 by omega)]
                    exact E2.pos (by omega) (E2.pos (by omega) (E2.neg (by omega) er))
                  · by_cases hji : j = i
                    · subst hji; exact ⟨⟨⟨h2, h3⟩, h4, h6⟩, h1, fun _ => h5⟩
                    · exact (hx.1 h7).1 j (by omega) hj2
                · refine stop ⟨E2.eq (fun k m => spec_ArePlayers.l0_eq k m l _) (E2.pos (by omega) (E2.pos (by omega) (E2.pos (by omega) (E2.bind (l1In_ev _ _ _) (E2.neg (by simpa using h1) (E2.neg (by omega) (E2.neg (by omega) (E2.neg (by omega) (E2.pos (by omega) ?_))))))))), trivial⟩ (fun h => h5 (h.2.2 c))
                  simp only [wrapP c (show i < 9223372036854775807 by omega)]
                  exact E2.pos (by omega) (E2.pos (by omega) (E2.pos (by omega) E2.ret))
              · refine ⟨r, E2.eq (fun k m => spec_ArePlayers.l0_eq k m l _) (E2.pos (by omega) (E2.pos (by omega) (E2.pos (by omega) (E2.bind (l1In_ev _ _ _) (E2.neg (by simpa using h1) (E2.neg (by omega) (E2.neg (by omega) (E2.neg (by omega) (E2.neg (by omega) er))))))))), hr.trans ⟨fun ⟨h6, h7⟩ => ⟨fun j hj1 hj2 => ?_, (hx.1 h7).2⟩, fun h => ⟨(h.1 i (Nat.le_refl _) hlt).1.2.2, hx.2 ⟨fun j hj1 hj2 => h.1 j (by omega) hj2, h.2⟩⟩⟩⟩
                by_cases hji : j = i
                · subst hji; exact ⟨⟨⟨h2, h3⟩, h4, h6⟩, h1, fun h => absurd h c⟩
                · exact (hx.1 h7).1 j (by omega) hj2
            · exact stop ⟨E2.eq (fun k m => spec_ArePlayers.l0_eq k m l _) (E2.pos (by omega) (E2.pos (by omega) (E2.pos (by omega) (E2.bind (l1In_ev _ _ _) (E2.neg (by simpa using h1) (E2.neg (by omega) (E2.neg (by omega) (E2.pos (by omega) E2.ret)))))))), trivial⟩ (fun h => h4 h.1.2.1)
          · exact stop ⟨E2.eq (fun k m => spec_ArePlayers.l0_eq k m l _) (E2.pos (by omega) (E2.pos (by omega) (E2.pos (by omega) (E2.bind (l1In_ev _ _ _) (E2.neg (by simpa using h1) (E2.neg (by omega) (E2.pos (by omega) E2.ret))))))), trivial⟩ (fun h => h3 h.1.1.2)
        · exact stop ⟨E2.eq (fun k m => spec_ArePlayers.l0_eq k m l _) (E2.pos (by omega) (E2.pos (by omega) (E2.pos (by omega) (E2.bind (l1In_ev _ _ _) (E2.neg (by simpa using h1) (E2.pos (by omega) E2.ret)))))), trivial⟩ (fun h => h2 h.1.1.1)
      · exact stop ⟨E2.eq (fun k m => spec_ArePlayers.l0_eq k m l _) (E2.pos (by omega) (E2.pos (by omega) (E2.pos (by omega) (E2.bind (l1In_ev _ _ _) (E2.pos (by simp only [decide_eq_true_eq]; exact h1) E2.ret))))), trivial⟩ (fun h => h1 h.2.1)
  obtain ⟨r, er, hr⟩ := key l.length 0 (by omega)
  exact ⟨r, Ev.eq (fun k => spec_ArePlayers_eq k l) (Ev.loop (f := fun k m => spec_ArePlayers.l0 k m l 0) er), hr.trans ⟨fun h => ⟨fun i hi => h.1 i (Nat.zero_le _) hi, h.2⟩, fun h => ⟨fun i _ hi => h.1 i hi, h.2⟩⟩⟩
def idsOfP (l : List DT61) : List Int := l.map fun p => p.1
theorem idsOfP_rd {l : List DT61} {i : Nat} (h : i < l.length) : Eq (α := Int) (rd (.int .i64) (idsOfP l) (i : Int)) (rd T61 l (i : Int)).1 := by
  unfold idsOfP
  rw [rd_at (by simpa using h), rd_at h]
  simp
theorem implPlayers_ev (l : List DT61) (hs : SmP l) : ∃ r, Ev (fun k => impl_ArePlayers k l) r ∧ (r = true ↔ playersP l) := by
  have hl := hs.1
  obtain ⟨a, ea, ha⟩ := asc_ev (idsOfP l) 1 99 (by unfold idsOfP; simpa using hl)
  obtain ⟨r, er, hr⟩ := loop_allR (R := fun i v => E2 (fun k m => impl_ArePlayers.l0 k m l l ((List.length l : Nat) : Int) i (idsOfP (l.take i.toNat))) v) (n := l.length) (fun i => okP (rd T61 l (i : Int))) (decide (((l.length : Nat) : Int) ≤ 8 ∧ a = true)) (by
    refine E2.eq (fun k m => impl_ArePlayers.l0_eq k m l l _ _ _) (E2.neg (by omega) ?_)
    rw [Int.toNat_natCast, List.take_length]
    by_cases c : ((l.length : Nat) : Int) ≤ 8
    · exact E2.pos c (E2.bind ea (E2.ret.val (by simp [c])))
    · exact E2.neg c (E2.ret.val (by simp [c]))) (fun i hi hq v e => by
    obtain ⟨h1, h2, h3⟩ := hq
    obtain ⟨b, eb, hb⟩ := asc_ev (rd T61 l (i : Int)).2.2.2.1 1 4 (hs.2 i hi)
    have hlen : (idsOfP (l.take ((i : Int)).toNat)).length = i := by unfold idsOfP; simp; omega
    refine E2.eq (fun k m => impl_ArePlayers.l0_eq k m l l _ _ _) (E2.pos (by omega) (E2.pos (by omega) (E2.pos (by omega) (E2.bind (inRange_ev _ _ _) (E2.neg (by simpa using h1) (E2.neg (Int.not_lt.2 h2) (E2.bind eb (E2.neg (by simpa using hb.2 h3) (E2.pos (by rw [hlen]; simp only [List.length_cons, List.length_nil]; omega) ?_)))))))))
    simp only [wrapS (show i < 9223372036854775807 by omega)]
    have he : idsOfP (l.take ((i : Int)).toNat) ++ [(rd T61 l (i : Int)).1] = idsOfP (l.take (((i + 1 : Nat) : Int)).toNat) := by
      unfold idsOfP
      rw [Int.toNat_natCast, Int.toNat_natCast, List.take_succ_eq_append_getElem hi, rd_at hi, List.map_append]
      rfl
    rw [he]
    exact e) (fun i hi hq => by
    obtain ⟨b, eb, hb⟩ := asc_ev (rd T61 l (i : Int)).2.2.2.1 1 4 (hs.2 i hi)
    refine E2.eq (fun k m => impl_ArePlayers.l0_eq k m l l _ _ _) (E2.pos (by omega) (E2.pos (by omega) (E2.pos (by omega) (E2.bind (inRange_ev _ _ _) ?_))))
    by_cases h1 : LE.le (α := Int) 21 (rd T61 l (i : Int)).2.1 ∧ LE.le (α := Int) (rd T61 l (i : Int)).2.1 (rd T61 l (i : Int)).2.2.1
    · refine E2.neg (by simpa using h1) ?_
      by_cases h2 : LE.le (α := Int) (rd T61 l (i : Int)).2.2.1 108
      · exact E2.neg (by omega) (E2.bind eb (E2.pos (fun c => hq ⟨h1, h2, hb.1 c⟩) E2.ret))
      · exact E2.pos (by omega) E2.ret
    · exact E2.pos (by simp only [decide_eq_true_eq]; exact h1) E2.ret)
  have er' : E2 (fun k m => impl_ArePlayers.l0 k m l l ((List.length l : Nat) : Int) 0 []) r := er
  refine ⟨r, Ev.eq (fun k => impl_ArePlayers_eq k l) (Ev.loop (f := fun k m => impl_ArePlayers.l0 k m l l ((List.length l : Nat) : Int) 0 []) er'), hr.trans ?_⟩
  unfold playersP
  rw [decide_eq_true_eq, decide_eq_true_eq, ha]
  unfold ascP
  have hlen : (idsOfP l).length = l.length := by unfold idsOfP; simp
  rw [hlen]
  constructor
  · rintro ⟨h1, h2, h3⟩
    refine ⟨fun i hi => ?_, h2⟩
    obtain ⟨k1, k2⟩ := h3 i hi
    rw [idsOfP_rd hi] at k1
    refine ⟨h1 i hi, k1, fun c => ?_⟩
    have := k2 c
    rw [idsOfP_rd hi, idsOfP_rd (show i - 1 < l.length by omega)] at this
    exact this
  · rintro ⟨h1, h2⟩
    refine ⟨fun i hi => (h1 i hi).1, h2, fun i hi => ?_⟩
    obtain ⟨k1, k2, k3⟩ := h1 i hi
    refine ⟨by rw [idsOfP_rd hi]; exact k2, fun c => ?_⟩
    rw [idsOfP_rd hi, idsOfP_rd (show i - 1 < l.length by omega)]
    exact k3 c
def sitsP (l : List DT61) (sc : List DT49) (x v : Int) (j : Nat) : Prop := Eq (α := Int) (rd T61 l (j : Int)).1 x ∧ canP (rd T61 l (j : Int)) sc v
def QI (l : List DT61) (sc : List DT49) (seats : List Int) (i : Nat) : Prop := (∃ j, j < l.length ∧ sitsP l sc (rd (.int .i64) seats (i : Int)) ((i + 1 : Nat) : Int) j) ∧ ¬ (rd (.int .i64) seats (i : Int)) ∈ seats.take i
def seatingP (l : List DT61) (sc : List DT49) (seats : List Int) : Prop := (∀ i, i < seats.length → QI l sc seats i) ∧ playersP l ∧ scoreP sc ∧ ((seats.length : Nat) : Int) ≤ 4
theorem takeNat (i : Nat) (s : List Int) : List.take (Int.toNat (i : Int) - Int.toNat 0) (List.drop (Int.toNat 0) s) = s.take i := by
  simp
theorem specSeat_in (l : List DT61) (sc : List DT49) (seats : List Int) (hs : SmP l) (h1 : sc.length ≤ 1048576) (h2 : seats.length ≤ 1048576) (i : Nat) (hi : i < seats.length) (x : Bool) (e : E2 (fun k n => spec_IsSeating.l0 k n l sc seats ((i + 1 : Nat) : Int)) x) :
    ∃ r, E2 (fun k n => spec_IsSeating.l1 k k n l sc seats (i : Int) false 0) r ∧ (r = true ↔ QI l sc seats i ∧ x = true) := by
  have hl := hs.1
  have key : ∀ d (j : Nat) (g : Bool), j + d = l.length → ∃ r, E3 (fun k m n => spec_IsSeating.l1 k m n l sc seats (i : Int) g (j : Int)) r ∧
      (r = true ↔ ((g = true ∨ ∃ q, j ≤ q ∧ q < l.length ∧ sitsP l sc (rd (.int .i64) seats (i : Int)) ((i + 1 : Nat) : Int) q) ∧ ¬ (rd (.int .i64) seats (i : Int)) ∈ seats.take i) ∧ x = true) := by
    intro d
    induction d with
    | zero =>
      intro j g hj
      have no : ¬ ∃ q, j ≤ q ∧ q < l.length ∧ sitsP l sc (rd (.int .i64) seats (i : Int)) ((i + 1 : Nat) : Int) q := by rintro ⟨q, h3, h4, _⟩; omega
      cases g with
      | false =>
        exact ⟨false, E3.eq (fun k m n => spec_IsSeating.l1_eq k m n l sc seats (i : Int) false _) (E3.neg (by omega) (E3.pos (by simp) E3.ret)), by simp only [Bool.false_eq_true, false_iff, false_or]; exact fun h => no h.1.1⟩
      | true =>
        by_cases hm : (rd (.int .i64) seats (i : Int)) ∈ seats.take i
        · refine ⟨false, E3.eq (fun k m n => spec_IsSeating.l1_eq k m n l sc seats (i : Int) true _) (E3.neg (by omega) (E3.neg (by simp) (E3.pos (by omega) (E3.pos (by omega) (E3.pos (by omega) (E3.pos (by omega) (E3.bind (has_ev _ _ ?_) (E3.pos ?_ E3.ret)))))))), by simp [hm]⟩
          · simp; omega
          · rw [takeNat]; simpa using hm
        · refine ⟨x, E3.eq (fun k m n => spec_IsSeating.l1_eq k m n l sc seats (i : Int) true _) (E3.neg (by omega) (E3.neg (by simp) (E3.pos (by omega) (E3.pos (by omega) (E3.pos (by omega) (E3.pos (by omega) (E3.bind (has_ev _ _ ?_) (E3.neg ?_ ?_)))))))), by simp [hm]⟩
          · simp; omega
          · rw [takeNat]; simpa using hm
          · simp only [wrapS (show i < 9223372036854775807 by omega)]
            exact E3.out e
    | succ d ih =>
      intro j g hj
      have hlt : j < l.length := by omega
      cases g with
      | true =>
        obtain ⟨r, er, hr⟩ := ih (j + 1) true (by omega)
        refine ⟨r, E3.eq (fun k m n => spec_IsSeating.l1_eq k m n l sc seats (i : Int) true _) (E3.pos (by omega) (E3.pos rfl ?_)), hr.trans (by simp)⟩
        simp only [wrapS (show j < 9223372036854775807 by omega)]
        exact er
      | false =>
        have wi : IntKind.wrap .i64 ((i : Int) + 1) = ((i + 1 : Nat) : Int) := wrapS (by omega)
        by_cases hid : Eq (α := Int) (rd T61 l (j : Int)).1 (rd (.int .i64) seats (i : Int))
        · obtain ⟨c, ec, hc⟩ := specCan_ev (rd T61 l (j : Int)) sc ((i + 1 : Nat) : Int) (hs.2 j hlt) h1
          obtain ⟨r, er, hr⟩ := ih (j + 1) c (by omega)
          refine ⟨r, E3.eq (fun k m n => spec_IsSeating.l1_eq k m n l sc seats (i : Int) false _) (E3.pos (by omega) (E3.neg (by simp) (E3.pos (by omega) (E3.pos (by omega) (E3.pos (by omega) (E3.pos (by omega) (E3.pos hid (E3.pos (by omega) (E3.pos (by omega) ?_))))))))), hr.trans ?_⟩
          · simp only [wrapS (show j < 9223372036854775807 by omega), wi]
            refine E3.bind ec ?_
            simpa using er
          · refine and_congr (and_congr ⟨fun h => .inr ?_, fun h => ?_⟩ Iff.rfl) Iff.rfl
            · rcases h with h | ⟨q, h3, h4, h5⟩
              · exact ⟨j, Nat.le_refl _, hlt, hid, hc.1 h⟩
              · exact ⟨q, by omega, h4, h5⟩
            · rcases h with h | ⟨q, h3, h4, h5⟩
              · cases h
              · by_cases hq : q = j
                · subst hq; exact .inl (hc.2 h5.2)
                · exact .inr ⟨q, by omega, h4, h5⟩
        · obtain ⟨r, er, hr⟩ := ih (j + 1) false (by omega)
          refine ⟨r, E3.eq (fun k m n => spec_IsSeating.l1_eq k m n l sc seats (i : Int) false _) (E3.pos (by omega) (E3.neg (by simp) (E3.pos (by omega) (E3.pos (by omega) (E3.pos (by omega) (E3.pos (by omega) (E3.neg hid ?_))))))), hr.trans ?_⟩
          · simp only [wrapS (show j < 9223372036854775807 by omega)]
            exact er
          · refine and_congr (and_congr (or_congr Iff.rfl ⟨fun ⟨q, h3, h4, h5⟩ => ⟨q, by omega, h4, h5⟩, fun ⟨q, h3, h4, h5⟩ => ?_⟩) Iff.rfl) Iff.rfl
            by_cases hq : q = j
            · subst hq; exact absurd h5.1 hid
            · exact ⟨q, by omega, h4, h5⟩
  obtain ⟨r, er, hr⟩ := key l.length 0 false (by omega)
  refine ⟨r, E3.loop (f := fun k m n => spec_IsSeating.l1 k m n l sc seats (i : Int) false 0) er, hr.trans ?_⟩
  unfold QI
  simp
theorem specSeating_ev (l : List DT61) (sc : List DT49) (seats : List Int) (hs : SmP l) (h1 : sc.length ≤ 1048576) (h2 : seats.length ≤ 1048576) : ∃ r, Ev (fun k => spec_IsSeating k l sc seats) r ∧ (r = true ↔ seatingP l sc seats) := by
  have key : ∀ d i, i + d = seats.length → ∃ r, E2 (fun k m => spec_IsSeating.l0 k m l sc seats (i : Int)) r ∧ (r = true ↔ (∀ j, i ≤ j → j < seats.length → QI l sc seats j) ∧ playersP l ∧ scoreP sc ∧ ((seats.length : Nat) : Int) ≤ 4) := by
    intro d
    induction d with
    | zero =>
      intro i hi
      have tr : ∀ {p : Prop}, (p ↔ (∀ j, i ≤ j → j < seats.length → QI l sc seats j) ∧ p) := ⟨fun h => ⟨fun j _ _ => by omega, h⟩, fun h => h.2⟩
      obtain ⟨a, ea, ha⟩ := specPlayers_ev l hs
      by_cases ca : a = true
      · by_cases cs : scoreP sc
        · exact ⟨_, E2.eq (fun k m => spec_IsSeating.l0_eq k m l sc seats _) (E2.neg (by omega) (E2.bind ea (E2.pos ca (E2.bind (specScore_ev sc h1) (E2.pos (by simpa using cs) E2.ret))))), Iff.trans (by rw [decide_eq_true_eq]; exact ⟨fun h => ⟨ha.1 ca, cs, h⟩, fun h => h.2.2⟩) tr⟩
        · exact ⟨_, E2.eq (fun k m => spec_IsSeating.l0_eq k m l sc seats _) (E2.neg (by omega) (E2.bind ea (E2.pos ca (E2.bind (specScore_ev sc h1) (E2.neg (by simpa using cs) E2.ret))))), by simp only [Bool.false_eq_true, false_iff]; exact fun h => cs h.2.2.1⟩
      · exact ⟨_, E2.eq (fun k m => spec_IsSeating.l0_eq k m l sc seats _) (E2.neg (by omega) (E2.bind ea (E2.neg ca E2.ret))), by simp only [Bool.false_eq_true, false_iff]; exact fun h => ca (ha.2 h.2.1)⟩
    | succ d ih =>
      intro i hi
      have hlt : i < seats.length := by omega
      obtain ⟨x, ex, hx⟩ := ih (i + 1) (by omega)
      obtain ⟨r, er, hr⟩ := specSeat_in l sc seats hs h1 h2 i hlt x ex
      refine ⟨r, E2.eq (fun k m => spec_IsSeating.l0_eq k m l sc seats _) (E2.pos (by omega) er), hr.trans ⟨fun ⟨h3, h4⟩ => ⟨fun j hj1 hj2 => ?_, (hx.1 h4).2⟩, fun ⟨h3, h4⟩ => ⟨h3 i (Nat.le_refl _) hlt, hx.2 ⟨fun j hj1 hj2 => h3 j (by omega) hj2, h4⟩⟩⟩⟩
      by_cases hj : j = i
      · subst hj; exact h3
      · exact (hx.1 h4).1 j (by omega) hj2
  obtain ⟨r, er, hr⟩ := key seats.length 0 (by omega)
  exact ⟨r, Ev.eq (fun k => spec_IsSeating_eq k l sc seats) (Ev.loop (f := fun k m => spec_IsSeating.l0 k m l sc seats 0) er), hr.trans ⟨fun h => ⟨fun i hi => h.1 i (Nat.zero_le _) hi, h.2⟩, fun h => ⟨fun i _ hi => h.1 i hi, h.2⟩⟩⟩
theorem sits_ev (l : List DT61) (sc : List DT49) (x : Int) (i : Nat) (hs : SmP l) (h1 : sc.length ≤ 1048576) (hi : i < 1048576) : ∃ r, Ev (fun k => slices_ContainsFunc_impl_Player_159 k l x sc (i : Int)) r ∧ (r = true ↔ ∃ j, j < l.length ∧ sitsP l sc x ((i + 1 : Nat) : Int) j) := by
  have hl := hs.1
  have wi : IntKind.wrap .i64 ((i : Int) + 1) = ((i + 1 : Nat) : Int) := wrapS (by omega)
  have one : ∀ j, j < l.length → ∃ r, Ev (fun k => impl_IsSeating_1 k (rd T61 l (j : Int)) x sc (i : Int)) r ∧ (r = true ↔ sitsP l sc x ((i + 1 : Nat) : Int) j) := by
    intro j hj
    by_cases hid : Eq (α := Int) (rd T61 l (j : Int)).1 x
    · obtain ⟨c, ec, hc⟩ := implCan_ev (rd T61 l (j : Int)) sc ((i + 1 : Nat) : Int) (hs.2 j hj) h1
      refine ⟨c, Ev.eq (fun k => impl_IsSeating_1_eq k _ x sc (i : Int)) (Ev.pos hid ?_), hc.trans ⟨fun h => ⟨hid, h⟩, fun h => h.2⟩⟩
      simp only [wi]
      exact Ev.bind ec (Ev.ret.val (by simp))
    · exact ⟨false, Ev.eq (fun k => impl_IsSeating_1_eq k _ x sc (i : Int)) (Ev.neg hid Ev.ret), by simp only [Bool.false_eq_true, false_iff]; exact fun h => hid h.1⟩
  have hdec : ∀ j, Decidable (sitsP l sc x ((i + 1 : Nat) : Int) j) := fun j => Classical.propDecidable _
  have er := loop_firstR (R := fun j v => E2 (fun k m => slices_IndexFunc_impl_Player_159.l0 k m l x sc (i : Int) ((List.length l : Nat) : Int) j) v) (n := l.length) (fun j => @decide _ (hdec j)) (E2.eq (fun k m => slices_IndexFunc_impl_Player_159.l0_eq k m l x sc _ _ _) (E2.neg (by omega) E2.ret)) (fun j hj hq v e => by
    obtain ⟨c, ec, hc⟩ := one j hj
    refine E2.eq (fun k m => slices_IndexFunc_impl_Player_159.l0_eq k m l x sc _ _ _) (E2.pos (by omega) (E2.pos (by omega) (E2.pos (by omega) (E2.bind ec (E2.neg (fun h => absurd (hc.1 h) (@of_decide_eq_false _ (hdec j) hq)) ?_)))))
    simp only [wrapS (show j < 9223372036854775807 by omega)]; exact e) (fun j hj hq => by
    obtain ⟨c, ec, hc⟩ := one j hj
    exact E2.eq (fun k m => slices_IndexFunc_impl_Player_159.l0_eq k m l x sc _ _ _) (E2.pos (by omega) (E2.pos (by omega) (E2.pos (by omega) (E2.bind ec (E2.pos (hc.2 (by simpa using hq)) E2.ret))))))
  refine ⟨_, Ev.eq (fun k => slices_ContainsFunc_impl_Player_159_eq k l x sc _) (Ev.bind (Ev.eq (fun k => slices_IndexFunc_impl_Player_159_eq k l x sc _) (Ev.loop (f := fun k m => slices_IndexFunc_impl_Player_159.l0 k m l x sc (i : Int) ((List.length l : Nat) : Int) 0) er)) Ev.ret), ?_⟩
  rw [decide_eq_true_eq, firstI_nonneg]
  simp only [decide_eq_true_eq]
theorem implSeating_ev (l : List DT61) (sc : List DT49) (seats : List Int) (hs : SmP l) (h1 : sc.length ≤ 1048576) (h2 : seats.length ≤ 1048576) : ∃ r, Ev (fun k => impl_IsSeating k l sc seats) r ∧ (r = true ↔ seatingP l sc seats) := by
  obtain ⟨a, ea, ha⟩ := implPlayers_ev l hs
  by_cases ca : a = true
  · by_cases cs : scoreP sc
    · by_cases c4 : ((seats.length : Nat) : Int) ≤ 4
      · obtain ⟨r, er, hr⟩ := loop_allR (R := fun i v => E2 (fun k m => impl_IsSeating.l0 k m l seats seats ((List.length seats : Nat) : Int) i sc) v) (n := seats.length) (QI l sc seats) true (E2.eq (fun k m => impl_IsSeating.l0_eq k m l seats seats _ _ sc) (E2.neg (by omega) E2.ret)) (fun i hi hq v e => by
          obtain ⟨c, ec, hc⟩ := sits_ev l sc (rd (.int .i64) seats (i : Int)) i hs h1 (by omega)
          refine E2.eq (fun k m => impl_IsSeating.l0_eq k m l seats seats _ _ sc) (E2.pos (by omega) (E2.pos (by omega) (E2.pos (by omega) (E2.pos (by omega) (E2.pos (by omega) (E2.bind (contains_ev _ _ ?_) (E2.neg ?_ (E2.bind ec (E2.neg (by simpa using hc.2 hq.1) ?_)))))))))
          · simp; omega
          · rw [takeNat]; simpa using hq.2
          · simp only [wrapS (show i < 9223372036854775807 by omega)]; exact e) (fun i hi hq => by
          obtain ⟨c, ec, hc⟩ := sits_ev l sc (rd (.int .i64) seats (i : Int)) i hs h1 (by omega)
          refine E2.eq (fun k m => impl_IsSeating.l0_eq k m l seats seats _ _ sc) (E2.pos (by omega) (E2.pos (by omega) (E2.pos (by omega) (E2.pos (by omega) (E2.pos (by omega) (E2.bind (contains_ev _ _ ?_) ?_))))))
          · simp; omega
          rw [takeNat]
          by_cases hm : (rd (.int .i64) seats (i : Int)) ∈ seats.take i
          · exact E2.pos (by simpa using hm) E2.ret
          · exact E2.neg (by simpa using hm) (E2.bind ec (E2.pos (fun h => hq ⟨hc.1 h, hm⟩) E2.ret)))
        exact ⟨r, Ev.eq (fun k => impl_IsSeating_eq k l sc seats) (Ev.bind ea (Ev.neg (by simpa using ca) (Ev.bind (implScore_ev sc h1) (Ev.neg (by simpa using cs) (Ev.neg (by omega) (Ev.loop (f := fun k m => impl_IsSeating.l0 k m l seats seats ((List.length seats : Nat) : Int) 0 sc) er)))))), hr.trans ⟨fun h => ⟨h.1, ha.1 ca, cs, c4⟩, fun h => ⟨h.1, rfl⟩⟩⟩
      · exact ⟨false, Ev.eq (fun k => impl_IsSeating_eq k l sc seats) (Ev.bind ea (Ev.neg (by simpa using ca) (Ev.bind (implScore_ev sc h1) (Ev.neg (by simpa using cs) (Ev.pos (by omega) Ev.ret))))), by simp only [Bool.false_eq_true, false_iff]; exact fun h => c4 h.2.2.2⟩
    · exact ⟨false, Ev.eq (fun k => impl_IsSeating_eq k l sc seats) (Ev.bind ea (Ev.neg (by simpa using ca) (Ev.bind (implScore_ev sc h1) (Ev.pos (by simpa using cs) Ev.ret)))), by simp only [Bool.false_eq_true, false_iff]; exact fun h => cs h.2.2.1⟩
  · exact ⟨false, Ev.eq (fun k => impl_IsSeating_eq k l sc seats) (Ev.bind ea (Ev.pos ca Ev.ret)), by simp only [Bool.false_eq_true, false_iff]; exact fun h => ca (ha.2 h.2.1)⟩
structure Sm (o : DT30) : Prop where
  score : o.1.length ≤ 1048576
  tempo : o.2.2.1.length ≤ 2097152
  players : SmP o.2.2.2.1
  seats : o.2.2.2.2.1.length ≤ 1048576
  marks : o.2.2.2.2.2.1.length ≤ 1048576
  letters : o.2.2.2.2.2.2.1.length ≤ 1048576
theorem sm_of {o : DT30} (h : Bk T30 o) : Sm o := by
  refine ⟨h.1.1, Nat.le_trans h.2.2.1.1 (by omega), ⟨h.2.2.2.1.1, fun i hi => ?_⟩, h.2.2.2.2.1.1, h.2.2.2.2.2.1.1, h.2.2.2.2.2.2.1.1⟩
  rw [rd_at hi]
  exact (h.2.2.2.1.2 _ (List.getElem_mem hi)).2.2.2.1.1
theorem isOrchestra_both (o : DT30) (h : Sm o) : ∃ r, Ev (fun k => spec_IsOrchestra k o) r ∧ Ev (fun k => impl_IsOrchestra k o) r := by
  obtain ⟨m, em1, em2⟩ := specMeter_ev o.2.1
  obtain ⟨a, ea, ha⟩ := specMarks_ev o.2.2.2.2.2.1 h.marks
  obtain ⟨a', ea', ha'⟩ := implMarks_ev o.2.2.2.2.2.1 h.marks
  obtain rfl : a' = a := by rw [Bool.eq_iff_iff]; exact ha'.trans ha.symm
  obtain ⟨b, eb, hb⟩ := specLetters_ev o.2.2.2.2.2.2.1 h.letters
  obtain ⟨b', eb', hb'⟩ := implLetters_ev o.2.2.2.2.2.2.1 h.letters
  obtain rfl : b' = b := by rw [Bool.eq_iff_iff]; exact hb'.trans hb.symm
  obtain ⟨c, ec, hc⟩ := specSeating_ev o.2.2.2.1 o.1 o.2.2.2.2.1 h.players h.score h.seats
  obtain ⟨c', ec', hc'⟩ := implSeating_ev o.2.2.2.1 o.1 o.2.2.2.2.1 h.players h.score h.seats
  obtain rfl : c' = c := by rw [Bool.eq_iff_iff]; exact hc'.trans hc.symm
  by_cases d1 : scoreP o.1
  · by_cases d2 : m = true
    · by_cases d3 : tempoP o.2.2.1
      · by_cases d4 : a' = true
        · by_cases d5 : b' = true
          · by_cases d6 : c' = true
            · by_cases d7 : 1 ≤ (o.2.2.2.2.2.2.2.1 : Int) ∧ (o.2.2.2.2.2.2.2.1 : Int) ≤ 9999
              · exact ⟨_, Ev.eq (fun k => spec_IsOrchestra_eq k o) (Ev.bind (specScore_ev _ h.score) (Ev.pos (by simpa using d1) (Ev.bind em1 (Ev.pos d2 (Ev.bind (specTempoB_ev _ h.tempo) (Ev.pos (by simpa using d3) (Ev.bind ea (Ev.pos d4 (Ev.bind eb (Ev.pos d5 (Ev.bind ec (Ev.pos d6 (Ev.bind (l1In_ev _ _ _) (Ev.pos (by simpa using d7) (Ev.bind (l1In_ev _ _ _) Ev.ret))))))))))))))),
                  Ev.eq (fun k => impl_IsOrchestra_eq k o) (Ev.bind (implScore_ev _ h.score) (Ev.pos (by simpa using d1) (Ev.bind em2 (Ev.pos d2 (Ev.bind (implTempoB_ev _ h.tempo) (Ev.pos (by simpa using d3) (Ev.bind ea' (Ev.pos d4 (Ev.bind eb' (Ev.pos d5 (Ev.bind ec' (Ev.pos d6 (Ev.bind (inRange_ev _ _ _) (Ev.pos (by simpa using d7) (Ev.bind (inRange_ev _ _ _) Ev.ret)))))))))))))))⟩
              · exact ⟨false, Ev.eq (fun k => spec_IsOrchestra_eq k o) (Ev.bind (specScore_ev _ h.score) (Ev.pos (by simpa using d1) (Ev.bind em1 (Ev.pos d2 (Ev.bind (specTempoB_ev _ h.tempo) (Ev.pos (by simpa using d3) (Ev.bind ea (Ev.pos d4 (Ev.bind eb (Ev.pos d5 (Ev.bind ec (Ev.pos d6 (Ev.bind (l1In_ev _ _ _) (Ev.neg (by simpa using d7) Ev.ret)))))))))))))),
                  Ev.eq (fun k => impl_IsOrchestra_eq k o) (Ev.bind (implScore_ev _ h.score) (Ev.pos (by simpa using d1) (Ev.bind em2 (Ev.pos d2 (Ev.bind (implTempoB_ev _ h.tempo) (Ev.pos (by simpa using d3) (Ev.bind ea' (Ev.pos d4 (Ev.bind eb' (Ev.pos d5 (Ev.bind ec' (Ev.pos d6 (Ev.bind (inRange_ev _ _ _) (Ev.neg (by simpa using d7) Ev.ret))))))))))))))⟩
            · exact ⟨false, Ev.eq (fun k => spec_IsOrchestra_eq k o) (Ev.bind (specScore_ev _ h.score) (Ev.pos (by simpa using d1) (Ev.bind em1 (Ev.pos d2 (Ev.bind (specTempoB_ev _ h.tempo) (Ev.pos (by simpa using d3) (Ev.bind ea (Ev.pos d4 (Ev.bind eb (Ev.pos d5 (Ev.bind ec (Ev.neg d6 Ev.ret)))))))))))),
                Ev.eq (fun k => impl_IsOrchestra_eq k o) (Ev.bind (implScore_ev _ h.score) (Ev.pos (by simpa using d1) (Ev.bind em2 (Ev.pos d2 (Ev.bind (implTempoB_ev _ h.tempo) (Ev.pos (by simpa using d3) (Ev.bind ea' (Ev.pos d4 (Ev.bind eb' (Ev.pos d5 (Ev.bind ec' (Ev.neg d6 Ev.ret))))))))))))⟩
          · exact ⟨false, Ev.eq (fun k => spec_IsOrchestra_eq k o) (Ev.bind (specScore_ev _ h.score) (Ev.pos (by simpa using d1) (Ev.bind em1 (Ev.pos d2 (Ev.bind (specTempoB_ev _ h.tempo) (Ev.pos (by simpa using d3) (Ev.bind ea (Ev.pos d4 (Ev.bind eb (Ev.neg d5 Ev.ret)))))))))),
              Ev.eq (fun k => impl_IsOrchestra_eq k o) (Ev.bind (implScore_ev _ h.score) (Ev.pos (by simpa using d1) (Ev.bind em2 (Ev.pos d2 (Ev.bind (implTempoB_ev _ h.tempo) (Ev.pos (by simpa using d3) (Ev.bind ea' (Ev.pos d4 (Ev.bind eb' (Ev.neg d5 Ev.ret))))))))))⟩
        · exact ⟨false, Ev.eq (fun k => spec_IsOrchestra_eq k o) (Ev.bind (specScore_ev _ h.score) (Ev.pos (by simpa using d1) (Ev.bind em1 (Ev.pos d2 (Ev.bind (specTempoB_ev _ h.tempo) (Ev.pos (by simpa using d3) (Ev.bind ea (Ev.neg d4 Ev.ret)))))))),
            Ev.eq (fun k => impl_IsOrchestra_eq k o) (Ev.bind (implScore_ev _ h.score) (Ev.pos (by simpa using d1) (Ev.bind em2 (Ev.pos d2 (Ev.bind (implTempoB_ev _ h.tempo) (Ev.pos (by simpa using d3) (Ev.bind ea' (Ev.neg d4 Ev.ret))))))))⟩
      · exact ⟨false, Ev.eq (fun k => spec_IsOrchestra_eq k o) (Ev.bind (specScore_ev _ h.score) (Ev.pos (by simpa using d1) (Ev.bind em1 (Ev.pos d2 (Ev.bind (specTempoB_ev _ h.tempo) (Ev.neg (by simpa using d3) Ev.ret)))))),
          Ev.eq (fun k => impl_IsOrchestra_eq k o) (Ev.bind (implScore_ev _ h.score) (Ev.pos (by simpa using d1) (Ev.bind em2 (Ev.pos d2 (Ev.bind (implTempoB_ev _ h.tempo) (Ev.neg (by simpa using d3) Ev.ret))))))⟩
    · exact ⟨false, Ev.eq (fun k => spec_IsOrchestra_eq k o) (Ev.bind (specScore_ev _ h.score) (Ev.pos (by simpa using d1) (Ev.bind em1 (Ev.neg d2 Ev.ret)))),
        Ev.eq (fun k => impl_IsOrchestra_eq k o) (Ev.bind (implScore_ev _ h.score) (Ev.pos (by simpa using d1) (Ev.bind em2 (Ev.neg d2 Ev.ret))))⟩
  · exact ⟨false, Ev.eq (fun k => spec_IsOrchestra_eq k o) (Ev.bind (specScore_ev _ h.score) (Ev.neg (by simpa using d1) Ev.ret)),
      Ev.eq (fun k => impl_IsOrchestra_eq k o) (Ev.bind (implScore_ev _ h.score) (Ev.neg (by simpa using d1) Ev.ret))⟩
theorem l29_ev (l : List DT61) (h : Bk (.list T61) l) : Ev (fun k => spec_l29Copy k l) l := by
  have hl : l.length ≤ 1048576 := h.1
  have key : ∀ d (i : Nat) (s : List DT61), i + d = l.length → s.length = i → s ++ l.drop i = l → E2 (fun k m => spec_l29Copy.l0 k m l (i : Int) s) l := by
    intro d
    induction d with
    | zero =>
      intro i s hi hs ht
      have hi : i = l.length := by omega
      subst hi
      have e : E2 (fun k m => spec_l29Copy.l0 k m l ((l.length : Nat) : Int) s) s := by
        refine E2.eq (fun k m => spec_l29Copy.l0_eq k m l _ s) ?_
        refine E2.neg (by omega) ?_
        exact E2.ret
      exact e.val (by rw [← ht]; simp)
    | succ d ih =>
      intro i s hi hs ht
      have hi' : i < l.length := by omega
      have hb := (bk_rd h hi').2.2.2.1.1
      refine E2.eq (fun k m => spec_l29Copy.l0_eq k m l _ s) ?_
      refine E2.pos (by omega) ?_
      refine E2.pos (by omega) ?_
      refine E2.pos (by omega) ?_
      refine E2.pos (by simp only [List.length_nil]; omega) ?_
      refine E2.pos (by simp only [List.length_cons, List.length_nil]; omega) ?_
      simp only [wrapS (show i < 9223372036854775807 by omega)]
      refine ih (i + 1) _ (by omega) (by simp; omega) ?_
      rw [List.append_assoc]
      refine Eq.trans ?_ ht
      congr 1
      exact (drop_rd (t := T61) hi').symm
  exact Ev.eq (fun k => spec_l29Copy_eq k l) (Ev.loop (f := fun k m => spec_l29Copy.l0 k m l 0 []) (key l.length 0 [] (by omega) rfl (by simp)))
theorem l33_ev (o : DT30) (h : Bk T30 o) : Ev (fun k => spec_l33Copy k o) o := by
  have h1 := h.1.1
  have h2 := h.2.2.1.1
  have h4 := h.2.2.2.2.1.1
  have h5 := h.2.2.2.2.2.1.1
  have h6 := h.2.2.2.2.2.2.1.1
  refine Ev.eq (fun k => spec_l33Copy_eq k o) ?_
  refine Ev.pos (by simp only [List.length_nil]; omega) ?_
  refine Ev.pos (by simp only [List.length_nil]; omega) ?_
  refine Ev.bind (l29_ev o.2.2.2.1 h.2.2.2.1) ?_
  refine Ev.pos (by simp only [List.length_nil]; omega) ?_
  refine Ev.pos (by simp only [List.length_nil]; omega) ?_
  refine Ev.pos (by simp only [List.length_nil]; omega) ?_
  exact Ev.ret
theorem cloneI_ev (l : List Int) (hl : l.length ≤ 1048576) : Ev (fun k => impl_clone_int k l) l :=
  Ev.eq (fun k => impl_clone_int_eq k l) (Ev.pos (by simp only [List.length_nil]; omega) Ev.ret)
theorem cloneT_ev (l : List DT23) (hl : l.length ≤ 1048576) : Ev (fun k => impl_clone_impl_Tempo k l) l :=
  Ev.eq (fun k => impl_clone_impl_Tempo_eq k l) (Ev.pos (by simp only [List.length_nil]; omega) Ev.ret)
theorem cloneM_ev (l : List DT131) (hl : l.length ≤ 1048576) : Ev (fun k => impl_clone_impl_Mark k l) l :=
  Ev.eq (fun k => impl_clone_impl_Mark_eq k l) (Ev.pos (by simp only [List.length_nil]; omega) Ev.ret)
theorem cloneL_ev (l : List DT23) (hl : l.length ≤ 1048576) : Ev (fun k => impl_clone_impl_Letter k l) l :=
  Ev.eq (fun k => impl_clone_impl_Letter_eq k l) (Ev.pos (by simp only [List.length_nil]; omega) Ev.ret)
theorem cloneP_ev (p : DT61) (h : Bk T61 p) : Ev (fun k => impl_clonePlayer k p) p :=
  Ev.eq (fun k => impl_clonePlayer_eq k p) (Ev.bind (cloneI_ev _ h.2.2.2.1.1) Ev.ret)
theorem copied_ev (o : DT30) (h : Bk T30 o) : Ev (fun k => impl_Orchestra__copied k o) o := by
  have hp : Bk (.list T61) o.2.2.2.1 := h.2.2.2.1
  have hl : o.2.2.2.1.length ≤ 1048576 := hp.1
  have key : ∀ d (i : Nat) (s : List DT61), i + d = o.2.2.2.1.length → s.length = i → s ++ o.2.2.2.1.drop i = o.2.2.2.1 → E2 (fun k m => impl_Orchestra__copied.l0 k m o.2.2.2.1 ((List.length o.2.2.2.1 : Nat) : Int) (i : Int) o.1 o.2.1.1 o.2.1.2.1 o.2.2.1 o.2.2.2.1 o.2.2.2.2.1 o.2.2.2.2.2.1 o.2.2.2.2.2.2.1 o.2.2.2.2.2.2.2.1 o.2.2.2.2.2.2.2.2.1 0 0 0 0 s) o := by
    intro d
    induction d with
    | zero =>
      intro i s hi hs ht
      have hi : i = o.2.2.2.1.length := by omega
      subst hi
      have hs' : s = o.2.2.2.1 := by rw [← ht]; simp
      subst hs'
      refine E2.eq (fun k m => impl_Orchestra__copied.l0_eq k m _ _ _ _ _ _ _ _ _ _ _ _ _ _ _ _ _ _) ?_
      refine E2.neg (by omega) ?_
      refine E2.bind (cloneE_ev _ h.1.1) ?_
      refine E2.bind (cloneT_ev _ h.2.2.1.1) ?_
      refine E2.bind (cloneI_ev _ h.2.2.2.2.1.1) ?_
      refine E2.bind (cloneM_ev _ h.2.2.2.2.2.1.1) ?_
      refine E2.bind (cloneL_ev _ h.2.2.2.2.2.2.1.1) ?_
      exact E2.ret
    | succ d ih =>
      intro i s hi hs ht
      have hi' : i < o.2.2.2.1.length := by omega
      refine E2.eq (fun k m => impl_Orchestra__copied.l0_eq k m _ _ _ _ _ _ _ _ _ _ _ _ _ _ _ _ _ _) ?_
      refine E2.pos (by omega) ?_
      refine E2.pos (by omega) ?_
      refine E2.pos (by omega) ?_
      refine E2.bind (cloneP_ev _ (bk_rd hp hi')) ?_
      refine E2.pos (by simp only [List.length_cons, List.length_nil]; omega) ?_
      simp only [wrapS (show i < 9223372036854775807 by omega)]
      refine ih (i + 1) _ (by omega) (by simp; omega) ?_
      rw [List.append_assoc]
      refine Eq.trans ?_ ht
      congr 1
      exact (drop_rd (t := T61) hi').symm
  exact Ev.eq (fun k => impl_Orchestra__copied_eq k o) (Ev.loop (f := fun k m => impl_Orchestra__copied.l0 k m o.2.2.2.1 ((List.length o.2.2.2.1 : Nat) : Int) 0 o.1 o.2.1.1 o.2.1.2.1 o.2.2.1 o.2.2.2.1 o.2.2.2.2.1 o.2.2.2.2.2.1 o.2.2.2.2.2.2.1 o.2.2.2.2.2.2.2.1 o.2.2.2.2.2.2.2.2.1 0 0 0 0 []) (key o.2.2.2.1.length 0 [] (by omega) rfl (by simp)))
theorem markHeldO (o : DT30) (b : Bk T30 o) : ∃ r, Ev (fun k => laws_markOrchestra k o 1) r ∧ ¬ (r.1 : Int) < 0 ∧ Ev (fun k => laws_heldOrchestra k (r.2.1, (o.2.1, (r.2.2.2.1, (r.2.2.2.2.1, (r.2.2.2.2.2.1, (r.2.2.2.2.2.2.1, (r.2.2.2.2.2.2.2.1, o.2.2.2.2.2.2.2))))))) 1) r.1 := by
  have q1 := b.1.1
  have q2 := b.2.2.1.1
  have q4 := b.2.2.2.2.1.1
  have q5 := b.2.2.2.2.2.1.1
  have q6 := b.2.2.2.2.2.2.1.1
  have s1 := laws_markPlayerS_sum o.2.2.2.1 b.2.2.2.1
  have s0 : 0 ≤ sumG laws_markPlayerS_cnt o.2.2.2.1 := sumG_nonneg fun x _ => by show (0 : Int) ≤ 3 + 1 * _; omega
  have m1 := laws_markEventS_ev o.1 (by omega) 1 (by omega) (by omega)
  have m2 := laws_markTempoS_ev o.2.2.1 (by omega) (1 + 4 * (o.1.length : Int)) (by omega) (by omega)
  have m3 := laws_markPlayerS_ev o.2.2.2.1 b.2.2.2.1 (1 + 4 * (o.1.length : Int) + 2 * (o.2.2.1.length : Int)) (by omega) (by omega)
  have m4 := laws_markIntS_ev o.2.2.2.2.1 (by omega) (1 + 4 * (o.1.length : Int) + 2 * (o.2.2.1.length : Int) + sumG laws_markPlayerS_cnt o.2.2.2.1) (by omega) (by omega)
  have m5 := laws_markMarkS_ev o.2.2.2.2.2.1 (by omega) (1 + 4 * (o.1.length : Int) + 2 * (o.2.2.1.length : Int) + sumG laws_markPlayerS_cnt o.2.2.2.1 + 1 * (o.2.2.2.2.1.length : Int)) (by omega) (by omega)
  have m6 := laws_markLetterS_ev o.2.2.2.2.2.2.1 (by omega) (1 + 4 * (o.1.length : Int) + 2 * (o.2.2.1.length : Int) + sumG laws_markPlayerS_cnt o.2.2.2.1 + 1 * (o.2.2.2.2.1.length : Int) + 5 * (o.2.2.2.2.2.1.length : Int)) (by omega) (by omega)
  have k1 := (laws_heldEventS_ev (marks (fun q : Int => ((q, (q + 1, (q + 2, (q + 3, ())))) : DT49)) 4 o.1.length 1) (by rw [marks_len]; omega) 1 (by omega) (by omega) (by rw [marks_len])).val (by rw [marks_len])
  have k2 := (laws_heldTempoS_ev (marks (fun q : Int => ((q, (q + 1, ())) : DT23)) 2 o.2.2.1.length (1 + 4 * (o.1.length : Int))) (by rw [marks_len]; omega) (1 + 4 * (o.1.length : Int)) (by omega) (by omega) (by rw [marks_len])).val (by rw [marks_len])
  have k3 := laws_heldPlayerS_ev o.2.2.2.1 b.2.2.2.1 (1 + 4 * (o.1.length : Int) + 2 * (o.2.2.1.length : Int)) (by omega) (by omega)
  have k4 := (laws_heldIntS_ev (marks (fun q : Int => (q : Int)) 1 o.2.2.2.2.1.length (1 + 4 * (o.1.length : Int) + 2 * (o.2.2.1.length : Int) + sumG laws_markPlayerS_cnt o.2.2.2.1)) (by rw [marks_len]; omega) (1 + 4 * (o.1.length : Int) + 2 * (o.2.2.1.length : Int) + sumG laws_markPlayerS_cnt o.2.2.2.1) (by omega) (by omega) (by rw [marks_len])).val (by rw [marks_len])
  have k5 := (laws_heldMarkS_ev (marks (fun q : Int => ((q, (q + 1, (q + 2, (q + 3, (q + 4, ()))))) : DT131)) 5 o.2.2.2.2.2.1.length (1 + 4 * (o.1.length : Int) + 2 * (o.2.2.1.length : Int) + sumG laws_markPlayerS_cnt o.2.2.2.1 + 1 * (o.2.2.2.2.1.length : Int))) (by rw [marks_len]; omega) (1 + 4 * (o.1.length : Int) + 2 * (o.2.2.1.length : Int) + sumG laws_markPlayerS_cnt o.2.2.2.1 + 1 * (o.2.2.2.2.1.length : Int)) (by omega) (by omega) (by rw [marks_len])).val (by rw [marks_len])
  have k6 := (laws_heldLetterS_ev (marks (fun q : Int => ((q, (q + 1, ())) : DT23)) 2 o.2.2.2.2.2.2.1.length (1 + 4 * (o.1.length : Int) + 2 * (o.2.2.1.length : Int) + sumG laws_markPlayerS_cnt o.2.2.2.1 + 1 * (o.2.2.2.2.1.length : Int) + 5 * (o.2.2.2.2.2.1.length : Int))) (by rw [marks_len]; omega) (1 + 4 * (o.1.length : Int) + 2 * (o.2.2.1.length : Int) + sumG laws_markPlayerS_cnt o.2.2.2.1 + 1 * (o.2.2.2.2.1.length : Int) + 5 * (o.2.2.2.2.2.1.length : Int)) (by omega) (by omega) (by rw [marks_len])).val (by rw [marks_len])
  refine ⟨_, Ev.eq (fun k => laws_markOrchestra_eq k o 1) (Ev.bind m1 (Ev.bind m2 (Ev.bind m3 (Ev.bind m4 (Ev.bind m5 (Ev.bind m6 Ev.ret)))))), ?_, ?_⟩
  · show ¬ (1 + 4 * (o.1.length : Int) + 2 * (o.2.2.1.length : Int) + sumG laws_markPlayerS_cnt o.2.2.2.1 + 1 * (o.2.2.2.2.1.length : Int) + 5 * (o.2.2.2.2.2.1.length : Int) + 2 * (o.2.2.2.2.2.2.1.length : Int)) < 0
    omega
  · refine Ev.eq (fun k => laws_heldOrchestra_eq k _ 1) ?_
    refine Ev.bind k1 ?_
    refine Ev.neg (by omega) ?_
    refine Ev.bind k2 ?_
    refine Ev.neg (by omega) ?_
    refine Ev.bind k3 ?_
    refine Ev.neg (by omega) ?_
    refine Ev.bind k4 ?_
    refine Ev.neg (by omega) ?_
    refine Ev.bind k5 ?_
    refine Ev.neg (by omega) ?_
    refine Ev.bind k6 ?_
    refine Ev.neg (by omega) ?_
    exact Ev.ret
theorem Ev.uniq {α : Type} {f : Nat → Option α} {a b : α} (h : Ev f a) (k : Ev f b) : a = b := by
  obtain ⟨K, h⟩ := h
  obtain ⟨M, k⟩ := k
  have h1 := h (max K M) (by omega)
  rw [k (max K M) (by omega)] at h1
  exact (Option.some.inj h1).symm
theorem tail2 (o o1 o2 : DT30) (b : Bk T30 o) (ok : Bool) (h : ok = true → (o1 = o2 ∧ Bk T30 o1) ∨ (Ev (fun k => spec_IsOrchestra k o1) false ∧ Ev (fun k => impl_IsOrchestra k o2) false)) : ∃ v : DT30 × (Bool × Unit), Bk T30 v.1 ∧ Ev (fun k => spec_l34Done k o o1 ok) v ∧
    Ev (fun k => if ¬ (ok = true) then (impl_Orchestra__copied k o).bind fun r3 => some (r3, (false, ())) else (impl_IsOrchestra k o2).bind fun r4 => if ¬ (r4 = true) then (impl_Orchestra__copied k o).bind fun r5 => some (r5, (false, ())) else some (o2, (true, ()))) v := by
  by_cases c : ok = true
  · rcases h c with ⟨rfl, bo⟩ | ⟨e1, e2⟩
    · obtain ⟨r, e1, e2⟩ := isOrchestra_both o1 (sm_of bo)
      by_cases d : r = true
      · exact ⟨(o1, (true, ())), bo, Ev.eq (fun k => spec_l34Done_eq k o o1 ok) (Ev.neg (by simpa using c) (Ev.bind e1 (Ev.neg (by simpa using d) Ev.ret))), Ev.neg (by simpa using c) (Ev.bind e2 (Ev.neg (by simpa using d) Ev.ret))⟩
      · exact ⟨(o, (false, ())), b, Ev.eq (fun k => spec_l34Done_eq k o o1 ok) (Ev.neg (by simpa using c) (Ev.bind e1 (Ev.pos d (Ev.bind (l33_ev _ b) Ev.ret)))), Ev.neg (by simpa using c) (Ev.bind e2 (Ev.pos d (Ev.bind (copied_ev _ b) Ev.ret)))⟩
    · exact ⟨(o, (false, ())), b, Ev.eq (fun k => spec_l34Done_eq k o o1 ok) (Ev.neg (by simpa using c) (Ev.bind e1 (Ev.pos (by simp) (Ev.bind (l33_ev _ b) Ev.ret)))), Ev.neg (by simpa using c) (Ev.bind e2 (Ev.pos (by simp) (Ev.bind (copied_ev _ b) Ev.ret)))⟩
  · exact ⟨(o, (false, ())), b, Ev.eq (fun k => spec_l34Done_eq k o o1 ok) (Ev.pos c (Ev.bind (l33_ev _ b) Ev.ret)), Ev.pos c (Ev.bind (copied_ev _ b) Ev.ret)⟩
theorem tail_both (o out : DT30) (b : Bk T30 o) (bo : Bk T30 out) (ok : Bool) : ∃ v : DT30 × (Bool × Unit), Bk T30 v.1 ∧ Ev (fun k => spec_l34Done k o out ok) v ∧
    Ev (fun k => if ¬ (ok = true) then (impl_Orchestra__copied k o).bind fun r3 => some (r3, (false, ())) else (impl_IsOrchestra k out).bind fun r4 => if ¬ (r4 = true) then (impl_Orchestra__copied k o).bind fun r5 => some (r5, (false, ())) else some (out, (true, ()))) v :=
  tail2 o out out b ok fun _ => .inl ⟨rfl, bo⟩
def seatV (r : List Int × Bool) : List Int × (Bool × Unit) := if r.2 = true then (r.1, (true, ())) else ([], (false, ()))
noncomputable def canF (l : List DT61) (sc : List DT49) : Nat → Int → Bool := fun k m => Go.QSeat.canB (rd T61 l (k : Int)) sc m
def idF (l : List DT61) : Nat → Int := fun k => (rd T61 l (k : Int)).1
theorem l29S_ev (l : List DT61) (sc : List DT49) (n : Nat) (hn : n ≤ 4) (hl : SmP l) (hs : sc.length ≤ 1048576) : ∀ (d : Nat) (t : List Int), t.length + d = n → Ev (fun k => spec_l29Seat k l sc (n : Int) t) (seatV (seatN (canF l sc) (idF l) l.length d t)) := by
  intro d
  induction d with
  | zero =>
    intro t ht
    exact Ev.eq (fun k => spec_l29Seat_eq k l sc _ t) (Ev.pos (by omega) (Ev.pos (by rw [List.length_nil]; omega) Ev.ret))
  | succ d ih =>
    intro t ht
    have key : ∀ (e i : Nat), i + e = l.length → E2 (fun k m => spec_l29Seat.l0 k m l sc (n : Int) t (i : Int)) (seatV (seatGo (seatN (canF l sc) (idF l) l.length d) (canF l sc) (idF l) l.length t (l.length - i))) := by
      intro e
      induction e with
      | zero =>
        intro i hi
        rw [show l.length - i = 0 by omega]
        exact E2.eq (fun k m => spec_l29Seat.l0_eq k m l sc _ t _) (E2.neg (by omega) E2.ret)
      | succ e ihe =>
        intro i hi
        have hll := hl.1
        have er := ihe (i + 1) (by omega)
        have hlt : i < l.length := by omega
        have i0 : (0 : Int) ≤ (i : Int) := by omega
        have i1 : (i : Int) < ((List.length l : Nat) : Int) := by omega
        have h1 := has_ev t (rd T61 l (i : Int)).1 (by omega)
        rw [seatGo_step hlt]
        by_cases q : decide (((rd T61 l (i : Int)).1 : Int) ∈ t) = true
        · rw [if_pos (by rw [show decide (idF l i ∈ t) = true from q]; rfl)]
          refine E2.eq (fun k m => spec_l29Seat.l0_eq k m l sc _ t _) (E2.pos i1 (E2.pos i0 (E2.pos i1 (E2.bind h1 (E2.pos q ?_)))))
          simp only [wrapS (show i < 9223372036854775807 by omega)]
          exact er
        · have qf : decide (idF l i ∈ t) = false := by
            have : decide (idF l i ∈ t) = decide (((rd T61 l (i : Int)).1 : Int) ∈ t) := rfl
            rw [this]
            simpa using q
          have hw : IntKind.wrap .i64 (((List.length t : Nat) : Int) + 1) = ((List.length t : Nat) : Int) + 1 := wrapI (by omega) (by omega)
          obtain ⟨b, eb, hb⟩ := specCan_ev (rd T61 l (i : Int)) sc (((List.length t : Nat) : Int) + 1) (hl.2 i hlt) hs
          have hcb : canF l sc i (t.length + 1) = b := by
            have h2 := (Go.QSeat.can_at (rd T61 l (i : Int)) sc (((List.length t : Nat) : Int) + 1) (hl.2 i hlt) hs).2
            rw [Bool.eq_iff_iff]
            exact h2.trans hb.symm
          by_cases qb : b = true
          · rw [if_neg (by rw [qf, hcb, qb]; simp)]
            have er2 := ih (([] ++ t) ++ [(rd T61 l (i : Int)).1]) (by simp; omega)
            rw [List.nil_append] at er2
            have hid : t ++ [(rd T61 l (i : Int)).1] = t ++ [idF l i] := rfl
            by_cases q2 : (seatN (canF l sc) (idF l) l.length d (t ++ [idF l i])).2 = true
            · rw [if_pos q2]
              have hv : seatV (seatN (canF l sc) (idF l) l.length d (t ++ [(rd T61 l (i : Int)).1])) = ((seatN (canF l sc) (idF l) l.length d (t ++ [idF l i])).1, (true, ())) := by
                rw [hid]; unfold seatV; rw [if_pos q2]
              rw [hv] at er2
              exact E2.eq (fun k m => spec_l29Seat.l0_eq k m l sc _ t _) (E2.pos i1 (E2.pos i0 (E2.pos i1 (E2.bind h1 (E2.neg q (E2.pos i0 (E2.pos i1 (by
                rw [hw]
                exact E2.bind eb (E2.neg (fun h => h qb) (E2.pos (by rw [List.length_nil]; omega) (E2.pos i0 (E2.pos i1 (E2.pos (by rw [List.length_append, List.length_nil, List.length_singleton]; omega) (E2.bind er2 (E2.pos rfl E2.ret)))))))))))))))
            · rw [if_neg q2]
              have hv : seatV (seatN (canF l sc) (idF l) l.length d (t ++ [(rd T61 l (i : Int)).1])) = ([], (false, ())) := by
                rw [hid]; unfold seatV; rw [if_neg q2]
              rw [hv] at er2
              refine E2.eq (fun k m => spec_l29Seat.l0_eq k m l sc _ t _) (E2.pos i1 (E2.pos i0 (E2.pos i1 (E2.bind h1 (E2.neg q (E2.pos i0 (E2.pos i1 ?_)))))))
              rw [hw]
              refine E2.bind eb (E2.neg (fun h => h qb) (E2.pos (by rw [List.length_nil]; omega) (E2.pos i0 (E2.pos i1 (E2.pos (by rw [List.length_append, List.length_nil, List.length_singleton]; omega) (E2.bind er2 (E2.neg (by simp) ?_)))))))
              simp only [wrapS (show i < 9223372036854775807 by omega)]
              exact er
          · have qb' : b = false := by simpa using qb
            rw [if_pos (by rw [hcb, qb']; simp)]
            refine E2.eq (fun k m => spec_l29Seat.l0_eq k m l sc _ t _) (E2.pos i1 (E2.pos i0 (E2.pos i1 (E2.bind h1 (E2.neg q (E2.pos i0 (E2.pos i1 ?_)))))))
            rw [hw]
            refine E2.bind eb (E2.pos qb ?_)
            simp only [wrapS (show i < 9223372036854775807 by omega)]
            exact er
    exact Ev.eq (fun k => spec_l29Seat_eq k l sc _ t) (Ev.neg (by omega) (Ev.loop (f := fun k m => spec_l29Seat.l0 k m l sc (n : Int) t 0) (key l.length 0 (by omega))))
theorem seatN_len {can : Nat → Int → Bool} {idOf : Nat → Int} {len : Nat} : ∀ (d : Nat) (t : List Int), (seatN can idOf len d t).1.length ≤ t.length + d
  | 0, t => Nat.le_refl _
  | d + 1, t => by
    have key : ∀ e, (seatGo (seatN can idOf len d) can idOf len t e).1.length ≤ t.length + (d + 1) := by
      intro e
      induction e with
      | zero => exact Nat.le_add_right _ _
      | succ e ih =>
        unfold seatGo
        split
        · exact ih
        · split
          · have := seatN_len (can := can) (idOf := idOf) (len := len) d (t ++ [idOf (len - (e + 1))])
            rw [List.length_append, List.length_singleton] at this
            show (seatN can idOf len d (t ++ [idOf (len - (e + 1))])).1.length ≤ _
            omega
          · exact ih
    exact key len
theorem seatR_len (l : List DT61) (sc : List DT49) (v : Int) : (seatR Go.QSeat.plB Go.QSeat.scB Go.QSeat.canB l sc v).1.length ≤ 4 := by
  unfold seatR
  split
  · rename_i h
    refine Nat.le_trans (seatN_len _ _) ?_
    rw [List.length_nil]
    omega
  · simp
theorem seatS_ev (l : List DT61) (sc : List DT49) (v : Int) (hl : SmP l) (hs : sc.length ≤ 1048576) : Ev (fun k => spec_SeatPlayers k l sc v) ((seatR Go.QSeat.plB Go.QSeat.scB Go.QSeat.canB l sc v).1, ((seatR Go.QSeat.plB Go.QSeat.scB Go.QSeat.canB l sc v).2, ())) := by
  obtain ⟨a, ea, ha⟩ := specPlayers_ev l hl
  have hpl : Go.QSeat.plB l = a := by
    rw [Bool.eq_iff_iff]
    exact (Go.QSeat.pl_at l hl).2.trans ha.symm
  have eb := specScore_ev sc hs
  have hsc : Go.QSeat.scB sc = true ↔ scoreP sc := (Go.QSeat.sc_at sc hs).2
  unfold seatR
  rw [hpl]
  by_cases qa : a = true
  · by_cases qb : scoreP sc
    · by_cases qv : 1 ≤ v ∧ v ≤ 4
      · rw [if_pos ⟨qa, hsc.2 qb, qv⟩]
        obtain ⟨n, rfl⟩ := Int.eq_ofNat_of_zero_le (show 0 ≤ v by omega)
        rw [Int.toNat_natCast]
        have er := l29S_ev l sc n (by omega) hl hs n [] (by simp)
        refine Ev.eq (fun k => spec_SeatPlayers_eq k l sc _) (Ev.bind ea (Ev.neg (fun h => h qa) (Ev.bind eb (Ev.neg (by simpa using qb) (Ev.bind (l1In_ev _ _ _) (Ev.neg (by simpa using qv) (Ev.bind er (Ev.ret.val ?_))))))))
        show (_ : List Int × (Bool × Unit)) = ((seatN (canF l sc) (idF l) l.length n []).1, ((seatN (canF l sc) (idF l) l.length n []).2, ()))
        unfold seatV
        split
        · rename_i h; rw [h]; simp
        · rename_i h
          have h : (seatN (canF l sc) (idF l) l.length n []).2 = false := by simpa using h
          rw [seatN_same n [] h, h]
          simp
      · rw [if_neg (fun h => qv h.2.2)]
        exact Ev.eq (fun k => spec_SeatPlayers_eq k l sc _) (Ev.bind ea (Ev.neg (fun h => h qa) (Ev.bind eb (Ev.neg (by simpa using qb) (Ev.bind (l1In_ev _ _ _) (Ev.pos (by simpa using qv) Ev.ret))))))
    · rw [if_neg (fun h => qb (hsc.1 h.2.1))]
      exact Ev.eq (fun k => spec_SeatPlayers_eq k l sc v) (Ev.bind ea (Ev.neg (fun h => h qa) (Ev.bind eb (Ev.pos (by simpa using qb) Ev.ret))))
  · rw [if_neg (fun h => qa h.1)]
    exact Ev.eq (fun k => spec_SeatPlayers_eq k l sc v) (Ev.bind ea (Ev.pos qa Ev.ret))
theorem seatI_ev (l : List DT61) (sc : List DT49) (v : Int) (hok : seatOk l sc) : Ev (fun k => impl_SeatPlayers k l sc v) ((seatR Go.QSeat.plB Go.QSeat.scB Go.QSeat.canB l sc v).1, ((seatR Go.QSeat.plB Go.QSeat.scB Go.QSeat.canB l sc v).2, ())) :=
  Ev.eq (fun k => impl_SeatPlayers_eq k l sc v) (by
    have := primSeat_eq Go.QSeat.plB Go.QSeat.scB Go.QSeat.canB (v := v) hok
    exact ⟨0, fun _ _ => this⟩)
theorem stepSeat_both (o : DT30) (v : Int) (b : Bk T30 o) : ∃ r : DT30 × (Bool × Unit), Bk T30 r.1 ∧ Ev (fun k => spec_StepSeat k o v) r ∧ Ev (fun k => impl_StepSeat k o v) r := by
  have fin : ∀ r : DT30 × (Bool × Unit), Ev (fun k => impl_stepped_56 k o v) r → Ev (fun k => impl_StepSeat k o v) r := fun r e => Ev.eq (fun k => impl_StepSeat_eq k o v) (Ev.bind e (Ev.ret.val (by simp)))
  have sm : SmP o.2.2.2.1 := ⟨b.2.2.2.1.1, fun i hi => by rw [rd_at hi]; exact (b.2.2.2.1.2 _ (List.getElem_mem hi)).2.2.2.1.1⟩
  have hok : seatOk o.2.2.2.1 o.1 := ⟨b.2.2.2.1.1, b.1.1, fun p hp => (b.2.2.2.1.2 p hp).2.2.2.1.1⟩
  have es := seatS_ev o.2.2.2.1 o.1 v sm b.1.1
  have ei := seatI_ev o.2.2.2.1 o.1 v hok
  have hlen := seatR_len o.2.2.2.1 o.1 v
  generalize seatR Go.QSeat.plB Go.QSeat.scB Go.QSeat.canB o.2.2.2.1 o.1 v = R at es ei hlen
  have hb : R.1.length ≤ 1048576 := by omega
  obtain ⟨r, br, e1, e2⟩ := tail_both o (o.1, (o.2.1, (o.2.2.1, (o.2.2.2.1, (R.1, o.2.2.2.2.2))))) b ⟨b.1, b.2.1, b.2.2.1, b.2.2.2.1, ⟨hb, fun _ _ => trivial⟩, b.2.2.2.2.2⟩ (decide (R.2 = true))
  refine ⟨r, br, ?_, fin r ?_⟩
  · exact Ev.eq (fun k => spec_StepSeat_eq k o v) (Ev.bind (l33_ev _ b) (Ev.bind es (Ev.bind e1 (Ev.ret.val (by simp)))))
  · exact Ev.eq (fun k => impl_stepped_56_eq k o v) (Ev.bind (copied_ev _ b) (Ev.bind (Ev.eq (fun k => impl_StepSeat_1_eq k o v) (Ev.bind ei Ev.ret)) e2))
theorem pure (a0 : DT30) (a1 : Int) (w0 : Wd T30 a0) (w1 : Wd (.int .i64) a1) : ∃ k, laws_FnExactStepSeat k a0 a1 = some true := by
  refine Ev.at (f := fun k => laws_FnExactStepSeat k a0 a1) ?_
  obtain ⟨r0, e0, h0⟩ := laws_szOrchestra_ok a0 w0 1048576 (by omega) (by omega)
  by_cases c0 : r0 < 0
  · exact Ev.eq (fun k => laws_FnExactStepSeat_eq k a0 a1) (Ev.bind e0 (Ev.pos c0 Ev.ret))
  replace h0 := h0.resolve_left c0
  have b0 := h0.2.2
  have to := laws_toOrchestra_id _ b0
  obtain ⟨v, bv, e1, e2⟩ := stepSeat_both a0 a1 b0
  obtain ⟨ma, ma1, mah, mahh⟩ := markHeldO a0 b0
  obtain ⟨mo, m1, mh, hh⟩ := markHeldO v.1 bv
  have eq := laws_eqOrchestra_self v.1 bv
  refine Ev.eq (fun k => laws_FnExactStepSeat_eq k a0 a1) ?_
  refine Ev.bind e0 ?_
  refine Ev.neg c0 ?_
  refine Ev.bind to ?_
  refine Ev.bind e1 ?_
  refine Ev.bind to ?_
  refine Ev.bind e2 ?_
  refine Ev.bind eq ?_
  refine Ev.neg (by simp) ?_
  refine Ev.neg (by simp) ?_
  refine Ev.bind to ?_
  refine Ev.bind (laws_eqOrchestra_self a0 b0) ?_
  refine Ev.neg (by simp) ?_
  refine Ev.bind ma1 ?_
  refine Ev.neg mah ?_
  refine Ev.bind eq ?_
  refine Ev.neg (by simp) ?_
  refine Ev.neg (by simp) ?_
  refine Ev.bind m1 ?_
  refine Ev.bind hh ?_
  refine Ev.neg mh ?_
  refine Ev.neg (by simp) ?_
  refine Ev.bind to ?_
  refine Ev.bind e2 ?_
  refine Ev.bind eq ?_
  refine Ev.neg (by simp) ?_
  refine Ev.neg (by simp) ?_
  refine Ev.bind hh ?_
  refine Ev.neg mh ?_
  refine Ev.neg (by simp) ?_
  exact Ev.ret
end Go.QFnExactStepSeat
