/- The plain half of FnExactPartFor. No condition. -/
import Derived.Test.YtkfnhbdloidfmaaHFnExactPartFor
set_option linter.unusedVariables false
set_option linter.unusedSimpArgs false
open Go Go.Flat
namespace Go.QFnExactPartFor
theorem l1In_ev (x lo hi : Int) : Ev (fun k => spec_l1In k x lo hi) (decide (lo ≤ x ∧ x ≤ hi)) := by
  by_cases c : lo ≤ x
  · exact Ev.eq (fun k => spec_l1In_eq k x lo hi) (Ev.pos c (Ev.ret.val (by simp [c])))
  · exact Ev.eq (fun k => spec_l1In_eq k x lo hi) (Ev.neg c (Ev.ret.val (by simp [c])))
theorem inRange_ev (x lo hi : Int) : Ev (fun k => impl_InRange k x lo hi) (decide (lo ≤ x ∧ x ≤ hi)) := by
  by_cases c : lo ≤ x
  · exact Ev.eq (fun k => impl_InRange_eq k x lo hi) (Ev.pos c (Ev.ret.val (by simp [c])))
  · exact Ev.eq (fun k => impl_InRange_eq k x lo hi) (Ev.neg c (Ev.ret.val (by simp [c])))
theorem specMax_ev (a b : Int) : Ev (fun k => spec_Max k a b) (max a b) := by
  by_cases c : a < b
  · exact Ev.eq (fun k => spec_Max_eq k a b) (Ev.pos c (Ev.ret.val (by omega)))
  · exact Ev.eq (fun k => spec_Max_eq k a b) (Ev.neg c (Ev.ret.val (by omega)))
theorem nan_ev (x : Int) : Ev (fun k => cmp_isNaN_int k x) false := Ev.eq (fun k => cmp_isNaN_int_eq k x) (Ev.ret.val (by simp))
def cmpI (x y : Int) : Int := if x < y then -1 else if y < x then 1 else 0
theorem cmp_ev (x y : Int) : Ev (fun k => cmp_Compare_int k x y) (cmpI x y) := by
  unfold cmpI
  by_cases c : x < y
  · exact Ev.eq (fun k => cmp_Compare_int_eq k x y) (Ev.bind (nan_ev x) (Ev.bind (nan_ev y) (Ev.neg (by simp) (Ev.neg (by simp) (Ev.pos c (Ev.ret.val (by rw [if_pos c])))))))
  · by_cases c2 : y < x
    · exact Ev.eq (fun k => cmp_Compare_int_eq k x y) (Ev.bind (nan_ev x) (Ev.bind (nan_ev y) (Ev.neg (by simp) (Ev.neg (by simp) (Ev.neg c (Ev.pos c2 (Ev.ret.val (by rw [if_neg c, if_pos c2]))))))))
    · exact Ev.eq (fun k => cmp_Compare_int_eq k x y) (Ev.bind (nan_ev x) (Ev.bind (nan_ev y) (Ev.neg (by simp) (Ev.neg (by simp) (Ev.neg c (Ev.neg c2 (Ev.ret.val (by rw [if_neg c, if_neg c2]))))))))
theorem dec_of {f : Nat → Option Bool} {p : Prop} [d : Decidable p] (h : ∃ r, Ev f r ∧ (r = true ↔ p)) : Ev f (decide p) := by
  obtain ⟨r, e, hr⟩ := h
  exact e.val (by rw [Bool.eq_iff_iff, hr]; simp)
theorem loop_allE {F : Int → Nat → Nat → Option Bool} {n : Nat} (Q : Nat → Prop) (c : Bool) (hend : E2 (F (n : Int)) c)
    (hgo : ∀ i, i < n → Q i → ∀ v, E2 (F ((i + 1 : Nat) : Int)) v → E2 (F (i : Int)) v) (hstop : ∀ i, i < n → ¬ Q i → E2 (F (i : Int)) false) :
    ∃ r, E2 (F 0) r ∧ (r = true ↔ (∀ i, i < n → Q i) ∧ c = true) := by
  have key : ∀ d i, i + d = n → ∃ r, E2 (F (i : Int)) r ∧ (r = true ↔ (∀ j, i ≤ j → j < n → Q j) ∧ c = true) := by
    intro d
    induction d with
    | zero =>
      intro i hi
      have hi : i = n := by omega
      subst hi
      exact ⟨c, hend, ⟨fun h => ⟨fun j _ _ => by omega, h⟩, fun h => h.2⟩⟩
    | succ d ih =>
      intro i hi
      obtain ⟨r, er, hr⟩ := ih (i + 1) (by omega)
      by_cases hq : Q i
      · refine ⟨r, hgo i (by omega) hq r er, hr.trans ⟨fun h => ⟨fun j h1 h2 => ?_, h.2⟩, fun h => ⟨fun j h1 h2 => h.1 j (by omega) h2, h.2⟩⟩⟩
        by_cases hj : j = i
        · subst hj; exact hq
        · exact h.1 j (by omega) h2
      · exact ⟨false, hstop i (by omega) hq, by simp only [Bool.false_eq_true, false_iff]; exact fun h => hq (h.1 i (Nat.le_refl _) (by omega))⟩
  obtain ⟨r, er, hr⟩ := key n 0 (by omega)
  exact ⟨r, er, hr.trans ⟨fun h => ⟨fun i hi => h.1 i (Nat.zero_le _) hi, h.2⟩, fun h => ⟨fun i _ hi => h.1 i hi, h.2⟩⟩⟩
theorem wrapP {i : Nat} (h : 0 < i) (h2 : i < 9223372036854775807) : IntKind.wrap .i64 ((i : Int) - 1) = ((i - 1 : Nat) : Int) := by
  rw [wrapI (by omega) (by omega)]; omega
def okE (e : DT135) : Prop := (0 ≤ (e.1 : Int) ∧ (e.1 : Int) ≤ 2000) ∧ (1 ≤ (e.2.1 : Int) ∧ (e.2.1 : Int) ≤ 96) ∧ (21 ≤ (e.2.2.1 : Int) ∧ (e.2.2.1 : Int) ≤ 108) ∧ 1 ≤ (e.2.2.2.1 : Int) ∧ (e.2.2.2.1 : Int) ≤ 4
instance (e : DT135) : Decidable (okE e) := by unfold okE; infer_instance
theorem l8Ok_ev (e : DT135) : Ev (fun k => spec_l8Ok k e) (decide (okE e)) := by
  refine Ev.eq (fun k => spec_l8Ok_eq k e) (Ev.bind (l1In_ev _ _ _) ?_)
  unfold okE
  by_cases c1 : 0 ≤ (e.1 : Int) ∧ (e.1 : Int) ≤ 2000
  · refine Ev.pos (by simp [c1]) (Ev.bind (l1In_ev _ _ _) ?_)
    by_cases c2 : 1 ≤ (e.2.1 : Int) ∧ (e.2.1 : Int) ≤ 96
    · refine Ev.pos (by simp [c2]) (Ev.bind (l1In_ev _ _ _) ?_)
      by_cases c3 : 21 ≤ (e.2.2.1 : Int) ∧ (e.2.2.1 : Int) ≤ 108
      · exact Ev.pos (by simp [c3]) (Ev.bind (l1In_ev _ _ _) (Ev.ret.val (by simp only [c1, c2, c3, true_and, and_self, decide_eq_true_eq])))
      · exact Ev.neg (by simpa using c3) (Ev.ret.val (by simp only [c3, false_and, and_false, decide_false]))
    · exact Ev.neg (by simpa using c2) (Ev.ret.val (by simp only [c2, false_and, and_false, decide_false]))
  · exact Ev.neg (by simpa using c1) (Ev.ret.val (by simp only [c1, false_and, decide_false]))
def bef (a b : DT135) : Prop := (a.1 : Int) < b.1 ∨ (a.1 : Int) = b.1 ∧ ((a.2.2.2.1 : Int) < b.2.2.2.1 ∨ (a.2.2.2.1 : Int) = b.2.2.2.1 ∧ (a.2.2.1 : Int) < b.2.2.1)
instance (a b : DT135) : Decidable (bef a b) := by unfold bef; infer_instance
theorem before_ev (a b : DT135) : Ev (fun k => spec_l8Before k a b) (decide (bef a b)) := by
  refine Ev.eq (fun k => spec_l8Before_eq k a b) ?_
  unfold bef
  by_cases c1 : (a.1 : Int) = b.1
  · refine Ev.neg (by omega) ?_
    by_cases c2 : (a.2.2.2.1 : Int) = b.2.2.2.1
    · exact Ev.neg (by omega) (Ev.ret.val (by congr 1; exact propext ⟨fun h => .inr ⟨c1, .inr ⟨c2, h⟩⟩, fun h => by omega⟩))
    · exact Ev.pos (by omega) (Ev.ret.val (by congr 1; exact propext ⟨fun h => .inr ⟨c1, .inl h⟩, fun h => by omega⟩))
  · exact Ev.pos (by omega) (Ev.ret.val (by congr 1; exact propext ⟨fun h => .inl h, fun h => by omega⟩))
def orI (x y : Int) : Int := if x ≠ 0 then x else y
theorem or_ev (x y z : Int) : Ev (fun k => cmp_Or_int k [x, y, z]) (orI x (orI y z)) := by
  refine Ev.eq (fun k => cmp_Or_int_eq k _) (Ev.loop (f := fun k m => cmp_Or_int.l0 k m 0 [x, y, z] ((List.length [x, y, z] : Nat) : Int) 0) ?_)
  have w0 : IntKind.wrap .i64 ((0 : Int) + 1) = 1 := wrapI (by omega) (by omega)
  have w1 : IntKind.wrap .i64 ((1 : Int) + 1) = 2 := wrapI (by omega) (by omega)
  have w2 : IntKind.wrap .i64 ((2 : Int) + 1) = 3 := wrapI (by omega) (by omega)
  have r0 : rd (.int .i64) [x, y, z] 0 = x := rfl
  have r1 : rd (.int .i64) [x, y, z] 1 = y := rfl
  have r2 : rd (.int .i64) [x, y, z] 2 = z := rfl
  have hl : ((List.length [x, y, z] : Nat) : Int) = 3 := rfl
  unfold orI
  refine E2.eq (fun k m => cmp_Or_int.l0_eq k m 0 [x, y, z] _ 0) (E2.pos (by rw [hl]; omega) (E2.pos (by omega) (E2.pos (by rw [hl]; omega) ?_)))
  simp only [r0, w0]
  by_cases c0 : x = 0
  · refine E2.neg (fun h => h c0) ?_
    rw [if_neg (show ¬ x ≠ 0 by omega)]
    refine E2.eq (fun k m => cmp_Or_int.l0_eq k m 0 [x, y, z] _ 1) (E2.pos (by rw [hl]; omega) (E2.pos (by omega) (E2.pos (by rw [hl]; omega) ?_)))
    simp only [r1, w1]
    by_cases c1 : y = 0
    · refine E2.neg (fun h => h c1) ?_
      rw [if_neg (show ¬ y ≠ 0 by omega)]
      refine E2.eq (fun k m => cmp_Or_int.l0_eq k m 0 [x, y, z] _ 2) (E2.pos (by rw [hl]; omega) (E2.pos (by omega) (E2.pos (by rw [hl]; omega) ?_)))
      simp only [r2, w2]
      by_cases c2 : z = 0
      · exact E2.neg (fun h => h c2) (E2.eq (fun k m => cmp_Or_int.l0_eq k m 0 [x, y, z] _ 3) (E2.neg (by rw [hl]; omega) (E2.ret.val c2.symm)))
      · exact E2.pos c2 E2.ret
    · rw [if_pos c1]; exact E2.pos c1 E2.ret
  · rw [if_pos c0]; exact E2.pos c0 E2.ret
def ordI (a b : DT135) : Int := orI (cmpI a.1 b.1) (orI (cmpI a.2.2.2.1 b.2.2.2.1) (cmpI a.2.2.1 b.2.2.1))
theorem order_ev (a b : DT135) : Ev (fun k => impl_eventOrder k a b) (ordI a b) :=
  Ev.eq (fun k => impl_eventOrder_eq k a b) (Ev.bind (cmp_ev _ _) (Ev.bind (cmp_ev _ _) (Ev.bind (cmp_ev _ _) (Ev.bind (or_ev _ _ _) Ev.ret))))
theorem ordI_lt (a b : DT135) : ordI a b < 0 ↔ bef a b := by
  unfold ordI orI cmpI bef
  repeat' split
  all_goals omega
def QS (l : List DT135) (i : Nat) : Prop := okE (rd T135 l (i : Int)) ∧ (0 < i → bef (rd T135 l ((i - 1 : Nat) : Int)) (rd T135 l (i : Int)))
instance (l : List DT135) (i : Nat) : Decidable (QS l i) := by unfold QS; infer_instance
def scoreP (l : List DT135) : Prop := (∀ i, i < l.length → QS l i) ∧ decide (((l.length : Nat) : Int) ≤ 40) = true
instance (l : List DT135) : Decidable (scoreP l) := by unfold scoreP; infer_instance
theorem specScore_ev (l : List DT135) (hl : l.length ≤ 1048576) : Ev (fun k => spec_IsScore k l) (decide (scoreP l)) := by
  refine dec_of ?_
  obtain ⟨r, er, hr⟩ := loop_allE (F := fun i k m => spec_IsScore.l0 k m l i) (n := l.length) (QS l) (decide (((l.length : Nat) : Int) ≤ 40)) (E2.eq (fun k m => spec_IsScore.l0_eq k m l _) (E2.neg (by omega) E2.ret)) (fun i hi hq v e => by
    refine E2.eq (fun k m => spec_IsScore.l0_eq k m l _) (E2.pos (by omega) (E2.pos (by omega) (E2.pos (by omega) (E2.bind (l8Ok_ev _) (E2.neg (by simpa using hq.1) ?_)))))
    by_cases c : 0 < i
    · refine E2.pos (by omega) ?_
      simp only [wrapP c (show i < 9223372036854775807 by omega), wrapS (show i < 9223372036854775807 by omega)]
      exact E2.pos (by omega) (E2.pos (by omega) (E2.pos (by omega) (E2.pos (by omega) (E2.bind (before_ev _ _) (E2.neg (by simpa using hq.2 c) e)))))
    · refine E2.neg (by omega) ?_
      simp only [wrapS (show i < 9223372036854775807 by omega)]
      exact e) (fun i hi hq => by
    refine E2.eq (fun k m => spec_IsScore.l0_eq k m l _) (E2.pos (by omega) (E2.pos (by omega) (E2.pos (by omega) (E2.bind (l8Ok_ev _) ?_))))
    by_cases c0 : okE (rd T135 l (i : Int))
    · refine E2.neg (by simpa using c0) ?_
      have c : 0 < i := by
        rcases Nat.eq_zero_or_pos i with h | h
        · exact absurd ⟨c0, fun h' => by omega⟩ hq
        · exact h
      have c1 : ¬ bef (rd T135 l ((i - 1 : Nat) : Int)) (rd T135 l (i : Int)) := fun h => hq ⟨c0, fun _ => h⟩
      refine E2.pos (by omega) ?_
      simp only [wrapP c (show i < 9223372036854775807 by omega)]
      exact E2.pos (by omega) (E2.pos (by omega) (E2.pos (by omega) (E2.pos (by omega) (E2.bind (before_ev _ _) (E2.pos (by simpa using c1) E2.ret)))))
    · exact E2.pos (by simpa using c0) E2.ret)
  exact ⟨r, Ev.eq (fun k => spec_IsScore_eq k l) (Ev.loop (f := fun k m => spec_IsScore.l0 k m l 0) er), hr⟩
theorem implScore_ev (l : List DT135) (hl : l.length ≤ 1048576) : Ev (fun k => impl_IsScore k l) (decide (scoreP l)) := by
  refine dec_of ?_
  obtain ⟨r, er, hr⟩ := loop_allE (F := fun i k m => impl_IsScore.l0 k m l l ((List.length l : Nat) : Int) i) (n := l.length) (QS l) (decide (((l.length : Nat) : Int) ≤ 40)) (E2.eq (fun k m => impl_IsScore.l0_eq k m l l _ _) (E2.neg (by omega) E2.ret)) (fun i hi hq v e => by
    obtain ⟨⟨h1, h2, h3, h4⟩, h5⟩ := hq
    refine E2.eq (fun k m => impl_IsScore.l0_eq k m l l _ _) (E2.pos (by omega) (E2.pos (by omega) (E2.pos (by omega) (E2.bind (inRange_ev _ _ _) (E2.neg (by simpa using h1) (E2.bind (inRange_ev _ _ _) (E2.neg (by simpa using h2) (E2.bind (inRange_ev _ _ _) (E2.neg (by simpa using h3) (E2.bind (inRange_ev _ _ _) (E2.neg (by simpa using h4) ?_)))))))))))
    by_cases c : 0 < i
    · refine E2.pos (by omega) ?_
      simp only [wrapP c (show i < 9223372036854775807 by omega), wrapS (show i < 9223372036854775807 by omega)]
      have := (ordI_lt _ _).2 (h5 c)
      exact E2.pos (by omega) (E2.pos (by omega) (E2.bind (order_ev _ _) (E2.neg (by omega) e)))
    · refine E2.neg (by omega) ?_
      simp only [wrapS (show i < 9223372036854775807 by omega)]
      exact e) (fun i hi hq => by
    refine E2.eq (fun k m => impl_IsScore.l0_eq k m l l _ _) (E2.pos (by omega) (E2.pos (by omega) (E2.pos (by omega) (E2.bind (inRange_ev _ _ _) ?_))))
    by_cases h1 : 0 ≤ ((rd T135 l (i : Int)).1 : Int) ∧ ((rd T135 l (i : Int)).1 : Int) ≤ 2000
    · refine E2.neg (by simpa using h1) (E2.bind (inRange_ev _ _ _) ?_)
      by_cases h2 : 1 ≤ ((rd T135 l (i : Int)).2.1 : Int) ∧ ((rd T135 l (i : Int)).2.1 : Int) ≤ 96
      · refine E2.neg (by simpa using h2) (E2.bind (inRange_ev _ _ _) ?_)
        by_cases h3 : 21 ≤ ((rd T135 l (i : Int)).2.2.1 : Int) ∧ ((rd T135 l (i : Int)).2.2.1 : Int) ≤ 108
        · refine E2.neg (by simpa using h3) (E2.bind (inRange_ev _ _ _) ?_)
          by_cases h4 : 1 ≤ ((rd T135 l (i : Int)).2.2.2.1 : Int) ∧ ((rd T135 l (i : Int)).2.2.2.1 : Int) ≤ 4
          · refine E2.neg (by simpa using h4) ?_
            have c : 0 < i := by
              rcases Nat.eq_zero_or_pos i with h | h
              · exact absurd ⟨⟨h1, h2, h3, h4⟩, fun h' => by omega⟩ hq
              · exact h
            have c1 : ¬ bef (rd T135 l ((i - 1 : Nat) : Int)) (rd T135 l (i : Int)) := fun h => hq ⟨⟨h1, h2, h3, h4⟩, fun _ => h⟩
            refine E2.pos (by omega) ?_
            simp only [wrapP c (show i < 9223372036854775807 by omega)]
            have := mt (ordI_lt _ _).1 c1
            exact E2.pos (by omega) (E2.pos (by omega) (E2.bind (order_ev _ _) (E2.pos (by omega) E2.ret)))
          · exact E2.pos (by simpa using h4) E2.ret
        · exact E2.pos (by simpa using h3) E2.ret
      · exact E2.pos (by simpa using h2) E2.ret
    · exact E2.pos (by simpa using h1) E2.ret)
  exact ⟨r, Ev.eq (fun k => impl_IsScore_eq k l) (Ev.loop (f := fun k m => impl_IsScore.l0 k m l l ((List.length l : Nat) : Int) 0) er), hr⟩
theorem endOf_both (l : List DT135) (hl : l.length ≤ 1048576) : ∃ v, Ev (fun k => spec_EndOf k l) v ∧ Ev (fun k => impl_EndOf k l) v := by
  by_cases hp : scoreP l
  · have key : ∀ d (i : Nat) (n : Int), i + d = l.length → ∃ v, E2 (fun k m => spec_EndOf.l0 k m l n (i : Int)) v ∧ E2 (fun k m => impl_EndOf.l0 k m n l ((List.length l : Nat) : Int) (i : Int)) v := by
      intro d
      induction d with
      | zero =>
        intro i n hi
        exact ⟨n, E2.eq (fun k m => spec_EndOf.l0_eq k m l n _) (E2.neg (by omega) E2.ret), E2.eq (fun k m => impl_EndOf.l0_eq k m n l _ _) (E2.neg (by omega) E2.ret)⟩
      | succ d ih =>
        intro i n hi
        obtain ⟨v, e1, e2⟩ := ih (i + 1) (max n (IntKind.wrap .i64 ((rd T135 l (i : Int)).1 + (rd T135 l (i : Int)).2.1))) (by omega)
        refine ⟨v, E2.eq (fun k m => spec_EndOf.l0_eq k m l n _) (E2.pos (by omega) (E2.bind (specScore_ev l hl) (E2.pos (by simpa using hp) (E2.pos (by omega) (E2.pos (by omega) (E2.pos (by omega) (E2.pos (by omega) (E2.bind (specMax_ev _ _) ?_)))))))), E2.eq (fun k m => impl_EndOf.l0_eq k m n l _ _) (E2.pos (by omega) (E2.pos (by omega) (E2.pos (by omega) ?_)))⟩
        · simp only [wrapS (show i < 9223372036854775807 by omega)]; exact e1
        · simp only [wrapS (show i < 9223372036854775807 by omega)]; exact e2
    obtain ⟨v, e1, e2⟩ := key l.length 0 0 (by omega)
    exact ⟨v, Ev.eq (fun k => spec_EndOf_eq k l) (Ev.loop (f := fun k m => spec_EndOf.l0 k m l 0 0) e1), Ev.eq (fun k => impl_EndOf_eq k l) (Ev.bind (implScore_ev l hl) (Ev.pos (by simpa using hp) (Ev.loop (f := fun k m => impl_EndOf.l0 k m 0 l ((List.length l : Nat) : Int) 0) e2)))⟩
  · refine ⟨0, Ev.eq (fun k => spec_EndOf_eq k l) (Ev.loop (f := fun k m => spec_EndOf.l0 k m l 0 0) ?_), Ev.eq (fun k => impl_EndOf_eq k l) (Ev.bind (implScore_ev l hl) (Ev.neg (by simpa using hp) Ev.ret))⟩
    refine E2.eq (fun k m => spec_EndOf.l0_eq k m l 0 0) ?_
    by_cases c : (0 : Int) < ((l.length : Nat) : Int)
    · exact E2.pos c (E2.bind (specScore_ev l hl) (E2.neg (by simpa using hp) E2.ret))
    · exact E2.neg c E2.ret
theorem index_ev (l : List Int) (x : Int) (hl : l.length ≤ 1048576) : Ev (fun k => slices_Index___int_int k l x) (firstI (fun i => decide (Eq (α := Int) x (rd (.int .i64) l (i : Int)))) l.length) := by
  have er := loop_firstR (R := fun i v => E2 (fun k m => slices_Index___int_int.l0 k m l x ((List.length l : Nat) : Int) i) v) (n := l.length) (fun i => decide (Eq (α := Int) x (rd (.int .i64) l (i : Int)))) (E2.eq (fun k m => slices_Index___int_int.l0_eq k m l x _ _) (E2.neg (by omega) E2.ret)) (fun i hi hq v e => by
    refine E2.eq (fun k m => slices_Index___int_int.l0_eq k m l x _ _) (E2.pos (by omega) (E2.pos (by omega) (E2.pos (by omega) (E2.neg (by simpa using hq) ?_))))
    simp only [wrapS (show i < 9223372036854775807 by omega)]; exact e) (fun i hi hq => E2.eq (fun k m => slices_Index___int_int.l0_eq k m l x _ _) (E2.pos (by omega) (E2.pos (by omega) (E2.pos (by omega) (E2.pos (by simpa using hq) E2.ret)))))
  exact Ev.eq (fun k => slices_Index___int_int_eq k l x) (Ev.loop (f := fun k m => slices_Index___int_int.l0 k m l x ((List.length l : Nat) : Int) 0) er)
def ofVoice (v : Int) (e : DT135) : Bool := decide ((e.2.2.2.1 : Int) = v)
theorem specVoice_ev (l : List DT135) (v : Int) (hl : l.length ≤ 1048576) : Ev (fun k => spec_VoiceOf k l v) (l.filter (ofVoice v)) := by
  have er := loop_filterR (t := T135) (l := l) (R := fun i s r => E2 (fun k m => spec_VoiceOf.l0 k m l v i s) r) (ofVoice v) (fun s => E2.eq (fun k m => spec_VoiceOf.l0_eq k m l v _ s) (E2.neg (by omega) E2.ret)) (fun i s hi hs hq r e => by
    refine E2.eq (fun k m => spec_VoiceOf.l0_eq k m l v _ s) (E2.pos (by omega) (E2.pos (by omega) (E2.pos (by omega) (E2.pos (of_decide_eq_true hq) (E2.pos (by omega) (E2.pos (by omega) (E2.pos (by simp only [List.length_cons, List.length_nil]; omega) ?_)))))))
    simp only [wrapS (show i < 9223372036854775807 by omega)]; exact e) (fun i s hi hs hq r e => by
    refine E2.eq (fun k m => spec_VoiceOf.l0_eq k m l v _ s) (E2.pos (by omega) (E2.pos (by omega) (E2.pos (by omega) (E2.neg (of_decide_eq_false hq) ?_))))
    simp only [wrapS (show i < 9223372036854775807 by omega)]; exact e)
  exact Ev.eq (fun k => spec_VoiceOf_eq k l v) (Ev.loop (f := fun k m => spec_VoiceOf.l0 k m l v 0 []) er)
theorem del_ev (e : DT135) (v : Int) : Ev (fun k => impl_VoiceOf_1 k e v) (! ofVoice v e) := by
  refine Ev.eq (fun k => impl_VoiceOf_1_eq k e v) (Ev.ret.val ?_)
  unfold ofVoice
  simp
theorem delete_ev (l : List DT135) (v : Int) (hl : l.length ≤ 1048576) : Ev (fun k => slices_DeleteFunc_impl_Event_201 k l v) (l.filter (ofVoice v)) := by
  have ei : Ev (fun k => slices_IndexFunc_impl_Event_201 k l v) (firstI (fun i => ! ofVoice v (rd T135 l (i : Int))) l.length) := by
    have er := loop_firstR (R := fun i r => E2 (fun k m => slices_IndexFunc_impl_Event_201.l0 k m l v ((List.length l : Nat) : Int) i) r) (n := l.length) (fun i => ! ofVoice v (rd T135 l (i : Int))) (E2.eq (fun k m => slices_IndexFunc_impl_Event_201.l0_eq k m l v _ _) (E2.neg (by omega) E2.ret)) (fun i hi hq r e => by
      refine E2.eq (fun k m => slices_IndexFunc_impl_Event_201.l0_eq k m l v _ _) (E2.pos (by omega) (E2.pos (by omega) (E2.pos (by omega) (E2.bind (del_ev _ _) (E2.neg (by rw [hq]; simp) ?_)))))
      simp only [wrapS (show i < 9223372036854775807 by omega)]; exact e) (fun i hi hq => E2.eq (fun k m => slices_IndexFunc_impl_Event_201.l0_eq k m l v _ _) (E2.pos (by omega) (E2.pos (by omega) (E2.pos (by omega) (E2.bind (del_ev _ _) (E2.pos hq E2.ret))))))
    exact Ev.eq (fun k => slices_IndexFunc_impl_Event_201_eq k l v) (Ev.loop (f := fun k m => slices_IndexFunc_impl_Event_201.l0 k m l v ((List.length l : Nat) : Int) 0) er)
  refine Ev.eq (fun k => slices_DeleteFunc_impl_Event_201_eq k l v) (Ev.bind ei ?_)
  rcases firstI_spec (fun i => ! ofVoice v (rd T135 l (i : Int))) l.length with ⟨h, hall⟩ | ⟨r, h, hr, h1, h0⟩
  · refine Ev.pos h (Ev.ret.val ?_)
    symm
    rw [List.filter_eq_self]
    intro x hx
    obtain ⟨i, hi, rfl⟩ := List.mem_iff_getElem.1 hx
    have := hall i hi
    rw [rd_at hi] at this
    simpa using this
  · rw [h]
    refine Ev.neg (by omega) ?_
    rw [wrapS (by omega)]
    refine Ev.loop (f := fun k m => slices_DeleteFunc_impl_Event_201.l0 k m v (r : Int) ((r + 1 : Nat) : Int) l) ?_
    refine loop_deleteR (t := T135) (l := l) (R := fun i j s w => E2 (fun k m => slices_DeleteFunc_impl_Event_201.l0 k m v i j s) w) (ofVoice v) (fun i s hi hs => ?_) (fun i j s hij hj hs hq w e => ?_) (fun i j s hij hj hs hq w e => ?_) r hr (fun j hj => by simpa using h0 j hj) (by simpa using h1)
    · refine E2.eq (fun k m => slices_DeleteFunc_impl_Event_201.l0_eq k m v _ _ s) (E2.neg (by omega) (E2.pos (by omega) (E2.pos (by omega) (E2.pos (by omega) (E2.pos ?_ (E2.ret.val ?_))))))
      · simp only [List.length_append, List.length_take, List.length_replicate, List.length_drop, Int.toNat_natCast]
        omega
      · simp only [Int.toNat_natCast, show Int.toNat 0 = 0 from rfl, Nat.sub_zero, List.drop_zero]
        rw [List.append_assoc, List.take_append_of_le_length (by simp; omega), List.take_take, Nat.min_self]
    · refine E2.eq (fun k m => slices_DeleteFunc_impl_Event_201.l0_eq k m v _ _ s) (E2.pos (by omega) (E2.pos (by omega) (E2.pos (by omega) (E2.bind (del_ev _ _) (E2.pos (by rw [hq]; simp) (E2.pos (by omega) (E2.pos (by omega) ?_)))))))
      simp only [wrapS (show i < 9223372036854775807 by omega), wrapS (show j < 9223372036854775807 by omega), Int.toNat_natCast]; exact e
    · refine E2.eq (fun k m => slices_DeleteFunc_impl_Event_201.l0_eq k m v _ _ s) (E2.pos (by omega) (E2.pos (by omega) (E2.pos (by omega) (E2.bind (del_ev _ _) (E2.neg (by rw [hq]; simp) ?_)))))
      simp only [wrapS (show j < 9223372036854775807 by omega)]; exact e
theorem cloneE_ev (l : List DT135) (hl : l.length ≤ 1048576) : Ev (fun k => impl_clone_impl_Event k l) l :=
  Ev.eq (fun k => impl_clone_impl_Event_eq k l) (Ev.pos (by simp only [List.length_nil]; omega) (Ev.ret.val (by simp)))
theorem implVoice_ev (l : List DT135) (v : Int) (hl : l.length ≤ 1048576) : Ev (fun k => impl_VoiceOf k l v) (l.filter (ofVoice v)) :=
  Ev.eq (fun k => impl_VoiceOf_eq k l v) (Ev.bind (cloneE_ev l hl) (Ev.bind (delete_ev l v hl) Ev.ret))
def failP : List DT157 × (Bool × Unit) := ([], (false, ()))
theorem partLoop (l0 l : List DT135) (e : Int) (hl0 : l0.length ≤ 1048576) (hl : l.length ≤ 1048576) (hp : scoreP l0) : ∀ (d i : Nat) (a : Int) (s : List DT157), i + d = l.length → s.length ≤ 2 * i →
    ∃ v : List DT157 × (Bool × Unit), v.1.length ≤ 2 * l.length + 1 ∧ E2 (fun k m => spec_PartFrom.l0 k m l0 e a (i : Int) s l) v ∧ (e ≤ 2096 → E2 (fun k m => impl_PartFrom.l0 k m e a ((List.length l : Nat) : Int) (i : Int) s l) v) ∧ (2096 < e → v = failP) := by
  intro d
  induction d with
  | zero =>
    intro i a s hi hs
    have hi : i = l.length := by omega
    subst hi
    have start : ∀ {v : List DT157 × (Bool × Unit)}, E2 (fun k m => if (e : Int) < a then some ([], (false, ())) else if (2096 : Int) < e then some ([], (false, ())) else if (a : Int) < e then (if (List.length s + List.length ([(a, (IntKind.wrap .i64 (e - a), (0, ())))] : (List DT157))) * 24 ≤ 211106232532992 then some ((s ++ ([(a, (IntKind.wrap .i64 (e - a), (0, ())))] : (List DT157))), (true, ())) else none) else some (s, (true, ()))) v → E2 (fun k m => spec_PartFrom.l0 k m l0 e a ((l.length : Nat) : Int) s l) v := by
      intro v h
      refine E2.eq (fun k m => spec_PartFrom.l0_eq k m l0 e a _ s l) ?_
      refine E2.neg (by omega) ?_
      refine E2.bind (specScore_ev l0 hl0) ?_
      exact E2.neg (by simpa using hp) h
    by_cases c1 : e < a
    · refine ⟨failP, by simp [failP], start (E2.pos c1 E2.ret), fun he => ?_, fun _ => rfl⟩
      refine E2.eq (fun k m => impl_PartFrom.l0_eq k m e a _ _ s l) ?_
      refine E2.neg (by omega) ?_
      exact E2.pos c1 E2.ret
    by_cases c2 : 2096 < e
    · exact ⟨failP, by simp [failP], start (E2.neg c1 (E2.pos c2 E2.ret)), fun he => absurd c2 (by omega), fun _ => rfl⟩
    by_cases c3 : a < e
    · refine ⟨((s ++ ([(a, (IntKind.wrap .i64 (e - a), (0, ())))] : (List DT157))), (true, ())), by simp; omega, start (E2.neg c1 (E2.neg c2 (E2.pos c3 (E2.pos (by simp only [List.length_cons, List.length_nil]; omega) E2.ret)))), fun he => ?_, fun h => absurd h c2⟩
      refine E2.eq (fun k m => impl_PartFrom.l0_eq k m e a _ _ s l) ?_
      refine E2.neg (by omega) ?_
      refine E2.neg c1 ?_
      refine E2.pos c3 ?_
      refine E2.pos (by simp only [List.length_cons, List.length_nil]; omega) ?_
      exact E2.ret
    · refine ⟨(s, (true, ())), by show s.length ≤ _; omega, start (E2.neg c1 (E2.neg c2 (E2.neg c3 E2.ret))), fun he => ?_, fun h => absurd h c2⟩
      refine E2.eq (fun k m => impl_PartFrom.l0_eq k m e a _ _ s l) ?_
      refine E2.neg (by omega) ?_
      refine E2.neg c1 ?_
      exact E2.neg c3 E2.ret
  | succ d ih =>
    intro i a s hi hs
    have hlt : i < l.length := by omega
    have i0 : (0 : Int) ≤ (i : Int) := by omega
    have i1 : (i : Int) < ((List.length l : Nat) : Int) := by omega
    by_cases c1 : LT.lt (α := Int) (rd T135 l (i : Int)).1 a
    · refine ⟨failP, by simp [failP], ?_, fun he => ?_, fun _ => rfl⟩
      · refine E2.eq (fun k m => spec_PartFrom.l0_eq k m l0 e a _ s l) ?_
        refine E2.pos i1 ?_
        refine E2.bind (specScore_ev l0 hl0) ?_
        refine E2.pos (by simpa using hp) ?_
        refine E2.pos i0 ?_
        refine E2.pos i1 ?_
        exact E2.pos c1 E2.ret
      · refine E2.eq (fun k m => impl_PartFrom.l0_eq k m e a _ _ s l) ?_
        refine E2.pos i1 ?_
        refine E2.pos i0 ?_
        refine E2.pos i1 ?_
        exact E2.pos c1 E2.ret
    by_cases c2 : LT.lt (α := Int) a (rd T135 l (i : Int)).1
    · obtain ⟨v, hv, e1, e2, e3⟩ := ih (i + 1) (IntKind.wrap .i64 ((rd T135 l (i : Int)).1 + (rd T135 l (i : Int)).2.1)) ((s ++ ([(a, (IntKind.wrap .i64 ((rd T135 l (i : Int)).1 - a), (0, ())))] : (List DT157))) ++ ([((rd T135 l (i : Int)).1, ((rd T135 l (i : Int)).2.1, ((rd T135 l (i : Int)).2.2.1, ())))] : (List DT157))) (by omega) (by simp; omega)
      refine ⟨v, hv, ?_, fun he => ?_, e3⟩
      · refine E2.eq (fun k m => spec_PartFrom.l0_eq k m l0 e a _ s l) ?_
        refine E2.pos i1 ?_
        refine E2.bind (specScore_ev l0 hl0) ?_
        refine E2.pos (by simpa using hp) ?_
        refine E2.pos i0 ?_
        refine E2.pos i1 ?_
        refine E2.neg c1 ?_
        refine E2.pos i0 ?_
        refine E2.pos i1 ?_
        refine E2.pos c2 ?_
        refine E2.pos i0 ?_
        refine E2.pos i1 ?_
        refine E2.pos (by simp only [List.length_cons, List.length_nil]; omega) ?_
        refine E2.pos i0 ?_
        refine E2.pos i1 ?_
        refine E2.pos i0 ?_
        refine E2.pos i1 ?_
        refine E2.pos i0 ?_
        refine E2.pos i1 ?_
        refine E2.pos (by simp only [List.length_append, List.length_cons, List.length_nil]; omega) ?_
        refine E2.pos i0 ?_
        refine E2.pos i1 ?_
        refine E2.pos i0 ?_
        refine E2.pos i1 ?_
        simp only [wrapS (show i < 9223372036854775807 by omega)]
        exact e1
      · refine E2.eq (fun k m => impl_PartFrom.l0_eq k m e a _ _ s l) ?_
        refine E2.pos i1 ?_
        refine E2.pos i0 ?_
        refine E2.pos i1 ?_
        refine E2.neg c1 ?_
        refine E2.pos c2 ?_
        refine E2.pos (by simp only [List.length_cons, List.length_nil]; omega) ?_
        refine E2.pos (by simp only [List.length_append, List.length_cons, List.length_nil]; omega) ?_
        simp only [wrapS (show i < 9223372036854775807 by omega)]
        exact e2 he
    · obtain ⟨v, hv, e1, e2, e3⟩ := ih (i + 1) (IntKind.wrap .i64 ((rd T135 l (i : Int)).1 + (rd T135 l (i : Int)).2.1)) (s ++ ([((rd T135 l (i : Int)).1, ((rd T135 l (i : Int)).2.1, ((rd T135 l (i : Int)).2.2.1, ())))] : (List DT157))) (by omega) (by simp; omega)
      refine ⟨v, hv, ?_, fun he => ?_, e3⟩
      · refine E2.eq (fun k m => spec_PartFrom.l0_eq k m l0 e a _ s l) ?_
        refine E2.pos i1 ?_
        refine E2.bind (specScore_ev l0 hl0) ?_
        refine E2.pos (by simpa using hp) ?_
        refine E2.pos i0 ?_
        refine E2.pos i1 ?_
        refine E2.neg c1 ?_
        refine E2.pos i0 ?_
        refine E2.pos i1 ?_
        refine E2.neg c2 ?_
        refine E2.pos i0 ?_
        refine E2.pos i1 ?_
        refine E2.pos i0 ?_
        refine E2.pos i1 ?_
        refine E2.pos i0 ?_
        refine E2.pos i1 ?_
        refine E2.pos (by simp only [List.length_cons, List.length_nil]; omega) ?_
        refine E2.pos i0 ?_
        refine E2.pos i1 ?_
        refine E2.pos i0 ?_
        refine E2.pos i1 ?_
        simp only [wrapS (show i < 9223372036854775807 by omega)]
        exact e1
      · refine E2.eq (fun k m => impl_PartFrom.l0_eq k m e a _ _ s l) ?_
        refine E2.pos i1 ?_
        refine E2.pos i0 ?_
        refine E2.pos i1 ?_
        refine E2.neg c1 ?_
        refine E2.neg c2 ?_
        refine E2.pos (by simp only [List.length_cons, List.length_nil]; omega) ?_
        simp only [wrapS (show i < 9223372036854775807 by omega)]
        exact e2 he
theorem partFrom_both (l : List DT135) (v e : Int) (hl : l.length ≤ 1048576) : ∃ r : List DT157 × (Bool × Unit), r.1.length ≤ 4194304 ∧ Ev (fun k => spec_PartFrom k l v e) r ∧ Ev (fun k => impl_PartFrom k l v e) r := by
  have hf : (l.filter (ofVoice v)).length ≤ 1048576 := Nat.le_trans (List.length_filter_le _ _) hl
  by_cases hp : scoreP l
  · obtain ⟨r, h1, e1, e2, e3⟩ := partLoop l (l.filter (ofVoice v)) e hl hf hp (l.filter (ofVoice v)).length 0 0 [] (by omega) (by simp)
    refine ⟨r, by omega, Ev.eq (fun k => spec_PartFrom_eq k l v e) (Ev.bind (specVoice_ev l v hl) (Ev.loop (f := fun k m => spec_PartFrom.l0 k m l e 0 0 [] (l.filter (ofVoice v))) e1)), ?_⟩
    refine Ev.eq (fun k => impl_PartFrom_eq k l v e) ?_
    refine Ev.bind (implScore_ev l hl) ?_
    refine Ev.neg (by simpa using hp) ?_
    by_cases ce : 2096 < e
    · rw [e3 ce]; exact Ev.pos ce Ev.ret
    · refine Ev.neg ce ?_
      refine Ev.bind (implVoice_ev l v hl) ?_
      exact Ev.loop (f := fun k m => impl_PartFrom.l0 k m e 0 ((List.length (l.filter (ofVoice v)) : Nat) : Int) 0 [] (l.filter (ofVoice v))) (e2 (by omega))
  · refine ⟨failP, by simp [failP], Ev.eq (fun k => spec_PartFrom_eq k l v e) (Ev.bind (specVoice_ev l v hl) (Ev.loop (f := fun k m => spec_PartFrom.l0 k m l e 0 0 [] (l.filter (ofVoice v))) ?_)), Ev.eq (fun k => impl_PartFrom_eq k l v e) (Ev.bind (implScore_ev l hl) (Ev.pos (by simpa using hp) Ev.ret))⟩
    refine E2.eq (fun k m => spec_PartFrom.l0_eq k m l e 0 0 [] _) ?_
    by_cases c : (0 : Int) < ((List.length (l.filter (ofVoice v)) : Nat) : Int)
    · refine E2.pos c ?_
      refine E2.bind (specScore_ev l hl) ?_
      refine E2.neg (by simpa using hp) ?_
      refine E2.bind (specScore_ev l hl) ?_
      exact E2.pos (by simpa using hp) E2.ret
    · refine E2.neg c ?_
      refine E2.bind (specScore_ev l hl) ?_
      exact E2.pos (by simpa using hp) E2.ret
theorem partFor_both (o : DT77) (x : Int) (h1 : o.1.length ≤ 1048576) (h5 : o.2.2.2.2.1.length ≤ 1048576) : ∃ r : List DT157 × (Bool × Unit), r.1.length ≤ 4194304 ∧ Ev (fun k => spec_PartFor k o x) r ∧ Ev (fun k => impl_PartFor k o x) r := by
  have ix := index_ev o.2.2.2.2.1 x h5
  have skip : ∀ (i : Nat) (v : List DT157 × (Bool × Unit)), i < o.2.2.2.2.1.length → decide (Eq (α := Int) x (rd (.int .i64) o.2.2.2.2.1 (i : Int))) = false → E2 (fun k m => spec_PartFor.l0 k m x ((i + 1 : Nat) : Int) o.1 o.2.1.1 o.2.1.2.1 o.2.2.1 o.2.2.2.1 o.2.2.2.2.1 o.2.2.2.2.2.1 o.2.2.2.2.2.2.1 o.2.2.2.2.2.2.2.1 o.2.2.2.2.2.2.2.2.1) v → E2 (fun k m => spec_PartFor.l0 k m x (i : Int) o.1 o.2.1.1 o.2.1.2.1 o.2.2.1 o.2.2.2.1 o.2.2.2.2.1 o.2.2.2.2.2.1 o.2.2.2.2.2.2.1 o.2.2.2.2.2.2.2.1 o.2.2.2.2.2.2.2.2.1) v := by
    intro i v hi hq e
    have hq : ¬ Eq (α := Int) x (rd (.int .i64) o.2.2.2.2.1 (i : Int)) := of_decide_eq_false hq
    refine E2.eq (fun k m => spec_PartFor.l0_eq k m x _ _ _ _ _ _ _ _ _ _ _) ?_
    refine E2.pos (by omega) ?_
    refine E2.pos (by omega) ?_
    refine E2.pos (by omega) ?_
    refine E2.neg (fun h => hq h.symm) ?_
    simp only [wrapS (show i < 9223372036854775807 by omega)]
    exact e
  rcases firstI_spec (fun i => decide (Eq (α := Int) x (rd (.int .i64) o.2.2.2.2.1 (i : Int)))) o.2.2.2.2.1.length with ⟨hi, hall⟩ | ⟨r, hi, hr, hq, hb⟩
  · rw [hi] at ix
    have key : ∀ (d i : Nat), i + d = o.2.2.2.2.1.length → E2 (fun k m => spec_PartFor.l0 k m x (i : Int) o.1 o.2.1.1 o.2.1.2.1 o.2.2.1 o.2.2.2.1 o.2.2.2.2.1 o.2.2.2.2.2.1 o.2.2.2.2.2.2.1 o.2.2.2.2.2.2.2.1 o.2.2.2.2.2.2.2.2.1) failP := by
      intro d
      induction d with
      | zero =>
        intro i hi
        refine E2.eq (fun k m => spec_PartFor.l0_eq k m x _ _ _ _ _ _ _ _ _ _ _) ?_
        exact E2.neg (by omega) E2.ret
      | succ d ih => exact fun i hi => skip i _ (by omega) (hall i (by omega)) (ih (i + 1) (by omega))
    exact ⟨failP, by simp [failP], Ev.eq (fun k => spec_PartFor_eq k o x) (Ev.loop (f := fun k m => spec_PartFor.l0 k m x 0 o.1 o.2.1.1 o.2.1.2.1 o.2.2.1 o.2.2.2.1 o.2.2.2.2.1 o.2.2.2.2.2.1 o.2.2.2.2.2.2.1 o.2.2.2.2.2.2.2.1 o.2.2.2.2.2.2.2.2.1) (key o.2.2.2.2.1.length 0 (by omega))), Ev.eq (fun k => impl_PartFor_eq k o x) (Ev.bind ix (Ev.pos (by omega) Ev.ret))⟩
  · rw [hi] at ix
    obtain ⟨ve, en1, en2⟩ := endOf_both o.1 h1
    obtain ⟨w, hw, p1, p2⟩ := partFrom_both o.1 (IntKind.wrap .i64 ((r : Int) + 1)) ve h1
    have key : ∀ (d i : Nat), i + d = r → E2 (fun k m => spec_PartFor.l0 k m x (i : Int) o.1 o.2.1.1 o.2.1.2.1 o.2.2.1 o.2.2.2.1 o.2.2.2.2.1 o.2.2.2.2.2.1 o.2.2.2.2.2.2.1 o.2.2.2.2.2.2.2.1 o.2.2.2.2.2.2.2.2.1) (w.1, (decide (w.2.1 = true), ())) := by
      intro d
      induction d with
      | zero =>
        intro i hi
        have hi : i = r := by omega
        subst hi
        have hq : Eq (α := Int) x (rd (.int .i64) o.2.2.2.2.1 (i : Int)) := of_decide_eq_true hq
        refine E2.eq (fun k m => spec_PartFor.l0_eq k m x _ _ _ _ _ _ _ _ _ _ _) ?_
        refine E2.pos (by omega) ?_
        refine E2.pos (by omega) ?_
        refine E2.pos (by omega) ?_
        refine E2.pos hq.symm ?_
        refine E2.bind en1 ?_
        refine E2.bind p1 ?_
        exact E2.ret
      | succ d ih => exact fun i hi => skip i _ (by omega) (hb i (by omega)) (ih (i + 1) (by omega))
    exact ⟨(w.1, (decide (w.2.1 = true), ())), hw, Ev.eq (fun k => spec_PartFor_eq k o x) (Ev.loop (f := fun k m => spec_PartFor.l0 k m x 0 o.1 o.2.1.1 o.2.1.2.1 o.2.2.1 o.2.2.2.1 o.2.2.2.2.1 o.2.2.2.2.2.1 o.2.2.2.2.2.2.1 o.2.2.2.2.2.2.2.1 o.2.2.2.2.2.2.2.2.1) (key r 0 (by omega))), Ev.eq (fun k => impl_PartFor_eq k o x) (Ev.bind ix (Ev.neg (by omega) (Ev.bind en2 (Ev.bind p2 Ev.ret))))⟩
theorem markO_ev (o : DT77) (b : Bk T77 o) : ∃ r, Ev (fun k => laws_markOrchestra k o 1) r ∧ ¬ (r.1 : Int) < 0 := by
  have q1 := b.1.1
  have q2 := b.2.2.1.1
  have q4 := b.2.2.2.2.1.1
  have q5 := b.2.2.2.2.2.1.1
  have q6 := b.2.2.2.2.2.2.1.1
  have s1 := laws_markPlayerS_sum o.2.2.2.1 b.2.2.2.1
  have s0 : 0 ≤ sumG laws_markPlayerS_cnt o.2.2.2.1 := sumG_nonneg fun x _ => by show (0 : Int) ≤ 3 + 1 * _; omega
  have m1 := laws_markEventS_ev o.1 (by omega) 1 (by omega) (by omega)
  have m2 := laws_markTempoS_ev o.2.2.1 (by omega) (1 + 4 * (o.1.length : Int)) (by omega) (by omega)
  have m3 := laws_markPlayerS_ev o.2.2.2.1 b.2.2.2.1 (1 + 4 * (o.1.length : Int) + 2 * (o.2.2.1.length : Int)) (by omega) (by omega)
  have m4 := laws_markIntS_ev o.2.2.2.2.1 (by omega) (1 + 4 * (o.1.length : Int) + 2 * (o.2.2.1.length : Int) + sumG laws_markPlayerS_cnt o.2.2.2.1) (by omega) (by omega)
  have m5 := laws_markMarkS_ev o.2.2.2.2.2.1 (by omega) (1 + 4 * (o.1.length : Int) + 2 * (o.2.2.1.length : Int) + sumG laws_markPlayerS_cnt o.2.2.2.1 + 1 * (o.2.2.2.2.1.length : Int)) (by omega) (by omega)
  have m6 := laws_markLetterS_ev o.2.2.2.2.2.2.1 (by omega) (1 + 4 * (o.1.length : Int) + 2 * (o.2.2.1.length : Int) + sumG laws_markPlayerS_cnt o.2.2.2.1 + 1 * (o.2.2.2.2.1.length : Int) + 5 * (o.2.2.2.2.2.1.length : Int)) (by omega) (by omega)
  exact ⟨_, Ev.eq (fun k => laws_markOrchestra_eq k o 1) (Ev.bind m1 (Ev.bind m2 (Ev.bind m3 (Ev.bind m4 (Ev.bind m5 (Ev.bind m6 Ev.ret)))))), by
    show ¬ (1 + 4 * (o.1.length : Int) + 2 * (o.2.2.1.length : Int) + sumG laws_markPlayerS_cnt o.2.2.2.1 + 1 * (o.2.2.2.2.1.length : Int) + 5 * (o.2.2.2.2.2.1.length : Int) + 2 * (o.2.2.2.2.2.2.1.length : Int)) < 0
    omega⟩
theorem pure (a0 : DT77) (a1 : Int) (w0 : Wd T77 a0) (w1 : Wd (.int .i64) a1) : ∃ k, laws_FnExactPartFor k a0 a1 = some true := by
  refine Ev.at (f := fun k => laws_FnExactPartFor k a0 a1) ?_
  obtain ⟨r0, e0, h0⟩ := laws_szOrchestra_ok a0 w0 1048576 (by omega) (by omega)
  by_cases c0 : r0 < 0
  · exact Ev.eq (fun k => laws_FnExactPartFor_eq k a0 a1) (Ev.bind e0 (Ev.pos c0 Ev.ret))
  replace h0 := h0.resolve_left c0
  have b0 := h0.2.2
  have to := laws_toOrchestra_id _ b0
  obtain ⟨v, hv, e1, e2⟩ := partFor_both a0 a1 b0.1.1 b0.2.2.2.2.1.1
  obtain ⟨mo, m1, mh⟩ := markO_ev a0 b0
  have eq := laws_eqSignS_selfL v.1 hv
  have m2 := laws_markSignS_ev v.1 hv 1 (by omega) (by omega)
  have hh : Ev (fun k => laws_heldSignS k (marks (fun q : Int => ((q, (q + 1, (q + 2, ()))) : DT157)) 3 v.1.length 1) 1) (1 + 3 * v.1.length) :=
    (laws_heldSignS_ev _ (by rw [marks_len]; exact hv) 1 (by omega) (by omega) (by rw [marks_len])).val (by rw [marks_len])
  refine Ev.eq (fun k => laws_FnExactPartFor_eq k a0 a1) ?_
  refine Ev.bind e0 ?_
  refine Ev.neg c0 ?_
  refine Ev.bind to ?_
  refine Ev.bind e1 ?_
  refine Ev.bind to ?_
  refine Ev.bind e2 ?_
  refine Ev.bind eq ?_
  refine Ev.neg (by simp) ?_
  refine Ev.neg (by simp) ?_
  refine Ev.bind to ?_
  refine Ev.bind (laws_eqOrchestra_self _ b0) ?_
  refine Ev.neg (by simp) ?_
  refine Ev.bind m1 ?_
  refine Ev.neg mh ?_
  refine Ev.bind eq ?_
  refine Ev.neg (by simp) ?_
  refine Ev.neg (by simp) ?_
  refine Ev.bind m2 ?_
  refine Ev.bind hh ?_
  refine Ev.neg (by omega) ?_
  refine Ev.neg (by simp) ?_
  refine Ev.bind to ?_
  refine Ev.bind e2 ?_
  refine Ev.bind eq ?_
  refine Ev.neg (by simp) ?_
  refine Ev.neg (by simp) ?_
  refine Ev.bind hh ?_
  refine Ev.neg (by omega) ?_
  refine Ev.neg (by simp) ?_
  exact Ev.ret
end Go.QFnExactPartFor
