/- The plain half of FnExactChordsIn. No condition. -/
import Derived.Test.YtkfnhbdloidfmaaHFnExactChordsIn
set_option linter.unusedVariables false
set_option linter.unusedSimpArgs false
open Go Go.Flat
namespace Go.QFnExactChordsIn
theorem l1In_ev (x lo hi : Int) : Ev (fun k => spec_l1In k x lo hi) (decide (lo ≤ x ∧ x ≤ hi)) := by
  by_cases c : lo ≤ x
  · exact Ev.eq (fun k => spec_l1In_eq k x lo hi) (Ev.pos c (Ev.ret.val (by simp [c])))
  · exact Ev.eq (fun k => spec_l1In_eq k x lo hi) (Ev.neg c (Ev.ret.val (by simp [c])))
theorem inRange_ev (x lo hi : Int) : Ev (fun k => impl_InRange k x lo hi) (decide (lo ≤ x ∧ x ≤ hi)) := by
  by_cases c : lo ≤ x
  · exact Ev.eq (fun k => impl_InRange_eq k x lo hi) (Ev.pos c (Ev.ret.val (by simp [c])))
  · exact Ev.eq (fun k => impl_InRange_eq k x lo hi) (Ev.neg c (Ev.ret.val (by simp [c])))
abbrev Res : Type := DT71 × (Bool × Unit)
def modR (n m : Int) : Int := if 1 ≤ m ∧ m ≤ 1000000000000 then Int.tmod (IntKind.wrap .i64 ((Int.tmod n m) + m)) m else 0
theorem specMod_ev (n m : Int) : Ev (fun k => spec_Mod k n m) (modR n m) := by
  unfold modR
  by_cases c : 1 ≤ m ∧ m ≤ 1000000000000
  · exact Ev.eq (fun k => spec_Mod_eq k n m) (Ev.bind (l1In_ev _ _ _) (Ev.neg (by simp [c]) (Ev.neg (by omega) (Ev.neg (by omega) (Ev.ret.val (by rw [if_pos c]))))))
  · exact Ev.eq (fun k => spec_Mod_eq k n m) (Ev.bind (l1In_ev _ _ _) (Ev.pos (by simpa using c) (Ev.ret.val (by rw [if_neg c]))))
theorem implMod_ev (n m : Int) : Ev (fun k => impl_Mod k n m) (modR n m) := by
  unfold modR
  by_cases c : 1 ≤ m ∧ m ≤ 1000000000000
  · exact Ev.eq (fun k => impl_Mod_eq k n m) (Ev.bind (inRange_ev _ _ _) (Ev.neg (by simp [c]) (Ev.neg (by omega) (Ev.neg (by omega) (Ev.ret.val (by rw [if_pos c]))))))
  · exact Ev.eq (fun k => impl_Mod_eq k n m) (Ev.bind (inRange_ev _ _ _) (Ev.pos (by simpa using c) (Ev.ret.val (by rw [if_neg c]))))
theorem nan_ev (x : Int) : Ev (fun k => cmp_isNaN_int k x) false := Ev.eq (fun k => cmp_isNaN_int_eq k x) (Ev.ret.val (by simp))
def cmpI (x y : Int) : Int := if x < y then -1 else if y < x then 1 else 0
theorem cmp_ev (x y : Int) : Ev (fun k => cmp_Compare_int k x y) (cmpI x y) := by
  unfold cmpI
  by_cases c : x < y
  · exact Ev.eq (fun k => cmp_Compare_int_eq k x y) (Ev.bind (nan_ev x) (Ev.bind (nan_ev y) (Ev.neg (by simp) (Ev.neg (by simp) (Ev.pos c (Ev.ret.val (by rw [if_pos c])))))))
  · by_cases c2 : y < x
    · exact Ev.eq (fun k => cmp_Compare_int_eq k x y) (Ev.bind (nan_ev x) (Ev.bind (nan_ev y) (Ev.neg (by simp) (Ev.neg (by simp) (Ev.neg c (Ev.pos c2 (Ev.ret.val (by rw [if_neg c, if_pos c2]))))))))
    · exact Ev.eq (fun k => cmp_Compare_int_eq k x y) (Ev.bind (nan_ev x) (Ev.bind (nan_ev y) (Ev.neg (by simp) (Ev.neg (by simp) (Ev.neg c (Ev.neg c2 (Ev.ret.val (by rw [if_neg c, if_neg c2]))))))))
theorem dec_of {f : Nat → Option Bool} {p : Prop} [d : Decidable p] (h : ∃ r, Ev f r ∧ (r = true ↔ p)) : Ev f (decide p) := by
  obtain ⟨r, e, hr⟩ := h
  exact e.val (by rw [Bool.eq_iff_iff, hr]; simp)
theorem loop_allE {F : Int → Nat → Nat → Option Bool} {n : Nat} (Q : Nat → Prop) (c : Bool) (hend : E2 (F (n : Int)) c)
    (hgo : ∀ i, i < n → Q i → ∀ v, E2 (F ((i + 1 : Nat) : Int)) v → E2 (F (i : Int)) v) (hstop : ∀ i, i < n → ¬ Q i → E2 (F (i : Int)) false) :
    ∃ r, E2 (F 0) r ∧ (r = true ↔ (∀ i, i < n → Q i) ∧ c = true) := by
  have key : ∀ d i, i + d = n → ∃ r, E2 (F (i : Int)) r ∧ (r = true ↔ (∀ j, i ≤ j → j < n → Q j) ∧ c = true) := by
    intro d
    induction d with
    | zero =>
      intro i hi
      have hi : i = n := by omega
      subst hi
      exact ⟨c, hend, ⟨fun h => ⟨fun j _ _ => by omega, h⟩, fun h => h.2⟩⟩
    | succ d ih =>
      intro i hi
      obtain ⟨r, er, hr⟩ := ih (i + 1) (by omega)
      by_cases hq : Q i
      · refine ⟨r, hgo i (by omega) hq r er, hr.trans ⟨fun h => ⟨fun j h1 h2 => ?_, h.2⟩, fun h => ⟨fun j h1 h2 => h.1 j (by omega) h2, h.2⟩⟩⟩
        by_cases hj : j = i
        · subst hj; exact hq
        · exact h.1 j (by omega) h2
      · exact ⟨false, hstop i (by omega) hq, by simp only [Bool.false_eq_true, false_iff]; exact fun h => hq (h.1 i (Nat.le_refl _) (by omega))⟩
  obtain ⟨r, er, hr⟩ := key n 0 (by omega)
  exact ⟨r, er, hr.trans ⟨fun h => ⟨fun i hi => h.1 i (Nat.zero_le _) hi, h.2⟩, fun h => ⟨fun i _ hi => h.1 i hi, h.2⟩⟩⟩
theorem wrapP {i : Nat} (h : 0 < i) (h2 : i < 9223372036854775807) : IntKind.wrap .i64 ((i : Int) - 1) = ((i - 1 : Nat) : Int) := by
  rw [wrapI (by omega) (by omega)]; omega
def okE (e : DT135) : Prop := (0 ≤ (e.1 : Int) ∧ (e.1 : Int) ≤ 2000) ∧ (1 ≤ (e.2.1 : Int) ∧ (e.2.1 : Int) ≤ 96) ∧ (21 ≤ (e.2.2.1 : Int) ∧ (e.2.2.1 : Int) ≤ 108) ∧ 1 ≤ (e.2.2.2.1 : Int) ∧ (e.2.2.2.1 : Int) ≤ 4
instance (e : DT135) : Decidable (okE e) := by unfold okE; infer_instance
theorem l8Ok_ev (e : DT135) : Ev (fun k => spec_l8Ok k e) (decide (okE e)) := by
  refine Ev.eq (fun k => spec_l8Ok_eq k e) (Ev.bind (l1In_ev _ _ _) ?_)
  unfold okE
  by_cases c1 : 0 ≤ (e.1 : Int) ∧ (e.1 : Int) ≤ 2000
  · refine Ev.pos (by simp [c1]) (Ev.bind (l1In_ev _ _ _) ?_)
    by_cases c2 : 1 ≤ (e.2.1 : Int) ∧ (e.2.1 : Int) ≤ 96
    · refine Ev.pos (by simp [c2]) (Ev.bind (l1In_ev _ _ _) ?_)
      by_cases c3 : 21 ≤ (e.2.2.1 : Int) ∧ (e.2.2.1 : Int) ≤ 108
      · exact Ev.pos (by simp [c3]) (Ev.bind (l1In_ev _ _ _) (Ev.ret.val (by simp only [c1, c2, c3, true_and, and_self, decide_eq_true_eq])))
      · exact Ev.neg (by simpa using c3) (Ev.ret.val (by simp only [c3, false_and, and_false, decide_false]))
    · exact Ev.neg (by simpa using c2) (Ev.ret.val (by simp only [c2, false_and, and_false, decide_false]))
  · exact Ev.neg (by simpa using c1) (Ev.ret.val (by simp only [c1, false_and, decide_false]))
def bef (a b : DT135) : Prop := (a.1 : Int) < b.1 ∨ (a.1 : Int) = b.1 ∧ ((a.2.2.2.1 : Int) < b.2.2.2.1 ∨ (a.2.2.2.1 : Int) = b.2.2.2.1 ∧ (a.2.2.1 : Int) < b.2.2.1)
instance (a b : DT135) : Decidable (bef a b) := by unfold bef; infer_instance
theorem before_ev (a b : DT135) : Ev (fun k => spec_l8Before k a b) (decide (bef a b)) := by
  refine Ev.eq (fun k => spec_l8Before_eq k a b) ?_
  unfold bef
  by_cases c1 : (a.1 : Int) = b.1
  · refine Ev.neg (by omega) ?_
    by_cases c2 : (a.2.2.2.1 : Int) = b.2.2.2.1
    · exact Ev.neg (by omega) (Ev.ret.val (by congr 1; exact propext ⟨fun h => .inr ⟨c1, .inr ⟨c2, h⟩⟩, fun h => by omega⟩))
    · exact Ev.pos (by omega) (Ev.ret.val (by congr 1; exact propext ⟨fun h => .inr ⟨c1, .inl h⟩, fun h => by omega⟩))
  · exact Ev.pos (by omega) (Ev.ret.val (by congr 1; exact propext ⟨fun h => .inl h, fun h => by omega⟩))
def orI (x y : Int) : Int := if x ≠ 0 then x else y
theorem or_ev (x y z : Int) : Ev (fun k => cmp_Or_int k [x, y, z]) (orI x (orI y z)) := by
  refine Ev.eq (fun k => cmp_Or_int_eq k _) (Ev.loop (f := fun k m => cmp_Or_int.l0 k m 0 [x, y, z] ((List.length [x, y, z] : Nat) : Int) 0) ?_)
  have w0 : IntKind.wrap .i64 ((0 : Int) + 1) = 1 := wrapI (by omega) (by omega)
  have w1 : IntKind.wrap .i64 ((1 : Int) + 1) = 2 := wrapI (by omega) (by omega)
  have w2 : IntKind.wrap .i64 ((2 : Int) + 1) = 3 := wrapI (by omega) (by omega)
  have r0 : rd (.int .i64) [x, y, z] 0 = x := rfl
  have r1 : rd (.int .i64) [x, y, z] 1 = y := rfl
  have r2 : rd (.int .i64) [x, y, z] 2 = z := rfl
  have hl : ((List.length [x, y, z] : Nat) : Int) = 3 := rfl
  unfold orI
  refine E2.eq (fun k m => cmp_Or_int.l0_eq k m 0 [x, y, z] _ 0) (E2.pos (by rw [hl]; omega) (E2.pos (by omega) (E2.pos (by rw [hl]; omega) ?_)))
  simp only [r0, w0]
  by_cases c0 : x = 0
  · refine E2.neg (fun h => h c0) ?_
    rw [if_neg (show ¬ x ≠ 0 by omega)]
    refine E2.eq (fun k m => cmp_Or_int.l0_eq k m 0 [x, y, z] _ 1) (E2.pos (by rw [hl]; omega) (E2.pos (by omega) (E2.pos (by rw [hl]; omega) ?_)))
    simp only [r1, w1]
    by_cases c1 : y = 0
    · refine E2.neg (fun h => h c1) ?_
      rw [if_neg (show ¬ y ≠ 0 by omega)]
      refine E2.eq (fun k m => cmp_Or_int.l0_eq k m 0 [x, y, z] _ 2) (E2.pos (by rw [hl]; omega) (E2.pos (by omega) (E2.pos (by rw [hl]; omega) ?_)))
      simp only [r2, w2]
      by_cases c2 : z = 0
      · exact E2.neg (fun h => h c2) (E2.eq (fun k m => cmp_Or_int.l0_eq k m 0 [x, y, z] _ 3) (E2.neg (by rw [hl]; omega) (E2.ret.val c2.symm)))
      · exact E2.pos c2 E2.ret
    · rw [if_pos c1]; exact E2.pos c1 E2.ret
  · rw [if_pos c0]; exact E2.pos c0 E2.ret
def ordI (a b : DT135) : Int := orI (cmpI a.1 b.1) (orI (cmpI a.2.2.2.1 b.2.2.2.1) (cmpI a.2.2.1 b.2.2.1))
theorem order_ev (a b : DT135) : Ev (fun k => impl_eventOrder k a b) (ordI a b) :=
  Ev.eq (fun k => impl_eventOrder_eq k a b) (Ev.bind (cmp_ev _ _) (Ev.bind (cmp_ev _ _) (Ev.bind (cmp_ev _ _) (Ev.bind (or_ev _ _ _) Ev.ret))))
theorem ordI_lt (a b : DT135) : ordI a b < 0 ↔ bef a b := by
  unfold ordI orI cmpI bef
  repeat' split
  all_goals omega
def QS (l : List DT135) (i : Nat) : Prop := okE (rd T135 l (i : Int)) ∧ (0 < i → bef (rd T135 l ((i - 1 : Nat) : Int)) (rd T135 l (i : Int)))
instance (l : List DT135) (i : Nat) : Decidable (QS l i) := by unfold QS; infer_instance
def scoreP (l : List DT135) : Prop := (∀ i, i < l.length → QS l i) ∧ decide (((l.length : Nat) : Int) ≤ 40) = true
instance (l : List DT135) : Decidable (scoreP l) := by unfold scoreP; infer_instance
theorem specScore_ev (l : List DT135) (hl : l.length ≤ 1048576) : Ev (fun k => spec_IsScore k l) (decide (scoreP l)) := by
  refine dec_of ?_
  obtain ⟨r, er, hr⟩ := loop_allE (F := fun i k m => spec_IsScore.l0 k m l i) (n := l.length) (QS l) (decide (((l.length : Nat) : Int) ≤ 40)) (E2.eq (fun k m => spec_IsScore.l0_eq k m l _) (E2.neg (by omega) E2.ret)) (fun i hi hq v e => by
    refine E2.eq (fun k m => spec_IsScore.l0_eq k m l _) (E2.pos (by omega) (E2.pos (by omega) (E2.pos (by omega) (E2.bind (l8Ok_ev _) (E2.neg (by simpa using hq.1) ?_)))))
    by_cases c : 0 < i
    · refine E2.pos (by omega) ?_
      simp only [wrapP c (show i < 9223372036854775807 by omega), wrapS (show i < 9223372036854775807 by omega)]
      exact E2.pos (by omega) (E2.pos (by omega) (E2.pos (by omega) (E2.pos (by omega) (E2.bind (before_ev _ _) (E2.neg (by simpa using hq.2 c) e)))))
    · refine E2.neg (by omega) ?_
      simp only [wrapS (show i < 9223372036854775807 by omega)]
      exact e) (fun i hi hq => by
    refine E2.eq (fun k m => spec_IsScore.l0_eq k m l _) (E2.pos (by omega) (E2.pos (by omega) (E2.pos (by omega) (E2.bind (l8Ok_ev _) ?_))))
    by_cases c0 : okE (rd T135 l (i : Int))
    · refine E2.neg (by simpa using c0) ?_
      have c : 0 < i := by
        rcases Nat.eq_zero_or_pos i with h | h
        · exact absurd ⟨c0, fun h' => by omega⟩ hq
        · exact h
      have c1 : ¬ bef (rd T135 l ((i - 1 : Nat) : Int)) (rd T135 l (i : Int)) := fun h => hq ⟨c0, fun _ => h⟩
      refine E2.pos (by omega) ?_
      simp only [wrapP c (show i < 9223372036854775807 by omega)]
      exact E2.pos (by omega) (E2.pos (by omega) (E2.pos (by omega) (E2.pos (by omega) (E2.bind (before_ev _ _) (E2.pos (by simpa using c1) E2.ret)))))
    · exact E2.pos (by simpa using c0) E2.ret)
  exact ⟨r, Ev.eq (fun k => spec_IsScore_eq k l) (Ev.loop (f := fun k m => spec_IsScore.l0 k m l 0) er), hr⟩
theorem implScore_ev (l : List DT135) (hl : l.length ≤ 1048576) : Ev (fun k => impl_IsScore k l) (decide (scoreP l)) := by
  refine dec_of ?_
  obtain ⟨r, er, hr⟩ := loop_allE (F := fun i k m => impl_IsScore.l0 k m l l ((List.length l : Nat) : Int) i) (n := l.length) (QS l) (decide (((l.length : Nat) : Int) ≤ 40)) (E2.eq (fun k m => impl_IsScore.l0_eq k m l l _ _) (E2.neg (by omega) E2.ret)) (fun i hi hq v e => by
    obtain ⟨⟨h1, h2, h3, h4⟩, h5⟩ := hq
    refine E2.eq (fun k m => impl_IsScore.l0_eq k m l l _ _) (E2.pos (by omega) (E2.pos (by omega) (E2.pos (by omega) (E2.bind (inRange_ev _ _ _) (E2.neg (by simpa using h1) (E2.bind (inRange_ev _ _ _) (E2.neg (by simpa using h2) (E2.bind (inRange_ev _ _ _) (E2.neg (by simpa using h3) (E2.bind (inRange_ev _ _ _) (E2.neg (by simpa using h4) ?_)))))))))))
    by_cases c : 0 < i
    · refine E2.pos (by omega) ?_
      simp only [wrapP c (show i < 9223372036854775807 by omega), wrapS (show i < 9223372036854775807 by omega)]
      have := (ordI_lt _ _).2 (h5 c)
      exact E2.pos (by omega) (E2.pos (by omega) (E2.bind (order_ev _ _) (E2.neg (by omega) e)))
    · refine E2.neg (by omega) ?_
      simp only [wrapS (show i < 9223372036854775807 by omega)]
      exact e) (fun i hi hq => by
    refine E2.eq (fun k m => impl_IsScore.l0_eq k m l l _ _) (E2.pos (by omega) (E2.pos (by omega) (E2.pos (by omega) (E2.bind (inRange_ev _ _ _) ?_))))
    by_cases h1 : 0 ≤ ((rd T135 l (i : Int)).1 : Int) ∧ ((rd T135 l (i : Int)).1 : Int) ≤ 2000
    · refine E2.neg (by simpa using h1) (E2.bind (inRange_ev _ _ _) ?_)
      by_cases h2 : 1 ≤ ((rd T135 l (i : Int)).2.1 : Int) ∧ ((rd T135 l (i : Int)).2.1 : Int) ≤ 96
      · refine E2.neg (by simpa using h2) (E2.bind (inRange_ev _ _ _) ?_)
        by_cases h3 : 21 ≤ ((rd T135 l (i : Int)).2.2.1 : Int) ∧ ((rd T135 l (i : Int)).2.2.1 : Int) ≤ 108
        · refine E2.neg (by simpa using h3) (E2.bind (inRange_ev _ _ _) ?_)
          by_cases h4 : 1 ≤ ((rd T135 l (i : Int)).2.2.2.1 : Int) ∧ ((rd T135 l (i : Int)).2.2.2.1 : Int) ≤ 4
          · refine E2.neg (by simpa using h4) ?_
            have c : 0 < i := by
              rcases Nat.eq_zero_or_pos i with h | h
              · exact absurd ⟨⟨h1, h2, h3, h4⟩, fun h' => by omega⟩ hq
              · exact h
            have c1 : ¬ bef (rd T135 l ((i - 1 : Nat) : Int)) (rd T135 l (i : Int)) := fun h => hq ⟨⟨h1, h2, h3, h4⟩, fun _ => h⟩
            refine E2.pos (by omega) ?_
            simp only [wrapP c (show i < 9223372036854775807 by omega)]
            have := mt (ordI_lt _ _).1 c1
            exact E2.pos (by omega) (E2.pos (by omega) (E2.bind (order_ev _ _) (E2.pos (by omega) E2.ret)))
          · exact E2.pos (by simpa using h4) E2.ret
        · exact E2.pos (by simpa using h3) E2.ret
      · exact E2.pos (by simpa using h2) E2.ret
    · exact E2.pos (by simpa using h1) E2.ret)
  exact ⟨r, Ev.eq (fun k => impl_IsScore_eq k l) (Ev.loop (f := fun k m => impl_IsScore.l0 k m l l ((List.length l : Nat) : Int) 0) er), hr⟩
def chordP (x : DT71) : Prop := (0 ≤ (x.1 : Int) ∧ (x.1 : Int) ≤ 11) ∧ (1 ≤ (x.2.1 : Int) ∧ (x.2.1 : Int) ≤ 5)
instance (x : DT71) : Decidable (chordP x) := by unfold chordP; infer_instance
theorem chordP_yes {x : DT71} (c : 0 ≤ (x.1 : Int) ∧ (x.1 : Int) ≤ 11) : decide (decide (1 ≤ (x.2.1 : Int) ∧ (x.2.1 : Int) ≤ 5) = true) = decide (chordP x) := by
  rw [decide_eq_decide, decide_eq_true_iff]
  exact ⟨fun h => ⟨c, h⟩, fun h => h.2⟩
theorem chordP_no {x : DT71} (c : ¬ (0 ≤ (x.1 : Int) ∧ (x.1 : Int) ≤ 11)) : false = decide (chordP x) := by
  symm
  rw [decide_eq_false_iff_not]
  exact fun h => c h.1
theorem specIsChord_ev (x : DT71) : Ev (fun k => spec_IsChord k x) (decide (chordP x)) := by
  by_cases c : 0 ≤ (x.1 : Int) ∧ (x.1 : Int) ≤ 11
  · exact Ev.eq (fun k => spec_IsChord_eq k x) (Ev.bind (l1In_ev _ _ _) (Ev.pos (by simpa using c) (Ev.bind (l1In_ev _ _ _) (Ev.ret.val (chordP_yes c)))))
  · exact Ev.eq (fun k => spec_IsChord_eq k x) (Ev.bind (l1In_ev _ _ _) (Ev.neg (by simpa using c) (Ev.ret.val (chordP_no c))))
theorem implIsChord_ev (x : DT71) : Ev (fun k => impl_IsChord k x) (decide (chordP x)) := by
  by_cases c : 0 ≤ (x.1 : Int) ∧ (x.1 : Int) ≤ 11
  · exact Ev.eq (fun k => impl_IsChord_eq k x) (Ev.bind (inRange_ev _ _ _) (Ev.pos (by simpa using c) (Ev.bind (inRange_ev _ _ _) (Ev.ret.val (chordP_yes c)))))
  · exact Ev.eq (fun k => impl_IsChord_eq k x) (Ev.bind (inRange_ev _ _ _) (Ev.neg (by simpa using c) (Ev.ret.val (chordP_no c))))
def num8 : List Int → Int → List Int
  | [], n => [n]
  | a :: t, n => if a < n then a :: num8 t n else if a = n then a :: t else n :: a :: t
theorem num8_mem (l : List Int) (n x : Int) : x ∈ num8 l n ↔ x = n ∨ x ∈ l := by
  induction l with
  | nil => simp [num8]
  | cons a t ih =>
    unfold num8
    split
    · rw [List.mem_cons, ih, List.mem_cons]
      constructor
      · rintro (h | h | h)
        · exact .inr (.inl h)
        · exact .inl h
        · exact .inr (.inr h)
      · rintro (h | h | h)
        · exact .inr (.inl h)
        · exact .inl h
        · exact .inr (.inr h)
    · split
      · rename_i _ e
        subst e
        rw [List.mem_cons]
        constructor
        · intro h
          exact .inr h
        · rintro (h | h)
          · exact .inl h
          · exact h
      · rw [List.mem_cons]
theorem num8_lt (l : List Int) (n : Int) (h : l.Pairwise (· < ·)) : (num8 l n).Pairwise (· < ·) := by
  induction l with
  | nil => simp [num8]
  | cons a t ih =>
    obtain ⟨h1, h2⟩ := List.pairwise_cons.1 h
    unfold num8
    split
    · rename_i c
      refine List.pairwise_cons.2 ⟨fun x hx => ?_, ih h2⟩
      rcases (num8_mem t n x).1 hx with rfl | hx
      · exact c
      · exact h1 x hx
    · split
      · exact h
      · rename_i c c'
        refine List.pairwise_cons.2 ⟨fun x hx => ?_, h⟩
        rcases List.mem_cons.1 hx with rfl | hx
        · omega
        · have := h1 x hx
          omega
theorem num8_length (l : List Int) (n : Int) : (num8 l n).length ≤ l.length + 1 := by
  induction l with
  | nil => simp [num8]
  | cons a t ih =>
    unfold num8
    split
    · simp only [List.length_cons]; omega
    · split <;> simp
def dd1 (acc : List Int) (y : Int) : List Int := if acc.getLast? = some y then acc else acc ++ [y]
def dd (l : List Int) : List Int := l.foldl dd1 []
theorem dd_snoc (l : List Int) (y : Int) : dd (l ++ [y]) = dd1 (dd l) y := by simp [dd, List.foldl_append]
theorem dd1_last (acc : List Int) (y : Int) : (dd1 acc y).getLast? = some y := by
  unfold dd1
  split
  · assumption
  · simp
theorem dd_last (l : List Int) : (dd l).getLast? = l.getLast? := by
  rcases List.eq_nil_or_concat l with rfl | ⟨k, y, rfl⟩
  · rfl
  · rw [List.concat_eq_append, dd_snoc, dd1_last]; simp
theorem last_of_max {a : Int} : ∀ {acc : List Int}, acc.Pairwise (· < ·) → a ∈ acc → (∀ b ∈ acc, b ≤ a) → acc.getLast? = some a
  | [], _, h, _ => by simp at h
  | [x], _, h, _ => by simp at h; simp [h]
  | x :: y :: t, hp, h, hb => by
    obtain ⟨h1, h2⟩ := List.pairwise_cons.1 hp
    have : a ∈ y :: t := by
      rcases List.mem_cons.1 h with rfl | h
      · have := h1 y (by simp)
        have := hb y (by simp)
        omega
      · exact h
    rw [List.getLast?_cons_cons]
    exact last_of_max h2 this (fun b hb' => hb b (List.mem_cons_of_mem _ hb'))
theorem dd_fold (xs : List Int) : ∀ acc : List Int, acc.Pairwise (· < ·) → xs.Pairwise (· ≤ ·) → (∀ a ∈ acc, ∀ x ∈ xs, a ≤ x) → (xs.foldl dd1 acc).Pairwise (· < ·) ∧ ∀ z, z ∈ xs.foldl dd1 acc ↔ z ∈ acc ∨ z ∈ xs := by
  induction xs with
  | nil => intro acc h _ _; exact ⟨h, fun z => by simp⟩
  | cons y xs ih =>
    intro acc ha hx hb
    obtain ⟨h1, h2⟩ := List.pairwise_cons.1 hx
    simp only [List.foldl_cons]
    have hacc : (dd1 acc y).Pairwise (· < ·) ∧ (∀ z, z ∈ dd1 acc y ↔ z ∈ acc ∨ z = y) := by
      unfold dd1
      split
      · rename_i hl
        have hy : y ∈ acc := List.mem_of_getLast? hl
        exact ⟨ha, fun z => ⟨.inl, fun h => h.elim id (fun e => e ▸ hy)⟩⟩
      · rename_i hl
        have hlt : ∀ a ∈ acc, a < y := by
          intro a haa
          have hle := hb a haa y (by simp)
          by_cases h : a = y
          · subst h
            exact absurd (last_of_max ha haa (fun b hbb => hb b hbb a (by simp))) hl
          · omega
        refine ⟨List.pairwise_append.2 ⟨ha, by simp, fun a haa b hbb => by simp at hbb; subst hbb; exact hlt a haa⟩, fun z => by simp⟩
    obtain ⟨k1, k2⟩ := ih (dd1 acc y) hacc.1 h2 (fun a haa x hxx => by
      rcases (hacc.2 a).1 haa with h | h
      · exact hb a h x (by simp [hxx])
      · subst h; exact h1 x hxx)
    exact ⟨k1, fun z => by rw [k2, hacc.2, List.mem_cons, or_assoc]⟩
theorem asc_ext : ∀ {l k : List Int}, l.Pairwise (· < ·) → k.Pairwise (· < ·) → (∀ z, z ∈ l ↔ z ∈ k) → l = k
  | [], [], _, _, _ => rfl
  | [], y :: k, _, _, h => by have := (h y).2 (by simp); simp at this
  | x :: l, [], _, _, h => by have := (h x).1 (by simp); simp at this
  | x :: l, y :: k, hl, hk, h => by
    obtain ⟨l1, l2⟩ := List.pairwise_cons.1 hl
    obtain ⟨k1, k2⟩ := List.pairwise_cons.1 hk
    have hxy : x = y := by
      have h1 := (h x).1 (by simp)
      have h2 := (h y).2 (by simp)
      rcases List.mem_cons.1 h1 with e | e
      · exact e
      · rcases List.mem_cons.1 h2 with e' | e'
        · exact e'.symm
        · have := k1 x e
          have := l1 y e'
          omega
    subst hxy
    rw [asc_ext l2 k2 fun z => ?_]
    constructor
    · intro hz
      rcases List.mem_cons.1 ((h z).1 (List.mem_cons_of_mem _ hz)) with e | e
      · subst e; exact absurd (l1 z hz) (Int.lt_irrefl _)
      · exact e
    · intro hz
      rcases List.mem_cons.1 ((h z).2 (List.mem_cons_of_mem _ hz)) with e | e
      · subst e; exact absurd (k1 z hz) (Int.lt_irrefl _)
      · exact e
theorem num8_fold (xs : List Int) : ∀ acc : List Int, acc.Pairwise (· < ·) → (xs.foldl num8 acc).Pairwise (· < ·) ∧ ∀ z, z ∈ xs.foldl num8 acc ↔ z ∈ acc ∨ z ∈ xs := by
  induction xs with
  | nil => intro acc h; exact ⟨h, fun z => by simp⟩
  | cons y xs ih =>
    intro acc ha
    obtain ⟨k1, k2⟩ := ih (num8 acc y) (num8_lt acc y ha)
    refine ⟨k1, fun z => ?_⟩
    simp only [List.foldl_cons]
    rw [k2, num8_mem, List.mem_cons]
    constructor
    · rintro ((h | h) | h)
      · exact .inr (.inl h)
      · exact .inl h
      · exact .inr (.inr h)
    · rintro (h | h | h)
      · exact .inl (.inr h)
      · exact .inl (.inl h)
      · exact .inr h
theorem sortI_asc (xs : List Int) : (sortI xs).Pairwise (· ≤ ·) := by
  have h := List.pairwise_mergeSort (le := fun x y : Int => decide (x ≤ y)) (fun a b c h1 h2 => by simp at h1 h2 ⊢; omega) (fun a b => by simp; omega) xs
  exact h.imp fun h => by simpa using h
theorem sortI_mem (xs : List Int) (z : Int) : z ∈ sortI xs ↔ z ∈ xs := by unfold sortI; exact List.mem_mergeSort
theorem sort_dd (xs : List Int) : dd (sortI xs) = xs.foldl num8 [] := by
  obtain ⟨k1, k2⟩ := dd_fold (sortI xs) [] .nil (sortI_asc xs) (fun a h => by simp at h)
  obtain ⟨k3, k4⟩ := num8_fold xs [] .nil
  exact asc_ext k1 k3 fun z => by
    show z ∈ (sortI xs).foldl dd1 [] ↔ _
    rw [k2, k4, sortI_mem]
theorem num8_ev (x : List Int) (n : Int) (hx : x.length ≤ 1048576) : Ev (fun k => spec_l8Num k x n) (num8 x n) := by
  have key : ∀ d (i : Nat), i + d = x.length → E2 (fun k m => spec_l8Num.l0 k m x n (i : Int)) (x.take i ++ num8 (x.drop i) n) := by
    intro d
    induction d with
    | zero =>
      intro i hi
      have ht : (x.take i).length ≤ 1048576 := by rw [List.length_take]; omega
      refine E2.eq (fun k m => spec_l8Num.l0_eq k m x n _) (E2.neg (by omega) (E2.neg (by omega) ?_))
      repeat (refine E2.pos (by first | omega | (simp only [List.length_nil, List.length_take, List.length_drop, List.length_append, List.length_cons, Int.toNat_natCast]; omega)) ?_)
      refine E2.ret.val ?_
      rw [List.drop_eq_nil_of_le (show x.length ≤ i by omega)]
      simp [num8]
      omega
    | succ d ih =>
      intro i hi
      have hi' : i < x.length := by omega
      have ht : (x.take i).length ≤ 1048576 := by rw [List.length_take]; omega
      have hd : x.drop i = rd (.int .i64) x (i : Int) :: x.drop (i + 1) := by rw [List.drop_eq_getElem_cons hi', rd_at hi']
      refine E2.eq (fun k m => spec_l8Num.l0_eq k m x n _) (E2.pos (by omega) (E2.pos (by omega) (E2.pos (by omega) ?_)))
      rw [hd]
      unfold num8
      by_cases e : LT.lt (α := Int) (rd (.int .i64) x (i : Int)) n
      · refine E2.pos e ?_
        rw [if_pos e]
        simp only [wrapS (show i < 9223372036854775807 by omega)]
        refine (ih (i + 1) (by omega)).val ?_
        rw [List.take_succ_eq_append_getElem hi', List.append_assoc, rd_at hi']
        rfl
      · refine E2.neg e (E2.pos (by omega) (E2.pos (by omega) (E2.pos (by omega) ?_)))
        rw [if_neg e]
        by_cases e2 : Eq (α := Int) (rd (.int .i64) x (i : Int)) n
        · refine E2.pos e2 (E2.pos (by simp only [List.length_nil]; omega) (E2.ret.val ?_))
          rw [if_pos e2, ← hd]
          simp
        · refine E2.neg e2 ?_
          rw [if_neg e2]
          repeat (refine E2.pos (by first | omega | (simp only [List.length_nil, List.length_take, List.length_drop, List.length_append, List.length_cons, Int.toNat_natCast]; omega)) ?_)
          refine E2.ret.val ?_
          rw [← hd]
          simp
          exact List.take_of_length_le (by simp)
  have := key x.length 0 (by omega)
  exact Ev.eq (fun k => spec_l8Num_eq k x n) (Ev.loop (f := fun k m => spec_l8Num.l0 k m x n 0) (by simpa using this))
theorem compact_ev (s : List Int) (hs : s.length ≤ 1048576) : Ev (fun k => slices_Compact___int_int k s) (dd s) := by
  have inner : ∀ d (o a b : Nat) (s0 : List Int), o + b + d = s.length → 1 ≤ b → 1 ≤ a → a < o + b → s0.length = s.length → s0.drop (o + b - 1) = s.drop (o + b - 1) → s0.take a = dd (s.take (o + b)) →
      E3 (fun k m n => slices_Compact___int_int.l1 k m n (a : Int) o (s.length - o) (b : Int) s0) (dd s) := by
    intro d
    induction d with
    | zero =>
      intro o a b s0 hd hb ha hab hl hdr htk
      refine E3.eq (fun k m n => slices_Compact___int_int.l1_eq k m n _ _ _ _ _) (E3.neg (by omega) ?_)
      have hlen : (List.take (Int.toNat (a : Int)) s0 ++ List.replicate ((Int.toNat ((List.length s0 : Nat) : Int)) - (Int.toNat (a : Int))) (Ty.dflt (.int .i64)) ++ List.drop ((Int.toNat (a : Int)) + ((Int.toNat ((List.length s0 : Nat) : Int)) - (Int.toNat (a : Int)))) s0).length = s0.length := by
        simp only [List.length_append, List.length_take, List.length_replicate, List.length_drop, Int.toNat_natCast]; omega
      refine E3.pos (by omega) (E3.pos (by omega) (E3.pos (by omega) (E3.pos (by rw [hlen]; omega) (E3.ret.val ?_))))
      rw [List.take_of_length_le (show s.length ≤ o + b by omega)] at htk
      rw [← htk]
      simp only [Int.toNat_natCast, show Int.toNat 0 = 0 from rfl, Nat.sub_zero, List.drop_zero]
      rw [List.append_assoc, List.take_append_of_le_length (by simp; omega), List.take_take, Nat.min_self]
    | succ d ih =>
      intro o a b s0 hd hb ha hab hl hdr htk
      have hlt : o + b < s.length := by omega
      have hlt1 : o + b - 1 < s.length := by omega
      have at0 : s0[o + b - 1]? = s[o + b - 1]? := by
        have := congrArg (·[0]?) hdr
        simpa using this
      have at1 : s0[o + b]? = s[o + b]? := by
        have := congrArg (·[1]?) hdr
        simp only [List.getElem?_drop] at this
        rwa [show o + b - 1 + 1 = o + b by omega] at this
      have rd0 : rd (.int .i64) s0 ((o + Int.toNat (IntKind.wrap .i64 ((b : Int) - 1)) : Nat) : Int) = s[o + b - 1] := by
        rw [wrapP (by omega) (by omega), Int.toNat_natCast, show o + (b - 1) = o + b - 1 by omega, rd_at (by omega : o + b - 1 < s0.length)]
        rw [List.getElem?_eq_getElem (by omega : o + b - 1 < s0.length), List.getElem?_eq_getElem hlt1] at at0
        exact Option.some.inj at0
      have rd1 : rd (.int .i64) s0 ((o + Int.toNat (b : Int) : Nat) : Int) = s[o + b] := by
        rw [Int.toNat_natCast, rd_at (by omega : o + b < s0.length)]
        rw [List.getElem?_eq_getElem (by omega : o + b < s0.length), List.getElem?_eq_getElem hlt] at at1
        exact Option.some.inj at1
      have hw : IntKind.wrap .i64 ((b : Int) - 1) = ((b - 1 : Nat) : Int) := wrapP (by omega) (by omega)
      have hlast : (dd (s.take (o + b))).getLast? = some s[o + b - 1] := by
        rw [dd_last, List.getLast?_take]
        rw [if_neg (by omega), List.getElem?_eq_getElem hlt1]
        rfl
      have hnext : dd (s.take (o + (b + 1))) = dd1 (dd (s.take (o + b))) s[o + b] := by
        rw [← dd_snoc, show o + (b + 1) = o + b + 1 by omega, List.take_succ_eq_append_getElem hlt]
      refine E3.eq (fun k m n => slices_Compact___int_int.l1_eq k m n _ _ _ _ _) (E3.pos (by omega) (E3.pos (by omega) (E3.pos (by omega) (E3.pos (by rw [hw]; omega) (E3.pos (by rw [hw]; omega) ?_)))))
      rw [rd0, rd1]
      by_cases hne : s[o + b] = s[o + b - 1]
      · refine E3.neg (fun h => h hne) ?_
        simp only [wrapS (show b < 9223372036854775807 by omega)]
        refine ih o a (b + 1) s0 (by omega) (by omega) ha (by omega) hl ?_ ?_
        · have := congrArg (List.drop 1) hdr
          rw [List.drop_drop, List.drop_drop] at this
          rwa [show o + b - 1 + 1 = o + (b + 1) - 1 by omega] at this
        · rw [htk, hnext]
          unfold dd1
          rw [if_pos (by rw [hlast, hne])]
      · refine E3.pos hne (E3.pos (by omega) (E3.pos (by omega) (E3.pos (by omega) (E3.pos (by omega) ?_))))
        simp only [wrapS (show b < 9223372036854775807 by omega), wrapS (show a < 9223372036854775807 by omega), Int.toNat_natCast]
        refine ih o (a + 1) (b + 1) _ (by omega) (by omega) (by omega) (by omega) (by simpa using hl) ?_ ?_
        · rw [List.drop_set_of_lt (by omega)]
          have := congrArg (List.drop 1) hdr
          rw [List.drop_drop, List.drop_drop] at this
          rwa [show o + b - 1 + 1 = o + (b + 1) - 1 by omega] at this
        · rw [hnext]
          unfold dd1
          rw [if_neg (by rw [hlast]; intro e; exact hne (Option.some.inj e).symm), ← htk]
          rw [List.take_succ_eq_append_getElem (by simp; omega), List.take_set_of_le (Nat.le_refl _)]
          simp
  have outer : ∀ d (a : Nat), a + d = s.length → 1 ≤ a → dd (s.take a) = s.take a → E2 (fun k m => slices_Compact___int_int.l0 k m (a : Int) s) (dd s) := by
    intro d
    induction d with
    | zero =>
      intro a hd ha htk
      refine E2.eq (fun k m => slices_Compact___int_int.l0_eq k m _ s) (E2.neg (by omega) (E2.ret.val ?_))
      rw [List.take_of_length_le (show s.length ≤ a by omega)] at htk
      exact htk.symm
    | succ d ih =>
      intro a hd ha htk
      have hlt : a < s.length := by omega
      have hw : IntKind.wrap .i64 ((a : Int) - 1) = ((a - 1 : Nat) : Int) := wrapP (by omega) (by omega)
      have hlast : (dd (s.take a)).getLast? = some s[a - 1] := by
        rw [dd_last, List.getLast?_take, if_neg (by omega), List.getElem?_eq_getElem (by omega : a - 1 < s.length)]
        rfl
      refine E2.eq (fun k m => slices_Compact___int_int.l0_eq k m _ s) (E2.pos (by omega) (E2.pos (by omega) (E2.pos (by omega) (E2.pos (by rw [hw]; omega) (E2.pos (by rw [hw]; omega) ?_)))))
      have r0 : rd (.int .i64) s (IntKind.wrap .i64 ((a : Int) - 1)) = s[a - 1] := by rw [hw, rd_at (by omega : a - 1 < s.length)]
      have r1 : rd (.int .i64) s (a : Int) = s[a] := rd_at hlt
      rw [r0, r1]
      by_cases he : s[a] = s[a - 1]
      · refine E2.pos he (E2.pos (by omega) (E2.pos (by omega) ?_))
        have := inner d a a 1 s (by omega) (by omega) ha (by omega) rfl rfl (by
          rw [List.take_succ_eq_append_getElem hlt, dd_snoc]
          unfold dd1
          rw [if_pos (by rw [hlast, he]), htk])
        simp only [Int.toNat_natCast]
        exact E3.loop (f := fun k m n => slices_Compact___int_int.l1 k m n (a : Int) a (s.length - a) 1 s) this
      · refine E2.neg he ?_
        simp only [wrapS (show a < 9223372036854775807 by omega)]
        refine ih (a + 1) (by omega) (by omega) ?_
        rw [List.take_succ_eq_append_getElem hlt, dd_snoc]
        unfold dd1
        rw [if_neg (by rw [hlast]; intro e; exact he (Option.some.inj e).symm), htk]
  refine Ev.eq (fun k => slices_Compact___int_int_eq k s) ?_
  by_cases h2 : ((s.length : Nat) : Int) < 2
  · refine Ev.pos h2 (Ev.ret.val ?_)
    rcases s with _ | ⟨a, _ | ⟨b, t⟩⟩
    · rfl
    · rfl
    · simp only [List.length_cons] at h2; omega
  · refine Ev.neg h2 (Ev.loop (f := fun k m => slices_Compact___int_int.l0 k m 1 s) (outer (s.length - 1) 1 (by omega) (by omega) ?_))
    rcases s with _ | ⟨a, t⟩
    · exact absurd (by simp) h2
    · rfl
theorem sort_ev (s : List Int) (hs : s.length ≤ 1048576) : Ev (fun k => slices_Sort___int_int k s) ((), sortI s) :=
  Ev.eq (fun k => slices_Sort___int_int_eq k s) ⟨0, fun _ _ => if_pos (show s.length < 4611686018427387904 by omega)⟩
def snd (tick : Int) (e : DT135) : Bool := decide ((e.1 : Int) ≤ tick ∧ tick < IntKind.wrap .i64 (e.1 + e.2.1))
def pitchOf (e : DT135) : Int := e.2.2.1
def heard (l : List DT135) (tick : Int) : List Int := (l.filter (snd tick)).map pitchOf
def sounds (l : List DT135) (tick : Int) : List Int := if scoreP l then (heard l tick).foldl num8 [] else []
theorem heard_le (l : List DT135) (tick : Int) : (heard l tick).length ≤ l.length := by unfold heard; rw [List.length_map]; exact List.length_filter_le _ _
theorem heard_cons (l : List DT135) (tick : Int) (i : Nat) (hi : i < l.length) : heard (l.drop i) tick = (if snd tick (rd T135 l (i : Int)) = true then [pitchOf (rd T135 l (i : Int))] else []) ++ heard (l.drop (i + 1)) tick := by
  unfold heard
  rw [List.drop_eq_getElem_cons hi, ← rd_at (t := T135) hi, List.filter_cons]
  split <;> simp
theorem specSounds_ev (l : List DT135) (tick : Int) (hl : l.length ≤ 1048576) : Ev (fun k => spec_SoundsAt k l tick) (sounds l tick) := by
  unfold sounds
  by_cases hp : scoreP l
  · rw [if_pos hp]
    have key : ∀ d (i : Nat) (s : List Int), i + d = l.length → s.length ≤ i → E2 (fun k m => spec_SoundsAt.l0 k m l tick (i : Int) s) ((heard (l.drop i) tick).foldl num8 s) := by
      intro d
      induction d with
      | zero =>
        intro i s hi hs
        refine E2.eq (fun k m => spec_SoundsAt.l0_eq k m l tick _ s) (E2.neg (by omega) (E2.ret.val ?_))
        rw [List.drop_eq_nil_of_le (show l.length ≤ i by omega)]
        rfl
      | succ d ih =>
        intro i s hi hs
        have hi' : i < l.length := by omega
        rw [heard_cons l tick i hi']
        refine E2.eq (fun k m => spec_SoundsAt.l0_eq k m l tick _ s) (E2.pos (by omega) (E2.bind (specScore_ev l hl) (E2.pos (by simpa using hp) (E2.pos (by omega) (E2.pos (by omega) ?_)))))
        by_cases c1 : LE.le (α := Int) (rd T135 l (i : Int)).1 tick
        · refine E2.pos c1 (E2.pos (by omega) (E2.pos (by omega) (E2.pos (by omega) (E2.pos (by omega) ?_))))
          by_cases c2 : LT.lt (α := Int) tick (IntKind.wrap .i64 ((rd T135 l (i : Int)).1 + (rd T135 l (i : Int)).2.1))
          · refine E2.pos c2 (E2.pos (by omega) (E2.pos (by omega) (E2.bind (num8_ev _ _ (by omega)) ?_)))
            rw [if_pos (show snd tick (rd T135 l (i : Int)) = true from decide_eq_true ⟨c1, c2⟩)]
            simp only [wrapS (show i < 9223372036854775807 by omega)]
            exact ih (i + 1) _ (by omega) (by have := num8_length s (pitchOf (rd T135 l (i : Int))); simp only [pitchOf] at this; omega)
          · refine E2.neg c2 ?_
            rw [if_neg (show ¬ snd tick (rd T135 l (i : Int)) = true from fun h => c2 (of_decide_eq_true h).2)]
            simp only [wrapS (show i < 9223372036854775807 by omega)]
            exact ih (i + 1) _ (by omega) (by omega)
        · refine E2.neg c1 ?_
          rw [if_neg (show ¬ snd tick (rd T135 l (i : Int)) = true from fun h => c1 (of_decide_eq_true h).1)]
          simp only [wrapS (show i < 9223372036854775807 by omega)]
          exact ih (i + 1) _ (by omega) (by omega)
    exact Ev.eq (fun k => spec_SoundsAt_eq k l tick) (Ev.loop (f := fun k m => spec_SoundsAt.l0 k m l tick 0 []) (key l.length 0 [] (by omega) (by simp)))
  · rw [if_neg hp]
    refine Ev.eq (fun k => spec_SoundsAt_eq k l tick) (Ev.loop (f := fun k m => spec_SoundsAt.l0 k m l tick 0 []) (E2.eq (fun k m => spec_SoundsAt.l0_eq k m l tick _ _) ?_))
    by_cases c : (0 : Int) < ((l.length : Nat) : Int)
    · exact E2.pos c (E2.bind (specScore_ev l hl) (E2.neg (by simpa using hp) E2.ret))
    · exact E2.neg c E2.ret
theorem soundsE_ev (e : DT135) (tick : Int) : Ev (fun k => impl_Event__sounds k e tick) (snd tick e) := by
  unfold snd
  by_cases c : (e.1 : Int) ≤ tick
  · exact Ev.eq (fun k => impl_Event__sounds_eq k e tick) (Ev.pos c (Ev.ret.val (by simp [c])))
  · exact Ev.eq (fun k => impl_Event__sounds_eq k e tick) (Ev.neg c (Ev.ret.val (by simp [c])))
theorem implSounds_ev (l : List DT135) (tick : Int) (hl : l.length ≤ 1048576) : Ev (fun k => impl_SoundsAt k l tick) (sounds l tick) := by
  unfold sounds
  by_cases hp : scoreP l
  · rw [if_pos hp]
    have key : ∀ d (i : Nat) (s : List Int), i + d = l.length → s.length ≤ i → E2 (fun k m => impl_SoundsAt.l0 k m tick l ((List.length l : Nat) : Int) (i : Int) s) (dd (sortI (s ++ heard (l.drop i) tick))) := by
      intro d
      induction d with
      | zero =>
        intro i s hi hs
        refine E2.eq (fun k m => impl_SoundsAt.l0_eq k m tick l _ _ s) (E2.neg (by omega) (E2.bind (sort_ev s (by omega)) (E2.bind (compact_ev _ (by unfold sortI; rw [List.length_mergeSort]; omega)) (E2.ret.val ?_))))
        rw [List.drop_eq_nil_of_le (show l.length ≤ i by omega)]
        simp [heard]
      | succ d ih =>
        intro i s hi hs
        have hi' : i < l.length := by omega
        rw [heard_cons l tick i hi']
        refine E2.eq (fun k m => impl_SoundsAt.l0_eq k m tick l _ _ s) (E2.pos (by omega) (E2.pos (by omega) (E2.pos (by omega) (E2.bind (soundsE_ev _ _) ?_))))
        by_cases c : snd tick (rd T135 l (i : Int)) = true
        · refine E2.pos c (E2.pos (by simp only [List.length_cons, List.length_nil]; omega) ?_)
          rw [if_pos c, ← List.append_assoc]
          simp only [wrapS (show i < 9223372036854775807 by omega)]
          exact ih (i + 1) _ (by omega) (by simp; omega)
        · refine E2.neg c ?_
          rw [if_neg c, List.nil_append]
          simp only [wrapS (show i < 9223372036854775807 by omega)]
          exact ih (i + 1) _ (by omega) (by omega)
    refine Ev.eq (fun k => impl_SoundsAt_eq k l tick) (Ev.bind (implScore_ev l hl) (Ev.neg (by simpa using hp) (Ev.loop (f := fun k m => impl_SoundsAt.l0 k m tick l ((List.length l : Nat) : Int) 0 []) ((key l.length 0 [] (by omega) (by simp)).val ?_))))
    rw [List.nil_append, sort_dd]
    rfl
  · rw [if_neg hp]
    exact Ev.eq (fun k => impl_SoundsAt_eq k l tick) (Ev.bind (implScore_ev l hl) (Ev.pos (by simpa using hp) Ev.ret))
theorem eqIntsS_ev (a b : List Int) (ha : a.length ≤ 1048576) : Ev (fun k => spec_EqualInts k a b) (decide (a = b)) := by
  refine dec_of ?_
  by_cases hl : a.length = b.length
  · obtain ⟨r, er, hr⟩ := loop_all (F := fun i k m => spec_EqualInts.l0 k m a b i) (n := a.length) (fun i => rd (.int .i64) a (i : Int) = rd (.int .i64) b (i : Int)) (E2.eq (fun k m => spec_EqualInts.l0_eq k m a b _) (E2.neg (by omega) E2.ret)) (fun i hi hq v e => by
      refine E2.eq (fun k m => spec_EqualInts.l0_eq k m a b _) (E2.pos (by omega) (E2.pos (by omega) (E2.pos (by omega) (E2.pos (by omega) (E2.pos (by omega) (E2.neg (fun h => h hq) ?_))))))
      simp only [wrapS (show i < 9223372036854775807 by omega)]; exact e) (fun i hi hq => E2.eq (fun k m => spec_EqualInts.l0_eq k m a b _) (E2.pos (by omega) (E2.pos (by omega) (E2.pos (by omega) (E2.pos (by omega) (E2.pos (by omega) (E2.pos hq E2.ret)))))))
    exact ⟨r, Ev.eq (fun k => spec_EqualInts_eq k a b) (Ev.neg (by omega) (Ev.loop (f := fun k m => spec_EqualInts.l0 k m a b 0) er)), hr.trans (list_eq_iff (t := .int .i64) hl)⟩
  · exact ⟨false, Ev.eq (fun k => spec_EqualInts_eq k a b) (Ev.pos (by omega) Ev.ret), by simp; rintro rfl; exact hl rfl⟩
theorem eqIntsI_ev (a b : List Int) (ha : a.length ≤ 1048576) : Ev (fun k => slices_Equal___int_int k a b) (decide (a = b)) := by
  refine dec_of ?_
  by_cases hl : a.length = b.length
  · obtain ⟨r, er, hr⟩ := loop_all (F := fun i k m => slices_Equal___int_int.l0 k m a b ((List.length a : Nat) : Int) i) (n := a.length) (fun i => rd (.int .i64) a (i : Int) = rd (.int .i64) b (i : Int)) (E2.eq (fun k m => slices_Equal___int_int.l0_eq k m a b _ _) (E2.neg (by omega) E2.ret)) (fun i hi hq v e => by
      refine E2.eq (fun k m => slices_Equal___int_int.l0_eq k m a b _ _) (E2.pos (by omega) (E2.pos (by omega) (E2.pos (by omega) (E2.pos (by omega) (E2.pos (by omega) (E2.neg (fun h => h hq) ?_))))))
      simp only [wrapS (show i < 9223372036854775807 by omega)]; exact e) (fun i hi hq => E2.eq (fun k m => slices_Equal___int_int.l0_eq k m a b _ _) (E2.pos (by omega) (E2.pos (by omega) (E2.pos (by omega) (E2.pos (by omega) (E2.pos (by omega) (E2.pos hq E2.ret)))))))
    exact ⟨r, Ev.eq (fun k => slices_Equal___int_int_eq k a b) (Ev.neg (by omega) (Ev.loop (f := fun k m => slices_Equal___int_int.l0 k m a b ((List.length a : Nat) : Int) 0) er)), hr.trans (list_eq_iff (t := .int .i64) hl)⟩
  · exact ⟨false, Ev.eq (fun k => slices_Equal___int_int_eq k a b) (Ev.pos (by omega) Ev.ret), by simp; rintro rfl; exact hl rfl⟩
def cls (l : List Int) : List Int := (l.map fun x => modR x 12).foldl num8 []
theorem specClasses_ev (l : List Int) (hl : l.length ≤ 1048576) : Ev (fun k => spec_ClassesOf k l) (cls l) := by
  have key : ∀ d (i : Nat) (s : List Int), i + d = l.length → s.length ≤ i → E2 (fun k m => spec_ClassesOf.l0 k m l (i : Int) s) (((l.drop i).map fun x => modR x 12).foldl num8 s) := by
    intro d
    induction d with
    | zero =>
      intro i s hi hs
      refine E2.eq (fun k m => spec_ClassesOf.l0_eq k m l _ s) (E2.neg (by omega) (E2.ret.val ?_))
      rw [List.drop_eq_nil_of_le (show l.length ≤ i by omega)]
      rfl
    | succ d ih =>
      intro i s hi hs
      have hi' : i < l.length := by omega
      rw [List.drop_eq_getElem_cons hi', ← rd_at (t := .int .i64) hi', List.map_cons, List.foldl_cons]
      refine E2.eq (fun k m => spec_ClassesOf.l0_eq k m l _ s) (E2.pos (by omega) (E2.pos (by omega) (E2.pos (by omega) (E2.bind (specMod_ev _ _) (E2.bind (num8_ev _ _ (by omega)) ?_)))))
      simp only [wrapS (show i < 9223372036854775807 by omega)]
      exact ih (i + 1) _ (by omega) (by have := num8_length s (modR (rd (.int .i64) l (i : Int)) 12); omega)
  exact Ev.eq (fun k => spec_ClassesOf_eq k l) (Ev.loop (f := fun k m => spec_ClassesOf.l0 k m l 0 []) (key l.length 0 [] (by omega) (by simp)))
theorem implClasses_ev (l : List Int) (hl : l.length ≤ 1048576) : Ev (fun k => impl_ClassesOf k l) (cls l) := by
  have key : ∀ d (i : Nat) (s : List Int), i + d = l.length → s.length ≤ i → E2 (fun k m => impl_ClassesOf.l0 k m l ((List.length l : Nat) : Int) (i : Int) s) (dd (sortI (s ++ (l.drop i).map fun x => modR x 12))) := by
    intro d
    induction d with
    | zero =>
      intro i s hi hs
      refine E2.eq (fun k m => impl_ClassesOf.l0_eq k m l _ _ s) (E2.neg (by omega) (E2.bind (sort_ev s (by omega)) (E2.bind (compact_ev _ (by unfold sortI; rw [List.length_mergeSort]; omega)) (E2.ret.val ?_))))
      rw [List.drop_eq_nil_of_le (show l.length ≤ i by omega)]
      simp
    | succ d ih =>
      intro i s hi hs
      have hi' : i < l.length := by omega
      rw [List.drop_eq_getElem_cons hi', ← rd_at (t := .int .i64) hi', List.map_cons]
      refine E2.eq (fun k m => impl_ClassesOf.l0_eq k m l _ _ s) (E2.pos (by omega) (E2.pos (by omega) (E2.pos (by omega) (E2.bind (implMod_ev _ _) (E2.pos (by simp only [List.length_cons, List.length_nil]; omega) ?_)))))
      simp only [wrapS (show i < 9223372036854775807 by omega)]
      refine (ih (i + 1) _ (by omega) (by simp; omega)).val ?_
      simp
  refine Ev.eq (fun k => impl_ClassesOf_eq k l) (Ev.loop (f := fun k m => impl_ClassesOf.l0 k m l ((List.length l : Nat) : Int) 0 []) ((key l.length 0 [] (by omega) (by simp)).val ?_))
  rw [List.nil_append, sort_dd]
  rfl
def halvesL : List (List Int) := [[0, 4, 7], [0, 3, 7], [0, 3, 6], [0, 4, 8], [0, 4, 7, 10]]
def hsOf (kd : Int) : List Int := rd (.list (.int .i64)) halvesL (kd - 1)
theorem hs_bd {kd : Int} (h : 1 ≤ kd ∧ kd ≤ 5) : (hsOf kd).length ≤ 4 ∧ ∀ x ∈ hsOf kd, 0 ≤ x ∧ x ≤ 10 := by
  have hk : kd = 1 ∨ kd = 2 ∨ kd = 3 ∨ kd = 4 ∨ kd = 5 := by omega
  rcases hk with rfl | rfl | rfl | rfl | rfl <;> exact ⟨by decide, by decide⟩
theorem modR_pos {n : Int} (h0 : 0 ≤ n) (h1 : n ≤ 1000) : modR n 12 = Int.tmod n 12 := by
  unfold modR
  rw [if_pos (by omega), Int.tmod_eq_emod_of_nonneg h0, wrapI (by omega) (by omega), Int.tmod_eq_emod_of_nonneg (by omega)]
  omega
def tones (r kd : Int) : List Int := cls ((hsOf kd).map fun n => r + n)
theorem num8s_le (l : List Int) : ∀ s : List Int, (l.foldl num8 s).length ≤ s.length + l.length := by
  induction l with
  | nil => intro s; simp
  | cons a l ih =>
    intro s
    have := ih (num8 s a)
    have := num8_length s a
    simp only [List.foldl_cons, List.length_cons]
    omega
theorem cls_le (l : List Int) : (cls l).length ≤ l.length := by
  have := num8s_le (l.map fun x => modR x 12) []
  simpa [cls] using this
theorem specTones_ev (r kd : Int) (hr : 0 ≤ r ∧ r ≤ 11) (hk : 1 ≤ kd ∧ kd ≤ 5) : Ev (fun k => spec_TonesOf k (r, (kd, ()))) (tones r kd) := by
  obtain ⟨hlen, hbd⟩ := hs_bd hk
  have hw : IntKind.wrap .i64 (kd - 1) = kd - 1 := wrapI (by omega) (by omega)
  have e1 : Ev (fun k => spec_l22Halves k kd) (hsOf kd) := by
    refine Ev.eq (fun k => spec_l22Halves_eq k kd) ?_
    rw [hw]
    exact Ev.pos (by omega) (Ev.pos (by simp only [List.length_cons, List.length_nil]; omega) Ev.ret)
  have key : ∀ d (i : Nat) (s : List Int), i + d = (hsOf kd).length → s.length ≤ i → E2 (fun k m => spec_TonesOf.l0 k m (hsOf kd) (i : Int) r kd s) (((((hsOf kd).drop i).map fun n => r + n).map fun x => modR x 12).foldl num8 s) := by
    intro d
    induction d with
    | zero =>
      intro i s hi hs
      refine E2.eq (fun k m => spec_TonesOf.l0_eq k m _ _ _ _ s) (E2.neg (by omega) (E2.ret.val ?_))
      rw [List.drop_eq_nil_of_le (show (hsOf kd).length ≤ i by omega)]
      rfl
    | succ d ih =>
      intro i s hi hs
      have hi' : i < (hsOf kd).length := by omega
      have hb := hbd _ (List.getElem_mem hi')
      rw [List.drop_eq_getElem_cons hi', List.map_cons, List.map_cons, List.foldl_cons]
      refine E2.eq (fun k m => spec_TonesOf.l0_eq k m _ _ _ _ s) (E2.pos (by omega) (E2.pos (by omega) (E2.pos (by omega) (E2.neg (by omega) (E2.bind (num8_ev _ _ (by omega)) ?_)))))
      rw [rd_at (t := .int .i64) hi', show IntKind.wrap .i64 (r + (hsOf kd)[i]) = r + (hsOf kd)[i] from wrapI (by omega) (by omega), ← modR_pos (by omega) (by omega)]
      simp only [wrapS (show i < 9223372036854775807 by omega)]
      exact ih (i + 1) _ (by omega) (by have := num8_length s (modR (r + (hsOf kd)[i]) 12); omega)
  refine Ev.eq (fun k => spec_TonesOf_eq k _) (Ev.bind (specIsChord_ev _) (Ev.neg (by simp only [decide_eq_true_eq]; exact fun h => h ⟨hr, hk⟩) (Ev.bind e1 (Ev.loop (f := fun k m => spec_TonesOf.l0 k m (hsOf kd) 0 r kd []) (key (hsOf kd).length 0 [] (by omega) (by simp))))))
theorem implTones_ev (r kd : Int) (hr : 0 ≤ r ∧ r ≤ 11) (hk : 1 ≤ kd ∧ kd ≤ 5) : Ev (fun k => impl_TonesOf k (r, (kd, ()))) (tones r kd) := by
  obtain ⟨hlen, hbd⟩ := hs_bd hk
  have hw : IntKind.wrap .i64 (kd - 1) = kd - 1 := wrapI (by omega) (by omega)
  have key : ∀ d (i : Nat) (s : List Int), i + d = (hsOf kd).length → s.length ≤ i → E2 (fun k m => impl_TonesOf.l0 k m (hsOf kd) ((List.length (hsOf kd) : Nat) : Int) (i : Int) r kd s) (cls (s ++ ((hsOf kd).drop i).map fun n => r + n)) := by
    intro d
    induction d with
    | zero =>
      intro i s hi hs
      refine E2.eq (fun k m => impl_TonesOf.l0_eq k m _ _ _ _ _ s) (E2.neg (by omega) (E2.bind (implClasses_ev s (by omega)) (E2.ret.val ?_)))
      rw [List.drop_eq_nil_of_le (show (hsOf kd).length ≤ i by omega)]
      simp
    | succ d ih =>
      intro i s hi hs
      have hi' : i < (hsOf kd).length := by omega
      have hb := hbd _ (List.getElem_mem hi')
      rw [List.drop_eq_getElem_cons hi', List.map_cons]
      refine E2.eq (fun k m => impl_TonesOf.l0_eq k m _ _ _ _ _ s) (E2.pos (by omega) (E2.pos (by omega) (E2.pos (by omega) (E2.pos (by simp only [List.length_cons, List.length_nil]; omega) ?_))))
      rw [rd_at (t := .int .i64) hi', show IntKind.wrap .i64 (r + (hsOf kd)[i]) = r + (hsOf kd)[i] from wrapI (by omega) (by omega)]
      simp only [wrapS (show i < 9223372036854775807 by omega)]
      refine (ih (i + 1) _ (by omega) (by simp; omega)).val ?_
      simp
  refine Ev.eq (fun k => impl_TonesOf_eq k _) (Ev.bind (implIsChord_ev _) (Ev.neg (by simp only [decide_eq_true_eq]; exact fun h => h ⟨hr, hk⟩) ?_))
  simp only [hw]
  refine Ev.pos (by omega) (Ev.pos (by simp only [List.length_cons, List.length_nil]; omega) (Ev.loop (f := fun k m => impl_TonesOf.l0 k m (hsOf kd) ((List.length (hsOf kd) : Nat) : Int) 0 r kd []) ?_))
  have := key (hsOf kd).length 0 [] (by omega) (by simp)
  simpa [tones] using this
theorem tones_le (r kd : Int) (hk : 1 ≤ kd ∧ kd ≤ 5) : (tones r kd).length ≤ 4 := by
  have := cls_le ((hsOf kd).map fun n => r + n)
  have := (hs_bd hk).1
  simp only [List.length_map] at *
  unfold tones
  omega
theorem chordOf_both (c : List Int) : ∃ v : Res, Ev (fun k => spec_ChordOf k c) v ∧ Ev (fun k => impl_ChordOf k c) v := by
  have key : ∀ (d : Nat) (kd a b a' b' : Int), kd + d = 6 → 1 ≤ kd → ∃ v : Res, E2 (fun k m => spec_ChordOf.l0 k m c kd a b) v ∧ E2 (fun k m => impl_ChordOf.l0 k m c kd a' b') v := by
    intro d
    induction d with
    | zero =>
      intro kd a b a' b' h1 h2
      exact ⟨_, E2.eq (fun k m => spec_ChordOf.l0_eq k m c kd a b) (E2.neg (by omega) E2.ret), E2.eq (fun k m => impl_ChordOf.l0_eq k m c kd a' b') (E2.neg (by omega) E2.ret)⟩
    | succ d ih =>
      intro kd a b a' b' h1 h2
      obtain ⟨v0, o1, o2⟩ := ih (kd + 1) a b a' b' (by omega) (by omega)
      have inner : ∀ (e : Nat) (r : Int), r + e = 12 → 0 ≤ r → ∃ v : Res, E3 (fun k m n => spec_ChordOf.l1 k m n c kd r a b) v ∧ E3 (fun k m n => impl_ChordOf.l1 k m n c kd r a' b') v := by
        intro e
        induction e with
        | zero =>
          intro r hr h0
          refine ⟨v0, E3.eq (fun k m n => spec_ChordOf.l1_eq k m n c kd r a b) (E3.neg (by omega) ?_), E3.eq (fun k m n => impl_ChordOf.l1_eq k m n c kd r a' b') (E3.neg (by omega) ?_)⟩
          · rw [wrapI (by omega) (by omega)]; exact E3.out o1
          · rw [wrapI (by omega) (by omega)]; exact E3.out o2
        | succ e ih2 =>
          intro r hr h0
          have ht := tones_le r kd ⟨h2, by omega⟩
          by_cases hc : tones r kd = c
          · exact ⟨_, E3.eq (fun k m n => spec_ChordOf.l1_eq k m n c kd r a b) (E3.pos (by omega) (E3.bind (specTones_ev r kd ⟨h0, by omega⟩ ⟨h2, by omega⟩) (E3.bind (eqIntsS_ev _ _ (by omega)) (E3.pos (by simpa using hc) E3.ret)))),
              E3.eq (fun k m n => impl_ChordOf.l1_eq k m n c kd r a' b') (E3.pos (by omega) (E3.bind (implTones_ev r kd ⟨h0, by omega⟩ ⟨h2, by omega⟩) (E3.bind (eqIntsI_ev _ _ (by omega)) (E3.pos (by simpa using hc) E3.ret))))⟩
          · obtain ⟨v, e1, e2⟩ := ih2 (r + 1) (by omega) (by omega)
            refine ⟨v, E3.eq (fun k m n => spec_ChordOf.l1_eq k m n c kd r a b) (E3.pos (by omega) (E3.bind (specTones_ev r kd ⟨h0, by omega⟩ ⟨h2, by omega⟩) (E3.bind (eqIntsS_ev _ _ (by omega)) (E3.neg (by simpa using hc) ?_)))),
              E3.eq (fun k m n => impl_ChordOf.l1_eq k m n c kd r a' b') (E3.pos (by omega) (E3.bind (implTones_ev r kd ⟨h0, by omega⟩ ⟨h2, by omega⟩) (E3.bind (eqIntsI_ev _ _ (by omega)) (E3.neg (by simpa using hc) ?_))))⟩
            · rw [wrapI (by omega) (by omega)]; exact e1
            · rw [wrapI (by omega) (by omega)]; exact e2
      obtain ⟨v, e1, e2⟩ := inner 12 0 (by omega) (by omega)
      exact ⟨v, E2.eq (fun k m => spec_ChordOf.l0_eq k m c kd a b) (E2.pos (by omega) (E3.loop (f := fun k m n => spec_ChordOf.l1 k m n c kd 0 a b) e1)), E2.eq (fun k m => impl_ChordOf.l0_eq k m c kd a' b') (E2.pos (by omega) (E3.loop (f := fun k m n => impl_ChordOf.l1 k m n c kd 0 a' b') e2))⟩
  obtain ⟨v, e1, e2⟩ := key 5 1 0 0 0 0 (by omega) (by omega)
  exact ⟨v, Ev.eq (fun k => spec_ChordOf_eq k c) (Ev.loop (f := fun k m => spec_ChordOf.l0 k m c 1 0 0) e1), Ev.eq (fun k => impl_ChordOf_eq k c) (Ev.loop (f := fun k m => impl_ChordOf.l0 k m c 1 0 0) e2)⟩
theorem chordAt_both (l : List DT135) (tick : Int) (hl : l.length ≤ 1048576) : ∃ v : Res, Ev (fun k => spec_ChordAt k l tick) v ∧ Ev (fun k => impl_ChordAt k l tick) v := by
  have hs : (sounds l tick).length ≤ 1048576 := by
    unfold sounds
    split
    · have := num8s_le (heard l tick) []
      have := heard_le l tick
      simp at *
      omega
    · simp
  obtain ⟨v, e1, e2⟩ := chordOf_both (cls (sounds l tick))
  exact ⟨_, Ev.eq (fun k => spec_ChordAt_eq k l tick) (Ev.bind (specSounds_ev l tick hl) (Ev.bind (specClasses_ev _ hs) (Ev.bind e1 Ev.ret))), Ev.eq (fun k => impl_ChordAt_eq k l tick) (Ev.bind (implSounds_ev l tick hl) (Ev.bind (implClasses_ev _ hs) (Ev.bind e2 Ev.ret)))⟩
def ticks (l : List DT135) : List Int := (l.map fun e => (e.1 : Int)).foldl num8 []
theorem chordsIn_both (l : List DT135) (hl : l.length ≤ 1048576) : ∃ v : List DT71, v.length ≤ 1048576 ∧ Ev (fun k => spec_ChordsIn k l) v ∧ Ev (fun k => impl_ChordsIn k l) v := by
  have hat : (ticks l).length ≤ l.length := by
    have := num8s_le (l.map fun e => (e.1 : Int)) []
    simpa [ticks] using this
  have second : ∀ d (i : Nat) (s : List DT71) (x x' : Int), i + d = (ticks l).length → s.length ≤ i → ∃ v : List DT71, v.length ≤ 1048576 ∧ E2 (fun k m => spec_ChordsIn.l1 k m l x (i : Int) s (ticks l)) v ∧
      E2 (fun k m => impl_ChordsIn.l1 k m l l ((List.length l : Nat) : Int) x' ((List.length (ticks l) : Nat) : Int) (i : Int) s (ticks l)) v := by
    intro d
    induction d with
    | zero =>
      intro i s x x' hi hs
      exact ⟨s, by omega, E2.eq (fun k m => spec_ChordsIn.l1_eq k m l x _ s _) (E2.neg (by omega) E2.ret), E2.eq (fun k m => impl_ChordsIn.l1_eq k m l l _ _ _ _ s _) (E2.neg (by omega) E2.ret)⟩
    | succ d ih =>
      intro i s x x' hi hs
      obtain ⟨c, c1, c2⟩ := chordAt_both l (rd (.int .i64) (ticks l) (i : Int)) hl
      have go : ∀ s' : List DT71, s'.length ≤ i + 1 → ∃ v : List DT71, v.length ≤ 1048576 ∧ E2 (fun k m => spec_ChordsIn.l1 k m l x (IntKind.wrap .i64 ((i : Int) + 1)) s' (ticks l)) v ∧
          E2 (fun k m => impl_ChordsIn.l1 k m l l ((List.length l : Nat) : Int) x' ((List.length (ticks l) : Nat) : Int) (IntKind.wrap .i64 ((i : Int) + 1)) s' (ticks l)) v := by
        intro s' hs'
        rw [wrapS (show i < 9223372036854775807 by omega)]
        exact ih (i + 1) s' x x' (by omega) hs'
      by_cases h1 : c.2.1 = true
      · by_cases h2 : ((List.length s : Nat) : Int) = 0
        · obtain ⟨v, hv, e1, e2⟩ := go (s ++ [c.1]) (by simp; omega)
          exact ⟨v, hv, E2.eq (fun k m => spec_ChordsIn.l1_eq k m l x _ s _) (E2.pos (by omega) (E2.pos (by omega) (E2.pos (by omega) (E2.bind c1 (E2.pos h1 (E2.pos h2 (E2.pos (by simp only [List.length_cons, List.length_nil]; omega) e1))))))),
            E2.eq (fun k m => impl_ChordsIn.l1_eq k m l l _ _ _ _ s _) (E2.pos (by omega) (E2.pos (by omega) (E2.pos (by omega) (E2.bind c2 (E2.pos h1 (E2.pos h2 (E2.pos (by simp only [List.length_cons, List.length_nil]; omega) e2)))))))⟩
        · have hw : IntKind.wrap .i64 (((List.length s : Nat) : Int) - 1) = ((s.length - 1 : Nat) : Int) := wrapP (by omega) (by omega)
          by_cases h3 : ¬ ((((rd T71 s (IntKind.wrap .i64 (((List.length s : Nat) : Int) - 1))).1 : Int) = c.1.1) ∧ (((rd T71 s (IntKind.wrap .i64 (((List.length s : Nat) : Int) - 1))).2.1 : Int) = c.1.2.1))
          · obtain ⟨v, hv, e1, e2⟩ := go (s ++ [c.1]) (by simp; omega)
            exact ⟨v, hv, E2.eq (fun k m => spec_ChordsIn.l1_eq k m l x _ s _) (E2.pos (by omega) (E2.pos (by omega) (E2.pos (by omega) (E2.bind c1 (E2.pos h1 (E2.neg h2 (E2.pos (by rw [hw]; omega) (E2.pos (by rw [hw]; omega) (E2.pos h3 (E2.pos (by simp only [List.length_cons, List.length_nil]; omega) e1)))))))))),
              E2.eq (fun k m => impl_ChordsIn.l1_eq k m l l _ _ _ _ s _) (E2.pos (by omega) (E2.pos (by omega) (E2.pos (by omega) (E2.bind c2 (E2.pos h1 (E2.neg h2 (E2.pos (by rw [hw]; omega) (E2.pos (by rw [hw]; omega) (E2.pos h3 (E2.pos (by simp only [List.length_cons, List.length_nil]; omega) e2))))))))))⟩
          · obtain ⟨v, hv, e1, e2⟩ := go s (by omega)
            exact ⟨v, hv, E2.eq (fun k m => spec_ChordsIn.l1_eq k m l x _ s _) (E2.pos (by omega) (E2.pos (by omega) (E2.pos (by omega) (E2.bind c1 (E2.pos h1 (E2.neg h2 (E2.pos (by rw [hw]; omega) (E2.pos (by rw [hw]; omega) (E2.neg h3 e1))))))))),
              E2.eq (fun k m => impl_ChordsIn.l1_eq k m l l _ _ _ _ s _) (E2.pos (by omega) (E2.pos (by omega) (E2.pos (by omega) (E2.bind c2 (E2.pos h1 (E2.neg h2 (E2.pos (by rw [hw]; omega) (E2.pos (by rw [hw]; omega) (E2.neg h3 e2)))))))))⟩
      · obtain ⟨v, hv, e1, e2⟩ := go s (by omega)
        exact ⟨v, hv, E2.eq (fun k m => spec_ChordsIn.l1_eq k m l x _ s _) (E2.pos (by omega) (E2.pos (by omega) (E2.pos (by omega) (E2.bind c1 (E2.neg h1 e1))))),
          E2.eq (fun k m => impl_ChordsIn.l1_eq k m l l _ _ _ _ s _) (E2.pos (by omega) (E2.pos (by omega) (E2.pos (by omega) (E2.bind c2 (E2.neg h1 e2)))))⟩
  obtain ⟨v, hv, e1, e2⟩ := second _ 0 [] ((l.length : Nat) : Int) ((l.length : Nat) : Int) (Nat.zero_add _) (by simp)
  refine ⟨v, hv, Ev.eq (fun k => spec_ChordsIn_eq k l) (Ev.loop (f := fun k m => spec_ChordsIn.l0 k m l 0 [] []) ?_), Ev.eq (fun k => impl_ChordsIn_eq k l) (Ev.loop (f := fun k m => impl_ChordsIn.l0 k m l l ((List.length l : Nat) : Int) 0 [] []) ?_)⟩
  · have key : ∀ d (i : Nat) (s : List Int), i + d = l.length → s.length ≤ i → ((l.drop i).map fun e => (e.1 : Int)).foldl num8 s = ticks l → E2 (fun k m => spec_ChordsIn.l0 k m l (i : Int) [] s) v := by
      intro d
      induction d with
      | zero =>
        intro i s hi hs ht
        refine E2.eq (fun k m => spec_ChordsIn.l0_eq k m l _ _ s) (E2.neg (by omega) ?_)
        rw [List.drop_eq_nil_of_le (show l.length ≤ i by omega)] at ht
        have ht : s = ticks l := ht
        obtain rfl : i = l.length := by omega
        rw [ht]
        exact E2.of (Ev.loop (f := fun k m => spec_ChordsIn.l1 k m l ((l.length : Nat) : Int) 0 [] (ticks l)) e1)
      | succ d ih =>
        intro i s hi hs ht
        have hi' : i < l.length := by omega
        refine E2.eq (fun k m => spec_ChordsIn.l0_eq k m l _ _ s) (E2.pos (by omega) (E2.pos (by omega) (E2.pos (by omega) (E2.bind (num8_ev _ _ (by omega)) ?_))))
        simp only [wrapS (show i < 9223372036854775807 by omega)]
        refine ih (i + 1) _ (by omega) (by have := num8_length s (rd T135 l (i : Int)).1; omega) ?_
        rw [← ht, List.drop_eq_getElem_cons hi', ← rd_at (t := T135) hi', List.map_cons, List.foldl_cons]
    exact key l.length 0 [] (by omega) (by simp) rfl
  · have key : ∀ d (i : Nat) (s : List Int), i + d = l.length → s.length ≤ i → s ++ ((l.drop i).map fun e => (e.1 : Int)) = l.map (fun e => (e.1 : Int)) → E2 (fun k m => impl_ChordsIn.l0 k m l l ((List.length l : Nat) : Int) (i : Int) [] s) v := by
      intro d
      induction d with
      | zero =>
        intro i s hi hs ht
        rw [List.drop_eq_nil_of_le (show l.length ≤ i by omega)] at ht
        have ht : s = l.map (fun e => (e.1 : Int)) := by simpa using ht
        obtain rfl : i = l.length := by omega
        refine E2.eq (fun k m => impl_ChordsIn.l0_eq k m l l _ _ _ s) (E2.neg (by omega) (E2.bind (sort_ev s (by omega)) (E2.bind (compact_ev _ (by unfold sortI; rw [List.length_mergeSort]; omega)) ?_)))
        have hd : dd (sortI s) = ticks l := by rw [sort_dd, ht]; rfl
        simp only [hd]
        exact E2.of (Ev.loop (f := fun k m => impl_ChordsIn.l1 k m l l ((List.length l : Nat) : Int) ((l.length : Nat) : Int) ((List.length (ticks l) : Nat) : Int) 0 [] (ticks l)) e2)
      | succ d ih =>
        intro i s hi hs ht
        have hi' : i < l.length := by omega
        refine E2.eq (fun k m => impl_ChordsIn.l0_eq k m l l _ _ _ s) (E2.pos (by omega) (E2.pos (by omega) (E2.pos (by omega) (E2.pos (by simp only [List.length_cons, List.length_nil]; omega) ?_))))
        simp only [wrapS (show i < 9223372036854775807 by omega)]
        refine ih (i + 1) _ (by omega) (by simp; omega) ?_
        rw [← ht, List.drop_eq_getElem_cons hi', ← rd_at (t := T135) hi', List.map_cons, List.append_assoc]
        rfl
    exact key l.length 0 [] (by omega) (by simp) rfl
theorem pure (a0 : List DT135) (w0 : Wd (.list T135) a0) : ∃ k, laws_FnExactChordsIn k a0 = some true := by
  refine Ev.at (f := fun k => laws_FnExactChordsIn k a0) ?_
  obtain ⟨r0, e0, h0⟩ := laws_szEventS_ok a0 w0 1048576 (by omega) (by omega)
  by_cases c0 : r0 < 0
  · exact Ev.eq (fun k => laws_FnExactChordsIn_eq k a0) (Ev.bind e0 (Ev.pos c0 Ev.ret))
  replace h0 := h0.resolve_left c0
  have b0 := h0.2.2
  obtain ⟨v, hv, e1, e2⟩ := chordsIn_both a0 b0.1
  have bv : Bk (.list T71) v := ⟨hv, fun x _ => bk_flat x rfl⟩
  have m1 := laws_markEventS_ev a0 b0.1 1 (by omega) (by omega)
  have m2 := laws_markChordS_ev v hv 1 (by omega) (by omega)
  have hh : Ev (fun k => laws_heldChordS k (marks (fun q : Int => ((q, (q + 1, ())) : DT71)) 2 v.length 1) 1) (1 + 2 * v.length) :=
    (laws_heldChordS_ev _ (by rw [marks_len]; exact hv) 1 (by omega) (by omega) (by rw [marks_len])).val (by rw [marks_len])
  exact Ev.eq (fun k => laws_FnExactChordsIn_eq k a0) (Ev.bind e0 (Ev.neg c0 (Ev.bind (laws_toEventS_id _ b0) (Ev.bind e1 (Ev.bind (laws_toEventS_id _ b0) (Ev.bind e2 (Ev.bind (laws_eqChordS_self _ bv) (Ev.neg (by simp) (Ev.bind (laws_toEventS_id _ b0) (Ev.bind (laws_eqEventS_self _ b0) (Ev.neg (by simp) (Ev.bind m1 (Ev.neg (by show ¬ (1 + 4 * (a0.length : Int)) < 0; omega) (Ev.bind (laws_eqChordS_self _ bv) (Ev.neg (by simp)
    (Ev.bind m2 (Ev.bind hh (Ev.neg (by omega) (Ev.neg (by simp) (Ev.bind (laws_toEventS_id _ b0) (Ev.bind e2 (Ev.bind (laws_eqChordS_self _ bv) (Ev.neg (by simp) (Ev.bind hh (Ev.neg (by omega) (Ev.neg (by simp) Ev.ret))))))))))))))))))))))))))
end Go.QFnExactChordsIn
