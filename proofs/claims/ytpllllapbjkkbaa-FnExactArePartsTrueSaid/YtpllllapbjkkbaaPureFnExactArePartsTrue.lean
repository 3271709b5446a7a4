/- The plain half of FnExactArePartsTrue. No condition. -/
import Derived.Test.YtpllllapbjkkbaaHFnExactArePartsTrue
import Derived.Test.YtpllllapbjkkbaaSortF
set_option linter.unusedVariables false
set_option linter.unusedSimpArgs false
open Go Go.Flat
namespace Go.QFnExactArePartsTrue
theorem l1In_ev (x lo hi : Int) : Ev (fun k => spec_l1In k x lo hi) (decide (lo ≤ x ∧ x ≤ hi)) := by
  by_cases c : lo ≤ x
  · exact Ev.eq (fun k => spec_l1In_eq k x lo hi) (Ev.pos c (Ev.ret.val (by simp [c])))
  · exact Ev.eq (fun k => spec_l1In_eq k x lo hi) (Ev.neg c (Ev.ret.val (by simp [c])))
theorem inRange_ev (x lo hi : Int) : Ev (fun k => impl_InRange k x lo hi) (decide (lo ≤ x ∧ x ≤ hi)) := by
  by_cases c : lo ≤ x
  · exact Ev.eq (fun k => impl_InRange_eq k x lo hi) (Ev.pos c (Ev.ret.val (by simp [c])))
  · exact Ev.eq (fun k => impl_InRange_eq k x lo hi) (Ev.neg c (Ev.ret.val (by simp [c])))
theorem specMax_ev (a b : Int) : Ev (fun k => spec_Max k a b) (max a b) := by
  by_cases c : a < b
  · exact Ev.eq (fun k => spec_Max_eq k a b) (Ev.pos c (Ev.ret.val (by omega)))
  · exact Ev.eq (fun k => spec_Max_eq k a b) (Ev.neg c (Ev.ret.val (by omega)))
theorem nan_ev (x : Int) : Ev (fun k => cmp_isNaN_int k x) false := Ev.eq (fun k => cmp_isNaN_int_eq k x) (Ev.ret.val (by simp))
def cmpI (x y : Int) : Int := if x < y then -1 else if y < x then 1 else 0
theorem cmp_ev (x y : Int) : Ev (fun k => cmp_Compare_int k x y) (cmpI x y) := by
  unfold cmpI
  by_cases c : x < y
  · exact Ev.eq (fun k => cmp_Compare_int_eq k x y) (Ev.bind (nan_ev x) (Ev.bind (nan_ev y) (Ev.neg (by simp) (Ev.neg (by simp) (Ev.pos c (Ev.ret.val (by rw [if_pos c])))))))
  · by_cases c2 : y < x
    · exact Ev.eq (fun k => cmp_Compare_int_eq k x y) (Ev.bind (nan_ev x) (Ev.bind (nan_ev y) (Ev.neg (by simp) (Ev.neg (by simp) (Ev.neg c (Ev.pos c2 (Ev.ret.val (by rw [if_neg c, if_pos c2]))))))))
    · exact Ev.eq (fun k => cmp_Compare_int_eq k x y) (Ev.bind (nan_ev x) (Ev.bind (nan_ev y) (Ev.neg (by simp) (Ev.neg (by simp) (Ev.neg c (Ev.neg c2 (Ev.ret.val (by rw [if_neg c, if_neg c2]))))))))
theorem dec_of {f : Nat → Option Bool} {p : Prop} [d : Decidable p] (h : ∃ r, Ev f r ∧ (r = true ↔ p)) : Ev f (decide p) := by
  obtain ⟨r, e, hr⟩ := h
  exact e.val (by rw [Bool.eq_iff_iff, hr]; simp)
theorem loop_allE {F : Int → Nat → Nat → Option Bool} {n : Nat} (Q : Nat → Prop) (c : Bool) (hend : E2 (F (n : Int)) c)
    (hgo : ∀ i, i < n → Q i → ∀ v, E2 (F ((i + 1 : Nat) : Int)) v → E2 (F (i : Int)) v) (hstop : ∀ i, i < n → ¬ Q i → E2 (F (i : Int)) false) :
    ∃ r, E2 (F 0) r ∧ (r = true ↔ (∀ i, i < n → Q i) ∧ c = true) := by
  have key : ∀ d i, i + d = n → ∃ r, E2 (F (i : Int)) r ∧ (r = true ↔ (∀ j, i ≤ j → j < n → Q j) ∧ c = true) := by
    intro d
    induction d with
    | zero =>
      intro i hi
      have hi : i = n := by omega
      subst hi
      exact ⟨c, hend, ⟨fun h => ⟨fun j _ _ => by omega, h⟩, fun h => h.2⟩⟩
    | succ d ih =>
      intro i hi
      obtain ⟨r, er, hr⟩ := ih (i + 1) (by omega)
      by_cases hq : Q i
      · refine ⟨r, hgo i (by omega) hq r er, hr.trans ⟨fun h => ⟨fun j h1 h2 => ?_, h.2⟩, fun h => ⟨fun j h1 h2 => h.1 j (by omega) h2, h.2⟩⟩⟩
        by_cases hj : j = i
        · subst hj; exact hq
        · exact h.1 j (by omega) h2
      · exact ⟨false, hstop i (by omega) hq, by simp only [Bool.false_eq_true, false_iff]; exact fun h => hq (h.1 i (Nat.le_refl _) (by omega))⟩
  obtain ⟨r, er, hr⟩ := key n 0 (by omega)
  exact ⟨r, er, hr.trans ⟨fun h => ⟨fun i hi => h.1 i (Nat.zero_le _) hi, h.2⟩, fun h => ⟨fun i _ hi => h.1 i hi, h.2⟩⟩⟩
theorem wrapP {i : Nat} (h : 0 < i) (h2 : i < 9223372036854775807) : IntKind.wrap .i64 ((i : Int) - 1) = ((i - 1 : Nat) : Int) := by
  rw [wrapI (by omega) (by omega)]; omega
def okE (e : DT100) : Prop := (0 ≤ (e.1 : Int) ∧ (e.1 : Int) ≤ 2000) ∧ (1 ≤ (e.2.1 : Int) ∧ (e.2.1 : Int) ≤ 96) ∧ (21 ≤ (e.2.2.1 : Int) ∧ (e.2.2.1 : Int) ≤ 108) ∧ 1 ≤ (e.2.2.2.1 : Int) ∧ (e.2.2.2.1 : Int) ≤ 4
instance (e : DT100) : Decidable (okE e) := by unfold okE; infer_instance
theorem l8Ok_ev (e : DT100) : Ev (fun k => spec_l8Ok k e) (decide (okE e)) := by
  refine Ev.eq (fun k => spec_l8Ok_eq k e) (Ev.bind (l1In_ev _ _ _) ?_)
  unfold okE
  by_cases c1 : 0 ≤ (e.1 : Int) ∧ (e.1 : Int) ≤ 2000
  · refine Ev.pos (by simp [c1]) (Ev.bind (l1In_ev _ _ _) ?_)
    by_cases c2 : 1 ≤ (e.2.1 : Int) ∧ (e.2.1 : Int) ≤ 96
    · refine Ev.pos (by simp [c2]) (Ev.bind (l1In_ev _ _ _) ?_)
      by_cases c3 : 21 ≤ (e.2.2.1 : Int) ∧ (e.2.2.1 : Int) ≤ 108
      · exact Ev.pos (by simp [c3]) (Ev.bind (l1In_ev _ _ _) (Ev.ret.val (by simp only [c1, c2, c3, true_and, and_self, decide_eq_true_eq])))
      · exact Ev.neg (by simpa using c3) (Ev.ret.val (by simp only [c3, false_and, and_false, decide_false]))
    · exact Ev.neg (by simpa using c2) (Ev.ret.val (by simp only [c2, false_and, and_false, decide_false]))
  · exact Ev.neg (by simpa using c1) (Ev.ret.val (by simp only [c1, false_and, decide_false]))
def bef (a b : DT100) : Prop := (a.1 : Int) < b.1 ∨ (a.1 : Int) = b.1 ∧ ((a.2.2.2.1 : Int) < b.2.2.2.1 ∨ (a.2.2.2.1 : Int) = b.2.2.2.1 ∧ (a.2.2.1 : Int) < b.2.2.1)
instance (a b : DT100) : Decidable (bef a b) := by unfold bef; infer_instance
theorem before_ev (a b : DT100) : Ev (fun k => spec_l8Before k a b) (decide (bef a b)) := by
  refine Ev.eq (fun k => spec_l8Before_eq k a b) ?_
  unfold bef
  by_cases c1 : (a.1 : Int) = b.1
  · refine Ev.neg (by omega) ?_
    by_cases c2 : (a.2.2.2.1 : Int) = b.2.2.2.1
    · exact Ev.neg (by omega) (Ev.ret.val (by congr 1; exact propext ⟨fun h => .inr ⟨c1, .inr ⟨c2, h⟩⟩, fun h => by omega⟩))
    · exact Ev.pos (by omega) (Ev.ret.val (by congr 1; exact propext ⟨fun h => .inr ⟨c1, .inl h⟩, fun h => by omega⟩))
  · exact Ev.pos (by omega) (Ev.ret.val (by congr 1; exact propext ⟨fun h => .inl h, fun h => by omega⟩))
def orI (x y : Int) : Int := if x ≠ 0 then x else y
theorem or_ev (x y z : Int) : Ev (fun k => cmp_Or_int k [x, y, z]) (orI x (orI y z)) := by
  refine Ev.eq (fun k => cmp_Or_int_eq k _) (Ev.loop (f := fun k m => cmp_Or_int.l0 k m 0 [x, y, z] ((List.length [x, y, z] : Nat) : Int) 0) ?_)
  have w0 : IntKind.wrap .i64 ((0 : Int) + 1) = 1 := wrapI (by omega) (by omega)
  have w1 : IntKind.wrap .i64 ((1 : Int) + 1) = 2 := wrapI (by omega) (by omega)
  have w2 : IntKind.wrap .i64 ((2 : Int) + 1) = 3 := wrapI (by omega) (by omega)
  have r0 : rd (.int .i64) [x, y, z] 0 = x := rfl
  have r1 : rd (.int .i64) [x, y, z] 1 = y := rfl
  have r2 : rd (.int .i64) [x, y, z] 2 = z := rfl
  have hl : ((List.length [x, y, z] : Nat) : Int) = 3 := rfl
  unfold orI
  refine E2.eq (fun k m => cmp_Or_int.l0_eq k m 0 [x, y, z] _ 0) (E2.pos (by rw [hl]; omega) (E2.pos (by omega) (E2.pos (by rw [hl]; omega) ?_)))
  simp only [r0, w0]
  by_cases c0 : x = 0
  · refine E2.neg (fun h => h c0) ?_
    rw [if_neg (show ¬ x ≠ 0 by omega)]
    refine E2.eq (fun k m => cmp_Or_int.l0_eq k m 0 [x, y, z] _ 1) (E2.pos (by rw [hl]; omega) (E2.pos (by omega) (E2.pos (by rw [hl]; omega) ?_)))
    simp only [r1, w1]
    by_cases c1 : y = 0
    · refine E2.neg (fun h => h c1) ?_
      rw [if_neg (show ¬ y ≠ 0 by omega)]
      refine E2.eq (fun k m => cmp_Or_int.l0_eq k m 0 [x, y, z] _ 2) (E2.pos (by rw [hl]; omega) (E2.pos (by omega) (E2.pos (by rw [hl]; omega) ?_)))
      simp only [r2, w2]
      by_cases c2 : z = 0
      · exact E2.neg (fun h => h c2) (E2.eq (fun k m => cmp_Or_int.l0_eq k m 0 [x, y, z] _ 3) (E2.neg (by rw [hl]; omega) (E2.ret.val c2.symm)))
      · exact E2.pos c2 E2.ret
    · rw [if_pos c1]; exact E2.pos c1 E2.ret
  · rw [if_pos c0]; exact E2.pos c0 E2.ret
def ordI (a b : DT100) : Int := orI (cmpI a.1 b.1) (orI (cmpI a.2.2.2.1 b.2.2.2.1) (cmpI a.2.2.1 b.2.2.1))
theorem order_ev (a b : DT100) : Ev (fun k => impl_eventOrder k a b) (ordI a b) :=
  Ev.eq (fun k => impl_eventOrder_eq k a b) (Ev.bind (cmp_ev _ _) (Ev.bind (cmp_ev _ _) (Ev.bind (cmp_ev _ _) (Ev.bind (or_ev _ _ _) Ev.ret))))
theorem ordI_lt (a b : DT100) : ordI a b < 0 ↔ bef a b := by
  unfold ordI orI cmpI bef
  repeat' split
  all_goals omega
def QS (l : List DT100) (i : Nat) : Prop := okE (rd T100 l (i : Int)) ∧ (0 < i → bef (rd T100 l ((i - 1 : Nat) : Int)) (rd T100 l (i : Int)))
instance (l : List DT100) (i : Nat) : Decidable (QS l i) := by unfold QS; infer_instance
def scoreP (l : List DT100) : Prop := (∀ i, i < l.length → QS l i) ∧ decide (((l.length : Nat) : Int) ≤ 40) = true
instance (l : List DT100) : Decidable (scoreP l) := by unfold scoreP; infer_instance
theorem specScoreB_ev (l : List DT100) (hl : l.length ≤ 33554432) : Ev (fun k => spec_IsScore k l) (decide (scoreP l)) := by
  refine dec_of ?_
  obtain ⟨r, er, hr⟩ := loop_allE (F := fun i k m => spec_IsScore.l0 k m l i) (n := l.length) (QS l) (decide (((l.length : Nat) : Int) ≤ 40)) (E2.eq (fun k m => spec_IsScore.l0_eq k m l _) (E2.neg (by omega) E2.ret)) (fun i hi hq v e => by
    refine E2.eq (fun k m => spec_IsScore.l0_eq k m l _) (E2.pos (by omega) (E2.pos (by omega) (E2.pos (by omega) (E2.bind (l8Ok_ev _) (E2.neg (by simpa using hq.1) ?_)))))
    by_cases c : 0 < i
    · refine E2.pos (by omega) ?_
      simp only [wrapP c (show i < 9223372036854775807 by omega), wrapS (show i < 9223372036854775807 by omega)]
      exact E2.pos (by omega) (E2.pos (by omega) (E2.pos (by omega) (E2.pos (by omega) (E2.bind (before_ev _ _) (E2.neg (by simpa using hq.2 c) e)))))
    · refine E2.neg (by omega) ?_
      simp only [wrapS (show i < 9223372036854775807 by omega)]
      exact e) (fun i hi hq => by
    refine E2.eq (fun k m => spec_IsScore.l0_eq k m l _) (E2.pos (by omega) (E2.pos (by omega) (E2.pos (by omega) (E2.bind (l8Ok_ev _) ?_))))
    by_cases c0 : okE (rd T100 l (i : Int))
    · refine E2.neg (by simpa using c0) ?_
      have c : 0 < i := by
        rcases Nat.eq_zero_or_pos i with h | h
        · exact absurd ⟨c0, fun h' => by omega⟩ hq
        · exact h
      have c1 : ¬ bef (rd T100 l ((i - 1 : Nat) : Int)) (rd T100 l (i : Int)) := fun h => hq ⟨c0, fun _ => h⟩
      refine E2.pos (by omega) ?_
      simp only [wrapP c (show i < 9223372036854775807 by omega)]
      exact E2.pos (by omega) (E2.pos (by omega) (E2.pos (by omega) (E2.pos (by omega) (E2.bind (before_ev _ _) (E2.pos (by simpa using c1) E2.ret)))))
    · exact E2.pos (by simpa using c0) E2.ret)
  exact ⟨r, Ev.eq (fun k => spec_IsScore_eq k l) (Ev.loop (f := fun k m => spec_IsScore.l0 k m l 0) er), hr⟩
theorem specScore_ev (l : List DT100) (hl : l.length ≤ 1048576) : Ev (fun k => spec_IsScore k l) (decide (scoreP l)) := specScoreB_ev l (by omega)
theorem implScoreB_ev (l : List DT100) (hl : l.length ≤ 33554432) : Ev (fun k => impl_IsScore k l) (decide (scoreP l)) := by
  refine dec_of ?_
  obtain ⟨r, er, hr⟩ := loop_allE (F := fun i k m => impl_IsScore.l0 k m l l ((List.length l : Nat) : Int) i) (n := l.length) (QS l) (decide (((l.length : Nat) : Int) ≤ 40)) (E2.eq (fun k m => impl_IsScore.l0_eq k m l l _ _) (E2.neg (by omega) E2.ret)) (fun i hi hq v e => by
    obtain ⟨⟨h1, h2, h3, h4⟩, h5⟩ := hq
    refine E2.eq (fun k m => impl_IsScore.l0_eq k m l l _ _) (E2.pos (by omega) (E2.pos (by omega) (E2.pos (by omega) (E2.bind (inRange_ev _ _ _) (E2.neg (by simpa using h1) (E2.bind (inRange_ev _ _ _) (E2.neg (by simpa using h2) (E2.bind (inRange_ev _ _ _) (E2.neg (by simpa using h3) (E2.bind (inRange_ev _ _ _) (E2.neg (by simpa using h4) ?_)))))))))))
    by_cases c : 0 < i
    · refine E2.pos (by omega) ?_
      simp only [wrapP c (show i < 9223372036854775807 by omega), wrapS (show i < 9223372036854775807 by omega)]
      have := (ordI_lt _ _).2 (h5 c)
      exact E2.pos (by omega) (E2.pos (by omega) (E2.bind (order_ev _ _) (E2.neg (by omega) e)))
    · refine E2.neg (by omega) ?_
      simp only [wrapS (show i < 9223372036854775807 by omega)]
      exact e) (fun i hi hq => by
    refine E2.eq (fun k m => impl_IsScore.l0_eq k m l l _ _) (E2.pos (by omega) (E2.pos (by omega) (E2.pos (by omega) (E2.bind (inRange_ev _ _ _) ?_))))
    by_cases h1 : 0 ≤ ((rd T100 l (i : Int)).1 : Int) ∧ ((rd T100 l (i : Int)).1 : Int) ≤ 2000
    · refine E2.neg (by simpa using h1) (E2.bind (inRange_ev _ _ _) ?_)
      by_cases h2 : 1 ≤ ((rd T100 l (i : Int)).2.1 : Int) ∧ ((rd T100 l (i : Int)).2.1 : Int) ≤ 96
      · refine E2.neg (by simpa using h2) (E2.bind (inRange_ev _ _ _) ?_)
        by_cases h3 : 21 ≤ ((rd T100 l (i : Int)).2.2.1 : Int) ∧ ((rd T100 l (i : Int)).2.2.1 : Int) ≤ 108
        · refine E2.neg (by simpa using h3) (E2.bind (inRange_ev _ _ _) ?_)
          by_cases h4 : 1 ≤ ((rd T100 l (i : Int)).2.2.2.1 : Int) ∧ ((rd T100 l (i : Int)).2.2.2.1 : Int) ≤ 4
          · refine E2.neg (by simpa using h4) ?_
            have c : 0 < i := by
              rcases Nat.eq_zero_or_pos i with h | h
              · exact absurd ⟨⟨h1, h2, h3, h4⟩, fun h' => by omega⟩ hq
              · exact h
            have c1 : ¬ bef (rd T100 l ((i - 1 : Nat) : Int)) (rd T100 l (i : Int)) := fun h => hq ⟨⟨h1, h2, h3, h4⟩, fun _ => h⟩
            refine E2.pos (by omega) ?_
            simp only [wrapP c (show i < 9223372036854775807 by omega)]
            have := mt (ordI_lt _ _).1 c1
            exact E2.pos (by omega) (E2.pos (by omega) (E2.bind (order_ev _ _) (E2.pos (by omega) E2.ret)))
          · exact E2.pos (by simpa using h4) E2.ret
        · exact E2.pos (by simpa using h3) E2.ret
      · exact E2.pos (by simpa using h2) E2.ret
    · exact E2.pos (by simpa using h1) E2.ret)
  exact ⟨r, Ev.eq (fun k => impl_IsScore_eq k l) (Ev.loop (f := fun k m => impl_IsScore.l0 k m l l ((List.length l : Nat) : Int) 0) er), hr⟩
theorem implScore_ev (l : List DT100) (hl : l.length ≤ 1048576) : Ev (fun k => impl_IsScore k l) (decide (scoreP l)) := implScoreB_ev l (by omega)
theorem endOf_both (l : List DT100) (hl : l.length ≤ 1048576) : ∃ v, Ev (fun k => spec_EndOf k l) v ∧ Ev (fun k => impl_EndOf k l) v := by
  by_cases hp : scoreP l
  · have key : ∀ d (i : Nat) (n : Int), i + d = l.length → ∃ v, E2 (fun k m => spec_EndOf.l0 k m l n (i : Int)) v ∧ E2 (fun k m => impl_EndOf.l0 k m n l ((List.length l : Nat) : Int) (i : Int)) v := by
      intro d
      induction d with
      | zero =>
        intro i n hi
        exact ⟨n, E2.eq (fun k m => spec_EndOf.l0_eq k m l n _) (E2.neg (by omega) E2.ret), E2.eq (fun k m => impl_EndOf.l0_eq k m n l _ _) (E2.neg (by omega) E2.ret)⟩
      | succ d ih =>
        intro i n hi
        obtain ⟨v, e1, e2⟩ := ih (i + 1) (max n (IntKind.wrap .i64 ((rd T100 l (i : Int)).1 + (rd T100 l (i : Int)).2.1))) (by omega)
        refine ⟨v, E2.eq (fun k m => spec_EndOf.l0_eq k m l n _) (E2.pos (by omega) (E2.bind (specScore_ev l hl) (E2.pos (by simpa using hp) (E2.pos (by omega) (E2.pos (by omega) (E2.pos (by omega) (E2.pos (by omega) (E2.bind (specMax_ev _ _) ?_)))))))), E2.eq (fun k m => impl_EndOf.l0_eq k m n l _ _) (E2.pos (by omega) (E2.pos (by omega) (E2.pos (by omega) ?_)))⟩
        · simp only [wrapS (show i < 9223372036854775807 by omega)]; exact e1
        · simp only [wrapS (show i < 9223372036854775807 by omega)]; exact e2
    obtain ⟨v, e1, e2⟩ := key l.length 0 0 (by omega)
    exact ⟨v, Ev.eq (fun k => spec_EndOf_eq k l) (Ev.loop (f := fun k m => spec_EndOf.l0 k m l 0 0) e1), Ev.eq (fun k => impl_EndOf_eq k l) (Ev.bind (implScore_ev l hl) (Ev.pos (by simpa using hp) (Ev.loop (f := fun k m => impl_EndOf.l0 k m 0 l ((List.length l : Nat) : Int) 0) e2)))⟩
  · refine ⟨0, Ev.eq (fun k => spec_EndOf_eq k l) (Ev.loop (f := fun k m => spec_EndOf.l0 k m l 0 0) ?_), Ev.eq (fun k => impl_EndOf_eq k l) (Ev.bind (implScore_ev l hl) (Ev.neg (by simpa using hp) Ev.ret))⟩
    refine E2.eq (fun k m => spec_EndOf.l0_eq k m l 0 0) ?_
    by_cases c : (0 : Int) < ((l.length : Nat) : Int)
    · exact E2.pos c (E2.bind (specScore_ev l hl) (E2.neg (by simpa using hp) E2.ret))
    · exact E2.neg c E2.ret
def ofVoice (v : Int) (e : DT100) : Bool := decide ((e.2.2.2.1 : Int) = v)
theorem specVoice_ev (l : List DT100) (v : Int) (hl : l.length ≤ 1048576) : Ev (fun k => spec_VoiceOf k l v) (l.filter (ofVoice v)) := by
  have er := loop_filterR (t := T100) (l := l) (R := fun i s r => E2 (fun k m => spec_VoiceOf.l0 k m l v i s) r) (ofVoice v) (fun s => E2.eq (fun k m => spec_VoiceOf.l0_eq k m l v _ s) (E2.neg (by omega) E2.ret)) (fun i s hi hs hq r e => by
    refine E2.eq (fun k m => spec_VoiceOf.l0_eq k m l v _ s) (E2.pos (by omega) (E2.pos (by omega) (E2.pos (by omega) (E2.pos (of_decide_eq_true hq) (E2.pos (by omega) (E2.pos (by omega) (E2.pos (by simp only [List.length_cons, List.length_nil]; omega) ?_)))))))
    simp only [wrapS (show i < 9223372036854775807 by omega)]; exact e) (fun i s hi hs hq r e => by
    refine E2.eq (fun k m => spec_VoiceOf.l0_eq k m l v _ s) (E2.pos (by omega) (E2.pos (by omega) (E2.pos (by omega) (E2.neg (of_decide_eq_false hq) ?_))))
    simp only [wrapS (show i < 9223372036854775807 by omega)]; exact e)
  exact Ev.eq (fun k => spec_VoiceOf_eq k l v) (Ev.loop (f := fun k m => spec_VoiceOf.l0 k m l v 0 []) er)
theorem del_ev (e : DT100) (v : Int) : Ev (fun k => impl_VoiceOf_1 k e v) (! ofVoice v e) := by
  refine Ev.eq (fun k => impl_VoiceOf_1_eq k e v) (Ev.ret.val ?_)
  unfold ofVoice
  simp
theorem delete_ev (l : List DT100) (v : Int) (hl : l.length ≤ 1048576) : Ev (fun k => slices_DeleteFunc_impl_Event_95 k l v) (l.filter (ofVoice v)) := by
  have ei : Ev (fun k => slices_IndexFunc_impl_Event_95 k l v) (firstI (fun i => ! ofVoice v (rd T100 l (i : Int))) l.length) := by
    have er := loop_firstR (R := fun i r => E2 (fun k m => slices_IndexFunc_impl_Event_95.l0 k m l v ((List.length l : Nat) : Int) i) r) (n := l.length) (fun i => ! ofVoice v (rd T100 l (i : Int))) (E2.eq (fun k m => slices_IndexFunc_impl_Event_95.l0_eq k m l v _ _) (E2.neg (by omega) E2.ret)) (fun i hi hq r e => by
      refine E2.eq (fun k m => slices_IndexFunc_impl_Event_95.l0_eq k m l v _ _) (E2.pos (by omega) (E2.pos (by omega) (E2.pos (by omega) (E2.bind (del_ev _ _) (E2.neg (by rw [hq]; simp) ?_)))))
      simp only [wrapS (show i < 9223372036854775807 by omega)]; exact e) (fun i hi hq => E2.eq (fun k m => slices_IndexFunc_impl_Event_95.l0_eq k m l v _ _) (E2.pos (by omega) (E2.pos (by omega) (E2.pos (by omega) (E2.bind (del_ev _ _) (E2.pos hq E2.ret))))))
    exact Ev.eq (fun k => slices_IndexFunc_impl_Event_95_eq k l v) (Ev.loop (f := fun k m => slices_IndexFunc_impl_Event_95.l0 k m l v ((List.length l : Nat) : Int) 0) er)
  refine Ev.eq (fun k => slices_DeleteFunc_impl_Event_95_eq k l v) (Ev.bind ei ?_)
  rcases firstI_spec (fun i => ! ofVoice v (rd T100 l (i : Int))) l.length with ⟨h, hall⟩ | ⟨r, h, hr, h1, h0⟩
  · refine Ev.pos h (Ev.ret.val ?_)
    symm
    rw [List.filter_eq_self]
    intro x hx
    obtain ⟨i, hi, rfl⟩ := List.mem_iff_getElem.1 hx
    have := hall i hi
    rw [rd_at hi] at this
    simpa using this
  · rw [h]
    refine Ev.neg (by omega) ?_
    rw [wrapS (by omega)]
    refine Ev.loop (f := fun k m => slices_DeleteFunc_impl_Event_95.l0 k m v (r : Int) ((r + 1 : Nat) : Int) l) ?_
    refine loop_deleteR (t := T100) (l := l) (R := fun i j s w => E2 (fun k m => slices_DeleteFunc_impl_Event_95.l0 k m v i j s) w) (ofVoice v) (fun i s hi hs => ?_) (fun i j s hij hj hs hq w e => ?_) (fun i j s hij hj hs hq w e => ?_) r hr (fun j hj => by simpa using h0 j hj) (by simpa using h1)
    · refine E2.eq (fun k m => slices_DeleteFunc_impl_Event_95.l0_eq k m v _ _ s) (E2.neg (by omega) (E2.pos (by omega) (E2.pos (by omega) (E2.pos (by omega) (E2.pos ?_ (E2.ret.val ?_))))))
      · simp only [List.length_append, List.length_take, List.length_replicate, List.length_drop, Int.toNat_natCast]
        omega
      · simp only [Int.toNat_natCast, show Int.toNat 0 = 0 from rfl, Nat.sub_zero, List.drop_zero]
        rw [List.append_assoc, List.take_append_of_le_length (by simp; omega), List.take_take, Nat.min_self]
    · refine E2.eq (fun k m => slices_DeleteFunc_impl_Event_95.l0_eq k m v _ _ s) (E2.pos (by omega) (E2.pos (by omega) (E2.pos (by omega) (E2.bind (del_ev _ _) (E2.pos (by rw [hq]; simp) (E2.pos (by omega) (E2.pos (by omega) ?_)))))))
      simp only [wrapS (show i < 9223372036854775807 by omega), wrapS (show j < 9223372036854775807 by omega), Int.toNat_natCast]; exact e
    · refine E2.eq (fun k m => slices_DeleteFunc_impl_Event_95.l0_eq k m v _ _ s) (E2.pos (by omega) (E2.pos (by omega) (E2.pos (by omega) (E2.bind (del_ev _ _) (E2.neg (by rw [hq]; simp) ?_)))))
      simp only [wrapS (show j < 9223372036854775807 by omega)]; exact e
theorem cloneE_ev (l : List DT100) (hl : l.length ≤ 1048576) : Ev (fun k => impl_clone_impl_Event k l) l :=
  Ev.eq (fun k => impl_clone_impl_Event_eq k l) (Ev.pos (by simp only [List.length_nil]; omega) (Ev.ret.val (by simp)))
theorem implVoice_ev (l : List DT100) (v : Int) (hl : l.length ≤ 1048576) : Ev (fun k => impl_VoiceOf k l v) (l.filter (ofVoice v)) :=
  Ev.eq (fun k => impl_VoiceOf_eq k l v) (Ev.bind (cloneE_ev l hl) (Ev.bind (delete_ev l v hl) Ev.ret))
theorem Ev.uniq {α : Type} {f : Nat → Option α} {a b : α} (h : Ev f a) (k : Ev f b) : a = b := by
  obtain ⟨K, h⟩ := h
  obtain ⟨M, k⟩ := k
  have h1 := h (max K M) (by omega)
  rw [k (max K M) (by omega)] at h1
  exact (Option.some.inj h1).symm
theorem first_idx (Q : Nat → Prop) : ∀ n, ∃ p, p ≤ n ∧ (∀ j, j < p → Q j) ∧ (p < n → ¬ Q p)
  | 0 => ⟨0, Nat.le_refl _, fun j hj => by omega, fun h => by omega⟩
  | n + 1 => by
    obtain ⟨p, h1, h2, h3⟩ := first_idx Q n
    by_cases hp : p < n
    · exact ⟨p, by omega, h2, fun _ => h3 hp⟩
    · have : p = n := by omega
      subst this
      by_cases hq : Q p
      · exact ⟨p + 1, Nat.le_refl _, fun j hj => by
          by_cases h : j = p
          · subst h; exact hq
          · exact h2 j (by omega), fun h => by omega⟩
      · exact ⟨p, by omega, h2, fun _ => hq⟩
theorem bef_trans {a b c : DT100} (h : bef a b) (k : bef b c) : bef a c := by unfold bef at *; omega
theorem score_bef {l : List DT100} (h : ∀ i, i < l.length → QS l i) : ∀ d i : Nat, i + d + 1 < l.length → bef (rd T100 l (i : Int)) (rd T100 l ((i + d + 1 : Nat) : Int)) := by
  intro d
  induction d with
  | zero => intro i hi; exact (h (i + 1) (by omega)).2 (by omega)
  | succ d ih => intro i hi; exact bef_trans (ih i (by omega)) ((h (i + (d + 1) + 1) (by omega)).2 (by omega))
def failP : List DT127 × (Bool × Unit) := ([], (false, ()))
theorem partLoop (l0 l : List DT100) (e : Int) (hl0 : l0.length ≤ 1048576) (hl : l.length ≤ 1048576) (hp : scoreP l0) : ∀ (d i : Nat) (a : Int) (s : List DT127), i + d = l.length → s.length ≤ 2 * i →
    ∃ v : List DT127 × (Bool × Unit), v.1.length ≤ 2 * l.length + 1 ∧ E2 (fun k m => spec_PartFrom.l0 k m l0 e a (i : Int) s l) v ∧ (e ≤ 2096 → E2 (fun k m => impl_PartFrom.l0 k m e a ((List.length l : Nat) : Int) (i : Int) s l) v) ∧ (2096 < e → v = failP) := by
  intro d
  induction d with
  | zero =>
    intro i a s hi hs
    have hi : i = l.length := by omega
    subst hi
    have start : ∀ {v : List DT127 × (Bool × Unit)}, E2 (fun k m => if (e : Int) < a then some ([], (false, ())) else if (2096 : Int) < e then some ([], (false, ())) else if (a : Int) < e then (if (List.length s + List.length ([(a, (IntKind.wrap .i64 (e - a), (0, ())))] : (List DT127))) * 24 ≤ 211106232532992 then some ((s ++ ([(a, (IntKind.wrap .i64 (e - a), (0, ())))] : (List DT127))), (true, ())) else none) else some (s, (true, ()))) v → E2 (fun k m => spec_PartFrom.l0 k m l0 e a ((l.length : Nat) : Int) s l) v := by
      intro v h
      refine E2.eq (fun k m => spec_PartFrom.l0_eq k m l0 e a _ s l) ?_
      refine E2.neg (by omega) ?_
      refine E2.bind (specScore_ev l0 hl0) ?_
      exact E2.neg (by simpa using hp) h
    by_cases c1 : e < a
    · refine ⟨failP, by simp [failP], start (E2.pos c1 E2.ret), fun he => ?_, fun _ => rfl⟩
      refine E2.eq (fun k m => impl_PartFrom.l0_eq k m e a _ _ s l) ?_
      refine E2.neg (by omega) ?_
      exact E2.pos c1 E2.ret
    by_cases c2 : 2096 < e
    · exact ⟨failP, by simp [failP], start (E2.neg c1 (E2.pos c2 E2.ret)), fun he => absurd c2 (by omega), fun _ => rfl⟩
    by_cases c3 : a < e
    · refine ⟨((s ++ ([(a, (IntKind.wrap .i64 (e - a), (0, ())))] : (List DT127))), (true, ())), by simp; omega, start (E2.neg c1 (E2.neg c2 (E2.pos c3 (E2.pos (by simp only [List.length_cons, List.length_nil]; omega) E2.ret)))), fun he => ?_, fun h => absurd h c2⟩
      refine E2.eq (fun k m => impl_PartFrom.l0_eq k m e a _ _ s l) ?_
      refine E2.neg (by omega) ?_
      refine E2.neg c1 ?_
      refine E2.pos c3 ?_
      refine E2.pos (by simp only [List.length_cons, List.length_nil]; omega) ?_
      exact E2.ret
    · refine ⟨(s, (true, ())), by show s.length ≤ _; omega, start (E2.neg c1 (E2.neg c2 (E2.neg c3 E2.ret))), fun he => ?_, fun h => absurd h c2⟩
      refine E2.eq (fun k m => impl_PartFrom.l0_eq k m e a _ _ s l) ?_
      refine E2.neg (by omega) ?_
      refine E2.neg c1 ?_
      exact E2.neg c3 E2.ret
  | succ d ih =>
    intro i a s hi hs
    have hlt : i < l.length := by omega
    have i0 : (0 : Int) ≤ (i : Int) := by omega
    have i1 : (i : Int) < ((List.length l : Nat) : Int) := by omega
    by_cases c1 : LT.lt (α := Int) (rd T100 l (i : Int)).1 a
    · refine ⟨failP, by simp [failP], ?_, fun he => ?_, fun _ => rfl⟩
      · refine E2.eq (fun k m => spec_PartFrom.l0_eq k m l0 e a _ s l) ?_
        refine E2.pos i1 ?_
        refine E2.bind (specScore_ev l0 hl0) ?_
        refine E2.pos (by simpa using hp) ?_
        refine E2.pos i0 ?_
        refine E2.pos i1 ?_
        exact E2.pos c1 E2.ret
      · refine E2.eq (fun k m => impl_PartFrom.l0_eq k m e a _ _ s l) ?_
        refine E2.pos i1 ?_
        refine E2.pos i0 ?_
        refine E2.pos i1 ?_
        exact E2.pos c1 E2.ret
    by_cases c2 : LT.lt (α := Int) a (rd T100 l (i : Int)).1
    · obtain ⟨v, hv, e1, e2, e3⟩ := ih (i + 1) (IntKind.wrap .i64 ((rd T100 l (i : Int)).1 + (rd T100 l (i : Int)).2.1)) ((s ++ ([(a, (IntKind.wrap .i64 ((rd T100 l (i : Int)).1 - a), (0, ())))] : (List DT127))) ++ ([((rd T100 l (i : Int)).1, ((rd T100 l (i : Int)).2.1, ((rd T100 l (i : Int)).2.2.1, ())))] : (List DT127))) (by omega) (by simp; omega)
      refine ⟨v, hv, ?_, fun he => ?_, e3⟩
      · refine E2.eq (fun k m => spec_PartFrom.l0_eq k m l0 e a _ s l) ?_
        refine E2.pos i1 ?_
        refine E2.bind (specScore_ev l0 hl0) ?_
        refine E2.pos (by simpa using hp) ?_
        refine E2.pos i0 ?_
        refine E2.pos i1 ?_
        refine E2.neg c1 ?_
        refine E2.pos i0 ?_
        refine E2.pos i1 ?_
        refine E2.pos c2 ?_
        refine E2.pos i0 ?_
        refine E2.pos i1 ?_
        refine E2.pos (by simp only [List.length_cons, List.length_nil]; omega) ?_
        refine E2.pos i0 ?_
        refine E2.pos i1 ?_
        refine E2.pos i0 ?_
        refine E2.pos i1 ?_
        refine E2.pos i0 ?_
        refine E2.pos i1 ?_
        refine E2.pos (by simp only [List.length_append, List.length_cons, List.length_nil]; omega) ?_
        refine E2.pos i0 ?_
        refine E2.pos i1 ?_
        refine E2.pos i0 ?_
        refine E2.pos i1 ?_
        simp only [wrapS (show i < 9223372036854775807 by omega)]
        exact e1
      · refine E2.eq (fun k m => impl_PartFrom.l0_eq k m e a _ _ s l) ?_
        refine E2.pos i1 ?_
        refine E2.pos i0 ?_
        refine E2.pos i1 ?_
        refine E2.neg c1 ?_
        refine E2.pos c2 ?_
        refine E2.pos (by simp only [List.length_cons, List.length_nil]; omega) ?_
        refine E2.pos (by simp only [List.length_append, List.length_cons, List.length_nil]; omega) ?_
        simp only [wrapS (show i < 9223372036854775807 by omega)]
        exact e2 he
    · obtain ⟨v, hv, e1, e2, e3⟩ := ih (i + 1) (IntKind.wrap .i64 ((rd T100 l (i : Int)).1 + (rd T100 l (i : Int)).2.1)) (s ++ ([((rd T100 l (i : Int)).1, ((rd T100 l (i : Int)).2.1, ((rd T100 l (i : Int)).2.2.1, ())))] : (List DT127))) (by omega) (by simp; omega)
      refine ⟨v, hv, ?_, fun he => ?_, e3⟩
      · refine E2.eq (fun k m => spec_PartFrom.l0_eq k m l0 e a _ s l) ?_
        refine E2.pos i1 ?_
        refine E2.bind (specScore_ev l0 hl0) ?_
        refine E2.pos (by simpa using hp) ?_
        refine E2.pos i0 ?_
        refine E2.pos i1 ?_
        refine E2.neg c1 ?_
        refine E2.pos i0 ?_
        refine E2.pos i1 ?_
        refine E2.neg c2 ?_
        refine E2.pos i0 ?_
        refine E2.pos i1 ?_
        refine E2.pos i0 ?_
        refine E2.pos i1 ?_
        refine E2.pos i0 ?_
        refine E2.pos i1 ?_
        refine E2.pos (by simp only [List.length_cons, List.length_nil]; omega) ?_
        refine E2.pos i0 ?_
        refine E2.pos i1 ?_
        refine E2.pos i0 ?_
        refine E2.pos i1 ?_
        simp only [wrapS (show i < 9223372036854775807 by omega)]
        exact e1
      · refine E2.eq (fun k m => impl_PartFrom.l0_eq k m e a _ _ s l) ?_
        refine E2.pos i1 ?_
        refine E2.pos i0 ?_
        refine E2.pos i1 ?_
        refine E2.neg c1 ?_
        refine E2.neg c2 ?_
        refine E2.pos (by simp only [List.length_cons, List.length_nil]; omega) ?_
        simp only [wrapS (show i < 9223372036854775807 by omega)]
        exact e2 he
theorem partFrom_both (l : List DT100) (v e : Int) (hl : l.length ≤ 1048576) : ∃ r : List DT127 × (Bool × Unit), r.1.length ≤ 4194304 ∧ Ev (fun k => spec_PartFrom k l v e) r ∧ Ev (fun k => impl_PartFrom k l v e) r := by
  have hf : (l.filter (ofVoice v)).length ≤ 1048576 := Nat.le_trans (List.length_filter_le _ _) hl
  by_cases hp : scoreP l
  · obtain ⟨r, h1, e1, e2, e3⟩ := partLoop l (l.filter (ofVoice v)) e hl hf hp (l.filter (ofVoice v)).length 0 0 [] (by omega) (by simp)
    refine ⟨r, by omega, Ev.eq (fun k => spec_PartFrom_eq k l v e) (Ev.bind (specVoice_ev l v hl) (Ev.loop (f := fun k m => spec_PartFrom.l0 k m l e 0 0 [] (l.filter (ofVoice v))) e1)), ?_⟩
    refine Ev.eq (fun k => impl_PartFrom_eq k l v e) ?_
    refine Ev.bind (implScore_ev l hl) ?_
    refine Ev.neg (by simpa using hp) ?_
    by_cases ce : 2096 < e
    · rw [e3 ce]; exact Ev.pos ce Ev.ret
    · refine Ev.neg ce ?_
      refine Ev.bind (implVoice_ev l v hl) ?_
      exact Ev.loop (f := fun k m => impl_PartFrom.l0 k m e 0 ((List.length (l.filter (ofVoice v)) : Nat) : Int) 0 [] (l.filter (ofVoice v))) (e2 (by omega))
  · refine ⟨failP, by simp [failP], Ev.eq (fun k => spec_PartFrom_eq k l v e) (Ev.bind (specVoice_ev l v hl) (Ev.loop (f := fun k m => spec_PartFrom.l0 k m l e 0 0 [] (l.filter (ofVoice v))) ?_)), Ev.eq (fun k => impl_PartFrom_eq k l v e) (Ev.bind (implScore_ev l hl) (Ev.pos (by simpa using hp) Ev.ret))⟩
    refine E2.eq (fun k m => spec_PartFrom.l0_eq k m l e 0 0 [] _) ?_
    by_cases c : (0 : Int) < ((List.length (l.filter (ofVoice v)) : Nat) : Int)
    · refine E2.pos c ?_
      refine E2.bind (specScore_ev l hl) ?_
      refine E2.neg (by simpa using hp) ?_
      refine E2.bind (specScore_ev l hl) ?_
      exact E2.pos (by simpa using hp) E2.ret
    · refine E2.neg c ?_
      refine E2.bind (specScore_ev l hl) ?_
      exact E2.pos (by simpa using hp) E2.ret
/-- Sorted, as far as the order tells. -/
def wkE (l : List DT100) : Prop := l.Pairwise fun a b => ¬ bef b a
theorem putW_ev (l : List DT100) (e : DT100) (hl : l.length ≤ 33554432) : ∃ v : List DT100, v.Perm (e :: l) ∧ (wkE l → wkE v) ∧ Ev (fun k => spec_l8Put k l e) v := by
  obtain ⟨p, hp, h1, h2⟩ := first_idx (fun i => bef (rd T100 l (i : Int)) e) l.length
  refine ⟨l.take p ++ [e] ++ l.drop p, ?_, fun hw => ?_, ?_⟩
  · have : (l.take p ++ [e] ++ l.drop p).Perm (e :: (l.take p ++ l.drop p)) := by
      rw [List.append_assoc]
      exact List.perm_middle
    rwa [List.take_append_drop] at this
  · have hd : ∀ b ∈ l.drop p, ¬ bef b e := fun b hb hbe => by
      obtain ⟨j, hj, rfl⟩ := List.getElem_of_mem hb
      rw [List.length_drop] at hj
      have hpl : p < l.length := by omega
      have hnp := h2 hpl
      rw [List.getElem_drop] at hbe
      rcases Nat.eq_zero_or_pos j with h0 | h0
      · subst h0
        rw [rd_at hpl] at hnp
        exact hnp hbe
      · have := List.pairwise_iff_getElem.1 hw p (p + j) hpl (by omega) (by omega)
        rw [rd_at hpl] at hnp
        unfold bef at *
        omega
    have ht : ∀ a ∈ l.take p, bef a e := fun a ha => by
      obtain ⟨j, hj, rfl⟩ := List.getElem_of_mem ha
      rw [List.length_take] at hj
      have := h1 j (by omega)
      rw [rd_at (by omega)] at this
      rw [List.getElem_take]
      exact this
    unfold wkE at *
    rw [List.append_assoc, List.pairwise_append]
    have hs : (l.take p ++ l.drop p).Pairwise fun a b => ¬ bef b a := by rw [List.take_append_drop]; exact hw
    rw [List.pairwise_append] at hs
    refine ⟨hs.1, ?_, fun a ha b hb => ?_⟩
    · rw [List.singleton_append, List.pairwise_cons]
      exact ⟨fun b hb => hd b hb, hs.2.1⟩
    · rw [List.singleton_append, List.mem_cons] at hb
      rcases hb with rfl | hb
      · have := ht a ha
        unfold bef at *
        omega
      · exact hs.2.2 a ha b hb
  · have key : ∀ d i : Nat, i + d = p → E2 (fun k m => spec_l8Put.l0 k m l (i : Int) e.1 e.2.1 e.2.2.1 e.2.2.2.1) (l.take p ++ [e] ++ l.drop p) := by
      intro d
      induction d with
      | zero =>
        intro i hi
        have hi : i = p := by omega
        subst hi
        have hfin : ((([] : List DT100) ++ (List.take ((Int.toNat (i : Int)) - (Int.toNat 0)) (List.drop (Int.toNat 0) l))) ++ ([(e.1, (e.2.1, (e.2.2.1, (e.2.2.2.1, ()))))] : (List DT100))) ++ (List.take ((Int.toNat ((List.length l : Nat) : Int)) - (Int.toNat (i : Int))) (List.drop (Int.toNat (i : Int)) l)) = l.take i ++ [e] ++ l.drop i := by
          simp only [Int.toNat_natCast, Int.toNat_zero, Nat.sub_zero, List.drop_zero, List.nil_append]
          rw [List.take_of_length_le (l := l.drop i) (by simp)]
        have hsz : (List.take ((Int.toNat (i : Int)) - (Int.toNat 0)) (List.drop (Int.toNat 0) l)).length ≤ l.length := by simp; omega
        have hsz2 : (List.take ((Int.toNat ((List.length l : Nat) : Int)) - (Int.toNat (i : Int))) (List.drop (Int.toNat (i : Int)) l)).length ≤ l.length := by simp
        refine E2.eq (fun k m => spec_l8Put.l0_eq k m l _ _ _ _ _) ?_
        by_cases c : i < l.length
        · refine E2.pos (by omega) (E2.pos (by omega) (E2.pos (by omega) (E2.bind (before_ev _ _) (E2.neg (by simpa using h2 c) ?_))))
          refine E2.pos (by omega) (E2.pos (by omega) (E2.pos (by rw [List.length_nil]; omega) (E2.pos (by simp only [List.length_append, List.length_nil, List.length_singleton]; omega) (E2.pos (by omega) (E2.pos (by omega) (E2.pos (by simp only [List.length_append, List.length_nil, List.length_singleton]; omega) ?_))))))
          exact E2.ret.val hfin
        · refine E2.neg (by omega) ?_
          refine E2.pos (by omega) (E2.pos (by omega) (E2.pos (by rw [List.length_nil]; omega) (E2.pos (by simp only [List.length_append, List.length_nil, List.length_singleton]; omega) (E2.pos (by omega) (E2.pos (by omega) (E2.pos (by simp only [List.length_append, List.length_nil, List.length_singleton]; omega) ?_))))))
          exact E2.ret.val hfin
      | succ d ih =>
        intro i hi
        refine E2.eq (fun k m => spec_l8Put.l0_eq k m l _ _ _ _ _) (E2.pos (by omega) (E2.pos (by omega) (E2.pos (by omega) (E2.bind (before_ev _ _) (E2.pos (by simpa using h1 i (by omega)) ?_)))))
        simp only [wrapS (show i < 9223372036854775807 by omega)]
        exact ih (i + 1) (by omega)
    exact Ev.eq (fun k => spec_l8Put_eq k l e) (Ev.loop (f := fun k m => spec_l8Put.l0 k m l 0 e.1 e.2.1 e.2.2.1 e.2.2.2.1) (key p 0 (by omega)))
theorem uniqE : ∀ {a b : List DT100}, a.Perm b → a.Pairwise bef → wkE b → a = b
  | [], b, h, _, _ => (List.nil_perm.1 h).symm
  | x :: a, [], h, _, _ => by have := h.length_eq; simp at this
  | x :: a, y :: b, h, h1, h2 => by
    rw [List.pairwise_cons] at h1
    unfold wkE at h2
    rw [List.pairwise_cons] at h2
    have hxy : x = y := by
      have hx : x ∈ y :: b := h.subset (by simp)
      have hy : y ∈ x :: a := h.symm.subset (by simp)
      rcases List.mem_cons.1 hx with hx | hx
      · exact hx
      · rcases List.mem_cons.1 hy with hy | hy
        · exact hy.symm
        · exact absurd (h1.1 y hy) (h2.1 x hx)
    subst hxy
    rw [uniqE (List.perm_cons x |>.1 h) h1.2 h2.2]
theorem score_pw {l : List DT100} (h : scoreP l) : l.Pairwise bef := by
  rw [List.pairwise_iff_getElem]
  intro i j hi hj hij
  have := score_bef h.1 (j - i - 1) i (by omega)
  rw [show i + (j - i - 1) + 1 = j by omega] at this
  rw [rd_at hi, rd_at hj] at this
  exact this
theorem isPart_both (p : List DT127) (hl : p.length ≤ 4194304) : ∃ r, Ev (fun k => spec_IsPart k p) r ∧ Ev (fun k => impl_IsPart k p) r := by
  have key : ∀ d i : Nat, ∀ t : Int, i + d = p.length → ∃ r, E2 (fun k m => spec_IsPart.l0 k m p t (i : Int)) r ∧ E2 (fun k m => impl_IsPart.l0 k m p t p ((List.length p : Nat) : Int) (i : Int)) r := by
    intro d
    induction d with
    | zero =>
      intro i t hi
      exact ⟨true, E2.eq (fun k m => spec_IsPart.l0_eq k m p _ _) (E2.neg (by omega) E2.ret), E2.eq (fun k m => impl_IsPart.l0_eq k m p _ p _ _) (E2.neg (by omega) E2.ret)⟩
    | succ d ih =>
      intro i t hi
      obtain ⟨r, e1, e2⟩ := ih (i + 1) (IntKind.wrap .i64 (t + (rd T127 p (i : Int)).2.1)) (by omega)
      have i0 : (0 : Int) ≤ (i : Int) := by omega
      have i1 : (i : Int) < ((List.length p : Nat) : Int) := by omega
      by_cases c1 : Eq (α := Int) (rd T127 p (i : Int)).1 t
      · by_cases c2 : LE.le (α := Int) 1 (rd T127 p (i : Int)).2.1 ∧ LE.le (α := Int) (rd T127 p (i : Int)).2.1 3000
        · by_cases c3 : Eq (α := Int) (rd T127 p (i : Int)).2.2.1 0
          · by_cases c4 : 0 < i
            · by_cases c5 : Eq (α := Int) (rd T127 p ((i - 1 : Nat) : Int)).2.2.1 0
              · refine ⟨false, E2.eq (fun k m => spec_IsPart.l0_eq k m p _ _) (E2.pos i1 (E2.pos i0 (E2.pos i1 (E2.neg (fun h => h c1) (E2.bind (l1In_ev _ _ _) (E2.neg (by simpa using c2) (E2.neg (fun h => h c3) (E2.pos (by omega) (E2.pos c3 ?_))))))))), E2.eq (fun k m => impl_IsPart.l0_eq k m p _ p _ _) (E2.pos i1 (E2.pos i0 (E2.pos i1 (E2.neg (fun h => h c1) (E2.bind (inRange_ev _ _ _) (E2.neg (by simpa using c2) (E2.neg (fun h => h c3) (E2.pos c3 (E2.pos (by omega) ?_)))))))))⟩
                all_goals
                  simp only [wrapP c4 (show i < 9223372036854775807 by omega)]
                  exact E2.pos (by omega) (E2.pos (by omega) (E2.pos c5 E2.ret))
              · refine ⟨r, E2.eq (fun k m => spec_IsPart.l0_eq k m p _ _) (E2.pos i1 (E2.pos i0 (E2.pos i1 (E2.neg (fun h => h c1) (E2.bind (l1In_ev _ _ _) (E2.neg (by simpa using c2) (E2.neg (fun h => h c3) (E2.pos (by omega) (E2.pos c3 ?_))))))))), E2.eq (fun k m => impl_IsPart.l0_eq k m p _ p _ _) (E2.pos i1 (E2.pos i0 (E2.pos i1 (E2.neg (fun h => h c1) (E2.bind (inRange_ev _ _ _) (E2.neg (by simpa using c2) (E2.neg (fun h => h c3) (E2.pos c3 (E2.pos (by omega) ?_)))))))))⟩
                · simp only [wrapP c4 (show i < 9223372036854775807 by omega), wrapS (show i < 9223372036854775807 by omega)]
                  exact E2.pos (by omega) (E2.pos (by omega) (E2.neg c5 e1))
                · simp only [wrapP c4 (show i < 9223372036854775807 by omega), wrapS (show i < 9223372036854775807 by omega)]
                  exact E2.pos (by omega) (E2.pos (by omega) (E2.neg c5 e2))
            · refine ⟨r, E2.eq (fun k m => spec_IsPart.l0_eq k m p _ _) (E2.pos i1 (E2.pos i0 (E2.pos i1 (E2.neg (fun h => h c1) (E2.bind (l1In_ev _ _ _) (E2.neg (by simpa using c2) (E2.neg (fun h => h c3) (E2.neg (by omega) ?_)))))))), E2.eq (fun k m => impl_IsPart.l0_eq k m p _ p _ _) (E2.pos i1 (E2.pos i0 (E2.pos i1 (E2.neg (fun h => h c1) (E2.bind (inRange_ev _ _ _) (E2.neg (by simpa using c2) (E2.neg (fun h => h c3) (E2.pos c3 (E2.neg (by omega) ?_)))))))))⟩
              · simp only [wrapS (show i < 9223372036854775807 by omega)]
                exact e1
              · simp only [wrapS (show i < 9223372036854775807 by omega)]
                exact e2
          · by_cases c6 : LE.le (α := Int) 21 (rd T127 p (i : Int)).2.2.1 ∧ LE.le (α := Int) (rd T127 p (i : Int)).2.2.1 108
            · by_cases c7 : LT.lt (α := Int) 96 (rd T127 p (i : Int)).2.1
              · exact ⟨false, E2.eq (fun k m => spec_IsPart.l0_eq k m p _ _) (E2.pos i1 (E2.pos i0 (E2.pos i1 (E2.neg (fun h => h c1) (E2.bind (l1In_ev _ _ _) (E2.neg (by simpa using c2) (E2.pos c3 (E2.bind (l1In_ev _ _ _) (E2.neg (by simpa using c6) (E2.pos c7 E2.ret)))))))))), E2.eq (fun k m => impl_IsPart.l0_eq k m p _ p _ _) (E2.pos i1 (E2.pos i0 (E2.pos i1 (E2.neg (fun h => h c1) (E2.bind (inRange_ev _ _ _) (E2.neg (by simpa using c2) (E2.pos c3 (E2.bind (inRange_ev _ _ _) (E2.neg (by simpa using c6) (E2.pos c7 E2.ret))))))))))⟩
              · refine ⟨r, E2.eq (fun k m => spec_IsPart.l0_eq k m p _ _) (E2.pos i1 (E2.pos i0 (E2.pos i1 (E2.neg (fun h => h c1) (E2.bind (l1In_ev _ _ _) (E2.neg (by simpa using c2) (E2.pos c3 (E2.bind (l1In_ev _ _ _) (E2.neg (by simpa using c6) (E2.neg c7 ?_)))))))))), E2.eq (fun k m => impl_IsPart.l0_eq k m p _ p _ _) (E2.pos i1 (E2.pos i0 (E2.pos i1 (E2.neg (fun h => h c1) (E2.bind (inRange_ev _ _ _) (E2.neg (by simpa using c2) (E2.pos c3 (E2.bind (inRange_ev _ _ _) (E2.neg (by simpa using c6) (E2.neg c7 (E2.neg c3 ?_)))))))))))⟩
                · simp only [wrapS (show i < 9223372036854775807 by omega)]
                  by_cases c4 : 0 < i
                  · exact E2.pos (by omega) (E2.neg c3 e1)
                  · exact E2.neg (by omega) e1
                · simp only [wrapS (show i < 9223372036854775807 by omega)]
                  exact e2
            · exact ⟨false, E2.eq (fun k m => spec_IsPart.l0_eq k m p _ _) (E2.pos i1 (E2.pos i0 (E2.pos i1 (E2.neg (fun h => h c1) (E2.bind (l1In_ev _ _ _) (E2.neg (by simpa using c2) (E2.pos c3 (E2.bind (l1In_ev _ _ _) (E2.pos (by simpa using c6) E2.ret))))))))), E2.eq (fun k m => impl_IsPart.l0_eq k m p _ p _ _) (E2.pos i1 (E2.pos i0 (E2.pos i1 (E2.neg (fun h => h c1) (E2.bind (inRange_ev _ _ _) (E2.neg (by simpa using c2) (E2.pos c3 (E2.bind (inRange_ev _ _ _) (E2.pos (by simpa using c6) E2.ret)))))))))⟩
        · exact ⟨false, E2.eq (fun k m => spec_IsPart.l0_eq k m p _ _) (E2.pos i1 (E2.pos i0 (E2.pos i1 (E2.neg (fun h => h c1) (E2.bind (l1In_ev _ _ _) (E2.pos (by simpa using c2) E2.ret)))))), E2.eq (fun k m => impl_IsPart.l0_eq k m p _ p _ _) (E2.pos i1 (E2.pos i0 (E2.pos i1 (E2.neg (fun h => h c1) (E2.bind (inRange_ev _ _ _) (E2.pos (by simpa using c2) E2.ret))))))⟩
      · exact ⟨false, E2.eq (fun k m => spec_IsPart.l0_eq k m p _ _) (E2.pos i1 (E2.pos i0 (E2.pos i1 (E2.pos c1 E2.ret)))), E2.eq (fun k m => impl_IsPart.l0_eq k m p _ p _ _) (E2.pos i1 (E2.pos i0 (E2.pos i1 (E2.pos c1 E2.ret))))⟩
  obtain ⟨r, e1, e2⟩ := key p.length 0 0 (by omega)
  exact ⟨r, Ev.eq (fun k => spec_IsPart_eq k p) (Ev.loop (f := fun k m => spec_IsPart.l0 k m p 0 0) e1), Ev.eq (fun k => impl_IsPart_eq k p) (Ev.loop (f := fun k m => impl_IsPart.l0 k m p 0 p ((List.length p : Nat) : Int) 0) e2)⟩
/-- The events of a part. -/
def evs (v : Int) (p : List DT127) : List DT100 := p.flatMap fun s => if Ne (α := Int) s.2.2.1 0 then [(s.1, (s.2.1, (s.2.2.1, (v, ()))))] else []
theorem evs_len (v : Int) (p : List DT127) : (evs v p).length ≤ p.length := by
  unfold evs
  induction p with
  | nil => simp
  | cons s p ih =>
    rw [List.flatMap_cons, List.length_append, List.length_cons]
    split <;> simp only [List.length_nil, List.length_singleton] <;> omega
theorem evs_drop {v : Int} {p : List DT127} {i : Nat} (hi : i < p.length) : evs v (p.drop i) = (if Ne (α := Int) (rd T127 p (i : Int)).2.2.1 0 then [((rd T127 p (i : Int)).1, ((rd T127 p (i : Int)).2.1, ((rd T127 p (i : Int)).2.2.1, (v, ()))))] else []) ++ evs v (p.drop (i + 1)) := by
  rw [List.drop_eq_getElem_cons hi, rd_at hi]
  rfl
theorem eventsS_ev (p : List DT127) (v : Int) (hl : p.length ≤ 4194304) (hp : Ev (fun k => spec_IsPart k p) true) : Ev (fun k => spec_EventsOf k p v) (evs v p) := by
  have key : ∀ d i : Nat, ∀ s : List DT100, i + d = p.length → s.length ≤ i → E2 (fun k m => spec_EventsOf.l0 k m p v (i : Int) s) (s ++ evs v (p.drop i)) := by
    intro d
    induction d with
    | zero =>
      intro i s hi hs
      exact E2.eq (fun k m => spec_EventsOf.l0_eq k m p v _ _) (E2.neg (by omega) (E2.ret.val (by rw [List.drop_eq_nil_of_le (by omega)]; simp [evs])))
    | succ d ih =>
      intro i s hi hs
      refine E2.eq (fun k m => spec_EventsOf.l0_eq k m p v _ _) (E2.pos (by omega) (E2.bind hp (E2.pos rfl (E2.pos (by omega) (E2.pos (by omega) ?_)))))
      simp only [wrapS (show i < 9223372036854775807 by omega)]
      rw [evs_drop (by omega), ← List.append_assoc]
      by_cases c : Ne (α := Int) (rd T127 p (i : Int)).2.2.1 0
      · rw [if_pos c]
        exact E2.pos c (E2.pos (by omega) (E2.pos (by omega) (E2.pos (by omega) (E2.pos (by omega) (E2.pos (by omega) (E2.pos (by omega) (E2.pos (by rw [List.length_singleton]; omega) (ih (i + 1) _ (by omega) (by simp; omega)))))))))
      · rw [if_neg c, List.append_nil]
        exact E2.neg c (ih (i + 1) s (by omega) (by omega))
  exact Ev.eq (fun k => spec_EventsOf_eq k p v) ((Ev.loop (f := fun k m => spec_EventsOf.l0 k m p v 0 []) (key p.length 0 [] (by omega) (by simp))).val (by simp))
theorem eventsI_ev (p : List DT127) (v : Int) (hl : p.length ≤ 4194304) (hp : Ev (fun k => impl_IsPart k p) true) : Ev (fun k => impl_EventsOf k p v) (evs v p) := by
  have key : ∀ d i : Nat, ∀ s : List DT100, i + d = p.length → s.length ≤ i → E2 (fun k m => impl_EventsOf.l0 k m v p ((List.length p : Nat) : Int) (i : Int) s) (s ++ evs v (p.drop i)) := by
    intro d
    induction d with
    | zero =>
      intro i s hi hs
      exact E2.eq (fun k m => impl_EventsOf.l0_eq k m v p _ _ _) (E2.neg (by omega) (E2.ret.val (by rw [List.drop_eq_nil_of_le (by omega)]; simp [evs])))
    | succ d ih =>
      intro i s hi hs
      refine E2.eq (fun k m => impl_EventsOf.l0_eq k m v p _ _ _) (E2.pos (by omega) (E2.pos (by omega) (E2.pos (by omega) ?_)))
      simp only [wrapS (show i < 9223372036854775807 by omega)]
      rw [evs_drop (by omega), ← List.append_assoc]
      by_cases c : Ne (α := Int) (rd T127 p (i : Int)).2.2.1 0
      · rw [if_pos c]
        exact E2.pos c (E2.pos (by rw [List.length_singleton]; omega) (ih (i + 1) _ (by omega) (by simp; omega)))
      · rw [if_neg c, List.append_nil]
        exact E2.neg c (ih (i + 1) s (by omega) (by omega))
  exact Ev.eq (fun k => impl_EventsOf_eq k p v) (Ev.bind hp (Ev.pos rfl ((Ev.loop (f := fun k m => impl_EventsOf.l0 k m v p ((List.length p : Nat) : Int) 0 []) (key p.length 0 [] (by omega) (by simp))).val (by simp))))
/-- Putting events in, one by one. -/
theorem puts_ev (parts : List (List DT127)) (i : Nat) (ev : List DT100) (hev : ev.length ≤ 4194304) : ∀ d j : Nat, ∀ s : List DT100, j + d = ev.length → s.length + d ≤ 33554432 → wkE s →
    ∃ s', s'.Perm (ev.drop j ++ s) ∧ wkE s' ∧ ∀ R : List DT100 × (Bool × Unit), (E2 (fun k m => spec_JoinParts.l0 k m parts (IntKind.wrap .i64 ((i : Int) + 1)) s') R → E3 (fun k m n => spec_JoinParts.l1 k m n parts (i : Int) (j : Int) s ev) R) := by
  intro d
  induction d with
  | zero =>
    intro j s hj hs hw
    refine ⟨s, by rw [List.drop_eq_nil_of_le (by omega)]; exact List.Perm.refl _, hw, fun R e => ?_⟩
    exact E3.eq (fun k m n => spec_JoinParts.l1_eq k m n parts _ _ s ev) (E3.neg (by omega) (E3.out e))
  | succ d ih =>
    intro j s hj hs hw
    obtain ⟨s1, hp1, hw1, e1⟩ := putW_ev s (rd T100 ev (j : Int)) (by omega)
    have hl1 : s1.length = s.length + 1 := by rw [hp1.length_eq]; simp
    obtain ⟨s', hp', hw', e'⟩ := ih (j + 1) s1 (by omega) (by omega) (hw1 hw)
    refine ⟨s', hp'.trans ?_, hw', fun R e => ?_⟩
    · rw [List.drop_eq_getElem_cons (show j < ev.length by omega), ← rd_at (t := T100) (show j < ev.length by omega)]
      exact (List.Perm.append_left _ hp1).trans (by rw [List.cons_append]; exact List.perm_middle)
    · refine E3.eq (fun k m n => spec_JoinParts.l1_eq k m n parts _ _ s ev) (E3.pos (by omega) (E3.pos (by omega) (E3.pos (by omega) (E3.bind e1 ?_))))
      simp only [wrapS (show j < 9223372036854775807 by omega)]
      exact e' R e
theorem scoreP_sort {a b s : List DT100} (h : s.Perm a) (hw : wkE s) (ha : scoreP a) : s = a := (uniqE h.symm (score_pw ha) hw).symm
theorem sortE (t : List DT100) (ht : t.length ≤ 33554432) : ∃ s : List DT100, s.Perm t ∧ wkE s ∧ Ev (fun k => slices_SortFunc_impl_Event_85 k t) ((), s) := by
  refine ⟨sortF evT evCmp t, sortF_perm (T := evT) (cf := evCmp) evCmp_swo t, ?_, Ev.eq (f := fun _ => some ((), sortF evT evCmp t)) (fun k => ?_) Ev.ret⟩
  · refine (sortF_pw (T := evT) (cf := evCmp) evCmp_swo t).imp ?_
    intro a b h hb
    have : Go.Proofs.ltOf evCmp b a = true := (evCmp_lt b a).2 hb
    rw [h] at this
    cases this
  · rw [slices_SortFunc_impl_Event_85_eq]
    exact primSortF_eq (T := evT) (cf := evCmp) (l := t) (by omega)
theorem join_both (parts : List (List DT127)) (hp : ∀ p ∈ parts, p.length ≤ 4194304) : ∃ r : List DT100 × (Bool × Unit), r.1.length ≤ 33554432 ∧ Ev (fun k => spec_JoinParts k parts) r ∧ Ev (fun k => impl_JoinParts k parts) r := by
  by_cases c4 : (4 : Int) < ((List.length parts : Nat) : Int)
  · exact ⟨([], (false, ())), by simp, Ev.eq (fun k => spec_JoinParts_eq k parts) (Ev.pos c4 Ev.ret), Ev.eq (fun k => impl_JoinParts_eq k parts) (Ev.pos c4 Ev.ret)⟩
  have key : ∀ d i : Nat, ∀ s t : List DT100, i + d = parts.length → s.Perm t → wkE s → t.length ≤ i * 4194304 → ∃ r : List DT100 × (Bool × Unit), r.1.length ≤ 33554432 ∧ E2 (fun k m => spec_JoinParts.l0 k m parts (i : Int) s) r ∧ E2 (fun k m => impl_JoinParts.l0 k m parts ((List.length parts : Nat) : Int) (i : Int) t) r := by
    intro d
    induction d with
    | zero =>
      intro i s t hi hst hw ht
      have hsl := hst.length_eq
      have hi4 : i ≤ 4 := by omega
      have hb : t.length ≤ 33554432 := by have := Nat.mul_le_mul_right 4194304 hi4; omega
      obtain ⟨u, hu, huw, eu⟩ := sortE t hb
      have hul := hu.length_eq
      have s1 := specScoreB_ev s (by omega)
      have s2 := implScoreB_ev u (by omega)
      by_cases c : scoreP s
      · have hus : u = s := scoreP_sort (b := s) (hu.trans hst.symm) huw c
        subst hus
        exact ⟨(u, (true, ())), by show u.length ≤ _; omega, E2.eq (fun k m => spec_JoinParts.l0_eq k m parts _ _) (E2.neg (by omega) (E2.bind s1 (E2.neg (by simpa using c) E2.ret))), E2.eq (fun k m => impl_JoinParts.l0_eq k m parts _ _ _) (E2.neg (by omega) (E2.bind eu (E2.bind s2 (E2.neg (by simpa using c) E2.ret))))⟩
      · have cu : ¬ scoreP u := fun h => by
          have : s = u := scoreP_sort (b := s) (hst.trans hu.symm) hw h
          subst this
          exact c h
        exact ⟨([], (false, ())), by simp, E2.eq (fun k m => spec_JoinParts.l0_eq k m parts _ _) (E2.neg (by omega) (E2.bind s1 (E2.pos (by simpa using c) E2.ret))), E2.eq (fun k m => impl_JoinParts.l0_eq k m parts _ _ _) (E2.neg (by omega) (E2.bind eu (E2.bind s2 (E2.pos (by simpa using cu) E2.ret))))⟩
    | succ d ih =>
      intro i s t hi hst hw ht
      have hsl := hst.length_eq
      have hi3 : i ≤ 3 := by omega
      have hb : t.length ≤ 12582912 := by have := Nat.mul_le_mul_right 4194304 hi3; omega
      have hpi : (rd (.list T127) parts (i : Int)).length ≤ 4194304 := by
        rw [rd_at (t := .list T127) (show i < parts.length by omega)]
        exact hp _ (List.getElem_mem _)
      obtain ⟨b, b1, b2⟩ := isPart_both (rd (.list T127) parts (i : Int)) hpi
      cases b with
      | false =>
        exact ⟨([], (false, ())), by simp, E2.eq (fun k m => spec_JoinParts.l0_eq k m parts _ _) (E2.pos (by omega) (E2.pos (by omega) (E2.pos (by omega) (E2.bind b1 (E2.pos (by simp) E2.ret))))), E2.eq (fun k m => impl_JoinParts.l0_eq k m parts _ _ _) (E2.pos (by omega) (E2.pos (by omega) (E2.pos (by omega) (E2.bind b2 (E2.pos (by simp) E2.ret)))))⟩
      | true =>
        have f1 := eventsS_ev (rd (.list T127) parts (i : Int)) (IntKind.wrap .i64 ((i : Int) + 1)) hpi b1
        have f2 := eventsI_ev (rd (.list T127) parts (i : Int)) (IntKind.wrap .i64 ((i : Int) + 1)) hpi b2
        have hel := evs_len (IntKind.wrap .i64 ((i : Int) + 1)) (rd (.list T127) parts (i : Int))
        generalize evs (IntKind.wrap .i64 ((i : Int) + 1)) (rd (.list T127) parts (i : Int)) = ev at f1 f2 hel
        have hw1 : IntKind.wrap .i64 ((i : Int) + 1) = ((i + 1 : Nat) : Int) := wrapS (show i < 9223372036854775807 by omega)
        obtain ⟨s', hp', hw', e'⟩ := puts_ev parts i ev (by omega) ev.length 0 s (by omega) (by omega) hw
        have hst' : s'.Perm (t ++ ev) := by
          rw [List.drop_zero] at hp'
          exact hp'.trans ((List.Perm.append_left _ hst).trans List.perm_append_comm)
        obtain ⟨r, hr, r1, r2⟩ := ih (i + 1) s' (t ++ ev) (by omega) hst' hw' (by rw [List.length_append, Nat.add_mul, Nat.one_mul]; omega)
        refine ⟨r, hr, ?_, ?_⟩
        · refine E2.eq (fun k m => spec_JoinParts.l0_eq k m parts _ _) (E2.pos (by omega) (E2.pos (by omega) (E2.pos (by omega) (E2.bind b1 (E2.neg (by simp) (E2.pos (by omega) (E2.pos (by omega) (E2.bind f1 ?_))))))))
          exact E3.loop (f := fun k m n => spec_JoinParts.l1 k m n parts (i : Int) 0 s ev) (e' r (by rw [hw1]; exact r1))
        · refine E2.eq (fun k m => impl_JoinParts.l0_eq k m parts _ _ _) (E2.pos (by omega) (E2.pos (by omega) (E2.pos (by omega) (E2.bind b2 (E2.neg (by simp) (E2.bind f2 (E2.pos (by omega) ?_)))))))
          rw [hw1]
          exact r2
  obtain ⟨r, hr, e1, e2⟩ := key parts.length 0 [] [] (by omega) (List.Perm.refl _) List.Pairwise.nil (by simp)
  exact ⟨r, hr, Ev.eq (fun k => spec_JoinParts_eq k parts) (Ev.neg c4 (Ev.loop (f := fun k m => spec_JoinParts.l0 k m parts 0 []) e1)), Ev.eq (fun k => impl_JoinParts_eq k parts) (Ev.neg c4 (Ev.loop (f := fun k m => impl_JoinParts.l0 k m parts ((List.length parts : Nat) : Int) 0 []) e2))⟩
def upV (v : Int) (e : DT100) : Bool := decide (LE.le (α := Int) e.2.2.2.1 v)
theorem specSome_ev (l : List DT100) (v : Int) (hl : l.length ≤ 1048576) : Ev (fun k => spec_l28Some k l v) (l.filter (upV v)) := by
  have er := loop_filterR (t := T100) (l := l) (R := fun i s r => E2 (fun k m => spec_l28Some.l0 k m l v i s) r) (upV v) (fun s => E2.eq (fun k m => spec_l28Some.l0_eq k m l v _ s) (E2.neg (by omega) E2.ret)) (fun i s hi hs hq r e => by
    refine E2.eq (fun k m => spec_l28Some.l0_eq k m l v _ s) (E2.pos (by omega) (E2.pos (by omega) (E2.pos (by omega) (E2.pos (of_decide_eq_true hq) (E2.pos (by omega) (E2.pos (by omega) (E2.pos (by simp only [List.length_cons, List.length_nil]; omega) ?_)))))))
    simp only [wrapS (show i < 9223372036854775807 by omega)]; exact e) (fun i s hi hs hq r e => by
    refine E2.eq (fun k m => spec_l28Some.l0_eq k m l v _ s) (E2.pos (by omega) (E2.pos (by omega) (E2.pos (by omega) (E2.neg (of_decide_eq_false hq) ?_))))
    simp only [wrapS (show i < 9223372036854775807 by omega)]; exact e)
  exact Ev.eq (fun k => spec_l28Some_eq k l v) (Ev.loop (f := fun k m => spec_l28Some.l0 k m l v 0 []) er)
theorem delU_ev (e : DT100) (v : Int) : Ev (fun k => impl_upTo_1 k e v) (! upV v e) := by
  refine Ev.eq (fun k => impl_upTo_1_eq k e v) (Ev.ret.val ?_)
  unfold upV
  by_cases c : LE.le (α := Int) e.2.2.2.1 v
  · rw [decide_eq_true c, decide_eq_false (by omega)]; rfl
  · rw [decide_eq_false c, decide_eq_true (by omega)]; rfl
theorem deleteU_ev (l : List DT100) (v : Int) (hl : l.length ≤ 1048576) : Ev (fun k => slices_DeleteFunc_impl_Event_92 k l v) (l.filter (upV v)) := by
  have ei : Ev (fun k => slices_IndexFunc_impl_Event_92 k l v) (firstI (fun i => ! upV v (rd T100 l (i : Int))) l.length) := by
    have er := loop_firstR (R := fun i r => E2 (fun k m => slices_IndexFunc_impl_Event_92.l0 k m l v ((List.length l : Nat) : Int) i) r) (n := l.length) (fun i => ! upV v (rd T100 l (i : Int))) (E2.eq (fun k m => slices_IndexFunc_impl_Event_92.l0_eq k m l v _ _) (E2.neg (by omega) E2.ret)) (fun i hi hq r e => by
      refine E2.eq (fun k m => slices_IndexFunc_impl_Event_92.l0_eq k m l v _ _) (E2.pos (by omega) (E2.pos (by omega) (E2.pos (by omega) (E2.bind (delU_ev _ _) (E2.neg (by rw [hq]; simp) ?_)))))
      simp only [wrapS (show i < 9223372036854775807 by omega)]; exact e) (fun i hi hq => E2.eq (fun k m => slices_IndexFunc_impl_Event_92.l0_eq k m l v _ _) (E2.pos (by omega) (E2.pos (by omega) (E2.pos (by omega) (E2.bind (delU_ev _ _) (E2.pos hq E2.ret))))))
    exact Ev.eq (fun k => slices_IndexFunc_impl_Event_92_eq k l v) (Ev.loop (f := fun k m => slices_IndexFunc_impl_Event_92.l0 k m l v ((List.length l : Nat) : Int) 0) er)
  refine Ev.eq (fun k => slices_DeleteFunc_impl_Event_92_eq k l v) (Ev.bind ei ?_)
  rcases firstI_spec (fun i => ! upV v (rd T100 l (i : Int))) l.length with ⟨h, hall⟩ | ⟨r, h, hr, h1, h0⟩
  · refine Ev.pos h (Ev.ret.val ?_)
    symm
    rw [List.filter_eq_self]
    intro x hx
    obtain ⟨i, hi, rfl⟩ := List.mem_iff_getElem.1 hx
    have := hall i hi
    rw [rd_at hi] at this
    simpa using this
  · rw [h]
    refine Ev.neg (by omega) ?_
    rw [wrapS (by omega)]
    refine Ev.loop (f := fun k m => slices_DeleteFunc_impl_Event_92.l0 k m v (r : Int) ((r + 1 : Nat) : Int) l) ?_
    refine loop_deleteR (t := T100) (l := l) (R := fun i j s w => E2 (fun k m => slices_DeleteFunc_impl_Event_92.l0 k m v i j s) w) (upV v) (fun i s hi hs => ?_) (fun i j s hij hj hs hq w e => ?_) (fun i j s hij hj hs hq w e => ?_) r hr (fun j hj => by simpa using h0 j hj) (by simpa using h1)
    · refine E2.eq (fun k m => slices_DeleteFunc_impl_Event_92.l0_eq k m v _ _ s) (E2.neg (by omega) (E2.pos (by omega) (E2.pos (by omega) (E2.pos (by omega) (E2.pos ?_ (E2.ret.val ?_))))))
      · simp only [List.length_append, List.length_take, List.length_replicate, List.length_drop, Int.toNat_natCast]
        omega
      · simp only [Int.toNat_natCast, show Int.toNat 0 = 0 from rfl, Nat.sub_zero, List.drop_zero]
        rw [List.append_assoc, List.take_append_of_le_length (by simp; omega), List.take_take, Nat.min_self]
    · refine E2.eq (fun k m => slices_DeleteFunc_impl_Event_92.l0_eq k m v _ _ s) (E2.pos (by omega) (E2.pos (by omega) (E2.pos (by omega) (E2.bind (delU_ev _ _) (E2.pos (by rw [hq]; simp) (E2.pos (by omega) (E2.pos (by omega) ?_)))))))
      simp only [wrapS (show i < 9223372036854775807 by omega), wrapS (show j < 9223372036854775807 by omega), Int.toNat_natCast]; exact e
    · refine E2.eq (fun k m => slices_DeleteFunc_impl_Event_92.l0_eq k m v _ _ s) (E2.pos (by omega) (E2.pos (by omega) (E2.pos (by omega) (E2.bind (delU_ev _ _) (E2.neg (by rw [hq]; simp) ?_)))))
      simp only [wrapS (show j < 9223372036854775807 by omega)]; exact e
theorem upTo_ev (l : List DT100) (v : Int) (hl : l.length ≤ 1048576) : Ev (fun k => impl_upTo k l v) (l.filter (upV v)) :=
  Ev.eq (fun k => impl_upTo_eq k l v) (Ev.bind (cloneE_ev l hl) (Ev.bind (deleteU_ev l v hl) Ev.ret))
theorem ev_eta2 (a b : DT100) : ((a.1 : Int) = b.1 ∧ ((a.2.1 : Int) = b.2.1 ∧ ((a.2.2.1 : Int) = b.2.2.1 ∧ (a.2.2.2.1 : Int) = b.2.2.2.1))) ↔ a = b := by
  obtain ⟨a1, a2, a3, a4, ⟨⟩⟩ := a
  obtain ⟨b1, b2, b3, b4, ⟨⟩⟩ := b
  constructor
  · rintro ⟨h1, h2, h3, h4⟩
    simp only at h1 h2 h3 h4
    rw [h1, h2, h3, h4]
  · intro h
    injection h with h1 h
    injection h with h2 h
    injection h with h3 h
    injection h with h4 h
    exact ⟨h1, h2, h3, h4⟩
theorem eq_rdE {a b : List DT100} (h : a.length = b.length) : (∀ i, i < a.length → rd T100 a (i : Int) = rd T100 b (i : Int)) ↔ a = b := by
  constructor
  · intro H
    refine List.ext_getElem h fun i h1 h2 => ?_
    have := H i h1
    rwa [rd_at (t := T100) h1, rd_at (t := T100) h2] at this
  · rintro rfl i _
    rfl
theorem eqES_ev (a b : List DT100) (ha : a.length ≤ 33554432) : ∃ r, Ev (fun k => spec_EqualScores k a b) r ∧ (r = true ↔ a = b) := by
  by_cases c : a.length = b.length
  · obtain ⟨r, er, hr⟩ := loop_allR (R := fun i v => E2 (fun k m => spec_EqualScores.l0 k m a b i) v) (n := a.length) (fun i => rd T100 a (i : Int) = rd T100 b (i : Int)) true (E2.eq (fun k m => spec_EqualScores.l0_eq k m a b _) (E2.neg (by omega) E2.ret)) (fun i hi hq v e => by
      refine E2.eq (fun k m => spec_EqualScores.l0_eq k m a b _) (E2.pos (by omega) (E2.pos (by omega) (E2.pos (by omega) (E2.pos (by omega) (E2.pos (by omega) (E2.neg (fun h => h ((ev_eta2 _ _).2 hq)) ?_))))))
      simp only [wrapS (show i < 9223372036854775807 by omega)]
      exact e) (fun i hi hq => E2.eq (fun k m => spec_EqualScores.l0_eq k m a b _) (E2.pos (by omega) (E2.pos (by omega) (E2.pos (by omega) (E2.pos (by omega) (E2.pos (by omega) (E2.pos (fun h => hq ((ev_eta2 _ _).1 h)) E2.ret)))))))
    refine ⟨r, Ev.eq (fun k => spec_EqualScores_eq k a b) (Ev.neg (by omega) (Ev.loop (f := fun k m => spec_EqualScores.l0 k m a b 0) er)), hr.trans ⟨fun h => (eq_rdE c).1 h.1, fun h => ⟨(eq_rdE c).2 h, rfl⟩⟩⟩
  · exact ⟨false, Ev.eq (fun k => spec_EqualScores_eq k a b) (Ev.pos (by omega) Ev.ret), by simp only [Bool.false_eq_true, false_iff]; exact fun h => c (h ▸ rfl)⟩
theorem eqEI_ev (a b : List DT100) (ha : a.length ≤ 33554432) : ∃ r, Ev (fun k => slices_Equal_impl_Event k a b) r ∧ (r = true ↔ a = b) := by
  by_cases c : a.length = b.length
  · obtain ⟨r, er, hr⟩ := loop_allR (R := fun i v => E2 (fun k m => slices_Equal_impl_Event.l0 k m a b ((List.length a : Nat) : Int) i) v) (n := a.length) (fun i => rd T100 a (i : Int) = rd T100 b (i : Int)) true (E2.eq (fun k m => slices_Equal_impl_Event.l0_eq k m a b _ _) (E2.neg (by omega) E2.ret)) (fun i hi hq v e => by
      refine E2.eq (fun k m => slices_Equal_impl_Event.l0_eq k m a b _ _) (E2.pos (by omega) (E2.pos (by omega) (E2.pos (by omega) (E2.pos (by omega) (E2.pos (by omega) (E2.neg (fun h => h ((ev_eta2 _ _).2 hq)) ?_))))))
      simp only [wrapS (show i < 9223372036854775807 by omega)]
      exact e) (fun i hi hq => E2.eq (fun k m => slices_Equal_impl_Event.l0_eq k m a b _ _) (E2.pos (by omega) (E2.pos (by omega) (E2.pos (by omega) (E2.pos (by omega) (E2.pos (by omega) (E2.pos (fun h => hq ((ev_eta2 _ _).1 h)) E2.ret)))))))
    refine ⟨r, Ev.eq (fun k => slices_Equal_impl_Event_eq k a b) (Ev.neg (by omega) (Ev.loop (f := fun k m => slices_Equal_impl_Event.l0 k m a b ((List.length a : Nat) : Int) 0) er)), hr.trans ⟨fun h => (eq_rdE c).1 h.1, fun h => ⟨(eq_rdE c).2 h, rfl⟩⟩⟩
  · exact ⟨false, Ev.eq (fun k => slices_Equal_impl_Event_eq k a b) (Ev.pos (by omega) Ev.ret), by simp only [Bool.false_eq_true, false_iff]; exact fun h => c (h ▸ rfl)⟩
theorem agree_both (l : List DT100) (parts : List (List DT127)) (hl : l.length ≤ 1048576) (hp : ∀ p ∈ parts, p.length ≤ 4194304) : ∃ r, Ev (fun k => spec_PartsAgree k l parts) r ∧ Ev (fun k => impl_PartsAgree k l parts) r := by
  obtain ⟨j, hj, j1, j2⟩ := join_both parts hp
  by_cases c : j.2.1 = true
  · obtain ⟨r, r1, hr⟩ := eqES_ev j.1 (l.filter (upV ((List.length parts : Nat) : Int))) hj
    obtain ⟨r', r2, hr'⟩ := eqEI_ev j.1 (l.filter (upV ((List.length parts : Nat) : Int))) hj
    obtain rfl : r' = r := by rw [Bool.eq_iff_iff]; exact hr'.trans hr.symm
    exact ⟨_, Ev.eq (fun k => spec_PartsAgree_eq k l parts) (Ev.bind j1 (Ev.pos c (Ev.bind (specSome_ev l _ hl) (Ev.bind r1 Ev.ret)))), Ev.eq (fun k => impl_PartsAgree_eq k l parts) (Ev.bind j2 (Ev.pos c (Ev.bind (upTo_ev l _ hl) (Ev.bind r2 Ev.ret))))⟩
  · exact ⟨false, Ev.eq (fun k => spec_PartsAgree_eq k l parts) (Ev.bind j1 (Ev.neg c Ev.ret)), Ev.eq (fun k => impl_PartsAgree_eq k l parts) (Ev.bind j2 (Ev.neg c Ev.ret))⟩
theorem copy_both (l : List DT100) (n : Nat) (hl : l.length ≤ 1048576) : ∃ r : List (List DT127) × (Bool × Unit), (∀ p ∈ r.1, p.length ≤ 4194304) ∧ Ev (fun k => spec_CopyParts k l (n : Int)) r ∧ Ev (fun k => impl_CopyParts k l (n : Int)) r := by
  by_cases c1 : scoreP l
  · by_cases c2 : (1 : Int) ≤ (n : Int) ∧ (n : Int) ≤ 4
    · have key : ∀ d v : Nat, ∀ s : List (List DT127), v + d = n + 1 → 1 ≤ v → s.length < v → (∀ p ∈ s, p.length ≤ 4194304) → ∃ r : List (List DT127) × (Bool × Unit), (∀ p ∈ r.1, p.length ≤ 4194304) ∧ E2 (fun k m => spec_CopyParts.l0 k m l (n : Int) (v : Int) s) r ∧ E2 (fun k m => impl_CopyParts.l0 k m l (n : Int) (v : Int) s) r := by
        intro d
        induction d with
        | zero =>
          intro v s hv h1 hs hp
          exact ⟨(s, (true, ())), hp, E2.eq (fun k m => spec_CopyParts.l0_eq k m l _ _ s) (E2.neg (by omega) E2.ret), E2.eq (fun k m => impl_CopyParts.l0_eq k m l _ _ s) (E2.neg (by omega) E2.ret)⟩
        | succ d ih =>
          intro v s hv h1 hs hp
          obtain ⟨e, en1, en2⟩ := endOf_both l hl
          obtain ⟨w, hw, p1, p2⟩ := partFrom_both l (v : Int) e hl
          by_cases c : w.2.1 = true
          · obtain ⟨r, hr, r1, r2⟩ := ih (v + 1) (s ++ [w.1]) (by omega) (by omega) (by simp; omega) (fun p hpm => by
              rcases List.mem_append.1 hpm with h | h
              · exact hp p h
              · rw [List.mem_singleton.1 h]; exact hw)
            refine ⟨r, hr, E2.eq (fun k m => spec_CopyParts.l0_eq k m l _ _ s) (E2.pos (by omega) (E2.bind en1 (E2.bind p1 (E2.neg (fun h => h c) (E2.pos (by rw [List.length_singleton]; omega) ?_))))), E2.eq (fun k m => impl_CopyParts.l0_eq k m l _ _ s) (E2.pos (by omega) (E2.bind en2 (E2.bind p2 (E2.neg (fun h => h c) (E2.pos (by rw [List.length_singleton]; omega) ?_)))))⟩
            · simp only [wrapS (show v < 9223372036854775807 by omega)]
              exact r1
            · simp only [wrapS (show v < 9223372036854775807 by omega)]
              exact r2
          · exact ⟨([], (false, ())), by simp, E2.eq (fun k m => spec_CopyParts.l0_eq k m l _ _ s) (E2.pos (by omega) (E2.bind en1 (E2.bind p1 (E2.pos c E2.ret)))), E2.eq (fun k m => impl_CopyParts.l0_eq k m l _ _ s) (E2.pos (by omega) (E2.bind en2 (E2.bind p2 (E2.pos c E2.ret))))⟩
      obtain ⟨r, hr, r1, r2⟩ := key n 1 [] (by omega) (by omega) (by simp) (by simp)
      exact ⟨r, hr, Ev.eq (fun k => spec_CopyParts_eq k l _) (Ev.bind (specScore_ev l hl) (Ev.neg (by simpa using c1) (Ev.bind (l1In_ev _ _ _) (Ev.neg (by simpa using c2) (Ev.loop (f := fun k m => spec_CopyParts.l0 k m l (n : Int) 1 []) r1))))), Ev.eq (fun k => impl_CopyParts_eq k l _) (Ev.bind (implScore_ev l hl) (Ev.neg (by simpa using c1) (Ev.bind (inRange_ev _ _ _) (Ev.neg (by simpa using c2) (Ev.loop (f := fun k m => impl_CopyParts.l0 k m l (n : Int) 1 []) r2)))))⟩
    · exact ⟨([], (false, ())), by simp, Ev.eq (fun k => spec_CopyParts_eq k l _) (Ev.bind (specScore_ev l hl) (Ev.neg (by simpa using c1) (Ev.bind (l1In_ev _ _ _) (Ev.pos (by simpa using c2) Ev.ret)))), Ev.eq (fun k => impl_CopyParts_eq k l _) (Ev.bind (implScore_ev l hl) (Ev.neg (by simpa using c1) (Ev.bind (inRange_ev _ _ _) (Ev.pos (by simpa using c2) Ev.ret))))⟩
  · exact ⟨([], (false, ())), by simp, Ev.eq (fun k => spec_CopyParts_eq k l _) (Ev.bind (specScore_ev l hl) (Ev.pos (by simpa using c1) Ev.ret)), Ev.eq (fun k => impl_CopyParts_eq k l _) (Ev.bind (implScore_ev l hl) (Ev.pos (by simpa using c1) Ev.ret))⟩
theorem true_both (o : DT30) (b : Bk T30 o) : ∃ r, Ev (fun k => spec_ArePartsTrue k o) r ∧ Ev (fun k => impl_ArePartsTrue k o) r := by
  by_cases c : (((List.length o.2.2.2.2.1 : Nat) : Int) : Int) = 0
  · exact ⟨true, Ev.eq (fun k => spec_ArePartsTrue_eq k o) (Ev.pos c Ev.ret), Ev.eq (fun k => impl_ArePartsTrue_eq k o) (Ev.pos c Ev.ret)⟩
  · obtain ⟨r, hr, r1, r2⟩ := copy_both o.1 o.2.2.2.2.1.length b.1.1
    by_cases d : r.2.1 = true
    · obtain ⟨q, q1, q2⟩ := agree_both o.1 r.1 b.1.1 hr
      exact ⟨_, Ev.eq (fun k => spec_ArePartsTrue_eq k o) (Ev.neg c (Ev.bind r1 (Ev.pos d (Ev.bind q1 Ev.ret)))), Ev.eq (fun k => impl_ArePartsTrue_eq k o) (Ev.neg c (Ev.bind r2 (Ev.pos d (Ev.bind q2 Ev.ret))))⟩
    · exact ⟨false, Ev.eq (fun k => spec_ArePartsTrue_eq k o) (Ev.neg c (Ev.bind r1 (Ev.neg d Ev.ret))), Ev.eq (fun k => impl_ArePartsTrue_eq k o) (Ev.neg c (Ev.bind r2 (Ev.neg d Ev.ret)))⟩
theorem pure (a0 : DT30) (w0 : Wd T30 a0) : ∃ k, laws_FnExactArePartsTrue k a0 = some true := by
  refine Ev.at (f := fun k => laws_FnExactArePartsTrue k a0) ?_
  obtain ⟨r0, e0, h0⟩ := laws_szOrchestra_ok a0 w0 1048576 (by omega) (by omega)
  by_cases c0 : r0 < 0
  · exact Ev.eq (fun k => laws_FnExactArePartsTrue_eq k a0) (Ev.bind e0 (Ev.pos c0 Ev.ret))
  replace h0 := h0.resolve_left c0
  have b0 := h0.2.2
  have to := laws_toOrchestra_id _ b0
  obtain ⟨v, e1, e2⟩ := true_both a0 b0
  refine Ev.eq (fun k => laws_FnExactArePartsTrue_eq k a0) ?_
  refine Ev.bind e0 ?_
  refine Ev.neg c0 ?_
  refine Ev.bind to ?_
  refine Ev.bind e1 ?_
  refine Ev.bind to ?_
  refine Ev.bind e2 ?_
  refine Ev.neg (by simp) ?_
  refine Ev.bind to ?_
  refine Ev.bind (laws_eqOrchestra_self a0 b0) ?_
  refine Ev.neg (by simp) ?_
  exact Ev.ret
end Go.QFnExactArePartsTrue
