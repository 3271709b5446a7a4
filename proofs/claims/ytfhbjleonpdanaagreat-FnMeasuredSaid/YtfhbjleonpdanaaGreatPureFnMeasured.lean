/- The plain half of FnMeasured. No condition. -/
import Derived.Test.YtfhbjleonpdanaaGreatQFnMeasured
import Derived.Test.YtfhbjleonpdanaaGreatPur
set_option linter.unusedVariables false
set_option linter.unusedSimpArgs false
open Go Go.Flat
namespace Go.QFnMeasured
theorem l1In_ev (x lo hi : Int) : Ev (fun k => spec_l1In k x lo hi) (decide (lo ≤ x ∧ x ≤ hi)) := by
  by_cases c : lo ≤ x
  · exact Ev.eq (fun k => spec_l1In_eq k x lo hi) (Ev.pos c (Ev.ret.val (by simp [c])))
  · exact Ev.eq (fun k => spec_l1In_eq k x lo hi) (Ev.neg c (Ev.ret.val (by simp [c])))
theorem inRange_ev (x lo hi : Int) : Ev (fun k => impl_InRange k x lo hi) (decide (lo ≤ x ∧ x ≤ hi)) := by
  by_cases c : lo ≤ x
  · exact Ev.eq (fun k => impl_InRange_eq k x lo hi) (Ev.pos c (Ev.ret.val (by simp [c])))
  · exact Ev.eq (fun k => impl_InRange_eq k x lo hi) (Ev.neg c (Ev.ret.val (by simp [c])))
abbrev Res : Type := DT25 × (Bool × Unit)
def modR (n m : Int) : Int := if 1 ≤ m ∧ m ≤ 1000000000000 then Int.tmod (IntKind.wrap .i64 ((Int.tmod n m) + m)) m else 0
theorem specMod_ev (n m : Int) : Ev (fun k => spec_Mod k n m) (modR n m) := by
  unfold modR
  by_cases c : 1 ≤ m ∧ m ≤ 1000000000000
  · exact Ev.eq (fun k => spec_Mod_eq k n m) (Ev.bind (l1In_ev _ _ _) (Ev.neg (by simp [c]) (Ev.neg (by omega) (Ev.neg (by omega) (Ev.ret.val (by rw [if_pos c]))))))
  · exact Ev.eq (fun k => spec_Mod_eq k n m) (Ev.bind (l1In_ev _ _ _) (Ev.pos (by simpa using c) (Ev.ret.val (by rw [if_neg c]))))
theorem implMod_ev (n m : Int) : Ev (fun k => impl_Mod k n m) (modR n m) := by
  unfold modR
  by_cases c : 1 ≤ m ∧ m ≤ 1000000000000
  · exact Ev.eq (fun k => impl_Mod_eq k n m) (Ev.bind (inRange_ev _ _ _) (Ev.neg (by simp [c]) (Ev.neg (by omega) (Ev.neg (by omega) (Ev.ret.val (by rw [if_pos c]))))))
  · exact Ev.eq (fun k => impl_Mod_eq k n m) (Ev.bind (inRange_ev _ _ _) (Ev.pos (by simpa using c) (Ev.ret.val (by rw [if_neg c]))))
theorem specMax_ev (a b : Int) : Ev (fun k => spec_Max k a b) (max a b) := by
  by_cases c : a < b
  · exact Ev.eq (fun k => spec_Max_eq k a b) (Ev.pos c (Ev.ret.val (by omega)))
  · exact Ev.eq (fun k => spec_Max_eq k a b) (Ev.neg c (Ev.ret.val (by omega)))
theorem nan_ev (x : Int) : Ev (fun k => cmp_isNaN_int k x) false := Ev.eq (fun k => cmp_isNaN_int_eq k x) (Ev.ret.val (by simp))
def cmpI (x y : Int) : Int := if x < y then -1 else if y < x then 1 else 0
theorem cmp_ev (x y : Int) : Ev (fun k => cmp_Compare_int k x y) (cmpI x y) := by
  unfold cmpI
  by_cases c : x < y
  · exact Ev.eq (fun k => cmp_Compare_int_eq k x y) (Ev.bind (nan_ev x) (Ev.bind (nan_ev y) (Ev.neg (by simp) (Ev.neg (by simp) (Ev.pos c (Ev.ret.val (by rw [if_pos c])))))))
  · by_cases c2 : y < x
    · exact Ev.eq (fun k => cmp_Compare_int_eq k x y) (Ev.bind (nan_ev x) (Ev.bind (nan_ev y) (Ev.neg (by simp) (Ev.neg (by simp) (Ev.neg c (Ev.pos c2 (Ev.ret.val (by rw [if_neg c, if_pos c2]))))))))
    · exact Ev.eq (fun k => cmp_Compare_int_eq k x y) (Ev.bind (nan_ev x) (Ev.bind (nan_ev y) (Ev.neg (by simp) (Ev.neg (by simp) (Ev.neg c (Ev.neg c2 (Ev.ret.val (by rw [if_neg c, if_neg c2]))))))))
theorem dec_of {f : Nat → Option Bool} {p : Prop} [d : Decidable p] (h : ∃ r, Ev f r ∧ (r = true ↔ p)) : Ev f (decide p) := by
  obtain ⟨r, e, hr⟩ := h
  exact e.val (by rw [Bool.eq_iff_iff, hr]; simp)
theorem loop_allE {F : Int → Nat → Nat → Option Bool} {n : Nat} (Q : Nat → Prop) (c : Bool) (hend : E2 (F (n : Int)) c)
    (hgo : ∀ i, i < n → Q i → ∀ v, E2 (F ((i + 1 : Nat) : Int)) v → E2 (F (i : Int)) v) (hstop : ∀ i, i < n → ¬ Q i → E2 (F (i : Int)) false) :
    ∃ r, E2 (F 0) r ∧ (r = true ↔ (∀ i, i < n → Q i) ∧ c = true) := by
  have key : ∀ d i, i + d = n → ∃ r, E2 (F (i : Int)) r ∧ (r = true ↔ (∀ j, i ≤ j → j < n → Q j) ∧ c = true) := by
    intro d
    induction d with
    | zero =>
      intro i hi
      have hi : i = n := by omega
      subst hi
      exact ⟨c, hend, ⟨fun h => ⟨fun j _ _ => by omega, h⟩, fun h => h.2⟩⟩
    | succ d ih =>
      intro i hi
      obtain ⟨r, er, hr⟩ := ih (i + 1) (by omega)
      by_cases hq : Q i
      · refine ⟨r, hgo i (by omega) hq r er, hr.trans ⟨fun h => ⟨fun j h1 h2 => ?_, h.2⟩, fun h => ⟨fun j h1 h2 => h.1 j (by omega) h2, h.2⟩⟩⟩
        by_cases hj : j = i
        · subst hj; exact hq
        · exact h.1 j (by omega) h2
      · exact ⟨false, hstop i (by omega) hq, by simp only [Bool.false_eq_true, false_iff]; exact fun h => hq (h.1 i (Nat.le_refl _) (by omega))⟩
  obtain ⟨r, er, hr⟩ := key n 0 (by omega)
  exact ⟨r, er, hr.trans ⟨fun h => ⟨fun i hi => h.1 i (Nat.zero_le _) hi, h.2⟩, fun h => ⟨fun i _ hi => h.1 i hi, h.2⟩⟩⟩
theorem wrapP {i : Nat} (h : 0 < i) (h2 : i < 9223372036854775807) : IntKind.wrap .i64 ((i : Int) - 1) = ((i - 1 : Nat) : Int) := by
  rw [wrapI (by omega) (by omega)]; omega
def okE (e : DT60) : Prop := (0 ≤ (e.1 : Int) ∧ (e.1 : Int) ≤ 2000) ∧ (1 ≤ (e.2.1 : Int) ∧ (e.2.1 : Int) ≤ 96) ∧ (21 ≤ (e.2.2.1 : Int) ∧ (e.2.2.1 : Int) ≤ 108) ∧ 1 ≤ (e.2.2.2.1 : Int) ∧ (e.2.2.2.1 : Int) ≤ 4
instance (e : DT60) : Decidable (okE e) := by unfold okE; infer_instance
theorem l8Ok_ev (e : DT60) : Ev (fun k => spec_l8Ok k e) (decide (okE e)) := by
  refine Ev.eq (fun k => spec_l8Ok_eq k e) (Ev.bind (l1In_ev _ _ _) ?_)
  unfold okE
  by_cases c1 : 0 ≤ (e.1 : Int) ∧ (e.1 : Int) ≤ 2000
  · refine Ev.pos (by simp [c1]) (Ev.bind (l1In_ev _ _ _) ?_)
    by_cases c2 : 1 ≤ (e.2.1 : Int) ∧ (e.2.1 : Int) ≤ 96
    · refine Ev.pos (by simp [c2]) (Ev.bind (l1In_ev _ _ _) ?_)
      by_cases c3 : 21 ≤ (e.2.2.1 : Int) ∧ (e.2.2.1 : Int) ≤ 108
      · exact Ev.pos (by simp [c3]) (Ev.bind (l1In_ev _ _ _) (Ev.ret.val (by simp only [c1, c2, c3, true_and, and_self, decide_eq_true_eq])))
      · exact Ev.neg (by simpa using c3) (Ev.ret.val (by simp only [c3, false_and, and_false, decide_false]))
    · exact Ev.neg (by simpa using c2) (Ev.ret.val (by simp only [c2, false_and, and_false, decide_false]))
  · exact Ev.neg (by simpa using c1) (Ev.ret.val (by simp only [c1, false_and, decide_false]))
def bef (a b : DT60) : Prop := (a.1 : Int) < b.1 ∨ (a.1 : Int) = b.1 ∧ ((a.2.2.2.1 : Int) < b.2.2.2.1 ∨ (a.2.2.2.1 : Int) = b.2.2.2.1 ∧ (a.2.2.1 : Int) < b.2.2.1)
instance (a b : DT60) : Decidable (bef a b) := by unfold bef; infer_instance
theorem before_ev (a b : DT60) : Ev (fun k => spec_l8Before k a b) (decide (bef a b)) := by
  refine Ev.eq (fun k => spec_l8Before_eq k a b) ?_
  unfold bef
  by_cases c1 : (a.1 : Int) = b.1
  · refine Ev.neg (by omega) ?_
    by_cases c2 : (a.2.2.2.1 : Int) = b.2.2.2.1
    · exact Ev.neg (by omega) (Ev.ret.val (by congr 1; exact propext ⟨fun h => .inr ⟨c1, .inr ⟨c2, h⟩⟩, fun h => by omega⟩))
    · exact Ev.pos (by omega) (Ev.ret.val (by congr 1; exact propext ⟨fun h => .inr ⟨c1, .inl h⟩, fun h => by omega⟩))
  · exact Ev.pos (by omega) (Ev.ret.val (by congr 1; exact propext ⟨fun h => .inl h, fun h => by omega⟩))
def orI (x y : Int) : Int := if x ≠ 0 then x else y
theorem or_ev (x y z : Int) : Ev (fun k => cmp_Or_int k [x, y, z]) (orI x (orI y z)) := by
  refine Ev.eq (fun k => cmp_Or_int_eq k _) (Ev.loop (f := fun k m => cmp_Or_int.l0 k m 0 [x, y, z] ((List.length [x, y, z] : Nat) : Int) 0) ?_)
  have w0 : IntKind.wrap .i64 ((0 : Int) + 1) = 1 := wrapI (by omega) (by omega)
  have w1 : IntKind.wrap .i64 ((1 : Int) + 1) = 2 := wrapI (by omega) (by omega)
  have w2 : IntKind.wrap .i64 ((2 : Int) + 1) = 3 := wrapI (by omega) (by omega)
  have r0 : rd (.int .i64) [x, y, z] 0 = x := rfl
  have r1 : rd (.int .i64) [x, y, z] 1 = y := rfl
  have r2 : rd (.int .i64) [x, y, z] 2 = z := rfl
  have hl : ((List.length [x, y, z] : Nat) : Int) = 3 := rfl
  unfold orI
  refine E2.eq (fun k m => cmp_Or_int.l0_eq k m 0 [x, y, z] _ 0) (E2.pos (by rw [hl]; omega) (E2.pos (by omega) (E2.pos (by rw [hl]; omega) ?_)))
  simp only [r0, w0]
  by_cases c0 : x = 0
  · refine E2.neg (fun h => h c0) ?_
    rw [if_neg (show ¬ x ≠ 0 by omega)]
    refine E2.eq (fun k m => cmp_Or_int.l0_eq k m 0 [x, y, z] _ 1) (E2.pos (by rw [hl]; omega) (E2.pos (by omega) (E2.pos (by rw [hl]; omega) ?_)))
    simp only [r1, w1]
    by_cases c1 : y = 0
    · refine E2.neg (fun h => h c1) ?_
      rw [if_neg (show ¬ y ≠ 0 by omega)]
      refine E2.eq (fun k m => cmp_Or_int.l0_eq k m 0 [x, y, z] _ 2) (E2.pos (by rw [hl]; omega) (E2.pos (by omega) (E2.pos (by rw [hl]; omega) ?_)))
      simp only [r2, w2]
      by_cases c2 : z = 0
      · exact E2.neg (fun h => h c2) (E2.eq (fun k m => cmp_Or_int.l0_eq k m 0 [x, y, z] _ 3) (E2.neg (by rw [hl]; omega) (E2.ret.val c2.symm)))
      · exact E2.pos c2 E2.ret
    · rw [if_pos c1]; exact E2.pos c1 E2.ret
  · rw [if_pos c0]; exact E2.pos c0 E2.ret
def ordI (a b : DT60) : Int := orI (cmpI a.1 b.1) (orI (cmpI a.2.2.2.1 b.2.2.2.1) (cmpI a.2.2.1 b.2.2.1))
theorem order_ev (a b : DT60) : Ev (fun k => impl_eventOrder k a b) (ordI a b) :=
  Ev.eq (fun k => impl_eventOrder_eq k a b) (Ev.bind (cmp_ev _ _) (Ev.bind (cmp_ev _ _) (Ev.bind (cmp_ev _ _) (Ev.bind (or_ev _ _ _) Ev.ret))))
theorem ordI_lt (a b : DT60) : ordI a b < 0 ↔ bef a b := by
  unfold ordI orI cmpI bef
  repeat' split
  all_goals omega
def QS (l : List DT60) (i : Nat) : Prop := okE (rd T60 l (i : Int)) ∧ (0 < i → bef (rd T60 l ((i - 1 : Nat) : Int)) (rd T60 l (i : Int)))
instance (l : List DT60) (i : Nat) : Decidable (QS l i) := by unfold QS; infer_instance
def scoreP (l : List DT60) : Prop := (∀ i, i < l.length → QS l i) ∧ decide (((l.length : Nat) : Int) ≤ 40) = true
instance (l : List DT60) : Decidable (scoreP l) := by unfold scoreP; infer_instance
theorem specScoreB_ev (l : List DT60) (hl : l.length ≤ 33554432) : Ev (fun k => spec_IsScore k l) (decide (scoreP l)) := by
  refine dec_of ?_
  obtain ⟨r, er, hr⟩ := loop_allE (F := fun i k m => spec_IsScore.l0 k m l i) (n := l.length) (QS l) (decide (((l.length : Nat) : Int) ≤ 40)) (E2.eq (fun k m => spec_IsScore.l0_eq k m l _) (E2.neg (by omega) E2.ret)) (fun i hi hq v e => by
    refine E2.eq (fun k m => spec_IsScore.l0_eq k m l _) (E2.pos (by omega) (E2.pos (by omega) (E2.pos (by omega) (E2.bind (l8Ok_ev _) (E2.neg (by simpa using hq.1) ?_)))))
    by_cases c : 0 < i
    · refine E2.pos (by omega) ?_
      simp only [wrapP c (show i < 9223372036854775807 by omega), wrapS (show i < 9223372036854775807 by omega)]
      exact E2.pos (by omega) (E2.pos (by omega) (E2.pos (by omega) (E2.pos (by omega) (E2.bind (before_ev _ _) (E2.neg (by simpa using hq.2 c) e)))))
    · refine E2.neg (by omega) ?_
      simp only [wrapS (show i < 9223372036854775807 by omega)]
      exact e) (fun i hi hq => by
    refine E2.eq (fun k m => spec_IsScore.l0_eq k m l _) (E2.pos (by omega) (E2.pos (by omega) (E2.pos (by omega) (E2.bind (l8Ok_ev _) ?_))))
    by_cases c0 : okE (rd T60 l (i : Int))
    · refine E2.neg (by simpa using c0) ?_
      have c : 0 < i := by
        rcases Nat.eq_zero_or_pos i with h | h
        · exact absurd ⟨c0, fun h' => by omega⟩ hq
        · exact h
      have c1 : ¬ bef (rd T60 l ((i - 1 : Nat) : Int)) (rd T60 l (i : Int)) := fun h => hq ⟨c0, fun _ => h⟩
      refine E2.pos (by omega) ?_
      simp only [wrapP c (show i < 9223372036854775807 by omega)]
      exact E2.pos (by omega) (E2.pos (by omega) (E2.pos (by omega) (E2.pos (by omega) (E2.bind (before_ev _ _) (E2.pos (by simpa using c1) E2.ret)))))
    · exact E2.pos (by simpa using c0) E2.ret)
  exact ⟨r, Ev.eq (fun k => spec_IsScore_eq k l) (Ev.loop (f := fun k m => spec_IsScore.l0 k m l 0) er), hr⟩
theorem specScore_ev (l : List DT60) (hl : l.length ≤ 1048576) : Ev (fun k => spec_IsScore k l) (decide (scoreP l)) := specScoreB_ev l (by omega)
theorem implScoreB_ev (l : List DT60) (hl : l.length ≤ 33554432) : Ev (fun k => impl_IsScore k l) (decide (scoreP l)) := by
  refine dec_of ?_
  obtain ⟨r, er, hr⟩ := loop_allE (F := fun i k m => impl_IsScore.l0 k m l l ((List.length l : Nat) : Int) i) (n := l.length) (QS l) (decide (((l.length : Nat) : Int) ≤ 40)) (E2.eq (fun k m => impl_IsScore.l0_eq k m l l _ _) (E2.neg (by omega) E2.ret)) (fun i hi hq v e => by
    obtain ⟨⟨h1, h2, h3, h4⟩, h5⟩ := hq
    refine E2.eq (fun k m => impl_IsScore.l0_eq k m l l _ _) (E2.pos (by omega) (E2.pos (by omega) (E2.pos (by omega) (E2.bind (inRange_ev _ _ _) (E2.neg (by simpa using h1) (E2.bind (inRange_ev _ _ _) (E2.neg (by simpa using h2) (E2.bind (inRange_ev _ _ _) (E2.neg (by simpa using h3) (E2.bind (inRange_ev _ _ _) (E2.neg (by simpa using h4) ?_)))))))))))
    by_cases c : 0 < i
    · refine E2.pos (by omega) ?_
      simp only [wrapP c (show i < 9223372036854775807 by omega), wrapS (show i < 9223372036854775807 by omega)]
      have := (ordI_lt _ _).2 (h5 c)
      exact E2.pos (by omega) (E2.pos (by omega) (E2.bind (order_ev _ _) (E2.neg (by omega) e)))
    · refine E2.neg (by omega) ?_
      simp only [wrapS (show i < 9223372036854775807 by omega)]
      exact e) (fun i hi hq => by
    refine E2.eq (fun k m => impl_IsScore.l0_eq k m l l _ _) (E2.pos (by omega) (E2.pos (by omega) (E2.pos (by omega) (E2.bind (inRange_ev _ _ _) ?_))))
    by_cases h1 : 0 ≤ ((rd T60 l (i : Int)).1 : Int) ∧ ((rd T60 l (i : Int)).1 : Int) ≤ 2000
    · refine E2.neg (by simpa using h1) (E2.bind (inRange_ev _ _ _) ?_)
      by_cases h2 : 1 ≤ ((rd T60 l (i : Int)).2.1 : Int) ∧ ((rd T60 l (i : Int)).2.1 : Int) ≤ 96
      · refine E2.neg (by simpa using h2) (E2.bind (inRange_ev _ _ _) ?_)
        by_cases h3 : 21 ≤ ((rd T60 l (i : Int)).2.2.1 : Int) ∧ ((rd T60 l (i : Int)).2.2.1 : Int) ≤ 108
        · refine E2.neg (by simpa using h3) (E2.bind (inRange_ev _ _ _) ?_)
          by_cases h4 : 1 ≤ ((rd T60 l (i : Int)).2.2.2.1 : Int) ∧ ((rd T60 l (i : Int)).2.2.2.1 : Int) ≤ 4
          · refine E2.neg (by simpa using h4) ?_
            have c : 0 < i := by
              rcases Nat.eq_zero_or_pos i with h | h
              · exact absurd ⟨⟨h1, h2, h3, h4⟩, fun h' => by omega⟩ hq
              · exact h
            have c1 : ¬ bef (rd T60 l ((i - 1 : Nat) : Int)) (rd T60 l (i : Int)) := fun h => hq ⟨⟨h1, h2, h3, h4⟩, fun _ => h⟩
            refine E2.pos (by omega) ?_
            simp only [wrapP c (show i < 9223372036854775807 by omega)]
            have := mt (ordI_lt _ _).1 c1
            exact E2.pos (by omega) (E2.pos (by omega) (E2.bind (order_ev _ _) (E2.pos (by omega) E2.ret)))
          · exact E2.pos (by simpa using h4) E2.ret
        · exact E2.pos (by simpa using h3) E2.ret
      · exact E2.pos (by simpa using h2) E2.ret
    · exact E2.pos (by simpa using h1) E2.ret)
  exact ⟨r, Ev.eq (fun k => impl_IsScore_eq k l) (Ev.loop (f := fun k m => impl_IsScore.l0 k m l l ((List.length l : Nat) : Int) 0) er), hr⟩
theorem implScore_ev (l : List DT60) (hl : l.length ≤ 1048576) : Ev (fun k => impl_IsScore k l) (decide (scoreP l)) := implScoreB_ev l (by omega)
def okT (t : DT25) : Prop := (20 ≤ (t.2.1 : Int) ∧ (t.2.1 : Int) ≤ 300) ∧ (0 ≤ (t.1 : Int) ∧ (t.1 : Int) ≤ 2000)
instance (e : DT25) : Decidable (okT e) := by unfold okT; infer_instance
def QT (l : List DT25) (i : Nat) : Prop := okT (rd T25 l (i : Int)) ∧ (i = 0 → Eq (α := Int) (rd T25 l (i : Int)).1 0) ∧ (0 < i → LT.lt (α := Int) (rd T25 l ((i - 1 : Nat) : Int)).1 (rd T25 l (i : Int)).1)
instance (l : List DT25) (i : Nat) : Decidable (QT l i) := by unfold QT; infer_instance
def tempoP (l : List DT25) : Prop := (∀ i, i < l.length → QT l i) ∧ decide (1 ≤ ((l.length : Nat) : Int) ∧ ((l.length : Nat) : Int) ≤ 8) = true
instance (l : List DT25) : Decidable (tempoP l) := by unfold tempoP; infer_instance
theorem specTempoB_ev (l : List DT25) (hl : l.length ≤ 2097152) : Ev (fun k => spec_IsTempo k l) (decide (tempoP l)) := by
  refine dec_of ?_
  obtain ⟨r, er, hr⟩ := loop_allE (F := fun i k m => spec_IsTempo.l0 k m l i) (n := l.length) (QT l) (decide (1 ≤ ((l.length : Nat) : Int) ∧ ((l.length : Nat) : Int) ≤ 8)) (E2.eq (fun k m => spec_IsTempo.l0_eq k m l _) (E2.neg (by omega) (E2.bind (l1In_ev _ _ _) (E2.ret.val (by simp))))) (fun i hi hq v e => by
    obtain ⟨⟨h1, h2⟩, h3, h4⟩ := hq
    refine E2.eq (fun k m => spec_IsTempo.l0_eq k m l _) (E2.pos (by omega) (E2.pos (by omega) (E2.pos (by omega) (E2.bind (l1In_ev _ _ _) (E2.neg (by simpa using h1) (E2.pos (by omega) (E2.pos (by omega) (E2.bind (l1In_ev _ _ _) (E2.neg (by simpa using h2) ?_)))))))))
    simp only [wrapS (show i < 9223372036854775807 by omega)]
    by_cases c : 0 < i
    · refine E2.neg (by omega) (E2.pos (by omega) ?_)
      simp only [wrapP c (show i < 9223372036854775807 by omega)]
      have := h4 c
      exact E2.pos (by omega) (E2.pos (by omega) (E2.pos (by omega) (E2.pos (by omega) (E2.neg (by omega) e))))
    · refine E2.pos (by omega) (E2.pos (by omega) (E2.pos (by omega) (E2.neg (fun h => h (h3 (by omega))) (E2.neg (by omega) e))))) (fun i hi hq => by
    refine E2.eq (fun k m => spec_IsTempo.l0_eq k m l _) (E2.pos (by omega) (E2.pos (by omega) (E2.pos (by omega) (E2.bind (l1In_ev _ _ _) ?_))))
    by_cases h1 : LE.le (α := Int) 20 (rd T25 l (i : Int)).2.1 ∧ LE.le (α := Int) (rd T25 l (i : Int)).2.1 300
    · refine E2.neg (by simpa using h1) (E2.pos (by omega) (E2.pos (by omega) (E2.bind (l1In_ev _ _ _) ?_)))
      by_cases h2 : LE.le (α := Int) 0 (rd T25 l (i : Int)).1 ∧ LE.le (α := Int) (rd T25 l (i : Int)).1 2000
      · refine E2.neg (by simpa using h2) ?_
        by_cases c : 0 < i
        · refine E2.neg (by omega) (E2.pos (by omega) ?_)
          simp only [wrapP c (show i < 9223372036854775807 by omega)]
          have h4 : ¬ LT.lt (α := Int) (rd T25 l ((i - 1 : Nat) : Int)).1 (rd T25 l (i : Int)).1 := fun h => hq ⟨⟨h1, h2⟩, fun h' => by omega, fun _ => h⟩
          exact E2.pos (by omega) (E2.pos (by omega) (E2.pos (by omega) (E2.pos (by omega) (E2.pos (by omega) E2.ret))))
        · have h3 : ¬ Eq (α := Int) (rd T25 l (i : Int)).1 0 := fun h => hq ⟨⟨h1, h2⟩, fun _ => h, fun h' => absurd h' c⟩
          exact E2.pos (by omega) (E2.pos (by omega) (E2.pos (by omega) (E2.pos h3 E2.ret)))
      · exact E2.pos (by simpa using h2) E2.ret
    · exact E2.pos (by simpa using h1) E2.ret)
  exact ⟨r, Ev.eq (fun k => spec_IsTempo_eq k l) (Ev.loop (f := fun k m => spec_IsTempo.l0 k m l 0) er), hr⟩
/-- The program's own test of an element: it leaves out what follows from the one before. -/
def QT' (l : List DT25) (i : Nat) : Prop := (i = 0 → Eq (α := Int) (rd T25 l (i : Int)).1 0) ∧ (0 < i → LT.lt (α := Int) (rd T25 l ((i - 1 : Nat) : Int)).1 (rd T25 l (i : Int)).1) ∧ LE.le (α := Int) (rd T25 l (i : Int)).1 2000 ∧ (LE.le (α := Int) 20 (rd T25 l (i : Int)).2.1 ∧ LE.le (α := Int) (rd T25 l (i : Int)).2.1 300)
theorem QT_iff (l : List DT25) : (∀ i, i < l.length → QT' l i) ↔ (∀ i, i < l.length → QT l i) := by
  constructor
  · intro h
    have hp : ∀ i, i < l.length → LE.le (α := Int) 0 (rd T25 l (i : Int)).1 := by
      intro i
      induction i with
      | zero => intro hi; have := (h 0 hi).1 rfl; omega
      | succ i ih =>
        intro hi
        have h1 := ih (by omega)
        have h2 := (h (i + 1) hi).2.1 (by omega)
        simp only [Nat.add_sub_cancel] at h2
        omega
    intro i hi
    obtain ⟨h1, h2, h3, h4⟩ := h i hi
    exact ⟨⟨h4, hp i hi, h3⟩, h1, h2⟩
  · intro h i hi
    obtain ⟨⟨h1, h2, h3⟩, h4, h5⟩ := h i hi
    exact ⟨h4, h5, h3, h1⟩
theorem implTempoB_ev (l : List DT25) (hl : l.length ≤ 2097152) : Ev (fun k => impl_IsTempo k l) (decide (tempoP l)) := by
  refine dec_of ?_
  obtain ⟨r, er, hr⟩ := loop_allE (F := fun i k m => impl_IsTempo.l0 k m l l ((List.length l : Nat) : Int) i) (n := l.length) (QT' l) (decide (1 ≤ ((l.length : Nat) : Int) ∧ ((l.length : Nat) : Int) ≤ 8)) (E2.eq (fun k m => impl_IsTempo.l0_eq k m l l _ _) (E2.neg (by omega) (E2.bind (inRange_ev _ _ _) (E2.ret.val (by simp))))) (fun i hi hq v e => by
    obtain ⟨h3, h4, h5, h6⟩ := hq
    refine E2.eq (fun k m => impl_IsTempo.l0_eq k m l l _ _) (E2.pos (by omega) (E2.pos (by omega) (E2.pos (by omega) ?_)))
    simp only [wrapS (show i < 9223372036854775807 by omega)]
    by_cases c : 0 < i
    · refine E2.neg (by omega) (E2.pos (by omega) ?_)
      simp only [wrapP c (show i < 9223372036854775807 by omega)]
      have := h4 c
      exact E2.pos (by omega) (E2.pos (by omega) (E2.neg (by omega) (E2.neg (by omega) (E2.bind (inRange_ev _ _ _) (E2.neg (by simpa using h6) e)))))
    · exact E2.pos (by omega) (E2.neg (fun h => h (h3 (by omega))) (E2.neg (by omega) (E2.neg (by omega) (E2.bind (inRange_ev _ _ _) (E2.neg (by simpa using h6) e)))))) (fun i hi hq => by
    refine E2.eq (fun k m => impl_IsTempo.l0_eq k m l l _ _) (E2.pos (by omega) (E2.pos (by omega) (E2.pos (by omega) ?_)))
    by_cases c : 0 < i
    · refine E2.neg (by omega) (E2.pos (by omega) ?_)
      simp only [wrapP c (show i < 9223372036854775807 by omega)]
      refine E2.pos (by omega) (E2.pos (by omega) ?_)
      by_cases h4 : LT.lt (α := Int) (rd T25 l ((i - 1 : Nat) : Int)).1 (rd T25 l (i : Int)).1
      · refine E2.neg (by omega) ?_
        by_cases h5 : LE.le (α := Int) (rd T25 l (i : Int)).1 2000
        · exact E2.neg (by omega) (E2.bind (inRange_ev _ _ _) (E2.pos (by simp only [decide_eq_true_eq]; exact fun h6 => hq ⟨fun h => by omega, fun _ => h4, h5, h6⟩) E2.ret))
        · exact E2.pos (by omega) E2.ret
      · exact E2.pos (by omega) E2.ret
    · refine E2.pos (by omega) ?_
      by_cases h3 : Eq (α := Int) (rd T25 l (i : Int)).1 0
      · refine E2.neg (fun h => h h3) (E2.neg (by omega) (E2.neg (by omega) (E2.bind (inRange_ev _ _ _) (E2.pos (by simp only [decide_eq_true_eq]; exact fun h6 => hq ⟨fun _ => h3, fun h => absurd h c, by omega, h6⟩) E2.ret))))
      · exact E2.pos h3 E2.ret)
  exact ⟨r, Ev.eq (fun k => impl_IsTempo_eq k l) (Ev.loop (f := fun k m => impl_IsTempo.l0 k m l l ((List.length l : Nat) : Int) 0) er), hr.trans (and_congr (QT_iff l) Iff.rfl)⟩
theorem specMeter_ev (m : DT25) : ∃ r, Ev (fun k => spec_IsMeter k m) r ∧ Ev (fun k => impl_IsMeter k m) r := by
  by_cases c1 : 1 ≤ (m.1 : Int) ∧ (m.1 : Int) ≤ 12
  · by_cases d1 : (m.2.1 : Int) = 1
    · exact ⟨true, Ev.eq (fun k => spec_IsMeter_eq k m) (Ev.bind (l1In_ev _ _ _) (Ev.pos (by simpa using c1) (Ev.pos d1 Ev.ret))), Ev.eq (fun k => impl_IsMeter_eq k m) (Ev.bind (inRange_ev _ _ _) (Ev.pos (by simpa using c1) (Ev.pos d1 Ev.ret)))⟩
    · by_cases d2 : (m.2.1 : Int) = 2
      · exact ⟨true, Ev.eq (fun k => spec_IsMeter_eq k m) (Ev.bind (l1In_ev _ _ _) (Ev.pos (by simpa using c1) (Ev.neg d1 (Ev.pos d2 Ev.ret)))), Ev.eq (fun k => impl_IsMeter_eq k m) (Ev.bind (inRange_ev _ _ _) (Ev.pos (by simpa using c1) (Ev.neg d1 (Ev.pos d2 Ev.ret))))⟩
      · by_cases d3 : (m.2.1 : Int) = 4
        · exact ⟨true, Ev.eq (fun k => spec_IsMeter_eq k m) (Ev.bind (l1In_ev _ _ _) (Ev.pos (by simpa using c1) (Ev.neg d1 (Ev.neg d2 (Ev.pos d3 Ev.ret))))), Ev.eq (fun k => impl_IsMeter_eq k m) (Ev.bind (inRange_ev _ _ _) (Ev.pos (by simpa using c1) (Ev.neg d1 (Ev.neg d2 (Ev.pos d3 Ev.ret)))))⟩
        · exact ⟨_, Ev.eq (fun k => spec_IsMeter_eq k m) (Ev.bind (l1In_ev _ _ _) (Ev.pos (by simpa using c1) (Ev.neg d1 (Ev.neg d2 (Ev.neg d3 Ev.ret))))), Ev.eq (fun k => impl_IsMeter_eq k m) (Ev.bind (inRange_ev _ _ _) (Ev.pos (by simpa using c1) (Ev.neg d1 (Ev.neg d2 (Ev.neg d3 Ev.ret)))))⟩
  · exact ⟨false, Ev.eq (fun k => spec_IsMeter_eq k m) (Ev.bind (l1In_ev _ _ _) (Ev.neg (by simpa using c1) Ev.ret)), Ev.eq (fun k => impl_IsMeter_eq k m) (Ev.bind (inRange_ev _ _ _) (Ev.neg (by simpa using c1) Ev.ret))⟩
def befM (a b : DT110) : Prop := (a.1 : Int) < b.1 ∨ (a.1 : Int) = b.1 ∧ (a.2.1 : Int) < b.2.1
instance (a b : DT110) : Decidable (befM a b) := by unfold befM; infer_instance
theorem beforeM_ev (a b : DT110) : Ev (fun k => spec_l25Before k a b) (decide (befM a b)) := by
  refine Ev.eq (fun k => spec_l25Before_eq k a b) ?_
  unfold befM
  by_cases c1 : (a.1 : Int) < b.1
  · exact Ev.pos c1 (Ev.ret.val (by simp [c1]))
  · refine Ev.neg c1 ?_
    by_cases c2 : (a.1 : Int) = b.1
    · exact Ev.pos c2 (Ev.ret.val (by congr 1; exact propext ⟨fun h => .inr ⟨c2, h⟩, fun h => by omega⟩))
    · exact Ev.neg c2 (Ev.ret.val (by simp [c1, c2]))
theorem or2_ev (x y : Int) : Ev (fun k => cmp_Or_int k [x, y]) (orI x y) := by
  refine Ev.eq (fun k => cmp_Or_int_eq k _) (Ev.loop (f := fun k m => cmp_Or_int.l0 k m 0 [x, y] ((List.length [x, y] : Nat) : Int) 0) ?_)
  have w0 : IntKind.wrap .i64 ((0 : Int) + 1) = 1 := wrapI (by omega) (by omega)
  have w1 : IntKind.wrap .i64 ((1 : Int) + 1) = 2 := wrapI (by omega) (by omega)
  have r0 : rd (.int .i64) [x, y] 0 = x := rfl
  have r1 : rd (.int .i64) [x, y] 1 = y := rfl
  have hl : ((List.length [x, y] : Nat) : Int) = 2 := rfl
  unfold orI
  refine E2.eq (fun k m => cmp_Or_int.l0_eq k m 0 [x, y] _ 0) (E2.pos (by rw [hl]; omega) (E2.pos (by omega) (E2.pos (by rw [hl]; omega) ?_)))
  simp only [r0, w0]
  by_cases c0 : x = 0
  · refine E2.neg (fun h => h c0) ?_
    rw [if_neg (show ¬ x ≠ 0 by omega)]
    refine E2.eq (fun k m => cmp_Or_int.l0_eq k m 0 [x, y] _ 1) (E2.pos (by rw [hl]; omega) (E2.pos (by omega) (E2.pos (by rw [hl]; omega) ?_)))
    simp only [r1, w1]
    by_cases c1 : y = 0
    · exact E2.neg (fun h => h c1) (E2.eq (fun k m => cmp_Or_int.l0_eq k m 0 [x, y] _ 2) (E2.neg (by rw [hl]; omega) (E2.ret.val c1.symm)))
    · exact E2.pos c1 E2.ret
  · rw [if_pos c0]; exact E2.pos c0 E2.ret
def ordM (a b : DT110) : Int := orI (cmpI a.1 b.1) (cmpI a.2.1 b.2.1)
theorem orderM_ev (a b : DT110) : Ev (fun k => impl_markOrder k a b) (ordM a b) :=
  Ev.eq (fun k => impl_markOrder_eq k a b) (Ev.bind (cmp_ev _ _) (Ev.bind (cmp_ev _ _) (Ev.bind (or2_ev _ _) Ev.ret)))
theorem ordM_lt (a b : DT110) : ordM a b < 0 ↔ befM a b := by
  unfold ordM orI cmpI befM
  repeat' split
  all_goals omega
def okM (e : DT110) : Prop := (1 ≤ (e.1 : Int) ∧ (e.1 : Int) ≤ 100) ∧ (1 ≤ (e.2.1 : Int) ∧ (e.2.1 : Int) ≤ 4) ∧ (0 ≤ (e.2.2.1 : Int) ∧ (e.2.2.1 : Int) ≤ 9) ∧ (0 ≤ (e.2.2.2.1 : Int) ∧ (e.2.2.2.1 : Int) ≤ 100000) ∧ (1 ≤ (e.2.2.2.2.1 : Int) ∧ (e.2.2.2.2.1 : Int) ≤ 99)
def QM (l : List DT110) (i : Nat) : Prop := okM (rd T110 l (i : Int)) ∧ (0 < i → befM (rd T110 l ((i - 1 : Nat) : Int)) (rd T110 l (i : Int)))
def marksP (l : List DT110) : Prop := (∀ i, i < l.length → QM l i) ∧ decide (((l.length : Nat) : Int) ≤ 30) = true
theorem notM (l : List DT110) (i : Nat) (h : ¬ QM l i) (h1 : okM (rd T110 l (i : Int))) : 0 < i ∧ ¬ befM (rd T110 l ((i - 1 : Nat) : Int)) (rd T110 l (i : Int)) := by
  refine ⟨?_, fun c => h ⟨h1, fun _ => c⟩⟩
  rcases Nat.eq_zero_or_pos i with hi | hi
  · exact absurd ⟨h1, fun h' => by omega⟩ h
  · exact hi
theorem specMarksB_ev (l : List DT110) (hl : l.length ≤ 2097152) : ∃ r, Ev (fun k => spec_AreMarks k l) r ∧ (r = true ↔ marksP l) := by
  obtain ⟨r, er, hr⟩ := loop_allR (R := fun i v => E2 (fun k m => spec_AreMarks.l0 k m l i) v) (n := l.length) (QM l) (decide (((l.length : Nat) : Int) ≤ 30)) (E2.eq (fun k m => spec_AreMarks.l0_eq k m l _) (E2.neg (by omega) E2.ret)) (fun i hi hq v e => by
    obtain ⟨⟨h1, h2, h3, h4, h5⟩, h6⟩ := hq
    refine E2.eq (fun k m => spec_AreMarks.l0_eq k m l _) (E2.pos (by omega) (E2.pos (by omega) (E2.pos (by omega) (E2.bind (l1In_ev _ _ _) (E2.neg (by simpa using h1) (E2.bind (l1In_ev _ _ _) (E2.neg (by simpa using h2) (E2.bind (l1In_ev _ _ _) (E2.neg (by simpa using h3) (E2.bind (l1In_ev _ _ _) (E2.neg (by simpa using h4) (E2.bind (l1In_ev _ _ _) (E2.neg (by simpa using h5) ?_)))))))))))))
    simp only [wrapS (show i < 9223372036854775807 by omega)]
    by_cases c : 0 < i
    · refine E2.pos (by omega) ?_
      simp only [wrapP c (show i < 9223372036854775807 by omega)]
      exact E2.pos (by omega) (E2.pos (by omega) (E2.bind (beforeM_ev _ _) (E2.neg (by simpa using h6 c) e)))
    · exact E2.neg (by omega) e) (fun i hi hq => by
    refine E2.eq (fun k m => spec_AreMarks.l0_eq k m l _) (E2.pos (by omega) (E2.pos (by omega) (E2.pos (by omega) (E2.bind (l1In_ev _ _ _) ?_))))
    by_cases h1 : 1 ≤ ((rd T110 l (i : Int)).1 : Int) ∧ ((rd T110 l (i : Int)).1 : Int) ≤ 100
    · refine E2.neg (by simpa using h1) (E2.bind (l1In_ev _ _ _) ?_)
      by_cases h2 : 1 ≤ ((rd T110 l (i : Int)).2.1 : Int) ∧ ((rd T110 l (i : Int)).2.1 : Int) ≤ 4
      · refine E2.neg (by simpa using h2) (E2.bind (l1In_ev _ _ _) ?_)
        by_cases h3 : 0 ≤ ((rd T110 l (i : Int)).2.2.1 : Int) ∧ ((rd T110 l (i : Int)).2.2.1 : Int) ≤ 9
        · refine E2.neg (by simpa using h3) (E2.bind (l1In_ev _ _ _) ?_)
          by_cases h4 : 0 ≤ ((rd T110 l (i : Int)).2.2.2.1 : Int) ∧ ((rd T110 l (i : Int)).2.2.2.1 : Int) ≤ 100000
          · refine E2.neg (by simpa using h4) (E2.bind (l1In_ev _ _ _) ?_)
            by_cases h5 : 1 ≤ ((rd T110 l (i : Int)).2.2.2.2.1 : Int) ∧ ((rd T110 l (i : Int)).2.2.2.2.1 : Int) ≤ 99
            · obtain ⟨c, c1⟩ := notM l i hq ⟨h1, h2, h3, h4, h5⟩
              refine E2.neg (by simpa using h5) (E2.pos (by omega) ?_)
              simp only [wrapP c (show i < 9223372036854775807 by omega)]
              exact E2.pos (by omega) (E2.pos (by omega) (E2.bind (beforeM_ev _ _) (E2.pos (by simpa using c1) E2.ret)))
            · exact E2.pos (by simpa using h5) E2.ret
          · exact E2.pos (by simpa using h4) E2.ret
        · exact E2.pos (by simpa using h3) E2.ret
      · exact E2.pos (by simpa using h2) E2.ret
    · exact E2.pos (by simpa using h1) E2.ret)
  exact ⟨r, Ev.eq (fun k => spec_AreMarks_eq k l) (Ev.loop (f := fun k m => spec_AreMarks.l0 k m l 0) er), hr⟩
theorem specMarks_ev (l : List DT110) (hl : l.length ≤ 1048576) : ∃ r, Ev (fun k => spec_AreMarks k l) r ∧ (r = true ↔ marksP l) := specMarksB_ev l (by omega)
theorem implMarksB_ev (l : List DT110) (hl : l.length ≤ 2097152) : ∃ r, Ev (fun k => impl_AreMarks k l) r ∧ (r = true ↔ marksP l) := by
  obtain ⟨r, er, hr⟩ := loop_allR (R := fun i v => E2 (fun k m => impl_AreMarks.l0 k m l l ((List.length l : Nat) : Int) i) v) (n := l.length) (QM l) (decide (((l.length : Nat) : Int) ≤ 30)) (E2.eq (fun k m => impl_AreMarks.l0_eq k m l l _ _) (E2.neg (by omega) E2.ret)) (fun i hi hq v e => by
    obtain ⟨⟨h1, h2, h3, h4, h5⟩, h6⟩ := hq
    refine E2.eq (fun k m => impl_AreMarks.l0_eq k m l l _ _) (E2.pos (by omega) (E2.pos (by omega) (E2.pos (by omega) (E2.bind (inRange_ev _ _ _) (E2.neg (by simpa using h1) (E2.bind (inRange_ev _ _ _) (E2.neg (by simpa using h2) (E2.bind (inRange_ev _ _ _) (E2.neg (by simpa using h3) (E2.bind (inRange_ev _ _ _) (E2.neg (by simpa using h4) (E2.bind (inRange_ev _ _ _) (E2.neg (by simpa using h5) ?_)))))))))))))
    simp only [wrapS (show i < 9223372036854775807 by omega)]
    by_cases c : 0 < i
    · refine E2.pos (by omega) ?_
      simp only [wrapP c (show i < 9223372036854775807 by omega)]
      have := (ordM_lt _ _).2 (h6 c)
      exact E2.pos (by omega) (E2.pos (by omega) (E2.bind (orderM_ev _ _) (E2.neg (by omega) e)))
    · exact E2.neg (by omega) e) (fun i hi hq => by
    refine E2.eq (fun k m => impl_AreMarks.l0_eq k m l l _ _) (E2.pos (by omega) (E2.pos (by omega) (E2.pos (by omega) (E2.bind (inRange_ev _ _ _) ?_))))
    by_cases h1 : 1 ≤ ((rd T110 l (i : Int)).1 : Int) ∧ ((rd T110 l (i : Int)).1 : Int) ≤ 100
    · refine E2.neg (by simpa using h1) (E2.bind (inRange_ev _ _ _) ?_)
      by_cases h2 : 1 ≤ ((rd T110 l (i : Int)).2.1 : Int) ∧ ((rd T110 l (i : Int)).2.1 : Int) ≤ 4
      · refine E2.neg (by simpa using h2) (E2.bind (inRange_ev _ _ _) ?_)
        by_cases h3 : 0 ≤ ((rd T110 l (i : Int)).2.2.1 : Int) ∧ ((rd T110 l (i : Int)).2.2.1 : Int) ≤ 9
        · refine E2.neg (by simpa using h3) (E2.bind (inRange_ev _ _ _) ?_)
          by_cases h4 : 0 ≤ ((rd T110 l (i : Int)).2.2.2.1 : Int) ∧ ((rd T110 l (i : Int)).2.2.2.1 : Int) ≤ 100000
          · refine E2.neg (by simpa using h4) (E2.bind (inRange_ev _ _ _) ?_)
            by_cases h5 : 1 ≤ ((rd T110 l (i : Int)).2.2.2.2.1 : Int) ∧ ((rd T110 l (i : Int)).2.2.2.2.1 : Int) ≤ 99
            · obtain ⟨c, c1⟩ := notM l i hq ⟨h1, h2, h3, h4, h5⟩
              refine E2.neg (by simpa using h5) (E2.pos (by omega) ?_)
              simp only [wrapP c (show i < 9223372036854775807 by omega)]
              have := mt (ordM_lt _ _).1 c1
              exact E2.pos (by omega) (E2.pos (by omega) (E2.bind (orderM_ev _ _) (E2.pos (by omega) E2.ret)))
            · exact E2.pos (by simpa using h5) E2.ret
          · exact E2.pos (by simpa using h4) E2.ret
        · exact E2.pos (by simpa using h3) E2.ret
      · exact E2.pos (by simpa using h2) E2.ret
    · exact E2.pos (by simpa using h1) E2.ret)
  exact ⟨r, Ev.eq (fun k => impl_AreMarks_eq k l) (Ev.loop (f := fun k m => impl_AreMarks.l0 k m l l ((List.length l : Nat) : Int) 0) er), hr⟩
theorem implMarks_ev (l : List DT110) (hl : l.length ≤ 1048576) : ∃ r, Ev (fun k => impl_AreMarks k l) r ∧ (r = true ↔ marksP l) := implMarksB_ev l (by omega)
def QL (l : List DT25) (i : Nat) : Prop := Eq (α := Int) (rd T25 l (i : Int)).1 (i : Int) ∧ (LE.le (α := Int) 1 (rd T25 l (i : Int)).2.1 ∧ LE.le (α := Int) (rd T25 l (i : Int)).2.1 500) ∧ (0 < i → LT.lt (α := Int) (rd T25 l ((i - 1 : Nat) : Int)).2.1 (rd T25 l (i : Int)).2.1)
def lettersP (l : List DT25) : Prop := (∀ i, i < l.length → QL l i) ∧ decide (((l.length : Nat) : Int) ≤ 26) = true
theorem specLetters_ev (l : List DT25) (hl : l.length ≤ 1048576) : ∃ r, Ev (fun k => spec_AreLetters k l) r ∧ (r = true ↔ lettersP l) := by
  obtain ⟨r, er, hr⟩ := loop_allR (R := fun i v => E2 (fun k m => spec_AreLetters.l0 k m l i) v) (n := l.length) (QL l) (decide (((l.length : Nat) : Int) ≤ 26)) (E2.eq (fun k m => spec_AreLetters.l0_eq k m l _) (E2.neg (by omega) E2.ret)) (fun i hi hq v e => by
    obtain ⟨h1, h2, h3⟩ := hq
    refine E2.eq (fun k m => spec_AreLetters.l0_eq k m l _) (E2.pos (by omega) (E2.pos (by omega) (E2.pos (by omega) (E2.neg (fun c => c h1) (E2.pos (by omega) (E2.pos (by omega) (E2.bind (l1In_ev _ _ _) (E2.neg (by simpa using h2) ?_))))))))
    simp only [wrapS (show i < 9223372036854775807 by omega)]
    by_cases c : 0 < i
    · refine E2.pos (by omega) ?_
      simp only [wrapP c (show i < 9223372036854775807 by omega)]
      have := h3 c
      exact E2.pos (by omega) (E2.pos (by omega) (E2.pos (by omega) (E2.pos (by omega) (E2.neg (by omega) e))))
    · exact E2.neg (by omega) e) (fun i hi hq => by
    refine E2.eq (fun k m => spec_AreLetters.l0_eq k m l _) (E2.pos (by omega) (E2.pos (by omega) (E2.pos (by omega) ?_)))
    by_cases h1 : Eq (α := Int) (rd T25 l (i : Int)).1 (i : Int)
    · refine E2.neg (fun c => c h1) (E2.pos (by omega) (E2.pos (by omega) (E2.bind (l1In_ev _ _ _) ?_)))
      by_cases h2 : LE.le (α := Int) 1 (rd T25 l (i : Int)).2.1 ∧ LE.le (α := Int) (rd T25 l (i : Int)).2.1 500
      · have c : 0 < i := by
          rcases Nat.eq_zero_or_pos i with h | h
          · exact absurd ⟨h1, h2, fun h' => by omega⟩ hq
          · exact h
        have h3 : ¬ LT.lt (α := Int) (rd T25 l ((i - 1 : Nat) : Int)).2.1 (rd T25 l (i : Int)).2.1 := fun h => hq ⟨h1, h2, fun _ => h⟩
        refine E2.neg (by simpa using h2) (E2.pos (by omega) ?_)
        simp only [wrapP c (show i < 9223372036854775807 by omega)]
        exact E2.pos (by omega) (E2.pos (by omega) (E2.pos (by omega) (E2.pos (by omega) (E2.pos (by omega) E2.ret))))
      · exact E2.pos (by simpa using h2) E2.ret
    · exact E2.pos h1 E2.ret)
  exact ⟨r, Ev.eq (fun k => spec_AreLetters_eq k l) (Ev.loop (f := fun k m => spec_AreLetters.l0 k m l 0) er), hr⟩
theorem implLetters_ev (l : List DT25) (hl : l.length ≤ 1048576) : ∃ r, Ev (fun k => impl_AreLetters k l) r ∧ (r = true ↔ lettersP l) := by
  obtain ⟨r, er, hr⟩ := loop_allR (R := fun i v => E2 (fun k m => impl_AreLetters.l0 k m l l ((List.length l : Nat) : Int) i) v) (n := l.length) (QL l) (decide (((l.length : Nat) : Int) ≤ 26)) (E2.eq (fun k m => impl_AreLetters.l0_eq k m l l _ _) (E2.neg (by omega) E2.ret)) (fun i hi hq v e => by
    obtain ⟨h1, h2, h3⟩ := hq
    refine E2.eq (fun k m => impl_AreLetters.l0_eq k m l l _ _) (E2.pos (by omega) (E2.pos (by omega) (E2.pos (by omega) (E2.neg (fun c => c h1) (E2.bind (inRange_ev _ _ _) (E2.neg (by simpa using h2) ?_))))))
    simp only [wrapS (show i < 9223372036854775807 by omega)]
    by_cases c : 0 < i
    · refine E2.pos (by omega) ?_
      simp only [wrapP c (show i < 9223372036854775807 by omega)]
      have := h3 c
      exact E2.pos (by omega) (E2.pos (by omega) (E2.neg (by omega) e))
    · exact E2.neg (by omega) e) (fun i hi hq => by
    refine E2.eq (fun k m => impl_AreLetters.l0_eq k m l l _ _) (E2.pos (by omega) (E2.pos (by omega) (E2.pos (by omega) ?_)))
    by_cases h1 : Eq (α := Int) (rd T25 l (i : Int)).1 (i : Int)
    · refine E2.neg (fun c => c h1) (E2.bind (inRange_ev _ _ _) ?_)
      by_cases h2 : LE.le (α := Int) 1 (rd T25 l (i : Int)).2.1 ∧ LE.le (α := Int) (rd T25 l (i : Int)).2.1 500
      · have c : 0 < i := by
          rcases Nat.eq_zero_or_pos i with h | h
          · exact absurd ⟨h1, h2, fun h' => by omega⟩ hq
          · exact h
        have h3 : ¬ LT.lt (α := Int) (rd T25 l ((i - 1 : Nat) : Int)).2.1 (rd T25 l (i : Int)).2.1 := fun h => hq ⟨h1, h2, fun _ => h⟩
        refine E2.neg (by simpa using h2) (E2.pos (by omega) ?_)
        simp only [wrapP c (show i < 9223372036854775807 by omega)]
        exact E2.pos (by omega) (E2.pos (by omega) (E2.pos (by omega) E2.ret))
      · exact E2.pos (by simpa using h2) E2.ret
    · exact E2.pos h1 E2.ret)
  exact ⟨r, Ev.eq (fun k => impl_AreLetters_eq k l) (Ev.loop (f := fun k m => impl_AreLetters.l0 k m l l ((List.length l : Nat) : Int) 0) er), hr⟩
theorem has_ev (l : List Int) (x : Int) (hl : l.length ≤ 1048576) : Ev (fun k => spec_l27Has k l x) (decide (x ∈ l)) := by
  refine dec_of ?_
  obtain ⟨r, er, hr⟩ := loop_anyR (R := fun i v => E2 (fun k m => spec_l27Has.l0 k m l x i) v) (n := l.length) (fun i => Eq (α := Int) (rd (.int .i64) l (i : Int)) x) (E2.eq (fun k m => spec_l27Has.l0_eq k m l x _) (E2.neg (by omega) E2.ret)) (fun i hi hq v e => by
    refine E2.eq (fun k m => spec_l27Has.l0_eq k m l x _) (E2.pos (by omega) (E2.pos (by omega) (E2.pos (by omega) (E2.neg hq ?_))))
    simp only [wrapS (show i < 9223372036854775807 by omega)]; exact e) (fun i hi hq => E2.eq (fun k m => spec_l27Has.l0_eq k m l x _) (E2.pos (by omega) (E2.pos (by omega) (E2.pos (by omega) (E2.pos hq E2.ret)))))
  refine ⟨r, Ev.eq (fun k => spec_l27Has_eq k l x) (Ev.loop (f := fun k m => spec_l27Has.l0 k m l x 0) er), hr.trans ⟨fun ⟨i, hi, h⟩ => ?_, fun h => ?_⟩⟩
  · rw [← h, rd_at hi]; exact List.getElem_mem hi
  · obtain ⟨i, hi, h⟩ := List.mem_iff_getElem.1 h
    exact ⟨i, hi, by rw [rd_at hi]; exact h⟩
theorem index_ev (l : List Int) (x : Int) (hl : l.length ≤ 1048576) : Ev (fun k => slices_Index___int_int k l x) (firstI (fun i => decide (Eq (α := Int) x (rd (.int .i64) l (i : Int)))) l.length) := by
  have er := loop_firstR (R := fun i v => E2 (fun k m => slices_Index___int_int.l0 k m l x ((List.length l : Nat) : Int) i) v) (n := l.length) (fun i => decide (Eq (α := Int) x (rd (.int .i64) l (i : Int)))) (E2.eq (fun k m => slices_Index___int_int.l0_eq k m l x _ _) (E2.neg (by omega) E2.ret)) (fun i hi hq v e => by
    refine E2.eq (fun k m => slices_Index___int_int.l0_eq k m l x _ _) (E2.pos (by omega) (E2.pos (by omega) (E2.pos (by omega) (E2.neg (by simpa using hq) ?_))))
    simp only [wrapS (show i < 9223372036854775807 by omega)]; exact e) (fun i hi hq => E2.eq (fun k m => slices_Index___int_int.l0_eq k m l x _ _) (E2.pos (by omega) (E2.pos (by omega) (E2.pos (by omega) (E2.pos (by simpa using hq) E2.ret)))))
  exact Ev.eq (fun k => slices_Index___int_int_eq k l x) (Ev.loop (f := fun k m => slices_Index___int_int.l0 k m l x ((List.length l : Nat) : Int) 0) er)
theorem contains_ev (l : List Int) (x : Int) (hl : l.length ≤ 1048576) : Ev (fun k => slices_Contains___int_int k l x) (decide (x ∈ l)) := by
  refine Ev.eq (fun k => slices_Contains___int_int_eq k l x) (Ev.bind (index_ev l x hl) (Ev.ret.val ?_))
  rw [Bool.eq_iff_iff, decide_eq_true_eq, decide_eq_true_eq, firstI_nonneg]
  constructor
  · rintro ⟨i, hi, h⟩
    have h : x = rd (.int .i64) l (i : Int) := by simpa using h
    rw [h, rd_at hi]; exact List.getElem_mem hi
  · intro h
    obtain ⟨i, hi, h⟩ := List.mem_iff_getElem.1 h
    exact ⟨i, hi, by rw [decide_eq_true_eq, rd_at hi]; exact h.symm⟩
def ofVoice (v : Int) (e : DT60) : Bool := decide ((e.2.2.2.1 : Int) = v)
theorem specVoice_ev (l : List DT60) (v : Int) (hl : l.length ≤ 1048576) : Ev (fun k => spec_VoiceOf k l v) (l.filter (ofVoice v)) := by
  have er := loop_filterR (t := T60) (l := l) (R := fun i s r => E2 (fun k m => spec_VoiceOf.l0 k m l v i s) r) (ofVoice v) (fun s => E2.eq (fun k m => spec_VoiceOf.l0_eq k m l v _ s) (E2.neg (by omega) E2.ret)) (fun i s hi hs hq r e => by
    refine E2.eq (fun k m => spec_VoiceOf.l0_eq k m l v _ s) (E2.pos (by omega) (E2.pos (by omega) (E2.pos (by omega) (E2.pos (of_decide_eq_true hq) (E2.pos (by omega) (E2.pos (by omega) (E2.pos (by simp only [List.length_cons, List.length_nil]; omega) ?_)))))))
    simp only [wrapS (show i < 9223372036854775807 by omega)]; exact e) (fun i s hi hs hq r e => by
    refine E2.eq (fun k m => spec_VoiceOf.l0_eq k m l v _ s) (E2.pos (by omega) (E2.pos (by omega) (E2.pos (by omega) (E2.neg (of_decide_eq_false hq) ?_))))
    simp only [wrapS (show i < 9223372036854775807 by omega)]; exact e)
  exact Ev.eq (fun k => spec_VoiceOf_eq k l v) (Ev.loop (f := fun k m => spec_VoiceOf.l0 k m l v 0 []) er)
theorem del_ev (e : DT60) (v : Int) : Ev (fun k => impl_VoiceOf_1 k e v) (! ofVoice v e) := by
  refine Ev.eq (fun k => impl_VoiceOf_1_eq k e v) (Ev.ret.val ?_)
  unfold ofVoice
  simp
theorem delete_ev (l : List DT60) (v : Int) (hl : l.length ≤ 1048576) : Ev (fun k => slices_DeleteFunc_impl_Event_81 k l v) (l.filter (ofVoice v)) := by
  have ei : Ev (fun k => slices_IndexFunc_impl_Event_81 k l v) (firstI (fun i => ! ofVoice v (rd T60 l (i : Int))) l.length) := by
    have er := loop_firstR (R := fun i r => E2 (fun k m => slices_IndexFunc_impl_Event_81.l0 k m l v ((List.length l : Nat) : Int) i) r) (n := l.length) (fun i => ! ofVoice v (rd T60 l (i : Int))) (E2.eq (fun k m => slices_IndexFunc_impl_Event_81.l0_eq k m l v _ _) (E2.neg (by omega) E2.ret)) (fun i hi hq r e => by
      refine E2.eq (fun k m => slices_IndexFunc_impl_Event_81.l0_eq k m l v _ _) (E2.pos (by omega) (E2.pos (by omega) (E2.pos (by omega) (E2.bind (del_ev _ _) (E2.neg (by rw [hq]; simp) ?_)))))
      simp only [wrapS (show i < 9223372036854775807 by omega)]; exact e) (fun i hi hq => E2.eq (fun k m => slices_IndexFunc_impl_Event_81.l0_eq k m l v _ _) (E2.pos (by omega) (E2.pos (by omega) (E2.pos (by omega) (E2.bind (del_ev _ _) (E2.pos hq E2.ret))))))
    exact Ev.eq (fun k => slices_IndexFunc_impl_Event_81_eq k l v) (Ev.loop (f := fun k m => slices_IndexFunc_impl_Event_81.l0 k m l v ((List.length l : Nat) : Int) 0) er)
  refine Ev.eq (fun k => slices_DeleteFunc_impl_Event_81_eq k l v) (Ev.bind ei ?_)
  rcases firstI_spec (fun i => ! ofVoice v (rd T60 l (i : Int))) l.length with ⟨h, hall⟩ | ⟨r, h, hr, h1, h0⟩
  · refine Ev.pos h (Ev.ret.val ?_)
    symm
    rw [List.filter_eq_self]
    intro x hx
    obtain ⟨i, hi, rfl⟩ := List.mem_iff_getElem.1 hx
    have := hall i hi
    rw [rd_at hi] at this
    simpa using this
  · rw [h]
    refine Ev.neg (by omega) ?_
    rw [wrapS (by omega)]
    refine Ev.loop (f := fun k m => slices_DeleteFunc_impl_Event_81.l0 k m v (r : Int) ((r + 1 : Nat) : Int) l) ?_
    refine loop_deleteR (t := T60) (l := l) (R := fun i j s w => E2 (fun k m => slices_DeleteFunc_impl_Event_81.l0 k m v i j s) w) (ofVoice v) (fun i s hi hs => ?_) (fun i j s hij hj hs hq w e => ?_) (fun i j s hij hj hs hq w e => ?_) r hr (fun j hj => by simpa using h0 j hj) (by simpa using h1)
    · refine E2.eq (fun k m => slices_DeleteFunc_impl_Event_81.l0_eq k m v _ _ s) (E2.neg (by omega) (E2.pos (by omega) (E2.pos (by omega) (E2.pos (by omega) (E2.pos ?_ (E2.ret.val ?_))))))
      · simp only [List.length_append, List.length_take, List.length_replicate, List.length_drop, Int.toNat_natCast]
        omega
      · simp only [Int.toNat_natCast, show Int.toNat 0 = 0 from rfl, Nat.sub_zero, List.drop_zero]
        rw [List.append_assoc, List.take_append_of_le_length (by simp; omega), List.take_take, Nat.min_self]
    · refine E2.eq (fun k m => slices_DeleteFunc_impl_Event_81.l0_eq k m v _ _ s) (E2.pos (by omega) (E2.pos (by omega) (E2.pos (by omega) (E2.bind (del_ev _ _) (E2.pos (by rw [hq]; simp) (E2.pos (by omega) (E2.pos (by omega) ?_)))))))
      simp only [wrapS (show i < 9223372036854775807 by omega), wrapS (show j < 9223372036854775807 by omega), Int.toNat_natCast]; exact e
    · refine E2.eq (fun k m => slices_DeleteFunc_impl_Event_81.l0_eq k m v _ _ s) (E2.pos (by omega) (E2.pos (by omega) (E2.pos (by omega) (E2.bind (del_ev _ _) (E2.neg (by rw [hq]; simp) ?_)))))
      simp only [wrapS (show j < 9223372036854775807 by omega)]; exact e
theorem cloneE_ev (l : List DT60) (hl : l.length ≤ 1048576) : Ev (fun k => impl_clone_impl_Event k l) l :=
  Ev.eq (fun k => impl_clone_impl_Event_eq k l) (Ev.pos (by simp only [List.length_nil]; omega) (Ev.ret.val (by simp)))
theorem implVoice_ev (l : List DT60) (v : Int) (hl : l.length ≤ 1048576) : Ev (fun k => impl_VoiceOf k l v) (l.filter (ofVoice v)) :=
  Ev.eq (fun k => impl_VoiceOf_eq k l v) (Ev.bind (cloneE_ev l hl) (Ev.bind (delete_ev l v hl) Ev.ret))
def QF (lo hi : Int) (l : List DT60) (i : Nat) : Prop := LE.le (α := Int) lo (rd T60 l (i : Int)).2.2.1 ∧ LE.le (α := Int) (rd T60 l (i : Int)).2.2.1 hi
def fitsP (l : List DT60) (lo hi : Int) : Prop := (∀ i, i < l.length → QF lo hi l i) ∧ decide (scoreP l) = true
theorem specFits_ev (l : List DT60) (lo hi : Int) (hl : l.length ≤ 1048576) : ∃ r, Ev (fun k => spec_FitsRange k l lo hi) r ∧ (r = true ↔ fitsP l lo hi) := by
  obtain ⟨r, er, hr⟩ := loop_allR (R := fun i v => E2 (fun k m => spec_FitsRange.l0 k m l lo hi i) v) (n := l.length) (QF lo hi l) (decide (scoreP l)) (E2.eq (fun k m => spec_FitsRange.l0_eq k m l lo hi _) (E2.neg (by omega) (E2.bind (specScore_ev l hl) (E2.ret.val (by simp))))) (fun i hi' hq v e => by
    refine E2.eq (fun k m => spec_FitsRange.l0_eq k m l lo hi _) (E2.pos (by omega) (E2.pos (by omega) (E2.pos (by omega) (E2.bind (l1In_ev _ _ _) (E2.neg (by simpa [QF] using hq) ?_)))))
    simp only [wrapS (show i < 9223372036854775807 by omega)]; exact e) (fun i hi' hq => E2.eq (fun k m => spec_FitsRange.l0_eq k m l lo hi _) (E2.pos (by omega) (E2.pos (by omega) (E2.pos (by omega) (E2.bind (l1In_ev _ _ _) (E2.pos (by simp only [decide_eq_true_eq]; exact hq) E2.ret))))))
  exact ⟨r, Ev.eq (fun k => spec_FitsRange_eq k l lo hi) (Ev.loop (f := fun k m => spec_FitsRange.l0 k m l lo hi 0) er), hr⟩
theorem implFits_ev (l : List DT60) (lo hi : Int) (hl : l.length ≤ 1048576) : ∃ r, Ev (fun k => impl_FitsRange k l lo hi) r ∧ (r = true ↔ fitsP l lo hi) := by
  obtain ⟨r, er, hr⟩ := loop_allR (R := fun i v => E2 (fun k m => impl_FitsRange.l0 k m l lo hi l ((List.length l : Nat) : Int) i) v) (n := l.length) (QF lo hi l) (decide (scoreP l)) (E2.eq (fun k m => impl_FitsRange.l0_eq k m l lo hi l _ _) (E2.neg (by omega) (E2.bind (implScore_ev l hl) (E2.ret.val (by simp))))) (fun i hi' hq v e => by
    refine E2.eq (fun k m => impl_FitsRange.l0_eq k m l lo hi l _ _) (E2.pos (by omega) (E2.pos (by omega) (E2.pos (by omega) (E2.bind (inRange_ev _ _ _) (E2.neg (by simpa [QF] using hq) ?_)))))
    simp only [wrapS (show i < 9223372036854775807 by omega)]; exact e) (fun i hi' hq => E2.eq (fun k m => impl_FitsRange.l0_eq k m l lo hi l _ _) (E2.pos (by omega) (E2.pos (by omega) (E2.pos (by omega) (E2.bind (inRange_ev _ _ _) (E2.pos (by simp only [decide_eq_true_eq]; exact hq) E2.ret))))))
  exact ⟨r, Ev.eq (fun k => impl_FitsRange_eq k l lo hi) (Ev.loop (f := fun k m => impl_FitsRange.l0 k m l lo hi l ((List.length l : Nat) : Int) 0) er), hr⟩
def canP (p : DT93) (l : List DT60) (v : Int) : Prop := (v : Int) ∈ p.2.2.2.1 ∧ scoreP l ∧ fitsP (l.filter (ofVoice v)) p.2.1 p.2.2.1
theorem filter_le (l : List DT60) (v : Int) (hl : l.length ≤ 1048576) : (l.filter (ofVoice v)).length ≤ 1048576 := Nat.le_trans (List.length_filter_le _ _) hl
theorem specCan_ev (p : DT93) (l : List DT60) (v : Int) (hp : p.2.2.2.1.length ≤ 1048576) (hl : l.length ≤ 1048576) : ∃ r, Ev (fun k => spec_CanPlay k p l v) r ∧ (r = true ↔ canP p l v) := by
  unfold canP
  by_cases c1 : (v : Int) ∈ p.2.2.2.1
  · by_cases c2 : scoreP l
    · obtain ⟨r, er, hr⟩ := specFits_ev (l.filter (ofVoice v)) p.2.1 p.2.2.1 (filter_le l v hl)
      exact ⟨r, Ev.eq (fun k => spec_CanPlay_eq k p l v) (Ev.bind (has_ev _ _ hp) (Ev.pos (by simpa using c1) (Ev.bind (specScore_ev l hl) (Ev.pos (by simpa using c2) (Ev.bind (specVoice_ev l v hl) (Ev.bind er (Ev.ret.val (by simp)))))))), by rw [hr]; exact ⟨fun h => ⟨c1, c2, h⟩, fun h => h.2.2⟩⟩
    · exact ⟨false, Ev.eq (fun k => spec_CanPlay_eq k p l v) (Ev.bind (has_ev _ _ hp) (Ev.pos (by simpa using c1) (Ev.bind (specScore_ev l hl) (Ev.neg (by simpa using c2) Ev.ret)))), by simp only [Bool.false_eq_true, false_iff]; exact fun h => c2 h.2.1⟩
  · exact ⟨false, Ev.eq (fun k => spec_CanPlay_eq k p l v) (Ev.bind (has_ev _ _ hp) (Ev.neg (by simpa using c1) Ev.ret)), by simp only [Bool.false_eq_true, false_iff]; exact fun h => c1 h.1⟩
theorem implCan_ev (p : DT93) (l : List DT60) (v : Int) (hp : p.2.2.2.1.length ≤ 1048576) (hl : l.length ≤ 1048576) : ∃ r, Ev (fun k => impl_CanPlay k p l v) r ∧ (r = true ↔ canP p l v) := by
  unfold canP
  by_cases c1 : (v : Int) ∈ p.2.2.2.1
  · by_cases c2 : scoreP l
    · obtain ⟨r, er, hr⟩ := implFits_ev (l.filter (ofVoice v)) p.2.1 p.2.2.1 (filter_le l v hl)
      exact ⟨r, Ev.eq (fun k => impl_CanPlay_eq k p l v) (Ev.bind (contains_ev _ _ hp) (Ev.pos (by simpa using c1) (Ev.bind (implScore_ev l hl) (Ev.pos (by simpa using c2) (Ev.bind (implVoice_ev l v hl) (Ev.bind er (Ev.ret.val (by simp)))))))), by rw [hr]; exact ⟨fun h => ⟨c1, c2, h⟩, fun h => h.2.2⟩⟩
    · exact ⟨false, Ev.eq (fun k => impl_CanPlay_eq k p l v) (Ev.bind (contains_ev _ _ hp) (Ev.pos (by simpa using c1) (Ev.bind (implScore_ev l hl) (Ev.neg (by simpa using c2) Ev.ret)))), by simp only [Bool.false_eq_true, false_iff]; exact fun h => c2 h.2.1⟩
  · exact ⟨false, Ev.eq (fun k => impl_CanPlay_eq k p l v) (Ev.bind (contains_ev _ _ hp) (Ev.neg (by simpa using c1) Ev.ret)), by simp only [Bool.false_eq_true, false_iff]; exact fun h => c1 h.1⟩
def QA (lo hi : Int) (l : List Int) (i : Nat) : Prop := (LE.le (α := Int) lo (rd (.int .i64) l (i : Int)) ∧ LE.le (α := Int) (rd (.int .i64) l (i : Int)) hi) ∧ (0 < i → LT.lt (α := Int) (rd (.int .i64) l ((i - 1 : Nat) : Int)) (rd (.int .i64) l (i : Int)))
def ascP (l : List Int) (lo hi : Int) : Prop := ∀ i, i < l.length → QA lo hi l i
theorem notA {lo hi : Int} {l : List Int} {i : Nat} (h : ¬ QA lo hi l i) (h1 : LE.le (α := Int) lo (rd (.int .i64) l (i : Int)) ∧ LE.le (α := Int) (rd (.int .i64) l (i : Int)) hi) : 0 < i ∧ ¬ LT.lt (α := Int) (rd (.int .i64) l ((i - 1 : Nat) : Int)) (rd (.int .i64) l (i : Int)) := by
  refine ⟨?_, fun c => h ⟨h1, fun _ => c⟩⟩
  rcases Nat.eq_zero_or_pos i with hi | hi
  · exact absurd ⟨h1, fun h' => by omega⟩ h
  · exact hi
theorem asc_ev (l : List Int) (lo hi : Int) (hl : l.length ≤ 1048576) : ∃ r, Ev (fun k => impl_ascending k l lo hi) r ∧ (r = true ↔ ascP l lo hi) := by
  obtain ⟨r, er, hr⟩ := loop_allR (R := fun i v => E2 (fun k m => impl_ascending.l0 k m l lo hi l ((List.length l : Nat) : Int) i) v) (n := l.length) (QA lo hi l) true (E2.eq (fun k m => impl_ascending.l0_eq k m l lo hi l _ _) (E2.neg (by omega) E2.ret)) (fun i hi' hq v e => by
    obtain ⟨h1, h2⟩ := hq
    refine E2.eq (fun k m => impl_ascending.l0_eq k m l lo hi l _ _) (E2.pos (by omega) (E2.pos (by omega) (E2.pos (by omega) (E2.bind (inRange_ev _ _ _) (E2.neg (by simpa using h1) ?_)))))
    simp only [wrapS (show i < 9223372036854775807 by omega)]
    by_cases c : 0 < i
    · refine E2.pos (by omega) ?_
      simp only [wrapP c (show i < 9223372036854775807 by omega)]
      have := h2 c
      exact E2.pos (by omega) (E2.pos (by omega) (E2.neg (by omega) e))
    · exact E2.neg (by omega) e) (fun i hi' hq => by
    refine E2.eq (fun k m => impl_ascending.l0_eq k m l lo hi l _ _) (E2.pos (by omega) (E2.pos (by omega) (E2.pos (by omega) (E2.bind (inRange_ev _ _ _) ?_))))
    by_cases h1 : LE.le (α := Int) lo (rd (.int .i64) l (i : Int)) ∧ LE.le (α := Int) (rd (.int .i64) l (i : Int)) hi
    · obtain ⟨c, c1⟩ := notA hq h1
      refine E2.neg (by simpa using h1) (E2.pos (by omega) ?_)
      simp only [wrapP c (show i < 9223372036854775807 by omega)]
      exact E2.pos (by omega) (E2.pos (by omega) (E2.pos (by omega) E2.ret))
    · exact E2.pos (by simp only [decide_eq_true_eq]; exact h1) E2.ret)
  exact ⟨r, Ev.eq (fun k => impl_ascending_eq k l lo hi) (Ev.loop (f := fun k m => impl_ascending.l0 k m l lo hi l ((List.length l : Nat) : Int) 0) er), hr.trans ⟨fun h => h.1, fun h => ⟨h, rfl⟩⟩⟩
/-- A player alone, as the program tests it ahead of the Ids. -/
def okP (p : DT93) : Prop := (21 ≤ (p.2.1 : Int) ∧ (p.2.1 : Int) ≤ p.2.2.1) ∧ (p.2.2.1 : Int) ≤ 108 ∧ ascP p.2.2.2.1 1 4
def QP (l : List DT93) (i : Nat) : Prop := okP (rd T93 l (i : Int)) ∧ (1 ≤ ((rd T93 l (i : Int)).1 : Int) ∧ ((rd T93 l (i : Int)).1 : Int) ≤ 99) ∧ (0 < i → LT.lt (α := Int) (rd T93 l ((i - 1 : Nat) : Int)).1 (rd T93 l (i : Int)).1)
def playersP (l : List DT93) : Prop := (∀ i, i < l.length → QP l i) ∧ decide (((l.length : Nat) : Int) ≤ 8) = true
/-- No row is longer than the law allows. -/
def SmP (l : List DT93) : Prop := l.length ≤ 1048576 ∧ ∀ i : Nat, i < l.length → (rd T93 l (i : Int)).2.2.2.1.length ≤ 1048576
theorem specPl_in (l : List DT93) (i : Nat) (a b c : Int) (vs : List Int) (hv : vs.length ≤ 1048576) (hi : i < l.length) (hl : l.length ≤ 1048576) (x : Bool) (e : E2 (fun k n => spec_ArePlayers.l0 k n l ((i + 1 : Nat) : Int)) x) :
    ∃ r, E2 (fun k n => spec_ArePlayers.l1 k k n l (i : Int) 0 a b c vs) r ∧ (r = true ↔ ascP vs 1 4 ∧ x = true) := by
  obtain ⟨r, er, hr⟩ := loop_allR (R := fun j v => E3 (fun k m n => spec_ArePlayers.l1 k m n l (i : Int) j a b c vs) v) (n := vs.length) (QA 1 4 vs) x (by
    refine E3.eq (fun k m n => spec_ArePlayers.l1_eq k m n l (i : Int) _ a b c vs) (E3.neg (by omega) ?_)
    simp only [wrapS (show i < 9223372036854775807 by omega)]
    exact E3.out e) (fun j hj hq v e => by
    obtain ⟨h1, h2⟩ := hq
    refine E3.eq (fun k m n => spec_ArePlayers.l1_eq k m n l (i : Int) _ a b c vs) (E3.pos (by omega) (E3.pos (by omega) (E3.pos (by omega) (E3.bind (l1In_ev _ _ _) (E3.neg (by simpa using h1) ?_)))))
    simp only [wrapS (show j < 9223372036854775807 by omega)]
    by_cases c : 0 < j
    · refine E3.pos (by omega) ?_
      simp only [wrapP c (show j < 9223372036854775807 by omega)]
      have := h2 c
      exact E3.pos (by omega) (E3.pos (by omega) (E3.pos (by omega) (E3.pos (by omega) (E3.neg (by omega) e))))
    · exact E3.neg (by omega) e) (fun j hj hq => by
    refine E3.eq (fun k m n => spec_ArePlayers.l1_eq k m n l (i : Int) _ a b c vs) (E3.pos (by omega) (E3.pos (by omega) (E3.pos (by omega) (E3.bind (l1In_ev _ _ _) ?_))))
    by_cases h1 : LE.le (α := Int) 1 (rd (.int .i64) vs (j : Int)) ∧ LE.le (α := Int) (rd (.int .i64) vs (j : Int)) 4
    · obtain ⟨c, c1⟩ := notA hq h1
      refine E3.neg (by simpa using h1) (E3.pos (by omega) ?_)
      simp only [wrapP c (show j < 9223372036854775807 by omega)]
      exact E3.pos (by omega) (E3.pos (by omega) (E3.pos (by omega) (E3.pos (by omega) (E3.pos (by omega) E3.ret))))
    · exact E3.pos (by simp only [decide_eq_true_eq]; exact h1) E3.ret)
  exact ⟨r, E3.loop (f := fun k m n => spec_ArePlayers.l1 k m n l (i : Int) 0 a b c vs) er, hr⟩
theorem specPlayers_ev (l : List DT93) (hs : SmP l) : ∃ r, Ev (fun k => spec_ArePlayers k l) r ∧ (r = true ↔ playersP l) := by
  have hl := hs.1
  have key : ∀ d i, i + d = l.length → ∃ r, E2 (fun k m => spec_ArePlayers.l0 k m l (i : Int)) r ∧ (r = true ↔ (∀ j, i ≤ j → j < l.length → QP l j) ∧ decide (((l.length : Nat) : Int) ≤ 8) = true) := by
    intro d
    induction d with
    | zero =>
      intro i hi
      exact ⟨_, E2.eq (fun k m => spec_ArePlayers.l0_eq k m l _) (E2.neg (by omega) E2.ret), ⟨fun h => ⟨fun j _ _ => by omega, h⟩, fun h => h.2⟩⟩
    | succ d ih =>
      intro i hi
      have hlt : i < l.length := by omega
      obtain ⟨x, ex, hx⟩ := ih (i + 1) (by omega)
      have stop : (∃ e : E2 (fun k m => spec_ArePlayers.l0 k m l (i : Int)) false, True) → ¬ QP l i → ∃ r, E2 (fun k m => spec_ArePlayers.l0 k m l (i : Int)) r ∧ (r = true ↔ (∀ j, i ≤ j → j < l.length → QP l j) ∧ decide (((l.length : Nat) : Int) ≤ 8) = true) := fun ⟨e, _⟩ h =>
        ⟨false, e, by simp only [Bool.false_eq_true, false_iff]; exact fun c => h (c.1 i (Nat.le_refl _) hlt)⟩
      have st : ∀ {f : Nat → Nat → Option Bool} {v : Bool}, (∀ k m, spec_ArePlayers.l0 k (m + 1) l (i : Int) = f k m) → E2 f v → E2 (fun k m => spec_ArePlayers.l0 k m l (i : Int)) v := fun h e => E2.eq h e
      by_cases h1 : LE.le (α := Int) 1 (rd T93 l (i : Int)).1 ∧ LE.le (α := Int) (rd T93 l (i : Int)).1 99
      · by_cases h2 : LE.le (α := Int) 21 (rd T93 l (i : Int)).2.1
        · by_cases h3 : LE.le (α := Int) (rd T93 l (i : Int)).2.1 (rd T93 l (i : Int)).2.2.1
          · by_cases h4 : LE.le (α := Int) (rd T93 l (i : Int)).2.2.1 108
            · obtain ⟨r, er, hr⟩ := specPl_in l i (rd T93 l (i : Int)).1 (rd T93 l (i : Int)).2.1 (rd T93 l (i : Int)).2.2.1 (rd T93 l (i : Int)).2.2.2.1 (hs.2 i hlt) hlt hl x ex
              by_cases c : 0 < i
              · by_cases h5 : LT.lt (α := Int) (rd T93 l ((i - 1 : Nat) : Int)).1 (rd T93 l (i : Int)).1
                · refine ⟨r, E2.eq (fun k m => spec_ArePlayers.l0_eq k m l _) (E2.pos (by omega) (E2.pos (by omega) (E2.pos (by omega) (E2.bind (l1In_ev _ _ _) (E2.neg (by simpa using h1) (E2.neg (by omega) (E2.neg (by omega) (E2.neg (by omega) (E2.pos (by omega) ?_))))))))), hr.trans ⟨fun ⟨h6, h7⟩ => ⟨fun j hj1 hj2 => ?_, (hx.1 h7).2⟩, fun h => ⟨(h.1 i (Nat.le_refl _) hlt).1.2.2, hx.2 ⟨fun j hj1 hj2 => h.1 j (by omega) hj2, h.2⟩⟩⟩⟩
                  · simp only [wrapP c (show i < 9223372036854775807 by omega)]
                    exact E2.pos (by omega) (E2.pos (by omega) (E2.neg (by omega) er))
                  · by_cases hji : j = i
                    · subst hji; exact ⟨⟨⟨h2, h3⟩, h4, h6⟩, h1, fun _ => h5⟩
                    · exact (hx.1 h7).1 j (by omega) hj2
                · refine stop ⟨E2.eq (fun k m => spec_ArePlayers.l0_eq k m l _) (E2.pos (by omega) (E2.pos (by omega) (E2.pos (by omega) (E2.bind (l1In_ev _ _ _) (E2.neg (by simpa using h1) (E2.neg (by omega) (E2.neg (by omega) (E2.neg (by omega) (E2.pos (by omega) ?_))))))))), trivial⟩ (fun h => h5 (h.2.2 c))
                  simp only [wrapP c (show i < 9223372036854775807 by omega)]
                  exact E2.pos (by omega) (E2.pos (by omega) (E2.pos (by omega) E2.ret))
              · refine ⟨r, E2.eq (fun k m => spec_ArePlayers.l0_eq k m l _) (E2.pos (by omega) (E2.pos (by omega) (E2.pos (by omega) (E2.bind (l1In_ev _ _ _) (E2.neg (by simpa using h1) (E2.neg (by omega) (E2.neg (by omega) (E2.neg (by omega) (E2.neg (by omega) er))))))))), hr.trans ⟨fun ⟨h6, h7⟩ => ⟨fun j hj1 hj2 => ?_, (hx.1 h7).2⟩, fun h => ⟨(h.1 i (Nat.le_refl _) hlt).1.2.2, hx.2 ⟨fun j hj1 hj2 => h.1 j (by omega) hj2, h.2⟩⟩⟩⟩
                by_cases hji : j = i
                · subst hji; exact ⟨⟨⟨h2, h3⟩, h4, h6⟩, h1, fun h => absurd h c⟩
                · exact (hx.1 h7).1 j (by omega) hj2
            · exact stop ⟨E2.eq (fun k m => spec_ArePlayers.l0_eq k m l _) (E2.pos (by omega) (E2.pos (by omega) (E2.pos (by omega) (E2.bind (l1In_ev _ _ _) (E2.neg (by simpa using h1) (E2.neg (by omega) (E2.neg (by omega) (E2.pos (by omega) E2.ret)))))))), trivial⟩ (fun h => h4 h.1.2.1)
          · exact stop ⟨E2.eq (fun k m => spec_ArePlayers.l0_eq k m l _) (E2.pos (by omega) (E2.pos (by omega) (E2.pos (by omega) (E2.bind (l1In_ev _ _ _) (E2.neg (by simpa using h1) (E2.neg (by omega) (E2.pos (by omega) E2.ret))))))), trivial⟩ (fun h => h3 h.1.1.2)
        · exact stop ⟨E2.eq (fun k m => spec_ArePlayers.l0_eq k m l _) (E2.pos (by omega) (E2.pos (by omega) (E2.pos (by omega) (E2.bind (l1In_ev _ _ _) (E2.neg (by simpa using h1) (E2.pos (by omega) E2.ret)))))), trivial⟩ (fun h => h2 h.1.1.1)
      · exact stop ⟨E2.eq (fun k m => spec_ArePlayers.l0_eq k m l _) (E2.pos (by omega) (E2.pos (by omega) (E2.pos (by omega) (E2.bind (l1In_ev _ _ _) (E2.pos (by simp only [decide_eq_true_eq]; exact h1) E2.ret))))), trivial⟩ (fun h => h1 h.2.1)
  obtain ⟨r, er, hr⟩ := key l.length 0 (by omega)
  exact ⟨r, Ev.eq (fun k => spec_ArePlayers_eq k l) (Ev.loop (f := fun k m => spec_ArePlayers.l0 k m l 0) er), hr.trans ⟨fun h => ⟨fun i hi => h.1 i (Nat.zero_le _) hi, h.2⟩, fun h => ⟨fun i _ hi => h.1 i hi, h.2⟩⟩⟩
def idsOfP (l : List DT93) : List Int := l.map fun p => p.1
theorem idsOfP_rd {l : List DT93} {i : Nat} (h : i < l.length) : Eq (α := Int) (rd (.int .i64) (idsOfP l) (i : Int)) (rd T93 l (i : Int)).1 := by
  unfold idsOfP
  rw [rd_at (by simpa using h), rd_at h]
  simp
theorem implPlayers_ev (l : List DT93) (hs : SmP l) : ∃ r, Ev (fun k => impl_ArePlayers k l) r ∧ (r = true ↔ playersP l) := by
  have hl := hs.1
  obtain ⟨a, ea, ha⟩ := asc_ev (idsOfP l) 1 99 (by unfold idsOfP; simpa using hl)
  obtain ⟨r, er, hr⟩ := loop_allR (R := fun i v => E2 (fun k m => impl_ArePlayers.l0 k m l l ((List.length l : Nat) : Int) i (idsOfP (l.take i.toNat))) v) (n := l.length) (fun i => okP (rd T93 l (i : Int))) (decide (((l.length : Nat) : Int) ≤ 8 ∧ a = true)) (by
    refine E2.eq (fun k m => impl_ArePlayers.l0_eq k m l l _ _ _) (E2.neg (by omega) ?_)
    rw [Int.toNat_natCast, List.take_length]
    by_cases c : ((l.length : Nat) : Int) ≤ 8
    · exact E2.pos c (E2.bind ea (E2.ret.val (by simp [c])))
    · exact E2.neg c (E2.ret.val (by simp [c]))) (fun i hi hq v e => by
    obtain ⟨h1, h2, h3⟩ := hq
    obtain ⟨b, eb, hb⟩ := asc_ev (rd T93 l (i : Int)).2.2.2.1 1 4 (hs.2 i hi)
    have hlen : (idsOfP (l.take ((i : Int)).toNat)).length = i := by unfold idsOfP; simp; omega
    refine E2.eq (fun k m => impl_ArePlayers.l0_eq k m l l _ _ _) (E2.pos (by omega) (E2.pos (by omega) (E2.pos (by omega) (E2.bind (inRange_ev _ _ _) (E2.neg (by simpa using h1) (E2.neg (Int.not_lt.2 h2) (E2.bind eb (E2.neg (by simpa using hb.2 h3) (E2.pos (by rw [hlen]; simp only [List.length_cons, List.length_nil]; omega) ?_)))))))))
    simp only [wrapS (show i < 9223372036854775807 by omega)]
    have he : idsOfP (l.take ((i : Int)).toNat) ++ [(rd T93 l (i : Int)).1] = idsOfP (l.take (((i + 1 : Nat) : Int)).toNat) := by
      unfold idsOfP
      rw [Int.toNat_natCast, Int.toNat_natCast, List.take_succ_eq_append_getElem hi, rd_at hi, List.map_append]
      rfl
    rw [he]
    exact e) (fun i hi hq => by
    obtain ⟨b, eb, hb⟩ := asc_ev (rd T93 l (i : Int)).2.2.2.1 1 4 (hs.2 i hi)
    refine E2.eq (fun k m => impl_ArePlayers.l0_eq k m l l _ _ _) (E2.pos (by omega) (E2.pos (by omega) (E2.pos (by omega) (E2.bind (inRange_ev _ _ _) ?_))))
    by_cases h1 : LE.le (α := Int) 21 (rd T93 l (i : Int)).2.1 ∧ LE.le (α := Int) (rd T93 l (i : Int)).2.1 (rd T93 l (i : Int)).2.2.1
    · refine E2.neg (by simpa using h1) ?_
      by_cases h2 : LE.le (α := Int) (rd T93 l (i : Int)).2.2.1 108
      · exact E2.neg (by omega) (E2.bind eb (E2.pos (fun c => hq ⟨h1, h2, hb.1 c⟩) E2.ret))
      · exact E2.pos (by omega) E2.ret
    · exact E2.pos (by simp only [decide_eq_true_eq]; exact h1) E2.ret)
  have er' : E2 (fun k m => impl_ArePlayers.l0 k m l l ((List.length l : Nat) : Int) 0 []) r := er
  refine ⟨r, Ev.eq (fun k => impl_ArePlayers_eq k l) (Ev.loop (f := fun k m => impl_ArePlayers.l0 k m l l ((List.length l : Nat) : Int) 0 []) er'), hr.trans ?_⟩
  unfold playersP
  rw [decide_eq_true_eq, decide_eq_true_eq, ha]
  unfold ascP
  have hlen : (idsOfP l).length = l.length := by unfold idsOfP; simp
  rw [hlen]
  constructor
  · rintro ⟨h1, h2, h3⟩
    refine ⟨fun i hi => ?_, h2⟩
    obtain ⟨k1, k2⟩ := h3 i hi
    rw [idsOfP_rd hi] at k1
    refine ⟨h1 i hi, k1, fun c => ?_⟩
    have := k2 c
    rw [idsOfP_rd hi, idsOfP_rd (show i - 1 < l.length by omega)] at this
    exact this
  · rintro ⟨h1, h2⟩
    refine ⟨fun i hi => (h1 i hi).1, h2, fun i hi => ?_⟩
    obtain ⟨k1, k2, k3⟩ := h1 i hi
    refine ⟨by rw [idsOfP_rd hi]; exact k2, fun c => ?_⟩
    rw [idsOfP_rd hi, idsOfP_rd (show i - 1 < l.length by omega)]
    exact k3 c
def sitsP (l : List DT93) (sc : List DT60) (x v : Int) (j : Nat) : Prop := Eq (α := Int) (rd T93 l (j : Int)).1 x ∧ canP (rd T93 l (j : Int)) sc v
def QI (l : List DT93) (sc : List DT60) (seats : List Int) (i : Nat) : Prop := (∃ j, j < l.length ∧ sitsP l sc (rd (.int .i64) seats (i : Int)) ((i + 1 : Nat) : Int) j) ∧ ¬ (rd (.int .i64) seats (i : Int)) ∈ seats.take i
def seatingP (l : List DT93) (sc : List DT60) (seats : List Int) : Prop := (∀ i, i < seats.length → QI l sc seats i) ∧ playersP l ∧ scoreP sc ∧ ((seats.length : Nat) : Int) ≤ 4
theorem takeNat (i : Nat) (s : List Int) : List.take (Int.toNat (i : Int) - Int.toNat 0) (List.drop (Int.toNat 0) s) = s.take i := by
  simp
theorem specSeat_in (l : List DT93) (sc : List DT60) (seats : List Int) (hs : SmP l) (h1 : sc.length ≤ 1048576) (h2 : seats.length ≤ 1048576) (i : Nat) (hi : i < seats.length) (x : Bool) (e : E2 (fun k n => spec_IsSeating.l0 k n l sc seats ((i + 1 : Nat) : Int)) x) :
    ∃ r, E2 (fun k n => spec_IsSeating.l1 k k n l sc seats (i : Int) false 0) r ∧ (r = true ↔ QI l sc seats i ∧ x = true) := by
  have hl := hs.1
  have key : ∀ d (j : Nat) (g : Bool), j + d = l.length → ∃ r, E3 (fun k m n => spec_IsSeating.l1 k m n l sc seats (i : Int) g (j : Int)) r ∧
      (r = true ↔ ((g = true ∨ ∃ q, j ≤ q ∧ q < l.length ∧ sitsP l sc (rd (.int .i64) seats (i : Int)) ((i + 1 : Nat) : Int) q) ∧ ¬ (rd (.int .i64) seats (i : Int)) ∈ seats.take i) ∧ x = true) := by
    intro d
    induction d with
    | zero =>
      intro j g hj
      have no : ¬ ∃ q, j ≤ q ∧ q < l.length ∧ sitsP l sc (rd (.int .i64) seats (i : Int)) ((i + 1 : Nat) : Int) q := by rintro ⟨q, h3, h4, _⟩; omega
      cases g with
      | false =>
        exact ⟨false, E3.eq (fun k m n => spec_IsSeating.l1_eq k m n l sc seats (i : Int) false _) (E3.neg (by omega) (E3.pos (by simp) E3.ret)), by simp only [Bool.false_eq_true, false_iff, false_or]; exact fun h => no h.1.1⟩
      | true =>
        by_cases hm : (rd (.int .i64) seats (i : Int)) ∈ seats.take i
        · refine ⟨false, E3.eq (fun k m n => spec_IsSeating.l1_eq k m n l sc seats (i : Int) true _) (E3.neg (by omega) (E3.neg (by simp) (E3.pos (by omega) (E3.pos (by omega) (E3.pos (by omega) (E3.pos (by omega) (E3.bind (has_ev _ _ ?_) (E3.pos ?_ E3.ret)))))))), by simp [hm]⟩
          · simp; omega
          · rw [takeNat]; simpa using hm
        · refine ⟨x, E3.eq (fun k m n => spec_IsSeating.l1_eq k m n l sc seats (i : Int) true _) (E3.neg (by omega) (E3.neg (by simp) (E3.pos (by omega) (E3.pos (by omega) (E3.pos (by omega) (E3.pos (by omega) (E3.bind (has_ev _ _ ?_) (E3.neg ?_ ?_)))))))), by simp [hm]⟩
          · simp; omega
          · rw [takeNat]; simpa using hm
          · simp only [wrapS (show i < 9223372036854775807 by omega)]
            exact E3.out e
    | succ d ih =>
      intro j g hj
      have hlt : j < l.length := by omega
      cases g with
      | true =>
        obtain ⟨r, er, hr⟩ := ih (j + 1) true (by omega)
        refine ⟨r, E3.eq (fun k m n => spec_IsSeating.l1_eq k m n l sc seats (i : Int) true _) (E3.pos (by omega) (E3.pos rfl ?_)), hr.trans (by simp)⟩
        simp only [wrapS (show j < 9223372036854775807 by omega)]
        exact er
      | false =>
        have wi : IntKind.wrap .i64 ((i : Int) + 1) = ((i + 1 : Nat) : Int) := wrapS (by omega)
        by_cases hid : Eq (α := Int) (rd T93 l (j : Int)).1 (rd (.int .i64) seats (i : Int))
        · obtain ⟨c, ec, hc⟩ := specCan_ev (rd T93 l (j : Int)) sc ((i + 1 : Nat) : Int) (hs.2 j hlt) h1
          obtain ⟨r, er, hr⟩ := ih (j + 1) c (by omega)
          refine ⟨r, E3.eq (fun k m n => spec_IsSeating.l1_eq k m n l sc seats (i : Int) false _) (E3.pos (by omega) (E3.neg (by simp) (E3.pos (by omega) (E3.pos (by omega) (E3.pos (by omega) (E3.pos (by omega) (E3.pos hid (E3.pos (by omega) (E3.pos (by omega) ?_))))))))), hr.trans ?_⟩
          · simp only [wrapS (show j < 9223372036854775807 by omega), wi]
            refine E3.bind ec ?_
            simpa using er
          · refine and_congr (and_congr ⟨fun h => .inr ?_, fun h => ?_⟩ Iff.rfl) Iff.rfl
            · rcases h with h | ⟨q, h3, h4, h5⟩
              · exact ⟨j, Nat.le_refl _, hlt, hid, hc.1 h⟩
              · exact ⟨q, by omega, h4, h5⟩
            · rcases h with h | ⟨q, h3, h4, h5⟩
              · cases h
              · by_cases hq : q = j
                · subst hq; exact .inl (hc.2 h5.2)
                · exact .inr ⟨q, by omega, h4, h5⟩
        · obtain ⟨r, er, hr⟩ := ih (j + 1) false (by omega)
          refine ⟨r, E3.eq (fun k m n => spec_IsSeating.l1_eq k m n l sc seats (i : Int) false _) (E3.pos (by omega) (E3.neg (by simp) (E3.pos (by omega) (E3.pos (by omega) (E3.pos (by omega) (E3.pos (by omega) (E3.neg hid ?_))))))), hr.trans ?_⟩
          · simp only [wrapS (show j < 9223372036854775807 by omega)]
            exact er
          · refine and_congr (and_congr (or_congr Iff.rfl ⟨fun ⟨q, h3, h4, h5⟩ => ⟨q, by omega, h4, h5⟩, fun ⟨q, h3, h4, h5⟩ => ?_⟩) Iff.rfl) Iff.rfl
            by_cases hq : q = j
            · subst hq; exact absurd h5.1 hid
            · exact ⟨q, by omega, h4, h5⟩
  obtain ⟨r, er, hr⟩ := key l.length 0 false (by omega)
  refine ⟨r, E3.loop (f := fun k m n => spec_IsSeating.l1 k m n l sc seats (i : Int) false 0) er, hr.trans ?_⟩
  unfold QI
  simp
theorem specSeating_ev (l : List DT93) (sc : List DT60) (seats : List Int) (hs : SmP l) (h1 : sc.length ≤ 1048576) (h2 : seats.length ≤ 1048576) : ∃ r, Ev (fun k => spec_IsSeating k l sc seats) r ∧ (r = true ↔ seatingP l sc seats) := by
  have key : ∀ d i, i + d = seats.length → ∃ r, E2 (fun k m => spec_IsSeating.l0 k m l sc seats (i : Int)) r ∧ (r = true ↔ (∀ j, i ≤ j → j < seats.length → QI l sc seats j) ∧ playersP l ∧ scoreP sc ∧ ((seats.length : Nat) : Int) ≤ 4) := by
    intro d
    induction d with
    | zero =>
      intro i hi
      have tr : ∀ {p : Prop}, (p ↔ (∀ j, i ≤ j → j < seats.length → QI l sc seats j) ∧ p) := ⟨fun h => ⟨fun j _ _ => by omega, h⟩, fun h => h.2⟩
      obtain ⟨a, ea, ha⟩ := specPlayers_ev l hs
      by_cases ca : a = true
      · by_cases cs : scoreP sc
        · exact ⟨_, E2.eq (fun k m => spec_IsSeating.l0_eq k m l sc seats _) (E2.neg (by omega) (E2.bind ea (E2.pos ca (E2.bind (specScore_ev sc h1) (E2.pos (by simpa using cs) E2.ret))))), Iff.trans (by rw [decide_eq_true_eq]; exact ⟨fun h => ⟨ha.1 ca, cs, h⟩, fun h => h.2.2⟩) tr⟩
        · exact ⟨_, E2.eq (fun k m => spec_IsSeating.l0_eq k m l sc seats _) (E2.neg (by omega) (E2.bind ea (E2.pos ca (E2.bind (specScore_ev sc h1) (E2.neg (by simpa using cs) E2.ret))))), by simp only [Bool.false_eq_true, false_iff]; exact fun h => cs h.2.2.1⟩
      · exact ⟨_, E2.eq (fun k m => spec_IsSeating.l0_eq k m l sc seats _) (E2.neg (by omega) (E2.bind ea (E2.neg ca E2.ret))), by simp only [Bool.false_eq_true, false_iff]; exact fun h => ca (ha.2 h.2.1)⟩
    | succ d ih =>
      intro i hi
      have hlt : i < seats.length := by omega
      obtain ⟨x, ex, hx⟩ := ih (i + 1) (by omega)
      obtain ⟨r, er, hr⟩ := specSeat_in l sc seats hs h1 h2 i hlt x ex
      refine ⟨r, E2.eq (fun k m => spec_IsSeating.l0_eq k m l sc seats _) (E2.pos (by omega) er), hr.trans ⟨fun ⟨h3, h4⟩ => ⟨fun j hj1 hj2 => ?_, (hx.1 h4).2⟩, fun ⟨h3, h4⟩ => ⟨h3 i (Nat.le_refl _) hlt, hx.2 ⟨fun j hj1 hj2 => h3 j (by omega) hj2, h4⟩⟩⟩⟩
      by_cases hj : j = i
      · subst hj; exact h3
      · exact (hx.1 h4).1 j (by omega) hj2
  obtain ⟨r, er, hr⟩ := key seats.length 0 (by omega)
  exact ⟨r, Ev.eq (fun k => spec_IsSeating_eq k l sc seats) (Ev.loop (f := fun k m => spec_IsSeating.l0 k m l sc seats 0) er), hr.trans ⟨fun h => ⟨fun i hi => h.1 i (Nat.zero_le _) hi, h.2⟩, fun h => ⟨fun i _ hi => h.1 i hi, h.2⟩⟩⟩
theorem sits_ev (l : List DT93) (sc : List DT60) (x : Int) (i : Nat) (hs : SmP l) (h1 : sc.length ≤ 1048576) (hi : i < 1048576) : ∃ r, Ev (fun k => slices_ContainsFunc_impl_Player_90 k l x sc (i : Int)) r ∧ (r = true ↔ ∃ j, j < l.length ∧ sitsP l sc x ((i + 1 : Nat) : Int) j) := by
  have hl := hs.1
  have wi : IntKind.wrap .i64 ((i : Int) + 1) = ((i + 1 : Nat) : Int) := wrapS (by omega)
  have one : ∀ j, j < l.length → ∃ r, Ev (fun k => impl_IsSeating_1 k (rd T93 l (j : Int)) x sc (i : Int)) r ∧ (r = true ↔ sitsP l sc x ((i + 1 : Nat) : Int) j) := by
    intro j hj
    by_cases hid : Eq (α := Int) (rd T93 l (j : Int)).1 x
    · obtain ⟨c, ec, hc⟩ := implCan_ev (rd T93 l (j : Int)) sc ((i + 1 : Nat) : Int) (hs.2 j hj) h1
      refine ⟨c, Ev.eq (fun k => impl_IsSeating_1_eq k _ x sc (i : Int)) (Ev.pos hid ?_), hc.trans ⟨fun h => ⟨hid, h⟩, fun h => h.2⟩⟩
      simp only [wi]
      exact Ev.bind ec (Ev.ret.val (by simp))
    · exact ⟨false, Ev.eq (fun k => impl_IsSeating_1_eq k _ x sc (i : Int)) (Ev.neg hid Ev.ret), by simp only [Bool.false_eq_true, false_iff]; exact fun h => hid h.1⟩
  have hdec : ∀ j, Decidable (sitsP l sc x ((i + 1 : Nat) : Int) j) := fun j => Classical.propDecidable _
  have er := loop_firstR (R := fun j v => E2 (fun k m => slices_IndexFunc_impl_Player_90.l0 k m l x sc (i : Int) ((List.length l : Nat) : Int) j) v) (n := l.length) (fun j => @decide _ (hdec j)) (E2.eq (fun k m => slices_IndexFunc_impl_Player_90.l0_eq k m l x sc _ _ _) (E2.neg (by omega) E2.ret)) (fun j hj hq v e => by
    obtain ⟨c, ec, hc⟩ := one j hj
    refine E2.eq (fun k m => slices_IndexFunc_impl_Player_90.l0_eq k m l x sc _ _ _) (E2.pos (by omega) (E2.pos (by omega) (E2.pos (by omega) (E2.bind ec (E2.neg (fun h => absurd (hc.1 h) (@of_decide_eq_false _ (hdec j) hq)) ?_)))))
    simp only [wrapS (show j < 9223372036854775807 by omega)]; exact e) (fun j hj hq => by
    obtain ⟨c, ec, hc⟩ := one j hj
    exact E2.eq (fun k m => slices_IndexFunc_impl_Player_90.l0_eq k m l x sc _ _ _) (E2.pos (by omega) (E2.pos (by omega) (E2.pos (by omega) (E2.bind ec (E2.pos (hc.2 (by simpa using hq)) E2.ret))))))
  refine ⟨_, Ev.eq (fun k => slices_ContainsFunc_impl_Player_90_eq k l x sc _) (Ev.bind (Ev.eq (fun k => slices_IndexFunc_impl_Player_90_eq k l x sc _) (Ev.loop (f := fun k m => slices_IndexFunc_impl_Player_90.l0 k m l x sc (i : Int) ((List.length l : Nat) : Int) 0) er)) Ev.ret), ?_⟩
  rw [decide_eq_true_eq, firstI_nonneg]
  simp only [decide_eq_true_eq]
theorem implSeating_ev (l : List DT93) (sc : List DT60) (seats : List Int) (hs : SmP l) (h1 : sc.length ≤ 1048576) (h2 : seats.length ≤ 1048576) : ∃ r, Ev (fun k => impl_IsSeating k l sc seats) r ∧ (r = true ↔ seatingP l sc seats) := by
  obtain ⟨a, ea, ha⟩ := implPlayers_ev l hs
  by_cases ca : a = true
  · by_cases cs : scoreP sc
    · by_cases c4 : ((seats.length : Nat) : Int) ≤ 4
      · obtain ⟨r, er, hr⟩ := loop_allR (R := fun i v => E2 (fun k m => impl_IsSeating.l0 k m l seats seats ((List.length seats : Nat) : Int) i sc) v) (n := seats.length) (QI l sc seats) true (E2.eq (fun k m => impl_IsSeating.l0_eq k m l seats seats _ _ sc) (E2.neg (by omega) E2.ret)) (fun i hi hq v e => by
          obtain ⟨c, ec, hc⟩ := sits_ev l sc (rd (.int .i64) seats (i : Int)) i hs h1 (by omega)
          refine E2.eq (fun k m => impl_IsSeating.l0_eq k m l seats seats _ _ sc) (E2.pos (by omega) (E2.pos (by omega) (E2.pos (by omega) (E2.pos (by omega) (E2.pos (by omega) (E2.bind (contains_ev _ _ ?_) (E2.neg ?_ (E2.bind ec (E2.neg (by simpa using hc.2 hq.1) ?_)))))))))
          · simp; omega
          · rw [takeNat]; simpa using hq.2
          · simp only [wrapS (show i < 9223372036854775807 by omega)]; exact e) (fun i hi hq => by
          obtain ⟨c, ec, hc⟩ := sits_ev l sc (rd (.int .i64) seats (i : Int)) i hs h1 (by omega)
          refine E2.eq (fun k m => impl_IsSeating.l0_eq k m l seats seats _ _ sc) (E2.pos (by omega) (E2.pos (by omega) (E2.pos (by omega) (E2.pos (by omega) (E2.pos (by omega) (E2.bind (contains_ev _ _ ?_) ?_))))))
          · simp; omega
          rw [takeNat]
          by_cases hm : (rd (.int .i64) seats (i : Int)) ∈ seats.take i
          · exact E2.pos (by simpa using hm) E2.ret
          · exact E2.neg (by simpa using hm) (E2.bind ec (E2.pos (fun h => hq ⟨hc.1 h, hm⟩) E2.ret)))
        exact ⟨r, Ev.eq (fun k => impl_IsSeating_eq k l sc seats) (Ev.bind ea (Ev.neg (by simpa using ca) (Ev.bind (implScore_ev sc h1) (Ev.neg (by simpa using cs) (Ev.neg (by omega) (Ev.loop (f := fun k m => impl_IsSeating.l0 k m l seats seats ((List.length seats : Nat) : Int) 0 sc) er)))))), hr.trans ⟨fun h => ⟨h.1, ha.1 ca, cs, c4⟩, fun h => ⟨h.1, rfl⟩⟩⟩
      · exact ⟨false, Ev.eq (fun k => impl_IsSeating_eq k l sc seats) (Ev.bind ea (Ev.neg (by simpa using ca) (Ev.bind (implScore_ev sc h1) (Ev.neg (by simpa using cs) (Ev.pos (by omega) Ev.ret))))), by simp only [Bool.false_eq_true, false_iff]; exact fun h => c4 h.2.2.2⟩
    · exact ⟨false, Ev.eq (fun k => impl_IsSeating_eq k l sc seats) (Ev.bind ea (Ev.neg (by simpa using ca) (Ev.bind (implScore_ev sc h1) (Ev.pos (by simpa using cs) Ev.ret)))), by simp only [Bool.false_eq_true, false_iff]; exact fun h => cs h.2.2.1⟩
  · exact ⟨false, Ev.eq (fun k => impl_IsSeating_eq k l sc seats) (Ev.bind ea (Ev.pos ca Ev.ret)), by simp only [Bool.false_eq_true, false_iff]; exact fun h => ca (ha.2 h.2.1)⟩
structure Sm (o : DT32) : Prop where
  score : o.1.length ≤ 1048576
  tempo : o.2.2.1.length ≤ 2097152
  players : SmP o.2.2.2.1
  seats : o.2.2.2.2.1.length ≤ 1048576
  marks : o.2.2.2.2.2.1.length ≤ 1048576
  letters : o.2.2.2.2.2.2.1.length ≤ 1048576
theorem sm_of {o : DT32} (h : Bk T32 o) : Sm o := by
  refine ⟨h.1.1, Nat.le_trans h.2.2.1.1 (by omega), ⟨h.2.2.2.1.1, fun i hi => ?_⟩, h.2.2.2.2.1.1, h.2.2.2.2.2.1.1, h.2.2.2.2.2.2.1.1⟩
  rw [rd_at hi]
  exact (h.2.2.2.1.2 _ (List.getElem_mem hi)).2.2.2.1.1
theorem isOrchestra_both (o : DT32) (h : Sm o) : ∃ r, Ev (fun k => spec_IsOrchestra k o) r ∧ Ev (fun k => impl_IsOrchestra k o) r := by
  obtain ⟨m, em1, em2⟩ := specMeter_ev o.2.1
  obtain ⟨a, ea, ha⟩ := specMarks_ev o.2.2.2.2.2.1 h.marks
  obtain ⟨a', ea', ha'⟩ := implMarks_ev o.2.2.2.2.2.1 h.marks
  obtain rfl : a' = a := by rw [Bool.eq_iff_iff]; exact ha'.trans ha.symm
  obtain ⟨b, eb, hb⟩ := specLetters_ev o.2.2.2.2.2.2.1 h.letters
  obtain ⟨b', eb', hb'⟩ := implLetters_ev o.2.2.2.2.2.2.1 h.letters
  obtain rfl : b' = b := by rw [Bool.eq_iff_iff]; exact hb'.trans hb.symm
  obtain ⟨c, ec, hc⟩ := specSeating_ev o.2.2.2.1 o.1 o.2.2.2.2.1 h.players h.score h.seats
  obtain ⟨c', ec', hc'⟩ := implSeating_ev o.2.2.2.1 o.1 o.2.2.2.2.1 h.players h.score h.seats
  obtain rfl : c' = c := by rw [Bool.eq_iff_iff]; exact hc'.trans hc.symm
  by_cases d1 : scoreP o.1
  · by_cases d2 : m = true
    · by_cases d3 : tempoP o.2.2.1
      · by_cases d4 : a' = true
        · by_cases d5 : b' = true
          · by_cases d6 : c' = true
            · by_cases d7 : 1 ≤ (o.2.2.2.2.2.2.2.1 : Int) ∧ (o.2.2.2.2.2.2.2.1 : Int) ≤ 9999
              · exact ⟨_, Ev.eq (fun k => spec_IsOrchestra_eq k o) (Ev.bind (specScore_ev _ h.score) (Ev.pos (by simpa using d1) (Ev.bind em1 (Ev.pos d2 (Ev.bind (specTempoB_ev _ h.tempo) (Ev.pos (by simpa using d3) (Ev.bind ea (Ev.pos d4 (Ev.bind eb (Ev.pos d5 (Ev.bind ec (Ev.pos d6 (Ev.bind (l1In_ev _ _ _) (Ev.pos (by simpa using d7) (Ev.bind (l1In_ev _ _ _) Ev.ret))))))))))))))),
                  Ev.eq (fun k => impl_IsOrchestra_eq k o) (Ev.bind (implScore_ev _ h.score) (Ev.pos (by simpa using d1) (Ev.bind em2 (Ev.pos d2 (Ev.bind (implTempoB_ev _ h.tempo) (Ev.pos (by simpa using d3) (Ev.bind ea' (Ev.pos d4 (Ev.bind eb' (Ev.pos d5 (Ev.bind ec' (Ev.pos d6 (Ev.bind (inRange_ev _ _ _) (Ev.pos (by simpa using d7) (Ev.bind (inRange_ev _ _ _) Ev.ret)))))))))))))))⟩
              · exact ⟨false, Ev.eq (fun k => spec_IsOrchestra_eq k o) (Ev.bind (specScore_ev _ h.score) (Ev.pos (by simpa using d1) (Ev.bind em1 (Ev.pos d2 (Ev.bind (specTempoB_ev _ h.tempo) (Ev.pos (by simpa using d3) (Ev.bind ea (Ev.pos d4 (Ev.bind eb (Ev.pos d5 (Ev.bind ec (Ev.pos d6 (Ev.bind (l1In_ev _ _ _) (Ev.neg (by simpa using d7) Ev.ret)))))))))))))),
                  Ev.eq (fun k => impl_IsOrchestra_eq k o) (Ev.bind (implScore_ev _ h.score) (Ev.pos (by simpa using d1) (Ev.bind em2 (Ev.pos d2 (Ev.bind (implTempoB_ev _ h.tempo) (Ev.pos (by simpa using d3) (Ev.bind ea' (Ev.pos d4 (Ev.bind eb' (Ev.pos d5 (Ev.bind ec' (Ev.pos d6 (Ev.bind (inRange_ev _ _ _) (Ev.neg (by simpa using d7) Ev.ret))))))))))))))⟩
            · exact ⟨false, Ev.eq (fun k => spec_IsOrchestra_eq k o) (Ev.bind (specScore_ev _ h.score) (Ev.pos (by simpa using d1) (Ev.bind em1 (Ev.pos d2 (Ev.bind (specTempoB_ev _ h.tempo) (Ev.pos (by simpa using d3) (Ev.bind ea (Ev.pos d4 (Ev.bind eb (Ev.pos d5 (Ev.bind ec (Ev.neg d6 Ev.ret)))))))))))),
                Ev.eq (fun k => impl_IsOrchestra_eq k o) (Ev.bind (implScore_ev _ h.score) (Ev.pos (by simpa using d1) (Ev.bind em2 (Ev.pos d2 (Ev.bind (implTempoB_ev _ h.tempo) (Ev.pos (by simpa using d3) (Ev.bind ea' (Ev.pos d4 (Ev.bind eb' (Ev.pos d5 (Ev.bind ec' (Ev.neg d6 Ev.ret))))))))))))⟩
          · exact ⟨false, Ev.eq (fun k => spec_IsOrchestra_eq k o) (Ev.bind (specScore_ev _ h.score) (Ev.pos (by simpa using d1) (Ev.bind em1 (Ev.pos d2 (Ev.bind (specTempoB_ev _ h.tempo) (Ev.pos (by simpa using d3) (Ev.bind ea (Ev.pos d4 (Ev.bind eb (Ev.neg d5 Ev.ret)))))))))),
              Ev.eq (fun k => impl_IsOrchestra_eq k o) (Ev.bind (implScore_ev _ h.score) (Ev.pos (by simpa using d1) (Ev.bind em2 (Ev.pos d2 (Ev.bind (implTempoB_ev _ h.tempo) (Ev.pos (by simpa using d3) (Ev.bind ea' (Ev.pos d4 (Ev.bind eb' (Ev.neg d5 Ev.ret))))))))))⟩
        · exact ⟨false, Ev.eq (fun k => spec_IsOrchestra_eq k o) (Ev.bind (specScore_ev _ h.score) (Ev.pos (by simpa using d1) (Ev.bind em1 (Ev.pos d2 (Ev.bind (specTempoB_ev _ h.tempo) (Ev.pos (by simpa using d3) (Ev.bind ea (Ev.neg d4 Ev.ret)))))))),
            Ev.eq (fun k => impl_IsOrchestra_eq k o) (Ev.bind (implScore_ev _ h.score) (Ev.pos (by simpa using d1) (Ev.bind em2 (Ev.pos d2 (Ev.bind (implTempoB_ev _ h.tempo) (Ev.pos (by simpa using d3) (Ev.bind ea' (Ev.neg d4 Ev.ret))))))))⟩
      · exact ⟨false, Ev.eq (fun k => spec_IsOrchestra_eq k o) (Ev.bind (specScore_ev _ h.score) (Ev.pos (by simpa using d1) (Ev.bind em1 (Ev.pos d2 (Ev.bind (specTempoB_ev _ h.tempo) (Ev.neg (by simpa using d3) Ev.ret)))))),
          Ev.eq (fun k => impl_IsOrchestra_eq k o) (Ev.bind (implScore_ev _ h.score) (Ev.pos (by simpa using d1) (Ev.bind em2 (Ev.pos d2 (Ev.bind (implTempoB_ev _ h.tempo) (Ev.neg (by simpa using d3) Ev.ret))))))⟩
    · exact ⟨false, Ev.eq (fun k => spec_IsOrchestra_eq k o) (Ev.bind (specScore_ev _ h.score) (Ev.pos (by simpa using d1) (Ev.bind em1 (Ev.neg d2 Ev.ret)))),
        Ev.eq (fun k => impl_IsOrchestra_eq k o) (Ev.bind (implScore_ev _ h.score) (Ev.pos (by simpa using d1) (Ev.bind em2 (Ev.neg d2 Ev.ret))))⟩
  · exact ⟨false, Ev.eq (fun k => spec_IsOrchestra_eq k o) (Ev.bind (specScore_ev _ h.score) (Ev.neg (by simpa using d1) Ev.ret)),
      Ev.eq (fun k => impl_IsOrchestra_eq k o) (Ev.bind (implScore_ev _ h.score) (Ev.neg (by simpa using d1) Ev.ret))⟩
def chordP (x : DT25) : Prop := (0 ≤ (x.1 : Int) ∧ (x.1 : Int) ≤ 11) ∧ (1 ≤ (x.2.1 : Int) ∧ (x.2.1 : Int) ≤ 5)
instance (x : DT25) : Decidable (chordP x) := by unfold chordP; infer_instance
theorem chordP_yes {x : DT25} (c : 0 ≤ (x.1 : Int) ∧ (x.1 : Int) ≤ 11) : decide (decide (1 ≤ (x.2.1 : Int) ∧ (x.2.1 : Int) ≤ 5) = true) = decide (chordP x) := by
  rw [decide_eq_decide, decide_eq_true_iff]
  exact ⟨fun h => ⟨c, h⟩, fun h => h.2⟩
theorem chordP_no {x : DT25} (c : ¬ (0 ≤ (x.1 : Int) ∧ (x.1 : Int) ≤ 11)) : false = decide (chordP x) := by
  symm
  rw [decide_eq_false_iff_not]
  exact fun h => c h.1
theorem specIsChord_ev (x : DT25) : Ev (fun k => spec_IsChord k x) (decide (chordP x)) := by
  by_cases c : 0 ≤ (x.1 : Int) ∧ (x.1 : Int) ≤ 11
  · exact Ev.eq (fun k => spec_IsChord_eq k x) (Ev.bind (l1In_ev _ _ _) (Ev.pos (by simpa using c) (Ev.bind (l1In_ev _ _ _) (Ev.ret.val (chordP_yes c)))))
  · exact Ev.eq (fun k => spec_IsChord_eq k x) (Ev.bind (l1In_ev _ _ _) (Ev.neg (by simpa using c) (Ev.ret.val (chordP_no c))))
theorem implIsChord_ev (x : DT25) : Ev (fun k => impl_IsChord k x) (decide (chordP x)) := by
  by_cases c : 0 ≤ (x.1 : Int) ∧ (x.1 : Int) ≤ 11
  · exact Ev.eq (fun k => impl_IsChord_eq k x) (Ev.bind (inRange_ev _ _ _) (Ev.pos (by simpa using c) (Ev.bind (inRange_ev _ _ _) (Ev.ret.val (chordP_yes c)))))
  · exact Ev.eq (fun k => impl_IsChord_eq k x) (Ev.bind (inRange_ev _ _ _) (Ev.neg (by simpa using c) (Ev.ret.val (chordP_no c))))
def num8 : List Int → Int → List Int
  | [], n => [n]
  | a :: t, n => if a < n then a :: num8 t n else if a = n then a :: t else n :: a :: t
theorem num8_mem (l : List Int) (n x : Int) : x ∈ num8 l n ↔ x = n ∨ x ∈ l := by
  induction l with
  | nil => simp [num8]
  | cons a t ih =>
    unfold num8
    split
    · rw [List.mem_cons, ih, List.mem_cons]
      constructor
      · rintro (h | h | h)
        · exact .inr (.inl h)
        · exact .inl h
        · exact .inr (.inr h)
      · rintro (h | h | h)
        · exact .inr (.inl h)
        · exact .inl h
        · exact .inr (.inr h)
    · split
      · rename_i _ e
        subst e
        rw [List.mem_cons]
        constructor
        · intro h
          exact .inr h
        · rintro (h | h)
          · exact .inl h
          · exact h
      · rw [List.mem_cons]
theorem num8_lt (l : List Int) (n : Int) (h : l.Pairwise (· < ·)) : (num8 l n).Pairwise (· < ·) := by
  induction l with
  | nil => simp [num8]
  | cons a t ih =>
    obtain ⟨h1, h2⟩ := List.pairwise_cons.1 h
    unfold num8
    split
    · rename_i c
      refine List.pairwise_cons.2 ⟨fun x hx => ?_, ih h2⟩
      rcases (num8_mem t n x).1 hx with rfl | hx
      · exact c
      · exact h1 x hx
    · split
      · exact h
      · rename_i c c'
        refine List.pairwise_cons.2 ⟨fun x hx => ?_, h⟩
        rcases List.mem_cons.1 hx with rfl | hx
        · omega
        · have := h1 x hx
          omega
theorem num8_length (l : List Int) (n : Int) : (num8 l n).length ≤ l.length + 1 := by
  induction l with
  | nil => simp [num8]
  | cons a t ih =>
    unfold num8
    split
    · simp only [List.length_cons]; omega
    · split <;> simp
def dd1 (acc : List Int) (y : Int) : List Int := if acc.getLast? = some y then acc else acc ++ [y]
def dd (l : List Int) : List Int := l.foldl dd1 []
theorem dd_snoc (l : List Int) (y : Int) : dd (l ++ [y]) = dd1 (dd l) y := by simp [dd, List.foldl_append]
theorem dd1_last (acc : List Int) (y : Int) : (dd1 acc y).getLast? = some y := by
  unfold dd1
  split
  · assumption
  · simp
theorem dd_last (l : List Int) : (dd l).getLast? = l.getLast? := by
  rcases List.eq_nil_or_concat l with rfl | ⟨k, y, rfl⟩
  · rfl
  · rw [List.concat_eq_append, dd_snoc, dd1_last]; simp
theorem last_of_max {a : Int} : ∀ {acc : List Int}, acc.Pairwise (· < ·) → a ∈ acc → (∀ b ∈ acc, b ≤ a) → acc.getLast? = some a
  | [], _, h, _ => by simp at h
  | [x], _, h, _ => by simp at h; simp [h]
  | x :: y :: t, hp, h, hb => by
    obtain ⟨h1, h2⟩ := List.pairwise_cons.1 hp
    have : a ∈ y :: t := by
      rcases List.mem_cons.1 h with rfl | h
      · have := h1 y (by simp)
        have := hb y (by simp)
        omega
      · exact h
    rw [List.getLast?_cons_cons]
    exact last_of_max h2 this (fun b hb' => hb b (List.mem_cons_of_mem _ hb'))
theorem dd_fold (xs : List Int) : ∀ acc : List Int, acc.Pairwise (· < ·) → xs.Pairwise (· ≤ ·) → (∀ a ∈ acc, ∀ x ∈ xs, a ≤ x) → (xs.foldl dd1 acc).Pairwise (· < ·) ∧ ∀ z, z ∈ xs.foldl dd1 acc ↔ z ∈ acc ∨ z ∈ xs := by
  induction xs with
  | nil => intro acc h _ _; exact ⟨h, fun z => by simp⟩
  | cons y xs ih =>
    intro acc ha hx hb
    obtain ⟨h1, h2⟩ := List.pairwise_cons.1 hx
    simp only [List.foldl_cons]
    have hacc : (dd1 acc y).Pairwise (· < ·) ∧ (∀ z, z ∈ dd1 acc y ↔ z ∈ acc ∨ z = y) := by
      unfold dd1
      split
      · rename_i hl
        have hy : y ∈ acc := List.mem_of_getLast? hl
        exact ⟨ha, fun z => ⟨.inl, fun h => h.elim id (fun e => e ▸ hy)⟩⟩
      · rename_i hl
        have hlt : ∀ a ∈ acc, a < y := by
          intro a haa
          have hle := hb a haa y (by simp)
          by_cases h : a = y
          · subst h
            exact absurd (last_of_max ha haa (fun b hbb => hb b hbb a (by simp))) hl
          · omega
        refine ⟨List.pairwise_append.2 ⟨ha, by simp, fun a haa b hbb => by simp at hbb; subst hbb; exact hlt a haa⟩, fun z => by simp⟩
    obtain ⟨k1, k2⟩ := ih (dd1 acc y) hacc.1 h2 (fun a haa x hxx => by
      rcases (hacc.2 a).1 haa with h | h
      · exact hb a h x (by simp [hxx])
      · subst h; exact h1 x hxx)
    exact ⟨k1, fun z => by rw [k2, hacc.2, List.mem_cons, or_assoc]⟩
theorem asc_ext : ∀ {l k : List Int}, l.Pairwise (· < ·) → k.Pairwise (· < ·) → (∀ z, z ∈ l ↔ z ∈ k) → l = k
  | [], [], _, _, _ => rfl
  | [], y :: k, _, _, h => by have := (h y).2 (by simp); simp at this
  | x :: l, [], _, _, h => by have := (h x).1 (by simp); simp at this
  | x :: l, y :: k, hl, hk, h => by
    obtain ⟨l1, l2⟩ := List.pairwise_cons.1 hl
    obtain ⟨k1, k2⟩ := List.pairwise_cons.1 hk
    have hxy : x = y := by
      have h1 := (h x).1 (by simp)
      have h2 := (h y).2 (by simp)
      rcases List.mem_cons.1 h1 with e | e
      · exact e
      · rcases List.mem_cons.1 h2 with e' | e'
        · exact e'.symm
        · have := k1 x e
          have := l1 y e'
          omega
    subst hxy
    rw [asc_ext l2 k2 fun z => ?_]
    constructor
    · intro hz
      rcases List.mem_cons.1 ((h z).1 (List.mem_cons_of_mem _ hz)) with e | e
      · subst e; exact absurd (l1 z hz) (Int.lt_irrefl _)
      · exact e
    · intro hz
      rcases List.mem_cons.1 ((h z).2 (List.mem_cons_of_mem _ hz)) with e | e
      · subst e; exact absurd (k1 z hz) (Int.lt_irrefl _)
      · exact e
theorem num8_fold (xs : List Int) : ∀ acc : List Int, acc.Pairwise (· < ·) → (xs.foldl num8 acc).Pairwise (· < ·) ∧ ∀ z, z ∈ xs.foldl num8 acc ↔ z ∈ acc ∨ z ∈ xs := by
  induction xs with
  | nil => intro acc h; exact ⟨h, fun z => by simp⟩
  | cons y xs ih =>
    intro acc ha
    obtain ⟨k1, k2⟩ := ih (num8 acc y) (num8_lt acc y ha)
    refine ⟨k1, fun z => ?_⟩
    simp only [List.foldl_cons]
    rw [k2, num8_mem, List.mem_cons]
    constructor
    · rintro ((h | h) | h)
      · exact .inr (.inl h)
      · exact .inl h
      · exact .inr (.inr h)
    · rintro (h | h | h)
      · exact .inl (.inr h)
      · exact .inl (.inl h)
      · exact .inr h
theorem sortI_asc (xs : List Int) : (sortI xs).Pairwise (· ≤ ·) := by
  have h := List.pairwise_mergeSort (le := fun x y : Int => decide (x ≤ y)) (fun a b c h1 h2 => by simp at h1 h2 ⊢; omega) (fun a b => by simp; omega) xs
  exact h.imp fun h => by simpa using h
theorem sortI_mem (xs : List Int) (z : Int) : z ∈ sortI xs ↔ z ∈ xs := by unfold sortI; exact List.mem_mergeSort
theorem sort_dd (xs : List Int) : dd (sortI xs) = xs.foldl num8 [] := by
  obtain ⟨k1, k2⟩ := dd_fold (sortI xs) [] .nil (sortI_asc xs) (fun a h => by simp at h)
  obtain ⟨k3, k4⟩ := num8_fold xs [] .nil
  exact asc_ext k1 k3 fun z => by
    show z ∈ (sortI xs).foldl dd1 [] ↔ _
    rw [k2, k4, sortI_mem]
theorem num8_ev (x : List Int) (n : Int) (hx : x.length ≤ 1048576) : Ev (fun k => spec_l8Num k x n) (num8 x n) := by
  have key : ∀ d (i : Nat), i + d = x.length → E2 (fun k m => spec_l8Num.l0 k m x n (i : Int)) (x.take i ++ num8 (x.drop i) n) := by
    intro d
    induction d with
    | zero =>
      intro i hi
      have ht : (x.take i).length ≤ 1048576 := by rw [List.length_take]; omega
      refine E2.eq (fun k m => spec_l8Num.l0_eq k m x n _) (E2.neg (by omega) (E2.neg (by omega) ?_))
      repeat (refine E2.pos (by first | omega | (simp only [List.length_nil, List.length_take, List.length_drop, List.length_append, List.length_cons, Int.toNat_natCast]; omega)) ?_)
      refine E2.ret.val ?_
      rw [List.drop_eq_nil_of_le (show x.length ≤ i by omega)]
      simp [num8]
      omega
    | succ d ih =>
      intro i hi
      have hi' : i < x.length := by omega
      have ht : (x.take i).length ≤ 1048576 := by rw [List.length_take]; omega
      have hd : x.drop i = rd (.int .i64) x (i : Int) :: x.drop (i + 1) := by rw [List.drop_eq_getElem_cons hi', rd_at hi']
      refine E2.eq (fun k m => spec_l8Num.l0_eq k m x n _) (E2.pos (by omega) (E2.pos (by omega) (E2.pos (by omega) ?_)))
      rw [hd]
      unfold num8
      by_cases e : LT.lt (α := Int) (rd (.int .i64) x (i : Int)) n
      · refine E2.pos e ?_
        rw [if_pos e]
        simp only [wrapS (show i < 9223372036854775807 by omega)]
        refine (ih (i + 1) (by omega)).val ?_
        rw [List.take_succ_eq_append_getElem hi', List.append_assoc, rd_at hi']
        rfl
      · refine E2.neg e (E2.pos (by omega) (E2.pos (by omega) (E2.pos (by omega) ?_)))
        rw [if_neg e]
        by_cases e2 : Eq (α := Int) (rd (.int .i64) x (i : Int)) n
        · refine E2.pos e2 (E2.pos (by simp only [List.length_nil]; omega) (E2.ret.val ?_))
          rw [if_pos e2, ← hd]
          simp
        · refine E2.neg e2 ?_
          rw [if_neg e2]
          repeat (refine E2.pos (by first | omega | (simp only [List.length_nil, List.length_take, List.length_drop, List.length_append, List.length_cons, Int.toNat_natCast]; omega)) ?_)
          refine E2.ret.val ?_
          rw [← hd]
          simp
          exact List.take_of_length_le (by simp)
  have := key x.length 0 (by omega)
  exact Ev.eq (fun k => spec_l8Num_eq k x n) (Ev.loop (f := fun k m => spec_l8Num.l0 k m x n 0) (by simpa using this))
theorem dd_le (l : List Int) : (dd l).length ≤ l.length := by
  have key : ∀ (xs acc : List Int), (xs.foldl dd1 acc).length ≤ acc.length + xs.length := by
    intro xs
    induction xs with
    | nil => intro acc; simp
    | cons y xs ih =>
      intro acc
      refine Nat.le_trans (ih _) ?_
      have : (dd1 acc y).length ≤ acc.length + 1 := by unfold dd1; split <;> simp
      simp only [List.length_cons]
      omega
  have h := key l []
  rw [List.length_nil, Nat.zero_add] at h
  exact h
theorem compact_ev (s : List Int) (hs : s.length ≤ 1048576) : Ev (fun k => slices_Compact___int_int k s) (dd s) := by
  have inner : ∀ d (o a b : Nat) (s0 : List Int), o + b + d = s.length → 1 ≤ b → 1 ≤ a → a < o + b → s0.length = s.length → s0.drop (o + b - 1) = s.drop (o + b - 1) → s0.take a = dd (s.take (o + b)) →
      E3 (fun k m n => slices_Compact___int_int.l1 k m n (a : Int) o (s.length - o) (b : Int) s0) (dd s) := by
    intro d
    induction d with
    | zero =>
      intro o a b s0 hd hb ha hab hl hdr htk
      refine E3.eq (fun k m n => slices_Compact___int_int.l1_eq k m n _ _ _ _ _) (E3.neg (by omega) ?_)
      have hlen : (List.take (Int.toNat (a : Int)) s0 ++ List.replicate ((Int.toNat ((List.length s0 : Nat) : Int)) - (Int.toNat (a : Int))) (Ty.dflt (.int .i64)) ++ List.drop ((Int.toNat (a : Int)) + ((Int.toNat ((List.length s0 : Nat) : Int)) - (Int.toNat (a : Int)))) s0).length = s0.length := by
        simp only [List.length_append, List.length_take, List.length_replicate, List.length_drop, Int.toNat_natCast]; omega
      refine E3.pos (by omega) (E3.pos (by omega) (E3.pos (by omega) (E3.pos (by rw [hlen]; omega) (E3.ret.val ?_))))
      rw [List.take_of_length_le (show s.length ≤ o + b by omega)] at htk
      rw [← htk]
      simp only [Int.toNat_natCast, show Int.toNat 0 = 0 from rfl, Nat.sub_zero, List.drop_zero]
      rw [List.append_assoc, List.take_append_of_le_length (by simp; omega), List.take_take, Nat.min_self]
    | succ d ih =>
      intro o a b s0 hd hb ha hab hl hdr htk
      have hlt : o + b < s.length := by omega
      have hlt1 : o + b - 1 < s.length := by omega
      have at0 : s0[o + b - 1]? = s[o + b - 1]? := by
        have := congrArg (·[0]?) hdr
        simpa using this
      have at1 : s0[o + b]? = s[o + b]? := by
        have := congrArg (·[1]?) hdr
        simp only [List.getElem?_drop] at this
        rwa [show o + b - 1 + 1 = o + b by omega] at this
      have rd0 : rd (.int .i64) s0 ((o + Int.toNat (IntKind.wrap .i64 ((b : Int) - 1)) : Nat) : Int) = s[o + b - 1] := by
        rw [wrapP (by omega) (by omega), Int.toNat_natCast, show o + (b - 1) = o + b - 1 by omega, rd_at (by omega : o + b - 1 < s0.length)]
        rw [List.getElem?_eq_getElem (by omega : o + b - 1 < s0.length), List.getElem?_eq_getElem hlt1] at at0
        exact Option.some.inj at0
      have rd1 : rd (.int .i64) s0 ((o + Int.toNat (b : Int) : Nat) : Int) = s[o + b] := by
        rw [Int.toNat_natCast, rd_at (by omega : o + b < s0.length)]
        rw [List.getElem?_eq_getElem (by omega : o + b < s0.length), List.getElem?_eq_getElem hlt] at at1
        exact Option.some.inj at1
      have hw : IntKind.wrap .i64 ((b : Int) - 1) = ((b - 1 : Nat) : Int) := wrapP (by omega) (by omega)
      have hlast : (dd (s.take (o + b))).getLast? = some s[o + b - 1] := by
        rw [dd_last, List.getLast?_take]
        rw [if_neg (by omega), List.getElem?_eq_getElem hlt1]
        rfl
      have hnext : dd (s.take (o + (b + 1))) = dd1 (dd (s.take (o + b))) s[o + b] := by
        rw [← dd_snoc, show o + (b + 1) = o + b + 1 by omega, List.take_succ_eq_append_getElem hlt]
      refine E3.eq (fun k m n => slices_Compact___int_int.l1_eq k m n _ _ _ _ _) (E3.pos (by omega) (E3.pos (by omega) (E3.pos (by omega) (E3.pos (by rw [hw]; omega) (E3.pos (by rw [hw]; omega) ?_)))))
      rw [rd0, rd1]
      by_cases hne : s[o + b] = s[o + b - 1]
      · refine E3.neg (fun h => h hne) ?_
        simp only [wrapS (show b < 9223372036854775807 by omega)]
        refine ih o a (b + 1) s0 (by omega) (by omega) ha (by omega) hl ?_ ?_
        · have := congrArg (List.drop 1) hdr
          rw [List.drop_drop, List.drop_drop] at this
          rwa [show o + b - 1 + 1 = o + (b + 1) - 1 by omega] at this
        · rw [htk, hnext]
          unfold dd1
          rw [if_pos (by rw [hlast, hne])]
      · refine E3.pos hne (E3.pos (by omega) (E3.pos (by omega) (E3.pos (by omega) (E3.pos (by omega) ?_))))
        simp only [wrapS (show b < 9223372036854775807 by omega), wrapS (show a < 9223372036854775807 by omega), Int.toNat_natCast]
        refine ih o (a + 1) (b + 1) _ (by omega) (by omega) (by omega) (by omega) (by simpa using hl) ?_ ?_
        · rw [List.drop_set_of_lt (by omega)]
          have := congrArg (List.drop 1) hdr
          rw [List.drop_drop, List.drop_drop] at this
          rwa [show o + b - 1 + 1 = o + (b + 1) - 1 by omega] at this
        · rw [hnext]
          unfold dd1
          rw [if_neg (by rw [hlast]; intro e; exact hne (Option.some.inj e).symm), ← htk]
          rw [List.take_succ_eq_append_getElem (by simp; omega), List.take_set_of_le (Nat.le_refl _)]
          simp
  have outer : ∀ d (a : Nat), a + d = s.length → 1 ≤ a → dd (s.take a) = s.take a → E2 (fun k m => slices_Compact___int_int.l0 k m (a : Int) s) (dd s) := by
    intro d
    induction d with
    | zero =>
      intro a hd ha htk
      refine E2.eq (fun k m => slices_Compact___int_int.l0_eq k m _ s) (E2.neg (by omega) (E2.ret.val ?_))
      rw [List.take_of_length_le (show s.length ≤ a by omega)] at htk
      exact htk.symm
    | succ d ih =>
      intro a hd ha htk
      have hlt : a < s.length := by omega
      have hw : IntKind.wrap .i64 ((a : Int) - 1) = ((a - 1 : Nat) : Int) := wrapP (by omega) (by omega)
      have hlast : (dd (s.take a)).getLast? = some s[a - 1] := by
        rw [dd_last, List.getLast?_take, if_neg (by omega), List.getElem?_eq_getElem (by omega : a - 1 < s.length)]
        rfl
      refine E2.eq (fun k m => slices_Compact___int_int.l0_eq k m _ s) (E2.pos (by omega) (E2.pos (by omega) (E2.pos (by omega) (E2.pos (by rw [hw]; omega) (E2.pos (by rw [hw]; omega) ?_)))))
      have r0 : rd (.int .i64) s (IntKind.wrap .i64 ((a : Int) - 1)) = s[a - 1] := by rw [hw, rd_at (by omega : a - 1 < s.length)]
      have r1 : rd (.int .i64) s (a : Int) = s[a] := rd_at hlt
      rw [r0, r1]
      by_cases he : s[a] = s[a - 1]
      · refine E2.pos he (E2.pos (by omega) (E2.pos (by omega) ?_))
        have := inner d a a 1 s (by omega) (by omega) ha (by omega) rfl rfl (by
          rw [List.take_succ_eq_append_getElem hlt, dd_snoc]
          unfold dd1
          rw [if_pos (by rw [hlast, he]), htk])
        simp only [Int.toNat_natCast]
        exact E3.loop (f := fun k m n => slices_Compact___int_int.l1 k m n (a : Int) a (s.length - a) 1 s) this
      · refine E2.neg he ?_
        simp only [wrapS (show a < 9223372036854775807 by omega)]
        refine ih (a + 1) (by omega) (by omega) ?_
        rw [List.take_succ_eq_append_getElem hlt, dd_snoc]
        unfold dd1
        rw [if_neg (by rw [hlast]; intro e; exact he (Option.some.inj e).symm), htk]
  refine Ev.eq (fun k => slices_Compact___int_int_eq k s) ?_
  by_cases h2 : ((s.length : Nat) : Int) < 2
  · refine Ev.pos h2 (Ev.ret.val ?_)
    rcases s with _ | ⟨a, _ | ⟨b, t⟩⟩
    · rfl
    · rfl
    · simp only [List.length_cons] at h2; omega
  · refine Ev.neg h2 (Ev.loop (f := fun k m => slices_Compact___int_int.l0 k m 1 s) (outer (s.length - 1) 1 (by omega) (by omega) ?_))
    rcases s with _ | ⟨a, t⟩
    · exact absurd (by simp) h2
    · rfl
theorem sort_ev (s : List Int) (hs : s.length ≤ 1048576) : Ev (fun k => slices_Sort___int_int k s) ((), sortI s) :=
  Ev.eq (fun k => slices_Sort___int_int_eq k s) ⟨0, fun _ _ => if_pos (show s.length < 4611686018427387904 by omega)⟩
def snd (tick : Int) (e : DT60) : Bool := decide ((e.1 : Int) ≤ tick ∧ tick < IntKind.wrap .i64 (e.1 + e.2.1))
def pitchOf (e : DT60) : Int := e.2.2.1
def heard (l : List DT60) (tick : Int) : List Int := (l.filter (snd tick)).map pitchOf
def sounds (l : List DT60) (tick : Int) : List Int := if scoreP l then (heard l tick).foldl num8 [] else []
theorem heard_le (l : List DT60) (tick : Int) : (heard l tick).length ≤ l.length := by unfold heard; rw [List.length_map]; exact List.length_filter_le _ _
theorem heard_cons (l : List DT60) (tick : Int) (i : Nat) (hi : i < l.length) : heard (l.drop i) tick = (if snd tick (rd T60 l (i : Int)) = true then [pitchOf (rd T60 l (i : Int))] else []) ++ heard (l.drop (i + 1)) tick := by
  unfold heard
  rw [List.drop_eq_getElem_cons hi, ← rd_at (t := T60) hi, List.filter_cons]
  split <;> simp
theorem soundsE_ev (e : DT60) (tick : Int) : Ev (fun k => impl_Event__sounds k e tick) (snd tick e) := by
  unfold snd
  by_cases c : (e.1 : Int) ≤ tick
  · exact Ev.eq (fun k => impl_Event__sounds_eq k e tick) (Ev.pos c (Ev.ret.val (by simp [c])))
  · exact Ev.eq (fun k => impl_Event__sounds_eq k e tick) (Ev.neg c (Ev.ret.val (by simp [c])))
theorem implSounds_ev (l : List DT60) (tick : Int) (hl : l.length ≤ 1048576) : Ev (fun k => impl_SoundsAt k l tick) (sounds l tick) := by
  unfold sounds
  by_cases hp : scoreP l
  · rw [if_pos hp]
    have key : ∀ d (i : Nat) (s : List Int), i + d = l.length → s.length ≤ i → E2 (fun k m => impl_SoundsAt.l0 k m tick l ((List.length l : Nat) : Int) (i : Int) s) (dd (sortI (s ++ heard (l.drop i) tick))) := by
      intro d
      induction d with
      | zero =>
        intro i s hi hs
        refine E2.eq (fun k m => impl_SoundsAt.l0_eq k m tick l _ _ s) (E2.neg (by omega) (E2.bind (sort_ev s (by omega)) (E2.bind (compact_ev _ (by unfold sortI; rw [List.length_mergeSort]; omega)) (E2.ret.val ?_))))
        rw [List.drop_eq_nil_of_le (show l.length ≤ i by omega)]
        simp [heard]
      | succ d ih =>
        intro i s hi hs
        have hi' : i < l.length := by omega
        rw [heard_cons l tick i hi']
        refine E2.eq (fun k m => impl_SoundsAt.l0_eq k m tick l _ _ s) (E2.pos (by omega) (E2.pos (by omega) (E2.pos (by omega) (E2.bind (soundsE_ev _ _) ?_))))
        by_cases c : snd tick (rd T60 l (i : Int)) = true
        · refine E2.pos c (E2.pos (by simp only [List.length_cons, List.length_nil]; omega) ?_)
          rw [if_pos c, ← List.append_assoc]
          simp only [wrapS (show i < 9223372036854775807 by omega)]
          exact ih (i + 1) _ (by omega) (by simp; omega)
        · refine E2.neg c ?_
          rw [if_neg c, List.nil_append]
          simp only [wrapS (show i < 9223372036854775807 by omega)]
          exact ih (i + 1) _ (by omega) (by omega)
    refine Ev.eq (fun k => impl_SoundsAt_eq k l tick) (Ev.bind (implScore_ev l hl) (Ev.neg (by simpa using hp) (Ev.loop (f := fun k m => impl_SoundsAt.l0 k m tick l ((List.length l : Nat) : Int) 0 []) ((key l.length 0 [] (by omega) (by simp)).val ?_))))
    rw [List.nil_append, sort_dd]
    rfl
  · rw [if_neg hp]
    exact Ev.eq (fun k => impl_SoundsAt_eq k l tick) (Ev.bind (implScore_ev l hl) (Ev.pos (by simpa using hp) Ev.ret))
theorem eqIntsI_ev (a b : List Int) (ha : a.length ≤ 1048576) : Ev (fun k => slices_Equal___int_int k a b) (decide (a = b)) := by
  refine dec_of ?_
  by_cases hl : a.length = b.length
  · obtain ⟨r, er, hr⟩ := loop_all (F := fun i k m => slices_Equal___int_int.l0 k m a b ((List.length a : Nat) : Int) i) (n := a.length) (fun i => rd (.int .i64) a (i : Int) = rd (.int .i64) b (i : Int)) (E2.eq (fun k m => slices_Equal___int_int.l0_eq k m a b _ _) (E2.neg (by omega) E2.ret)) (fun i hi hq v e => by
      refine E2.eq (fun k m => slices_Equal___int_int.l0_eq k m a b _ _) (E2.pos (by omega) (E2.pos (by omega) (E2.pos (by omega) (E2.pos (by omega) (E2.pos (by omega) (E2.neg (fun h => h hq) ?_))))))
      simp only [wrapS (show i < 9223372036854775807 by omega)]; exact e) (fun i hi hq => E2.eq (fun k m => slices_Equal___int_int.l0_eq k m a b _ _) (E2.pos (by omega) (E2.pos (by omega) (E2.pos (by omega) (E2.pos (by omega) (E2.pos (by omega) (E2.pos hq E2.ret)))))))
    exact ⟨r, Ev.eq (fun k => slices_Equal___int_int_eq k a b) (Ev.neg (by omega) (Ev.loop (f := fun k m => slices_Equal___int_int.l0 k m a b ((List.length a : Nat) : Int) 0) er)), hr.trans (list_eq_iff (t := .int .i64) hl)⟩
  · exact ⟨false, Ev.eq (fun k => slices_Equal___int_int_eq k a b) (Ev.pos (by omega) Ev.ret), by simp; rintro rfl; exact hl rfl⟩
def cls (l : List Int) : List Int := (l.map fun x => modR x 12).foldl num8 []
theorem implClasses_ev (l : List Int) (hl : l.length ≤ 1048576) : Ev (fun k => impl_ClassesOf k l) (cls l) := by
  have key : ∀ d (i : Nat) (s : List Int), i + d = l.length → s.length ≤ i → E2 (fun k m => impl_ClassesOf.l0 k m l ((List.length l : Nat) : Int) (i : Int) s) (dd (sortI (s ++ (l.drop i).map fun x => modR x 12))) := by
    intro d
    induction d with
    | zero =>
      intro i s hi hs
      refine E2.eq (fun k m => impl_ClassesOf.l0_eq k m l _ _ s) (E2.neg (by omega) (E2.bind (sort_ev s (by omega)) (E2.bind (compact_ev _ (by unfold sortI; rw [List.length_mergeSort]; omega)) (E2.ret.val ?_))))
      rw [List.drop_eq_nil_of_le (show l.length ≤ i by omega)]
      simp
    | succ d ih =>
      intro i s hi hs
      have hi' : i < l.length := by omega
      rw [List.drop_eq_getElem_cons hi', ← rd_at (t := .int .i64) hi', List.map_cons]
      refine E2.eq (fun k m => impl_ClassesOf.l0_eq k m l _ _ s) (E2.pos (by omega) (E2.pos (by omega) (E2.pos (by omega) (E2.bind (implMod_ev _ _) (E2.pos (by simp only [List.length_cons, List.length_nil]; omega) ?_)))))
      simp only [wrapS (show i < 9223372036854775807 by omega)]
      refine (ih (i + 1) _ (by omega) (by simp; omega)).val ?_
      simp
  refine Ev.eq (fun k => impl_ClassesOf_eq k l) (Ev.loop (f := fun k m => impl_ClassesOf.l0 k m l ((List.length l : Nat) : Int) 0 []) ((key l.length 0 [] (by omega) (by simp)).val ?_))
  rw [List.nil_append, sort_dd]
  rfl
def halvesL : List (List Int) := [[0, 4, 7], [0, 3, 7], [0, 3, 6], [0, 4, 8], [0, 4, 7, 10]]
def hsOf (kd : Int) : List Int := rd (.list (.int .i64)) halvesL (kd - 1)
theorem hs_bd {kd : Int} (h : 1 ≤ kd ∧ kd ≤ 5) : (hsOf kd).length ≤ 4 ∧ ∀ x ∈ hsOf kd, 0 ≤ x ∧ x ≤ 10 := by
  have hk : kd = 1 ∨ kd = 2 ∨ kd = 3 ∨ kd = 4 ∨ kd = 5 := by omega
  rcases hk with rfl | rfl | rfl | rfl | rfl <;> exact ⟨by decide, by decide⟩
theorem modR_pos {n : Int} (h0 : 0 ≤ n) (h1 : n ≤ 1000) : modR n 12 = Int.tmod n 12 := by
  unfold modR
  rw [if_pos (by omega), Int.tmod_eq_emod_of_nonneg h0, wrapI (by omega) (by omega), Int.tmod_eq_emod_of_nonneg (by omega)]
  omega
def tones (r kd : Int) : List Int := cls ((hsOf kd).map fun n => r + n)
theorem num8s_le (l : List Int) : ∀ s : List Int, (l.foldl num8 s).length ≤ s.length + l.length := by
  induction l with
  | nil => intro s; simp
  | cons a l ih =>
    intro s
    have := ih (num8 s a)
    have := num8_length s a
    simp only [List.foldl_cons, List.length_cons]
    omega
theorem cls_le (l : List Int) : (cls l).length ≤ l.length := by
  have := num8s_le (l.map fun x => modR x 12) []
  simpa [cls] using this
theorem specTones_ev (r kd : Int) (hr : 0 ≤ r ∧ r ≤ 11) (hk : 1 ≤ kd ∧ kd ≤ 5) : Ev (fun k => spec_TonesOf k (r, (kd, ()))) (tones r kd) := by
  obtain ⟨hlen, hbd⟩ := hs_bd hk
  have hw : IntKind.wrap .i64 (kd - 1) = kd - 1 := wrapI (by omega) (by omega)
  have e1 : Ev (fun k => spec_l22Halves k kd) (hsOf kd) := by
    refine Ev.eq (fun k => spec_l22Halves_eq k kd) ?_
    rw [hw]
    exact Ev.pos (by omega) (Ev.pos (by simp only [List.length_cons, List.length_nil]; omega) Ev.ret)
  have key : ∀ d (i : Nat) (s : List Int), i + d = (hsOf kd).length → s.length ≤ i → E2 (fun k m => spec_TonesOf.l0 k m (hsOf kd) (i : Int) r kd s) (((((hsOf kd).drop i).map fun n => r + n).map fun x => modR x 12).foldl num8 s) := by
    intro d
    induction d with
    | zero =>
      intro i s hi hs
      refine E2.eq (fun k m => spec_TonesOf.l0_eq k m _ _ _ _ s) (E2.neg (by omega) (E2.ret.val ?_))
      rw [List.drop_eq_nil_of_le (show (hsOf kd).length ≤ i by omega)]
      rfl
    | succ d ih =>
      intro i s hi hs
      have hi' : i < (hsOf kd).length := by omega
      have hb := hbd _ (List.getElem_mem hi')
      rw [List.drop_eq_getElem_cons hi', List.map_cons, List.map_cons, List.foldl_cons]
      refine E2.eq (fun k m => spec_TonesOf.l0_eq k m _ _ _ _ s) (E2.pos (by omega) (E2.pos (by omega) (E2.pos (by omega) (E2.neg (by omega) (E2.bind (num8_ev _ _ (by omega)) ?_)))))
      rw [rd_at (t := .int .i64) hi', show IntKind.wrap .i64 (r + (hsOf kd)[i]) = r + (hsOf kd)[i] from wrapI (by omega) (by omega), ← modR_pos (by omega) (by omega)]
      simp only [wrapS (show i < 9223372036854775807 by omega)]
      exact ih (i + 1) _ (by omega) (by have := num8_length s (modR (r + (hsOf kd)[i]) 12); omega)
  refine Ev.eq (fun k => spec_TonesOf_eq k _) (Ev.bind (specIsChord_ev _) (Ev.neg (by simp only [decide_eq_true_eq]; exact fun h => h ⟨hr, hk⟩) (Ev.bind e1 (Ev.loop (f := fun k m => spec_TonesOf.l0 k m (hsOf kd) 0 r kd []) (key (hsOf kd).length 0 [] (by omega) (by simp))))))
theorem implTones_ev (r kd : Int) (hr : 0 ≤ r ∧ r ≤ 11) (hk : 1 ≤ kd ∧ kd ≤ 5) : Ev (fun k => impl_TonesOf k (r, (kd, ()))) (tones r kd) := by
  obtain ⟨hlen, hbd⟩ := hs_bd hk
  have hw : IntKind.wrap .i64 (kd - 1) = kd - 1 := wrapI (by omega) (by omega)
  have key : ∀ d (i : Nat) (s : List Int), i + d = (hsOf kd).length → s.length ≤ i → E2 (fun k m => impl_TonesOf.l0 k m (hsOf kd) ((List.length (hsOf kd) : Nat) : Int) (i : Int) r kd s) (cls (s ++ ((hsOf kd).drop i).map fun n => r + n)) := by
    intro d
    induction d with
    | zero =>
      intro i s hi hs
      refine E2.eq (fun k m => impl_TonesOf.l0_eq k m _ _ _ _ _ s) (E2.neg (by omega) (E2.bind (implClasses_ev s (by omega)) (E2.ret.val ?_)))
      rw [List.drop_eq_nil_of_le (show (hsOf kd).length ≤ i by omega)]
      simp
    | succ d ih =>
      intro i s hi hs
      have hi' : i < (hsOf kd).length := by omega
      have hb := hbd _ (List.getElem_mem hi')
      rw [List.drop_eq_getElem_cons hi', List.map_cons]
      refine E2.eq (fun k m => impl_TonesOf.l0_eq k m _ _ _ _ _ s) (E2.pos (by omega) (E2.pos (by omega) (E2.pos (by omega) (E2.pos (by simp only [List.length_cons, List.length_nil]; omega) ?_))))
      rw [rd_at (t := .int .i64) hi', show IntKind.wrap .i64 (r + (hsOf kd)[i]) = r + (hsOf kd)[i] from wrapI (by omega) (by omega)]
      simp only [wrapS (show i < 9223372036854775807 by omega)]
      refine (ih (i + 1) _ (by omega) (by simp; omega)).val ?_
      simp
  refine Ev.eq (fun k => impl_TonesOf_eq k _) (Ev.bind (implIsChord_ev _) (Ev.neg (by simp only [decide_eq_true_eq]; exact fun h => h ⟨hr, hk⟩) ?_))
  simp only [hw]
  refine Ev.pos (by omega) (Ev.pos (by simp only [List.length_cons, List.length_nil]; omega) (Ev.loop (f := fun k m => impl_TonesOf.l0 k m (hsOf kd) ((List.length (hsOf kd) : Nat) : Int) 0 r kd []) ?_))
  have := key (hsOf kd).length 0 [] (by omega) (by simp)
  simpa [tones] using this
theorem tones_le (r kd : Int) (hk : 1 ≤ kd ∧ kd ≤ 5) : (tones r kd).length ≤ 4 := by
  have := cls_le ((hsOf kd).map fun n => r + n)
  have := (hs_bd hk).1
  simp only [List.length_map] at *
  unfold tones
  omega
theorem l29_ev (l : List DT93) (h : Bk (.list T93) l) : Ev (fun k => spec_l29Copy k l) l := by
  have hl : l.length ≤ 1048576 := h.1
  have key : ∀ d (i : Nat) (s : List DT93), i + d = l.length → s.length = i → s ++ l.drop i = l → E2 (fun k m => spec_l29Copy.l0 k m l (i : Int) s) l := by
    intro d
    induction d with
    | zero =>
      intro i s hi hs ht
      have hi : i = l.length := by omega
      subst hi
      have e : E2 (fun k m => spec_l29Copy.l0 k m l ((l.length : Nat) : Int) s) s := by
        refine E2.eq (fun k m => spec_l29Copy.l0_eq k m l _ s) ?_
        refine E2.neg (by omega) ?_
        exact E2.ret
      exact e.val (by rw [← ht]; simp)
    | succ d ih =>
      intro i s hi hs ht
      have hi' : i < l.length := by omega
      have hb := (bk_rd h hi').2.2.2.1.1
      refine E2.eq (fun k m => spec_l29Copy.l0_eq k m l _ s) ?_
      refine E2.pos (by omega) ?_
      refine E2.pos (by omega) ?_
      refine E2.pos (by omega) ?_
      refine E2.pos (by simp only [List.length_nil]; omega) ?_
      refine E2.pos (by simp only [List.length_cons, List.length_nil]; omega) ?_
      simp only [wrapS (show i < 9223372036854775807 by omega)]
      refine ih (i + 1) _ (by omega) (by simp; omega) ?_
      rw [List.append_assoc]
      refine Eq.trans ?_ ht
      congr 1
      exact (drop_rd (t := T93) hi').symm
  exact Ev.eq (fun k => spec_l29Copy_eq k l) (Ev.loop (f := fun k m => spec_l29Copy.l0 k m l 0 []) (key l.length 0 [] (by omega) rfl (by simp)))
theorem l33_ev (o : DT32) (h : Bk T32 o) : Ev (fun k => spec_l33Copy k o) o := by
  have h1 := h.1.1
  have h2 := h.2.2.1.1
  have h4 := h.2.2.2.2.1.1
  have h5 := h.2.2.2.2.2.1.1
  have h6 := h.2.2.2.2.2.2.1.1
  refine Ev.eq (fun k => spec_l33Copy_eq k o) ?_
  refine Ev.pos (by simp only [List.length_nil]; omega) ?_
  refine Ev.pos (by simp only [List.length_nil]; omega) ?_
  refine Ev.bind (l29_ev o.2.2.2.1 h.2.2.2.1) ?_
  refine Ev.pos (by simp only [List.length_nil]; omega) ?_
  refine Ev.pos (by simp only [List.length_nil]; omega) ?_
  refine Ev.pos (by simp only [List.length_nil]; omega) ?_
  exact Ev.ret
theorem Ev.uniq {α : Type} {f : Nat → Option α} {a b : α} (h : Ev f a) (k : Ev f b) : a = b := by
  obtain ⟨K, h⟩ := h
  obtain ⟨M, k⟩ := k
  have h1 := h (max K M) (by omega)
  rw [k (max K M) (by omega)] at h1
  exact (Option.some.inj h1).symm
theorem first_idx (Q : Nat → Prop) : ∀ n, ∃ p, p ≤ n ∧ (∀ j, j < p → Q j) ∧ (p < n → ¬ Q p)
  | 0 => ⟨0, Nat.le_refl _, fun j hj => by omega, fun h => by omega⟩
  | n + 1 => by
    obtain ⟨p, h1, h2, h3⟩ := first_idx Q n
    by_cases hp : p < n
    · exact ⟨p, by omega, h2, fun _ => h3 hp⟩
    · have : p = n := by omega
      subst this
      by_cases hq : Q p
      · exact ⟨p + 1, Nat.le_refl _, fun j hj => by
          by_cases h : j = p
          · subst h; exact hq
          · exact h2 j (by omega), fun h => by omega⟩
      · exact ⟨p, by omega, h2, fun _ => hq⟩
def eqK (a b : DT110) : Prop := (a.1 : Int) = b.1 ∧ (a.2.1 : Int) = b.2.1
instance (a b : DT110) : Decidable (eqK a b) := by unfold eqK; infer_instance
def nwM (a b : DT110) : Prop := (b.2.2.2.1 : Int) < a.2.2.2.1 ∨ (b.2.2.2.1 : Int) = a.2.2.2.1 ∧ ((b.2.2.2.2.1 : Int) < a.2.2.2.2.1 ∨ (b.2.2.2.2.1 : Int) = a.2.2.2.2.1 ∧ (b.2.2.1 : Int) < a.2.2.1)
instance (a b : DT110) : Decidable (nwM a b) := by unfold nwM; infer_instance
theorem newerS_ev (a b : DT110) : Ev (fun k => spec_IsNewer k a b) (decide (nwM a b)) := by
  refine Ev.eq (fun k => spec_IsNewer_eq k a b) ?_
  unfold nwM
  by_cases c1 : (a.2.2.2.1 : Int) = b.2.2.2.1
  · refine Ev.neg (by omega) ?_
    by_cases c2 : (a.2.2.2.2.1 : Int) = b.2.2.2.2.1
    · exact Ev.neg (by omega) (Ev.ret.val (by congr 1; exact propext ⟨fun h => .inr ⟨c1.symm, .inr ⟨c2.symm, h⟩⟩, fun h => by omega⟩))
    · exact Ev.pos (by omega) (Ev.ret.val (by congr 1; exact propext ⟨fun h => .inr ⟨c1.symm, .inl h⟩, fun h => by omega⟩))
  · exact Ev.pos (by omega) (Ev.ret.val (by congr 1; exact propext ⟨fun h => .inl h, fun h => by omega⟩))
def setV (l : List DT110) (x : DT110) (p : Nat) : List DT110 :=
  if p < l.length ∧ eqK (rd T110 l (p : Int)) x then (if nwM x (rd T110 l (p : Int)) then l.take p ++ [x] ++ l.drop (p + 1) else l) else l.take p ++ [x] ++ l.drop p
theorem setV_len (l : List DT110) (x : DT110) (p : Nat) (hp : p ≤ l.length) : (setV l x p).length ≤ l.length + 1 := by
  unfold setV
  split
  · split
    · simp; omega
    · omega
  · simp; omega
theorem rd_drop0 {l : List DT110} {i : Nat} (hi : i < l.length) : rd T110 (l.drop i) (0 : Int) = rd T110 l (i : Int) := by
  show (l.drop i).getD (Int.toNat 0) _ = l.getD (Int.toNat (i : Int)) _
  simp [List.getD]
theorem setS_ev (l : List DT110) (x : DT110) (hl : l.length ≤ 1048576) (p : Nat) (hp : p ≤ l.length) (h1 : ∀ j, j < p → befM (rd T110 l (j : Int)) x) (h2 : p < l.length → ¬ befM (rd T110 l (p : Int)) x) : Ev (fun k => spec_l25Set k l x) (setV l x p) := by
  have key : ∀ d i : Nat, i + d = p → E2 (fun k m => spec_l25Set.l0 k m l (i : Int) x.1 x.2.1 x.2.2.1 x.2.2.2.1 x.2.2.2.2.1) (setV l x p) := by
    intro d
    induction d with
    | zero =>
      intro i hi
      have hi : i = p := by omega
      subst hi
      have hrest : List.take ((Int.toNat ((List.length l : Nat) : Int)) - (Int.toNat (i : Int))) (List.drop (Int.toNat (i : Int)) l) = l.drop i := by
        simp only [Int.toNat_natCast]
        rw [List.take_of_length_le (by simp)]
      have htake : List.take ((Int.toNat (i : Int)) - (Int.toNat 0)) (List.drop (Int.toNat 0) l) = l.take i := by simp
      have hrest1 : List.take ((Int.toNat ((List.length (l.drop i) : Nat) : Int)) - (Int.toNat 1)) (List.drop (Int.toNat 1) (l.drop i)) = l.drop (i + 1) := by
        have : Int.toNat 1 = 1 := rfl
        rw [this, Int.toNat_natCast, List.drop_drop, List.take_of_length_le (by simp; omega)]
      have hdl : (l.drop i).length = l.length - i := by simp
      have htl : (l.take i).length = i := by simp; omega
      have hx : (x.1, (x.2.1, (x.2.2.1, (x.2.2.2.1, (x.2.2.2.2.1, ()))))) = x := rfl
      refine E2.eq (fun k m => spec_l25Set.l0_eq k m l _ _ _ _ _ _) ?_
      simp only [hrest, htake, hrest1, hx]
      by_cases c : i < l.length
      · refine E2.pos (by omega) (E2.pos (by omega) (E2.pos (by omega) (E2.bind (beforeM_ev _ _) (E2.neg (by simpa using h2 c) ?_))))
        refine E2.pos (by omega) (E2.pos (by omega) (E2.pos (by rw [hdl]; omega) (E2.pos (by omega) (E2.pos (by rw [hdl]; omega) ?_))))
        simp only [rd_drop0 c]
        have last : ¬ (i < l.length ∧ eqK (rd T110 l (i : Int)) x) → setV l x i = ([] ++ l.take i) ++ [x] ++ l.drop i := fun h => by unfold setV; rw [if_neg h]; rfl
        by_cases q1 : ((rd T110 l (i : Int)).1 : Int) = x.1
        · refine E2.pos q1 (E2.pos (by omega) (E2.pos (by rw [hdl]; omega) ?_))
          by_cases q2 : ((rd T110 l (i : Int)).2.1 : Int) = x.2.1
          · refine E2.pos q2 (E2.pos (by omega) (E2.pos (by rw [hdl]; omega) (E2.bind (newerS_ev _ _) ?_)))
            have hk : i < l.length ∧ eqK (rd T110 l (i : Int)) x := ⟨c, q1, q2⟩
            by_cases q3 : nwM x (rd T110 l (i : Int))
            · refine E2.neg (by simpa using q3) (E2.pos (by omega) (E2.pos (by rw [hdl]; omega) (E2.pos (by omega) (E2.pos (by omega) (E2.pos (by simp only [List.length_nil, htl]; omega) (E2.pos (by simp only [List.length_append, List.length_nil, List.length_singleton, htl]; omega) (E2.pos (by simp only [List.length_append, List.length_nil, List.length_singleton, List.length_drop, htl]; omega) ?_)))))))
              exact E2.ret.val (by unfold setV; rw [if_pos hk, if_pos q3]; rfl)
            · exact E2.pos (by simpa using q3) (E2.pos (by simp only [List.length_nil]; omega) (E2.ret.val (by unfold setV; rw [if_pos hk, if_neg q3]; rfl)))
          · refine E2.neg q2 (E2.pos (by omega) (E2.pos (by omega) (E2.pos (by simp only [List.length_nil, htl]; omega) (E2.pos (by simp only [List.length_append, List.length_nil, List.length_singleton, htl]; omega) (E2.pos (by simp only [List.length_append, List.length_nil, List.length_singleton, List.length_drop, htl]; omega) ?_)))))
            exact E2.ret.val (last fun h => q2 h.2.2).symm
        · refine E2.neg q1 (E2.pos (by omega) (E2.pos (by omega) (E2.pos (by simp only [List.length_nil, htl]; omega) (E2.pos (by simp only [List.length_append, List.length_nil, List.length_singleton, htl]; omega) (E2.pos (by simp only [List.length_append, List.length_nil, List.length_singleton, List.length_drop, htl]; omega) ?_)))))
          exact E2.ret.val (last fun h => q1 h.2.1).symm
      · refine E2.neg (by omega) (E2.pos (by omega) (E2.pos (by omega) (E2.neg (by rw [hdl]; omega) ?_)))
        refine E2.pos (by omega) (E2.pos (by omega) (E2.pos (by simp only [List.length_nil, htl]; omega) (E2.pos (by simp only [List.length_append, List.length_nil, List.length_singleton, htl]; omega) (E2.pos (by simp only [List.length_append, List.length_nil, List.length_singleton, List.length_drop, htl]; omega) ?_))))
        exact E2.ret.val (by unfold setV; rw [if_neg (fun h => c h.1)]; rfl)
    | succ d ih =>
      intro i hi
      refine E2.eq (fun k m => spec_l25Set.l0_eq k m l _ _ _ _ _ _) (E2.pos (by omega) (E2.pos (by omega) (E2.pos (by omega) (E2.bind (beforeM_ev _ _) (E2.pos (by simpa using h1 i (by omega)) ?_)))))
      simp only [wrapS (show i < 9223372036854775807 by omega)]
      exact ih (i + 1) (by omega)
  exact Ev.eq (fun k => spec_l25Set_eq k l x) (Ev.loop (f := fun k m => spec_l25Set.l0 k m l 0 x.1 x.2.1 x.2.2.1 x.2.2.2.1 x.2.2.2.2.1) (key p 0 (by omega)))
/-- Sorted, as far as the order tells. -/
def wkE (l : List DT60) : Prop := l.Pairwise fun a b => ¬ bef b a
theorem putW_ev (l : List DT60) (e : DT60) (hl : l.length ≤ 33554432) : ∃ v : List DT60, v.Perm (e :: l) ∧ (wkE l → wkE v) ∧ Ev (fun k => spec_l8Put k l e) v := by
  obtain ⟨p, hp, h1, h2⟩ := first_idx (fun i => bef (rd T60 l (i : Int)) e) l.length
  refine ⟨l.take p ++ [e] ++ l.drop p, ?_, fun hw => ?_, ?_⟩
  · have : (l.take p ++ [e] ++ l.drop p).Perm (e :: (l.take p ++ l.drop p)) := by
      rw [List.append_assoc]
      exact List.perm_middle
    rwa [List.take_append_drop] at this
  · have hd : ∀ b ∈ l.drop p, ¬ bef b e := fun b hb hbe => by
      obtain ⟨j, hj, rfl⟩ := List.getElem_of_mem hb
      rw [List.length_drop] at hj
      have hpl : p < l.length := by omega
      have hnp := h2 hpl
      rw [List.getElem_drop] at hbe
      rcases Nat.eq_zero_or_pos j with h0 | h0
      · subst h0
        rw [rd_at hpl] at hnp
        exact hnp hbe
      · have := List.pairwise_iff_getElem.1 hw p (p + j) hpl (by omega) (by omega)
        rw [rd_at hpl] at hnp
        unfold bef at *
        omega
    have ht : ∀ a ∈ l.take p, bef a e := fun a ha => by
      obtain ⟨j, hj, rfl⟩ := List.getElem_of_mem ha
      rw [List.length_take] at hj
      have := h1 j (by omega)
      rw [rd_at (by omega)] at this
      rw [List.getElem_take]
      exact this
    unfold wkE at *
    rw [List.append_assoc, List.pairwise_append]
    have hs : (l.take p ++ l.drop p).Pairwise fun a b => ¬ bef b a := by rw [List.take_append_drop]; exact hw
    rw [List.pairwise_append] at hs
    refine ⟨hs.1, ?_, fun a ha b hb => ?_⟩
    · rw [List.singleton_append, List.pairwise_cons]
      exact ⟨fun b hb => hd b hb, hs.2.1⟩
    · rw [List.singleton_append, List.mem_cons] at hb
      rcases hb with rfl | hb
      · have := ht a ha
        unfold bef at *
        omega
      · exact hs.2.2 a ha b hb
  · have key : ∀ d i : Nat, i + d = p → E2 (fun k m => spec_l8Put.l0 k m l (i : Int) e.1 e.2.1 e.2.2.1 e.2.2.2.1) (l.take p ++ [e] ++ l.drop p) := by
      intro d
      induction d with
      | zero =>
        intro i hi
        have hi : i = p := by omega
        subst hi
        have hfin : ((([] : List DT60) ++ (List.take ((Int.toNat (i : Int)) - (Int.toNat 0)) (List.drop (Int.toNat 0) l))) ++ ([(e.1, (e.2.1, (e.2.2.1, (e.2.2.2.1, ()))))] : (List DT60))) ++ (List.take ((Int.toNat ((List.length l : Nat) : Int)) - (Int.toNat (i : Int))) (List.drop (Int.toNat (i : Int)) l)) = l.take i ++ [e] ++ l.drop i := by
          simp only [Int.toNat_natCast, Int.toNat_zero, Nat.sub_zero, List.drop_zero, List.nil_append]
          rw [List.take_of_length_le (l := l.drop i) (by simp)]
        have hsz : (List.take ((Int.toNat (i : Int)) - (Int.toNat 0)) (List.drop (Int.toNat 0) l)).length ≤ l.length := by simp; omega
        have hsz2 : (List.take ((Int.toNat ((List.length l : Nat) : Int)) - (Int.toNat (i : Int))) (List.drop (Int.toNat (i : Int)) l)).length ≤ l.length := by simp
        refine E2.eq (fun k m => spec_l8Put.l0_eq k m l _ _ _ _ _) ?_
        by_cases c : i < l.length
        · refine E2.pos (by omega) (E2.pos (by omega) (E2.pos (by omega) (E2.bind (before_ev _ _) (E2.neg (by simpa using h2 c) ?_))))
          refine E2.pos (by omega) (E2.pos (by omega) (E2.pos (by rw [List.length_nil]; omega) (E2.pos (by simp only [List.length_append, List.length_nil, List.length_singleton]; omega) (E2.pos (by omega) (E2.pos (by omega) (E2.pos (by simp only [List.length_append, List.length_nil, List.length_singleton]; omega) ?_))))))
          exact E2.ret.val hfin
        · refine E2.neg (by omega) ?_
          refine E2.pos (by omega) (E2.pos (by omega) (E2.pos (by rw [List.length_nil]; omega) (E2.pos (by simp only [List.length_append, List.length_nil, List.length_singleton]; omega) (E2.pos (by omega) (E2.pos (by omega) (E2.pos (by simp only [List.length_append, List.length_nil, List.length_singleton]; omega) ?_))))))
          exact E2.ret.val hfin
      | succ d ih =>
        intro i hi
        refine E2.eq (fun k m => spec_l8Put.l0_eq k m l _ _ _ _ _) (E2.pos (by omega) (E2.pos (by omega) (E2.pos (by omega) (E2.bind (before_ev _ _) (E2.pos (by simpa using h1 i (by omega)) ?_)))))
        simp only [wrapS (show i < 9223372036854775807 by omega)]
        exact ih (i + 1) (by omega)
    exact Ev.eq (fun k => spec_l8Put_eq k l e) (Ev.loop (f := fun k m => spec_l8Put.l0 k m l 0 e.1 e.2.1 e.2.2.1 e.2.2.2.1) (key p 0 (by omega)))
def newO (m : DT25) (ps : List DT93) : DT32 := ([], (m, ([(0, (100, ()))], (ps, ([], ([], ([], (1, (0, ())))))))))
def zeroO : DT32 := ([], ((0, (0, ())), ([], ([], ([], ([], ([], (0, (0, ())))))))))
theorem newO_bk (m : DT25) (ps : List DT93) (h : Bk (.list T93) ps) : Bk T32 (newO m ps) :=
  ⟨⟨by simp [newO], by simp [newO]⟩, bk_flat _ rfl, ⟨by simp [newO], fun x _ => bk_flat x rfl⟩, h, ⟨by simp [newO], by simp [newO]⟩, ⟨by simp [newO], by simp [newO]⟩, ⟨by simp [newO], by simp [newO]⟩, trivial, trivial, trivial⟩
theorem zeroO_bk : Bk T32 zeroO :=
  ⟨⟨by simp [zeroO], by simp [zeroO]⟩, bk_flat _ rfl, ⟨by simp [zeroO], by simp [zeroO]⟩, ⟨by simp [zeroO], by simp [zeroO]⟩, ⟨by simp [zeroO], by simp [zeroO]⟩, ⟨by simp [zeroO], by simp [zeroO]⟩, ⟨by simp [zeroO], by simp [zeroO]⟩, trivial, trivial, trivial⟩
/-- A cursor over bytes. -/
def CurOk (c : DT134) : Prop := c.1.length ≤ 1048576 ∧ (0 : Int) ≤ c.2.1 ∧ (c.2.1 : Int) ≤ ((c.1.length : Nat) : Int)
/-- What is drawn. -/
def Dr {α : Type} (f : Nat → DT134 → Option (α × DT134)) (P : α → Prop) : Prop := ∀ c, CurOk c → ∃ x c', CurOk c' ∧ P x ∧ Ev (fun k => f k c) (x, c')
theorem and255 (a : BitVec (IntKind.bits .i64)) : 0 ≤ IntKind.wrap .i64 (((a &&& BitVec.ofInt (IntKind.bits .i64) 255).toNat : Nat)) ∧ IntKind.wrap .i64 (((a &&& BitVec.ofInt (IntKind.bits .i64) 255).toNat : Nat)) ≤ 255 := by
  have h : (a &&& BitVec.ofInt (IntKind.bits .i64) 255).toNat ≤ 255 := by
    rw [BitVec.toNat_and]
    exact Nat.le_trans Nat.and_le_right (by decide)
  rw [IntKind.wrap_i64]
  omega
theorem l1Byte_dr : Dr (fun k c => spec_l1Byte k c) (fun x => 0 ≤ x ∧ x ≤ 255) := by
  intro c h
  obtain ⟨h1, h2, h3⟩ := h
  by_cases q : (c.2.1 : Int) < ((List.length c.1 : Nat) : Int)
  · refine ⟨_, (c.1, (IntKind.wrap .i64 (c.2.1 + 1), (IntKind.wrap .i64 ((IntKind.wrap .i64 (c.2.2.1 * 6364136223846793005)) + 1442695040888963407), ()))), ⟨h1, ?_, ?_⟩, and255 _, Ev.eq (fun k => spec_l1Byte_eq k c) (Ev.neg (by omega) (Ev.neg (by omega) (Ev.pos q (Ev.pos h2 (Ev.pos q Ev.ret)))))⟩
    · show (0 : Int) ≤ IntKind.wrap .i64 (c.2.1 + 1)
      rw [wrapI (by omega) (by omega)]
      omega
    · show IntKind.wrap .i64 (c.2.1 + 1) ≤ ((List.length c.1 : Nat) : Int)
      rw [wrapI (by omega) (by omega)]
      omega
  · exact ⟨_, (c.1, (c.2.1, (IntKind.wrap .i64 ((IntKind.wrap .i64 (c.2.2.1 * 6364136223846793005)) + 1442695040888963407), ()))), ⟨h1, h2, h3⟩, and255 _, Ev.eq (fun k => spec_l1Byte_eq k c) (Ev.neg (by omega) (Ev.neg (by omega) (Ev.neg q Ev.ret)))⟩
theorem l1Below_dr (n : Int) : Dr (fun k c => spec_l1Below k c n) (fun x => 0 ≤ x ∧ (0 < n → x < n) ∧ (n ≤ 0 → x = 0)) := by
  intro c h
  by_cases q : n ≤ 0
  · exact ⟨0, c, h, ⟨by omega, fun h => by omega, fun _ => rfl⟩, Ev.eq (fun k => spec_l1Below_eq k c n) (Ev.pos q Ev.ret)⟩
  · obtain ⟨x, c1, h1, hx, e1⟩ := l1Byte_dr c h
    have hm : ∀ y : Int, 0 ≤ y → 0 ≤ Int.tmod y n ∧ (0 < n → Int.tmod y n < n) ∧ (n ≤ 0 → Int.tmod y n = 0) := fun y hy => ⟨Int.tmod_nonneg _ hy, fun hn => Int.tmod_lt_of_pos _ hn, fun h => absurd h q⟩
    by_cases q2 : n ≤ 256
    · exact ⟨Int.tmod x n, c1, h1, hm x hx.1, Ev.eq (fun k => spec_l1Below_eq k c n) (Ev.neg q (Ev.pos q2 (Ev.bind e1 (Ev.neg (by omega) Ev.ret))))⟩
    · obtain ⟨y, c2, h2, hy, e2⟩ := l1Byte_dr c1 h1
      obtain ⟨z, c3, h3, hz, e3⟩ := l1Byte_dr c2 h2
      refine ⟨_, c3, h3, hm _ ?_, Ev.eq (fun k => spec_l1Below_eq k c n) (Ev.neg q (Ev.neg q2 (Ev.bind e1 (Ev.bind e2 (Ev.bind e3 (Ev.neg (by omega) Ev.ret))))))⟩
      rw [wrapI (n := x * 65536) (by omega) (by omega), wrapI (n := y * 256) (by omega) (by omega), wrapI (n := x * 65536 + y * 256) (by omega) (by omega), wrapI (by omega) (by omega)]
      omega
theorem l1Once_dr (n : Int) : Dr (fun k c => spec_l1Once k c n) (fun _ => True) := by
  intro c h
  obtain ⟨x, c1, h1, _, e1⟩ := l1Below_dr n c h
  exact ⟨_, c1, h1, trivial, Ev.eq (fun k => spec_l1Once_eq k c n) (Ev.bind e1 Ev.ret)⟩
theorem l1Int_dr (l : List Int) (hl : 0 < l.length) : Dr (fun k c => spec_l1Int k c l) (fun _ => True) := by
  intro c h
  obtain ⟨x, c1, h1, ⟨h2, h3, _⟩, e1⟩ := l1Below_dr ((List.length l : Nat) : Int) c h
  exact ⟨_, c1, h1, trivial, Ev.eq (fun k => spec_l1Int_eq k c l) (Ev.bind e1 (Ev.pos h2 (Ev.pos (h3 (by omega)) Ev.ret)))⟩
theorem l8Event_dr : Dr (fun k c => spec_l8Event k c) (fun _ => True) := by
  intro c h
  obtain ⟨x1, c1, h1, _, e1⟩ := l1Below_dr 20 c h
  obtain ⟨x2, c2, h2, _, e2⟩ := l1Below_dr 10 c1 h1
  obtain ⟨x3, c3, h3, _, e3⟩ := l1Below_dr 18 c2 h2
  obtain ⟨x4, c4, h4, _, e4⟩ := l1Below_dr 3 c3 h3
  exact ⟨_, c4, h4, trivial, Ev.eq (fun k => spec_l8Event_eq k c) (Ev.bind e1 (Ev.bind e2 (Ev.bind e3 (Ev.bind e4 Ev.ret))))⟩
theorem putS_ev (l : List DT60) (e : DT60) (hl : l.length ≤ 1048576) : ∃ v : List DT60 × (Bool × Unit), v.1.length ≤ l.length + 1 ∧ Ev (fun k => spec_PutEvent k l e) v := by
  obtain ⟨r, hp, _, e1⟩ := putW_ev l e (by omega)
  have hr : r.length = l.length + 1 := by rw [hp.length_eq]; simp
  have e2 := specScoreB_ev r (by omega)
  by_cases c : scoreP r
  · exact ⟨(r, (true, ())), by show r.length ≤ _; omega, Ev.eq (fun k => spec_PutEvent_eq k l e) (Ev.bind e1 (Ev.bind e2 (Ev.neg (by simpa using c) Ev.ret)))⟩
  · exact ⟨([] ++ l, (false, ())), by simp, Ev.eq (fun k => spec_PutEvent_eq k l e) (Ev.bind e1 (Ev.bind e2 (Ev.pos (by simpa using c) (Ev.pos (by rw [List.length_nil]; omega) Ev.ret))))⟩
theorem l8Draw_dr : Dr (fun k c => spec_l8Draw k c) (fun r => r.length ≤ 13) := by
  intro c h
  have key : ∀ (d : Nat) (c : DT134) (s : List DT60), CurOk c → s.length + d ≤ 1000 → ∃ r c', CurOk c' ∧ r.length ≤ s.length + d ∧ E2 (fun k m => spec_l8Draw.l0 k m (d : Int) c.1 c.2.1 c.2.2.1 s) (r, c') := by
    intro d
    induction d with
    | zero => intro c s h hs; exact ⟨s, c, h, by omega, E2.eq (fun k m => spec_l8Draw.l0_eq k m _ _ _ _ s) (E2.neg (by omega) E2.ret)⟩
    | succ d ih =>
      intro c s h hs
      obtain ⟨x, c1, h1, _, e1⟩ := l8Event_dr c h
      obtain ⟨v, hv, e2⟩ := putS_ev s x (by omega)
      obtain ⟨r, c', h', hr, e3⟩ := ih c1 v.1 h1 (by omega)
      refine ⟨r, c', h', by omega, E2.eq (fun k m => spec_l8Draw.l0_eq k m _ _ _ _ s) (E2.pos (by omega) (E2.bind e1 (E2.bind e2 ?_)))⟩
      simp only [wrapP (show 0 < d + 1 by omega) (show d + 1 < 9223372036854775807 by omega), Nat.add_sub_cancel]
      exact e3
  obtain ⟨x, c1, h1, ⟨h2, h3, _⟩, e1⟩ := l1Below_dr 13 c h
  obtain ⟨n, rfl⟩ := Int.eq_ofNat_of_zero_le h2
  have := h3 (by omega)
  obtain ⟨r, c', h', hr, e3⟩ := key n c1 [] h1 (by simp; omega)
  exact ⟨r, c', h', by simp at hr; omega, Ev.eq (fun k => spec_l8Draw_eq k c) (Ev.bind e1 (Ev.loop (f := fun k m => spec_l8Draw.l0 k m (n : Int) c1.1 c1.2.1 c1.2.2.1 []) e3))⟩
theorem l8Tune_dr (voice most : Int) (hm : most ≤ 100) : Dr (fun k c => spec_l8Tune k c voice most) (fun r => r.length ≤ 100) := by
  intro c h
  have key : ∀ (d : Nat) (t : Int) (c : DT134) (s : List DT60), CurOk c → s.length + d ≤ 1000 → ∃ r c', CurOk c' ∧ r.length ≤ s.length + d ∧ E2 (fun k m => spec_l8Tune.l0 k m voice t (d : Int) c.1 c.2.1 c.2.2.1 s) (r, c') := by
    intro d
    induction d with
    | zero => intro t c s h hs; exact ⟨s, c, h, by omega, E2.eq (fun k m => spec_l8Tune.l0_eq k m _ _ _ _ _ _ s) (E2.neg (by omega) E2.ret)⟩
    | succ d ih =>
      intro t c s h hs
      obtain ⟨x1, c1, h1, _, e1⟩ := l1Below_dr 3 c h
      obtain ⟨x2, c2, h2, _, e2⟩ := l1Below_dr 8 c1 h1
      obtain ⟨x3, c3, h3, _, e3⟩ := l1Once_dr 5 c2 h2
      obtain ⟨v, hv, e4⟩ := putS_ev s (t, (IntKind.wrap .i64 (6 * (IntKind.wrap .i64 (1 + x1))), (IntKind.wrap .i64 (60 + x2), (voice, ())))) (by omega)
      by_cases q : x3 = true
      · obtain ⟨r, c', h', hr, e5⟩ := ih (IntKind.wrap .i64 ((IntKind.wrap .i64 (t + (IntKind.wrap .i64 (6 * (IntKind.wrap .i64 (1 + x1)))))) + 12)) c3 v.1 h3 (by omega)
        refine ⟨r, c', h', by omega, E2.eq (fun k m => spec_l8Tune.l0_eq k m _ _ _ _ _ _ s) (E2.pos (by omega) (E2.bind e1 (E2.bind e2 (E2.bind e3 (E2.pos q (E2.bind e4 ?_))))))⟩
        simp only [wrapP (show 0 < d + 1 by omega) (show d + 1 < 9223372036854775807 by omega), Nat.add_sub_cancel]
        exact e5
      · obtain ⟨r, c', h', hr, e5⟩ := ih (IntKind.wrap .i64 (t + (IntKind.wrap .i64 (6 * (IntKind.wrap .i64 (1 + x1)))))) c3 v.1 h3 (by omega)
        refine ⟨r, c', h', by omega, E2.eq (fun k m => spec_l8Tune.l0_eq k m _ _ _ _ _ _ s) (E2.pos (by omega) (E2.bind e1 (E2.bind e2 (E2.bind e3 (E2.neg q (E2.bind e4 ?_))))))⟩
        simp only [wrapP (show 0 < d + 1 by omega) (show d + 1 < 9223372036854775807 by omega), Nat.add_sub_cancel]
        exact e5
  obtain ⟨x, c1, h1, ⟨h2, h3, h4⟩, e1⟩ := l1Below_dr most c h
  obtain ⟨n, rfl⟩ := Int.eq_ofNat_of_zero_le h2
  have hn : n ≤ 100 := by
    rcases Int.lt_or_le 0 most with q | q
    · have := h3 q; omega
    · have := h4 q; omega
  obtain ⟨r, c', h', hr, e3⟩ := key n 0 c1 [] h1 (by simp; omega)
  exact ⟨r, c', h', by simp at hr; omega, Ev.eq (fun k => spec_l8Tune_eq k c voice most) (Ev.bind e1 (Ev.loop (f := fun k m => spec_l8Tune.l0 k m voice 0 (n : Int) c1.1 c1.2.1 c1.2.2.1 []) e3))⟩
theorem setAt_len {t : Ty} {l : List t.den} {i : Int} {f : t.den → t.den} : (setAt t l i f).length = l.length := by unfold setAt; simp
theorem l8Any_dr : Dr (fun k c => spec_l8Any k c) (fun r => r.length ≤ 14) := by
  intro c h
  obtain ⟨l, c1, h1, hl, e1⟩ := l8Draw_dr c h
  by_cases q0 : (((List.length l : Nat) : Int) : Int) = 0
  · exact ⟨l, c1, h1, by omega, Ev.eq (fun k => spec_l8Any_eq k c) (Ev.bind e1 (Ev.pos q0 Ev.ret))⟩
  obtain ⟨i, c2, h2, ⟨i1, i2, _⟩, e2⟩ := l1Below_dr ((List.length l : Nat) : Int) c1 h1
  have i2 := i2 (by omega)
  obtain ⟨x, c3, h3, _, e3⟩ := l1Below_dr 9 c2 h2
  by_cases q1 : x = 0
  · obtain ⟨y, c4, h4, _, e4⟩ := l1Int_dr [(-1), 2000, 2001] (by simp) c3 h3
    exact ⟨_, c4, h4, by show (setAt _ _ _ _).length ≤ _; rw [setAt_len]; exact Nat.le_trans hl (by omega), Ev.eq (fun k => spec_l8Any_eq k c) (Ev.bind e1 (Ev.neg q0 (Ev.bind e2 (Ev.bind e3 (Ev.pos q1 (Ev.bind e4 (Ev.pos i1 (Ev.pos i2 Ev.ret))))))))⟩
  by_cases q2 : x = 1
  · obtain ⟨y, c4, h4, _, e4⟩ := l1Int_dr [0, 96, 97] (by simp) c3 h3
    exact ⟨_, c4, h4, by show (setAt _ _ _ _).length ≤ _; rw [setAt_len]; exact Nat.le_trans hl (by omega), Ev.eq (fun k => spec_l8Any_eq k c) (Ev.bind e1 (Ev.neg q0 (Ev.bind e2 (Ev.bind e3 (Ev.neg q1 (Ev.pos q2 (Ev.bind e4 (Ev.pos i1 (Ev.pos i2 Ev.ret)))))))))⟩
  by_cases q3 : x = 2
  · obtain ⟨y, c4, h4, _, e4⟩ := l1Int_dr [20, 108, 109] (by simp) c3 h3
    exact ⟨_, c4, h4, by show (setAt _ _ _ _).length ≤ _; rw [setAt_len]; exact Nat.le_trans hl (by omega), Ev.eq (fun k => spec_l8Any_eq k c) (Ev.bind e1 (Ev.neg q0 (Ev.bind e2 (Ev.bind e3 (Ev.neg q1 (Ev.neg q2 (Ev.pos q3 (Ev.bind e4 (Ev.pos i1 (Ev.pos i2 Ev.ret))))))))))⟩
  by_cases q4 : x = 3
  · obtain ⟨y, c4, h4, _, e4⟩ := l1Int_dr [0, 4, 5] (by simp) c3 h3
    exact ⟨_, c4, h4, by show (setAt _ _ _ _).length ≤ _; rw [setAt_len]; exact Nat.le_trans hl (by omega), Ev.eq (fun k => spec_l8Any_eq k c) (Ev.bind e1 (Ev.neg q0 (Ev.bind e2 (Ev.bind e3 (Ev.neg q1 (Ev.neg q2 (Ev.neg q3 (Ev.pos q4 (Ev.bind e4 (Ev.pos i1 (Ev.pos i2 Ev.ret)))))))))))⟩
  by_cases q5 : x = 4
  · exact ⟨_, c3, h3, by show (_ ++ [_]).length ≤ _; rw [List.length_append, List.length_singleton]; exact Nat.succ_le_succ hl, Ev.eq (fun k => spec_l8Any_eq k c) (Ev.bind e1 (Ev.neg q0 (Ev.bind e2 (Ev.bind e3 (Ev.neg q1 (Ev.neg q2 (Ev.neg q3 (Ev.neg q4 (Ev.pos q5 (Ev.pos (Nat.le_refl 0) (Ev.pos (show (0 : Int) < ((List.length l : Nat) : Int) by omega) (Ev.pos (show (l.length + 1) * 32 ≤ 211106232532992 by omega) Ev.ret))))))))))))⟩
  exact ⟨l, c3, h3, by omega, Ev.eq (fun k => spec_l8Any_eq k c) (Ev.bind e1 (Ev.neg q0 (Ev.bind e2 (Ev.bind e3 (Ev.neg q1 (Ev.neg q2 (Ev.neg q3 (Ev.neg q4 (Ev.neg q5 Ev.ret)))))))))⟩
theorem l10Draw_dr : Dr (fun k c => spec_l10Draw k c) (fun _ => True) := by
  intro c h
  obtain ⟨x1, c1, h1, _, e1⟩ := l1Below_dr 4 c h
  obtain ⟨x2, c2, h2, _, e2⟩ := l1Int_dr [4, 4, 4, 8, 2] (by simp) c1 h1
  exact ⟨_, c2, h2, trivial, Ev.eq (fun k => spec_l10Draw_eq k c) (Ev.bind e1 (Ev.bind e2 Ev.ret))⟩
theorem l10Any_dr : Dr (fun k c => spec_l10Any k c) (fun _ => True) := by
  intro c h
  obtain ⟨m, c1, h1, _, e1⟩ := l10Draw_dr c h
  obtain ⟨x, c2, h2, _, e2⟩ := l1Below_dr 9 c1 h1
  by_cases q1 : x = 0
  · obtain ⟨y, c4, h4, _, e4⟩ := l1Int_dr [0, 12, 13] (by simp) c2 h2
    exact ⟨_, c4, h4, trivial, Ev.eq (fun k => spec_l10Any_eq k c) (Ev.bind e1 (Ev.bind e2 (Ev.pos q1 (Ev.bind e4 Ev.ret))))⟩
  by_cases q2 : x = 1
  · obtain ⟨y, c4, h4, _, e4⟩ := l1Int_dr [0, 1, 3, 16] (by simp) c2 h2
    exact ⟨_, c4, h4, trivial, Ev.eq (fun k => spec_l10Any_eq k c) (Ev.bind e1 (Ev.bind e2 (Ev.neg q1 (Ev.pos q2 (Ev.bind e4 Ev.ret)))))⟩
  exact ⟨m, c2, h2, trivial, Ev.eq (fun k => spec_l10Any_eq k c) (Ev.bind e1 (Ev.bind e2 (Ev.neg q1 (Ev.neg q2 Ev.ret))))⟩
theorem l11Draw_dr : Dr (fun k c => spec_l11Draw k c) (fun r => 1 ≤ r.length ∧ r.length ≤ 4) := by
  intro c h
  have key : ∀ (d : Nat) (t : Int) (c : DT134) (s : List DT25), CurOk c → s.length + d ≤ 1000 → ∃ r c', CurOk c' ∧ s.length ≤ r.length ∧ r.length ≤ s.length + d ∧ E2 (fun k m => spec_l11Draw.l0 k m t (d : Int) c.1 c.2.1 c.2.2.1 s) (r, c') := by
    intro d
    induction d with
    | zero => intro t c s h hs; exact ⟨s, c, h, by omega, by omega, E2.eq (fun k m => spec_l11Draw.l0_eq k m _ _ _ _ _ s) (E2.neg (by omega) E2.ret)⟩
    | succ d ih =>
      intro t c s h hs
      obtain ⟨x1, c1, h1, _, e1⟩ := l1Below_dr 50 c h
      obtain ⟨x2, c2, h2, _, e2⟩ := l1Int_dr [40, 60, 72, 100, 120, 200, 77] (by simp) c1 h1
      obtain ⟨r, c', h', hr, hr', e5⟩ := ih (IntKind.wrap .i64 ((IntKind.wrap .i64 (t + 1)) + x1)) c2 (s ++ [(IntKind.wrap .i64 ((IntKind.wrap .i64 (t + 1)) + x1), (x2, ()))]) h2 (by simp; omega)
      simp only [List.length_append, List.length_singleton] at hr hr'
      refine ⟨r, c', h', by omega, by omega, E2.eq (fun k m => spec_l11Draw.l0_eq k m _ _ _ _ _ s) (E2.pos (by omega) (E2.bind e1 (E2.bind e2 (E2.pos (by rw [List.length_singleton]; omega) ?_))))⟩
      simp only [wrapP (show 0 < d + 1 by omega) (show d + 1 < 9223372036854775807 by omega), Nat.add_sub_cancel]
      exact e5
  obtain ⟨x1, c1, h1, _, e1⟩ := l1Int_dr [60, 90, 120, 50, 144] (by simp) c h
  obtain ⟨x, c2, h2, ⟨i1, i2, _⟩, e2⟩ := l1Below_dr 4 c1 h1
  obtain ⟨n, rfl⟩ := Int.eq_ofNat_of_zero_le i1
  have := i2 (by omega)
  obtain ⟨r, c', h', hr, hr', e3⟩ := key n 0 c2 [(0, (x1, ()))] h2 (by simp; omega)
  simp only [List.length_singleton] at hr hr'
  exact ⟨r, c', h', by omega, Ev.eq (fun k => spec_l11Draw_eq k c) (Ev.bind e1 (Ev.bind e2 (Ev.loop (f := fun k m => spec_l11Draw.l0 k m 0 (n : Int) c2.1 c2.2.1 c2.2.2.1 [(0, (x1, ()))]) e3)))⟩
theorem l11Any_dr : Dr (fun k c => spec_l11Any k c) (fun r => r.length ≤ 4) := by
  intro c h
  obtain ⟨l, c1, h1, hl, e1⟩ := l11Draw_dr c h
  obtain ⟨i, c2, h2, ⟨i1, i2, _⟩, e2⟩ := l1Below_dr ((List.length l : Nat) : Int) c1 h1
  have i2 := i2 (by omega)
  obtain ⟨x, c3, h3, _, e3⟩ := l1Below_dr 9 c2 h2
  by_cases q1 : x = 0
  · obtain ⟨y, c4, h4, _, e4⟩ := l1Int_dr [(-1), 0, 2000, 2001] (by simp) c3 h3
    exact ⟨_, c4, h4, by show (setAt _ _ _ _).length ≤ _; rw [setAt_len]; exact hl.2, Ev.eq (fun k => spec_l11Any_eq k c) (Ev.bind e1 (Ev.bind e2 (Ev.bind e3 (Ev.pos q1 (Ev.bind e4 (Ev.pos i1 (Ev.pos i2 Ev.ret)))))))⟩
  by_cases q2 : x = 1
  · obtain ⟨y, c4, h4, _, e4⟩ := l1Int_dr [19, 20, 300, 301] (by simp) c3 h3
    exact ⟨_, c4, h4, by show (setAt _ _ _ _).length ≤ _; rw [setAt_len]; exact hl.2, Ev.eq (fun k => spec_l11Any_eq k c) (Ev.bind e1 (Ev.bind e2 (Ev.bind e3 (Ev.neg q1 (Ev.pos q2 (Ev.bind e4 (Ev.pos i1 (Ev.pos i2 Ev.ret))))))))⟩
  by_cases q3 : x = 2
  · exact ⟨[], c3, h3, by simp, Ev.eq (fun k => spec_l11Any_eq k c) (Ev.bind e1 (Ev.bind e2 (Ev.bind e3 (Ev.neg q1 (Ev.neg q2 (Ev.pos q3 Ev.ret))))))⟩
  exact ⟨l, c3, h3, by omega, Ev.eq (fun k => spec_l11Any_eq k c) (Ev.bind e1 (Ev.bind e2 (Ev.bind e3 (Ev.neg q1 (Ev.neg q2 (Ev.neg q3 Ev.ret))))))⟩
theorem l13Score_dr : Dr (fun k c => spec_l13Score k c) (fun r => r.length ≤ 200) := by
  intro c h
  obtain ⟨a, c1, h1, ha, e1⟩ := l8Tune_dr 1 9 (by omega) c h
  obtain ⟨b, c2, h2, hb, e2⟩ := l8Tune_dr 2 9 (by omega) c1 h1
  have key : ∀ (d i : Nat) (s : List DT60), i + d = b.length → s.length + d ≤ 1000 → ∃ r, r.length ≤ s.length + d ∧ E2 (fun k m => spec_l13Score.l0 k m (i : Int) c2.1 c2.2.1 c2.2.2.1 s b) (r, c2) := by
    intro d
    induction d with
    | zero => intro i s hi hs; exact ⟨s, by omega, E2.eq (fun k m => spec_l13Score.l0_eq k m _ _ _ _ s b) (E2.neg (by omega) E2.ret)⟩
    | succ d ih =>
      intro i s hi hs
      obtain ⟨v, hv, e4⟩ := putS_ev s (rd T60 b (i : Int)) (by omega)
      obtain ⟨r, hr, e5⟩ := ih (i + 1) v.1 (by omega) (by omega)
      refine ⟨r, by omega, E2.eq (fun k m => spec_l13Score.l0_eq k m _ _ _ _ s b) (E2.pos (by omega) (E2.pos (by omega) (E2.pos (by omega) (E2.bind e4 ?_))))⟩
      simp only [wrapS (show i < 9223372036854775807 by omega)]
      exact e5
  have ha : a.length ≤ 100 := ha
  have hb : b.length ≤ 100 := hb
  obtain ⟨r, hr, e3⟩ := key b.length 0 a (by omega) (by omega)
  exact ⟨r, c2, h2, by show r.length ≤ 200; omega, Ev.eq (fun k => spec_l13Score_eq k c) (Ev.bind e1 (Ev.bind e2 (Ev.loop (f := fun k m => spec_l13Score.l0 k m 0 c2.1 c2.2.1 c2.2.2.1 a b) e3)))⟩
theorem l25Mark_dr : Dr (fun k c => spec_l25Mark k c) (fun _ => True) := by
  intro c h
  obtain ⟨x1, c1, h1, _, e1⟩ := l1Below_dr 5 c h
  obtain ⟨x2, c2, h2, _, e2⟩ := l1Below_dr 4 c1 h1
  obtain ⟨x3, c3, h3, _, e3⟩ := l1Below_dr 4 c2 h2
  obtain ⟨x4, c4, h4, _, e4⟩ := l1Below_dr 5 c3 h3
  obtain ⟨x5, c5, h5, _, e5⟩ := l1Below_dr 3 c4 h4
  exact ⟨_, c5, h5, trivial, Ev.eq (fun k => spec_l25Mark_eq k c) (Ev.bind e1 (Ev.bind e2 (Ev.bind e3 (Ev.bind e4 (Ev.bind e5 Ev.ret)))))⟩
theorem setMS_ev (l : List DT110) (x : DT110) (hl : l.length ≤ 1048576) : ∃ v : List DT110, v.length ≤ l.length + 1 ∧ Ev (fun k => spec_SetMark k l x) v := by
  obtain ⟨p, hp, h1, h2⟩ := first_idx (fun i => befM (rd T110 l (i : Int)) x) l.length
  have hs := setS_ev l x hl p hp h1 h2
  have hvl := setV_len l x p hp
  obtain ⟨a, ea, _⟩ := specMarks_ev l hl
  obtain ⟨b, eb, _⟩ := specMarksB_ev (setV l x p) (by omega)
  have sz : (List.length ([] : (List DT110)) + List.length l) * 40 ≤ 211106232532992 := by rw [List.length_nil]; omega
  by_cases c : a = true
  · by_cases d : b = true
    · exact ⟨setV l x p, hvl, Ev.eq (fun k => spec_SetMark_eq k l x) (Ev.bind hs (Ev.bind ea (Ev.neg (by simpa using c) (Ev.bind eb (Ev.neg (by simpa using d) Ev.ret)))))⟩
    · exact ⟨[] ++ l, by simp, Ev.eq (fun k => spec_SetMark_eq k l x) (Ev.bind hs (Ev.bind ea (Ev.neg (by simpa using c) (Ev.bind eb (Ev.pos d (Ev.pos sz Ev.ret))))))⟩
  · exact ⟨[] ++ l, by simp, Ev.eq (fun k => spec_SetMark_eq k l x) (Ev.bind hs (Ev.bind ea (Ev.pos c (Ev.pos sz Ev.ret))))⟩
theorem l25Draw_dr : Dr (fun k c => spec_l25Draw k c) (fun r => r.length ≤ 9) := by
  intro c h
  have key : ∀ (d : Nat) (c : DT134) (s : List DT110), CurOk c → s.length + d ≤ 1000 → ∃ r c', CurOk c' ∧ r.length ≤ s.length + d ∧ E2 (fun k m => spec_l25Draw.l0 k m (d : Int) c.1 c.2.1 c.2.2.1 s) (r, c') := by
    intro d
    induction d with
    | zero => intro c s h hs; exact ⟨s, c, h, by omega, E2.eq (fun k m => spec_l25Draw.l0_eq k m _ _ _ _ s) (E2.neg (by omega) E2.ret)⟩
    | succ d ih =>
      intro c s h hs
      obtain ⟨x, c1, h1, _, e1⟩ := l25Mark_dr c h
      obtain ⟨v, hv, e2⟩ := setMS_ev s x (by omega)
      obtain ⟨r, c', h', hr, e3⟩ := ih c1 v h1 (by omega)
      refine ⟨r, c', h', by omega, E2.eq (fun k m => spec_l25Draw.l0_eq k m _ _ _ _ s) (E2.pos (by omega) (E2.bind e1 (E2.bind e2 ?_)))⟩
      simp only [wrapP (show 0 < d + 1 by omega) (show d + 1 < 9223372036854775807 by omega), Nat.add_sub_cancel]
      exact e3
  obtain ⟨x, c1, h1, ⟨h2, h3, _⟩, e1⟩ := l1Below_dr 9 c h
  obtain ⟨n, rfl⟩ := Int.eq_ofNat_of_zero_le h2
  have := h3 (by omega)
  obtain ⟨r, c', h', hr, e3⟩ := key n c1 [] h1 (by simp; omega)
  exact ⟨r, c', h', by show r.length ≤ 9; simp at hr; omega, Ev.eq (fun k => spec_l25Draw_eq k c) (Ev.bind e1 (Ev.loop (f := fun k m => spec_l25Draw.l0 k m (n : Int) c1.1 c1.2.1 c1.2.2.1 []) e3))⟩
theorem l25Any_dr : Dr (fun k c => spec_l25Any k c) (fun r => r.length ≤ 9) := by
  intro c h
  obtain ⟨l, c1, h1, hl, e1⟩ := l25Draw_dr c h
  by_cases q0 : (((List.length l : Nat) : Int) : Int) = 0
  · exact ⟨l, c1, h1, hl, Ev.eq (fun k => spec_l25Any_eq k c) (Ev.bind e1 (Ev.pos q0 Ev.ret))⟩
  obtain ⟨i, c2, h2, ⟨i1, i2, _⟩, e2⟩ := l1Below_dr ((List.length l : Nat) : Int) c1 h1
  have i2 := i2 (by omega)
  obtain ⟨x, c3, h3, _, e3⟩ := l1Below_dr 9 c2 h2
  by_cases q1 : x = 0
  · obtain ⟨y, c4, h4, _, e4⟩ := l1Int_dr [0, 100, 101] (by simp) c3 h3
    exact ⟨_, c4, h4, by show (setAt _ _ _ _).length ≤ _; rw [setAt_len]; exact hl, Ev.eq (fun k => spec_l25Any_eq k c) (Ev.bind e1 (Ev.neg q0 (Ev.bind e2 (Ev.bind e3 (Ev.pos q1 (Ev.bind e4 (Ev.pos i1 (Ev.pos i2 Ev.ret))))))))⟩
  by_cases q2 : x = 1
  · obtain ⟨y, c4, h4, _, e4⟩ := l1Int_dr [0, 4, 5] (by simp) c3 h3
    exact ⟨_, c4, h4, by show (setAt _ _ _ _).length ≤ _; rw [setAt_len]; exact hl, Ev.eq (fun k => spec_l25Any_eq k c) (Ev.bind e1 (Ev.neg q0 (Ev.bind e2 (Ev.bind e3 (Ev.neg q1 (Ev.pos q2 (Ev.bind e4 (Ev.pos i1 (Ev.pos i2 Ev.ret)))))))))⟩
  by_cases q3 : x = 2
  · obtain ⟨y, c4, h4, _, e4⟩ := l1Int_dr [(-1), 9, 10] (by simp) c3 h3
    exact ⟨_, c4, h4, by show (setAt _ _ _ _).length ≤ _; rw [setAt_len]; exact hl, Ev.eq (fun k => spec_l25Any_eq k c) (Ev.bind e1 (Ev.neg q0 (Ev.bind e2 (Ev.bind e3 (Ev.neg q1 (Ev.neg q2 (Ev.pos q3 (Ev.bind e4 (Ev.pos i1 (Ev.pos i2 Ev.ret))))))))))⟩
  by_cases q4 : x = 3
  · obtain ⟨y, c4, h4, _, e4⟩ := l1Int_dr [(-1), 100000, 100001] (by simp) c3 h3
    exact ⟨_, c4, h4, by show (setAt _ _ _ _).length ≤ _; rw [setAt_len]; exact hl, Ev.eq (fun k => spec_l25Any_eq k c) (Ev.bind e1 (Ev.neg q0 (Ev.bind e2 (Ev.bind e3 (Ev.neg q1 (Ev.neg q2 (Ev.neg q3 (Ev.pos q4 (Ev.bind e4 (Ev.pos i1 (Ev.pos i2 Ev.ret)))))))))))⟩
  by_cases q5 : x = 4
  · obtain ⟨y, c4, h4, _, e4⟩ := l1Int_dr [0, 99, 100] (by simp) c3 h3
    exact ⟨_, c4, h4, by show (setAt _ _ _ _).length ≤ _; rw [setAt_len]; exact hl, Ev.eq (fun k => spec_l25Any_eq k c) (Ev.bind e1 (Ev.neg q0 (Ev.bind e2 (Ev.bind e3 (Ev.neg q1 (Ev.neg q2 (Ev.neg q3 (Ev.neg q4 (Ev.pos q5 (Ev.bind e4 (Ev.pos i1 (Ev.pos i2 Ev.ret))))))))))))⟩
  exact ⟨l, c3, h3, hl, Ev.eq (fun k => spec_l25Any_eq k c) (Ev.bind e1 (Ev.neg q0 (Ev.bind e2 (Ev.bind e3 (Ev.neg q1 (Ev.neg q2 (Ev.neg q3 (Ev.neg q4 (Ev.neg q5 Ev.ret)))))))))⟩
theorem l26Draw_dr : Dr (fun k c => spec_l26Draw k c) (fun r => r.length ≤ 6) := by
  intro c h
  have key : ∀ (d : Nat) (t : Int) (c : DT134) (s : List DT25), CurOk c → s.length + d ≤ 1000 → ∃ r c', CurOk c' ∧ r.length ≤ s.length + d ∧ E2 (fun k m => spec_l26Draw.l0 k m t (d : Int) c.1 c.2.1 c.2.2.1 s) (r, c') := by
    intro d
    induction d with
    | zero => intro t c s h hs; exact ⟨s, c, h, by omega, E2.eq (fun k m => spec_l26Draw.l0_eq k m _ _ _ _ _ s) (E2.neg (by omega) E2.ret)⟩
    | succ d ih =>
      intro t c s h hs
      obtain ⟨x1, c1, h1, _, e1⟩ := l1Below_dr 9 c h
      obtain ⟨r, c', h', hr, e5⟩ := ih (IntKind.wrap .i64 ((IntKind.wrap .i64 (t + 1)) + x1)) c1 (s ++ [(((List.length s : Nat) : Int), (IntKind.wrap .i64 ((IntKind.wrap .i64 (t + 1)) + x1), ()))]) h1 (by simp; omega)
      simp only [List.length_append, List.length_singleton] at hr
      refine ⟨r, c', h', by omega, E2.eq (fun k m => spec_l26Draw.l0_eq k m _ _ _ _ _ s) (E2.pos (by omega) (E2.bind e1 (E2.pos (by rw [List.length_singleton]; omega) ?_)))⟩
      simp only [wrapP (show 0 < d + 1 by omega) (show d + 1 < 9223372036854775807 by omega), Nat.add_sub_cancel]
      exact e5
  obtain ⟨x, c1, h1, ⟨i1, i2, _⟩, e1⟩ := l1Below_dr 6 c h
  obtain ⟨n, rfl⟩ := Int.eq_ofNat_of_zero_le i1
  have := i2 (by omega)
  obtain ⟨r, c', h', hr, e3⟩ := key n 0 c1 [] h1 (by simp; omega)
  exact ⟨r, c', h', by show r.length ≤ 6; simp at hr; omega, Ev.eq (fun k => spec_l26Draw_eq k c) (Ev.bind e1 (Ev.loop (f := fun k m => spec_l26Draw.l0 k m 0 (n : Int) c1.1 c1.2.1 c1.2.2.1 []) e3))⟩
theorem l26Any_dr : Dr (fun k c => spec_l26Any k c) (fun r => r.length ≤ 6) := by
  intro c h
  obtain ⟨l, c1, h1, hl, e1⟩ := l26Draw_dr c h
  by_cases q0 : (((List.length l : Nat) : Int) : Int) = 0
  · exact ⟨l, c1, h1, hl, Ev.eq (fun k => spec_l26Any_eq k c) (Ev.bind e1 (Ev.pos q0 Ev.ret))⟩
  obtain ⟨i, c2, h2, ⟨i1, i2, _⟩, e2⟩ := l1Below_dr ((List.length l : Nat) : Int) c1 h1
  have i2 := i2 (by omega)
  obtain ⟨x, c3, h3, _, e3⟩ := l1Below_dr 9 c2 h2
  by_cases q1 : x = 0
  · obtain ⟨y, c4, h4, _, e4⟩ := l1Int_dr [0, 1, 9] (by simp) c3 h3
    exact ⟨_, c4, h4, by show (setAt _ _ _ _).length ≤ _; rw [setAt_len]; exact hl, Ev.eq (fun k => spec_l26Any_eq k c) (Ev.bind e1 (Ev.neg q0 (Ev.bind e2 (Ev.bind e3 (Ev.pos q1 (Ev.bind e4 (Ev.pos i1 (Ev.pos i2 Ev.ret))))))))⟩
  by_cases q2 : x = 1
  · obtain ⟨y, c4, h4, _, e4⟩ := l1Int_dr [0, 1, 500, 501] (by simp) c3 h3
    exact ⟨_, c4, h4, by show (setAt _ _ _ _).length ≤ _; rw [setAt_len]; exact hl, Ev.eq (fun k => spec_l26Any_eq k c) (Ev.bind e1 (Ev.neg q0 (Ev.bind e2 (Ev.bind e3 (Ev.neg q1 (Ev.pos q2 (Ev.bind e4 (Ev.pos i1 (Ev.pos i2 Ev.ret)))))))))⟩
  exact ⟨l, c3, h3, hl, Ev.eq (fun k => spec_l26Any_eq k c) (Ev.bind e1 (Ev.neg q0 (Ev.bind e2 (Ev.bind e3 (Ev.neg q1 (Ev.neg q2 Ev.ret))))))⟩
/-- Some players, of few voices. -/
def fewP (n : Nat) (l : List DT93) : Prop := l.length ≤ n ∧ ∀ p ∈ l, p.2.2.2.1.length ≤ 3
theorem fewP_add {n : Nat} {l : List DT93} {a b c : Int} {v : List Int} (h : fewP n l) (hv : v.length ≤ 3) : fewP (n + 1) (l ++ [(a, (b, (c, (v, ()))))]) :=
  ⟨by rw [List.length_append, List.length_singleton]; have := h.1; omega, fun p hp => by
    rcases List.mem_append.1 hp with h1 | h1
    · exact h.2 p h1
    · rw [List.mem_singleton.1 h1]; exact hv⟩
theorem fewP_mono {n m : Nat} {l : List DT93} (h : fewP n l) (hm : n ≤ m) : fewP m l := ⟨Nat.le_trans h.1 hm, h.2⟩
theorem l33Voices_dr : Dr (fun k c => spec_l33Voices k c) (fun r => fewP 10 r) := by
  intro c h
  have key : ∀ (d i : Nat) (c : DT134) (s : List DT93), i + d = 7 → 1 ≤ i → CurOk c → fewP i s → ∃ r c', CurOk c' ∧ fewP 10 r ∧ E2 (fun k m => spec_l33Voices.l0 k m (i : Int) c.1 c.2.1 c.2.2.1 s) (r, c') := by
    intro d
    induction d with
    | zero =>
      intro i c s hi h1 h hs
      obtain ⟨x, c1, k1, ⟨k2, k3, _⟩, e1⟩ := l1Below_dr 4 c h
      have := k3 (by omega)
      refine ⟨s, c1, k1, fewP_mono hs (by omega), E2.eq (fun k m => spec_l33Voices.l0_eq k m _ _ _ _ s) (E2.bind e1 (E2.neg ?_ E2.ret))⟩
      rw [wrapI (by omega) (by omega)]; omega
    | succ d ih =>
      intro i c s hi h1 h hs
      obtain ⟨x, c1, k1, ⟨k2, k3, _⟩, e1⟩ := l1Below_dr 4 c h
      have := k3 (by omega)
      by_cases q : (i : Int) ≤ IntKind.wrap .i64 (2 + x)
      · obtain ⟨x2, c2, k2', _, e2⟩ := l1Below_dr 18 c1 k1
        obtain ⟨x3, c3, k3', _, e3⟩ := l1Below_dr 12 c2 k2'
        obtain ⟨r, c', h', hr, e5⟩ := ih (i + 1) c3 (s ++ [((i : Int), (IntKind.wrap .i64 (40 + x2), (IntKind.wrap .i64 (76 + x3), ([1, 2, 3], ()))))]) (by omega) (by omega) k3' (fewP_add hs (by simp))
        have := hs.1
        refine ⟨r, c', h', hr, E2.eq (fun k m => spec_l33Voices.l0_eq k m _ _ _ _ s) (E2.bind e1 (E2.pos q (E2.bind e2 (E2.bind e3 (E2.pos (by rw [List.length_singleton]; omega) ?_)))))⟩
        simp only [wrapS (show i < 9223372036854775807 by omega)]
        exact e5
      · exact ⟨s, c1, k1, fewP_mono hs (by omega), E2.eq (fun k m => spec_l33Voices.l0_eq k m _ _ _ _ s) (E2.bind e1 (E2.neg q E2.ret))⟩
  obtain ⟨r, c', h', hr, e⟩ := key 6 1 c [] (by omega) (by omega) h ⟨by simp, by simp⟩
  exact ⟨r, c', h', hr, Ev.eq (fun k => spec_l33Voices_eq k c) (Ev.loop (f := fun k m => spec_l33Voices.l0 k m 1 c.1 c.2.1 c.2.2.1 []) e)⟩
theorem l29Draw_dr : Dr (fun k c => spec_l29Draw k c) (fun r => fewP 10 r ∧ 1 ≤ r.length) := by
  intro c h
  have key : ∀ (d i : Nat) (c : DT134) (s : List DT93), i + d = 7 → 1 ≤ i → CurOk c → fewP i s → ∃ r c', CurOk c' ∧ (fewP 10 r ∧ s.length ≤ r.length ∧ (i = 1 → 1 ≤ r.length)) ∧ E2 (fun k m => spec_l29Draw.l0 k m (i : Int) c.1 c.2.1 c.2.2.1 s) (r, c') := by
    intro d
    induction d with
    | zero =>
      intro i c s hi h1 h hs
      obtain ⟨x, c1, k1, ⟨k2, k3, _⟩, e1⟩ := l1Below_dr 5 c h
      have := k3 (by omega)
      refine ⟨s, c1, k1, ⟨fewP_mono hs (by omega), by omega, fun h => by omega⟩, E2.eq (fun k m => spec_l29Draw.l0_eq k m _ _ _ _ s) (E2.bind e1 (E2.neg ?_ E2.ret))⟩
      rw [wrapI (by omega) (by omega)]; omega
    | succ d ih =>
      intro i c s hi h1 h hs
      obtain ⟨x, c1, k1, ⟨k2, k3, _⟩, e1⟩ := l1Below_dr 5 c h
      have := k3 (by omega)
      by_cases q : (i : Int) ≤ IntKind.wrap .i64 (1 + x)
      · obtain ⟨x2, c2, k2', _, e2⟩ := l1Below_dr 12 c1 k1
        obtain ⟨x3, c3, k3', _, e3⟩ := l1Below_dr 12 c2 k2'
        have hsl := hs.1
        have in2 : ∀ (n v : Nat) (c : DT134) (a b e : Int) (w : List Int), v + n = 4 → w.length + n ≤ 3 → CurOk c → ∃ r c', CurOk c' ∧ (fewP 10 r ∧ s.length + 1 ≤ r.length) ∧ E3 (fun k m m1 => spec_l29Draw.l2 k m m1 (i : Int) (v : Int) c.1 c.2.1 c.2.2.1 s a b e w) (r, c') := by
          intro n
          induction n with
          | zero =>
            intro v c a b e w hv hw hc
            obtain ⟨r, c', h', hr, e5⟩ := ih (i + 1) c (s ++ [(a, (b, (e, (w, ()))))]) (by omega) (by omega) hc (fewP_add hs (by omega))
            rw [List.length_append, List.length_singleton] at hr
            refine ⟨r, c', h', ⟨hr.1, hr.2.1⟩, E3.eq (fun k m m1 => spec_l29Draw.l2_eq k m m1 _ _ _ _ _ s _ _ _ w) (E3.neg (by omega) (E3.pos (by rw [List.length_singleton]; omega) ?_))⟩
            simp only [wrapS (show i < 9223372036854775807 by omega)]
            exact E3.out e5
          | succ n ihn =>
            intro v c a b e w hv hw hc
            obtain ⟨y, c4, k4, _, e4⟩ := l1Once_dr 3 c hc
            by_cases qy : y = true
            · obtain ⟨r, c', h', hr, e5⟩ := ihn (v + 1) c4 a b e w (by omega) (by omega) k4
              refine ⟨r, c', h', hr, E3.eq (fun k m m1 => spec_l29Draw.l2_eq k m m1 _ _ _ _ _ s _ _ _ w) (E3.pos (by omega) (E3.bind e4 (E3.neg (fun h => h qy) ?_)))⟩
              simp only [wrapS (show v < 9223372036854775807 by omega)]
              exact e5
            · obtain ⟨r, c', h', hr, e5⟩ := ihn (v + 1) c4 a b e (w ++ [(v : Int)]) (by omega) (by rw [List.length_append, List.length_singleton]; omega) k4
              refine ⟨r, c', h', hr, E3.eq (fun k m m1 => spec_l29Draw.l2_eq k m m1 _ _ _ _ _ s _ _ _ w) (E3.pos (by omega) (E3.bind e4 (E3.pos qy (E3.pos (by rw [List.length_singleton]; omega) ?_))))⟩
              simp only [wrapS (show v < 9223372036854775807 by omega)]
              exact e5
        have in1 : ∀ (n v : Nat) (c : DT134) (a b e : Int), v + n = 4 → n ≤ 3 → CurOk c → ∃ r c', CurOk c' ∧ (fewP 10 r ∧ s.length + 1 ≤ r.length) ∧ E3 (fun k m m1 => spec_l29Draw.l1 k m m1 (i : Int) (v : Int) c.1 c.2.1 c.2.2.1 s a b e) (r, c') := by
          intro n
          induction n with
          | zero =>
            intro v c a b e hv hw hc
            obtain ⟨r, c', h', hr, e5⟩ := ih (i + 1) c (s ++ [(a, (b, (e, ([], ()))))]) (by omega) (by omega) hc (fewP_add hs (by simp))
            rw [List.length_append, List.length_singleton] at hr
            refine ⟨r, c', h', ⟨hr.1, hr.2.1⟩, E3.eq (fun k m m1 => spec_l29Draw.l1_eq k m m1 _ _ _ _ _ s _ _ _) (E3.neg (by omega) (E3.pos (by rw [List.length_singleton]; omega) ?_))⟩
            simp only [wrapS (show i < 9223372036854775807 by omega)]
            exact E3.out e5
          | succ n ihn =>
            intro v c a b e hv hw hc
            obtain ⟨y, c4, k4, _, e4⟩ := l1Once_dr 3 c hc
            by_cases qy : y = true
            · obtain ⟨r, c', h', hr, e5⟩ := ihn (v + 1) c4 a b e (by omega) (by omega) k4
              refine ⟨r, c', h', hr, E3.eq (fun k m m1 => spec_l29Draw.l1_eq k m m1 _ _ _ _ _ s _ _ _) (E3.pos (by omega) (E3.bind e4 (E3.neg (fun h => h qy) ?_)))⟩
              simp only [wrapS (show v < 9223372036854775807 by omega)]
              exact e5
            · obtain ⟨r, c', h', hr, e5⟩ := in2 n (v + 1) c4 a b e [(v : Int)] (by omega) (by rw [List.length_singleton]; omega) k4
              refine ⟨r, c', h', hr, E3.eq (fun k m m1 => spec_l29Draw.l1_eq k m m1 _ _ _ _ _ s _ _ _) (E3.pos (by omega) (E3.bind e4 (E3.pos qy (E3.pos (by rw [List.length_singleton]; omega) ?_))))⟩
              simp only [wrapS (show v < 9223372036854775807 by omega)]
              exact e5
        obtain ⟨r, c', h', hr, e5⟩ := in1 3 1 c3 (IntKind.wrap .i64 (2 * (i : Int))) (IntKind.wrap .i64 (50 + x2)) (IntKind.wrap .i64 (66 + x3)) (by omega) (by omega) k3'
        refine ⟨r, c', h', ⟨hr.1, by omega, fun _ => by omega⟩, E2.eq (fun k m => spec_l29Draw.l0_eq k m _ _ _ _ s) (E2.bind e1 (E2.pos q (E2.bind e2 (E2.bind e3 ?_))))⟩
        exact E3.loop (f := fun k m m1 => spec_l29Draw.l1 k m m1 (i : Int) 1 c3.1 c3.2.1 c3.2.2.1 s (IntKind.wrap .i64 (2 * (i : Int))) (IntKind.wrap .i64 (50 + x2)) (IntKind.wrap .i64 (66 + x3))) e5
      · exact ⟨s, c1, k1, ⟨fewP_mono hs (by omega), by omega, fun h => by rw [wrapI (by omega) (by omega)] at q; omega⟩, E2.eq (fun k m => spec_l29Draw.l0_eq k m _ _ _ _ s) (E2.bind e1 (E2.neg q E2.ret))⟩
  obtain ⟨r, c', h', hr, e⟩ := key 6 1 c [] (by omega) (by omega) h ⟨by simp, by simp⟩
  exact ⟨r, c', h', ⟨hr.1, hr.2.2 rfl⟩, Ev.eq (fun k => spec_l29Draw_eq k c) (Ev.loop (f := fun k m => spec_l29Draw.l0 k m 1 c.1 c.2.1 c.2.2.1 []) e)⟩
theorem fewP_set {n : Nat} {l : List DT93} {i : Int} {f : DT93 → DT93} (h : fewP n l) (h0 : 0 ≤ i) (h1 : i < ((List.length l : Nat) : Int)) (hf : ∀ p : DT93, p.2.2.2.1.length ≤ 3 → (f p).2.2.2.1.length ≤ 3) : fewP n (setAt T93 l i f) := by
  obtain ⟨j, rfl⟩ := Int.eq_ofNat_of_zero_le h0
  have hj : j < l.length := by omega
  refine ⟨by rw [setAt_len]; exact h.1, fun p hp => ?_⟩
  unfold setAt at hp
  rcases List.mem_or_eq_of_mem_set hp with h2 | h2
  · exact h.2 p h2
  · rw [h2]
    refine hf _ ?_
    rw [rd_at hj]
    exact h.2 _ (List.getElem_mem hj)
theorem l29Any_dr : Dr (fun k c => spec_l29Any k c) (fun r => fewP 10 r) := by
  intro c h
  obtain ⟨l, c1, h1, hl, e1⟩ := l29Draw_dr c h
  have hne : 1 ≤ l.length := hl.2
  have hl : fewP 10 l := hl.1
  obtain ⟨i, c2, h2, ⟨i1, i2, i3⟩, e2⟩ := l1Below_dr ((List.length l : Nat) : Int) c1 h1
  obtain ⟨x, c3, h3, _, e3⟩ := l1Below_dr 9 c2 h2
  by_cases q0 : (0 : Int) < ((List.length l : Nat) : Int)
  · have i2 := i2 q0
    by_cases q1 : x = 0
    · obtain ⟨y, c4, h4, _, e4⟩ := l1Int_dr [0, 2, 99, 100] (by simp) c3 h3
      exact ⟨_, c4, h4, fewP_set (f := fun p => (y, p.2)) hl i1 i2 (fun p hp => hp), Ev.eq (fun k => spec_l29Any_eq k c) (Ev.bind e1 (Ev.bind e2 (Ev.bind e3 (Ev.pos q1 (Ev.bind e4 (Ev.pos i1 (Ev.pos i2 Ev.ret)))))))⟩
    by_cases q2 : x = 1
    · obtain ⟨y, c4, h4, _, e4⟩ := l1Int_dr [20, 21, 108] (by simp) c3 h3
      exact ⟨_, c4, h4, fewP_set (f := fun p => (p.1, (y, p.2.2))) hl i1 i2 (fun p hp => hp), Ev.eq (fun k => spec_l29Any_eq k c) (Ev.bind e1 (Ev.bind e2 (Ev.bind e3 (Ev.neg q1 (Ev.pos q2 (Ev.bind e4 (Ev.pos i1 (Ev.pos i2 Ev.ret))))))))⟩
    by_cases q3 : x = 2
    · obtain ⟨y, c4, h4, _, e4⟩ := l1Int_dr [20, 108, 109] (by simp) c3 h3
      exact ⟨_, c4, h4, fewP_set (f := fun p => (p.1, (p.2.1, (y, p.2.2.2)))) hl i1 i2 (fun p hp => hp), Ev.eq (fun k => spec_l29Any_eq k c) (Ev.bind e1 (Ev.bind e2 (Ev.bind e3 (Ev.neg q1 (Ev.neg q2 (Ev.pos q3 (Ev.bind e4 (Ev.pos i1 (Ev.pos i2 Ev.ret)))))))))⟩
    by_cases q4 : x = 3
    · refine ⟨_, c3, h3, ?_, Ev.eq (fun k => spec_l29Any_eq k c) (Ev.bind e1 (Ev.bind e2 (Ev.bind e3 (Ev.neg q1 (Ev.neg q2 (Ev.neg q3 (Ev.pos q4 (Ev.pos i1 (Ev.pos i2 Ev.ret)))))))))⟩
      exact fewP_set (f := fun p => (p.1, (p.2.1, (p.2.2.1, ([2, 1], p.2.2.2.2))))) hl i1 i2 (fun p _ => by simp)
    exact ⟨l, c3, h3, hl, Ev.eq (fun k => spec_l29Any_eq k c) (Ev.bind e1 (Ev.bind e2 (Ev.bind e3 (Ev.neg q1 (Ev.neg q2 (Ev.neg q3 (Ev.neg q4 Ev.ret)))))))⟩
  · exfalso
    omega
/-- The seats that are found, if any. -/
theorem seat_ev (l : List DT93) (sc : List DT60) (n : Nat) (hn : n ≤ 4) (hl : fewP 10 l) (hs : sc.length ≤ 1048576) : ∀ (d : Nat) (t : List Int), t.length + d = n → ∃ r : List Int × (Bool × Unit), r.1.length ≤ 4 ∧ Ev (fun k => spec_l29Seat k l sc (n : Int) t) r := by
  intro d
  induction d with
  | zero =>
    intro t ht
    exact ⟨([] ++ t, (true, ())), by simp; omega, Ev.eq (fun k => spec_l29Seat_eq k l sc _ t) (Ev.pos (by omega) (Ev.pos (by rw [List.length_nil]; omega) Ev.ret))⟩
  | succ d ih =>
    intro t ht
    have key : ∀ (e i : Nat), i + e = l.length → ∃ r : List Int × (Bool × Unit), r.1.length ≤ 4 ∧ E2 (fun k m => spec_l29Seat.l0 k m l sc (n : Int) t (i : Int)) r := by
      intro e
      induction e with
      | zero => intro i hi; exact ⟨([], (false, ())), by simp, E2.eq (fun k m => spec_l29Seat.l0_eq k m l sc _ t _) (E2.neg (by omega) E2.ret)⟩
      | succ e ihe =>
        intro i hi
        have hll := hl.1
        obtain ⟨r, hr, er⟩ := ihe (i + 1) (by omega)
        have i0 : (0 : Int) ≤ (i : Int) := by omega
        have i1 : (i : Int) < ((List.length l : Nat) : Int) := by omega
        have h1 := has_ev t (rd T93 l (i : Int)).1 (by omega)
        by_cases q : decide (((rd T93 l (i : Int)).1 : Int) ∈ t) = true
        · refine ⟨r, hr, E2.eq (fun k m => spec_l29Seat.l0_eq k m l sc _ t _) (E2.pos i1 (E2.pos i0 (E2.pos i1 (E2.bind h1 (E2.pos q ?_)))))⟩
          simp only [wrapS (show i < 9223372036854775807 by omega)]
          exact er
        · have hv : (rd T93 l (i : Int)).2.2.2.1.length ≤ 1048576 := by
            rw [rd_at (show i < l.length by omega)]
            exact Nat.le_trans (hl.2 _ (List.getElem_mem _)) (by omega)
          obtain ⟨b, eb, _⟩ := specCan_ev (rd T93 l (i : Int)) sc (IntKind.wrap .i64 (((List.length t : Nat) : Int) + 1)) hv hs
          by_cases qb : b = true
          · obtain ⟨r2, hr2, er2⟩ := ih (([] ++ t) ++ [(rd T93 l (i : Int)).1]) (by simp; omega)
            by_cases q2 : r2.2.1 = true
            · exact ⟨(r2.1, (true, ())), hr2, E2.eq (fun k m => spec_l29Seat.l0_eq k m l sc _ t _) (E2.pos i1 (E2.pos i0 (E2.pos i1 (E2.bind h1 (E2.neg q (E2.pos i0 (E2.pos i1 (E2.bind eb (E2.neg (fun h => h qb) (E2.pos (by rw [List.length_nil]; omega) (E2.pos i0 (E2.pos i1 (E2.pos (by rw [List.length_append, List.length_nil, List.length_singleton]; omega) (E2.bind er2 (E2.pos q2 E2.ret)))))))))))))))⟩
            · refine ⟨r, hr, E2.eq (fun k m => spec_l29Seat.l0_eq k m l sc _ t _) (E2.pos i1 (E2.pos i0 (E2.pos i1 (E2.bind h1 (E2.neg q (E2.pos i0 (E2.pos i1 (E2.bind eb (E2.neg (fun h => h qb) (E2.pos (by rw [List.length_nil]; omega) (E2.pos i0 (E2.pos i1 (E2.pos (by rw [List.length_append, List.length_nil, List.length_singleton]; omega) (E2.bind er2 (E2.neg q2 ?_)))))))))))))))⟩
              simp only [wrapS (show i < 9223372036854775807 by omega)]
              exact er
          · refine ⟨r, hr, E2.eq (fun k m => spec_l29Seat.l0_eq k m l sc _ t _) (E2.pos i1 (E2.pos i0 (E2.pos i1 (E2.bind h1 (E2.neg q (E2.pos i0 (E2.pos i1 (E2.bind eb (E2.pos qb ?_)))))))))⟩
            simp only [wrapS (show i < 9223372036854775807 by omega)]
            exact er
    obtain ⟨r, hr, er⟩ := key l.length 0 (by omega)
    exact ⟨r, hr, Ev.eq (fun k => spec_l29Seat_eq k l sc _ t) (Ev.neg (by omega) (Ev.loop (f := fun k m => spec_l29Seat.l0 k m l sc (n : Int) t 0) er))⟩
theorem smP_few {n : Nat} {l : List DT93} (h : fewP n l) (hn : n ≤ 1048576) : SmP l := ⟨Nat.le_trans h.1 hn, fun i hi => by
  rw [rd_at hi]
  exact Nat.le_trans (h.2 _ (List.getElem_mem hi)) (by omega)⟩
theorem seatP_ev (l : List DT93) (sc : List DT60) (hl : fewP 10 l) (hs : sc.length ≤ 1048576) : ∃ r : List Int × (Bool × Unit), r.1.length ≤ 4 ∧ Ev (fun k => spec_SeatPlayers k l sc 2) r := by
  obtain ⟨a, ea, _⟩ := specPlayers_ev l (smP_few hl (by omega))
  by_cases qa : a = true
  · have eb := specScore_ev sc hs
    by_cases qb : scoreP sc
    · obtain ⟨r, hr, er⟩ := seat_ev l sc 2 (by omega) hl hs 2 [] (by simp)
      exact ⟨(r.1, (decide (r.2.1 = true), ())), hr, Ev.eq (fun k => spec_SeatPlayers_eq k l sc 2) (Ev.bind ea (Ev.neg (fun h => h qa) (Ev.bind eb (Ev.neg (by simpa using qb) (Ev.bind (l1In_ev _ _ _) (Ev.neg (by simp) (Ev.bind er Ev.ret)))))))⟩
    · exact ⟨([], (false, ())), by simp, Ev.eq (fun k => spec_SeatPlayers_eq k l sc 2) (Ev.bind ea (Ev.neg (fun h => h qa) (Ev.bind eb (Ev.pos (by simpa using qb) Ev.ret))))⟩
  · exact ⟨([], (false, ())), by simp, Ev.eq (fun k => spec_SeatPlayers_eq k l sc 2) (Ev.bind ea (Ev.pos qa Ev.ret))⟩
theorem bkP_few {n : Nat} {l : List DT93} (h : fewP n l) (hn : n ≤ 1048576) : Bk (.list T93) l :=
  ⟨Nat.le_trans h.1 hn, fun x hx => ⟨trivial, trivial, trivial, ⟨Nat.le_trans (h.2 x hx) (by omega), fun _ _ => trivial⟩, trivial⟩⟩
theorem newS_ev (m : DT25) (ps : List DT93) (h : fewP 10 ps) : ∃ v : DT32 × (Bool × Unit), Bk T32 v.1 ∧ fewP 10 v.1.2.2.2.1 ∧ Ev (fun k => spec_NewOrchestra k m ps) v := by
  have b := newO_bk m ps (bkP_few h (by omega))
  obtain ⟨r, e1, e2⟩ := isOrchestra_both (newO m ps) (sm_of b)
  by_cases c : r = true
  · exact ⟨(newO m ps, (true, ())), b, h, Ev.eq (fun k => spec_NewOrchestra_eq k m ps) (Ev.bind (l33_ev _ b) (Ev.bind e1 (Ev.neg (by simpa using c) Ev.ret)))⟩
  · exact ⟨(zeroO, (false, ())), zeroO_bk, ⟨by simp [zeroO], by simp [zeroO]⟩, Ev.eq (fun k => spec_NewOrchestra_eq k m ps) (Ev.bind (l33_ev _ b) (Ev.bind e1 (Ev.pos c Ev.ret)))⟩
theorem bk_ev {l : List DT60} (h : l.length ≤ 1048576) : Bk (.list T60) l := ⟨h, fun x _ => bk_flat x rfl⟩
theorem bk_te {l : List DT25} (h : l.length ≤ 1048576) : Bk (.list T25) l := ⟨h, fun x _ => bk_flat x rfl⟩
theorem bk_ma {l : List DT110} (h : l.length ≤ 1048576) : Bk (.list T110) l := ⟨h, fun x _ => bk_flat x rfl⟩
theorem bk_in {l : List Int} (h : l.length ≤ 1048576) : Bk (.list (.int .i64)) l := ⟨h, fun x _ => trivial⟩
theorem l33Draw_dr : Dr (fun k c => spec_l33Draw k c) (fun o => Bk T32 o ∧ fewP 10 o.2.2.2.1) := by
  intro c h
  obtain ⟨m, c1, h1, _, e1⟩ := l10Draw_dr c h
  obtain ⟨ps, c2, h2, hps, e2⟩ := l33Voices_dr c1 h1
  obtain ⟨v, bv, fv, e3⟩ := newS_ev m ps hps
  obtain ⟨sc, c4, h4, hsc, e4⟩ := l13Score_dr c2 h2
  obtain ⟨te, c5, h5, hte, e5⟩ := l11Draw_dr c4 h4
  obtain ⟨ma, c6, h6, hma, e6⟩ := l25Draw_dr c5 h5
  obtain ⟨le, c7, h7, hle, e7⟩ := l26Draw_dr c6 h6
  have hsc : sc.length ≤ 200 := hsc
  have hma : ma.length ≤ 9 := hma
  have hle : le.length ≤ 6 := hle
  obtain ⟨st, hst, e8⟩ := seatP_ev v.1.2.2.2.1 sc fv (by omega)
  have b1 : Bk (.list T60) sc := bk_ev (by omega)
  have b2 : Bk (.list T25) te := bk_te (by omega)
  have b3 : Bk (.list T110) ma := bk_ma (by omega)
  have b4 : Bk (.list T25) le := bk_te (by omega)
  have bk : ∀ seats : List Int, Bk (.list (.int .i64)) seats → Bk T32 (sc, (v.1.2.1, (te, (v.1.2.2.2.1, (seats, (ma, (le, v.1.2.2.2.2.2.2.2))))))) := fun seats hs => ⟨b1, bv.2.1, b2, bv.2.2.2.1, hs, b3, b4, bv.2.2.2.2.2.2.2⟩
  by_cases q : st.2.1 = true
  · obtain ⟨x, c9, h9, _, e9⟩ := l1Once_dr 5 c7 h7
    by_cases q2 : x = true
    · exact ⟨_, c9, h9, ⟨bk _ bv.2.2.2.2.1, fv⟩, Ev.eq (fun k => spec_l33Draw_eq k c) (Ev.bind e1 (Ev.bind e2 (Ev.bind e3 (Ev.bind e4 (Ev.bind e5 (Ev.bind e6 (Ev.bind e7 (Ev.bind e8 (Ev.pos q (Ev.bind e9 (Ev.neg (fun h => h q2) Ev.ret)))))))))))⟩
    · exact ⟨_, c9, h9, ⟨bk _ (bk_in (by omega)), fv⟩, Ev.eq (fun k => spec_l33Draw_eq k c) (Ev.bind e1 (Ev.bind e2 (Ev.bind e3 (Ev.bind e4 (Ev.bind e5 (Ev.bind e6 (Ev.bind e7 (Ev.bind e8 (Ev.pos q (Ev.bind e9 (Ev.pos q2 Ev.ret)))))))))))⟩
  · exact ⟨_, c7, h7, ⟨bk _ bv.2.2.2.2.1, fv⟩, Ev.eq (fun k => spec_l33Draw_eq k c) (Ev.bind e1 (Ev.bind e2 (Ev.bind e3 (Ev.bind e4 (Ev.bind e5 (Ev.bind e6 (Ev.bind e7 (Ev.bind e8 (Ev.neg q Ev.ret)))))))))⟩
theorem l33Any_dr : Dr (fun k c => spec_l33Any k c) (fun o => Bk T32 o) := by
  intro c h
  obtain ⟨o, c1, h1, ⟨bo, fo⟩, e1⟩ := l33Draw_dr c h
  obtain ⟨x, c2, h2, _, e2⟩ := l1Below_dr 14 c1 h1
  by_cases q0 : x = 0
  · obtain ⟨y, c3, h3, hy, e3⟩ := l8Any_dr c2 h2
    have hy : y.length ≤ 14 := hy
    exact ⟨(y, o.2), c3, h3, ⟨bk_ev (by show y.length ≤ _; omega), bo.2⟩, Ev.eq (fun k => spec_l33Any_eq k c) (Ev.bind e1 (Ev.bind e2 (Ev.pos q0 (Ev.bind e3 Ev.ret))))⟩
  by_cases q1 : x = 1
  · obtain ⟨y, c3, h3, hy, e3⟩ := l10Any_dr c2 h2
    exact ⟨(o.1, (y, o.2.2)), c3, h3, ⟨bo.1, bk_flat _ rfl, bo.2.2⟩, Ev.eq (fun k => spec_l33Any_eq k c) (Ev.bind e1 (Ev.bind e2 (Ev.neg q0 (Ev.pos q1 (Ev.bind e3 Ev.ret)))))⟩
  by_cases q2 : x = 2
  · obtain ⟨y, c3, h3, hy, e3⟩ := l11Any_dr c2 h2
    have hy : y.length ≤ 4 := hy
    exact ⟨(o.1, (o.2.1, (y, o.2.2.2))), c3, h3, ⟨bo.1, bo.2.1, bk_te (by show y.length ≤ _; omega), bo.2.2.2⟩, Ev.eq (fun k => spec_l33Any_eq k c) (Ev.bind e1 (Ev.bind e2 (Ev.neg q0 (Ev.neg q1 (Ev.pos q2 (Ev.bind e3 Ev.ret))))))⟩
  by_cases q3 : x = 3
  · obtain ⟨y, c3, h3, hy, e3⟩ := l29Any_dr c2 h2
    exact ⟨(o.1, (o.2.1, (o.2.2.1, (y, o.2.2.2.2)))), c3, h3, ⟨bo.1, bo.2.1, bo.2.2.1, bkP_few hy (by omega), bo.2.2.2.2⟩, Ev.eq (fun k => spec_l33Any_eq k c) (Ev.bind e1 (Ev.bind e2 (Ev.neg q0 (Ev.neg q1 (Ev.neg q2 (Ev.pos q3 (Ev.bind e3 Ev.ret)))))))⟩
  by_cases q4 : x = 4
  · exact ⟨(o.1, (o.2.1, (o.2.2.1, (o.2.2.2.1, ([1, 1], o.2.2.2.2.2))))), c2, h2, ⟨bo.1, bo.2.1, bo.2.2.1, bo.2.2.2.1, bk_in (by simp), bo.2.2.2.2.2⟩, Ev.eq (fun k => spec_l33Any_eq k c) (Ev.bind e1 (Ev.bind e2 (Ev.neg q0 (Ev.neg q1 (Ev.neg q2 (Ev.neg q3 (Ev.pos q4 Ev.ret)))))))⟩
  by_cases q5 : x = 5
  · obtain ⟨y, c3, h3, hy, e3⟩ := l25Any_dr c2 h2
    have hy : y.length ≤ 9 := hy
    exact ⟨(o.1, (o.2.1, (o.2.2.1, (o.2.2.2.1, (o.2.2.2.2.1, (y, o.2.2.2.2.2.2)))))), c3, h3, ⟨bo.1, bo.2.1, bo.2.2.1, bo.2.2.2.1, bo.2.2.2.2.1, bk_ma (by show y.length ≤ _; omega), bo.2.2.2.2.2.2⟩, Ev.eq (fun k => spec_l33Any_eq k c) (Ev.bind e1 (Ev.bind e2 (Ev.neg q0 (Ev.neg q1 (Ev.neg q2 (Ev.neg q3 (Ev.neg q4 (Ev.pos q5 (Ev.bind e3 Ev.ret)))))))))⟩
  by_cases q6 : x = 6
  · obtain ⟨y, c3, h3, hy, e3⟩ := l26Any_dr c2 h2
    have hy : y.length ≤ 6 := hy
    exact ⟨(o.1, (o.2.1, (o.2.2.1, (o.2.2.2.1, (o.2.2.2.2.1, (o.2.2.2.2.2.1, (y, o.2.2.2.2.2.2.2))))))), c3, h3, ⟨bo.1, bo.2.1, bo.2.2.1, bo.2.2.2.1, bo.2.2.2.2.1, bo.2.2.2.2.2.1, bk_te (by show y.length ≤ _; omega), bo.2.2.2.2.2.2.2⟩, Ev.eq (fun k => spec_l33Any_eq k c) (Ev.bind e1 (Ev.bind e2 (Ev.neg q0 (Ev.neg q1 (Ev.neg q2 (Ev.neg q3 (Ev.neg q4 (Ev.neg q5 (Ev.pos q6 (Ev.bind e3 Ev.ret))))))))))⟩
  by_cases q7 : x = 7
  · obtain ⟨y, c3, h3, hy, e3⟩ := l1Int_dr [0, 9999, 10000] (by simp) c2 h2
    exact ⟨(o.1, (o.2.1, (o.2.2.1, (o.2.2.2.1, (o.2.2.2.2.1, (o.2.2.2.2.2.1, (o.2.2.2.2.2.2.1, (y, o.2.2.2.2.2.2.2.2)))))))), c3, h3, ⟨bo.1, bo.2.1, bo.2.2.1, bo.2.2.2.1, bo.2.2.2.2.1, bo.2.2.2.2.2.1, bo.2.2.2.2.2.2.1, trivial, bo.2.2.2.2.2.2.2.2⟩, Ev.eq (fun k => spec_l33Any_eq k c) (Ev.bind e1 (Ev.bind e2 (Ev.neg q0 (Ev.neg q1 (Ev.neg q2 (Ev.neg q3 (Ev.neg q4 (Ev.neg q5 (Ev.neg q6 (Ev.pos q7 (Ev.bind e3 Ev.ret)))))))))))⟩
  by_cases q8 : x = 8
  · obtain ⟨y, c3, h3, hy, e3⟩ := l1Int_dr [(-1), 100000, 100001] (by simp) c2 h2
    exact ⟨(o.1, (o.2.1, (o.2.2.1, (o.2.2.2.1, (o.2.2.2.2.1, (o.2.2.2.2.2.1, (o.2.2.2.2.2.2.1, (o.2.2.2.2.2.2.2.1, (y, ()))))))))), c3, h3, ⟨bo.1, bo.2.1, bo.2.2.1, bo.2.2.2.1, bo.2.2.2.2.1, bo.2.2.2.2.2.1, bo.2.2.2.2.2.2.1, bo.2.2.2.2.2.2.2.1, trivial, trivial⟩, Ev.eq (fun k => spec_l33Any_eq k c) (Ev.bind e1 (Ev.bind e2 (Ev.neg q0 (Ev.neg q1 (Ev.neg q2 (Ev.neg q3 (Ev.neg q4 (Ev.neg q5 (Ev.neg q6 (Ev.neg q7 (Ev.pos q8 (Ev.bind e3 Ev.ret))))))))))))⟩
  exact ⟨o, c2, h2, bo, Ev.eq (fun k => spec_l33Any_eq k c) (Ev.bind e1 (Ev.bind e2 (Ev.neg q0 (Ev.neg q1 (Ev.neg q2 (Ev.neg q3 (Ev.neg q4 (Ev.neg q5 (Ev.neg q6 (Ev.neg q7 (Ev.neg q8 Ev.ret)))))))))))⟩
theorem l1New_ev (code : List Int) (hc : code.length ≤ 1048576) : ∃ c : DT134, CurOk c ∧ Ev (fun k => spec_l1New k code) c := by
  have key : ∀ (d i : Nat) (h : Int), i + d = code.length → ∃ c : DT134, CurOk c ∧ E2 (fun k m => spec_l1New.l0 k m code h (i : Int)) c := by
    intro d
    induction d with
    | zero => intro i h hi; exact ⟨(code, (0, (h, ()))), ⟨hc, Int.le_refl 0, by show (0 : Int) ≤ ((List.length code : Nat) : Int); omega⟩, E2.eq (fun k m => spec_l1New.l0_eq k m code _ _) (E2.neg (by omega) E2.ret)⟩
    | succ d ih =>
      intro i h hi
      by_cases q : (i : Int) < 4000
      · obtain ⟨c, hc', e⟩ := ih (i + 1) _ (by omega)
        refine ⟨c, hc', E2.eq (fun k m => spec_l1New.l0_eq k m code _ _) (E2.pos (by omega) (E2.pos q (E2.pos (by omega) (E2.pos (by omega) ?_))))⟩
        simp only [wrapS (show i < 9223372036854775807 by omega)]
        exact e
      · exact ⟨(code, (0, (h, ()))), ⟨hc, Int.le_refl 0, by show (0 : Int) ≤ ((List.length code : Nat) : Int); omega⟩, E2.eq (fun k m => spec_l1New.l0_eq k m code _ _) (E2.pos (by omega) (E2.neg q E2.ret))⟩
  obtain ⟨c, hc', e⟩ := key code.length 0 (IntKind.wrap .i64 (193017 + ((List.length code : Nat) : Int))) (by omega)
  exact ⟨c, hc', Ev.eq (fun k => spec_l1New_eq k code) (Ev.loop (f := fun k m => spec_l1New.l0 k m code (IntKind.wrap .i64 (193017 + ((List.length code : Nat) : Int))) 0) e)⟩
theorem contains_law (l : List Int) (x : Int) (hl : l.length ≤ 1048576) : Ev (fun k => laws_contains k l x) (decide (x ∈ l)) := by
  refine dec_of ?_
  obtain ⟨r, er, hr⟩ := loop_anyR (R := fun i v => E2 (fun k m => laws_contains.l0 k m l x i) v) (n := l.length) (fun i => Eq (α := Int) (rd (.int .i64) l (i : Int)) x) (E2.eq (fun k m => laws_contains.l0_eq k m l x _) (E2.neg (by omega) E2.ret)) (fun i hi hq v e => by
    refine E2.eq (fun k m => laws_contains.l0_eq k m l x _) (E2.pos (by omega) (E2.pos (by omega) (E2.pos (by omega) (E2.neg hq ?_))))
    simp only [wrapS (show i < 9223372036854775807 by omega)]; exact e) (fun i hi hq => E2.eq (fun k m => laws_contains.l0_eq k m l x _) (E2.pos (by omega) (E2.pos (by omega) (E2.pos (by omega) (E2.pos hq E2.ret)))))
  refine ⟨r, Ev.eq (fun k => laws_contains_eq k l x) (Ev.loop (f := fun k m => laws_contains.l0 k m l x 0) er), hr.trans ⟨fun ⟨i, hi, h⟩ => ?_, fun h => ?_⟩⟩
  · rw [← h, rd_at hi]; exact List.getElem_mem hi
  · obtain ⟨i, hi, h⟩ := List.mem_iff_getElem.1 h
    exact ⟨i, hi, by rw [rd_at hi]; exact h⟩
theorem endOfS_ev (l : List DT60) (hl : l.length ≤ 1048576) : ∃ v, Ev (fun k => spec_EndOf k l) v := by
  by_cases hp : scoreP l
  · have key : ∀ d (i : Nat) (n : Int), i + d = l.length → ∃ v, E2 (fun k m => spec_EndOf.l0 k m l n (i : Int)) v := by
      intro d
      induction d with
      | zero =>
        intro i n hi
        exact ⟨n, E2.eq (fun k m => spec_EndOf.l0_eq k m l n _) (E2.neg (by omega) E2.ret)⟩
      | succ d ih =>
        intro i n hi
        obtain ⟨v, e1⟩ := ih (i + 1) (max n (IntKind.wrap .i64 ((rd T60 l (i : Int)).1 + (rd T60 l (i : Int)).2.1))) (by omega)
        refine ⟨v, E2.eq (fun k m => spec_EndOf.l0_eq k m l n _) (E2.pos (by omega) (E2.bind (specScore_ev l hl) (E2.pos (by simpa using hp) (E2.pos (by omega) (E2.pos (by omega) (E2.pos (by omega) (E2.pos (by omega) (E2.bind (specMax_ev _ _) ?_))))))))⟩
        simp only [wrapS (show i < 9223372036854775807 by omega)]; exact e1
    obtain ⟨v, e1⟩ := key l.length 0 0 (by omega)
    exact ⟨v, Ev.eq (fun k => spec_EndOf_eq k l) (Ev.loop (f := fun k m => spec_EndOf.l0 k m l 0 0) e1)⟩
  · refine ⟨0, Ev.eq (fun k => spec_EndOf_eq k l) (Ev.loop (f := fun k m => spec_EndOf.l0 k m l 0 0) ?_)⟩
    refine E2.eq (fun k m => spec_EndOf.l0_eq k m l 0 0) ?_
    by_cases c : (0 : Int) < ((l.length : Nat) : Int)
    · exact E2.pos c (E2.bind (specScore_ev l hl) (E2.neg (by simpa using hp) E2.ret))
    · exact E2.neg c E2.ret
theorem partS_ev (l : List DT60) (v e : Int) (hl : l.length ≤ 1000) : ∃ r : List DT100 × (Bool × Unit), r.1.length ≤ 2001 ∧ Ev (fun k => spec_PartFrom k l v e) r := by
  have hf : (l.filter (ofVoice v)).length ≤ 1000 := Nat.le_trans (List.length_filter_le _ _) hl
  generalize hg : l.filter (ofVoice v) = f at hf
  have hv := specVoice_ev l v (by omega)
  rw [hg] at hv
  by_cases hp : scoreP l
  · have key : ∀ (d i : Nat) (a : Int) (s : List DT100), i + d = f.length → s.length ≤ 2 * i → ∃ r : List DT100 × (Bool × Unit), r.1.length ≤ 2001 ∧ E2 (fun k m => spec_PartFrom.l0 k m l e a (i : Int) s f) r := by
      intro d
      induction d with
      | zero =>
        intro i a s hi hs
        have start : ∀ {v : List DT100 × (Bool × Unit)}, E2 (fun k m => if (e : Int) < a then some ([], (false, ())) else if (2096 : Int) < e then some ([], (false, ())) else if (a : Int) < e then (if (List.length s + List.length ([(a, (IntKind.wrap .i64 (e - a), (0, ())))] : (List DT100))) * 24 ≤ 211106232532992 then some ((s ++ ([(a, (IntKind.wrap .i64 (e - a), (0, ())))] : (List DT100))), (true, ())) else none) else some (s, (true, ()))) v → E2 (fun k m => spec_PartFrom.l0 k m l e a (i : Int) s f) v := by
          intro v h
          refine E2.eq (fun k m => spec_PartFrom.l0_eq k m l e a _ s f) ?_
          refine E2.neg (by omega) ?_
          refine E2.bind (specScore_ev l (by omega)) ?_
          exact E2.neg (by simpa using hp) h
        by_cases c1 : e < a
        · exact ⟨([], (false, ())), by simp, start (E2.pos c1 E2.ret)⟩
        by_cases c2 : 2096 < e
        · exact ⟨([], (false, ())), by simp, start (E2.neg c1 (E2.pos c2 E2.ret))⟩
        by_cases c3 : a < e
        · exact ⟨((s ++ ([(a, (IntKind.wrap .i64 (e - a), (0, ())))] : (List DT100))), (true, ())), by simp; omega, start (E2.neg c1 (E2.neg c2 (E2.pos c3 (E2.pos (by simp only [List.length_cons, List.length_nil]; omega) E2.ret))))⟩
        · exact ⟨(s, (true, ())), by show s.length ≤ _; omega, start (E2.neg c1 (E2.neg c2 (E2.neg c3 E2.ret)))⟩
      | succ d ih =>
        intro i a s hi hs
        have i0 : (0 : Int) ≤ (i : Int) := by omega
        have i1 : (i : Int) < ((List.length f : Nat) : Int) := by omega
        by_cases c1 : LT.lt (α := Int) (rd T60 f (i : Int)).1 a
        · exact ⟨([], (false, ())), by simp, E2.eq (fun k m => spec_PartFrom.l0_eq k m l e a _ s f) (E2.pos i1 (E2.bind (specScore_ev l (by omega)) (E2.pos (by simpa using hp) (E2.pos i0 (E2.pos i1 (E2.pos c1 E2.ret))))))⟩
        by_cases c2 : LT.lt (α := Int) a (rd T60 f (i : Int)).1
        · obtain ⟨r, hr, e1⟩ := ih (i + 1) (IntKind.wrap .i64 ((rd T60 f (i : Int)).1 + (rd T60 f (i : Int)).2.1)) ((s ++ ([(a, (IntKind.wrap .i64 ((rd T60 f (i : Int)).1 - a), (0, ())))] : (List DT100))) ++ ([((rd T60 f (i : Int)).1, ((rd T60 f (i : Int)).2.1, ((rd T60 f (i : Int)).2.2.1, ())))] : (List DT100))) (by omega) (by simp; omega)
          refine ⟨r, hr, E2.eq (fun k m => spec_PartFrom.l0_eq k m l e a _ s f) (E2.pos i1 (E2.bind (specScore_ev l (by omega)) (E2.pos (by simpa using hp) (E2.pos i0 (E2.pos i1 (E2.neg c1 (E2.pos i0 (E2.pos i1 (E2.pos c2 (E2.pos i0 (E2.pos i1 (E2.pos (by simp only [List.length_cons, List.length_nil]; omega) (E2.pos i0 (E2.pos i1 (E2.pos i0 (E2.pos i1 (E2.pos i0 (E2.pos i1 (E2.pos (by simp only [List.length_append, List.length_cons, List.length_nil]; omega) (E2.pos i0 (E2.pos i1 (E2.pos i0 (E2.pos i1 ?_)))))))))))))))))))))))⟩
          simp only [wrapS (show i < 9223372036854775807 by omega)]
          exact e1
        · obtain ⟨r, hr, e1⟩ := ih (i + 1) (IntKind.wrap .i64 ((rd T60 f (i : Int)).1 + (rd T60 f (i : Int)).2.1)) (s ++ ([((rd T60 f (i : Int)).1, ((rd T60 f (i : Int)).2.1, ((rd T60 f (i : Int)).2.2.1, ())))] : (List DT100))) (by omega) (by simp; omega)
          refine ⟨r, hr, E2.eq (fun k m => spec_PartFrom.l0_eq k m l e a _ s f) (E2.pos i1 (E2.bind (specScore_ev l (by omega)) (E2.pos (by simpa using hp) (E2.pos i0 (E2.pos i1 (E2.neg c1 (E2.pos i0 (E2.pos i1 (E2.neg c2 (E2.pos i0 (E2.pos i1 (E2.pos i0 (E2.pos i1 (E2.pos i0 (E2.pos i1 (E2.pos (by simp only [List.length_cons, List.length_nil]; omega) (E2.pos i0 (E2.pos i1 (E2.pos i0 (E2.pos i1 ?_))))))))))))))))))))⟩
          simp only [wrapS (show i < 9223372036854775807 by omega)]
          exact e1
    obtain ⟨r, hr, e1⟩ := key f.length 0 0 [] (by omega) (by simp)
    exact ⟨r, hr, Ev.eq (fun k => spec_PartFrom_eq k l v e) (Ev.bind hv (Ev.loop (f := fun k m => spec_PartFrom.l0 k m l e 0 0 [] f) e1))⟩
  · refine ⟨([], (false, ())), by simp, Ev.eq (fun k => spec_PartFrom_eq k l v e) (Ev.bind hv (Ev.loop (f := fun k m => spec_PartFrom.l0 k m l e 0 0 [] f) ?_))⟩
    refine E2.eq (fun k m => spec_PartFrom.l0_eq k m l e 0 0 [] _) ?_
    by_cases c : (0 : Int) < ((List.length f : Nat) : Int)
    · exact E2.pos c (E2.bind (specScore_ev l (by omega)) (E2.neg (by simpa using hp) (E2.bind (specScore_ev l (by omega)) (E2.pos (by simpa using hp) E2.ret))))
    · exact E2.neg c (E2.bind (specScore_ev l (by omega)) (E2.pos (by simpa using hp) E2.ret))
theorem l4Raw_dr : Dr (fun k c => spec_l4Raw k c) (fun _ => True) := by
  intro c h
  obtain ⟨x, c1, h1, _, e1⟩ := l1Int_dr [(-1), 0, 1, 1000000000, (-1000000000), 1000000001, 1000000, 1000001, 9223372036854775807, (-9223372036854775808)] (by simp) c h
  exact ⟨_, c1, h1, trivial, Ev.eq (fun k => spec_l4Raw_eq k c) (Ev.bind e1 Ev.ret)⟩
theorem l13Part_dr : Dr (fun k c => spec_l13Part k c) (fun r => r.length ≤ 2001) := by
  intro c h
  obtain ⟨l, c1, h1, hl, e1⟩ := l8Tune_dr 1 9 (by omega) c h
  have hl : l.length ≤ 100 := hl
  obtain ⟨en, e2⟩ := endOfS_ev l (by omega)
  obtain ⟨x, c2, h2, _, e3⟩ := l1Below_dr 30 c1 h1
  obtain ⟨p, hp, e4⟩ := partS_ev l 1 (IntKind.wrap .i64 (en + x)) (by omega)
  by_cases q : (0 : Int) < ((List.length p.1 : Nat) : Int)
  · obtain ⟨i, c3, h3, ⟨i1, i2, _⟩, e5⟩ := l1Below_dr ((List.length p.1 : Nat) : Int) c2 h2
    have i2 := i2 q
    obtain ⟨y, c4, h4, _, e6⟩ := l1Below_dr 9 c3 h3
    by_cases q0 : y = 0
    · obtain ⟨z, c5, h5, _, e7⟩ := l4Raw_dr c4 h4
      exact ⟨setAt T100 p.1 i (fun yy => (z, yy.2)), c5, h5, by show (setAt _ _ _ _).length ≤ _; rw [setAt_len]; exact hp, Ev.eq (fun k => spec_l13Part_eq k c) (Ev.bind e1 (Ev.bind e2 (Ev.bind e3 (Ev.bind e4 (Ev.pos q (Ev.bind e5 (Ev.bind e6 (Ev.pos q0 (Ev.bind e7 (Ev.pos i1 (Ev.pos i2 Ev.ret)))))))))))⟩
    by_cases q1 : y = 1
    · obtain ⟨z, c5, h5, _, e7⟩ := l1Int_dr [0, 96, 97, 3000, 3001] (by simp) c4 h4
      exact ⟨setAt T100 p.1 i (fun yy => (yy.1, (z, yy.2.2))), c5, h5, by show (setAt _ _ _ _).length ≤ _; rw [setAt_len]; exact hp, Ev.eq (fun k => spec_l13Part_eq k c) (Ev.bind e1 (Ev.bind e2 (Ev.bind e3 (Ev.bind e4 (Ev.pos q (Ev.bind e5 (Ev.bind e6 (Ev.neg q0 (Ev.pos q1 (Ev.bind e7 (Ev.pos i1 (Ev.pos i2 Ev.ret))))))))))))⟩
    by_cases q2 : y = 2
    · obtain ⟨z, c5, h5, _, e7⟩ := l1Int_dr [0, 20, 109] (by simp) c4 h4
      exact ⟨setAt T100 p.1 i (fun yy => (yy.1, (yy.2.1, (z, ())))), c5, h5, by show (setAt _ _ _ _).length ≤ _; rw [setAt_len]; exact hp, Ev.eq (fun k => spec_l13Part_eq k c) (Ev.bind e1 (Ev.bind e2 (Ev.bind e3 (Ev.bind e4 (Ev.pos q (Ev.bind e5 (Ev.bind e6 (Ev.neg q0 (Ev.neg q1 (Ev.pos q2 (Ev.bind e7 (Ev.pos i1 (Ev.pos i2 Ev.ret)))))))))))))⟩
    · exact ⟨p.1, c4, h4, hp, Ev.eq (fun k => spec_l13Part_eq k c) (Ev.bind e1 (Ev.bind e2 (Ev.bind e3 (Ev.bind e4 (Ev.pos q (Ev.bind e5 (Ev.bind e6 (Ev.neg q0 (Ev.neg q1 (Ev.neg q2 Ev.ret))))))))))⟩
  · exact ⟨p.1, c2, h2, hp, Ev.eq (fun k => spec_l13Part_eq k c) (Ev.bind e1 (Ev.bind e2 (Ev.bind e3 (Ev.bind e4 (Ev.neg q Ev.ret)))))⟩
theorem l7Key_dr : Dr (fun k c => spec_l7Key k c) (fun _ => True) := by
  intro c h
  obtain ⟨x, c1, h1, _, e1⟩ := l1Below_dr 15 c h
  exact ⟨_, c1, h1, trivial, Ev.eq (fun k => spec_l7Key_eq k c) (Ev.bind e1 Ev.ret)⟩
theorem l22Draw_dr : Dr (fun k c => spec_l22Draw k c) (fun _ => True) := by
  intro c h
  obtain ⟨x, c1, h1, _, e1⟩ := l1Below_dr 12 c h
  obtain ⟨y, c2, h2, _, e2⟩ := l1Below_dr 5 c1 h1
  exact ⟨_, c2, h2, trivial, Ev.eq (fun k => spec_l22Draw_eq k c) (Ev.bind e1 (Ev.bind e2 Ev.ret))⟩
theorem l22Any_dr : Dr (fun k c => spec_l22Any k c) (fun _ => True) := by
  intro c h
  obtain ⟨x, c1, h1, _, e1⟩ := l22Draw_dr c h
  obtain ⟨y, c2, h2, _, e2⟩ := l1Below_dr 9 c1 h1
  by_cases q0 : y = 0
  · obtain ⟨z, c3, h3, _, e3⟩ := l1Int_dr [(-1), 11, 12] (by simp) c2 h2
    exact ⟨_, c3, h3, trivial, Ev.eq (fun k => spec_l22Any_eq k c) (Ev.bind e1 (Ev.bind e2 (Ev.pos q0 (Ev.bind e3 Ev.ret))))⟩
  by_cases q1 : y = 1
  · obtain ⟨z, c3, h3, _, e3⟩ := l1Int_dr [0, 5, 6] (by simp) c2 h2
    exact ⟨_, c3, h3, trivial, Ev.eq (fun k => spec_l22Any_eq k c) (Ev.bind e1 (Ev.bind e2 (Ev.neg q0 (Ev.pos q1 (Ev.bind e3 Ev.ret)))))⟩
  · exact ⟨x, c2, h2, trivial, Ev.eq (fun k => spec_l22Any_eq k c) (Ev.bind e1 (Ev.bind e2 (Ev.neg q0 (Ev.neg q1 Ev.ret))))⟩
theorem l23Chord_dr (ky : Int) : Dr (fun k c => spec_l23Chord k c ky) (fun _ => True) := by
  intro c h
  obtain ⟨x, c1, h1, ⟨x1, x2, _⟩, e1⟩ := l1Below_dr 7 c h
  have x2 := x2 (by omega)
  have x2 : x < ((List.length ([0, 2, 4, 5, 7, 9, 11] : List Int) : Nat) : Int) := x2
  have x3 : x < ((List.length ([1, 2, 2, 1, 1, 2, 3] : List Int) : Nat) : Int) := x2
  have em := specMod_ev (IntKind.wrap .i64 ((IntKind.wrap .i64 (7 * ky)) + (rd (.int .i64) ([0, 2, 4, 5, 7, 9, 11]) x))) 12
  by_cases q : x = 4
  · obtain ⟨b, c2, h2, _, e2⟩ := l1Once_dr 2 c1 h1
    obtain ⟨b', c3, h3, _, e3⟩ := l1Once_dr 6 c2 h2
    obtain ⟨z, c4, h4, _, e4⟩ := l22Any_dr c3 h3
    by_cases qb : b = true
    · by_cases qb' : b' = true
      · exact ⟨z, c4, h4, trivial, Ev.eq (fun k => spec_l23Chord_eq k c ky) (Ev.bind e1 (Ev.pos x1 (Ev.pos x2 (Ev.bind em (Ev.pos x1 (Ev.pos x3 (Ev.pos q (Ev.bind e2 (Ev.pos qb (Ev.bind e3 (Ev.pos qb' (Ev.bind e4 Ev.ret))))))))))))⟩
      · exact ⟨_, c3, h3, trivial, Ev.eq (fun k => spec_l23Chord_eq k c ky) (Ev.bind e1 (Ev.pos x1 (Ev.pos x2 (Ev.bind em (Ev.pos x1 (Ev.pos x3 (Ev.pos q (Ev.bind e2 (Ev.pos qb (Ev.bind e3 (Ev.neg qb' Ev.ret)))))))))))⟩
    · by_cases qb' : b' = true
      · exact ⟨z, c4, h4, trivial, Ev.eq (fun k => spec_l23Chord_eq k c ky) (Ev.bind e1 (Ev.pos x1 (Ev.pos x2 (Ev.bind em (Ev.pos x1 (Ev.pos x3 (Ev.pos q (Ev.bind e2 (Ev.neg qb (Ev.bind e3 (Ev.pos qb' (Ev.bind e4 Ev.ret))))))))))))⟩
      · exact ⟨_, c3, h3, trivial, Ev.eq (fun k => spec_l23Chord_eq k c ky) (Ev.bind e1 (Ev.pos x1 (Ev.pos x2 (Ev.bind em (Ev.pos x1 (Ev.pos x3 (Ev.pos q (Ev.bind e2 (Ev.neg qb (Ev.bind e3 (Ev.neg qb' Ev.ret)))))))))))⟩
  · obtain ⟨b', c3, h3, _, e3⟩ := l1Once_dr 6 c1 h1
    obtain ⟨z, c4, h4, _, e4⟩ := l22Any_dr c3 h3
    by_cases qb' : b' = true
    · exact ⟨z, c4, h4, trivial, Ev.eq (fun k => spec_l23Chord_eq k c ky) (Ev.bind e1 (Ev.pos x1 (Ev.pos x2 (Ev.bind em (Ev.pos x1 (Ev.pos x3 (Ev.neg q (Ev.bind e3 (Ev.pos qb' (Ev.bind e4 Ev.ret))))))))))⟩
    · exact ⟨_, c3, h3, trivial, Ev.eq (fun k => spec_l23Chord_eq k c ky) (Ev.bind e1 (Ev.pos x1 (Ev.pos x2 (Ev.bind em (Ev.pos x1 (Ev.pos x3 (Ev.neg q (Ev.bind e3 (Ev.neg qb' Ev.ret)))))))))⟩
theorem tonesS_ev (x : DT25) : ∃ t : List Int, Ev (fun k => spec_TonesOf k x) t := by
  by_cases c : chordP x
  · obtain ⟨r, kd, ⟨⟩⟩ := x
    exact ⟨_, specTones_ev r kd c.1 c.2⟩
  · exact ⟨[], Ev.eq (fun k => spec_TonesOf_eq k x) (Ev.bind (specIsChord_ev x) (Ev.pos (by simpa using c) Ev.ret))⟩
theorem l37Chords_dr : Dr (fun k c => spec_l37Chords k c) (fun r => r.length ≤ 16) := by
  intro c h
  obtain ⟨ky, c0, h0, _, e0⟩ := l7Key_dr c h
  have key : ∀ (d i : Nat) (c : DT134) (s : List DT60), CurOk c → i + d = 4 → s.length ≤ 4 * i → ∃ (r : List DT60) (c' : DT134), CurOk c' ∧ r.length ≤ 16 ∧ E2 (fun k m => spec_l37Chords.l0 k m ky (i : Int) c.1 c.2.1 c.2.2.1 s) (r, c') := by
    intro d
    induction d with
    | zero =>
      intro i c s h hi hs
      obtain ⟨x, c1, h1, ⟨x1, x2, _⟩, e1⟩ := l1Below_dr 4 c h
      have x2 := x2 (by omega)
      have w : IntKind.wrap .i64 (1 + x) = 1 + x := wrapI (by omega) (by omega)
      exact ⟨s, c1, h1, by omega, E2.eq (fun k m => spec_l37Chords.l0_eq k m ky _ _ _ _ s) (E2.bind e1 (E2.neg (by show ¬ ((i : Int) < IntKind.wrap .i64 (1 + x)); rw [w]; omega) E2.ret))⟩
    | succ d ih =>
      intro i c s h hi hs
      obtain ⟨x, c1, h1, ⟨x1, x2, _⟩, e1⟩ := l1Below_dr 4 c h
      by_cases q : (i : Int) < IntKind.wrap .i64 (1 + x)
      · obtain ⟨ch, c2, h2, _, e2⟩ := l23Chord_dr ky c1 h1
        obtain ⟨t, e3⟩ := tonesS_ev ch
        have inner : ∀ (e v : Nat) (s : List DT60), v + e = 4 → s.length ≤ 4 * i + v → ∃ (r : List DT60) (c' : DT134), CurOk c' ∧ r.length ≤ 16 ∧ E3 (fun k m n => spec_l37Chords.l1 k m n ky (i : Int) (v : Int) c2.1 c2.2.1 c2.2.2.1 s t) (r, c') := by
          intro e
          induction e with
          | zero =>
            intro v s hv hs
            obtain ⟨r, c', h', hr, e5⟩ := ih (i + 1) c2 s h2 (by omega) (by omega)
            refine ⟨r, c', h', hr, E3.eq (fun k m n => spec_l37Chords.l1_eq k m n ky _ _ _ _ _ s t) ?_⟩
            by_cases z : (v : Int) < ((List.length t : Nat) : Int)
            · refine E3.pos z (E3.neg (by omega) ?_)
              simp only [wrapS (show i < 9223372036854775807 by omega)]
              exact E3.out e5
            · refine E3.neg z ?_
              simp only [wrapS (show i < 9223372036854775807 by omega)]
              exact E3.out e5
          | succ e ih2 =>
            intro v s hv hs
            by_cases z : (v : Int) < ((List.length t : Nat) : Int)
            · obtain ⟨p, hp, e4⟩ := putS_ev s (IntKind.wrap .i64 (24 * (i : Int)), (24, (IntKind.wrap .i64 (60 + (rd (.int .i64) t (v : Int))), (IntKind.wrap .i64 ((v : Int) + 1), ())))) (by omega)
              obtain ⟨r, c', h', hr, e5⟩ := ih2 (v + 1) p.1 (by omega) (by omega)
              refine ⟨r, c', h', hr, E3.eq (fun k m n => spec_l37Chords.l1_eq k m n ky _ _ _ _ _ s t) (E3.pos z (E3.pos (by omega) (E3.pos (by omega) (E3.pos z (E3.bind e4 ?_)))))⟩
              simp only [wrapS (show v < 9223372036854775807 by omega)]
              exact e5
            · obtain ⟨r, c', h', hr, e5⟩ := ih (i + 1) c2 s h2 (by omega) (by omega)
              refine ⟨r, c', h', hr, E3.eq (fun k m n => spec_l37Chords.l1_eq k m n ky _ _ _ _ _ s t) (E3.neg z ?_)⟩
              simp only [wrapS (show i < 9223372036854775807 by omega)]
              exact E3.out e5
        obtain ⟨r, c', h', hr, e5⟩ := inner 4 0 s (by omega) (by omega)
        exact ⟨r, c', h', hr, E2.eq (fun k m => spec_l37Chords.l0_eq k m ky _ _ _ _ s) (E2.bind e1 (E2.pos q (E2.bind e2 (E2.bind e3 (E3.loop (f := fun k m n => spec_l37Chords.l1 k m n ky (i : Int) 0 c2.1 c2.2.1 c2.2.2.1 s t) e5)))))⟩
      · exact ⟨s, c1, h1, by omega, E2.eq (fun k m => spec_l37Chords.l0_eq k m ky _ _ _ _ s) (E2.bind e1 (E2.neg q E2.ret))⟩
  obtain ⟨r, c', h', hr, e1⟩ := key 4 0 c0 [] h0 (by omega) (by simp)
  exact ⟨r, c', h', hr, Ev.eq (fun k => spec_l37Chords_eq k c) (Ev.bind e0 (Ev.loop (f := fun k m => spec_l37Chords.l0 k m ky 0 c0.1 c0.2.1 c0.2.2.1 []) e1))⟩
theorem drawScore_ev (code : List Int) (hc : code.length ≤ 1048576) : ∃ l : List DT60, l.length ≤ 14 ∧ Ev (fun k => spec_DrawDensestTick k code) l := by
  obtain ⟨c, hc, e0⟩ := l1New_ev code hc
  obtain ⟨l, c1, _, hl, e1⟩ := l8Any_dr c hc
  exact ⟨l, hl, Ev.eq (fun k => spec_DrawDensestTick_eq k code) (Ev.bind (Ev.eq (fun k => spec_DrawIsScore_eq k code) (Ev.bind e0 (Ev.bind e1 Ev.ret))) Ev.ret)⟩
theorem drawRest_ev (code : List Int) (hc : code.length ≤ 1048576) : ∃ l : List DT100, l.length ≤ 2001 ∧ Ev (fun k => spec_DrawRestShare k code) l := by
  obtain ⟨c, hc, e0⟩ := l1New_ev code hc
  obtain ⟨l, c1, _, hl, e1⟩ := l13Part_dr c hc
  exact ⟨l, hl, Ev.eq (fun k => spec_DrawRestShare_eq k code) (Ev.bind (Ev.eq (fun k => spec_DrawIsPart_eq k code) (Ev.bind e0 (Ev.bind e1 Ev.ret))) Ev.ret)⟩
theorem drawLeaps_ev (code : List Int) (hc : code.length ≤ 1048576) : ∃ (l : List DT60) (v : Int), l.length ≤ 14 ∧ Ev (fun k => spec_DrawStepsAndLeaps k code) (l, (v, ())) := by
  obtain ⟨c, hc, e0⟩ := l1New_ev code hc
  obtain ⟨l, c1, h1, hl, e1⟩ := l8Any_dr c hc
  obtain ⟨v, c2, _, _, e2⟩ := l1Below_dr 6 c1 h1
  exact ⟨l, v, hl, Ev.eq (fun k => spec_DrawStepsAndLeaps_eq k code) (Ev.bind (Ev.eq (fun k => spec_DrawVoiceOf_eq k code) (Ev.bind e0 (Ev.bind e1 (Ev.bind e2 Ev.ret)))) Ev.ret)⟩
theorem drawChords_ev (code : List Int) (hc : code.length ≤ 1048576) : ∃ l : List DT60, l.length ≤ 16 ∧ Ev (fun k => spec_DrawChordsIn k code) l := by
  obtain ⟨c, hc, e0⟩ := l1New_ev code hc
  obtain ⟨b, c1, h1, _, e1⟩ := l1Once_dr 5 c hc
  by_cases q : b = true
  · obtain ⟨l, c2, _, hl, e2⟩ := l8Any_dr c1 h1
    have hl : l.length ≤ 14 := hl
    exact ⟨l, by omega, Ev.eq (fun k => spec_DrawChordsIn_eq k code) (Ev.bind e0 (Ev.bind e1 (Ev.pos q (Ev.bind e2 Ev.ret))))⟩
  · obtain ⟨l, c2, _, hl, e2⟩ := l37Chords_dr c1 h1
    exact ⟨l, hl, Ev.eq (fun k => spec_DrawChordsIn_eq k code) (Ev.bind e0 (Ev.bind e1 (Ev.neg q (Ev.bind e2 Ev.ret))))⟩
theorem drawBusy_ev (code : List Int) (hc : code.length ≤ 1048576) : ∃ (o : DT32), Bk T32 o ∧ Ev (fun k => spec_DrawBusiestPlayer k code) o := by
  obtain ⟨c, hc, e0⟩ := l1New_ev code hc
  obtain ⟨o, c1, h1, ho, e1⟩ := l33Any_dr c hc
  exact ⟨o, ho, Ev.eq (fun k => spec_DrawBusiestPlayer_eq k code) (Ev.bind (Ev.eq (fun k => spec_DrawIsOrchestra_eq k code) (Ev.bind e0 (Ev.bind e1 Ev.ret))) Ev.ret)⟩
theorem snd_self {e : DT60} (h : okE e) : snd e.1 e = true := by
  obtain ⟨⟨h1, h2⟩, ⟨h3, h4⟩, _⟩ := h
  have w : IntKind.wrap .i64 ((e.1 : Int) + e.2.1) = (e.1 : Int) + e.2.1 := wrapI (by omega) (by omega)
  unfold snd
  rw [w, decide_eq_true_eq]
  omega
theorem sounds_pos {l : List DT60} (hp : scoreP l) {i : Nat} (hi : i < l.length) : 0 < (sounds l (rd T60 l (i : Int)).1).length := by
  have h1 := (num8_fold (heard l (rd T60 l (i : Int)).1) [] List.Pairwise.nil).2 (pitchOf (rd T60 l (i : Int)))
  have hm : pitchOf (rd T60 l (i : Int)) ∈ heard l (rd T60 l (i : Int)).1 := List.mem_map.2 ⟨rd T60 l (i : Int), List.mem_filter.2 ⟨by rw [rd_at hi]; exact List.getElem_mem hi, snd_self (hp.1 i hi).1⟩, rfl⟩
  unfold sounds
  rw [if_pos hp]
  exact List.length_pos_of_mem (h1.2 (Or.inr hm))
theorem densI_ev (l : List DT60) (hl : l.length ≤ 1048576) : ∃ v : Int, Ev (fun k => impl_DensestTick k l) v ∧ (scoreP l → (v = -1 ↔ l.length = 0)) ∧ (0 ≤ v → ∀ i : Nat, i < l.length → (sounds l (rd T60 l (i : Int)).1).length ≤ (sounds l v).length) := by
  by_cases hp : scoreP l
  · have key : ∀ d (i : Nat) (b n : Int), i + d = l.length → (i = 0 ∧ b = -1 ∧ n = 0 ∨ 0 < i ∧ 0 ≤ b ∧ n = ((sounds l b).length : Int)) → (∀ j : Nat, j < i → ((sounds l (rd T60 l (j : Int)).1).length : Int) ≤ n) →
        ∃ v : Int, E2 (fun k m => impl_DensestTick.l0 k m l b n l ((List.length l : Nat) : Int) (i : Int)) v ∧ (l.length = 0 ∧ v = -1 ∨ 0 < l.length ∧ 0 ≤ v ∧ ∀ j : Nat, j < l.length → ((sounds l (rd T60 l (j : Int)).1).length : Int) ≤ ((sounds l v).length : Int)) := by
      intro d
      induction d with
      | zero =>
        intro i b n hi hs hb
        refine ⟨b, E2.eq (fun k m => impl_DensestTick.l0_eq k m l b n l _ _) (E2.neg (by omega) E2.ret), ?_⟩
        rcases hs with ⟨h1, h2, h3⟩ | ⟨h1, h2, h3⟩
        · exact .inl ⟨by omega, h2⟩
        · exact .inr ⟨by omega, h2, fun j hj => by rw [← h3]; exact hb j (by omega)⟩
      | succ d ih =>
        intro i b n hi hs hb
        have hpos := sounds_pos hp (show i < l.length by omega)
        have h0 := (hp.1 i (by omega)).1.1.1
        by_cases c : n < ((List.length (sounds l (rd T60 l (i : Int)).1) : Nat) : Int)
        · obtain ⟨v, e2, hv⟩ := ih (i + 1) (rd T60 l (i : Int)).1 ((List.length (sounds l (rd T60 l (i : Int)).1) : Nat) : Int) (by omega) (.inr ⟨by omega, h0, rfl⟩) (fun j hj => by
            rcases Nat.lt_succ_iff_lt_or_eq.1 hj with h | h
            · have := hb j h; omega
            · rw [h]; exact Int.le_refl _)
          refine ⟨v, E2.eq (fun k m => impl_DensestTick.l0_eq k m l b n l _ _) (E2.pos (by omega) (E2.pos (by omega) (E2.pos (by omega) (E2.bind (implSounds_ev l _ hl) (E2.pos c ?_))))), hv⟩
          simp only [wrapS (show i < 9223372036854775807 by omega)]; exact e2
        · obtain ⟨v, e2, hv⟩ := ih (i + 1) b n (by omega) (by
            rcases hs with ⟨h1, h2, h3⟩ | ⟨h1, h2, h3⟩
            · exact absurd (show n < ((List.length (sounds l (rd T60 l (i : Int)).1) : Nat) : Int) by omega) c
            · exact .inr ⟨by omega, h2, h3⟩) (fun j hj => by
            rcases Nat.lt_succ_iff_lt_or_eq.1 hj with h | h
            · exact hb j h
            · rw [h]; omega)
          refine ⟨v, E2.eq (fun k m => impl_DensestTick.l0_eq k m l b n l _ _) (E2.pos (by omega) (E2.pos (by omega) (E2.pos (by omega) (E2.bind (implSounds_ev l _ hl) (E2.neg c ?_))))), hv⟩
          simp only [wrapS (show i < 9223372036854775807 by omega)]; exact e2
    obtain ⟨v, e2, hv⟩ := key l.length 0 (-1) 0 (by omega) (.inl ⟨rfl, rfl, rfl⟩) (fun j hj => absurd hj (by omega))
    refine ⟨v, Ev.eq (fun k => impl_DensestTick_eq k l) (Ev.bind (implScore_ev l hl) (Ev.pos (by simpa using hp) (Ev.loop (f := fun k m => impl_DensestTick.l0 k m l (-1) 0 l ((List.length l : Nat) : Int) 0) e2))), fun _ => by omega, fun h0 i hi => ?_⟩
    rcases hv with ⟨h1, h2⟩ | ⟨_, _, h3⟩
    · omega
    · have := h3 i hi; omega
  · exact ⟨-1, Ev.eq (fun k => impl_DensestTick_eq k l) (Ev.bind (implScore_ev l hl) (Ev.neg (by simpa using hp) Ev.ret)), fun h => absurd h hp, fun h => absurd h (by omega)⟩
theorem isPartI_ev (p : List DT100) (hl : p.length ≤ 4194304) : ∃ r, Ev (fun k => impl_IsPart k p) r ∧ (r = true → ∀ i : Nat, i < p.length → LE.le (α := Int) 1 (rd T100 p (i : Int)).2.1 ∧ LE.le (α := Int) (rd T100 p (i : Int)).2.1 3000) := by
  have key : ∀ d i : Nat, ∀ t : Int, i + d = p.length → ∃ r, E2 (fun k m => impl_IsPart.l0 k m p t p ((List.length p : Nat) : Int) (i : Int)) r ∧ (r = true → ∀ j : Nat, i ≤ j → j < p.length → LE.le (α := Int) 1 (rd T100 p (j : Int)).2.1 ∧ LE.le (α := Int) (rd T100 p (j : Int)).2.1 3000) := by
    intro d
    induction d with
    | zero =>
      intro i t hi
      exact ⟨true, E2.eq (fun k m => impl_IsPart.l0_eq k m p _ p _ _) (E2.neg (by omega) E2.ret), fun _ j h1 h2 => absurd h2 (by omega)⟩
    | succ d ih =>
      intro i t hi
      obtain ⟨r, e2, hr⟩ := ih (i + 1) (IntKind.wrap .i64 (t + (rd T100 p (i : Int)).2.1)) (by omega)
      have i0 : (0 : Int) ≤ (i : Int) := by omega
      have i1 : (i : Int) < ((List.length p : Nat) : Int) := by omega
      have w := wrapS (show i < 9223372036854775807 by omega)
      by_cases c1 : Eq (α := Int) (rd T100 p (i : Int)).1 t
      · by_cases c2 : LE.le (α := Int) 1 (rd T100 p (i : Int)).2.1 ∧ LE.le (α := Int) (rd T100 p (i : Int)).2.1 3000
        · have hr' : r = true → ∀ j : Nat, i ≤ j → j < p.length → LE.le (α := Int) 1 (rd T100 p (j : Int)).2.1 ∧ LE.le (α := Int) (rd T100 p (j : Int)).2.1 3000 := fun h j h1 h2 => by
            rcases Nat.eq_or_lt_of_le h1 with h3 | h3
            · rw [← h3]; exact c2
            · exact hr h j h3 h2
          by_cases c3 : Eq (α := Int) (rd T100 p (i : Int)).2.2.1 0
          · by_cases c4 : 0 < i
            · by_cases c5 : Eq (α := Int) (rd T100 p ((i - 1 : Nat) : Int)).2.2.1 0
              · refine ⟨false, E2.eq (fun k m => impl_IsPart.l0_eq k m p _ p _ _) (E2.pos i1 (E2.pos i0 (E2.pos i1 (E2.neg (fun h => h c1) (E2.bind (inRange_ev _ _ _) (E2.neg (by simpa using c2) (E2.neg (fun h => h c3) (E2.pos c3 (E2.pos (by omega) ?_))))))))), fun h => by cases h⟩
                simp only [wrapP c4 (show i < 9223372036854775807 by omega)]
                exact E2.pos (by omega) (E2.pos (by omega) (E2.pos c5 E2.ret))
              · refine ⟨r, E2.eq (fun k m => impl_IsPart.l0_eq k m p _ p _ _) (E2.pos i1 (E2.pos i0 (E2.pos i1 (E2.neg (fun h => h c1) (E2.bind (inRange_ev _ _ _) (E2.neg (by simpa using c2) (E2.neg (fun h => h c3) (E2.pos c3 (E2.pos (by omega) ?_))))))))), hr'⟩
                simp only [wrapP c4 (show i < 9223372036854775807 by omega), w]
                exact E2.pos (by omega) (E2.pos (by omega) (E2.neg c5 e2))
            · refine ⟨r, E2.eq (fun k m => impl_IsPart.l0_eq k m p _ p _ _) (E2.pos i1 (E2.pos i0 (E2.pos i1 (E2.neg (fun h => h c1) (E2.bind (inRange_ev _ _ _) (E2.neg (by simpa using c2) (E2.neg (fun h => h c3) (E2.pos c3 (E2.neg (by omega) ?_))))))))), hr'⟩
              simp only [w]
              exact e2
          · by_cases c6 : LE.le (α := Int) 21 (rd T100 p (i : Int)).2.2.1 ∧ LE.le (α := Int) (rd T100 p (i : Int)).2.2.1 108
            · by_cases c7 : LT.lt (α := Int) 96 (rd T100 p (i : Int)).2.1
              · exact ⟨false, E2.eq (fun k m => impl_IsPart.l0_eq k m p _ p _ _) (E2.pos i1 (E2.pos i0 (E2.pos i1 (E2.neg (fun h => h c1) (E2.bind (inRange_ev _ _ _) (E2.neg (by simpa using c2) (E2.pos c3 (E2.bind (inRange_ev _ _ _) (E2.neg (by simpa using c6) (E2.pos c7 E2.ret)))))))))), fun h => by cases h⟩
              · refine ⟨r, E2.eq (fun k m => impl_IsPart.l0_eq k m p _ p _ _) (E2.pos i1 (E2.pos i0 (E2.pos i1 (E2.neg (fun h => h c1) (E2.bind (inRange_ev _ _ _) (E2.neg (by simpa using c2) (E2.pos c3 (E2.bind (inRange_ev _ _ _) (E2.neg (by simpa using c6) (E2.neg c7 (E2.neg c3 ?_))))))))))), hr'⟩
                simp only [w]
                exact e2
            · exact ⟨false, E2.eq (fun k m => impl_IsPart.l0_eq k m p _ p _ _) (E2.pos i1 (E2.pos i0 (E2.pos i1 (E2.neg (fun h => h c1) (E2.bind (inRange_ev _ _ _) (E2.neg (by simpa using c2) (E2.pos c3 (E2.bind (inRange_ev _ _ _) (E2.pos (by simpa using c6) E2.ret))))))))), fun h => by cases h⟩
        · exact ⟨false, E2.eq (fun k m => impl_IsPart.l0_eq k m p _ p _ _) (E2.pos i1 (E2.pos i0 (E2.pos i1 (E2.neg (fun h => h c1) (E2.bind (inRange_ev _ _ _) (E2.pos (by simpa using c2) E2.ret)))))), fun h => by cases h⟩
      · exact ⟨false, E2.eq (fun k m => impl_IsPart.l0_eq k m p _ p _ _) (E2.pos i1 (E2.pos i0 (E2.pos i1 (E2.pos c1 E2.ret)))), fun h => by cases h⟩
  obtain ⟨r, e2, hr⟩ := key p.length 0 0 (by omega)
  exact ⟨r, Ev.eq (fun k => impl_IsPart_eq k p) (Ev.loop (f := fun k m => impl_IsPart.l0 k m p 0 p ((List.length p : Nat) : Int) 0) e2), fun h i hi => hr h i (Nat.zero_le _) hi⟩
theorem restShare_ev (p : List DT100) (hl : p.length ≤ 1048576) : ∃ v : Int, Ev (fun k => impl_RestShare k p) v ∧ 0 ≤ v ∧ v ≤ 100 := by
  obtain ⟨r, e1, hr⟩ := isPartI_ev p (by omega)
  by_cases c : r = true
  · have hr := hr c
    by_cases z : (((List.length p : Nat) : Int) : Int) = 0
    · exact ⟨100, Ev.eq (fun k => impl_RestShare_eq k p) (Ev.bind e1 (Ev.neg (fun h => h c) (Ev.pos z Ev.ret))), by omega, by omega⟩
    · have key : ∀ (d i : Nat) (a b : Int), i + d = p.length → 0 ≤ a → a ≤ b → b ≤ 3000 * (i : Int) → (i : Int) ≤ b → ∃ v : Int, E2 (fun k m => impl_RestShare.l0 k m a b p ((List.length p : Nat) : Int) (i : Int)) v ∧ 0 ≤ v ∧ v ≤ 100 := by
        intro d
        induction d with
        | zero =>
          intro i a b hi h0 h1 h2 h3
          have hb : 0 < b := by omega
          have w1 : IntKind.wrap .i64 (100 * a) = 100 * a := wrapI (by omega) (by omega)
          have q1 : 0 ≤ Int.tdiv (100 * a) b := Int.tdiv_nonneg (by omega) (by omega)
          have q2 : Int.tdiv (100 * a) b ≤ 100 := by
            rw [Int.tdiv_eq_ediv_of_nonneg (by omega)]
            exact Int.ediv_le_of_le_mul hb (by omega)
          refine ⟨_, E2.eq (fun k m => impl_RestShare.l0_eq k m a b p _ _) (E2.neg (by omega) (E2.neg (by omega) E2.ret)), ?_⟩
          rw [w1, wrapI (by omega) (by omega)]
          exact ⟨q1, q2⟩
        | succ d ih =>
          intro i a b hi h0 h1 h2 h3
          obtain ⟨g1, g2⟩ := hr i (by omega)
          have w1 : IntKind.wrap .i64 (b + (rd T100 p (i : Int)).2.1) = b + (rd T100 p (i : Int)).2.1 := wrapI (by omega) (by omega)
          by_cases q : Eq (α := Int) (rd T100 p (i : Int)).2.2.1 0
          · have w2 : IntKind.wrap .i64 (a + (rd T100 p (i : Int)).2.1) = a + (rd T100 p (i : Int)).2.1 := wrapI (by omega) (by omega)
            obtain ⟨v, e, hv⟩ := ih (i + 1) (a + (rd T100 p (i : Int)).2.1) (b + (rd T100 p (i : Int)).2.1) (by omega) (by omega) (by omega) (by omega) (by omega)
            refine ⟨v, E2.eq (fun k m => impl_RestShare.l0_eq k m a b p _ _) (E2.pos (by omega) (E2.pos (by omega) (E2.pos (by omega) (E2.pos q ?_)))), hv⟩
            simp only [wrapS (show i < 9223372036854775807 by omega), w1, w2]
            exact e
          · obtain ⟨v, e, hv⟩ := ih (i + 1) a (b + (rd T100 p (i : Int)).2.1) (by omega) (by omega) (by omega) (by omega) (by omega)
            refine ⟨v, E2.eq (fun k m => impl_RestShare.l0_eq k m a b p _ _) (E2.pos (by omega) (E2.pos (by omega) (E2.pos (by omega) (E2.neg q ?_)))), hv⟩
            simp only [wrapS (show i < 9223372036854775807 by omega), w1]
            exact e
      obtain ⟨v, e, hv⟩ := key p.length 0 0 0 (by omega) (by omega) (by omega) (by omega) (by omega)
      exact ⟨v, Ev.eq (fun k => impl_RestShare_eq k p) (Ev.bind e1 (Ev.neg (fun h => h c) (Ev.neg z (Ev.loop (f := fun k m => impl_RestShare.l0 k m 0 0 p ((List.length p : Nat) : Int) 0) e)))), hv⟩
  · exact ⟨100, Ev.eq (fun k => impl_RestShare_eq k p) (Ev.bind e1 (Ev.pos c Ev.ret)), by omega, by omega⟩
theorem leaps_ev (l : List DT60) (v : Int) (hl : l.length ≤ 1048576) : ∃ (x y : Int), Ev (fun k => impl_StepsAndLeaps k l v) (x, (y, ())) ∧ 0 ≤ x ∧ 0 ≤ y ∧ x + y ≤ ((l.filter (ofVoice v)).length : Int) := by
  have hf : (l.filter (ofVoice v)).length ≤ 1048576 := Nat.le_trans (List.length_filter_le _ _) hl
  have hv := implVoice_ev l v hl
  generalize l.filter (ofVoice v) = s at hf hv
  have key : ∀ (d i : Nat) (x y : Int), 1 ≤ i → i + d = s.length + 1 → 0 ≤ x → 0 ≤ y → x + y ≤ (i : Int) - 1 → ∃ (x' y' : Int), E2 (fun k m => impl_StepsAndLeaps.l0 k m x y (i : Int) s) (x', (y', ())) ∧ 0 ≤ x' ∧ 0 ≤ y' ∧ x' + y' ≤ (s.length : Int) := by
    intro d
    induction d with
    | zero =>
      intro i x y h1 hi hx hy hs
      exact ⟨x, y, E2.eq (fun k m => impl_StepsAndLeaps.l0_eq k m x y _ s) (E2.neg (by omega) E2.ret), hx, hy, by omega⟩
    | succ d ih =>
      intro i x y h1 hi hx hy hs
      by_cases z : (i : Int) < ((List.length s : Nat) : Int)
      · have wp := wrapP (show 0 < i by omega) (show i < 9223372036854775807 by omega)
        by_cases c1 : LT.lt (α := Int) 2 (max (IntKind.wrap .i64 ((max (min (rd T60 s (IntKind.wrap .i64 ((i : Int) - 1))).2.2.1 1000 : Int) (-1000) : Int) - (max (min (rd T60 s (i : Int)).2.2.1 1000 : Int) (-1000) : Int))) (IntKind.wrap .i64 ((max (min (rd T60 s (i : Int)).2.2.1 1000 : Int) (-1000) : Int) - (max (min (rd T60 s (IntKind.wrap .i64 ((i : Int) - 1))).2.2.1 1000 : Int) (-1000) : Int))) : Int)
        · have w : IntKind.wrap .i64 (y + 1) = y + 1 := wrapI (by omega) (by omega)
          obtain ⟨x', y', e, hh⟩ := ih (i + 1) x (y + 1) (by omega) (by omega) hx (by omega) (by omega)
          refine ⟨x', y', E2.eq (fun k m => impl_StepsAndLeaps.l0_eq k m x y _ s) (E2.pos z (E2.pos (by rw [wp]; omega) (E2.pos (by rw [wp]; omega) (E2.pos (by omega) (E2.pos z (E2.pos c1 ?_)))))), hh⟩
          simp only [wrapS (show i < 9223372036854775807 by omega), w]
          exact e
        · by_cases c2 : LT.lt (α := Int) 0 (max (IntKind.wrap .i64 ((max (min (rd T60 s (IntKind.wrap .i64 ((i : Int) - 1))).2.2.1 1000 : Int) (-1000) : Int) - (max (min (rd T60 s (i : Int)).2.2.1 1000 : Int) (-1000) : Int))) (IntKind.wrap .i64 ((max (min (rd T60 s (i : Int)).2.2.1 1000 : Int) (-1000) : Int) - (max (min (rd T60 s (IntKind.wrap .i64 ((i : Int) - 1))).2.2.1 1000 : Int) (-1000) : Int))) : Int)
          · have w : IntKind.wrap .i64 (x + 1) = x + 1 := wrapI (by omega) (by omega)
            obtain ⟨x', y', e, hh⟩ := ih (i + 1) (x + 1) y (by omega) (by omega) (by omega) hy (by omega)
            refine ⟨x', y', E2.eq (fun k m => impl_StepsAndLeaps.l0_eq k m x y _ s) (E2.pos z (E2.pos (by rw [wp]; omega) (E2.pos (by rw [wp]; omega) (E2.pos (by omega) (E2.pos z (E2.neg c1 (E2.pos c2 ?_))))))), hh⟩
            simp only [wrapS (show i < 9223372036854775807 by omega), w]
            exact e
          · obtain ⟨x', y', e, hh⟩ := ih (i + 1) x y (by omega) (by omega) hx hy (by omega)
            refine ⟨x', y', E2.eq (fun k m => impl_StepsAndLeaps.l0_eq k m x y _ s) (E2.pos z (E2.pos (by rw [wp]; omega) (E2.pos (by rw [wp]; omega) (E2.pos (by omega) (E2.pos z (E2.neg c1 (E2.neg c2 ?_))))))), hh⟩
            simp only [wrapS (show i < 9223372036854775807 by omega)]
            exact e
      · exact ⟨x, y, E2.eq (fun k m => impl_StepsAndLeaps.l0_eq k m x y _ s) (E2.neg z E2.ret), hx, hy, by omega⟩
  obtain ⟨x, y, e, hh⟩ := key s.length 1 0 0 (by omega) (by omega) (by omega) (by omega) (by omega)
  exact ⟨x, y, Ev.eq (fun k => impl_StepsAndLeaps_eq k l v) (Ev.bind hv (Ev.loop (f := fun k m => impl_StepsAndLeaps.l0 k m 0 0 1 s) e)), hh⟩
theorem countV_ev (l : List DT60) (hl : l.length ≤ 1048576) : ∃ v : Int, Ev (fun k => impl_CountVoices k l) v ∧ v ≤ ((l.length : Nat) : Int) := by
  have key : ∀ (d i : Nat) (s : List Int), i + d = l.length → s.length ≤ i → ∃ v : Int, E2 (fun k m => impl_CountVoices.l0 k m l ((List.length l : Nat) : Int) (i : Int) s) v ∧ v ≤ ((l.length : Nat) : Int) := by
    intro d
    induction d with
    | zero =>
      intro i s hi hs
      exact ⟨_, E2.eq (fun k m => impl_CountVoices.l0_eq k m l _ _ s) (E2.neg (by omega) E2.ret), by omega⟩
    | succ d ih =>
      intro i s hi hs
      have ec := contains_ev s (rd T60 l (i : Int)).2.2.2.1 (by omega)
      by_cases c : decide ((rd T60 l (i : Int)).2.2.2.1 ∈ s) = true
      · obtain ⟨v, e, hv⟩ := ih (i + 1) s (by omega) (by omega)
        refine ⟨v, E2.eq (fun k m => impl_CountVoices.l0_eq k m l _ _ s) (E2.pos (by omega) (E2.pos (by omega) (E2.pos (by omega) (E2.bind ec (E2.neg (fun h => h c) ?_))))), hv⟩
        simp only [wrapS (show i < 9223372036854775807 by omega)]
        exact e
      · obtain ⟨v, e, hv⟩ := ih (i + 1) (s ++ ([(rd T60 l (i : Int)).2.2.2.1] : (List Int))) (by omega) (by rw [List.length_append]; show _ + 1 ≤ _; omega)
        refine ⟨v, E2.eq (fun k m => impl_CountVoices.l0_eq k m l _ _ s) (E2.pos (by omega) (E2.pos (by omega) (E2.pos (by omega) (E2.bind ec (E2.pos c (E2.pos (by show (_ + 1) * 8 ≤ _; omega) ?_)))))), hv⟩
        simp only [wrapS (show i < 9223372036854775807 by omega)]
        exact e
  obtain ⟨v, e, hv⟩ := key l.length 0 [] (by omega) (by simp)
  exact ⟨v, Ev.eq (fun k => impl_CountVoices_eq k l) (Ev.loop (f := fun k m => impl_CountVoices.l0 k m l ((List.length l : Nat) : Int) 0 []) e), hv⟩
theorem chordOfI_ev (c : List Int) : ∃ v : Res, Ev (fun k => impl_ChordOf k c) v ∧ (v.2.1 = true → chordP v.1) := by
  have key : ∀ (d : Nat) (kd a' b' : Int), kd + d = 6 → 1 ≤ kd → ∃ v : Res, E2 (fun k m => impl_ChordOf.l0 k m c kd a' b') v ∧ (v.2.1 = true → chordP v.1) := by
    intro d
    induction d with
    | zero =>
      intro kd a' b' h1 h2
      exact ⟨_, E2.eq (fun k m => impl_ChordOf.l0_eq k m c kd a' b') (E2.neg (by omega) E2.ret), fun h => by cases h⟩
    | succ d ih =>
      intro kd a' b' h1 h2
      obtain ⟨v0, o2, o3⟩ := ih (kd + 1) a' b' (by omega) (by omega)
      have inner : ∀ (e : Nat) (r : Int), r + e = 12 → 0 ≤ r → ∃ v : Res, E3 (fun k m n => impl_ChordOf.l1 k m n c kd r a' b') v ∧ (v.2.1 = true → chordP v.1) := by
        intro e
        induction e with
        | zero =>
          intro r hr h0
          refine ⟨v0, E3.eq (fun k m n => impl_ChordOf.l1_eq k m n c kd r a' b') (E3.neg (by omega) ?_), o3⟩
          rw [wrapI (by omega) (by omega)]; exact E3.out o2
        | succ e ih2 =>
          intro r hr h0
          have ht := tones_le r kd ⟨h2, by omega⟩
          by_cases hc : tones r kd = c
          · exact ⟨((r, (kd, ())), (true, ())), E3.eq (fun k m n => impl_ChordOf.l1_eq k m n c kd r a' b') (E3.pos (by omega) (E3.bind (implTones_ev r kd ⟨h0, by omega⟩ ⟨h2, by omega⟩) (E3.bind (eqIntsI_ev _ _ (by omega)) (E3.pos (by simpa using hc) E3.ret)))), fun _ => ⟨⟨h0, by show r ≤ 11; omega⟩, h2, by show kd ≤ 5; omega⟩⟩
          · obtain ⟨v, e2, e3⟩ := ih2 (r + 1) (by omega) (by omega)
            refine ⟨v, E3.eq (fun k m n => impl_ChordOf.l1_eq k m n c kd r a' b') (E3.pos (by omega) (E3.bind (implTones_ev r kd ⟨h0, by omega⟩ ⟨h2, by omega⟩) (E3.bind (eqIntsI_ev _ _ (by omega)) (E3.neg (by simpa using hc) ?_)))), e3⟩
            rw [wrapI (by omega) (by omega)]; exact e2
      obtain ⟨v, e2, e3⟩ := inner 12 0 (by omega) (by omega)
      exact ⟨v, E2.eq (fun k m => impl_ChordOf.l0_eq k m c kd a' b') (E2.pos (by omega) (E3.loop (f := fun k m n => impl_ChordOf.l1 k m n c kd 0 a' b') e2)), e3⟩
  obtain ⟨v, e2, e3⟩ := key 5 1 0 0 (by omega) (by omega)
  exact ⟨v, Ev.eq (fun k => impl_ChordOf_eq k c) (Ev.loop (f := fun k m => impl_ChordOf.l0 k m c 1 0 0) e2), e3⟩
theorem chordAtI_ev (l : List DT60) (tick : Int) (hl : l.length ≤ 1048576) : ∃ v : Res, Ev (fun k => impl_ChordAt k l tick) v ∧ (v.2.1 = true → chordP v.1) := by
  have hs : (sounds l tick).length ≤ 1048576 := by
    unfold sounds
    split
    · have := num8s_le (heard l tick) []
      have := heard_le l tick
      simp at *
      omega
    · simp
  obtain ⟨v, e, hv⟩ := chordOfI_ev (cls (sounds l tick))
  exact ⟨(v.1, (decide (v.2.1 = true), ())), Ev.eq (fun k => impl_ChordAt_eq k l tick) (Ev.bind (implSounds_ev l tick hl) (Ev.bind (implClasses_ev _ hs) (Ev.bind e Ev.ret))), fun h => hv (of_decide_eq_true h)⟩
def goodC (s : List DT25) : Prop := ∀ i : Nat, i < s.length → chordP (rd T25 s (i : Int)) ∧ (0 < i → ¬ ((((rd T25 s ((i - 1 : Nat) : Int)).1 : Int) = (rd T25 s (i : Int)).1) ∧ (((rd T25 s ((i - 1 : Nat) : Int)).2.1 : Int) = (rd T25 s (i : Int)).2.1)))
theorem rd_appL {t : Ty} {s u : List t.den} {i : Nat} (h : i < s.length) : rd t (s ++ u) (i : Int) = rd t s (i : Int) := by
  rw [rd_at (by rw [List.length_append]; omega), rd_at h, List.getElem_append_left h]
theorem rd_appR {t : Ty} {s : List t.den} {x : t.den} : rd t (s ++ [x]) (s.length : Int) = x := by
  rw [rd_at (by rw [List.length_append]; simp)]
  simp
theorem goodC_add {s : List DT25} {x : DT25} (h : goodC s) (hx : chordP x) (hl : 0 < s.length → ¬ ((((rd T25 s ((s.length - 1 : Nat) : Int)).1 : Int) = x.1) ∧ (((rd T25 s ((s.length - 1 : Nat) : Int)).2.1 : Int) = x.2.1))) : goodC (s ++ [x]) := by
  intro i hi
  rw [List.length_append, List.length_singleton] at hi
  rcases Nat.lt_succ_iff_lt_or_eq.1 hi with c | c
  · rw [rd_appL c]
    refine ⟨(h i c).1, fun h0 => ?_⟩
    rw [rd_appL (show i - 1 < s.length by omega)]
    exact (h i c).2 h0
  · subst c
    rw [rd_appR]
    refine ⟨hx, fun h0 => ?_⟩
    rw [rd_appL (show s.length - 1 < s.length by omega)]
    exact hl h0
theorem chordsInI_ev (l : List DT60) (hl : l.length ≤ 1048576) : ∃ v : List DT25, v.length ≤ 1048576 ∧ Ev (fun k => impl_ChordsIn k l) v ∧ goodC v := by
  have second : ∀ (ts : List Int), ts.length ≤ 1048576 → ∀ d (i : Nat) (s : List DT25) (x' : Int), i + d = ts.length → s.length ≤ i → goodC s → ∃ v : List DT25, v.length ≤ 1048576 ∧ goodC v ∧
      E2 (fun k m => impl_ChordsIn.l1 k m l l ((List.length l : Nat) : Int) x' ((List.length ts : Nat) : Int) (i : Int) s ts) v := by
    intro ts hts d
    induction d with
    | zero =>
      intro i s x' hi hs hg
      exact ⟨s, by omega, hg, E2.eq (fun k m => impl_ChordsIn.l1_eq k m l l _ _ _ _ s _) (E2.neg (by omega) E2.ret)⟩
    | succ d ih =>
      intro i s x' hi hs hg
      obtain ⟨c, c2, hc⟩ := chordAtI_ev l (rd (.int .i64) ts (i : Int)) hl
      have go : ∀ s' : List DT25, s'.length ≤ i + 1 → goodC s' → ∃ v : List DT25, v.length ≤ 1048576 ∧ goodC v ∧
          E2 (fun k m => impl_ChordsIn.l1 k m l l ((List.length l : Nat) : Int) x' ((List.length ts : Nat) : Int) (IntKind.wrap .i64 ((i : Int) + 1)) s' ts) v := by
        intro s' hs' hg'
        rw [wrapS (show i < 9223372036854775807 by omega)]
        exact ih (i + 1) s' x' (by omega) hs' hg'
      by_cases h1 : c.2.1 = true
      · by_cases h2 : ((List.length s : Nat) : Int) = 0
        · obtain ⟨v, hv, hgv, e2⟩ := go (s ++ [c.1]) (by simp; omega) (goodC_add hg (hc h1) (fun h => absurd h (by omega)))
          exact ⟨v, hv, hgv, E2.eq (fun k m => impl_ChordsIn.l1_eq k m l l _ _ _ _ s _) (E2.pos (by omega) (E2.pos (by omega) (E2.pos (by omega) (E2.bind c2 (E2.pos h1 (E2.pos h2 (E2.pos (by simp only [List.length_cons, List.length_nil]; omega) e2)))))))⟩
        · have hw : IntKind.wrap .i64 (((List.length s : Nat) : Int) - 1) = ((s.length - 1 : Nat) : Int) := wrapP (by omega) (by omega)
          by_cases h3 : ¬ ((((rd T25 s (IntKind.wrap .i64 (((List.length s : Nat) : Int) - 1))).1 : Int) = c.1.1) ∧ (((rd T25 s (IntKind.wrap .i64 (((List.length s : Nat) : Int) - 1))).2.1 : Int) = c.1.2.1))
          · obtain ⟨v, hv, hgv, e2⟩ := go (s ++ [c.1]) (by simp; omega) (goodC_add hg (hc h1) (fun _ => by rw [← hw]; exact h3))
            exact ⟨v, hv, hgv, E2.eq (fun k m => impl_ChordsIn.l1_eq k m l l _ _ _ _ s _) (E2.pos (by omega) (E2.pos (by omega) (E2.pos (by omega) (E2.bind c2 (E2.pos h1 (E2.neg h2 (E2.pos (by rw [hw]; omega) (E2.pos (by rw [hw]; omega) (E2.pos h3 (E2.pos (by simp only [List.length_cons, List.length_nil]; omega) e2))))))))))⟩
          · obtain ⟨v, hv, hgv, e2⟩ := go s (by omega) hg
            exact ⟨v, hv, hgv, E2.eq (fun k m => impl_ChordsIn.l1_eq k m l l _ _ _ _ s _) (E2.pos (by omega) (E2.pos (by omega) (E2.pos (by omega) (E2.bind c2 (E2.pos h1 (E2.neg h2 (E2.pos (by rw [hw]; omega) (E2.pos (by rw [hw]; omega) (E2.neg h3 e2)))))))))⟩
      · obtain ⟨v, hv, hgv, e2⟩ := go s (by omega) hg
        exact ⟨v, hv, hgv, E2.eq (fun k m => impl_ChordsIn.l1_eq k m l l _ _ _ _ s _) (E2.pos (by omega) (E2.pos (by omega) (E2.pos (by omega) (E2.bind c2 (E2.neg h1 e2)))))⟩
  have key : ∀ d (i : Nat) (s : List Int), i + d = l.length → s.length ≤ i → ∃ v : List DT25, v.length ≤ 1048576 ∧ goodC v ∧ E2 (fun k m => impl_ChordsIn.l0 k m l l ((List.length l : Nat) : Int) (i : Int) [] s) v := by
    intro d
    induction d with
    | zero =>
      intro i s hi hs
      have hb : (dd (sortI s)).length ≤ 1048576 := by
        have := dd_le (sortI s)
        have : (sortI s).length = s.length := by unfold sortI; rw [List.length_mergeSort]
        omega
      obtain ⟨v, hv, hg, e2⟩ := second (dd (sortI s)) hb _ 0 [] (i : Int) (Nat.zero_add _) (by simp) (fun i hi => absurd hi (by simp))
      exact ⟨v, hv, hg, E2.eq (fun k m => impl_ChordsIn.l0_eq k m l l _ _ _ s) (E2.neg (by omega) (E2.bind (sort_ev s (by omega)) (E2.bind (compact_ev _ (by unfold sortI; rw [List.length_mergeSort]; omega)) (E2.of (Ev.loop (f := fun k m => impl_ChordsIn.l1 k m l l ((List.length l : Nat) : Int) (i : Int) ((List.length (dd (sortI s)) : Nat) : Int) 0 [] (dd (sortI s))) e2)))))⟩
    | succ d ih =>
      intro i s hi hs
      obtain ⟨v, hv, hg, e2⟩ := ih (i + 1) (s ++ ([(rd T60 l (i : Int)).1] : (List Int))) (by omega) (by rw [List.length_append]; show _ + 1 ≤ _; omega)
      refine ⟨v, hv, hg, E2.eq (fun k m => impl_ChordsIn.l0_eq k m l l _ _ _ s) (E2.pos (by omega) (E2.pos (by omega) (E2.pos (by omega) (E2.pos (by show (_ + 1) * 8 ≤ _; omega) ?_))))⟩
      simp only [wrapS (show i < 9223372036854775807 by omega)]
      exact e2
  obtain ⟨v, hv, hg, e2⟩ := key l.length 0 [] (by omega) (by simp)
  exact ⟨v, hv, Ev.eq (fun k => impl_ChordsIn_eq k l) (Ev.loop (f := fun k m => impl_ChordsIn.l0 k m l l ((List.length l : Nat) : Int) 0 [] []) e2), hg⟩
theorem busy_ev (o : DT32) (h : Bk T32 o) : ∃ b : Int, Ev (fun k => impl_BusiestPlayer k o) b ∧ (o.2.2.2.2.1.length = 0 ∧ b = 0 ∨ (b : Int) ∈ o.2.2.2.2.1) := by
  have hs := h.2.2.2.2.1.1
  have key : ∀ (d i : Nat) (b n : Int), i + d = o.2.2.2.2.1.length → (i = 0 ∧ b = 0 ∧ n = -1 ∨ (b : Int) ∈ o.2.2.2.2.1) → ∃ v : Int, E2 (fun k m => impl_BusiestPlayer.l0 k m b n o.2.2.2.2.1 ((List.length o.2.2.2.2.1 : Nat) : Int) (i : Int) o.1 o.2.1.1 o.2.1.2.1 o.2.2.1 o.2.2.2.1 o.2.2.2.2.1 o.2.2.2.2.2.1 o.2.2.2.2.2.2.1 o.2.2.2.2.2.2.2.1 o.2.2.2.2.2.2.2.2.1) v ∧ (o.2.2.2.2.1.length = 0 ∧ v = 0 ∨ (v : Int) ∈ o.2.2.2.2.1) := by
    intro d
    induction d with
    | zero =>
      intro i b n hi hb
      refine ⟨b, E2.eq (fun k m => impl_BusiestPlayer.l0_eq k m _ _ _ _ _ _ _ _ _ _ _ _ _ _ _) (E2.neg (by omega) E2.ret), ?_⟩
      rcases hb with ⟨h1, h2, _⟩ | h1
      · exact .inl ⟨by omega, h2⟩
      · exact .inr h1
    | succ d ih =>
      intro i b n hi hb
      have ev := implVoice_ev o.1 (IntKind.wrap .i64 ((i : Int) + 1)) h.1.1
      by_cases c : n < ((List.length (o.1.filter (ofVoice (IntKind.wrap .i64 ((i : Int) + 1)))) : Nat) : Int)
      · obtain ⟨v, e, hv⟩ := ih (i + 1) (rd (.int .i64) o.2.2.2.2.1 (i : Int)) ((List.length (o.1.filter (ofVoice (IntKind.wrap .i64 ((i : Int) + 1)))) : Nat) : Int) (by omega) (.inr (by
          rw [rd_at (t := .int .i64) (show i < o.2.2.2.2.1.length by omega)]
          exact List.getElem_mem _))
        refine ⟨v, E2.eq (fun k m => impl_BusiestPlayer.l0_eq k m _ _ _ _ _ _ _ _ _ _ _ _ _ _ _) (E2.pos (by omega) (E2.pos (by omega) (E2.pos (by omega) (E2.bind ev (E2.pos c ?_))))), hv⟩
        rw [wrapS (show i < 9223372036854775807 by omega)] at e ⊢
        exact e
      · rcases hb with ⟨h1, h2, h3⟩ | h1
        · exact absurd (show n < ((List.length (o.1.filter (ofVoice (IntKind.wrap .i64 ((i : Int) + 1)))) : Nat) : Int) by omega) c
        obtain ⟨v, e, hv⟩ := ih (i + 1) b n (by omega) (.inr h1)
        refine ⟨v, E2.eq (fun k m => impl_BusiestPlayer.l0_eq k m _ _ _ _ _ _ _ _ _ _ _ _ _ _ _) (E2.pos (by omega) (E2.pos (by omega) (E2.pos (by omega) (E2.bind ev (E2.neg c ?_))))), hv⟩
        simp only [wrapS (show i < 9223372036854775807 by omega)]
        exact e
  obtain ⟨v, e, hv⟩ := key o.2.2.2.2.1.length 0 0 (-1) (by omega) (.inl ⟨rfl, rfl, rfl⟩)
  exact ⟨v, Ev.eq (fun k => impl_BusiestPlayer_eq k o) (Ev.loop (f := fun k m => impl_BusiestPlayer.l0 k m 0 (-1) o.2.2.2.2.1 ((List.length o.2.2.2.2.1 : Nat) : Int) 0 o.1 o.2.1.1 o.2.1.2.1 o.2.2.1 o.2.2.2.1 o.2.2.2.2.1 o.2.2.2.2.2.1 o.2.2.2.2.2.2.1 o.2.2.2.2.2.2.2.1 o.2.2.2.2.2.2.2.2.1) e), hv⟩
theorem tailB (code : List Int) (hc : code.length ≤ 1048576) : Ev (fun k =>
   (spec_DrawBusiestPlayer k code).bind fun r24 =>
   (impl_BusiestPlayer k r24).bind fun r25 =>
   if (((List.length r24.2.2.2.2.1 : Nat) : Int) : Int) = 0 then
   if (r25 : Int) = 0 then
   some true
   else (laws_contains k r24.2.2.2.2.1 r25).bind fun r26 =>
   some (decide (r26 = true))
   else (laws_contains k r24.2.2.2.2.1 r25).bind fun r27 =>
   some (decide (r27 = true))) true := by
  obtain ⟨o, ho, e1⟩ := drawBusy_ev code hc
  obtain ⟨b, e2, hb⟩ := busy_ev o ho
  have hs := ho.2.2.2.2.1.1
  refine Ev.bind e1 (Ev.bind e2 ?_)
  by_cases c : (((List.length o.2.2.2.2.1 : Nat) : Int) : Int) = 0
  · refine Ev.pos c ?_
    rcases hb with ⟨_, hb⟩ | hb
    · exact Ev.pos hb Ev.ret
    · have := List.length_pos_of_mem hb
      omega
  · refine Ev.neg c ?_
    rcases hb with ⟨h0, _⟩ | hb
    · omega
    · exact Ev.bind (contains_law _ _ hs) (Ev.ret.val (by simpa using hb))
theorem loopC (code : List Int) (hc : code.length ≤ 1048576) (d_4 i_5 : Int) (s0 : List DT60) (s1 : List DT25) (h1 : s1.length ≤ 1048576) (hg : goodC s1) : ∀ d i : Nat, i + d = s1.length → E2 (fun k m => laws_FnMeasured.l1 k m code d_4 i_5 (i : Int) s0 s1) true := by
  intro d
  induction d with
  | zero =>
    intro i hi
    exact E2.eq (fun k m => laws_FnMeasured.l1_eq k m code d_4 i_5 _ s0 s1) (E2.neg (by omega) (E2.of (tailB code hc)))
  | succ d ih =>
    intro i hi
    obtain ⟨g1, g2⟩ := hg i (by omega)
    have e := ih (i + 1) (by omega)
    refine E2.eq (fun k m => laws_FnMeasured.l1_eq k m code d_4 i_5 _ s0 s1) (E2.pos (by omega) (E2.pos (by omega) (E2.pos (by omega) (E2.bind (implIsChord_ev _) (E2.neg (by simpa using g1) ?_)))))
    by_cases c : 0 < i
    · refine E2.pos (by omega) ?_
      simp only [wrapP c (show i < 9223372036854775807 by omega), wrapS (show i < 9223372036854775807 by omega)]
      exact E2.pos (by omega) (E2.pos (by omega) (E2.pos (by omega) (E2.pos (by omega) (E2.neg (g2 c) e))))
    · refine E2.neg (by omega) ?_
      simp only [wrapS (show i < 9223372036854775807 by omega)]
      exact e
theorem tailM (code : List Int) (hc : code.length ≤ 1048576) (d_4 i_5 : Int) (s0 : List DT60) (h0 : s0.length ≤ 1048576) : Ev (fun k =>
   (spec_DrawRestShare k code).bind fun r7 =>
   (impl_RestShare k r7).bind fun r8 =>
   (spec_DrawStepsAndLeaps k code).bind fun r9 =>
   (impl_StepsAndLeaps k r9.1 r9.2.1).bind fun r10 =>
   if (r8 : Int) < 0 then
   some false
   else if (100 : Int) < r8 then
   some false
   else (impl_VoiceOf k r9.1 r9.2.1).bind fun r11 =>
   if (((List.length r11 : Nat) : Int) : Int) < (IntKind.wrap .i64 (r10.1 + r10.2.1)) then
   some false
   else (impl_CountVoices k s0).bind fun r12 =>
   if (((List.length s0 : Nat) : Int) : Int) < r12 then
   some false
   else (spec_DrawChordsIn k code).bind fun r13 =>
   (impl_ChordsIn k r13).bind fun r14 =>
   laws_FnMeasured.l1 k k code d_4 i_5 0 s0 r14) true := by
  obtain ⟨p, hp, e1⟩ := drawRest_ev code hc
  obtain ⟨r, e2, hr0, hr1⟩ := restShare_ev p (by omega)
  obtain ⟨a, v, ha, e3⟩ := drawLeaps_ev code hc
  obtain ⟨x, y, e4, hx, hy, hxy⟩ := leaps_ev a v (by omega)
  have e5 := implVoice_ev a v (show a.length ≤ 1048576 by omega)
  have hf : (a.filter (ofVoice v)).length ≤ a.length := List.length_filter_le _ _
  have w : IntKind.wrap .i64 (x + y) = x + y := wrapI (by omega) (by omega)
  obtain ⟨n, e6, hn⟩ := countV_ev s0 h0
  obtain ⟨s, hs, e7⟩ := drawChords_ev code hc
  obtain ⟨c, hcl, e8, hg⟩ := chordsInI_ev s (by omega)
  refine Ev.bind e1 (Ev.bind e2 (Ev.bind e3 (Ev.bind e4 (Ev.neg (by omega) (Ev.neg (by omega) (Ev.bind e5 (Ev.neg ?_ (Ev.bind e6 (Ev.neg (by omega) (Ev.bind e7 (Ev.bind e8 ?_)))))))))))
  · show ¬ ((((List.length (a.filter (ofVoice v)) : Nat) : Int) : Int) < (IntKind.wrap .i64 (x + y)))
    rw [w]
    omega
  · exact Ev.loop (f := fun k m => laws_FnMeasured.l1 k m code d_4 i_5 0 s0 c) (loopC code hc d_4 i_5 s0 c hcl hg c.length 0 (by omega))
theorem loopM (code : List Int) (hc : code.length ≤ 1048576) (v : Int) (l : List DT60) (hl : l.length ≤ 1048576) (hv : 0 ≤ v → ∀ i : Nat, i < l.length → (sounds l (rd T60 l (i : Int)).1).length ≤ (sounds l v).length) : ∀ d i : Nat, i + d = l.length → E2 (fun k m => laws_FnMeasured.l0 k m code v (i : Int) l) true := by
  intro d
  induction d with
  | zero =>
    intro i hi
    exact E2.eq (fun k m => laws_FnMeasured.l0_eq k m code v _ l) (E2.neg (by omega) (E2.of (tailM code hc v (i : Int) l hl)))
  | succ d ih =>
    intro i hi
    refine E2.eq (fun k m => laws_FnMeasured.l0_eq k m code v _ l) (E2.pos (by omega) ?_)
    by_cases c : 0 ≤ v
    · have := hv c i (by omega)
      refine E2.pos c (E2.pos (by omega) (E2.pos (by omega) (E2.bind (implSounds_ev l _ hl) (E2.bind (implSounds_ev l _ hl) (E2.neg (by omega) ?_)))))
      simp only [wrapS (show i < 9223372036854775807 by omega)]
      exact ih (i + 1) (by omega)
    · exact E2.neg c (E2.of (tailM code hc v (i : Int) l hl))
theorem pure (a0 : List Int) (w0 : Wd (.list (.int .u8)) a0) : ∃ k, laws_FnMeasured k a0 = some true := by
  refine Ev.at (f := fun k => laws_FnMeasured k a0) ?_
  by_cases hb : (1048576 : Int) < ((List.length a0 : Nat) : Int)
  · exact Ev.eq (fun k => laws_FnMeasured_eq k a0) (Ev.bind (Ev.eq (fun k => laws_big_eq k a0) Ev.ret) (Ev.pos (by simpa using hb) Ev.ret))
  have hc : a0.length ≤ 1048576 := by omega
  obtain ⟨l, hl, e1⟩ := drawScore_ev a0 hc
  obtain ⟨v, e2, hv, hm⟩ := densI_ev l (by omega)
  have lp := loopM a0 hc v l (by omega) hm l.length 0 (by omega)
  have lp := Ev.loop (f := fun k m => laws_FnMeasured.l0 k m a0 v 0 l) lp
  refine Ev.eq (fun k => laws_FnMeasured_eq k a0) (Ev.bind (Ev.eq (fun k => laws_big_eq k a0) Ev.ret) (Ev.neg (by simpa using hb) (Ev.bind e1 (Ev.bind e2 (Ev.bind (implScore_ev l (by omega)) ?_)))))
  by_cases hp : scoreP l
  · refine Ev.pos (by simpa using hp) (Ev.neg (fun h => h ?_) lp)
    have := hv hp
    congr 1
    rw [eq_iff_iff]
    omega
  · exact Ev.neg (by simpa using hp) lp
end Go.QFnMeasured
