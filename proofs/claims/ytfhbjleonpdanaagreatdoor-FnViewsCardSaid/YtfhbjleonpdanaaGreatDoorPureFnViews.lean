/- The plain half of FnViews. No condition. -/
import Derived.Test.YtfhbjleonpdanaaGreatDoorQFnViews
import Derived.Test.YtfhbjleonpdanaaGreatDoorPur
set_option linter.unusedVariables false
set_option linter.unusedSimpArgs false
open Go Go.Flat
namespace Go.QFnViews
theorem l1In_ev (x lo hi : Int) : Ev (fun k => spec_l1In k x lo hi) (decide (lo ≤ x ∧ x ≤ hi)) := by
  by_cases c : lo ≤ x
  · exact Ev.eq (fun k => spec_l1In_eq k x lo hi) (Ev.pos c (Ev.ret.val (by simp [c])))
  · exact Ev.eq (fun k => spec_l1In_eq k x lo hi) (Ev.neg c (Ev.ret.val (by simp [c])))
theorem inRange_ev (x lo hi : Int) : Ev (fun k => impl_InRange k x lo hi) (decide (lo ≤ x ∧ x ≤ hi)) := by
  by_cases c : lo ≤ x
  · exact Ev.eq (fun k => impl_InRange_eq k x lo hi) (Ev.pos c (Ev.ret.val (by simp [c])))
  · exact Ev.eq (fun k => impl_InRange_eq k x lo hi) (Ev.neg c (Ev.ret.val (by simp [c])))
def gcdI (a b : Int) : Int := (Nat.gcd a.toNat b.toNat : Int)
def absI (n : Int) : Int := (n.natAbs : Int)
def isR (n d : Int) : Bool := decide ((1 ≤ d ∧ d ≤ 1000000) ∧ (-1000000000 ≤ n ∧ n ≤ 1000000000) ∧ gcdI (absI n) d = 1)
abbrev Res : Type := DT31 × (Bool × Unit)
def noR : Res := ((0, (0, ())), (false, ()))
def mk (n d : Int) : Res :=
  if isR (Int.tdiv n (gcdI (absI n) d)) (Int.tdiv d (gcdI (absI n) d)) = true then ((Int.tdiv n (gcdI (absI n) d), (Int.tdiv d (gcdI (absI n) d), ())), (true, ())) else noR
theorem specMax_ev (a b : Int) : Ev (fun k => spec_Max k a b) (max a b) := by
  by_cases c : a < b
  · exact Ev.eq (fun k => spec_Max_eq k a b) (Ev.pos c (Ev.ret.val (by omega)))
  · exact Ev.eq (fun k => spec_Max_eq k a b) (Ev.neg c (Ev.ret.val (by omega)))
theorem dec_of {f : Nat → Option Bool} {p : Prop} [d : Decidable p] (h : ∃ r, Ev f r ∧ (r = true ↔ p)) : Ev f (decide p) := by
  obtain ⟨r, e, hr⟩ := h
  exact e.val (by rw [Bool.eq_iff_iff, hr]; simp)
theorem loop_allE {F : Int → Nat → Nat → Option Bool} {n : Nat} (Q : Nat → Prop) (c : Bool) (hend : E2 (F (n : Int)) c)
    (hgo : ∀ i, i < n → Q i → ∀ v, E2 (F ((i + 1 : Nat) : Int)) v → E2 (F (i : Int)) v) (hstop : ∀ i, i < n → ¬ Q i → E2 (F (i : Int)) false) :
    ∃ r, E2 (F 0) r ∧ (r = true ↔ (∀ i, i < n → Q i) ∧ c = true) := by
  have key : ∀ d i, i + d = n → ∃ r, E2 (F (i : Int)) r ∧ (r = true ↔ (∀ j, i ≤ j → j < n → Q j) ∧ c = true) := by
    intro d
    induction d with
    | zero =>
      intro i hi
      have hi : i = n := by omega
      subst hi
      exact ⟨c, hend, ⟨fun h => ⟨fun j _ _ => by omega, h⟩, fun h => h.2⟩⟩
    | succ d ih =>
      intro i hi
      obtain ⟨r, er, hr⟩ := ih (i + 1) (by omega)
      by_cases hq : Q i
      · refine ⟨r, hgo i (by omega) hq r er, hr.trans ⟨fun h => ⟨fun j h1 h2 => ?_, h.2⟩, fun h => ⟨fun j h1 h2 => h.1 j (by omega) h2, h.2⟩⟩⟩
        by_cases hj : j = i
        · subst hj; exact hq
        · exact h.1 j (by omega) h2
      · exact ⟨false, hstop i (by omega) hq, by simp only [Bool.false_eq_true, false_iff]; exact fun h => hq (h.1 i (Nat.le_refl _) (by omega))⟩
  obtain ⟨r, er, hr⟩ := key n 0 (by omega)
  exact ⟨r, er, hr.trans ⟨fun h => ⟨fun i hi => h.1 i (Nat.zero_le _) hi, h.2⟩, fun h => ⟨fun i _ hi => h.1 i hi, h.2⟩⟩⟩
theorem wrapP {i : Nat} (h : 0 < i) (h2 : i < 9223372036854775807) : IntKind.wrap .i64 ((i : Int) - 1) = ((i - 1 : Nat) : Int) := by
  rw [wrapI (by omega) (by omega)]; omega
def okE (e : DT45) : Prop := (0 ≤ (e.1 : Int) ∧ (e.1 : Int) ≤ 2000) ∧ (1 ≤ (e.2.1 : Int) ∧ (e.2.1 : Int) ≤ 96) ∧ (21 ≤ (e.2.2.1 : Int) ∧ (e.2.2.1 : Int) ≤ 108) ∧ 1 ≤ (e.2.2.2.1 : Int) ∧ (e.2.2.2.1 : Int) ≤ 4
instance (e : DT45) : Decidable (okE e) := by unfold okE; infer_instance
theorem l8Ok_ev (e : DT45) : Ev (fun k => spec_l8Ok k e) (decide (okE e)) := by
  refine Ev.eq (fun k => spec_l8Ok_eq k e) (Ev.bind (l1In_ev _ _ _) ?_)
  unfold okE
  by_cases c1 : 0 ≤ (e.1 : Int) ∧ (e.1 : Int) ≤ 2000
  · refine Ev.pos (by simp [c1]) (Ev.bind (l1In_ev _ _ _) ?_)
    by_cases c2 : 1 ≤ (e.2.1 : Int) ∧ (e.2.1 : Int) ≤ 96
    · refine Ev.pos (by simp [c2]) (Ev.bind (l1In_ev _ _ _) ?_)
      by_cases c3 : 21 ≤ (e.2.2.1 : Int) ∧ (e.2.2.1 : Int) ≤ 108
      · exact Ev.pos (by simp [c3]) (Ev.bind (l1In_ev _ _ _) (Ev.ret.val (by simp only [c1, c2, c3, true_and, and_self, decide_eq_true_eq])))
      · exact Ev.neg (by simpa using c3) (Ev.ret.val (by simp only [c3, false_and, and_false, decide_false]))
    · exact Ev.neg (by simpa using c2) (Ev.ret.val (by simp only [c2, false_and, and_false, decide_false]))
  · exact Ev.neg (by simpa using c1) (Ev.ret.val (by simp only [c1, false_and, decide_false]))
def bef (a b : DT45) : Prop := (a.1 : Int) < b.1 ∨ (a.1 : Int) = b.1 ∧ ((a.2.2.2.1 : Int) < b.2.2.2.1 ∨ (a.2.2.2.1 : Int) = b.2.2.2.1 ∧ (a.2.2.1 : Int) < b.2.2.1)
instance (a b : DT45) : Decidable (bef a b) := by unfold bef; infer_instance
theorem before_ev (a b : DT45) : Ev (fun k => spec_l8Before k a b) (decide (bef a b)) := by
  refine Ev.eq (fun k => spec_l8Before_eq k a b) ?_
  unfold bef
  by_cases c1 : (a.1 : Int) = b.1
  · refine Ev.neg (by omega) ?_
    by_cases c2 : (a.2.2.2.1 : Int) = b.2.2.2.1
    · exact Ev.neg (by omega) (Ev.ret.val (by congr 1; exact propext ⟨fun h => .inr ⟨c1, .inr ⟨c2, h⟩⟩, fun h => by omega⟩))
    · exact Ev.pos (by omega) (Ev.ret.val (by congr 1; exact propext ⟨fun h => .inr ⟨c1, .inl h⟩, fun h => by omega⟩))
  · exact Ev.pos (by omega) (Ev.ret.val (by congr 1; exact propext ⟨fun h => .inl h, fun h => by omega⟩))
def QS (l : List DT45) (i : Nat) : Prop := okE (rd T45 l (i : Int)) ∧ (0 < i → bef (rd T45 l ((i - 1 : Nat) : Int)) (rd T45 l (i : Int)))
instance (l : List DT45) (i : Nat) : Decidable (QS l i) := by unfold QS; infer_instance
def scoreP (l : List DT45) : Prop := (∀ i, i < l.length → QS l i) ∧ decide (((l.length : Nat) : Int) ≤ 40) = true
instance (l : List DT45) : Decidable (scoreP l) := by unfold scoreP; infer_instance
theorem specScoreB_ev (l : List DT45) (hl : l.length ≤ 33554432) : Ev (fun k => spec_IsScore k l) (decide (scoreP l)) := by
  refine dec_of ?_
  obtain ⟨r, er, hr⟩ := loop_allE (F := fun i k m => spec_IsScore.l0 k m l i) (n := l.length) (QS l) (decide (((l.length : Nat) : Int) ≤ 40)) (E2.eq (fun k m => spec_IsScore.l0_eq k m l _) (E2.neg (by omega) E2.ret)) (fun i hi hq v e => by
    refine E2.eq (fun k m => spec_IsScore.l0_eq k m l _) (E2.pos (by omega) (E2.pos (by omega) (E2.pos (by omega) (E2.bind (l8Ok_ev _) (E2.neg (by simpa using hq.1) ?_)))))
    by_cases c : 0 < i
    · refine E2.pos (by omega) ?_
      simp only [wrapP c (show i < 9223372036854775807 by omega), wrapS (show i < 9223372036854775807 by omega)]
      exact E2.pos (by omega) (E2.pos (by omega) (E2.pos (by omega) (E2.pos (by omega) (E2.bind (before_ev _ _) (E2.neg (by simpa using hq.2 c) e)))))
    · refine E2.neg (by omega) ?_
      simp only [wrapS (show i < 9223372036854775807 by omega)]
      exact e) (fun i hi hq => by
    refine E2.eq (fun k m => spec_IsScore.l0_eq k m l _) (E2.pos (by omega) (E2.pos (by omega) (E2.pos (by omega) (E2.bind (l8Ok_ev _) ?_))))
    by_cases c0 : okE (rd T45 l (i : Int))
    · refine E2.neg (by simpa using c0) ?_
      have c : 0 < i := by
        rcases Nat.eq_zero_or_pos i with h | h
        · exact absurd ⟨c0, fun h' => by omega⟩ hq
        · exact h
      have c1 : ¬ bef (rd T45 l ((i - 1 : Nat) : Int)) (rd T45 l (i : Int)) := fun h => hq ⟨c0, fun _ => h⟩
      refine E2.pos (by omega) ?_
      simp only [wrapP c (show i < 9223372036854775807 by omega)]
      exact E2.pos (by omega) (E2.pos (by omega) (E2.pos (by omega) (E2.pos (by omega) (E2.bind (before_ev _ _) (E2.pos (by simpa using c1) E2.ret)))))
    · exact E2.pos (by simpa using c0) E2.ret)
  exact ⟨r, Ev.eq (fun k => spec_IsScore_eq k l) (Ev.loop (f := fun k m => spec_IsScore.l0 k m l 0) er), hr⟩
theorem specScore_ev (l : List DT45) (hl : l.length ≤ 1048576) : Ev (fun k => spec_IsScore k l) (decide (scoreP l)) := specScoreB_ev l (by omega)
def okT (t : DT31) : Prop := (20 ≤ (t.2.1 : Int) ∧ (t.2.1 : Int) ≤ 300) ∧ (0 ≤ (t.1 : Int) ∧ (t.1 : Int) ≤ 2000)
instance (e : DT31) : Decidable (okT e) := by unfold okT; infer_instance
def QT (l : List DT31) (i : Nat) : Prop := okT (rd T31 l (i : Int)) ∧ (i = 0 → Eq (α := Int) (rd T31 l (i : Int)).1 0) ∧ (0 < i → LT.lt (α := Int) (rd T31 l ((i - 1 : Nat) : Int)).1 (rd T31 l (i : Int)).1)
instance (l : List DT31) (i : Nat) : Decidable (QT l i) := by unfold QT; infer_instance
def tempoP (l : List DT31) : Prop := (∀ i, i < l.length → QT l i) ∧ decide (1 ≤ ((l.length : Nat) : Int) ∧ ((l.length : Nat) : Int) ≤ 8) = true
instance (l : List DT31) : Decidable (tempoP l) := by unfold tempoP; infer_instance
theorem specTempoB_ev (l : List DT31) (hl : l.length ≤ 2097152) : Ev (fun k => spec_IsTempo k l) (decide (tempoP l)) := by
  refine dec_of ?_
  obtain ⟨r, er, hr⟩ := loop_allE (F := fun i k m => spec_IsTempo.l0 k m l i) (n := l.length) (QT l) (decide (1 ≤ ((l.length : Nat) : Int) ∧ ((l.length : Nat) : Int) ≤ 8)) (E2.eq (fun k m => spec_IsTempo.l0_eq k m l _) (E2.neg (by omega) (E2.bind (l1In_ev _ _ _) (E2.ret.val (by simp))))) (fun i hi hq v e => by
    obtain ⟨⟨h1, h2⟩, h3, h4⟩ := hq
    refine E2.eq (fun k m => spec_IsTempo.l0_eq k m l _) (E2.pos (by omega) (E2.pos (by omega) (E2.pos (by omega) (E2.bind (l1In_ev _ _ _) (E2.neg (by simpa using h1) (E2.pos (by omega) (E2.pos (by omega) (E2.bind (l1In_ev _ _ _) (E2.neg (by simpa using h2) ?_)))))))))
    simp only [wrapS (show i < 9223372036854775807 by omega)]
    by_cases c : 0 < i
    · refine E2.neg (by omega) (E2.pos (by omega) ?_)
      simp only [wrapP c (show i < 9223372036854775807 by omega)]
      have := h4 c
      exact E2.pos (by omega) (E2.pos (by omega) (E2.pos (by omega) (E2.pos (by omega) (E2.neg (by omega) e))))
    · refine E2.pos (by omega) (E2.pos (by omega) (E2.pos (by omega) (E2.neg (fun h => h (h3 (by omega))) (E2.neg (by omega) e))))) (fun i hi hq => by
    refine E2.eq (fun k m => spec_IsTempo.l0_eq k m l _) (E2.pos (by omega) (E2.pos (by omega) (E2.pos (by omega) (E2.bind (l1In_ev _ _ _) ?_))))
    by_cases h1 : LE.le (α := Int) 20 (rd T31 l (i : Int)).2.1 ∧ LE.le (α := Int) (rd T31 l (i : Int)).2.1 300
    · refine E2.neg (by simpa using h1) (E2.pos (by omega) (E2.pos (by omega) (E2.bind (l1In_ev _ _ _) ?_)))
      by_cases h2 : LE.le (α := Int) 0 (rd T31 l (i : Int)).1 ∧ LE.le (α := Int) (rd T31 l (i : Int)).1 2000
      · refine E2.neg (by simpa using h2) ?_
        by_cases c : 0 < i
        · refine E2.neg (by omega) (E2.pos (by omega) ?_)
          simp only [wrapP c (show i < 9223372036854775807 by omega)]
          have h4 : ¬ LT.lt (α := Int) (rd T31 l ((i - 1 : Nat) : Int)).1 (rd T31 l (i : Int)).1 := fun h => hq ⟨⟨h1, h2⟩, fun h' => by omega, fun _ => h⟩
          exact E2.pos (by omega) (E2.pos (by omega) (E2.pos (by omega) (E2.pos (by omega) (E2.pos (by omega) E2.ret))))
        · have h3 : ¬ Eq (α := Int) (rd T31 l (i : Int)).1 0 := fun h => hq ⟨⟨h1, h2⟩, fun _ => h, fun h' => absurd h' c⟩
          exact E2.pos (by omega) (E2.pos (by omega) (E2.pos (by omega) (E2.pos h3 E2.ret)))
      · exact E2.pos (by simpa using h2) E2.ret
    · exact E2.pos (by simpa using h1) E2.ret)
  exact ⟨r, Ev.eq (fun k => spec_IsTempo_eq k l) (Ev.loop (f := fun k m => spec_IsTempo.l0 k m l 0) er), hr⟩
def befM (a b : DT128) : Prop := (a.1 : Int) < b.1 ∨ (a.1 : Int) = b.1 ∧ (a.2.1 : Int) < b.2.1
instance (a b : DT128) : Decidable (befM a b) := by unfold befM; infer_instance
theorem beforeM_ev (a b : DT128) : Ev (fun k => spec_l25Before k a b) (decide (befM a b)) := by
  refine Ev.eq (fun k => spec_l25Before_eq k a b) ?_
  unfold befM
  by_cases c1 : (a.1 : Int) < b.1
  · exact Ev.pos c1 (Ev.ret.val (by simp [c1]))
  · refine Ev.neg c1 ?_
    by_cases c2 : (a.1 : Int) = b.1
    · exact Ev.pos c2 (Ev.ret.val (by congr 1; exact propext ⟨fun h => .inr ⟨c2, h⟩, fun h => by omega⟩))
    · exact Ev.neg c2 (Ev.ret.val (by simp [c1, c2]))
def okM (e : DT128) : Prop := (1 ≤ (e.1 : Int) ∧ (e.1 : Int) ≤ 100) ∧ (1 ≤ (e.2.1 : Int) ∧ (e.2.1 : Int) ≤ 4) ∧ (0 ≤ (e.2.2.1 : Int) ∧ (e.2.2.1 : Int) ≤ 9) ∧ (0 ≤ (e.2.2.2.1 : Int) ∧ (e.2.2.2.1 : Int) ≤ 100000) ∧ (1 ≤ (e.2.2.2.2.1 : Int) ∧ (e.2.2.2.2.1 : Int) ≤ 99)
def QM (l : List DT128) (i : Nat) : Prop := okM (rd T128 l (i : Int)) ∧ (0 < i → befM (rd T128 l ((i - 1 : Nat) : Int)) (rd T128 l (i : Int)))
def marksP (l : List DT128) : Prop := (∀ i, i < l.length → QM l i) ∧ decide (((l.length : Nat) : Int) ≤ 30) = true
theorem notM (l : List DT128) (i : Nat) (h : ¬ QM l i) (h1 : okM (rd T128 l (i : Int))) : 0 < i ∧ ¬ befM (rd T128 l ((i - 1 : Nat) : Int)) (rd T128 l (i : Int)) := by
  refine ⟨?_, fun c => h ⟨h1, fun _ => c⟩⟩
  rcases Nat.eq_zero_or_pos i with hi | hi
  · exact absurd ⟨h1, fun h' => by omega⟩ h
  · exact hi
theorem specMarksB_ev (l : List DT128) (hl : l.length ≤ 2097152) : ∃ r, Ev (fun k => spec_AreMarks k l) r ∧ (r = true ↔ marksP l) := by
  obtain ⟨r, er, hr⟩ := loop_allR (R := fun i v => E2 (fun k m => spec_AreMarks.l0 k m l i) v) (n := l.length) (QM l) (decide (((l.length : Nat) : Int) ≤ 30)) (E2.eq (fun k m => spec_AreMarks.l0_eq k m l _) (E2.neg (by omega) E2.ret)) (fun i hi hq v e => by
    obtain ⟨⟨h1, h2, h3, h4, h5⟩, h6⟩ := hq
    refine E2.eq (fun k m => spec_AreMarks.l0_eq k m l _) (E2.pos (by omega) (E2.pos (by omega) (E2.pos (by omega) (E2.bind (l1In_ev _ _ _) (E2.neg (by simpa using h1) (E2.bind (l1In_ev _ _ _) (E2.neg (by simpa using h2) (E2.bind (l1In_ev _ _ _) (E2.neg (by simpa using h3) (E2.bind (l1In_ev _ _ _) (E2.neg (by simpa using h4) (E2.bind (l1In_ev _ _ _) (E2.neg (by simpa using h5) ?_)))))))))))))
    simp only [wrapS (show i < 9223372036854775807 by omega)]
    by_cases c : 0 < i
    · refine E2.pos (by omega) ?_
      simp only [wrapP c (show i < 9223372036854775807 by omega)]
      exact E2.pos (by omega) (E2.pos (by omega) (E2.bind (beforeM_ev _ _) (E2.neg (by simpa using h6 c) e)))
    · exact E2.neg (by omega) e) (fun i hi hq => by
    refine E2.eq (fun k m => spec_AreMarks.l0_eq k m l _) (E2.pos (by omega) (E2.pos (by omega) (E2.pos (by omega) (E2.bind (l1In_ev _ _ _) ?_))))
    by_cases h1 : 1 ≤ ((rd T128 l (i : Int)).1 : Int) ∧ ((rd T128 l (i : Int)).1 : Int) ≤ 100
    · refine E2.neg (by simpa using h1) (E2.bind (l1In_ev _ _ _) ?_)
      by_cases h2 : 1 ≤ ((rd T128 l (i : Int)).2.1 : Int) ∧ ((rd T128 l (i : Int)).2.1 : Int) ≤ 4
      · refine E2.neg (by simpa using h2) (E2.bind (l1In_ev _ _ _) ?_)
        by_cases h3 : 0 ≤ ((rd T128 l (i : Int)).2.2.1 : Int) ∧ ((rd T128 l (i : Int)).2.2.1 : Int) ≤ 9
        · refine E2.neg (by simpa using h3) (E2.bind (l1In_ev _ _ _) ?_)
          by_cases h4 : 0 ≤ ((rd T128 l (i : Int)).2.2.2.1 : Int) ∧ ((rd T128 l (i : Int)).2.2.2.1 : Int) ≤ 100000
          · refine E2.neg (by simpa using h4) (E2.bind (l1In_ev _ _ _) ?_)
            by_cases h5 : 1 ≤ ((rd T128 l (i : Int)).2.2.2.2.1 : Int) ∧ ((rd T128 l (i : Int)).2.2.2.2.1 : Int) ≤ 99
            · obtain ⟨c, c1⟩ := notM l i hq ⟨h1, h2, h3, h4, h5⟩
              refine E2.neg (by simpa using h5) (E2.pos (by omega) ?_)
              simp only [wrapP c (show i < 9223372036854775807 by omega)]
              exact E2.pos (by omega) (E2.pos (by omega) (E2.bind (beforeM_ev _ _) (E2.pos (by simpa using c1) E2.ret)))
            · exact E2.pos (by simpa using h5) E2.ret
          · exact E2.pos (by simpa using h4) E2.ret
        · exact E2.pos (by simpa using h3) E2.ret
      · exact E2.pos (by simpa using h2) E2.ret
    · exact E2.pos (by simpa using h1) E2.ret)
  exact ⟨r, Ev.eq (fun k => spec_AreMarks_eq k l) (Ev.loop (f := fun k m => spec_AreMarks.l0 k m l 0) er), hr⟩
theorem specMarks_ev (l : List DT128) (hl : l.length ≤ 1048576) : ∃ r, Ev (fun k => spec_AreMarks k l) r ∧ (r = true ↔ marksP l) := specMarksB_ev l (by omega)
def QL (l : List DT31) (i : Nat) : Prop := Eq (α := Int) (rd T31 l (i : Int)).1 (i : Int) ∧ (LE.le (α := Int) 1 (rd T31 l (i : Int)).2.1 ∧ LE.le (α := Int) (rd T31 l (i : Int)).2.1 500) ∧ (0 < i → LT.lt (α := Int) (rd T31 l ((i - 1 : Nat) : Int)).2.1 (rd T31 l (i : Int)).2.1)
def lettersP (l : List DT31) : Prop := (∀ i, i < l.length → QL l i) ∧ decide (((l.length : Nat) : Int) ≤ 26) = true
theorem specLetters_ev (l : List DT31) (hl : l.length ≤ 1048576) : ∃ r, Ev (fun k => spec_AreLetters k l) r ∧ (r = true ↔ lettersP l) := by
  obtain ⟨r, er, hr⟩ := loop_allR (R := fun i v => E2 (fun k m => spec_AreLetters.l0 k m l i) v) (n := l.length) (QL l) (decide (((l.length : Nat) : Int) ≤ 26)) (E2.eq (fun k m => spec_AreLetters.l0_eq k m l _) (E2.neg (by omega) E2.ret)) (fun i hi hq v e => by
    obtain ⟨h1, h2, h3⟩ := hq
    refine E2.eq (fun k m => spec_AreLetters.l0_eq k m l _) (E2.pos (by omega) (E2.pos (by omega) (E2.pos (by omega) (E2.neg (fun c => c h1) (E2.pos (by omega) (E2.pos (by omega) (E2.bind (l1In_ev _ _ _) (E2.neg (by simpa using h2) ?_))))))))
    simp only [wrapS (show i < 9223372036854775807 by omega)]
    by_cases c : 0 < i
    · refine E2.pos (by omega) ?_
      simp only [wrapP c (show i < 9223372036854775807 by omega)]
      have := h3 c
      exact E2.pos (by omega) (E2.pos (by omega) (E2.pos (by omega) (E2.pos (by omega) (E2.neg (by omega) e))))
    · exact E2.neg (by omega) e) (fun i hi hq => by
    refine E2.eq (fun k m => spec_AreLetters.l0_eq k m l _) (E2.pos (by omega) (E2.pos (by omega) (E2.pos (by omega) ?_)))
    by_cases h1 : Eq (α := Int) (rd T31 l (i : Int)).1 (i : Int)
    · refine E2.neg (fun c => c h1) (E2.pos (by omega) (E2.pos (by omega) (E2.bind (l1In_ev _ _ _) ?_)))
      by_cases h2 : LE.le (α := Int) 1 (rd T31 l (i : Int)).2.1 ∧ LE.le (α := Int) (rd T31 l (i : Int)).2.1 500
      · have c : 0 < i := by
          rcases Nat.eq_zero_or_pos i with h | h
          · exact absurd ⟨h1, h2, fun h' => by omega⟩ hq
          · exact h
        have h3 : ¬ LT.lt (α := Int) (rd T31 l ((i - 1 : Nat) : Int)).2.1 (rd T31 l (i : Int)).2.1 := fun h => hq ⟨h1, h2, fun _ => h⟩
        refine E2.neg (by simpa using h2) (E2.pos (by omega) ?_)
        simp only [wrapP c (show i < 9223372036854775807 by omega)]
        exact E2.pos (by omega) (E2.pos (by omega) (E2.pos (by omega) (E2.pos (by omega) (E2.pos (by omega) E2.ret))))
      · exact E2.pos (by simpa using h2) E2.ret
    · exact E2.pos h1 E2.ret)
  exact ⟨r, Ev.eq (fun k => spec_AreLetters_eq k l) (Ev.loop (f := fun k m => spec_AreLetters.l0 k m l 0) er), hr⟩
theorem has_ev (l : List Int) (x : Int) (hl : l.length ≤ 1048576) : Ev (fun k => spec_l27Has k l x) (decide (x ∈ l)) := by
  refine dec_of ?_
  obtain ⟨r, er, hr⟩ := loop_anyR (R := fun i v => E2 (fun k m => spec_l27Has.l0 k m l x i) v) (n := l.length) (fun i => Eq (α := Int) (rd (.int .i64) l (i : Int)) x) (E2.eq (fun k m => spec_l27Has.l0_eq k m l x _) (E2.neg (by omega) E2.ret)) (fun i hi hq v e => by
    refine E2.eq (fun k m => spec_l27Has.l0_eq k m l x _) (E2.pos (by omega) (E2.pos (by omega) (E2.pos (by omega) (E2.neg hq ?_))))
    simp only [wrapS (show i < 9223372036854775807 by omega)]; exact e) (fun i hi hq => E2.eq (fun k m => spec_l27Has.l0_eq k m l x _) (E2.pos (by omega) (E2.pos (by omega) (E2.pos (by omega) (E2.pos hq E2.ret)))))
  refine ⟨r, Ev.eq (fun k => spec_l27Has_eq k l x) (Ev.loop (f := fun k m => spec_l27Has.l0 k m l x 0) er), hr.trans ⟨fun ⟨i, hi, h⟩ => ?_, fun h => ?_⟩⟩
  · rw [← h, rd_at hi]; exact List.getElem_mem hi
  · obtain ⟨i, hi, h⟩ := List.mem_iff_getElem.1 h
    exact ⟨i, hi, by rw [rd_at hi]; exact h⟩
def ofVoice (v : Int) (e : DT45) : Bool := decide ((e.2.2.2.1 : Int) = v)
theorem specVoice_ev (l : List DT45) (v : Int) (hl : l.length ≤ 1048576) : Ev (fun k => spec_VoiceOf k l v) (l.filter (ofVoice v)) := by
  have er := loop_filterR (t := T45) (l := l) (R := fun i s r => E2 (fun k m => spec_VoiceOf.l0 k m l v i s) r) (ofVoice v) (fun s => E2.eq (fun k m => spec_VoiceOf.l0_eq k m l v _ s) (E2.neg (by omega) E2.ret)) (fun i s hi hs hq r e => by
    refine E2.eq (fun k m => spec_VoiceOf.l0_eq k m l v _ s) (E2.pos (by omega) (E2.pos (by omega) (E2.pos (by omega) (E2.pos (of_decide_eq_true hq) (E2.pos (by omega) (E2.pos (by omega) (E2.pos (by simp only [List.length_cons, List.length_nil]; omega) ?_)))))))
    simp only [wrapS (show i < 9223372036854775807 by omega)]; exact e) (fun i s hi hs hq r e => by
    refine E2.eq (fun k m => spec_VoiceOf.l0_eq k m l v _ s) (E2.pos (by omega) (E2.pos (by omega) (E2.pos (by omega) (E2.neg (of_decide_eq_false hq) ?_))))
    simp only [wrapS (show i < 9223372036854775807 by omega)]; exact e)
  exact Ev.eq (fun k => spec_VoiceOf_eq k l v) (Ev.loop (f := fun k m => spec_VoiceOf.l0 k m l v 0 []) er)
def QF (lo hi : Int) (l : List DT45) (i : Nat) : Prop := LE.le (α := Int) lo (rd T45 l (i : Int)).2.2.1 ∧ LE.le (α := Int) (rd T45 l (i : Int)).2.2.1 hi
def fitsP (l : List DT45) (lo hi : Int) : Prop := (∀ i, i < l.length → QF lo hi l i) ∧ decide (scoreP l) = true
theorem specFits_ev (l : List DT45) (lo hi : Int) (hl : l.length ≤ 1048576) : ∃ r, Ev (fun k => spec_FitsRange k l lo hi) r ∧ (r = true ↔ fitsP l lo hi) := by
  obtain ⟨r, er, hr⟩ := loop_allR (R := fun i v => E2 (fun k m => spec_FitsRange.l0 k m l lo hi i) v) (n := l.length) (QF lo hi l) (decide (scoreP l)) (E2.eq (fun k m => spec_FitsRange.l0_eq k m l lo hi _) (E2.neg (by omega) (E2.bind (specScore_ev l hl) (E2.ret.val (by simp))))) (fun i hi' hq v e => by
    refine E2.eq (fun k m => spec_FitsRange.l0_eq k m l lo hi _) (E2.pos (by omega) (E2.pos (by omega) (E2.pos (by omega) (E2.bind (l1In_ev _ _ _) (E2.neg (by simpa [QF] using hq) ?_)))))
    simp only [wrapS (show i < 9223372036854775807 by omega)]; exact e) (fun i hi' hq => E2.eq (fun k m => spec_FitsRange.l0_eq k m l lo hi _) (E2.pos (by omega) (E2.pos (by omega) (E2.pos (by omega) (E2.bind (l1In_ev _ _ _) (E2.pos (by simp only [decide_eq_true_eq]; exact hq) E2.ret))))))
  exact ⟨r, Ev.eq (fun k => spec_FitsRange_eq k l lo hi) (Ev.loop (f := fun k m => spec_FitsRange.l0 k m l lo hi 0) er), hr⟩
def canP (p : DT126) (l : List DT45) (v : Int) : Prop := (v : Int) ∈ p.2.2.2.1 ∧ scoreP l ∧ fitsP (l.filter (ofVoice v)) p.2.1 p.2.2.1
theorem filter_le (l : List DT45) (v : Int) (hl : l.length ≤ 1048576) : (l.filter (ofVoice v)).length ≤ 1048576 := Nat.le_trans (List.length_filter_le _ _) hl
theorem specCan_ev (p : DT126) (l : List DT45) (v : Int) (hp : p.2.2.2.1.length ≤ 1048576) (hl : l.length ≤ 1048576) : ∃ r, Ev (fun k => spec_CanPlay k p l v) r ∧ (r = true ↔ canP p l v) := by
  unfold canP
  by_cases c1 : (v : Int) ∈ p.2.2.2.1
  · by_cases c2 : scoreP l
    · obtain ⟨r, er, hr⟩ := specFits_ev (l.filter (ofVoice v)) p.2.1 p.2.2.1 (filter_le l v hl)
      exact ⟨r, Ev.eq (fun k => spec_CanPlay_eq k p l v) (Ev.bind (has_ev _ _ hp) (Ev.pos (by simpa using c1) (Ev.bind (specScore_ev l hl) (Ev.pos (by simpa using c2) (Ev.bind (specVoice_ev l v hl) (Ev.bind er (Ev.ret.val (by simp)))))))), by rw [hr]; exact ⟨fun h => ⟨c1, c2, h⟩, fun h => h.2.2⟩⟩
    · exact ⟨false, Ev.eq (fun k => spec_CanPlay_eq k p l v) (Ev.bind (has_ev _ _ hp) (Ev.pos (by simpa using c1) (Ev.bind (specScore_ev l hl) (Ev.neg (by simpa using c2) Ev.ret)))), by simp only [Bool.false_eq_true, false_iff]; exact fun h => c2 h.2.1⟩
  · exact ⟨false, Ev.eq (fun k => spec_CanPlay_eq k p l v) (Ev.bind (has_ev _ _ hp) (Ev.neg (by simpa using c1) Ev.ret)), by simp only [Bool.false_eq_true, false_iff]; exact fun h => c1 h.1⟩
def QA (lo hi : Int) (l : List Int) (i : Nat) : Prop := (LE.le (α := Int) lo (rd (.int .i64) l (i : Int)) ∧ LE.le (α := Int) (rd (.int .i64) l (i : Int)) hi) ∧ (0 < i → LT.lt (α := Int) (rd (.int .i64) l ((i - 1 : Nat) : Int)) (rd (.int .i64) l (i : Int)))
def ascP (l : List Int) (lo hi : Int) : Prop := ∀ i, i < l.length → QA lo hi l i
theorem notA {lo hi : Int} {l : List Int} {i : Nat} (h : ¬ QA lo hi l i) (h1 : LE.le (α := Int) lo (rd (.int .i64) l (i : Int)) ∧ LE.le (α := Int) (rd (.int .i64) l (i : Int)) hi) : 0 < i ∧ ¬ LT.lt (α := Int) (rd (.int .i64) l ((i - 1 : Nat) : Int)) (rd (.int .i64) l (i : Int)) := by
  refine ⟨?_, fun c => h ⟨h1, fun _ => c⟩⟩
  rcases Nat.eq_zero_or_pos i with hi | hi
  · exact absurd ⟨h1, fun h' => by omega⟩ h
  · exact hi
/-- A player alone, as the program tests it ahead of the Ids. -/
def okP (p : DT126) : Prop := (21 ≤ (p.2.1 : Int) ∧ (p.2.1 : Int) ≤ p.2.2.1) ∧ (p.2.2.1 : Int) ≤ 108 ∧ ascP p.2.2.2.1 1 4
def QP (l : List DT126) (i : Nat) : Prop := okP (rd T126 l (i : Int)) ∧ (1 ≤ ((rd T126 l (i : Int)).1 : Int) ∧ ((rd T126 l (i : Int)).1 : Int) ≤ 99) ∧ (0 < i → LT.lt (α := Int) (rd T126 l ((i - 1 : Nat) : Int)).1 (rd T126 l (i : Int)).1)
def playersP (l : List DT126) : Prop := (∀ i, i < l.length → QP l i) ∧ decide (((l.length : Nat) : Int) ≤ 8) = true
/-- No row is longer than the law allows. -/
def SmP (l : List DT126) : Prop := l.length ≤ 1048576 ∧ ∀ i : Nat, i < l.length → (rd T126 l (i : Int)).2.2.2.1.length ≤ 1048576
theorem specPl_in (l : List DT126) (i : Nat) (a b c : Int) (vs : List Int) (hv : vs.length ≤ 1048576) (hi : i < l.length) (hl : l.length ≤ 1048576) (x : Bool) (e : E2 (fun k n => spec_ArePlayers.l0 k n l ((i + 1 : Nat) : Int)) x) :
    ∃ r, E2 (fun k n => spec_ArePlayers.l1 k k n l (i : Int) 0 a b c vs) r ∧ (r = true ↔ ascP vs 1 4 ∧ x = true) := by
  obtain ⟨r, er, hr⟩ := loop_allR (R := fun j v => E3 (fun k m n => spec_ArePlayers.l1 k m n l (i : Int) j a b c vs) v) (n := vs.length) (QA 1 4 vs) x (by
    refine E3.eq (fun k m n => spec_ArePlayers.l1_eq k m n l (i : Int) _ a b c vs) (E3.neg (by omega) ?_)
    simp only [wrapS (show i < 9223372036854775807 by omega)]
    exact E3.out e) (fun j hj hq v e => by
    obtain ⟨h1, h2⟩ := hq
    refine E3.eq (fun k m n => spec_ArePlayers.l1_eq k m n l (i : Int) _ a b c vs) (E3.pos (by omega) (E3.pos (by omega) (E3.pos (by omega) (E3.bind (l1In_ev _ _ _) (E3.neg (by simpa using h1) ?_)))))
    simp only [wrapS (show j < 9223372036854775807 by omega)]
    by_cases c : 0 < j
    · refine E3.pos (by omega) ?_
      simp only [wrapP c (show j < 9223372036854775807 by omega)]
      have := h2 c
      exact E3.pos (by omega) (E3.pos (by omega) (E3.pos (by omega) (E3.pos (by omega) (E3.neg (by omega) e))))
    · exact E3.neg (by omega) e) (fun j hj hq => by
    refine E3.eq (fun k m n => spec_ArePlayers.l1_eq k m n l (i : Int) _ a b c vs) (E3.pos (by omega) (E3.pos (by omega) (E3.pos (by omega) (E3.bind (l1In_ev _ _ _) ?_))))
    by_cases h1 : LE.le (α := Int) 1 (rd (.int .i64) vs (j : Int)) ∧ LE.le (α := Int) (rd (.int .i64) vs (j : Int)) 4
    · obtain ⟨c, c1⟩ := notA hq h1
      refine E3.neg (by simpa using h1) (E3.pos (by omega) ?_)
      simp only [wrapP c (show j < 9223372036854775807 by omega)]
      exact E3.pos (by omega) (E3.pos (by omega) (E3.pos (by omega) (E3.pos (by omega) (E3.pos (by omega) E3.ret))))
    · exact E3.pos (by simp only [decide_eq_true_eq]; exact h1) E3.ret)
  exact ⟨r, E3.loop (f := fun k m n => spec_ArePlayers.l1 k m n l (i : Int) 0 a b c vs) er, hr⟩
theorem specPlayers_ev (l : List DT126) (hs : SmP l) : ∃ r, Ev (fun k => spec_ArePlayers k l) r ∧ (r = true ↔ playersP l) := by
  have hl := hs.1
  have key : ∀ d i, i + d = l.length → ∃ r, E2 (fun k m => spec_ArePlayers.l0 k m l (i : Int)) r ∧ (r = true ↔ (∀ j, i ≤ j → j < l.length → QP l j) ∧ decide (((l.length : Nat) : Int) ≤ 8) = true) := by
    intro d
    induction d with
    | zero =>
      intro i hi
      exact ⟨_, E2.eq (fun k m => spec_ArePlayers.l0_eq k m l _) (E2.neg (by omega) E2.ret), ⟨fun h => ⟨fun j _ _ => by omega, h⟩, fun h => h.2⟩⟩
    | succ d ih =>
      intro i hi
      have hlt : i < l.length := by omega
      obtain ⟨x, ex, hx⟩ := ih (i + 1) (by omega)
      have stop : (∃ e : E2 (fun k m => spec_ArePlayers.l0 k m l (i : Int)) false, True) → ¬ QP l i → ∃ r, E2 (fun k m => spec_ArePlayers.l0 k m l (i : Int)) r ∧ (r = true ↔ (∀ j, i ≤ j → j < l.length → QP l j) ∧ decide (((l.length : Nat) : Int) ≤ 8) = true) := fun ⟨e, _⟩ h =>
        ⟨false, e, by simp only [Bool.false_eq_true, false_iff]; exact fun c => h (c.1 i (Nat.le_refl _) hlt)⟩
      have st : ∀ {f : Nat → Nat → Option Bool} {v : Bool}, (∀ k m, spec_ArePlayers.l0 k (m + 1) l (i : Int) = f k m) → E2 f v → E2 (fun k m => spec_ArePlayers.l0 k m l (i : Int)) v := fun h e => E2.eq h e
      by_cases h1 : LE.le (α := Int) 1 (rd T126 l (i : Int)).1 ∧ LE.le (α := Int) (rd T126 l (i : Int)).1 99
      · by_cases h2 : LE.le (α := Int) 21 (rd T126 l (i : Int)).2.1
        · by_cases h3 : LE.le (α := Int) (rd T126 l (i : Int)).2.1 (rd T126 l (i : Int)).2.2.1
          · by_cases h4 : LE.le (α := Int) (rd T126 l (i : Int)).2.2.1 108
            · obtain ⟨r, er, hr⟩ := specPl_in l i (rd T126 l (i : Int)).1 (rd T126 l (i : Int)).2.1 (rd T126 l (i : Int)).2.2.1 (rd T126 l (i : Int)).2.2.2.1 (hs.2 i hlt) hlt hl x ex
              by_cases c : 0 < i
              · by_cases h5 : LT.lt (α := Int) (rd T126 l ((i - 1 : Nat) : Int)).1 (rd T126 l (i : Int)).1
                · refine ⟨r, E2.eq (fun k m => spec_ArePlayers.l0_eq k m l _) (E2.pos (by omega) (E2.pos (by omega) (E2.pos (by omega) (E2.bind (l1In_ev _ _ _) (E2.neg (by simpa using h1) (E2.neg (by omega) (E2.neg (by omega) (E2.neg (by omega) (E2.pos (by omega) ?_))))))))), hr.trans ⟨fun ⟨h6, h7⟩ => ⟨fun j hj1 hj2 => ?_, (hx.1 h7).2⟩, fun h => ⟨(h.1 i (Nat.le_refl _) hlt).1.2.2, hx.2 ⟨fun j hj1 hj2 => h.1 j (by omega) hj2, h.2⟩⟩⟩⟩
                  · simp only [wrapP c (show i < 9223372036854775807 by omega)]
                    exact E2.pos (by omega) (E2.pos (by omega) (E2.neg (by omega) er))
                  · by_cases hji : j = i
                    · subst hji; exact ⟨⟨⟨h2, h3⟩, h4, h6⟩, h1, fun _ => h5⟩
                    · exact (hx.1 h7).1 j (by omega) hj2
                · refine stop ⟨E2.eq (fun k m => spec_ArePlayers.l0_eq k m l _) (E2.pos (by omega) (E2.pos (by omega) (E2.pos (by omega) (E2.bind (l1In_ev _ _ _) (E2.neg (by simpa using h1) (E2.neg (by omega) (E2.neg (by omega) (E2.neg (by omega) (E2.pos (by omega) ?_))))))))), trivial⟩ (fun h => h5 (h.2.2 c))
                  simp only [wrapP c (show i < 9223372036854775807 by omega)]
                  exact E2.pos (by omega) (E2.pos (by omega) (E2.pos (by omega) E2.ret))
              · refine ⟨r, E2.eq (fun k m => spec_ArePlayers.l0_eq k m l _) (E2.pos (by omega) (E2.pos (by omega) (E2.pos (by omega) (E2.bind (l1In_ev _ _ _) (E2.neg (by simpa using h1) (E2.neg (by omega) (E2.neg (by omega) (E2.neg (by omega) (E2.neg (by omega) er))))))))), hr.trans ⟨fun ⟨h6, h7⟩ => ⟨fun j hj1 hj2 => ?_, (hx.1 h7).2⟩, fun h => ⟨(h.1 i (Nat.le_refl _) hlt).1.2.2, hx.2 ⟨fun j hj1 hj2 => h.1 j (by omega) hj2, h.2⟩⟩⟩⟩
                by_cases hji : j = i
                · subst hji; exact ⟨⟨⟨h2, h3⟩, h4, h6⟩, h1, fun h => absurd h c⟩
                · exact (hx.1 h7).1 j (by omega) hj2
            · exact stop ⟨E2.eq (fun k m => spec_ArePlayers.l0_eq k m l _) (E2.pos (by omega) (E2.pos (by omega) (E2.pos (by omega) (E2.bind (l1In_ev _ _ _) (E2.neg (by simpa using h1) (E2.neg (by omega) (E2.neg (by omega) (E2.pos (by omega) E2.ret)))))))), trivial⟩ (fun h => h4 h.1.2.1)
          · exact stop ⟨E2.eq (fun k m => spec_ArePlayers.l0_eq k m l _) (E2.pos (by omega) (E2.pos (by omega) (E2.pos (by omega) (E2.bind (l1In_ev _ _ _) (E2.neg (by simpa using h1) (E2.neg (by omega) (E2.pos (by omega) E2.ret))))))), trivial⟩ (fun h => h3 h.1.1.2)
        · exact stop ⟨E2.eq (fun k m => spec_ArePlayers.l0_eq k m l _) (E2.pos (by omega) (E2.pos (by omega) (E2.pos (by omega) (E2.bind (l1In_ev _ _ _) (E2.neg (by simpa using h1) (E2.pos (by omega) E2.ret)))))), trivial⟩ (fun h => h2 h.1.1.1)
      · exact stop ⟨E2.eq (fun k m => spec_ArePlayers.l0_eq k m l _) (E2.pos (by omega) (E2.pos (by omega) (E2.pos (by omega) (E2.bind (l1In_ev _ _ _) (E2.pos (by simp only [decide_eq_true_eq]; exact h1) E2.ret))))), trivial⟩ (fun h => h1 h.2.1)
  obtain ⟨r, er, hr⟩ := key l.length 0 (by omega)
  exact ⟨r, Ev.eq (fun k => spec_ArePlayers_eq k l) (Ev.loop (f := fun k m => spec_ArePlayers.l0 k m l 0) er), hr.trans ⟨fun h => ⟨fun i hi => h.1 i (Nat.zero_le _) hi, h.2⟩, fun h => ⟨fun i _ hi => h.1 i hi, h.2⟩⟩⟩
def sitsP (l : List DT126) (sc : List DT45) (x v : Int) (j : Nat) : Prop := Eq (α := Int) (rd T126 l (j : Int)).1 x ∧ canP (rd T126 l (j : Int)) sc v
def QI (l : List DT126) (sc : List DT45) (seats : List Int) (i : Nat) : Prop := (∃ j, j < l.length ∧ sitsP l sc (rd (.int .i64) seats (i : Int)) ((i + 1 : Nat) : Int) j) ∧ ¬ (rd (.int .i64) seats (i : Int)) ∈ seats.take i
def seatingP (l : List DT126) (sc : List DT45) (seats : List Int) : Prop := (∀ i, i < seats.length → QI l sc seats i) ∧ playersP l ∧ scoreP sc ∧ ((seats.length : Nat) : Int) ≤ 4
theorem takeNat (i : Nat) (s : List Int) : List.take (Int.toNat (i : Int) - Int.toNat 0) (List.drop (Int.toNat 0) s) = s.take i := by
  simp
theorem specSeat_in (l : List DT126) (sc : List DT45) (seats : List Int) (hs : SmP l) (h1 : sc.length ≤ 1048576) (h2 : seats.length ≤ 1048576) (i : Nat) (hi : i < seats.length) (x : Bool) (e : E2 (fun k n => spec_IsSeating.l0 k n l sc seats ((i + 1 : Nat) : Int)) x) :
    ∃ r, E2 (fun k n => spec_IsSeating.l1 k k n l sc seats (i : Int) false 0) r ∧ (r = true ↔ QI l sc seats i ∧ x = true) := by
  have hl := hs.1
  have key : ∀ d (j : Nat) (g : Bool), j + d = l.length → ∃ r, E3 (fun k m n => spec_IsSeating.l1 k m n l sc seats (i : Int) g (j : Int)) r ∧
      (r = true ↔ ((g = true ∨ ∃ q, j ≤ q ∧ q < l.length ∧ sitsP l sc (rd (.int .i64) seats (i : Int)) ((i + 1 : Nat) : Int) q) ∧ ¬ (rd (.int .i64) seats (i : Int)) ∈ seats.take i) ∧ x = true) := by
    intro d
    induction d with
    | zero =>
      intro j g hj
      have no : ¬ ∃ q, j ≤ q ∧ q < l.length ∧ sitsP l sc (rd (.int .i64) seats (i : Int)) ((i + 1 : Nat) : Int) q := by rintro ⟨q, h3, h4, _⟩; omega
      cases g with
      | false =>
        exact ⟨false, E3.eq (fun k m n => spec_IsSeating.l1_eq k m n l sc seats (i : Int) false _) (E3.neg (by omega) (E3.pos (by simp) E3.ret)), by simp only [Bool.false_eq_true, false_iff, false_or]; exact fun h => no h.1.1⟩
      | true =>
        by_cases hm : (rd (.int .i64) seats (i : Int)) ∈ seats.take i
        · refine ⟨false, E3.eq (fun k m n => spec_IsSeating.l1_eq k m n l sc seats (i : Int) true _) (E3.neg (by omega) (E3.neg (by simp) (E3.pos (by omega) (E3.pos (by omega) (E3.pos (by omega) (E3.pos (by omega) (E3.bind (has_ev _ _ ?_) (E3.pos ?_ E3.ret)))))))), by simp [hm]⟩
          · simp; omega
          · rw [takeNat]; simpa using hm
        · refine ⟨x, E3.eq (fun k m n => spec_IsSeating.l1_eq k m n l sc seats (i : Int) true _) (E3.neg (by omega) (E3.neg (by simp) (E3.pos (by omega) (E3.pos (by omega) (E3.pos (by omega) (E3.pos (by omega) (E3.bind (has_ev _ _ ?_) (E3.neg ?_ ?_)))))))), by simp [hm]⟩
          · simp; omega
          · rw [takeNat]; simpa using hm
          · simp only [wrapS (show i < 9223372036854775807 by omega)]
            exact E3.out e
    | succ d ih =>
      intro j g hj
      have hlt : j < l.length := by omega
      cases g with
      | true =>
        obtain ⟨r, er, hr⟩ := ih (j + 1) true (by omega)
        refine ⟨r, E3.eq (fun k m n => spec_IsSeating.l1_eq k m n l sc seats (i : Int) true _) (E3.pos (by omega) (E3.pos rfl ?_)), hr.trans (by simp)⟩
        simp only [wrapS (show j < 9223372036854775807 by omega)]
        exact er
      | false =>
        have wi : IntKind.wrap .i64 ((i : Int) + 1) = ((i + 1 : Nat) : Int) := wrapS (by omega)
        by_cases hid : Eq (α := Int) (rd T126 l (j : Int)).1 (rd (.int .i64) seats (i : Int))
        · obtain ⟨c, ec, hc⟩ := specCan_ev (rd T126 l (j : Int)) sc ((i + 1 : Nat) : Int) (hs.2 j hlt) h1
          obtain ⟨r, er, hr⟩ := ih (j + 1) c (by omega)
          refine ⟨r, E3.eq (fun k m n => spec_IsSeating.l1_eq k m n l sc seats (i : Int) false _) (E3.pos (by omega) (E3.neg (by simp) (E3.pos (by omega) (E3.pos (by omega) (E3.pos (by omega) (E3.pos (by omega) (E3.pos hid (E3.pos (by omega) (E3.pos (by omega) ?_))))))))), hr.trans ?_⟩
          · simp only [wrapS (show j < 9223372036854775807 by omega), wi]
            refine E3.bind ec ?_
            simpa using er
          · refine and_congr (and_congr ⟨fun h => .inr ?_, fun h => ?_⟩ Iff.rfl) Iff.rfl
            · rcases h with h | ⟨q, h3, h4, h5⟩
              · exact ⟨j, Nat.le_refl _, hlt, hid, hc.1 h⟩
              · exact ⟨q, by omega, h4, h5⟩
            · rcases h with h | ⟨q, h3, h4, h5⟩
              · cases h
              · by_cases hq : q = j
                · subst hq; exact .inl (hc.2 h5.2)
                · exact .inr ⟨q, by omega, h4, h5⟩
        · obtain ⟨r, er, hr⟩ := ih (j + 1) false (by omega)
          refine ⟨r, E3.eq (fun k m n => spec_IsSeating.l1_eq k m n l sc seats (i : Int) false _) (E3.pos (by omega) (E3.neg (by simp) (E3.pos (by omega) (E3.pos (by omega) (E3.pos (by omega) (E3.pos (by omega) (E3.neg hid ?_))))))), hr.trans ?_⟩
          · simp only [wrapS (show j < 9223372036854775807 by omega)]
            exact er
          · refine and_congr (and_congr (or_congr Iff.rfl ⟨fun ⟨q, h3, h4, h5⟩ => ⟨q, by omega, h4, h5⟩, fun ⟨q, h3, h4, h5⟩ => ?_⟩) Iff.rfl) Iff.rfl
            by_cases hq : q = j
            · subst hq; exact absurd h5.1 hid
            · exact ⟨q, by omega, h4, h5⟩
  obtain ⟨r, er, hr⟩ := key l.length 0 false (by omega)
  refine ⟨r, E3.loop (f := fun k m n => spec_IsSeating.l1 k m n l sc seats (i : Int) false 0) er, hr.trans ?_⟩
  unfold QI
  simp
theorem specSeating_ev (l : List DT126) (sc : List DT45) (seats : List Int) (hs : SmP l) (h1 : sc.length ≤ 1048576) (h2 : seats.length ≤ 1048576) : ∃ r, Ev (fun k => spec_IsSeating k l sc seats) r ∧ (r = true ↔ seatingP l sc seats) := by
  have key : ∀ d i, i + d = seats.length → ∃ r, E2 (fun k m => spec_IsSeating.l0 k m l sc seats (i : Int)) r ∧ (r = true ↔ (∀ j, i ≤ j → j < seats.length → QI l sc seats j) ∧ playersP l ∧ scoreP sc ∧ ((seats.length : Nat) : Int) ≤ 4) := by
    intro d
    induction d with
    | zero =>
      intro i hi
      have tr : ∀ {p : Prop}, (p ↔ (∀ j, i ≤ j → j < seats.length → QI l sc seats j) ∧ p) := ⟨fun h => ⟨fun j _ _ => by omega, h⟩, fun h => h.2⟩
      obtain ⟨a, ea, ha⟩ := specPlayers_ev l hs
      by_cases ca : a = true
      · by_cases cs : scoreP sc
        · exact ⟨_, E2.eq (fun k m => spec_IsSeating.l0_eq k m l sc seats _) (E2.neg (by omega) (E2.bind ea (E2.pos ca (E2.bind (specScore_ev sc h1) (E2.pos (by simpa using cs) E2.ret))))), Iff.trans (by rw [decide_eq_true_eq]; exact ⟨fun h => ⟨ha.1 ca, cs, h⟩, fun h => h.2.2⟩) tr⟩
        · exact ⟨_, E2.eq (fun k m => spec_IsSeating.l0_eq k m l sc seats _) (E2.neg (by omega) (E2.bind ea (E2.pos ca (E2.bind (specScore_ev sc h1) (E2.neg (by simpa using cs) E2.ret))))), by simp only [Bool.false_eq_true, false_iff]; exact fun h => cs h.2.2.1⟩
      · exact ⟨_, E2.eq (fun k m => spec_IsSeating.l0_eq k m l sc seats _) (E2.neg (by omega) (E2.bind ea (E2.neg ca E2.ret))), by simp only [Bool.false_eq_true, false_iff]; exact fun h => ca (ha.2 h.2.1)⟩
    | succ d ih =>
      intro i hi
      have hlt : i < seats.length := by omega
      obtain ⟨x, ex, hx⟩ := ih (i + 1) (by omega)
      obtain ⟨r, er, hr⟩ := specSeat_in l sc seats hs h1 h2 i hlt x ex
      refine ⟨r, E2.eq (fun k m => spec_IsSeating.l0_eq k m l sc seats _) (E2.pos (by omega) er), hr.trans ⟨fun ⟨h3, h4⟩ => ⟨fun j hj1 hj2 => ?_, (hx.1 h4).2⟩, fun ⟨h3, h4⟩ => ⟨h3 i (Nat.le_refl _) hlt, hx.2 ⟨fun j hj1 hj2 => h3 j (by omega) hj2, h4⟩⟩⟩⟩
      by_cases hj : j = i
      · subst hj; exact h3
      · exact (hx.1 h4).1 j (by omega) hj2
  obtain ⟨r, er, hr⟩ := key seats.length 0 (by omega)
  exact ⟨r, Ev.eq (fun k => spec_IsSeating_eq k l sc seats) (Ev.loop (f := fun k m => spec_IsSeating.l0 k m l sc seats 0) er), hr.trans ⟨fun h => ⟨fun i hi => h.1 i (Nat.zero_le _) hi, h.2⟩, fun h => ⟨fun i _ hi => h.1 i hi, h.2⟩⟩⟩
structure Sm (o : DT38) : Prop where
  score : o.1.length ≤ 1048576
  tempo : o.2.2.1.length ≤ 2097152
  players : SmP o.2.2.2.1
  seats : o.2.2.2.2.1.length ≤ 1048576
  marks : o.2.2.2.2.2.1.length ≤ 1048576
  letters : o.2.2.2.2.2.2.1.length ≤ 1048576
theorem sm_of {o : DT38} (h : Bk T38 o) : Sm o := by
  refine ⟨h.1.1, Nat.le_trans h.2.2.1.1 (by omega), ⟨h.2.2.2.1.1, fun i hi => ?_⟩, h.2.2.2.2.1.1, h.2.2.2.2.2.1.1, h.2.2.2.2.2.2.1.1⟩
  rw [rd_at hi]
  exact (h.2.2.2.1.2 _ (List.getElem_mem hi)).2.2.2.1.1
theorem specMeterS_ev (m : DT31) : ∃ r, Ev (fun k => spec_IsMeter k m) r := by
  by_cases c1 : 1 ≤ (m.1 : Int) ∧ (m.1 : Int) ≤ 12
  · by_cases d1 : (m.2.1 : Int) = 1
    · exact ⟨true, Ev.eq (fun k => spec_IsMeter_eq k m) (Ev.bind (l1In_ev _ _ _) (Ev.pos (by simpa using c1) (Ev.pos d1 Ev.ret)))⟩
    · by_cases d2 : (m.2.1 : Int) = 2
      · exact ⟨true, Ev.eq (fun k => spec_IsMeter_eq k m) (Ev.bind (l1In_ev _ _ _) (Ev.pos (by simpa using c1) (Ev.neg d1 (Ev.pos d2 Ev.ret))))⟩
      · by_cases d3 : (m.2.1 : Int) = 4
        · exact ⟨true, Ev.eq (fun k => spec_IsMeter_eq k m) (Ev.bind (l1In_ev _ _ _) (Ev.pos (by simpa using c1) (Ev.neg d1 (Ev.neg d2 (Ev.pos d3 Ev.ret)))))⟩
        · exact ⟨_, Ev.eq (fun k => spec_IsMeter_eq k m) (Ev.bind (l1In_ev _ _ _) (Ev.pos (by simpa using c1) (Ev.neg d1 (Ev.neg d2 (Ev.neg d3 Ev.ret)))))⟩
  · exact ⟨false, Ev.eq (fun k => spec_IsMeter_eq k m) (Ev.bind (l1In_ev _ _ _) (Ev.neg (by simpa using c1) Ev.ret))⟩
theorem specIsO_ev (o : DT38) (h : Sm o) : ∃ r, Ev (fun k => spec_IsOrchestra k o) r := by
  obtain ⟨m, em1⟩ := specMeterS_ev o.2.1
  obtain ⟨a', ea, ha⟩ := specMarks_ev o.2.2.2.2.2.1 h.marks
  obtain ⟨b', eb, hb⟩ := specLetters_ev o.2.2.2.2.2.2.1 h.letters
  obtain ⟨c', ec, hc⟩ := specSeating_ev o.2.2.2.1 o.1 o.2.2.2.2.1 h.players h.score h.seats
  by_cases d1 : scoreP o.1
  · by_cases d2 : m = true
    · by_cases d3 : tempoP o.2.2.1
      · by_cases d4 : a' = true
        · by_cases d5 : b' = true
          · by_cases d6 : c' = true
            · by_cases d7 : 1 ≤ (o.2.2.2.2.2.2.2.1 : Int) ∧ (o.2.2.2.2.2.2.2.1 : Int) ≤ 9999
              · exact ⟨_, Ev.eq (fun k => spec_IsOrchestra_eq k o) (Ev.bind (specScore_ev _ h.score) (Ev.pos (by simpa using d1) (Ev.bind em1 (Ev.pos d2 (Ev.bind (specTempoB_ev _ h.tempo) (Ev.pos (by simpa using d3) (Ev.bind ea (Ev.pos d4 (Ev.bind eb (Ev.pos d5 (Ev.bind ec (Ev.pos d6 (Ev.bind (l1In_ev _ _ _) (Ev.pos (by simpa using d7) (Ev.bind (l1In_ev _ _ _) Ev.ret)))))))))))))))⟩
              · exact ⟨false, Ev.eq (fun k => spec_IsOrchestra_eq k o) (Ev.bind (specScore_ev _ h.score) (Ev.pos (by simpa using d1) (Ev.bind em1 (Ev.pos d2 (Ev.bind (specTempoB_ev _ h.tempo) (Ev.pos (by simpa using d3) (Ev.bind ea (Ev.pos d4 (Ev.bind eb (Ev.pos d5 (Ev.bind ec (Ev.pos d6 (Ev.bind (l1In_ev _ _ _) (Ev.neg (by simpa using d7) Ev.ret))))))))))))))⟩
            · exact ⟨false, Ev.eq (fun k => spec_IsOrchestra_eq k o) (Ev.bind (specScore_ev _ h.score) (Ev.pos (by simpa using d1) (Ev.bind em1 (Ev.pos d2 (Ev.bind (specTempoB_ev _ h.tempo) (Ev.pos (by simpa using d3) (Ev.bind ea (Ev.pos d4 (Ev.bind eb (Ev.pos d5 (Ev.bind ec (Ev.neg d6 Ev.ret))))))))))))⟩
          · exact ⟨false, Ev.eq (fun k => spec_IsOrchestra_eq k o) (Ev.bind (specScore_ev _ h.score) (Ev.pos (by simpa using d1) (Ev.bind em1 (Ev.pos d2 (Ev.bind (specTempoB_ev _ h.tempo) (Ev.pos (by simpa using d3) (Ev.bind ea (Ev.pos d4 (Ev.bind eb (Ev.neg d5 Ev.ret))))))))))⟩
        · exact ⟨false, Ev.eq (fun k => spec_IsOrchestra_eq k o) (Ev.bind (specScore_ev _ h.score) (Ev.pos (by simpa using d1) (Ev.bind em1 (Ev.pos d2 (Ev.bind (specTempoB_ev _ h.tempo) (Ev.pos (by simpa using d3) (Ev.bind ea (Ev.neg d4 Ev.ret))))))))⟩
      · exact ⟨false, Ev.eq (fun k => spec_IsOrchestra_eq k o) (Ev.bind (specScore_ev _ h.score) (Ev.pos (by simpa using d1) (Ev.bind em1 (Ev.pos d2 (Ev.bind (specTempoB_ev _ h.tempo) (Ev.neg (by simpa using d3) Ev.ret))))))⟩
    · exact ⟨false, Ev.eq (fun k => spec_IsOrchestra_eq k o) (Ev.bind (specScore_ev _ h.score) (Ev.pos (by simpa using d1) (Ev.bind em1 (Ev.neg d2 Ev.ret))))⟩
  · exact ⟨false, Ev.eq (fun k => spec_IsOrchestra_eq k o) (Ev.bind (specScore_ev _ h.score) (Ev.neg (by simpa using d1) Ev.ret))⟩
def R64 (n : Int) : Prop := -9223372036854775808 ≤ n ∧ n ≤ 9223372036854775807
theorem bytes_ext {a b : ByteArray} (h : a.data.toList = b.data.toList) : a = b := by
  obtain ⟨⟨a⟩⟩ := a
  obtain ⟨⟨b⟩⟩ := b
  simp at h
  rw [h]
theorem bytes_app (a b : ByteArray) : (a ++ b).data.toList = a.data.toList ++ b.data.toList := by
  rw [ByteArray.data_append, Array.toList_append]
theorem bytes_size (a : ByteArray) : a.size = a.data.toList.length := by
  show a.data.size = _
  rw [Array.length_toList]
theorem decDigits_step (u : Nat) (h : u ≠ 0) : Lib.decDigits u = (if u / 10 = 0 then [] else Lib.decDigits (u / 10)) ++ [UInt8.ofNat (48 + u % 10)] := by
  rw [Lib.decDigits]
  by_cases c : u < 10
  · rw [dif_pos c, if_pos (by omega)]
    simp [Nat.mod_eq_of_lt c]
  · rw [dif_neg c, if_neg (by omega)]
theorem implFmt_ev (n : Int) (h : R64 n) : Ev (fun k => impl_FormatInt k n) (itoaB n) := by
  have hp : primItoa .str [.val (.int .i64) n] = some (itoaB n) := by unfold primItoa; exact if_pos h
  refine Ev.eq (fun k => impl_FormatInt_eq k n) (Ev.bind (Ev.eq (fun k => strconv_Itoa_eq k n) ?_) Ev.ret)
  rw [hp]
  exact Ev.ret
theorem decDigits_len : ∀ (q u : Nat), u < 10 ^ (q + 1) → (Lib.decDigits u).length ≤ q + 1 := by
  intro q
  induction q with
  | zero => intro u h; rw [Lib.decDigits, dif_pos (by simpa using h)]; simp
  | succ q ih =>
    intro u h
    rw [Lib.decDigits]
    split
    · simp
    · have := ih (u / 10) (by rw [Nat.div_lt_iff_lt_mul (by omega)]; rw [Nat.pow_succ] at h; exact h)
      simp
      omega
theorem itoaB_size (n : Int) (h : R64 n) : (itoaB n).size ≤ 20 := by
  rw [bytes_size]
  unfold itoaB Lib.itoa
  unfold R64 at h
  split
  · have := decDigits_len 18 n.natAbs (by omega)
    simp; omega
  · have := decDigits_len 18 n.toNat (by omega)
    simp; omega
def spB : ByteArray := ByteArray.mk #[32]
def spacedB (w : List ByteArray) : ByteArray := if w.length = 0 then ByteArray.mk #[45] else joinB w spB
theorem lib_join_snoc (xs : List (List UInt8)) (y sep : List UInt8) (h : xs ≠ []) : Lib.join (xs ++ [y]) sep = Lib.join xs sep ++ sep ++ y := by
  cases xs with
  | nil => exact absurd rfl h
  | cons x r =>
    rw [List.cons_append, Lib.join_cons, Lib.join_cons]
    unfold Lib.joinTail
    simp
theorem joinB_snoc (w : List ByteArray) (y : ByteArray) (h : w ≠ []) : joinB (w ++ [y]) spB = joinB w spB ++ spB ++ y := by
  apply bytes_ext
  rw [bytes_app, bytes_app]
  unfold joinB
  simp only [List.map_append, List.map_cons, List.map_nil]
  rw [lib_join_snoc _ _ _ (by simpa using h)]
theorem joinB_one (y : ByteArray) : joinB [y] spB = y := by
  apply bytes_ext
  unfold joinB
  simp [Lib.join_one]
theorem size_app (a b : ByteArray) : (a ++ b).size = a.size + b.size := by
  rw [bytes_size, bytes_app, List.length_append, ← bytes_size, ← bytes_size]
theorem joinTail_len (sep : List UInt8) (B : Nat) : ∀ (r : List ByteArray), (∀ x ∈ r, x.size ≤ B) → (Lib.joinTail sep (r.map (·.data.toList))).length ≤ r.length * (B + sep.length)
  | [], _ => by simp [Lib.joinTail]
  | x :: r, h => by
    have h1 := joinTail_len sep B r (fun y hy => h y (by simp [hy]))
    have h2 := h x (by simp)
    rw [bytes_size] at h2
    unfold Lib.joinTail at h1 ⊢
    simp only [List.map_cons, List.flatten_cons, List.length_append, List.length_cons, Nat.add_mul, Nat.one_mul] at h1 ⊢
    omega
theorem joinB_size (w : List ByteArray) (B : Nat) (h : ∀ x ∈ w, x.size ≤ B) : (joinB w spB).size ≤ w.length * (B + 1) := by
  cases w with
  | nil => exact Nat.zero_le _
  | cons x r =>
    have h1 := joinTail_len spB.data.toList B r (fun y hy => h y (by simp [hy]))
    have h2 := h x (by simp)
    have h3 : spB.data.toList.length = 1 := rfl
    rw [bytes_size]
    unfold joinB
    simp only [List.map_cons]
    rw [Lib.join_cons, List.length_append, List.length_cons, Nat.add_mul, ← bytes_size]
    rw [h3] at h1
    omega
theorem implJoin_ev (w : List ByteArray) (hl : w.length ≤ 1048576) (hs : ∀ x ∈ w, x.size ≤ 1000) : Ev (fun k => strings_Join k w (ByteArray.mk #[32])) (joinB w spB) := by
  have h1 := joinB_size w 1000 hs
  have hp : primJoin .str [.val (.list .str) w, .val .str (ByteArray.mk #[32])] = some (joinB w spB) := by
    unfold primJoin
    refine if_pos ⟨by omega, ?_⟩
    have h2 : (joinB w spB).size = (Lib.join (w.map (·.data.toList)) (ByteArray.mk #[32]).data.toList).length := by
      rw [bytes_size]; rfl
    exact Nat.le_trans (Nat.le_of_eq h2.symm) (by omega)
  refine Ev.eq (fun k => strings_Join_eq k w _) ?_
  rw [hp]
  exact Ev.ret
/-- A row of what each element gives, one behind the other. -/
theorem loop_collect {t : Ty} {β γ : Type} {l : List t.den} {R : Int → List β → γ → Prop} (f : t.den → β) {c : γ} (hend : R (l.length : Int) (l.map f) c)
    (hgo : ∀ i, i < l.length → ∀ s : List β, s.length = i → R ((i + 1 : Nat) : Int) (s ++ [f (rd t l (i : Int))]) c → R (i : Int) s c) : R 0 [] c := by
  have key : ∀ d i, i + d = l.length → R (i : Int) ((l.take i).map f) c := by
    intro d
    induction d with
    | zero =>
      intro i hi
      have hi : i = l.length := by omega
      subst hi
      rw [List.take_length]
      exact hend
    | succ d ih =>
      intro i hi
      have hlt : i < l.length := by omega
      refine hgo i hlt _ (by simp; omega) ?_
      have := ih (i + 1) (by omega)
      rw [List.take_succ_eq_append_getElem hlt, List.map_append, ← rd_at hlt] at this
      exact this
  exact key l.length 0 (by omega)
theorem implNumbers_ev (l : List Int) (hl : l.length ≤ 1048576) (hr : ∀ x ∈ l, R64 x) : Ev (fun k => impl_FormatNumbers k l) (spacedB (l.map itoaB)) := by
  have hs : ∀ x ∈ l.map itoaB, x.size ≤ 1000 := by
    intro x hx
    obtain ⟨n, hn, rfl⟩ := List.mem_map.1 hx
    have := itoaB_size n (hr n hn)
    omega
  refine Ev.eq (fun k => impl_FormatNumbers_eq k l) (Ev.bind (a := spacedB (l.map itoaB)) (Ev.eq (fun k => impl_spaced_int_22_eq k l) ?_) Ev.ret)
  unfold spacedB
  rw [List.length_map]
  by_cases c : l.length = 0
  · rw [if_pos c]; exact Ev.pos (by omega) Ev.ret
  · rw [if_neg c]
    refine Ev.neg (by omega) (Ev.loop (f := fun k m => impl_spaced_int_22.l0 k m l ((List.length l : Nat) : Int) 0 []) ?_)
    refine loop_collect (t := .int .i64) (l := l) (R := fun i s v => E2 (fun k m => impl_spaced_int_22.l0 k m l ((List.length l : Nat) : Int) i s) v) itoaB ?_ fun i hi s hsl e => ?_
    · exact E2.eq (fun k m => impl_spaced_int_22.l0_eq k m l _ _ _) (E2.neg (by omega) (E2.bind (implJoin_ev _ (by simpa using hl) hs) E2.ret))
    · refine E2.eq (fun k m => impl_spaced_int_22.l0_eq k m l _ _ s) (E2.pos (by omega) (E2.pos (by omega) (E2.pos (by omega) (E2.bind (implFmt_ev _ (by rw [rd_at hi]; exact hr _ (List.getElem_mem hi))) (E2.pos (by simp only [List.length_cons, List.length_nil]; omega) ?_)))))
      simp only [wrapS (show i < 9223372036854775807 by omega)]; exact e
/-- The rounds of three loops, one within the other. -/
def E4 {α : Type} (f : Nat → Nat → Nat → Nat → Option α) (v : α) : Prop := ∃ K M N L, ∀ k m n l, K ≤ k → M ≤ m → N ≤ n → L ≤ l → f k m n l = some v
theorem E4.ret {α : Type} {v : α} : E4 (fun _ _ _ _ => some v) v := ⟨0, 0, 0, 0, fun _ _ _ _ _ _ _ _ => rfl⟩
theorem E4.eq {α : Type} {F f : Nat → Nat → Nat → Nat → Option α} {v : α} (h : ∀ k m n l, F k (m + 1) n l = f k m n l) (e : E4 f v) : E4 F v := by
  obtain ⟨K, M, N, L, e⟩ := e
  refine ⟨K, M + 1, N, L, fun k m n l hk hm hn hl => ?_⟩
  obtain ⟨j, rfl⟩ : ∃ j, m = j + 1 := ⟨m - 1, by omega⟩
  rw [h]
  exact e k j n l hk (by omega) hn hl
theorem E4.bind {α β : Type} {f : Nat → Option α} {g : Nat → Nat → Nat → Nat → α → Option β} {a : α} {v : β} (h : Ev f a) (e : E4 (fun k m n l => g k m n l a) v) : E4 (fun k m n l => (f k).bind fun x => g k m n l x) v := by
  obtain ⟨K, h⟩ := h
  obtain ⟨K', M, N, L, e⟩ := e
  refine ⟨max K K', M, N, L, fun k m n l hk hm hn hl => ?_⟩
  show (f k).bind _ = _
  rw [h k (by omega)]
  exact e k m n l (by omega) hm hn hl
theorem E4.pos {α : Type} {p : Prop} [d : Decidable p] {f g : Nat → Nat → Nat → Nat → Option α} {v : α} (h : p) (e : E4 f v) : E4 (fun k m n l => if p then f k m n l else g k m n l) v := by
  obtain ⟨K, M, N, L, e⟩ := e
  exact ⟨K, M, N, L, fun k m n l hk hm hn hl => by show (if p then f k m n l else g k m n l) = _; rw [if_pos h]; exact e k m n l hk hm hn hl⟩
theorem E4.neg {α : Type} {p : Prop} [d : Decidable p] {f g : Nat → Nat → Nat → Nat → Option α} {v : α} (h : ¬ p) (e : E4 g v) : E4 (fun k m n l => if p then f k m n l else g k m n l) v := by
  obtain ⟨K, M, N, L, e⟩ := e
  exact ⟨K, M, N, L, fun k m n l hk hm hn hl => by show (if p then f k m n l else g k m n l) = _; rw [if_neg h]; exact e k m n l hk hm hn hl⟩
theorem E4.out {α : Type} {f : Nat → Nat → Nat → Option α} {v : α} (e : E3 f v) : E4 (fun k _ n l => f k l n) v := let ⟨K, M, N, h⟩ := e; ⟨K, 0, N, M, fun k _ n l hk _ hn hl => h k l n hk hl hn⟩
theorem E4.loop {α : Type} {f : Nat → Nat → Nat → Nat → Option α} {v : α} (e : E4 f v) : E3 (fun k m n => f k k n m) v := let ⟨K, M, N, L, h⟩ := e; ⟨max K M, L, N, fun k m n hk hm hn => h k k n m (by omega) (by omega) hn hm⟩
def half (s : Int) : Int := halvesT.getD s.toNat 0
theorem halves_ev (s : Int) (h0 : 0 ≤ s) (h1 : s ≤ 6) : Ev (fun k => impl_halves k s) (half s) := by
  have hp : primHalves (.int .i64) [.val (.int .i64) s] = some (half s) := by unfold primHalves; exact if_pos ⟨h0, (show s < 7 by omega)⟩
  refine Ev.eq (fun k => impl_halves_eq k s) ?_
  rw [hp]
  exact Ev.ret
theorem half_bd (s : Int) (h0 : 0 ≤ s) (h1 : s ≤ 6) : 0 ≤ half s ∧ half s ≤ 11 := by
  have : s = 0 ∨ s = 1 ∨ s = 2 ∨ s = 3 ∨ s = 4 ∨ s = 5 ∨ s = 6 := by omega
  rcases this with rfl | rfl | rfl | rfl | rfl | rfl | rfl <;> decide
def pitchI (x : DT50) : Int := 12 * (x.2.2.1 + 1) + half x.1 + x.2.1
theorem pitch_ev (x : DT50) (h0 : 0 ≤ (x.1 : Int) ∧ (x.1 : Int) ≤ 6) (h1 : -2 ≤ (x.2.1 : Int) ∧ (x.2.1 : Int) ≤ 2) (h2 : 0 ≤ (x.2.2.1 : Int) ∧ (x.2.2.1 : Int) ≤ 8) : Ev (fun k => impl_Note__pitch k x) (pitchI x) := by
  have hb := half_bd x.1 h0.1 h0.2
  refine Ev.eq (fun k => impl_Note__pitch_eq k x) (Ev.bind (halves_ev _ h0.1 h0.2) (Ev.ret.val ?_))
  rw [wrapI (n := x.2.2.1 + 1) (by omega) (by omega), wrapI (n := 12 * (x.2.2.1 + 1)) (by omega) (by omega), wrapI (n := 12 * (x.2.2.1 + 1) + x.2.1) (by omega) (by omega), wrapI (by omega) (by omega)]
  unfold pitchI
  omega
theorem implNote_ev (x : DT50) (h0 : 0 ≤ (x.1 : Int) ∧ (x.1 : Int) ≤ 6) (h1 : -2 ≤ (x.2.1 : Int) ∧ (x.2.1 : Int) ≤ 2) (h2 : 0 ≤ (x.2.2.1 : Int) ∧ (x.2.2.1 : Int) ≤ 8) : Ev (fun k => impl_IsNote k x) (decide (12 ≤ pitchI x ∧ pitchI x ≤ 120)) :=
  Ev.eq (fun k => impl_IsNote_eq k x) (Ev.bind (inRange_ev _ _ _) (Ev.pos (by simpa using h0) (Ev.bind (inRange_ev _ _ _) (Ev.pos (by simpa using h1) (Ev.bind (inRange_ev _ _ _) (Ev.pos (by simpa using h2) (Ev.bind (pitch_ev x h0 h1 h2) (Ev.bind (inRange_ev _ _ _) (Ev.ret.val (by simp))))))))))
/-- What the search asks. -/
def askP (p c o s a : Int) : Prop := 12 * (o + 1) + half s + a = p ∧ a = c
theorem ask_ev (p c o s a : Int) (hp : 12 ≤ p ∧ p ≤ 119) (h0 : 0 ≤ s ∧ s ≤ 6) (h1 : -2 ≤ a ∧ a ≤ 2) (h2 : 0 ≤ o ∧ o ≤ 8) :
    ∃ b, Ev (fun k => impl_IsNote k (s, (a, (o, ())))) b ∧ (b = true → ∃ d, Ev (fun k => impl_SpellSharp_1 k (s, (a, (o, ()))) p c) d ∧ (d = true ↔ askP p c o s a)) ∧ (b = false → ¬ askP p c o s a) := by
  have hb := half_bd s h0.1 h0.2
  refine ⟨_, implNote_ev (s, (a, (o, ()))) h0 h1 h2, fun _ => ?_, fun h => ?_⟩
  · by_cases c1 : pitchI (s, (a, (o, ()))) = p
    · exact ⟨decide ((a : Int) = c), Ev.eq (fun k => impl_SpellSharp_1_eq k _ p c) (Ev.bind (pitch_ev (s, (a, (o, ()))) h0 h1 h2) (Ev.pos c1 Ev.ret)), by rw [decide_eq_true_eq]; exact ⟨fun h => ⟨c1, h⟩, fun h => h.2⟩⟩
    · exact ⟨false, Ev.eq (fun k => impl_SpellSharp_1_eq k _ p c) (Ev.bind (pitch_ev (s, (a, (o, ()))) h0 h1 h2) (Ev.neg c1 Ev.ret)), by simp only [Bool.false_eq_true, false_iff]; exact fun h => c1 h.1⟩
  · intro hk
    have h := of_decide_eq_false h
    have hk1 : pitchI (s, (a, (o, ()))) = p := hk.1
    omega
abbrev NRes : Type := DT50 × (Bool × Unit)
def noN : NRes := ((0, (0, (0, ()))), (false, ()))
/-- A step where nothing is found. -/
theorem pass2 (p c : Int) (hp : 12 ≤ p ∧ p ≤ 119) (x y z : Int) (o s : Int) (h0 : 0 ≤ s ∧ s ≤ 6) (h2 : 0 ≤ o ∧ o ≤ 8) (v : NRes) (e : E3 (fun k m n => impl_notes_52.l1 k m n p c o (s + 1) x y z) v) :
    ∀ (d : Nat) (a : Int), a + d = 3 → -2 ≤ a → (∀ b, a ≤ b → b ≤ 2 → ¬ askP p c o s b) → E4 (fun k m n l => impl_notes_52.l2 k m n l p c o s a x y z) v := by
  intro d
  induction d with
  | zero =>
    intro a ha _ _
    refine E4.eq (fun k m n l => impl_notes_52.l2_eq k m n l p c o s a x y z) (E4.neg (by omega) ?_)
    rw [wrapI (n := s + 1) (by omega) (by omega)]
    exact E4.out e
  | succ d ih =>
    intro a ha h1 hno
    obtain ⟨b, eb, k1, k2⟩ := ask_ev p c o s a hp h0 (by omega) h2
    have ih' := ih (a + 1) (by omega) (by omega) (fun b hb hb2 => hno b (by omega) hb2)
    have hw : IntKind.wrap .i64 (a + 1) = a + 1 := wrapI (by omega) (by omega)
    cases b with
    | true =>
      obtain ⟨d', ed, hd⟩ := k1 rfl
      refine E4.eq (fun k m n l => impl_notes_52.l2_eq k m n l p c o s a x y z) (E4.pos (by omega) (E4.bind eb (E4.pos rfl (E4.bind ed (E4.neg (fun h => hno a (Int.le_refl _) (by omega) (hd.1 h)) ?_)))))
      rw [hw]; exact ih'
    | false =>
      refine E4.eq (fun k m n l => impl_notes_52.l2_eq k m n l p c o s a x y z) (E4.pos (by omega) (E4.bind eb (E4.neg (by simp) ?_)))
      rw [hw]; exact ih'
theorem hit2 (p c : Int) (hp : 12 ≤ p ∧ p ≤ 119) (x y z : Int) (o s : Int) (h0 : 0 ≤ s ∧ s ≤ 6) (h2 : 0 ≤ o ∧ o ≤ 8) (a0 : Int) (ha0 : a0 ≤ 2) (hit : askP p c o s a0) :
    ∀ (d : Nat) (a : Int), a + d = a0 → -2 ≤ a → E4 (fun k m n l => impl_notes_52.l2 k m n l p c o s a x y z) ((s, (a0, (o, ()))), (true, ())) := by
  intro d
  induction d with
  | zero =>
    intro a ha h1
    have ha : a = a0 := by omega
    subst ha
    obtain ⟨b, eb, k1, k2⟩ := ask_ev p c o s a hp h0 (by omega) h2
    cases b with
    | true =>
      obtain ⟨d', ed, hd⟩ := k1 rfl
      exact E4.eq (fun k m n l => impl_notes_52.l2_eq k m n l p c o s a x y z) (E4.pos (by omega) (E4.bind eb (E4.pos rfl (E4.bind ed (E4.pos (hd.2 hit) E4.ret)))))
    | false => exact absurd hit (k2 rfl)
  | succ d ih =>
    intro a ha h1
    obtain ⟨b, eb, k1, k2⟩ := ask_ev p c o s a hp h0 (by omega) h2
    have ih' := ih (a + 1) (by omega) (by omega)
    have hw : IntKind.wrap .i64 (a + 1) = a + 1 := wrapI (by omega) (by omega)
    have hno : ¬ askP p c o s a := fun h => by have := h.2; have := hit.2; omega
    cases b with
    | true =>
      obtain ⟨d', ed, hd⟩ := k1 rfl
      refine E4.eq (fun k m n l => impl_notes_52.l2_eq k m n l p c o s a x y z) (E4.pos (by omega) (E4.bind eb (E4.pos rfl (E4.bind ed (E4.neg (fun h => hno (hd.1 h)) ?_)))))
      rw [hw]; exact ih'
    | false =>
      refine E4.eq (fun k m n l => impl_notes_52.l2_eq k m n l p c o s a x y z) (E4.pos (by omega) (E4.bind eb (E4.neg (by simp) ?_)))
      rw [hw]; exact ih'
theorem pass1 (p c : Int) (hp : 12 ≤ p ∧ p ≤ 119) (x y z : Int) (o : Int) (h2 : 0 ≤ o ∧ o ≤ 8) (v : NRes) (e : E2 (fun k m => impl_notes_52.l0 k m p c (o + 1) x y z) v) :
    ∀ (d : Nat) (s : Int), s + d = 7 → 0 ≤ s → (∀ t b, s ≤ t → t ≤ 6 → -2 ≤ b → b ≤ 2 → ¬ askP p c o t b) → E3 (fun k m n => impl_notes_52.l1 k m n p c o s x y z) v := by
  intro d
  induction d with
  | zero =>
    intro s hs _ _
    refine E3.eq (fun k m n => impl_notes_52.l1_eq k m n p c o s x y z) (E3.neg (by omega) ?_)
    rw [wrapI (n := o + 1) (by omega) (by omega)]
    exact E3.out e
  | succ d ih =>
    intro s hs h0 hno
    have ih' := ih (s + 1) (by omega) (by omega) (fun t b h3 h4 h5 h6 => hno t b (by omega) h4 h5 h6)
    exact E3.eq (fun k m n => impl_notes_52.l1_eq k m n p c o s x y z) (E3.pos (by omega) (E4.loop (f := fun k m n l => impl_notes_52.l2 k m n l p c o s (-2) x y z) (pass2 p c hp x y z o s (by omega) h2 v ih' 5 (-2) (by omega) (by omega) (fun b h3 h4 => hno s b (Int.le_refl _) (by omega) h3 h4))))
theorem hit1 (p c : Int) (hp : 12 ≤ p ∧ p ≤ 119) (x y z : Int) (o : Int) (h2 : 0 ≤ o ∧ o ≤ 8) (s0 a0 : Int) (hs0 : s0 ≤ 6) (ha0 : -2 ≤ a0 ∧ a0 ≤ 2) (hit : askP p c o s0 a0) (uniq : ∀ t b, 0 ≤ t → t ≤ 6 → askP p c o t b → t = s0) :
    ∀ (d : Nat) (s : Int), s + d = s0 → 0 ≤ s → E3 (fun k m n => impl_notes_52.l1 k m n p c o s x y z) ((s0, (a0, (o, ()))), (true, ())) := by
  intro d
  induction d with
  | zero =>
    intro s hs h0
    have hs : s = s0 := by omega
    subst hs
    obtain ⟨d, hd⟩ : ∃ d : Nat, (-2 : Int) + d = a0 := ⟨(a0 + 2).toNat, by omega⟩
    exact E3.eq (fun k m n => impl_notes_52.l1_eq k m n p c o s x y z) (E3.pos (by omega) (E4.loop (f := fun k m n l => impl_notes_52.l2 k m n l p c o s (-2) x y z) (hit2 p c hp x y z o s (by omega) h2 a0 ha0.2 hit d (-2) hd (by omega))))
  | succ d ih =>
    intro s hs h0
    have ih' := ih (s + 1) (by omega) (by omega)
    exact E3.eq (fun k m n => impl_notes_52.l1_eq k m n p c o s x y z) (E3.pos (by omega) (E4.loop (f := fun k m n l => impl_notes_52.l2 k m n l p c o s (-2) x y z) (pass2 p c hp x y z o s (by omega) h2 _ ih' 5 (-2) (by omega) (by omega) (fun b h3 h4 hk => by have := uniq s b h0 (by omega) hk; omega))))
theorem none0 (p c : Int) (hp : 12 ≤ p ∧ p ≤ 119) (x y z : Int) (hno : ∀ o t b, 0 ≤ o → o ≤ 8 → 0 ≤ t → t ≤ 6 → -2 ≤ b → b ≤ 2 → ¬ askP p c o t b) : ∀ (d : Nat) (o : Int), o + d = 9 → 0 ≤ o → E2 (fun k m => impl_notes_52.l0 k m p c o x y z) noN := by
  intro d
  induction d with
  | zero =>
    intro o ho _
    exact E2.eq (fun k m => impl_notes_52.l0_eq k m p c o x y z) (E2.neg (by omega) E2.ret)
  | succ d ih =>
    intro o ho h0
    exact E2.eq (fun k m => impl_notes_52.l0_eq k m p c o x y z) (E2.pos (by omega) (E3.loop (f := fun k m n => impl_notes_52.l1 k m n p c o 0 x y z) (pass1 p c hp x y z o (by omega) _ (ih (o + 1) (by omega) (by omega)) 7 0 (by omega) (by omega) (fun t b h3 h4 h5 h6 => hno o t b h0 (by omega) h3 h4 h5 h6))))
theorem hit0 (p c : Int) (hp : 12 ≤ p ∧ p ≤ 119) (x y z : Int) (o0 s0 a0 : Int) (ho0 : o0 ≤ 8) (hs0 : 0 ≤ s0 ∧ s0 ≤ 6) (ha0 : -2 ≤ a0 ∧ a0 ≤ 2) (hit : askP p c o0 s0 a0) (uniq : ∀ o t b, 0 ≤ o → o ≤ 8 → 0 ≤ t → t ≤ 6 → askP p c o t b → o = o0 ∧ t = s0) :
    ∀ (d : Nat) (o : Int), o + d = o0 → 0 ≤ o → E2 (fun k m => impl_notes_52.l0 k m p c o x y z) ((s0, (a0, (o0, ()))), (true, ())) := by
  intro d
  induction d with
  | zero =>
    intro o ho h0
    have ho : o = o0 := by omega
    subst ho
    obtain ⟨d, hd⟩ : ∃ d : Nat, (0 : Int) + d = s0 := ⟨s0.toNat, by omega⟩
    exact E2.eq (fun k m => impl_notes_52.l0_eq k m p c o x y z) (E2.pos (by omega) (E3.loop (f := fun k m n => impl_notes_52.l1 k m n p c o 0 x y z) (hit1 p c hp x y z o (by omega) s0 a0 hs0.2 ha0 hit (fun t b h3 h4 hk => (uniq o t b h0 (by omega) h3 h4 hk).2) d 0 hd (by omega))))
  | succ d ih =>
    intro o ho h0
    exact E2.eq (fun k m => impl_notes_52.l0_eq k m p c o x y z) (E2.pos (by omega) (E3.loop (f := fun k m n => impl_notes_52.l1 k m n p c o 0 x y z) (pass1 p c hp x y z o (by omega) _ (ih (o + 1) (by omega) (by omega)) 7 0 (by omega) (by omega) (fun t b h3 h4 h5 h6 hk => by have := (uniq o t b h0 (by omega) h3 h4 hk).1; omega))))
/-- The step, the alteration, of a pitch's place in its octave. -/
def stepOf (c : Int) : Int := [0, 0, 1, 1, 2, 3, 3, 4, 4, 5, 5, 6].getD c.toNat 0
def alterOf (c : Int) : Int := c - half (stepOf c)
theorem twelve {c : Int} (h0 : 0 ≤ c) (h1 : c ≤ 11) : c = 0 ∨ c = 1 ∨ c = 2 ∨ c = 3 ∨ c = 4 ∨ c = 5 ∨ c = 6 ∨ c = 7 ∨ c = 8 ∨ c = 9 ∨ c = 10 ∨ c = 11 := by omega
theorem seven {c : Int} (h0 : 0 ≤ c) (h1 : c ≤ 6) : c = 0 ∨ c = 1 ∨ c = 2 ∨ c = 3 ∨ c = 4 ∨ c = 5 ∨ c = 6 := by omega
theorem place_facts (c : Int) (h0 : 0 ≤ c) (h1 : c ≤ 11) : (0 ≤ stepOf c ∧ stepOf c ≤ 6) ∧ (alterOf c = 0 ∨ alterOf c = 1) := by
  rcases twelve h0 h1 with rfl | rfl | rfl | rfl | rfl | rfl | rfl | rfl | rfl | rfl | rfl | rfl <;> decide
theorem half_inj (s t : Int) (hs : 0 ≤ s ∧ s ≤ 6) (ht : 0 ≤ t ∧ t ≤ 6) (h : half s = half t) : s = t := by
  rcases seven hs.1 hs.2 with rfl | rfl | rfl | rfl | rfl | rfl | rfl <;> rcases seven ht.1 ht.2 with rfl | rfl | rfl | rfl | rfl | rfl | rfl <;> first | rfl | (exfalso; revert h; decide)
theorem place_nat (c s : Int) (h0 : 0 ≤ c) (h1 : c ≤ 11) (hs : 0 ≤ s ∧ s ≤ 6) (h : half s = c) : alterOf c = 0 := by
  rcases seven hs.1 hs.2 with rfl | rfl | rfl | rfl | rfl | rfl | rfl <;> (subst h; decide)
def noteOf (p : Int) : DT50 := (stepOf (p % 12), (alterOf (p % 12), (p / 12 - 1, ())))
theorem note_pitch (p : Int) : pitchI (noteOf p) = p := by
  unfold pitchI noteOf alterOf
  show 12 * (p / 12 - 1 + 1) + half (stepOf (p % 12)) + (p % 12 - half (stepOf (p % 12))) = p
  omega
theorem implSpell_ev (p : Int) (hp : 12 ≤ p ∧ p ≤ 119) : Ev (fun k => impl_SpellSharp k p) (noteOf p, (true, ())) := by
  obtain ⟨hs, ha⟩ := place_facts (p % 12) (by omega) (by omega)
  have hq : 0 ≤ p / 12 - 1 ∧ p / 12 - 1 ≤ 8 := by omega
  have found : ∀ (x y z : Int), Ev (fun k => impl_notes_52 k p (alterOf (p % 12))) (noteOf p, (true, ())) := by
    intro x y z
    obtain ⟨d, hd⟩ : ∃ d : Nat, (0 : Int) + d = p / 12 - 1 := ⟨(p / 12 - 1).toNat, by omega⟩
    refine Ev.eq (fun k => impl_notes_52_eq k p _) (Ev.loop (f := fun k m => impl_notes_52.l0 k m p (alterOf (p % 12)) 0 0 0 0) ?_)
    refine hit0 p (alterOf (p % 12)) hp 0 0 0 (p / 12 - 1) (stepOf (p % 12)) (alterOf (p % 12)) hq.2 hs (by omega) ⟨note_pitch p, rfl⟩ (fun o t b h1 h2 h3 h4 hk => ?_) d 0 hd (by omega)
    obtain ⟨k1, k2⟩ := hk
    have hb := half_bd t h3 h4
    have e1 := note_pitch p
    have e2 : alterOf (p % 12) = p % 12 - half (stepOf (p % 12)) := rfl
    have hb2 := half_bd _ hs.1 hs.2
    have ho : o = p / 12 - 1 := by
      rcases ha with h | h
      · omega
      · by_cases hc : half t = 11
        · exfalso
          have : p % 12 = 0 := by omega
          rw [this] at h
          revert h; decide
        · omega
    refine ⟨ho, half_inj t _ ⟨h3, h4⟩ hs ?_⟩
    omega
  refine Ev.eq (fun k => impl_SpellSharp_eq k p) (Ev.bind (inRange_ev _ _ _) (Ev.neg (by simpa using hp) (Ev.loop (f := fun k m => impl_SpellSharp.l0 k m p 0 0 0 0) ?_)))
  rcases ha with h | h
  · have f := found 0 0 0
    rw [h] at f
    exact E2.eq (fun k m => impl_SpellSharp.l0_eq k m p 0 0 0 0) (E2.pos (by omega) (E2.bind f (E2.pos rfl E2.ret)))
  · have f := found 0 0 0
    rw [h] at f
    have hno : Ev (fun k => impl_notes_52 k p 0) noN := Ev.eq (fun k => impl_notes_52_eq k p 0) (Ev.loop (f := fun k m => impl_notes_52.l0 k m p 0 0 0 0 0) (none0 p 0 hp 0 0 0 (fun o t b h1 h2 h3 h4 h5 h6 hk => by
      obtain ⟨k1, rfl⟩ := hk
      have hb := half_bd t h3 h4
      have : half t = p % 12 := by omega
      have := place_nat (p % 12) t (by omega) (by omega) ⟨h3, h4⟩ this
      omega) 9 0 (by omega) (by omega)))
    refine E2.eq (fun k m => impl_SpellSharp.l0_eq k m p 0 0 0 0) (E2.pos (by omega) (E2.bind hno (E2.neg (by simp [noN]) ?_)))
    rw [wrapI (n := 0 + 1) (by omega) (by omega)]
    exact E2.eq (fun k m => impl_SpellSharp.l0_eq k m p 0 0 0 1) (E2.pos (by omega) (E2.bind f (E2.pos rfl E2.ret)))
def letB (s : Int) : ByteArray := ByteArray.extract (ByteArray.mk #[99, 100, 101, 102, 103, 97, 98]) (Int.toNat s) (Int.toNat (s + 1))
def hashB : ByteArray := ByteArray.mk #[35]
def noteB (p : Int) : ByteArray := if 12 ≤ p ∧ p ≤ 119 then (if alterOf (p % 12) = 1 then letB (stepOf (p % 12)) ++ hashB else letB (stepOf (p % 12))) ++ itoaB (p / 12 - 1) else ByteArray.mk #[]
theorem letB_size (s : Int) (h : 0 ≤ s ∧ s ≤ 6) : (letB s).size ≤ 1 := by
  rcases seven h.1 h.2 with rfl | rfl | rfl | rfl | rfl | rfl | rfl <;> decide
theorem app_nil (a : ByteArray) : a ++ ByteArray.mk #[] = a := by
  apply bytes_ext
  rw [bytes_app]
  simp
theorem rep_ev (s : ByteArray) (c : Int) (h : c = 0 ∨ c = 1) (hs : s.size ≤ 1) : Ev (fun k => strings_Repeat k s c) (if c = 1 then s else ByteArray.mk #[]) := by
  have hp : primRepeat .str [.val .str s, .val (.int .i64) c] = some (repB s c.toNat) := by
    unfold primRepeat
    refine if_pos ⟨show 0 ≤ c by omega, show c ≤ 9223372036854775807 by omega, ?_⟩
    show s.size * c.toNat ≤ _
    have : c.toNat ≤ 1 := by omega
    have := Nat.mul_le_mul hs this
    omega
  refine Ev.eq (fun k => strings_Repeat_eq k s c) ?_
  rw [hp]
  refine Ev.ret.val ?_
  rcases h with rfl | rfl
  · rfl
  · rw [if_pos rfl]
    apply bytes_ext
    unfold repB
    simp [Lib.repeatL]
theorem implText_ev (p : Int) (hp : 12 ≤ p ∧ p ≤ 119) : Ev (fun k => impl_NoteText k (noteOf p)) (noteB p) := by
  obtain ⟨hs, ha⟩ := place_facts (p % 12) (by omega) (by omega)
  have hq : 0 ≤ p / 12 - 1 ∧ p / 12 - 1 ≤ 8 := by omega
  have hn := implNote_ev (noteOf p) hs (by show -2 ≤ alterOf (p % 12) ∧ alterOf (p % 12) ≤ 2; omega) hq
  rw [note_pitch] at hn
  have hw : IntKind.wrap .i64 ((noteOf p).1 + 1) = stepOf (p % 12) + 1 := wrapI (by show -9223372036854775808 ≤ stepOf (p % 12) + 1; omega) (by show stepOf (p % 12) + 1 ≤ _; omega)
  have hw2 : IntKind.wrap .i64 (-(noteOf p).2.1) = -alterOf (p % 12) := wrapI (by show -9223372036854775808 ≤ -alterOf (p % 12); omega) (by show -alterOf (p % 12) ≤ _; omega)
  refine Ev.eq (fun k => impl_NoteText_eq k (noteOf p)) (Ev.bind hn (Ev.neg (by simp; omega) ?_))
  rw [hw, hw2]
  have hl := letB_size _ hs
  have hi := itoaB_size (p / 12 - 1) (by unfold R64; omega)
  have hm1 : (max (noteOf p).2.1 0 : Int) = alterOf (p % 12) := by show max (alterOf (p % 12)) 0 = _; omega
  have hm2 : (max (-alterOf (p % 12)) 0 : Int) = 0 := by omega
  rw [hm1, hm2]
  have r1 := rep_ev hashB (alterOf (p % 12)) ha (by decide)
  have r2 := rep_ev (ByteArray.mk #[98]) 0 (.inl rfl) (by decide)
  rw [if_neg (by omega)] at r2
  have hfm := implFmt_ev (p / 12 - 1) (by unfold R64; omega)
  have h0 : (ByteArray.mk #[]).size = 0 := rfl
  have h1 : hashB.size = 1 := rfl
  refine Ev.pos (by omega) (Ev.pos (by show stepOf (p % 12) + 1 ≤ 7; omega) (Ev.pos hs.1 (Ev.pos (by show stepOf (p % 12) ≤ _; omega) (Ev.bind r1 ?_))))
  unfold noteB
  rw [if_pos hp]
  rcases ha with h | h
  · rw [if_neg (show ¬ alterOf (p % 12) = 1 by omega), if_neg (show ¬ alterOf (p % 12) = 1 by omega)]
    refine Ev.pos (by show (letB (stepOf (p % 12))).size + 0 ≤ _; omega) (Ev.bind r2 (Ev.pos ?_ (Ev.bind hfm (Ev.pos ?_ (Ev.ret.val ?_)))))
    · rw [size_app]; show (letB (stepOf (p % 12))).size + 0 + 0 ≤ _; omega
    · rw [size_app, size_app]; show (letB (stepOf (p % 12))).size + 0 + 0 + (itoaB (p / 12 - 1)).size ≤ _; omega
    · rw [app_nil, app_nil]; rfl
  · rw [if_pos h, if_pos h]
    refine Ev.pos (by show (letB (stepOf (p % 12))).size + 1 ≤ _; omega) (Ev.bind r2 (Ev.pos ?_ (Ev.bind hfm (Ev.pos ?_ (Ev.ret.val ?_)))))
    · rw [size_app]; show (letB (stepOf (p % 12))).size + 1 + 0 ≤ _; omega
    · rw [size_app, size_app]; show (letB (stepOf (p % 12))).size + 1 + 0 + (itoaB (p / 12 - 1)).size ≤ _; omega
    · rw [app_nil]; rfl
theorem noteB_size (p : Int) : (noteB p).size ≤ 30 := by
  unfold noteB
  by_cases hp : 12 ≤ p ∧ p ≤ 119
  · rw [if_pos hp]
    obtain ⟨hs, ha⟩ := place_facts (p % 12) (by omega) (by omega)
    have hl := letB_size _ hs
    have hi := itoaB_size (p / 12 - 1) (by unfold R64; omega)
    have h1 : hashB.size = 1 := rfl
    rw [size_app]
    split
    · rw [size_app]; omega
    · omega
  · rw [if_neg hp]; decide
theorem implL39_ev (p : Int) : Ev (fun k => impl_spelled k p) (noteB p) := by
  by_cases hp : 12 ≤ p ∧ p ≤ 119
  · exact Ev.eq (fun k => impl_spelled_eq k p) (Ev.bind (implSpell_ev p hp) (Ev.neg (by simp) (Ev.bind (implText_ev p hp) Ev.ret)))
  · exact Ev.eq (fun k => impl_spelled_eq k p) (Ev.bind (a := noN) (Ev.eq (fun k => impl_SpellSharp_eq k p) (Ev.bind (inRange_ev _ _ _) (Ev.pos (by simpa using hp) Ev.ret))) (Ev.pos (by simp [noN]) (Ev.ret.val (by unfold noteB; rw [if_neg hp]))))
def R64E (e : DT45) : Prop := R64 e.1 ∧ R64 e.2.1 ∧ R64 e.2.2.2.1
def eventB (e : DT45) : ByteArray := (((((noteB e.2.2.1 ++ ByteArray.mk #[64]) ++ itoaB e.1) ++ ByteArray.mk #[43]) ++ itoaB e.2.1) ++ ByteArray.mk #[118]) ++ itoaB e.2.2.2.1
theorem eventB_size (e : DT45) (h : R64E e) : (eventB e).size ≤ 1000 := by
  have h0 := noteB_size e.2.2.1
  have h1 := itoaB_size _ h.1
  have h2 := itoaB_size _ h.2.1
  have h3 := itoaB_size _ h.2.2
  unfold eventB
  simp only [size_app]
  show (noteB e.2.2.1).size + 1 + _ + 1 + _ + 1 + _ ≤ 1000
  omega
theorem implEvent_ev (e : DT45) (h : R64E e) : Ev (fun k => impl_FormatEvent k e) (eventB e) := by
  have h0 := noteB_size e.2.2.1
  have h1 := itoaB_size _ h.1
  have h2 := itoaB_size _ h.2.1
  have h3 := itoaB_size _ h.2.2
  refine Ev.eq (fun k => impl_FormatEvent_eq k e) (Ev.bind (implL39_ev _) (Ev.pos ?_ (Ev.bind (implFmt_ev _ h.1) (Ev.pos ?_ (Ev.pos ?_ (Ev.bind (implFmt_ev _ h.2.1) (Ev.pos ?_ (Ev.pos ?_ (Ev.bind (implFmt_ev _ h.2.2) (Ev.pos ?_ Ev.ret))))))))))
  · show (noteB e.2.2.1).size + 1 ≤ _; omega
  · simp only [size_app]; show (noteB e.2.2.1).size + 1 + _ ≤ _; omega
  · simp only [size_app]; show (noteB e.2.2.1).size + 1 + _ + 1 ≤ _; omega
  · simp only [size_app]; show (noteB e.2.2.1).size + 1 + _ + 1 + _ ≤ _; omega
  · simp only [size_app]; show (noteB e.2.2.1).size + 1 + _ + 1 + _ + 1 ≤ _; omega
  · simp only [size_app]; show (noteB e.2.2.1).size + 1 + _ + 1 + _ + 1 + _ ≤ _; omega
theorem evs_small (l : List DT45) (hr : ∀ x ∈ l, R64E x) : ∀ x ∈ l.map eventB, x.size ≤ 1000 := by
  intro x hx
  obtain ⟨n, hn, rfl⟩ := List.mem_map.1 hx
  exact eventB_size n (hr n hn)
theorem implFScore_ev (l : List DT45) (hl : l.length ≤ 1048576) (hr : ∀ x ∈ l, R64E x) : Ev (fun k => impl_FormatScore k l) (spacedB (l.map eventB)) := by
  refine Ev.eq (fun k => impl_FormatScore_eq k l) (Ev.bind (a := spacedB (l.map eventB)) (Ev.eq (fun k => impl_spaced_impl_Event_14_eq k l) ?_) Ev.ret)
  unfold spacedB
  rw [List.length_map]
  by_cases c : l.length = 0
  · rw [if_pos c]; exact Ev.pos (by omega) Ev.ret
  · rw [if_neg c]
    refine Ev.neg (by omega) (Ev.loop (f := fun k m => impl_spaced_impl_Event_14.l0 k m l ((List.length l : Nat) : Int) 0 []) ?_)
    refine loop_collect (t := T45) (l := l) (R := fun i s v => E2 (fun k m => impl_spaced_impl_Event_14.l0 k m l ((List.length l : Nat) : Int) i s) v) eventB ?_ fun i hi s hsl e => ?_
    · exact E2.eq (fun k m => impl_spaced_impl_Event_14.l0_eq k m l _ _ _) (E2.neg (by omega) (E2.bind (implJoin_ev _ (by simpa using hl) (evs_small l hr)) E2.ret))
    · refine E2.eq (fun k m => impl_spaced_impl_Event_14.l0_eq k m l _ _ s) (E2.pos (by omega) (E2.pos (by omega) (E2.pos (by omega) (E2.bind (implEvent_ev _ (by rw [rd_at hi]; exact hr _ (List.getElem_mem hi))) (E2.pos (by simp only [List.length_cons, List.length_nil]; omega) ?_)))))
      simp only [wrapS (show i < 9223372036854775807 by omega)]; exact e
def R64S (s : DT50) : Prop := R64 s.2.1
def signB (s : DT50) : ByteArray := ((if Ne (α := Int) s.2.2.1 0 then noteB s.2.2.1 else ByteArray.mk #[114]) ++ ByteArray.mk #[47]) ++ itoaB s.2.1
theorem signB_size (s : DT50) (h : R64S s) : (signB s).size ≤ 1000 := by
  have h0 := noteB_size s.2.2.1
  have h1 := itoaB_size _ h
  unfold signB
  simp only [size_app]
  split
  · show (noteB s.2.2.1).size + 1 + _ ≤ 1000; omega
  · show 1 + 1 + _ ≤ 1000; omega
theorem implSign_ev (s : DT50) (h : R64S s) : Ev (fun k => impl_FormatPart_1 k s) (signB s) := by
  have h0 := noteB_size s.2.2.1
  have h1 := itoaB_size _ h
  unfold signB
  by_cases c : Ne (α := Int) s.2.2.1 0
  · rw [if_pos c]
    refine Ev.eq (fun k => impl_FormatPart_1_eq k s) (Ev.pos c (Ev.bind (implL39_ev _) (Ev.pos ?_ (Ev.bind (implFmt_ev _ h) (Ev.pos ?_ Ev.ret)))))
    · show (noteB s.2.2.1).size + 1 ≤ _; omega
    · simp only [size_app]; show (noteB s.2.2.1).size + 1 + _ ≤ _; omega
  · rw [if_neg c]
    refine Ev.eq (fun k => impl_FormatPart_1_eq k s) (Ev.neg c (Ev.pos (by decide) (Ev.bind (implFmt_ev _ h) (Ev.pos ?_ Ev.ret))))
    simp only [size_app]; show 1 + 1 + _ ≤ 211106232532992; omega
theorem signs_small (l : List DT50) (hr : ∀ x ∈ l, R64S x) : ∀ x ∈ l.map signB, x.size ≤ 1000 := by
  intro x hx
  obtain ⟨n, hn, rfl⟩ := List.mem_map.1 hx
  exact signB_size n (hr n hn)
theorem implFPart_ev (l : List DT50) (hl : l.length ≤ 1048576) (hr : ∀ x ∈ l, R64S x) : Ev (fun k => impl_FormatPart k l) (spacedB (l.map signB)) := by
  refine Ev.eq (fun k => impl_FormatPart_eq k l) (Ev.bind (a := spacedB (l.map signB)) (Ev.eq (fun k => impl_spaced_impl_Sign_20_eq k l) ?_) Ev.ret)
  unfold spacedB
  rw [List.length_map]
  by_cases c : l.length = 0
  · rw [if_pos c]; exact Ev.pos (by omega) Ev.ret
  · rw [if_neg c]
    refine Ev.neg (by omega) (Ev.loop (f := fun k m => impl_spaced_impl_Sign_20.l0 k m l ((List.length l : Nat) : Int) 0 []) ?_)
    refine loop_collect (t := T50) (l := l) (R := fun i s v => E2 (fun k m => impl_spaced_impl_Sign_20.l0 k m l ((List.length l : Nat) : Int) i s) v) signB ?_ fun i hi s hsl e => ?_
    · exact E2.eq (fun k m => impl_spaced_impl_Sign_20.l0_eq k m l _ _ _) (E2.neg (by omega) (E2.bind (implJoin_ev _ (by simpa using hl) (signs_small l hr)) E2.ret))
    · refine E2.eq (fun k m => impl_spaced_impl_Sign_20.l0_eq k m l _ _ s) (E2.pos (by omega) (E2.pos (by omega) (E2.pos (by omega) (E2.bind (implSign_ev _ (by rw [rd_at hi]; exact hr _ (List.getElem_mem hi))) (E2.pos (by simp only [List.length_cons, List.length_nil]; omega) ?_)))))
      simp only [wrapS (show i < 9223372036854775807 by omega)]; exact e
def faultW (k : Int) : ByteArray := if k = 1 then ByteArray.mk #[112, 97, 114, 97, 108, 108, 101, 108] else if k = 2 then ByteArray.mk #[99, 114, 111, 115, 115, 105, 110, 103] else if k = 3 then ByteArray.mk #[108, 101, 97, 112] else ByteArray.mk #[111, 116, 104, 101, 114]
theorem faultW_size (k : Int) : (faultW k).size ≤ 10 := by
  unfold faultW
  split
  · decide
  · split
    · decide
    · split <;> decide
def R64F (s : DT31) : Prop := R64 s.2.1
def faultB (s : DT31) : ByteArray := (faultW s.1 ++ ByteArray.mk #[64]) ++ itoaB s.2.1
theorem faultB_size (s : DT31) (h : R64F s) : (faultB s).size ≤ 1000 := by
  have h0 := faultW_size s.1
  have h1 := itoaB_size _ h
  unfold faultB
  simp only [size_app]
  show (faultW s.1).size + 1 + _ ≤ 1000; omega
theorem faults_small (l : List DT31) (hr : ∀ x ∈ l, R64F x) : ∀ x ∈ l.map faultB, x.size ≤ 1000 := by
  intro x hx
  obtain ⟨n, hn, rfl⟩ := List.mem_map.1 hx
  exact faultB_size n (hr n hn)
theorem implFault_ev (s : DT31) (h : R64F s) : Ev (fun k => impl_FormatFaults_1 k s) (faultB s) := by
  have h0 := faultW_size s.1
  have h1 := itoaB_size _ h
  unfold faultB
  have hin := inRange_ev s.1 1 3
  by_cases c : 1 ≤ (s.1 : Int) ∧ (s.1 : Int) ≤ 3
  · have hw : rd .str ([(ByteArray.mk #[112, 97, 114, 97, 108, 108, 101, 108]), (ByteArray.mk #[99, 114, 111, 115, 115, 105, 110, 103]), (ByteArray.mk #[108, 101, 97, 112])]) (IntKind.wrap .i64 (s.1 - 1)) = faultW s.1 := by
      generalize hs : (s.1 : Int) = x at *
      have : x = 1 ∨ x = 2 ∨ x = 3 := by omega
      rcases this with e | e | e <;> (subst e; rfl)
    have hx : IntKind.wrap .i64 (s.1 - 1) = s.1 - 1 := wrapI (by omega) (by omega)
    refine Ev.eq (fun k => impl_FormatFaults_1_eq k s) (Ev.bind hin (Ev.pos (by simpa using c) (Ev.pos (by rw [hx]; omega) (Ev.pos (by rw [hx]; simp only [List.length_cons, List.length_nil]; omega) ?_))))
    rw [hw]
    refine Ev.pos ?_ (Ev.bind (implFmt_ev _ h) (Ev.pos ?_ Ev.ret))
    · show (faultW s.1).size + 1 ≤ _; omega
    · simp only [size_app]; show (faultW s.1).size + 1 + _ ≤ _; omega
  · have hw : faultW s.1 = ByteArray.mk #[111, 116, 104, 101, 114] := by
      unfold faultW
      rw [if_neg (by omega), if_neg (by omega), if_neg (by omega)]
    rw [hw]
    refine Ev.eq (fun k => impl_FormatFaults_1_eq k s) (Ev.bind hin (Ev.neg (by simpa using c) (Ev.pos (by decide) (Ev.bind (implFmt_ev _ h) (Ev.pos ?_ Ev.ret)))))
    simp only [size_app]; show 5 + 1 + _ ≤ 211106232532992; omega
theorem implFaults_ev (l : List DT31) (hl : l.length ≤ 1048576) (hr : ∀ x ∈ l, R64F x) : Ev (fun k => impl_FormatFaults k l) (spacedB (l.map faultB)) := by
  refine Ev.eq (fun k => impl_FormatFaults_eq k l) (Ev.bind (a := spacedB (l.map faultB)) (Ev.eq (fun k => impl_spaced_impl_Fault_28_eq k l) ?_) Ev.ret)
  unfold spacedB
  rw [List.length_map]
  by_cases c : l.length = 0
  · rw [if_pos c]; exact Ev.pos (by omega) Ev.ret
  · rw [if_neg c]
    refine Ev.neg (by omega) (Ev.loop (f := fun k m => impl_spaced_impl_Fault_28.l0 k m l ((List.length l : Nat) : Int) 0 []) ?_)
    refine loop_collect (t := T31) (l := l) (R := fun i s v => E2 (fun k m => impl_spaced_impl_Fault_28.l0 k m l ((List.length l : Nat) : Int) i s) v) faultB ?_ fun i hi s hsl e => ?_
    · exact E2.eq (fun k m => impl_spaced_impl_Fault_28.l0_eq k m l _ _ _) (E2.neg (by omega) (E2.bind (implJoin_ev _ (by simpa using hl) (faults_small l hr)) E2.ret))
    · refine E2.eq (fun k m => impl_spaced_impl_Fault_28.l0_eq k m l _ _ s) (E2.pos (by omega) (E2.pos (by omega) (E2.pos (by omega) (E2.bind (implFault_ev _ (by rw [rd_at hi]; exact hr _ (List.getElem_mem hi))) (E2.pos (by simp only [List.length_cons, List.length_nil]; omega) ?_)))))
      simp only [wrapS (show i < 9223372036854775807 by omega)]; exact e
def rootsB : List ByteArray := [(ByteArray.mk #[99]), (ByteArray.mk #[99, 35]), (ByteArray.mk #[100]), (ByteArray.mk #[100, 35]), (ByteArray.mk #[101]), (ByteArray.mk #[102]), (ByteArray.mk #[102, 35]), (ByteArray.mk #[103]), (ByteArray.mk #[103, 35]), (ByteArray.mk #[97]), (ByteArray.mk #[97, 35]), (ByteArray.mk #[98])]
def kindsB : List ByteArray := [(ByteArray.mk #[]), (ByteArray.mk #[109]), (ByteArray.mk #[111]), (ByteArray.mk #[43]), (ByteArray.mk #[55])]
def chordP (x : DT31) : Prop := (0 ≤ (x.1 : Int) ∧ (x.1 : Int) ≤ 11) ∧ (1 ≤ (x.2.1 : Int) ∧ (x.2.1 : Int) ≤ 5)
instance (x : DT31) : Decidable (chordP x) := by unfold chordP; infer_instance
def chordB (x : DT31) : ByteArray := if chordP x then rd .str rootsB x.1 ++ rd .str kindsB (x.2.1 - 1) else ByteArray.mk #[]
theorem roots_size (n : Int) : (rd .str rootsB n).size ≤ 10 := by
  unfold rd
  by_cases h : n.toNat < 12
  · generalize n.toNat = m at h
    have : m = 0 ∨ m = 1 ∨ m = 2 ∨ m = 3 ∨ m = 4 ∨ m = 5 ∨ m = 6 ∨ m = 7 ∨ m = 8 ∨ m = 9 ∨ m = 10 ∨ m = 11 := by omega
    rcases this with e | e | e | e | e | e | e | e | e | e | e | e <;> (subst e; decide)
  · rw [List.getD_eq_getElem?_getD, List.getElem?_eq_none (by simp [rootsB]; omega)]; decide
theorem kinds_size (n : Int) : (rd .str kindsB n).size ≤ 10 := by
  unfold rd
  by_cases h : n.toNat < 5
  · generalize n.toNat = m at h
    have : m = 0 ∨ m = 1 ∨ m = 2 ∨ m = 3 ∨ m = 4 := by omega
    rcases this with e | e | e | e | e <;> (subst e; decide)
  · rw [List.getD_eq_getElem?_getD, List.getElem?_eq_none (by simp [kindsB]; omega)]; decide
theorem chordB_size (x : DT31) : (chordB x).size ≤ 1000 := by
  have h0 := roots_size x.1
  have h1 := kinds_size (x.2.1 - 1)
  unfold chordB
  split
  · simp only [size_app]; omega
  · decide
theorem chords_small (l : List DT31) : ∀ x ∈ l.map chordB, x.size ≤ 1000 := by
  intro x hx
  obtain ⟨n, hn, rfl⟩ := List.mem_map.1 hx
  exact chordB_size n
theorem chordP_yes {x : DT31} (c : 0 ≤ (x.1 : Int) ∧ (x.1 : Int) ≤ 11) : decide (decide (1 ≤ (x.2.1 : Int) ∧ (x.2.1 : Int) ≤ 5) = true) = decide (chordP x) := by
  rw [decide_eq_decide, decide_eq_true_iff]
  exact ⟨fun h => ⟨c, h⟩, fun h => h.2⟩
theorem chordP_no {x : DT31} (c : ¬ (0 ≤ (x.1 : Int) ∧ (x.1 : Int) ≤ 11)) : false = decide (chordP x) := by
  symm
  rw [decide_eq_false_iff_not]
  exact fun h => c h.1
theorem implIsChord_ev (x : DT31) : Ev (fun k => impl_IsChord k x) (decide (chordP x)) := by
  by_cases c : 0 ≤ (x.1 : Int) ∧ (x.1 : Int) ≤ 11
  · exact Ev.eq (fun k => impl_IsChord_eq k x) (Ev.bind (inRange_ev _ _ _) (Ev.pos (by simpa using c) (Ev.bind (inRange_ev _ _ _) (Ev.ret.val (chordP_yes c)))))
  · exact Ev.eq (fun k => impl_IsChord_eq k x) (Ev.bind (inRange_ev _ _ _) (Ev.neg (by simpa using c) (Ev.ret.val (chordP_no c))))
theorem implChord_ev (x : DT31) : Ev (fun k => impl_ChordText k x) (chordB x) := by
  have h0 := roots_size x.1
  have h1 := kinds_size (x.2.1 - 1)
  unfold chordB
  by_cases c : chordP x
  · have c' := c
    unfold chordP at c'
    rw [if_pos c]
    have hx : IntKind.wrap .i64 (x.2.1 - 1) = x.2.1 - 1 := wrapI (by omega) (by omega)
    refine Ev.eq (fun k => impl_ChordText_eq k x) (Ev.bind (implIsChord_ev x) (Ev.neg (by simpa using c) (Ev.pos c'.1.1 (Ev.pos ?_ (Ev.pos ?_ (Ev.pos ?_ (Ev.pos ?_ ?_)))))))
    · simp only [List.length_cons, List.length_nil]; omega
    · rw [hx]; omega
    · rw [hx]; simp only [List.length_cons, List.length_nil]; omega
    · rw [hx]; show (rd .str rootsB x.1).size + (rd .str kindsB (x.2.1 - 1)).size ≤ _; omega
    · rw [hx]; exact Ev.ret
  · rw [if_neg c]
    exact Ev.eq (fun k => impl_ChordText_eq k x) (Ev.bind (implIsChord_ev x) (Ev.pos (by simpa using c) Ev.ret))
theorem implChords_ev (l : List DT31) (hl : l.length ≤ 1048576) : Ev (fun k => impl_FormatChords k l) (spacedB (l.map chordB)) := by
  refine Ev.eq (fun k => impl_FormatChords_eq k l) (Ev.bind (a := spacedB (l.map chordB)) (Ev.eq (fun k => impl_spaced_impl_Chord_26_eq k l) ?_) Ev.ret)
  unfold spacedB
  rw [List.length_map]
  by_cases c : l.length = 0
  · rw [if_pos c]; exact Ev.pos (by omega) Ev.ret
  · rw [if_neg c]
    refine Ev.neg (by omega) (Ev.loop (f := fun k m => impl_spaced_impl_Chord_26.l0 k m l ((List.length l : Nat) : Int) 0 []) ?_)
    refine loop_collect (t := T31) (l := l) (R := fun i s v => E2 (fun k m => impl_spaced_impl_Chord_26.l0 k m l ((List.length l : Nat) : Int) i s) v) chordB ?_ fun i hi s hsl e => ?_
    · exact E2.eq (fun k m => impl_spaced_impl_Chord_26.l0_eq k m l _ _ _) (E2.neg (by omega) (E2.bind (implJoin_ev _ (by simpa using hl) (chords_small l)) E2.ret))
    · refine E2.eq (fun k m => impl_spaced_impl_Chord_26.l0_eq k m l _ _ s) (E2.pos (by omega) (E2.pos (by omega) (E2.pos (by omega) (E2.bind (implChord_ev _) (E2.pos (by simp only [List.length_cons, List.length_nil]; omega) ?_)))))
      simp only [wrapS (show i < 9223372036854775807 by omega)]; exact e
theorem l29_ev (l : List DT126) (h : Bk (.list T126) l) : Ev (fun k => spec_l29Copy k l) l := by
  have hl : l.length ≤ 1048576 := h.1
  have key : ∀ d (i : Nat) (s : List DT126), i + d = l.length → s.length = i → s ++ l.drop i = l → E2 (fun k m => spec_l29Copy.l0 k m l (i : Int) s) l := by
    intro d
    induction d with
    | zero =>
      intro i s hi hs ht
      have hi : i = l.length := by omega
      subst hi
      have e : E2 (fun k m => spec_l29Copy.l0 k m l ((l.length : Nat) : Int) s) s := by
        refine E2.eq (fun k m => spec_l29Copy.l0_eq k m l _ s) ?_
        refine E2.neg (by omega) ?_
        exact E2.ret
      exact e.val (by rw [← ht]; simp)
    | succ d ih =>
      intro i s hi hs ht
      have hi' : i < l.length := by omega
      have hb := (bk_rd h hi').2.2.2.1.1
      refine E2.eq (fun k m => spec_l29Copy.l0_eq k m l _ s) ?_
      refine E2.pos (by omega) ?_
      refine E2.pos (by omega) ?_
      refine E2.pos (by omega) ?_
      refine E2.pos (by simp only [List.length_nil]; omega) ?_
      refine E2.pos (by simp only [List.length_cons, List.length_nil]; omega) ?_
      simp only [wrapS (show i < 9223372036854775807 by omega)]
      refine ih (i + 1) _ (by omega) (by simp; omega) ?_
      rw [List.append_assoc]
      refine Eq.trans ?_ ht
      congr 1
      exact (drop_rd (t := T126) hi').symm
  exact Ev.eq (fun k => spec_l29Copy_eq k l) (Ev.loop (f := fun k m => spec_l29Copy.l0 k m l 0 []) (key l.length 0 [] (by omega) rfl (by simp)))
theorem l33_ev (o : DT38) (h : Bk T38 o) : Ev (fun k => spec_l33Copy k o) o := by
  have h1 := h.1.1
  have h2 := h.2.2.1.1
  have h4 := h.2.2.2.2.1.1
  have h5 := h.2.2.2.2.2.1.1
  have h6 := h.2.2.2.2.2.2.1.1
  refine Ev.eq (fun k => spec_l33Copy_eq k o) ?_
  refine Ev.pos (by simp only [List.length_nil]; omega) ?_
  refine Ev.pos (by simp only [List.length_nil]; omega) ?_
  refine Ev.bind (l29_ev o.2.2.2.1 h.2.2.2.1) ?_
  refine Ev.pos (by simp only [List.length_nil]; omega) ?_
  refine Ev.pos (by simp only [List.length_nil]; omega) ?_
  refine Ev.pos (by simp only [List.length_nil]; omega) ?_
  exact Ev.ret
theorem Ev.uniq {α : Type} {f : Nat → Option α} {a b : α} (h : Ev f a) (k : Ev f b) : a = b := by
  obtain ⟨K, h⟩ := h
  obtain ⟨M, k⟩ := k
  have h1 := h (max K M) (by omega)
  rw [k (max K M) (by omega)] at h1
  exact (Option.some.inj h1).symm
theorem first_idx (Q : Nat → Prop) : ∀ n, ∃ p, p ≤ n ∧ (∀ j, j < p → Q j) ∧ (p < n → ¬ Q p)
  | 0 => ⟨0, Nat.le_refl _, fun j hj => by omega, fun h => by omega⟩
  | n + 1 => by
    obtain ⟨p, h1, h2, h3⟩ := first_idx Q n
    by_cases hp : p < n
    · exact ⟨p, by omega, h2, fun _ => h3 hp⟩
    · have : p = n := by omega
      subst this
      by_cases hq : Q p
      · exact ⟨p + 1, Nat.le_refl _, fun j hj => by
          by_cases h : j = p
          · subst h; exact hq
          · exact h2 j (by omega), fun h => by omega⟩
      · exact ⟨p, by omega, h2, fun _ => hq⟩
def eqK (a b : DT128) : Prop := (a.1 : Int) = b.1 ∧ (a.2.1 : Int) = b.2.1
instance (a b : DT128) : Decidable (eqK a b) := by unfold eqK; infer_instance
def nwM (a b : DT128) : Prop := (b.2.2.2.1 : Int) < a.2.2.2.1 ∨ (b.2.2.2.1 : Int) = a.2.2.2.1 ∧ ((b.2.2.2.2.1 : Int) < a.2.2.2.2.1 ∨ (b.2.2.2.2.1 : Int) = a.2.2.2.2.1 ∧ (b.2.2.1 : Int) < a.2.2.1)
instance (a b : DT128) : Decidable (nwM a b) := by unfold nwM; infer_instance
theorem newerS_ev (a b : DT128) : Ev (fun k => spec_IsNewer k a b) (decide (nwM a b)) := by
  refine Ev.eq (fun k => spec_IsNewer_eq k a b) ?_
  unfold nwM
  by_cases c1 : (a.2.2.2.1 : Int) = b.2.2.2.1
  · refine Ev.neg (by omega) ?_
    by_cases c2 : (a.2.2.2.2.1 : Int) = b.2.2.2.2.1
    · exact Ev.neg (by omega) (Ev.ret.val (by congr 1; exact propext ⟨fun h => .inr ⟨c1.symm, .inr ⟨c2.symm, h⟩⟩, fun h => by omega⟩))
    · exact Ev.pos (by omega) (Ev.ret.val (by congr 1; exact propext ⟨fun h => .inr ⟨c1.symm, .inl h⟩, fun h => by omega⟩))
  · exact Ev.pos (by omega) (Ev.ret.val (by congr 1; exact propext ⟨fun h => .inl h, fun h => by omega⟩))
def setV (l : List DT128) (x : DT128) (p : Nat) : List DT128 :=
  if p < l.length ∧ eqK (rd T128 l (p : Int)) x then (if nwM x (rd T128 l (p : Int)) then l.take p ++ [x] ++ l.drop (p + 1) else l) else l.take p ++ [x] ++ l.drop p
theorem setV_len (l : List DT128) (x : DT128) (p : Nat) (hp : p ≤ l.length) : (setV l x p).length ≤ l.length + 1 := by
  unfold setV
  split
  · split
    · simp; omega
    · omega
  · simp; omega
theorem rd_drop0 {l : List DT128} {i : Nat} (hi : i < l.length) : rd T128 (l.drop i) (0 : Int) = rd T128 l (i : Int) := by
  show (l.drop i).getD (Int.toNat 0) _ = l.getD (Int.toNat (i : Int)) _
  simp [List.getD]
theorem setS_ev (l : List DT128) (x : DT128) (hl : l.length ≤ 1048576) (p : Nat) (hp : p ≤ l.length) (h1 : ∀ j, j < p → befM (rd T128 l (j : Int)) x) (h2 : p < l.length → ¬ befM (rd T128 l (p : Int)) x) : Ev (fun k => spec_l25Set k l x) (setV l x p) := by
  have key : ∀ d i : Nat, i + d = p → E2 (fun k m => spec_l25Set.l0 k m l (i : Int) x.1 x.2.1 x.2.2.1 x.2.2.2.1 x.2.2.2.2.1) (setV l x p) := by
    intro d
    induction d with
    | zero =>
      intro i hi
      have hi : i = p := by omega
      subst hi
      have hrest : List.take ((Int.toNat ((List.length l : Nat) : Int)) - (Int.toNat (i : Int))) (List.drop (Int.toNat (i : Int)) l) = l.drop i := by
        simp only [Int.toNat_natCast]
        rw [List.take_of_length_le (by simp)]
      have htake : List.take ((Int.toNat (i : Int)) - (Int.toNat 0)) (List.drop (Int.toNat 0) l) = l.take i := by simp
      have hrest1 : List.take ((Int.toNat ((List.length (l.drop i) : Nat) : Int)) - (Int.toNat 1)) (List.drop (Int.toNat 1) (l.drop i)) = l.drop (i + 1) := by
        have : Int.toNat 1 = 1 := rfl
        rw [this, Int.toNat_natCast, List.drop_drop, List.take_of_length_le (by simp; omega)]
      have hdl : (l.drop i).length = l.length - i := by simp
      have htl : (l.take i).length = i := by simp; omega
      have hx : (x.1, (x.2.1, (x.2.2.1, (x.2.2.2.1, (x.2.2.2.2.1, ()))))) = x := rfl
      refine E2.eq (fun k m => spec_l25Set.l0_eq k m l _ _ _ _ _ _) ?_
      simp only [hrest, htake, hrest1, hx]
      by_cases c : i < l.length
      · refine E2.pos (by omega) (E2.pos (by omega) (E2.pos (by omega) (E2.bind (beforeM_ev _ _) (E2.neg (by simpa using h2 c) ?_))))
        refine E2.pos (by omega) (E2.pos (by omega) (E2.pos (by rw [hdl]; omega) (E2.pos (by omega) (E2.pos (by rw [hdl]; omega) ?_))))
        simp only [rd_drop0 c]
        have last : ¬ (i < l.length ∧ eqK (rd T128 l (i : Int)) x) → setV l x i = ([] ++ l.take i) ++ [x] ++ l.drop i := fun h => by unfold setV; rw [if_neg h]; rfl
        by_cases q1 : ((rd T128 l (i : Int)).1 : Int) = x.1
        · refine E2.pos q1 (E2.pos (by omega) (E2.pos (by rw [hdl]; omega) ?_))
          by_cases q2 : ((rd T128 l (i : Int)).2.1 : Int) = x.2.1
          · refine E2.pos q2 (E2.pos (by omega) (E2.pos (by rw [hdl]; omega) (E2.bind (newerS_ev _ _) ?_)))
            have hk : i < l.length ∧ eqK (rd T128 l (i : Int)) x := ⟨c, q1, q2⟩
            by_cases q3 : nwM x (rd T128 l (i : Int))
            · refine E2.neg (by simpa using q3) (E2.pos (by omega) (E2.pos (by rw [hdl]; omega) (E2.pos (by omega) (E2.pos (by omega) (E2.pos (by simp only [List.length_nil, htl]; omega) (E2.pos (by simp only [List.length_append, List.length_nil, List.length_singleton, htl]; omega) (E2.pos (by simp only [List.length_append, List.length_nil, List.length_singleton, List.length_drop, htl]; omega) ?_)))))))
              exact E2.ret.val (by unfold setV; rw [if_pos hk, if_pos q3]; rfl)
            · exact E2.pos (by simpa using q3) (E2.pos (by simp only [List.length_nil]; omega) (E2.ret.val (by unfold setV; rw [if_pos hk, if_neg q3]; rfl)))
          · refine E2.neg q2 (E2.pos (by omega) (E2.pos (by omega) (E2.pos (by simp only [List.length_nil, htl]; omega) (E2.pos (by simp only [List.length_append, List.length_nil, List.length_singleton, htl]; omega) (E2.pos (by simp only [List.length_append, List.length_nil, List.length_singleton, List.length_drop, htl]; omega) ?_)))))
            exact E2.ret.val (last fun h => q2 h.2.2).symm
        · refine E2.neg q1 (E2.pos (by omega) (E2.pos (by omega) (E2.pos (by simp only [List.length_nil, htl]; omega) (E2.pos (by simp only [List.length_append, List.length_nil, List.length_singleton, htl]; omega) (E2.pos (by simp only [List.length_append, List.length_nil, List.length_singleton, List.length_drop, htl]; omega) ?_)))))
          exact E2.ret.val (last fun h => q1 h.2.1).symm
      · refine E2.neg (by omega) (E2.pos (by omega) (E2.pos (by omega) (E2.neg (by rw [hdl]; omega) ?_)))
        refine E2.pos (by omega) (E2.pos (by omega) (E2.pos (by simp only [List.length_nil, htl]; omega) (E2.pos (by simp only [List.length_append, List.length_nil, List.length_singleton, htl]; omega) (E2.pos (by simp only [List.length_append, List.length_nil, List.length_singleton, List.length_drop, htl]; omega) ?_))))
        exact E2.ret.val (by unfold setV; rw [if_neg (fun h => c h.1)]; rfl)
    | succ d ih =>
      intro i hi
      refine E2.eq (fun k m => spec_l25Set.l0_eq k m l _ _ _ _ _ _) (E2.pos (by omega) (E2.pos (by omega) (E2.pos (by omega) (E2.bind (beforeM_ev _ _) (E2.pos (by simpa using h1 i (by omega)) ?_)))))
      simp only [wrapS (show i < 9223372036854775807 by omega)]
      exact ih (i + 1) (by omega)
  exact Ev.eq (fun k => spec_l25Set_eq k l x) (Ev.loop (f := fun k m => spec_l25Set.l0 k m l 0 x.1 x.2.1 x.2.2.1 x.2.2.2.1 x.2.2.2.2.1) (key p 0 (by omega)))
/-- Sorted, as far as the order tells. -/
def wkE (l : List DT45) : Prop := l.Pairwise fun a b => ¬ bef b a
theorem putW_ev (l : List DT45) (e : DT45) (hl : l.length ≤ 33554432) : ∃ v : List DT45, v.Perm (e :: l) ∧ (wkE l → wkE v) ∧ Ev (fun k => spec_l8Put k l e) v := by
  obtain ⟨p, hp, h1, h2⟩ := first_idx (fun i => bef (rd T45 l (i : Int)) e) l.length
  refine ⟨l.take p ++ [e] ++ l.drop p, ?_, fun hw => ?_, ?_⟩
  · have : (l.take p ++ [e] ++ l.drop p).Perm (e :: (l.take p ++ l.drop p)) := by
      rw [List.append_assoc]
      exact List.perm_middle
    rwa [List.take_append_drop] at this
  · have hd : ∀ b ∈ l.drop p, ¬ bef b e := fun b hb hbe => by
      obtain ⟨j, hj, rfl⟩ := List.getElem_of_mem hb
      rw [List.length_drop] at hj
      have hpl : p < l.length := by omega
      have hnp := h2 hpl
      rw [List.getElem_drop] at hbe
      rcases Nat.eq_zero_or_pos j with h0 | h0
      · subst h0
        rw [rd_at hpl] at hnp
        exact hnp hbe
      · have := List.pairwise_iff_getElem.1 hw p (p + j) hpl (by omega) (by omega)
        rw [rd_at hpl] at hnp
        unfold bef at *
        omega
    have ht : ∀ a ∈ l.take p, bef a e := fun a ha => by
      obtain ⟨j, hj, rfl⟩ := List.getElem_of_mem ha
      rw [List.length_take] at hj
      have := h1 j (by omega)
      rw [rd_at (by omega)] at this
      rw [List.getElem_take]
      exact this
    unfold wkE at *
    rw [List.append_assoc, List.pairwise_append]
    have hs : (l.take p ++ l.drop p).Pairwise fun a b => ¬ bef b a := by rw [List.take_append_drop]; exact hw
    rw [List.pairwise_append] at hs
    refine ⟨hs.1, ?_, fun a ha b hb => ?_⟩
    · rw [List.singleton_append, List.pairwise_cons]
      exact ⟨fun b hb => hd b hb, hs.2.1⟩
    · rw [List.singleton_append, List.mem_cons] at hb
      rcases hb with rfl | hb
      · have := ht a ha
        unfold bef at *
        omega
      · exact hs.2.2 a ha b hb
  · have key : ∀ d i : Nat, i + d = p → E2 (fun k m => spec_l8Put.l0 k m l (i : Int) e.1 e.2.1 e.2.2.1 e.2.2.2.1) (l.take p ++ [e] ++ l.drop p) := by
      intro d
      induction d with
      | zero =>
        intro i hi
        have hi : i = p := by omega
        subst hi
        have hfin : ((([] : List DT45) ++ (List.take ((Int.toNat (i : Int)) - (Int.toNat 0)) (List.drop (Int.toNat 0) l))) ++ ([(e.1, (e.2.1, (e.2.2.1, (e.2.2.2.1, ()))))] : (List DT45))) ++ (List.take ((Int.toNat ((List.length l : Nat) : Int)) - (Int.toNat (i : Int))) (List.drop (Int.toNat (i : Int)) l)) = l.take i ++ [e] ++ l.drop i := by
          simp only [Int.toNat_natCast, Int.toNat_zero, Nat.sub_zero, List.drop_zero, List.nil_append]
          rw [List.take_of_length_le (l := l.drop i) (by simp)]
        have hsz : (List.take ((Int.toNat (i : Int)) - (Int.toNat 0)) (List.drop (Int.toNat 0) l)).length ≤ l.length := by simp; omega
        have hsz2 : (List.take ((Int.toNat ((List.length l : Nat) : Int)) - (Int.toNat (i : Int))) (List.drop (Int.toNat (i : Int)) l)).length ≤ l.length := by simp
        refine E2.eq (fun k m => spec_l8Put.l0_eq k m l _ _ _ _ _) ?_
        by_cases c : i < l.length
        · refine E2.pos (by omega) (E2.pos (by omega) (E2.pos (by omega) (E2.bind (before_ev _ _) (E2.neg (by simpa using h2 c) ?_))))
          refine E2.pos (by omega) (E2.pos (by omega) (E2.pos (by rw [List.length_nil]; omega) (E2.pos (by simp only [List.length_append, List.length_nil, List.length_singleton]; omega) (E2.pos (by omega) (E2.pos (by omega) (E2.pos (by simp only [List.length_append, List.length_nil, List.length_singleton]; omega) ?_))))))
          exact E2.ret.val hfin
        · refine E2.neg (by omega) ?_
          refine E2.pos (by omega) (E2.pos (by omega) (E2.pos (by rw [List.length_nil]; omega) (E2.pos (by simp only [List.length_append, List.length_nil, List.length_singleton]; omega) (E2.pos (by omega) (E2.pos (by omega) (E2.pos (by simp only [List.length_append, List.length_nil, List.length_singleton]; omega) ?_))))))
          exact E2.ret.val hfin
      | succ d ih =>
        intro i hi
        refine E2.eq (fun k m => spec_l8Put.l0_eq k m l _ _ _ _ _) (E2.pos (by omega) (E2.pos (by omega) (E2.pos (by omega) (E2.bind (before_ev _ _) (E2.pos (by simpa using h1 i (by omega)) ?_)))))
        simp only [wrapS (show i < 9223372036854775807 by omega)]
        exact ih (i + 1) (by omega)
    exact Ev.eq (fun k => spec_l8Put_eq k l e) (Ev.loop (f := fun k m => spec_l8Put.l0 k m l 0 e.1 e.2.1 e.2.2.1 e.2.2.2.1) (key p 0 (by omega)))
def newO (m : DT31) (ps : List DT126) : DT38 := ([], (m, ([(0, (100, ()))], (ps, ([], ([], ([], (1, (0, ())))))))))
def zeroO : DT38 := ([], ((0, (0, ())), ([], ([], ([], ([], ([], (0, (0, ())))))))))
theorem newO_bk (m : DT31) (ps : List DT126) (h : Bk (.list T126) ps) : Bk T38 (newO m ps) :=
  ⟨⟨by simp [newO], by simp [newO]⟩, bk_flat _ rfl, ⟨by simp [newO], fun x _ => bk_flat x rfl⟩, h, ⟨by simp [newO], by simp [newO]⟩, ⟨by simp [newO], by simp [newO]⟩, ⟨by simp [newO], by simp [newO]⟩, trivial, trivial, trivial⟩
theorem zeroO_bk : Bk T38 zeroO :=
  ⟨⟨by simp [zeroO], by simp [zeroO]⟩, bk_flat _ rfl, ⟨by simp [zeroO], by simp [zeroO]⟩, ⟨by simp [zeroO], by simp [zeroO]⟩, ⟨by simp [zeroO], by simp [zeroO]⟩, ⟨by simp [zeroO], by simp [zeroO]⟩, ⟨by simp [zeroO], by simp [zeroO]⟩, trivial, trivial, trivial⟩
/-- A cursor over bytes. -/
def CurOk (c : DT82) : Prop := c.1.length ≤ 1048576 ∧ (0 : Int) ≤ c.2.1 ∧ (c.2.1 : Int) ≤ ((c.1.length : Nat) : Int)
/-- What is drawn. -/
def Dr {α : Type} (f : Nat → DT82 → Option (α × DT82)) (P : α → Prop) : Prop := ∀ c, CurOk c → ∃ x c', CurOk c' ∧ P x ∧ Ev (fun k => f k c) (x, c')
theorem and255 (a : BitVec (IntKind.bits .i64)) : 0 ≤ IntKind.wrap .i64 (((a &&& BitVec.ofInt (IntKind.bits .i64) 255).toNat : Nat)) ∧ IntKind.wrap .i64 (((a &&& BitVec.ofInt (IntKind.bits .i64) 255).toNat : Nat)) ≤ 255 := by
  have h : (a &&& BitVec.ofInt (IntKind.bits .i64) 255).toNat ≤ 255 := by
    rw [BitVec.toNat_and]
    exact Nat.le_trans Nat.and_le_right (by decide)
  rw [IntKind.wrap_i64]
  omega
theorem l1Byte_dr : Dr (fun k c => spec_l1Byte k c) (fun x => 0 ≤ x ∧ x ≤ 255) := by
  intro c h
  obtain ⟨h1, h2, h3⟩ := h
  by_cases q : (c.2.1 : Int) < ((List.length c.1 : Nat) : Int)
  · refine ⟨_, (c.1, (IntKind.wrap .i64 (c.2.1 + 1), (IntKind.wrap .i64 ((IntKind.wrap .i64 (c.2.2.1 * 6364136223846793005)) + 1442695040888963407), ()))), ⟨h1, ?_, ?_⟩, and255 _, Ev.eq (fun k => spec_l1Byte_eq k c) (Ev.neg (by omega) (Ev.neg (by omega) (Ev.pos q (Ev.pos h2 (Ev.pos q Ev.ret)))))⟩
    · show (0 : Int) ≤ IntKind.wrap .i64 (c.2.1 + 1)
      rw [wrapI (by omega) (by omega)]
      omega
    · show IntKind.wrap .i64 (c.2.1 + 1) ≤ ((List.length c.1 : Nat) : Int)
      rw [wrapI (by omega) (by omega)]
      omega
  · exact ⟨_, (c.1, (c.2.1, (IntKind.wrap .i64 ((IntKind.wrap .i64 (c.2.2.1 * 6364136223846793005)) + 1442695040888963407), ()))), ⟨h1, h2, h3⟩, and255 _, Ev.eq (fun k => spec_l1Byte_eq k c) (Ev.neg (by omega) (Ev.neg (by omega) (Ev.neg q Ev.ret)))⟩
theorem l1Below_dr (n : Int) : Dr (fun k c => spec_l1Below k c n) (fun x => 0 ≤ x ∧ (0 < n → x < n) ∧ (n ≤ 0 → x = 0)) := by
  intro c h
  by_cases q : n ≤ 0
  · exact ⟨0, c, h, ⟨by omega, fun h => by omega, fun _ => rfl⟩, Ev.eq (fun k => spec_l1Below_eq k c n) (Ev.pos q Ev.ret)⟩
  · obtain ⟨x, c1, h1, hx, e1⟩ := l1Byte_dr c h
    have hm : ∀ y : Int, 0 ≤ y → 0 ≤ Int.tmod y n ∧ (0 < n → Int.tmod y n < n) ∧ (n ≤ 0 → Int.tmod y n = 0) := fun y hy => ⟨Int.tmod_nonneg _ hy, fun hn => Int.tmod_lt_of_pos _ hn, fun h => absurd h q⟩
    by_cases q2 : n ≤ 256
    · exact ⟨Int.tmod x n, c1, h1, hm x hx.1, Ev.eq (fun k => spec_l1Below_eq k c n) (Ev.neg q (Ev.pos q2 (Ev.bind e1 (Ev.neg (by omega) Ev.ret))))⟩
    · obtain ⟨y, c2, h2, hy, e2⟩ := l1Byte_dr c1 h1
      obtain ⟨z, c3, h3, hz, e3⟩ := l1Byte_dr c2 h2
      refine ⟨_, c3, h3, hm _ ?_, Ev.eq (fun k => spec_l1Below_eq k c n) (Ev.neg q (Ev.neg q2 (Ev.bind e1 (Ev.bind e2 (Ev.bind e3 (Ev.neg (by omega) Ev.ret))))))⟩
      rw [wrapI (n := x * 65536) (by omega) (by omega), wrapI (n := y * 256) (by omega) (by omega), wrapI (n := x * 65536 + y * 256) (by omega) (by omega), wrapI (by omega) (by omega)]
      omega
theorem l1Once_dr (n : Int) : Dr (fun k c => spec_l1Once k c n) (fun _ => True) := by
  intro c h
  obtain ⟨x, c1, h1, _, e1⟩ := l1Below_dr n c h
  exact ⟨_, c1, h1, trivial, Ev.eq (fun k => spec_l1Once_eq k c n) (Ev.bind e1 Ev.ret)⟩
theorem l1Int_dr (l : List Int) (hl : 0 < l.length) : Dr (fun k c => spec_l1Int k c l) (fun _ => True) := by
  intro c h
  obtain ⟨x, c1, h1, ⟨h2, h3, _⟩, e1⟩ := l1Below_dr ((List.length l : Nat) : Int) c h
  exact ⟨_, c1, h1, trivial, Ev.eq (fun k => spec_l1Int_eq k c l) (Ev.bind e1 (Ev.pos h2 (Ev.pos (h3 (by omega)) Ev.ret)))⟩
theorem l8Event_dr : Dr (fun k c => spec_l8Event k c) (fun _ => True) := by
  intro c h
  obtain ⟨x1, c1, h1, _, e1⟩ := l1Below_dr 20 c h
  obtain ⟨x2, c2, h2, _, e2⟩ := l1Below_dr 10 c1 h1
  obtain ⟨x3, c3, h3, _, e3⟩ := l1Below_dr 18 c2 h2
  obtain ⟨x4, c4, h4, _, e4⟩ := l1Below_dr 3 c3 h3
  exact ⟨_, c4, h4, trivial, Ev.eq (fun k => spec_l8Event_eq k c) (Ev.bind e1 (Ev.bind e2 (Ev.bind e3 (Ev.bind e4 Ev.ret))))⟩
theorem putS_ev (l : List DT45) (e : DT45) (hl : l.length ≤ 1048576) : ∃ v : List DT45 × (Bool × Unit), v.1.length ≤ l.length + 1 ∧ Ev (fun k => spec_PutEvent k l e) v := by
  obtain ⟨r, hp, _, e1⟩ := putW_ev l e (by omega)
  have hr : r.length = l.length + 1 := by rw [hp.length_eq]; simp
  have e2 := specScoreB_ev r (by omega)
  by_cases c : scoreP r
  · exact ⟨(r, (true, ())), by show r.length ≤ _; omega, Ev.eq (fun k => spec_PutEvent_eq k l e) (Ev.bind e1 (Ev.bind e2 (Ev.neg (by simpa using c) Ev.ret)))⟩
  · exact ⟨([] ++ l, (false, ())), by simp, Ev.eq (fun k => spec_PutEvent_eq k l e) (Ev.bind e1 (Ev.bind e2 (Ev.pos (by simpa using c) (Ev.pos (by rw [List.length_nil]; omega) Ev.ret))))⟩
theorem l8Draw_dr : Dr (fun k c => spec_l8Draw k c) (fun r => r.length ≤ 13) := by
  intro c h
  have key : ∀ (d : Nat) (c : DT82) (s : List DT45), CurOk c → s.length + d ≤ 1000 → ∃ r c', CurOk c' ∧ r.length ≤ s.length + d ∧ E2 (fun k m => spec_l8Draw.l0 k m (d : Int) c.1 c.2.1 c.2.2.1 s) (r, c') := by
    intro d
    induction d with
    | zero => intro c s h hs; exact ⟨s, c, h, by omega, E2.eq (fun k m => spec_l8Draw.l0_eq k m _ _ _ _ s) (E2.neg (by omega) E2.ret)⟩
    | succ d ih =>
      intro c s h hs
      obtain ⟨x, c1, h1, _, e1⟩ := l8Event_dr c h
      obtain ⟨v, hv, e2⟩ := putS_ev s x (by omega)
      obtain ⟨r, c', h', hr, e3⟩ := ih c1 v.1 h1 (by omega)
      refine ⟨r, c', h', by omega, E2.eq (fun k m => spec_l8Draw.l0_eq k m _ _ _ _ s) (E2.pos (by omega) (E2.bind e1 (E2.bind e2 ?_)))⟩
      simp only [wrapP (show 0 < d + 1 by omega) (show d + 1 < 9223372036854775807 by omega), Nat.add_sub_cancel]
      exact e3
  obtain ⟨x, c1, h1, ⟨h2, h3, _⟩, e1⟩ := l1Below_dr 13 c h
  obtain ⟨n, rfl⟩ := Int.eq_ofNat_of_zero_le h2
  have := h3 (by omega)
  obtain ⟨r, c', h', hr, e3⟩ := key n c1 [] h1 (by simp; omega)
  exact ⟨r, c', h', by simp at hr; omega, Ev.eq (fun k => spec_l8Draw_eq k c) (Ev.bind e1 (Ev.loop (f := fun k m => spec_l8Draw.l0 k m (n : Int) c1.1 c1.2.1 c1.2.2.1 []) e3))⟩
theorem l8Tune_dr (voice most : Int) (hm : most ≤ 100) : Dr (fun k c => spec_l8Tune k c voice most) (fun r => r.length ≤ 100) := by
  intro c h
  have key : ∀ (d : Nat) (t : Int) (c : DT82) (s : List DT45), CurOk c → s.length + d ≤ 1000 → ∃ r c', CurOk c' ∧ r.length ≤ s.length + d ∧ E2 (fun k m => spec_l8Tune.l0 k m voice t (d : Int) c.1 c.2.1 c.2.2.1 s) (r, c') := by
    intro d
    induction d with
    | zero => intro t c s h hs; exact ⟨s, c, h, by omega, E2.eq (fun k m => spec_l8Tune.l0_eq k m _ _ _ _ _ _ s) (E2.neg (by omega) E2.ret)⟩
    | succ d ih =>
      intro t c s h hs
      obtain ⟨x1, c1, h1, _, e1⟩ := l1Below_dr 3 c h
      obtain ⟨x2, c2, h2, _, e2⟩ := l1Below_dr 8 c1 h1
      obtain ⟨x3, c3, h3, _, e3⟩ := l1Once_dr 5 c2 h2
      obtain ⟨v, hv, e4⟩ := putS_ev s (t, (IntKind.wrap .i64 (6 * (IntKind.wrap .i64 (1 + x1))), (IntKind.wrap .i64 (60 + x2), (voice, ())))) (by omega)
      by_cases q : x3 = true
      · obtain ⟨r, c', h', hr, e5⟩ := ih (IntKind.wrap .i64 ((IntKind.wrap .i64 (t + (IntKind.wrap .i64 (6 * (IntKind.wrap .i64 (1 + x1)))))) + 12)) c3 v.1 h3 (by omega)
        refine ⟨r, c', h', by omega, E2.eq (fun k m => spec_l8Tune.l0_eq k m _ _ _ _ _ _ s) (E2.pos (by omega) (E2.bind e1 (E2.bind e2 (E2.bind e3 (E2.pos q (E2.bind e4 ?_))))))⟩
        simp only [wrapP (show 0 < d + 1 by omega) (show d + 1 < 9223372036854775807 by omega), Nat.add_sub_cancel]
        exact e5
      · obtain ⟨r, c', h', hr, e5⟩ := ih (IntKind.wrap .i64 (t + (IntKind.wrap .i64 (6 * (IntKind.wrap .i64 (1 + x1)))))) c3 v.1 h3 (by omega)
        refine ⟨r, c', h', by omega, E2.eq (fun k m => spec_l8Tune.l0_eq k m _ _ _ _ _ _ s) (E2.pos (by omega) (E2.bind e1 (E2.bind e2 (E2.bind e3 (E2.neg q (E2.bind e4 ?_))))))⟩
        simp only [wrapP (show 0 < d + 1 by omega) (show d + 1 < 9223372036854775807 by omega), Nat.add_sub_cancel]
        exact e5
  obtain ⟨x, c1, h1, ⟨h2, h3, h4⟩, e1⟩ := l1Below_dr most c h
  obtain ⟨n, rfl⟩ := Int.eq_ofNat_of_zero_le h2
  have hn : n ≤ 100 := by
    rcases Int.lt_or_le 0 most with q | q
    · have := h3 q; omega
    · have := h4 q; omega
  obtain ⟨r, c', h', hr, e3⟩ := key n 0 c1 [] h1 (by simp; omega)
  exact ⟨r, c', h', by simp at hr; omega, Ev.eq (fun k => spec_l8Tune_eq k c voice most) (Ev.bind e1 (Ev.loop (f := fun k m => spec_l8Tune.l0 k m voice 0 (n : Int) c1.1 c1.2.1 c1.2.2.1 []) e3))⟩
theorem setAt_len {t : Ty} {l : List t.den} {i : Int} {f : t.den → t.den} : (setAt t l i f).length = l.length := by unfold setAt; simp
theorem l8Any_dr : Dr (fun k c => spec_l8Any k c) (fun r => r.length ≤ 14) := by
  intro c h
  obtain ⟨l, c1, h1, hl, e1⟩ := l8Draw_dr c h
  by_cases q0 : (((List.length l : Nat) : Int) : Int) = 0
  · exact ⟨l, c1, h1, by omega, Ev.eq (fun k => spec_l8Any_eq k c) (Ev.bind e1 (Ev.pos q0 Ev.ret))⟩
  obtain ⟨i, c2, h2, ⟨i1, i2, _⟩, e2⟩ := l1Below_dr ((List.length l : Nat) : Int) c1 h1
  have i2 := i2 (by omega)
  obtain ⟨x, c3, h3, _, e3⟩ := l1Below_dr 9 c2 h2
  by_cases q1 : x = 0
  · obtain ⟨y, c4, h4, _, e4⟩ := l1Int_dr [(-1), 2000, 2001] (by simp) c3 h3
    exact ⟨_, c4, h4, by show (setAt _ _ _ _).length ≤ _; rw [setAt_len]; exact Nat.le_trans hl (by omega), Ev.eq (fun k => spec_l8Any_eq k c) (Ev.bind e1 (Ev.neg q0 (Ev.bind e2 (Ev.bind e3 (Ev.pos q1 (Ev.bind e4 (Ev.pos i1 (Ev.pos i2 Ev.ret))))))))⟩
  by_cases q2 : x = 1
  · obtain ⟨y, c4, h4, _, e4⟩ := l1Int_dr [0, 96, 97] (by simp) c3 h3
    exact ⟨_, c4, h4, by show (setAt _ _ _ _).length ≤ _; rw [setAt_len]; exact Nat.le_trans hl (by omega), Ev.eq (fun k => spec_l8Any_eq k c) (Ev.bind e1 (Ev.neg q0 (Ev.bind e2 (Ev.bind e3 (Ev.neg q1 (Ev.pos q2 (Ev.bind e4 (Ev.pos i1 (Ev.pos i2 Ev.ret)))))))))⟩
  by_cases q3 : x = 2
  · obtain ⟨y, c4, h4, _, e4⟩ := l1Int_dr [20, 108, 109] (by simp) c3 h3
    exact ⟨_, c4, h4, by show (setAt _ _ _ _).length ≤ _; rw [setAt_len]; exact Nat.le_trans hl (by omega), Ev.eq (fun k => spec_l8Any_eq k c) (Ev.bind e1 (Ev.neg q0 (Ev.bind e2 (Ev.bind e3 (Ev.neg q1 (Ev.neg q2 (Ev.pos q3 (Ev.bind e4 (Ev.pos i1 (Ev.pos i2 Ev.ret))))))))))⟩
  by_cases q4 : x = 3
  · obtain ⟨y, c4, h4, _, e4⟩ := l1Int_dr [0, 4, 5] (by simp) c3 h3
    exact ⟨_, c4, h4, by show (setAt _ _ _ _).length ≤ _; rw [setAt_len]; exact Nat.le_trans hl (by omega), Ev.eq (fun k => spec_l8Any_eq k c) (Ev.bind e1 (Ev.neg q0 (Ev.bind e2 (Ev.bind e3 (Ev.neg q1 (Ev.neg q2 (Ev.neg q3 (Ev.pos q4 (Ev.bind e4 (Ev.pos i1 (Ev.pos i2 Ev.ret)))))))))))⟩
  by_cases q5 : x = 4
  · exact ⟨_, c3, h3, by show (_ ++ [_]).length ≤ _; rw [List.length_append, List.length_singleton]; exact Nat.succ_le_succ hl, Ev.eq (fun k => spec_l8Any_eq k c) (Ev.bind e1 (Ev.neg q0 (Ev.bind e2 (Ev.bind e3 (Ev.neg q1 (Ev.neg q2 (Ev.neg q3 (Ev.neg q4 (Ev.pos q5 (Ev.pos (Nat.le_refl 0) (Ev.pos (show (0 : Int) < ((List.length l : Nat) : Int) by omega) (Ev.pos (show (l.length + 1) * 32 ≤ 211106232532992 by omega) Ev.ret))))))))))))⟩
  exact ⟨l, c3, h3, by omega, Ev.eq (fun k => spec_l8Any_eq k c) (Ev.bind e1 (Ev.neg q0 (Ev.bind e2 (Ev.bind e3 (Ev.neg q1 (Ev.neg q2 (Ev.neg q3 (Ev.neg q4 (Ev.neg q5 Ev.ret)))))))))⟩
theorem l10Draw_dr : Dr (fun k c => spec_l10Draw k c) (fun _ => True) := by
  intro c h
  obtain ⟨x1, c1, h1, _, e1⟩ := l1Below_dr 4 c h
  obtain ⟨x2, c2, h2, _, e2⟩ := l1Int_dr [4, 4, 4, 8, 2] (by simp) c1 h1
  exact ⟨_, c2, h2, trivial, Ev.eq (fun k => spec_l10Draw_eq k c) (Ev.bind e1 (Ev.bind e2 Ev.ret))⟩
theorem l10Any_dr : Dr (fun k c => spec_l10Any k c) (fun _ => True) := by
  intro c h
  obtain ⟨m, c1, h1, _, e1⟩ := l10Draw_dr c h
  obtain ⟨x, c2, h2, _, e2⟩ := l1Below_dr 9 c1 h1
  by_cases q1 : x = 0
  · obtain ⟨y, c4, h4, _, e4⟩ := l1Int_dr [0, 12, 13] (by simp) c2 h2
    exact ⟨_, c4, h4, trivial, Ev.eq (fun k => spec_l10Any_eq k c) (Ev.bind e1 (Ev.bind e2 (Ev.pos q1 (Ev.bind e4 Ev.ret))))⟩
  by_cases q2 : x = 1
  · obtain ⟨y, c4, h4, _, e4⟩ := l1Int_dr [0, 1, 3, 16] (by simp) c2 h2
    exact ⟨_, c4, h4, trivial, Ev.eq (fun k => spec_l10Any_eq k c) (Ev.bind e1 (Ev.bind e2 (Ev.neg q1 (Ev.pos q2 (Ev.bind e4 Ev.ret)))))⟩
  exact ⟨m, c2, h2, trivial, Ev.eq (fun k => spec_l10Any_eq k c) (Ev.bind e1 (Ev.bind e2 (Ev.neg q1 (Ev.neg q2 Ev.ret))))⟩
theorem l11Draw_dr : Dr (fun k c => spec_l11Draw k c) (fun r => 1 ≤ r.length ∧ r.length ≤ 4) := by
  intro c h
  have key : ∀ (d : Nat) (t : Int) (c : DT82) (s : List DT31), CurOk c → s.length + d ≤ 1000 → ∃ r c', CurOk c' ∧ s.length ≤ r.length ∧ r.length ≤ s.length + d ∧ E2 (fun k m => spec_l11Draw.l0 k m t (d : Int) c.1 c.2.1 c.2.2.1 s) (r, c') := by
    intro d
    induction d with
    | zero => intro t c s h hs; exact ⟨s, c, h, by omega, by omega, E2.eq (fun k m => spec_l11Draw.l0_eq k m _ _ _ _ _ s) (E2.neg (by omega) E2.ret)⟩
    | succ d ih =>
      intro t c s h hs
      obtain ⟨x1, c1, h1, _, e1⟩ := l1Below_dr 50 c h
      obtain ⟨x2, c2, h2, _, e2⟩ := l1Int_dr [40, 60, 72, 100, 120, 200, 77] (by simp) c1 h1
      obtain ⟨r, c', h', hr, hr', e5⟩ := ih (IntKind.wrap .i64 ((IntKind.wrap .i64 (t + 1)) + x1)) c2 (s ++ [(IntKind.wrap .i64 ((IntKind.wrap .i64 (t + 1)) + x1), (x2, ()))]) h2 (by simp; omega)
      simp only [List.length_append, List.length_singleton] at hr hr'
      refine ⟨r, c', h', by omega, by omega, E2.eq (fun k m => spec_l11Draw.l0_eq k m _ _ _ _ _ s) (E2.pos (by omega) (E2.bind e1 (E2.bind e2 (E2.pos (by rw [List.length_singleton]; omega) ?_))))⟩
      simp only [wrapP (show 0 < d + 1 by omega) (show d + 1 < 9223372036854775807 by omega), Nat.add_sub_cancel]
      exact e5
  obtain ⟨x1, c1, h1, _, e1⟩ := l1Int_dr [60, 90, 120, 50, 144] (by simp) c h
  obtain ⟨x, c2, h2, ⟨i1, i2, _⟩, e2⟩ := l1Below_dr 4 c1 h1
  obtain ⟨n, rfl⟩ := Int.eq_ofNat_of_zero_le i1
  have := i2 (by omega)
  obtain ⟨r, c', h', hr, hr', e3⟩ := key n 0 c2 [(0, (x1, ()))] h2 (by simp; omega)
  simp only [List.length_singleton] at hr hr'
  exact ⟨r, c', h', by omega, Ev.eq (fun k => spec_l11Draw_eq k c) (Ev.bind e1 (Ev.bind e2 (Ev.loop (f := fun k m => spec_l11Draw.l0 k m 0 (n : Int) c2.1 c2.2.1 c2.2.2.1 [(0, (x1, ()))]) e3)))⟩
theorem l11Any_dr : Dr (fun k c => spec_l11Any k c) (fun r => r.length ≤ 4) := by
  intro c h
  obtain ⟨l, c1, h1, hl, e1⟩ := l11Draw_dr c h
  obtain ⟨i, c2, h2, ⟨i1, i2, _⟩, e2⟩ := l1Below_dr ((List.length l : Nat) : Int) c1 h1
  have i2 := i2 (by omega)
  obtain ⟨x, c3, h3, _, e3⟩ := l1Below_dr 9 c2 h2
  by_cases q1 : x = 0
  · obtain ⟨y, c4, h4, _, e4⟩ := l1Int_dr [(-1), 0, 2000, 2001] (by simp) c3 h3
    exact ⟨_, c4, h4, by show (setAt _ _ _ _).length ≤ _; rw [setAt_len]; exact hl.2, Ev.eq (fun k => spec_l11Any_eq k c) (Ev.bind e1 (Ev.bind e2 (Ev.bind e3 (Ev.pos q1 (Ev.bind e4 (Ev.pos i1 (Ev.pos i2 Ev.ret)))))))⟩
  by_cases q2 : x = 1
  · obtain ⟨y, c4, h4, _, e4⟩ := l1Int_dr [19, 20, 300, 301] (by simp) c3 h3
    exact ⟨_, c4, h4, by show (setAt _ _ _ _).length ≤ _; rw [setAt_len]; exact hl.2, Ev.eq (fun k => spec_l11Any_eq k c) (Ev.bind e1 (Ev.bind e2 (Ev.bind e3 (Ev.neg q1 (Ev.pos q2 (Ev.bind e4 (Ev.pos i1 (Ev.pos i2 Ev.ret))))))))⟩
  by_cases q3 : x = 2
  · exact ⟨[], c3, h3, by simp, Ev.eq (fun k => spec_l11Any_eq k c) (Ev.bind e1 (Ev.bind e2 (Ev.bind e3 (Ev.neg q1 (Ev.neg q2 (Ev.pos q3 Ev.ret))))))⟩
  exact ⟨l, c3, h3, by omega, Ev.eq (fun k => spec_l11Any_eq k c) (Ev.bind e1 (Ev.bind e2 (Ev.bind e3 (Ev.neg q1 (Ev.neg q2 (Ev.neg q3 Ev.ret))))))⟩
theorem l13Score_dr : Dr (fun k c => spec_l13Score k c) (fun r => r.length ≤ 200) := by
  intro c h
  obtain ⟨a, c1, h1, ha, e1⟩ := l8Tune_dr 1 9 (by omega) c h
  obtain ⟨b, c2, h2, hb, e2⟩ := l8Tune_dr 2 9 (by omega) c1 h1
  have key : ∀ (d i : Nat) (s : List DT45), i + d = b.length → s.length + d ≤ 1000 → ∃ r, r.length ≤ s.length + d ∧ E2 (fun k m => spec_l13Score.l0 k m (i : Int) c2.1 c2.2.1 c2.2.2.1 s b) (r, c2) := by
    intro d
    induction d with
    | zero => intro i s hi hs; exact ⟨s, by omega, E2.eq (fun k m => spec_l13Score.l0_eq k m _ _ _ _ s b) (E2.neg (by omega) E2.ret)⟩
    | succ d ih =>
      intro i s hi hs
      obtain ⟨v, hv, e4⟩ := putS_ev s (rd T45 b (i : Int)) (by omega)
      obtain ⟨r, hr, e5⟩ := ih (i + 1) v.1 (by omega) (by omega)
      refine ⟨r, by omega, E2.eq (fun k m => spec_l13Score.l0_eq k m _ _ _ _ s b) (E2.pos (by omega) (E2.pos (by omega) (E2.pos (by omega) (E2.bind e4 ?_))))⟩
      simp only [wrapS (show i < 9223372036854775807 by omega)]
      exact e5
  have ha : a.length ≤ 100 := ha
  have hb : b.length ≤ 100 := hb
  obtain ⟨r, hr, e3⟩ := key b.length 0 a (by omega) (by omega)
  exact ⟨r, c2, h2, by show r.length ≤ 200; omega, Ev.eq (fun k => spec_l13Score_eq k c) (Ev.bind e1 (Ev.bind e2 (Ev.loop (f := fun k m => spec_l13Score.l0 k m 0 c2.1 c2.2.1 c2.2.2.1 a b) e3)))⟩
theorem l25Mark_dr : Dr (fun k c => spec_l25Mark k c) (fun _ => True) := by
  intro c h
  obtain ⟨x1, c1, h1, _, e1⟩ := l1Below_dr 5 c h
  obtain ⟨x2, c2, h2, _, e2⟩ := l1Below_dr 4 c1 h1
  obtain ⟨x3, c3, h3, _, e3⟩ := l1Below_dr 4 c2 h2
  obtain ⟨x4, c4, h4, _, e4⟩ := l1Below_dr 5 c3 h3
  obtain ⟨x5, c5, h5, _, e5⟩ := l1Below_dr 3 c4 h4
  exact ⟨_, c5, h5, trivial, Ev.eq (fun k => spec_l25Mark_eq k c) (Ev.bind e1 (Ev.bind e2 (Ev.bind e3 (Ev.bind e4 (Ev.bind e5 Ev.ret)))))⟩
theorem setMS_ev (l : List DT128) (x : DT128) (hl : l.length ≤ 1048576) : ∃ v : List DT128, v.length ≤ l.length + 1 ∧ Ev (fun k => spec_SetMark k l x) v := by
  obtain ⟨p, hp, h1, h2⟩ := first_idx (fun i => befM (rd T128 l (i : Int)) x) l.length
  have hs := setS_ev l x hl p hp h1 h2
  have hvl := setV_len l x p hp
  obtain ⟨a, ea, _⟩ := specMarks_ev l hl
  obtain ⟨b, eb, _⟩ := specMarksB_ev (setV l x p) (by omega)
  have sz : (List.length ([] : (List DT128)) + List.length l) * 40 ≤ 211106232532992 := by rw [List.length_nil]; omega
  by_cases c : a = true
  · by_cases d : b = true
    · exact ⟨setV l x p, hvl, Ev.eq (fun k => spec_SetMark_eq k l x) (Ev.bind hs (Ev.bind ea (Ev.neg (by simpa using c) (Ev.bind eb (Ev.neg (by simpa using d) Ev.ret)))))⟩
    · exact ⟨[] ++ l, by simp, Ev.eq (fun k => spec_SetMark_eq k l x) (Ev.bind hs (Ev.bind ea (Ev.neg (by simpa using c) (Ev.bind eb (Ev.pos d (Ev.pos sz Ev.ret))))))⟩
  · exact ⟨[] ++ l, by simp, Ev.eq (fun k => spec_SetMark_eq k l x) (Ev.bind hs (Ev.bind ea (Ev.pos c (Ev.pos sz Ev.ret))))⟩
theorem l25Draw_dr : Dr (fun k c => spec_l25Draw k c) (fun r => r.length ≤ 9) := by
  intro c h
  have key : ∀ (d : Nat) (c : DT82) (s : List DT128), CurOk c → s.length + d ≤ 1000 → ∃ r c', CurOk c' ∧ r.length ≤ s.length + d ∧ E2 (fun k m => spec_l25Draw.l0 k m (d : Int) c.1 c.2.1 c.2.2.1 s) (r, c') := by
    intro d
    induction d with
    | zero => intro c s h hs; exact ⟨s, c, h, by omega, E2.eq (fun k m => spec_l25Draw.l0_eq k m _ _ _ _ s) (E2.neg (by omega) E2.ret)⟩
    | succ d ih =>
      intro c s h hs
      obtain ⟨x, c1, h1, _, e1⟩ := l25Mark_dr c h
      obtain ⟨v, hv, e2⟩ := setMS_ev s x (by omega)
      obtain ⟨r, c', h', hr, e3⟩ := ih c1 v h1 (by omega)
      refine ⟨r, c', h', by omega, E2.eq (fun k m => spec_l25Draw.l0_eq k m _ _ _ _ s) (E2.pos (by omega) (E2.bind e1 (E2.bind e2 ?_)))⟩
      simp only [wrapP (show 0 < d + 1 by omega) (show d + 1 < 9223372036854775807 by omega), Nat.add_sub_cancel]
      exact e3
  obtain ⟨x, c1, h1, ⟨h2, h3, _⟩, e1⟩ := l1Below_dr 9 c h
  obtain ⟨n, rfl⟩ := Int.eq_ofNat_of_zero_le h2
  have := h3 (by omega)
  obtain ⟨r, c', h', hr, e3⟩ := key n c1 [] h1 (by simp; omega)
  exact ⟨r, c', h', by show r.length ≤ 9; simp at hr; omega, Ev.eq (fun k => spec_l25Draw_eq k c) (Ev.bind e1 (Ev.loop (f := fun k m => spec_l25Draw.l0 k m (n : Int) c1.1 c1.2.1 c1.2.2.1 []) e3))⟩
theorem l25Any_dr : Dr (fun k c => spec_l25Any k c) (fun r => r.length ≤ 9) := by
  intro c h
  obtain ⟨l, c1, h1, hl, e1⟩ := l25Draw_dr c h
  by_cases q0 : (((List.length l : Nat) : Int) : Int) = 0
  · exact ⟨l, c1, h1, hl, Ev.eq (fun k => spec_l25Any_eq k c) (Ev.bind e1 (Ev.pos q0 Ev.ret))⟩
  obtain ⟨i, c2, h2, ⟨i1, i2, _⟩, e2⟩ := l1Below_dr ((List.length l : Nat) : Int) c1 h1
  have i2 := i2 (by omega)
  obtain ⟨x, c3, h3, _, e3⟩ := l1Below_dr 9 c2 h2
  by_cases q1 : x = 0
  · obtain ⟨y, c4, h4, _, e4⟩ := l1Int_dr [0, 100, 101] (by simp) c3 h3
    exact ⟨_, c4, h4, by show (setAt _ _ _ _).length ≤ _; rw [setAt_len]; exact hl, Ev.eq (fun k => spec_l25Any_eq k c) (Ev.bind e1 (Ev.neg q0 (Ev.bind e2 (Ev.bind e3 (Ev.pos q1 (Ev.bind e4 (Ev.pos i1 (Ev.pos i2 Ev.ret))))))))⟩
  by_cases q2 : x = 1
  · obtain ⟨y, c4, h4, _, e4⟩ := l1Int_dr [0, 4, 5] (by simp) c3 h3
    exact ⟨_, c4, h4, by show (setAt _ _ _ _).length ≤ _; rw [setAt_len]; exact hl, Ev.eq (fun k => spec_l25Any_eq k c) (Ev.bind e1 (Ev.neg q0 (Ev.bind e2 (Ev.bind e3 (Ev.neg q1 (Ev.pos q2 (Ev.bind e4 (Ev.pos i1 (Ev.pos i2 Ev.ret)))))))))⟩
  by_cases q3 : x = 2
  · obtain ⟨y, c4, h4, _, e4⟩ := l1Int_dr [(-1), 9, 10] (by simp) c3 h3
    exact ⟨_, c4, h4, by show (setAt _ _ _ _).length ≤ _; rw [setAt_len]; exact hl, Ev.eq (fun k => spec_l25Any_eq k c) (Ev.bind e1 (Ev.neg q0 (Ev.bind e2 (Ev.bind e3 (Ev.neg q1 (Ev.neg q2 (Ev.pos q3 (Ev.bind e4 (Ev.pos i1 (Ev.pos i2 Ev.ret))))))))))⟩
  by_cases q4 : x = 3
  · obtain ⟨y, c4, h4, _, e4⟩ := l1Int_dr [(-1), 100000, 100001] (by simp) c3 h3
    exact ⟨_, c4, h4, by show (setAt _ _ _ _).length ≤ _; rw [setAt_len]; exact hl, Ev.eq (fun k => spec_l25Any_eq k c) (Ev.bind e1 (Ev.neg q0 (Ev.bind e2 (Ev.bind e3 (Ev.neg q1 (Ev.neg q2 (Ev.neg q3 (Ev.pos q4 (Ev.bind e4 (Ev.pos i1 (Ev.pos i2 Ev.ret)))))))))))⟩
  by_cases q5 : x = 4
  · obtain ⟨y, c4, h4, _, e4⟩ := l1Int_dr [0, 99, 100] (by simp) c3 h3
    exact ⟨_, c4, h4, by show (setAt _ _ _ _).length ≤ _; rw [setAt_len]; exact hl, Ev.eq (fun k => spec_l25Any_eq k c) (Ev.bind e1 (Ev.neg q0 (Ev.bind e2 (Ev.bind e3 (Ev.neg q1 (Ev.neg q2 (Ev.neg q3 (Ev.neg q4 (Ev.pos q5 (Ev.bind e4 (Ev.pos i1 (Ev.pos i2 Ev.ret))))))))))))⟩
  exact ⟨l, c3, h3, hl, Ev.eq (fun k => spec_l25Any_eq k c) (Ev.bind e1 (Ev.neg q0 (Ev.bind e2 (Ev.bind e3 (Ev.neg q1 (Ev.neg q2 (Ev.neg q3 (Ev.neg q4 (Ev.neg q5 Ev.ret)))))))))⟩
theorem l26Draw_dr : Dr (fun k c => spec_l26Draw k c) (fun r => r.length ≤ 6) := by
  intro c h
  have key : ∀ (d : Nat) (t : Int) (c : DT82) (s : List DT31), CurOk c → s.length + d ≤ 1000 → ∃ r c', CurOk c' ∧ r.length ≤ s.length + d ∧ E2 (fun k m => spec_l26Draw.l0 k m t (d : Int) c.1 c.2.1 c.2.2.1 s) (r, c') := by
    intro d
    induction d with
    | zero => intro t c s h hs; exact ⟨s, c, h, by omega, E2.eq (fun k m => spec_l26Draw.l0_eq k m _ _ _ _ _ s) (E2.neg (by omega) E2.ret)⟩
    | succ d ih =>
      intro t c s h hs
      obtain ⟨x1, c1, h1, _, e1⟩ := l1Below_dr 9 c h
      obtain ⟨r, c', h', hr, e5⟩ := ih (IntKind.wrap .i64 ((IntKind.wrap .i64 (t + 1)) + x1)) c1 (s ++ [(((List.length s : Nat) : Int), (IntKind.wrap .i64 ((IntKind.wrap .i64 (t + 1)) + x1), ()))]) h1 (by simp; omega)
      simp only [List.length_append, List.length_singleton] at hr
      refine ⟨r, c', h', by omega, E2.eq (fun k m => spec_l26Draw.l0_eq k m _ _ _ _ _ s) (E2.pos (by omega) (E2.bind e1 (E2.pos (by rw [List.length_singleton]; omega) ?_)))⟩
      simp only [wrapP (show 0 < d + 1 by omega) (show d + 1 < 9223372036854775807 by omega), Nat.add_sub_cancel]
      exact e5
  obtain ⟨x, c1, h1, ⟨i1, i2, _⟩, e1⟩ := l1Below_dr 6 c h
  obtain ⟨n, rfl⟩ := Int.eq_ofNat_of_zero_le i1
  have := i2 (by omega)
  obtain ⟨r, c', h', hr, e3⟩ := key n 0 c1 [] h1 (by simp; omega)
  exact ⟨r, c', h', by show r.length ≤ 6; simp at hr; omega, Ev.eq (fun k => spec_l26Draw_eq k c) (Ev.bind e1 (Ev.loop (f := fun k m => spec_l26Draw.l0 k m 0 (n : Int) c1.1 c1.2.1 c1.2.2.1 []) e3))⟩
theorem l26Any_dr : Dr (fun k c => spec_l26Any k c) (fun r => r.length ≤ 6) := by
  intro c h
  obtain ⟨l, c1, h1, hl, e1⟩ := l26Draw_dr c h
  by_cases q0 : (((List.length l : Nat) : Int) : Int) = 0
  · exact ⟨l, c1, h1, hl, Ev.eq (fun k => spec_l26Any_eq k c) (Ev.bind e1 (Ev.pos q0 Ev.ret))⟩
  obtain ⟨i, c2, h2, ⟨i1, i2, _⟩, e2⟩ := l1Below_dr ((List.length l : Nat) : Int) c1 h1
  have i2 := i2 (by omega)
  obtain ⟨x, c3, h3, _, e3⟩ := l1Below_dr 9 c2 h2
  by_cases q1 : x = 0
  · obtain ⟨y, c4, h4, _, e4⟩ := l1Int_dr [0, 1, 9] (by simp) c3 h3
    exact ⟨_, c4, h4, by show (setAt _ _ _ _).length ≤ _; rw [setAt_len]; exact hl, Ev.eq (fun k => spec_l26Any_eq k c) (Ev.bind e1 (Ev.neg q0 (Ev.bind e2 (Ev.bind e3 (Ev.pos q1 (Ev.bind e4 (Ev.pos i1 (Ev.pos i2 Ev.ret))))))))⟩
  by_cases q2 : x = 1
  · obtain ⟨y, c4, h4, _, e4⟩ := l1Int_dr [0, 1, 500, 501] (by simp) c3 h3
    exact ⟨_, c4, h4, by show (setAt _ _ _ _).length ≤ _; rw [setAt_len]; exact hl, Ev.eq (fun k => spec_l26Any_eq k c) (Ev.bind e1 (Ev.neg q0 (Ev.bind e2 (Ev.bind e3 (Ev.neg q1 (Ev.pos q2 (Ev.bind e4 (Ev.pos i1 (Ev.pos i2 Ev.ret)))))))))⟩
  exact ⟨l, c3, h3, hl, Ev.eq (fun k => spec_l26Any_eq k c) (Ev.bind e1 (Ev.neg q0 (Ev.bind e2 (Ev.bind e3 (Ev.neg q1 (Ev.neg q2 Ev.ret))))))⟩
/-- Some players, of few voices. -/
def fewP (n : Nat) (l : List DT126) : Prop := l.length ≤ n ∧ ∀ p ∈ l, p.2.2.2.1.length ≤ 3
theorem fewP_add {n : Nat} {l : List DT126} {a b c : Int} {v : List Int} (h : fewP n l) (hv : v.length ≤ 3) : fewP (n + 1) (l ++ [(a, (b, (c, (v, ()))))]) :=
  ⟨by rw [List.length_append, List.length_singleton]; have := h.1; omega, fun p hp => by
    rcases List.mem_append.1 hp with h1 | h1
    · exact h.2 p h1
    · rw [List.mem_singleton.1 h1]; exact hv⟩
theorem fewP_mono {n m : Nat} {l : List DT126} (h : fewP n l) (hm : n ≤ m) : fewP m l := ⟨Nat.le_trans h.1 hm, h.2⟩
theorem l33Voices_dr : Dr (fun k c => spec_l33Voices k c) (fun r => fewP 10 r) := by
  intro c h
  have key : ∀ (d i : Nat) (c : DT82) (s : List DT126), i + d = 7 → 1 ≤ i → CurOk c → fewP i s → ∃ r c', CurOk c' ∧ fewP 10 r ∧ E2 (fun k m => spec_l33Voices.l0 k m (i : Int) c.1 c.2.1 c.2.2.1 s) (r, c') := by
    intro d
    induction d with
    | zero =>
      intro i c s hi h1 h hs
      obtain ⟨x, c1, k1, ⟨k2, k3, _⟩, e1⟩ := l1Below_dr 4 c h
      have := k3 (by omega)
      refine ⟨s, c1, k1, fewP_mono hs (by omega), E2.eq (fun k m => spec_l33Voices.l0_eq k m _ _ _ _ s) (E2.bind e1 (E2.neg ?_ E2.ret))⟩
      rw [wrapI (by omega) (by omega)]; omega
    | succ d ih =>
      intro i c s hi h1 h hs
      obtain ⟨x, c1, k1, ⟨k2, k3, _⟩, e1⟩ := l1Below_dr 4 c h
      have := k3 (by omega)
      by_cases q : (i : Int) ≤ IntKind.wrap .i64 (2 + x)
      · obtain ⟨x2, c2, k2', _, e2⟩ := l1Below_dr 18 c1 k1
        obtain ⟨x3, c3, k3', _, e3⟩ := l1Below_dr 12 c2 k2'
        obtain ⟨r, c', h', hr, e5⟩ := ih (i + 1) c3 (s ++ [((i : Int), (IntKind.wrap .i64 (40 + x2), (IntKind.wrap .i64 (76 + x3), ([1, 2, 3], ()))))]) (by omega) (by omega) k3' (fewP_add hs (by simp))
        have := hs.1
        refine ⟨r, c', h', hr, E2.eq (fun k m => spec_l33Voices.l0_eq k m _ _ _ _ s) (E2.bind e1 (E2.pos q (E2.bind e2 (E2.bind e3 (E2.pos (by rw [List.length_singleton]; omega) ?_)))))⟩
        simp only [wrapS (show i < 9223372036854775807 by omega)]
        exact e5
      · exact ⟨s, c1, k1, fewP_mono hs (by omega), E2.eq (fun k m => spec_l33Voices.l0_eq k m _ _ _ _ s) (E2.bind e1 (E2.neg q E2.ret))⟩
  obtain ⟨r, c', h', hr, e⟩ := key 6 1 c [] (by omega) (by omega) h ⟨by simp, by simp⟩
  exact ⟨r, c', h', hr, Ev.eq (fun k => spec_l33Voices_eq k c) (Ev.loop (f := fun k m => spec_l33Voices.l0 k m 1 c.1 c.2.1 c.2.2.1 []) e)⟩
theorem l29Draw_dr : Dr (fun k c => spec_l29Draw k c) (fun r => fewP 10 r ∧ 1 ≤ r.length) := by
  intro c h
  have key : ∀ (d i : Nat) (c : DT82) (s : List DT126), i + d = 7 → 1 ≤ i → CurOk c → fewP i s → ∃ r c', CurOk c' ∧ (fewP 10 r ∧ s.length ≤ r.length ∧ (i = 1 → 1 ≤ r.length)) ∧ E2 (fun k m => spec_l29Draw.l0 k m (i : Int) c.1 c.2.1 c.2.2.1 s) (r, c') := by
    intro d
    induction d with
    | zero =>
      intro i c s hi h1 h hs
      obtain ⟨x, c1, k1, ⟨k2, k3, _⟩, e1⟩ := l1Below_dr 5 c h
      have := k3 (by omega)
      refine ⟨s, c1, k1, ⟨fewP_mono hs (by omega), by omega, fun h => by omega⟩, E2.eq (fun k m => spec_l29Draw.l0_eq k m _ _ _ _ s) (E2.bind e1 (E2.neg ?_ E2.ret))⟩
      rw [wrapI (by omega) (by omega)]; omega
    | succ d ih =>
      intro i c s hi h1 h hs
      obtain ⟨x, c1, k1, ⟨k2, k3, _⟩, e1⟩ := l1Below_dr 5 c h
      have := k3 (by omega)
      by_cases q : (i : Int) ≤ IntKind.wrap .i64 (1 + x)
      · obtain ⟨x2, c2, k2', _, e2⟩ := l1Below_dr 12 c1 k1
        obtain ⟨x3, c3, k3', _, e3⟩ := l1Below_dr 12 c2 k2'
        have hsl := hs.1
        have in2 : ∀ (n v : Nat) (c : DT82) (a b e : Int) (w : List Int), v + n = 4 → w.length + n ≤ 3 → CurOk c → ∃ r c', CurOk c' ∧ (fewP 10 r ∧ s.length + 1 ≤ r.length) ∧ E3 (fun k m m1 => spec_l29Draw.l2 k m m1 (i : Int) (v : Int) c.1 c.2.1 c.2.2.1 s a b e w) (r, c') := by
          intro n
          induction n with
          | zero =>
            intro v c a b e w hv hw hc
            obtain ⟨r, c', h', hr, e5⟩ := ih (i + 1) c (s ++ [(a, (b, (e, (w, ()))))]) (by omega) (by omega) hc (fewP_add hs (by omega))
            rw [List.length_append, List.length_singleton] at hr
            refine ⟨r, c', h', ⟨hr.1, hr.2.1⟩, E3.eq (fun k m m1 => spec_l29Draw.l2_eq k m m1 _ _ _ _ _ s _ _ _ w) (E3.neg (by omega) (E3.pos (by rw [List.length_singleton]; omega) ?_))⟩
            simp only [wrapS (show i < 9223372036854775807 by omega)]
            exact E3.out e5
          | succ n ihn =>
            intro v c a b e w hv hw hc
            obtain ⟨y, c4, k4, _, e4⟩ := l1Once_dr 3 c hc
            by_cases qy : y = true
            · obtain ⟨r, c', h', hr, e5⟩ := ihn (v + 1) c4 a b e w (by omega) (by omega) k4
              refine ⟨r, c', h', hr, E3.eq (fun k m m1 => spec_l29Draw.l2_eq k m m1 _ _ _ _ _ s _ _ _ w) (E3.pos (by omega) (E3.bind e4 (E3.neg (fun h => h qy) ?_)))⟩
              simp only [wrapS (show v < 9223372036854775807 by omega)]
              exact e5
            · obtain ⟨r, c', h', hr, e5⟩ := ihn (v + 1) c4 a b e (w ++ [(v : Int)]) (by omega) (by rw [List.length_append, List.length_singleton]; omega) k4
              refine ⟨r, c', h', hr, E3.eq (fun k m m1 => spec_l29Draw.l2_eq k m m1 _ _ _ _ _ s _ _ _ w) (E3.pos (by omega) (E3.bind e4 (E3.pos qy (E3.pos (by rw [List.length_singleton]; omega) ?_))))⟩
              simp only [wrapS (show v < 9223372036854775807 by omega)]
              exact e5
        have in1 : ∀ (n v : Nat) (c : DT82) (a b e : Int), v + n = 4 → n ≤ 3 → CurOk c → ∃ r c', CurOk c' ∧ (fewP 10 r ∧ s.length + 1 ≤ r.length) ∧ E3 (fun k m m1 => spec_l29Draw.l1 k m m1 (i : Int) (v : Int) c.1 c.2.1 c.2.2.1 s a b e) (r, c') := by
          intro n
          induction n with
          | zero =>
            intro v c a b e hv hw hc
            obtain ⟨r, c', h', hr, e5⟩ := ih (i + 1) c (s ++ [(a, (b, (e, ([], ()))))]) (by omega) (by omega) hc (fewP_add hs (by simp))
            rw [List.length_append, List.length_singleton] at hr
            refine ⟨r, c', h', ⟨hr.1, hr.2.1⟩, E3.eq (fun k m m1 => spec_l29Draw.l1_eq k m m1 _ _ _ _ _ s _ _ _) (E3.neg (by omega) (E3.pos (by rw [List.length_singleton]; omega) ?_))⟩
            simp only [wrapS (show i < 9223372036854775807 by omega)]
            exact E3.out e5
          | succ n ihn =>
            intro v c a b e hv hw hc
            obtain ⟨y, c4, k4, _, e4⟩ := l1Once_dr 3 c hc
            by_cases qy : y = true
            · obtain ⟨r, c', h', hr, e5⟩ := ihn (v + 1) c4 a b e (by omega) (by omega) k4
              refine ⟨r, c', h', hr, E3.eq (fun k m m1 => spec_l29Draw.l1_eq k m m1 _ _ _ _ _ s _ _ _) (E3.pos (by omega) (E3.bind e4 (E3.neg (fun h => h qy) ?_)))⟩
              simp only [wrapS (show v < 9223372036854775807 by omega)]
              exact e5
            · obtain ⟨r, c', h', hr, e5⟩ := in2 n (v + 1) c4 a b e [(v : Int)] (by omega) (by rw [List.length_singleton]; omega) k4
              refine ⟨r, c', h', hr, E3.eq (fun k m m1 => spec_l29Draw.l1_eq k m m1 _ _ _ _ _ s _ _ _) (E3.pos (by omega) (E3.bind e4 (E3.pos qy (E3.pos (by rw [List.length_singleton]; omega) ?_))))⟩
              simp only [wrapS (show v < 9223372036854775807 by omega)]
              exact e5
        obtain ⟨r, c', h', hr, e5⟩ := in1 3 1 c3 (IntKind.wrap .i64 (2 * (i : Int))) (IntKind.wrap .i64 (50 + x2)) (IntKind.wrap .i64 (66 + x3)) (by omega) (by omega) k3'
        refine ⟨r, c', h', ⟨hr.1, by omega, fun _ => by omega⟩, E2.eq (fun k m => spec_l29Draw.l0_eq k m _ _ _ _ s) (E2.bind e1 (E2.pos q (E2.bind e2 (E2.bind e3 ?_))))⟩
        exact E3.loop (f := fun k m m1 => spec_l29Draw.l1 k m m1 (i : Int) 1 c3.1 c3.2.1 c3.2.2.1 s (IntKind.wrap .i64 (2 * (i : Int))) (IntKind.wrap .i64 (50 + x2)) (IntKind.wrap .i64 (66 + x3))) e5
      · exact ⟨s, c1, k1, ⟨fewP_mono hs (by omega), by omega, fun h => by rw [wrapI (by omega) (by omega)] at q; omega⟩, E2.eq (fun k m => spec_l29Draw.l0_eq k m _ _ _ _ s) (E2.bind e1 (E2.neg q E2.ret))⟩
  obtain ⟨r, c', h', hr, e⟩ := key 6 1 c [] (by omega) (by omega) h ⟨by simp, by simp⟩
  exact ⟨r, c', h', ⟨hr.1, hr.2.2 rfl⟩, Ev.eq (fun k => spec_l29Draw_eq k c) (Ev.loop (f := fun k m => spec_l29Draw.l0 k m 1 c.1 c.2.1 c.2.2.1 []) e)⟩
theorem fewP_set {n : Nat} {l : List DT126} {i : Int} {f : DT126 → DT126} (h : fewP n l) (h0 : 0 ≤ i) (h1 : i < ((List.length l : Nat) : Int)) (hf : ∀ p : DT126, p.2.2.2.1.length ≤ 3 → (f p).2.2.2.1.length ≤ 3) : fewP n (setAt T126 l i f) := by
  obtain ⟨j, rfl⟩ := Int.eq_ofNat_of_zero_le h0
  have hj : j < l.length := by omega
  refine ⟨by rw [setAt_len]; exact h.1, fun p hp => ?_⟩
  unfold setAt at hp
  rcases List.mem_or_eq_of_mem_set hp with h2 | h2
  · exact h.2 p h2
  · rw [h2]
    refine hf _ ?_
    rw [rd_at hj]
    exact h.2 _ (List.getElem_mem hj)
theorem l29Any_dr : Dr (fun k c => spec_l29Any k c) (fun r => fewP 10 r) := by
  intro c h
  obtain ⟨l, c1, h1, hl, e1⟩ := l29Draw_dr c h
  have hne : 1 ≤ l.length := hl.2
  have hl : fewP 10 l := hl.1
  obtain ⟨i, c2, h2, ⟨i1, i2, i3⟩, e2⟩ := l1Below_dr ((List.length l : Nat) : Int) c1 h1
  obtain ⟨x, c3, h3, _, e3⟩ := l1Below_dr 9 c2 h2
  by_cases q0 : (0 : Int) < ((List.length l : Nat) : Int)
  · have i2 := i2 q0
    by_cases q1 : x = 0
    · obtain ⟨y, c4, h4, _, e4⟩ := l1Int_dr [0, 2, 99, 100] (by simp) c3 h3
      exact ⟨_, c4, h4, fewP_set (f := fun p => (y, p.2)) hl i1 i2 (fun p hp => hp), Ev.eq (fun k => spec_l29Any_eq k c) (Ev.bind e1 (Ev.bind e2 (Ev.bind e3 (Ev.pos q1 (Ev.bind e4 (Ev.pos i1 (Ev.pos i2 Ev.ret)))))))⟩
    by_cases q2 : x = 1
    · obtain ⟨y, c4, h4, _, e4⟩ := l1Int_dr [20, 21, 108] (by simp) c3 h3
      exact ⟨_, c4, h4, fewP_set (f := fun p => (p.1, (y, p.2.2))) hl i1 i2 (fun p hp => hp), Ev.eq (fun k => spec_l29Any_eq k c) (Ev.bind e1 (Ev.bind e2 (Ev.bind e3 (Ev.neg q1 (Ev.pos q2 (Ev.bind e4 (Ev.pos i1 (Ev.pos i2 Ev.ret))))))))⟩
    by_cases q3 : x = 2
    · obtain ⟨y, c4, h4, _, e4⟩ := l1Int_dr [20, 108, 109] (by simp) c3 h3
      exact ⟨_, c4, h4, fewP_set (f := fun p => (p.1, (p.2.1, (y, p.2.2.2)))) hl i1 i2 (fun p hp => hp), Ev.eq (fun k => spec_l29Any_eq k c) (Ev.bind e1 (Ev.bind e2 (Ev.bind e3 (Ev.neg q1 (Ev.neg q2 (Ev.pos q3 (Ev.bind e4 (Ev.pos i1 (Ev.pos i2 Ev.ret)))))))))⟩
    by_cases q4 : x = 3
    · refine ⟨_, c3, h3, ?_, Ev.eq (fun k => spec_l29Any_eq k c) (Ev.bind e1 (Ev.bind e2 (Ev.bind e3 (Ev.neg q1 (Ev.neg q2 (Ev.neg q3 (Ev.pos q4 (Ev.pos i1 (Ev.pos i2 Ev.ret)))))))))⟩
      exact fewP_set (f := fun p => (p.1, (p.2.1, (p.2.2.1, ([2, 1], p.2.2.2.2))))) hl i1 i2 (fun p _ => by simp)
    exact ⟨l, c3, h3, hl, Ev.eq (fun k => spec_l29Any_eq k c) (Ev.bind e1 (Ev.bind e2 (Ev.bind e3 (Ev.neg q1 (Ev.neg q2 (Ev.neg q3 (Ev.neg q4 Ev.ret)))))))⟩
  · exfalso
    omega
/-- The seats that are found, if any. -/
theorem seat_ev (l : List DT126) (sc : List DT45) (n : Nat) (hn : n ≤ 4) (hl : fewP 10 l) (hs : sc.length ≤ 1048576) : ∀ (d : Nat) (t : List Int), t.length + d = n → ∃ r : List Int × (Bool × Unit), r.1.length ≤ 4 ∧ Ev (fun k => spec_l29Seat k l sc (n : Int) t) r := by
  intro d
  induction d with
  | zero =>
    intro t ht
    exact ⟨([] ++ t, (true, ())), by simp; omega, Ev.eq (fun k => spec_l29Seat_eq k l sc _ t) (Ev.pos (by omega) (Ev.pos (by rw [List.length_nil]; omega) Ev.ret))⟩
  | succ d ih =>
    intro t ht
    have key : ∀ (e i : Nat), i + e = l.length → ∃ r : List Int × (Bool × Unit), r.1.length ≤ 4 ∧ E2 (fun k m => spec_l29Seat.l0 k m l sc (n : Int) t (i : Int)) r := by
      intro e
      induction e with
      | zero => intro i hi; exact ⟨([], (false, ())), by simp, E2.eq (fun k m => spec_l29Seat.l0_eq k m l sc _ t _) (E2.neg (by omega) E2.ret)⟩
      | succ e ihe =>
        intro i hi
        have hll := hl.1
        obtain ⟨r, hr, er⟩ := ihe (i + 1) (by omega)
        have i0 : (0 : Int) ≤ (i : Int) := by omega
        have i1 : (i : Int) < ((List.length l : Nat) : Int) := by omega
        have h1 := has_ev t (rd T126 l (i : Int)).1 (by omega)
        by_cases q : decide (((rd T126 l (i : Int)).1 : Int) ∈ t) = true
        · refine ⟨r, hr, E2.eq (fun k m => spec_l29Seat.l0_eq k m l sc _ t _) (E2.pos i1 (E2.pos i0 (E2.pos i1 (E2.bind h1 (E2.pos q ?_)))))⟩
          simp only [wrapS (show i < 9223372036854775807 by omega)]
          exact er
        · have hv : (rd T126 l (i : Int)).2.2.2.1.length ≤ 1048576 := by
            rw [rd_at (show i < l.length by omega)]
            exact Nat.le_trans (hl.2 _ (List.getElem_mem _)) (by omega)
          obtain ⟨b, eb, _⟩ := specCan_ev (rd T126 l (i : Int)) sc (IntKind.wrap .i64 (((List.length t : Nat) : Int) + 1)) hv hs
          by_cases qb : b = true
          · obtain ⟨r2, hr2, er2⟩ := ih (([] ++ t) ++ [(rd T126 l (i : Int)).1]) (by simp; omega)
            by_cases q2 : r2.2.1 = true
            · exact ⟨(r2.1, (true, ())), hr2, E2.eq (fun k m => spec_l29Seat.l0_eq k m l sc _ t _) (E2.pos i1 (E2.pos i0 (E2.pos i1 (E2.bind h1 (E2.neg q (E2.pos i0 (E2.pos i1 (E2.bind eb (E2.neg (fun h => h qb) (E2.pos (by rw [List.length_nil]; omega) (E2.pos i0 (E2.pos i1 (E2.pos (by rw [List.length_append, List.length_nil, List.length_singleton]; omega) (E2.bind er2 (E2.pos q2 E2.ret)))))))))))))))⟩
            · refine ⟨r, hr, E2.eq (fun k m => spec_l29Seat.l0_eq k m l sc _ t _) (E2.pos i1 (E2.pos i0 (E2.pos i1 (E2.bind h1 (E2.neg q (E2.pos i0 (E2.pos i1 (E2.bind eb (E2.neg (fun h => h qb) (E2.pos (by rw [List.length_nil]; omega) (E2.pos i0 (E2.pos i1 (E2.pos (by rw [List.length_append, List.length_nil, List.length_singleton]; omega) (E2.bind er2 (E2.neg q2 ?_)))))))))))))))⟩
              simp only [wrapS (show i < 9223372036854775807 by omega)]
              exact er
          · refine ⟨r, hr, E2.eq (fun k m => spec_l29Seat.l0_eq k m l sc _ t _) (E2.pos i1 (E2.pos i0 (E2.pos i1 (E2.bind h1 (E2.neg q (E2.pos i0 (E2.pos i1 (E2.bind eb (E2.pos qb ?_)))))))))⟩
            simp only [wrapS (show i < 9223372036854775807 by omega)]
            exact er
    obtain ⟨r, hr, er⟩ := key l.length 0 (by omega)
    exact ⟨r, hr, Ev.eq (fun k => spec_l29Seat_eq k l sc _ t) (Ev.neg (by omega) (Ev.loop (f := fun k m => spec_l29Seat.l0 k m l sc (n : Int) t 0) er))⟩
theorem smP_few {n : Nat} {l : List DT126} (h : fewP n l) (hn : n ≤ 1048576) : SmP l := ⟨Nat.le_trans h.1 hn, fun i hi => by
  rw [rd_at hi]
  exact Nat.le_trans (h.2 _ (List.getElem_mem hi)) (by omega)⟩
theorem seatP_ev (l : List DT126) (sc : List DT45) (hl : fewP 10 l) (hs : sc.length ≤ 1048576) : ∃ r : List Int × (Bool × Unit), r.1.length ≤ 4 ∧ Ev (fun k => spec_SeatPlayers k l sc 2) r := by
  obtain ⟨a, ea, _⟩ := specPlayers_ev l (smP_few hl (by omega))
  by_cases qa : a = true
  · have eb := specScore_ev sc hs
    by_cases qb : scoreP sc
    · obtain ⟨r, hr, er⟩ := seat_ev l sc 2 (by omega) hl hs 2 [] (by simp)
      exact ⟨(r.1, (decide (r.2.1 = true), ())), hr, Ev.eq (fun k => spec_SeatPlayers_eq k l sc 2) (Ev.bind ea (Ev.neg (fun h => h qa) (Ev.bind eb (Ev.neg (by simpa using qb) (Ev.bind (l1In_ev _ _ _) (Ev.neg (by simp) (Ev.bind er Ev.ret)))))))⟩
    · exact ⟨([], (false, ())), by simp, Ev.eq (fun k => spec_SeatPlayers_eq k l sc 2) (Ev.bind ea (Ev.neg (fun h => h qa) (Ev.bind eb (Ev.pos (by simpa using qb) Ev.ret))))⟩
  · exact ⟨([], (false, ())), by simp, Ev.eq (fun k => spec_SeatPlayers_eq k l sc 2) (Ev.bind ea (Ev.pos qa Ev.ret))⟩
theorem bkP_few {n : Nat} {l : List DT126} (h : fewP n l) (hn : n ≤ 1048576) : Bk (.list T126) l :=
  ⟨Nat.le_trans h.1 hn, fun x hx => ⟨trivial, trivial, trivial, ⟨Nat.le_trans (h.2 x hx) (by omega), fun _ _ => trivial⟩, trivial⟩⟩
theorem bk_ev {l : List DT45} (h : l.length ≤ 1048576) : Bk (.list T45) l := ⟨h, fun x _ => bk_flat x rfl⟩
theorem bk_te {l : List DT31} (h : l.length ≤ 1048576) : Bk (.list T31) l := ⟨h, fun x _ => bk_flat x rfl⟩
theorem bk_ma {l : List DT128} (h : l.length ≤ 1048576) : Bk (.list T128) l := ⟨h, fun x _ => bk_flat x rfl⟩
theorem bk_in {l : List Int} (h : l.length ≤ 1048576) : Bk (.list (.int .i64)) l := ⟨h, fun x _ => trivial⟩
theorem l1New_ev (code : List Int) (hc : code.length ≤ 1048576) : ∃ c : DT82, CurOk c ∧ Ev (fun k => spec_l1New k code) c := by
  have key : ∀ (d i : Nat) (h : Int), i + d = code.length → ∃ c : DT82, CurOk c ∧ E2 (fun k m => spec_l1New.l0 k m code h (i : Int)) c := by
    intro d
    induction d with
    | zero => intro i h hi; exact ⟨(code, (0, (h, ()))), ⟨hc, Int.le_refl 0, by show (0 : Int) ≤ ((List.length code : Nat) : Int); omega⟩, E2.eq (fun k m => spec_l1New.l0_eq k m code _ _) (E2.neg (by omega) E2.ret)⟩
    | succ d ih =>
      intro i h hi
      by_cases q : (i : Int) < 4000
      · obtain ⟨c, hc', e⟩ := ih (i + 1) _ (by omega)
        refine ⟨c, hc', E2.eq (fun k m => spec_l1New.l0_eq k m code _ _) (E2.pos (by omega) (E2.pos q (E2.pos (by omega) (E2.pos (by omega) ?_))))⟩
        simp only [wrapS (show i < 9223372036854775807 by omega)]
        exact e
      · exact ⟨(code, (0, (h, ()))), ⟨hc, Int.le_refl 0, by show (0 : Int) ≤ ((List.length code : Nat) : Int); omega⟩, E2.eq (fun k m => spec_l1New.l0_eq k m code _ _) (E2.pos (by omega) (E2.neg q E2.ret))⟩
  obtain ⟨c, hc', e⟩ := key code.length 0 (IntKind.wrap .i64 (193017 + ((List.length code : Nat) : Int))) (by omega)
  exact ⟨c, hc', Ev.eq (fun k => spec_l1New_eq k code) (Ev.loop (f := fun k m => spec_l1New.l0 k m code (IntKind.wrap .i64 (193017 + ((List.length code : Nat) : Int))) 0) e)⟩
theorem endOfS_ev (l : List DT45) (hl : l.length ≤ 1048576) : ∃ v, Ev (fun k => spec_EndOf k l) v := by
  by_cases hp : scoreP l
  · have key : ∀ d (i : Nat) (n : Int), i + d = l.length → ∃ v, E2 (fun k m => spec_EndOf.l0 k m l n (i : Int)) v := by
      intro d
      induction d with
      | zero =>
        intro i n hi
        exact ⟨n, E2.eq (fun k m => spec_EndOf.l0_eq k m l n _) (E2.neg (by omega) E2.ret)⟩
      | succ d ih =>
        intro i n hi
        obtain ⟨v, e1⟩ := ih (i + 1) (max n (IntKind.wrap .i64 ((rd T45 l (i : Int)).1 + (rd T45 l (i : Int)).2.1))) (by omega)
        refine ⟨v, E2.eq (fun k m => spec_EndOf.l0_eq k m l n _) (E2.pos (by omega) (E2.bind (specScore_ev l hl) (E2.pos (by simpa using hp) (E2.pos (by omega) (E2.pos (by omega) (E2.pos (by omega) (E2.pos (by omega) (E2.bind (specMax_ev _ _) ?_))))))))⟩
        simp only [wrapS (show i < 9223372036854775807 by omega)]; exact e1
    obtain ⟨v, e1⟩ := key l.length 0 0 (by omega)
    exact ⟨v, Ev.eq (fun k => spec_EndOf_eq k l) (Ev.loop (f := fun k m => spec_EndOf.l0 k m l 0 0) e1)⟩
  · refine ⟨0, Ev.eq (fun k => spec_EndOf_eq k l) (Ev.loop (f := fun k m => spec_EndOf.l0 k m l 0 0) ?_)⟩
    refine E2.eq (fun k m => spec_EndOf.l0_eq k m l 0 0) ?_
    by_cases c : (0 : Int) < ((l.length : Nat) : Int)
    · exact E2.pos c (E2.bind (specScore_ev l hl) (E2.neg (by simpa using hp) E2.ret))
    · exact E2.neg c E2.ret
theorem l4Raw_dr : Dr (fun k c => spec_l4Raw k c) (fun _ => True) := by
  intro c h
  obtain ⟨x, c1, h1, _, e1⟩ := l1Int_dr [(-1), 0, 1, 1000000000, (-1000000000), 1000000001, 1000000, 1000001, 9223372036854775807, (-9223372036854775808)] (by simp) c h
  exact ⟨_, c1, h1, trivial, Ev.eq (fun k => spec_l4Raw_eq k c) (Ev.bind e1 Ev.ret)⟩
theorem wrap_R64 (x : Int) : R64 (IntKind.wrap .i64 x) := by
  have h1 := IntKind.wrap_i64 x
  unfold R64
  rw [h1]
  omega
theorem sm_R64 {n : Int} (h0 : -4611686018427387904 ≤ n) (h1 : n ≤ 4611686018427387904) : R64 n := by unfold R64; omega
theorem mem_setAt {t : Ty} {l : List t.den} {i : Int} {f : t.den → t.den} {P : t.den → Prop} (h : ∀ x ∈ l, P x) (h0 : 0 ≤ i) (h1 : i < ((List.length l : Nat) : Int)) (hf : ∀ x, P x → P (f x)) : ∀ x ∈ setAt t l i f, P x := by
  obtain ⟨j, rfl⟩ := Int.eq_ofNat_of_zero_le h0
  have hj : j < l.length := by omega
  intro p hp
  unfold setAt at hp
  rcases List.mem_or_eq_of_mem_set hp with h2 | h2
  · exact h p h2
  · rw [h2]
    refine hf _ ?_
    rw [rd_at hj]
    exact h _ (List.getElem_mem hj)
theorem l1Int_w (l : List Int) (hl : 0 < l.length) (hs : ∀ x ∈ l, R64 x) : Dr (fun k c => spec_l1Int k c l) (fun x => R64 x) := by
  intro c h
  obtain ⟨x, c1, h1, ⟨h2, h3, _⟩, e1⟩ := l1Below_dr ((List.length l : Nat) : Int) c h
  have h3 := h3 (by omega)
  obtain ⟨j, rfl⟩ := Int.eq_ofNat_of_zero_le h2
  have hj : j < l.length := by omega
  exact ⟨rd (.int .i64) l (j : Int), c1, h1, by show R64 (rd (.int .i64) l (j : Int)); rw [rd_at (t := .int .i64) hj]; exact hs _ (List.getElem_mem hj), Ev.eq (fun k => spec_l1Int_eq k c l) (Ev.bind e1 (Ev.pos h2 (Ev.pos h3 Ev.ret)))⟩
theorem l8Event_w : Dr (fun k c => spec_l8Event k c) (fun e => R64E e) := by
  intro c h
  obtain ⟨x1, c1, h1, _, e1⟩ := l1Below_dr 20 c h
  obtain ⟨x2, c2, h2, _, e2⟩ := l1Below_dr 10 c1 h1
  obtain ⟨x3, c3, h3, _, e3⟩ := l1Below_dr 18 c2 h2
  obtain ⟨x4, c4, h4, _, e4⟩ := l1Below_dr 3 c3 h3
  exact ⟨(IntKind.wrap .i64 (6 * x1), (IntKind.wrap .i64 (3 * (IntKind.wrap .i64 (1 + x2))), (IntKind.wrap .i64 (55 + x3), (IntKind.wrap .i64 (1 + x4), ())))), c4, h4, ⟨wrap_R64 _, wrap_R64 _, wrap_R64 _⟩, Ev.eq (fun k => spec_l8Event_eq k c) (Ev.bind e1 (Ev.bind e2 (Ev.bind e3 (Ev.bind e4 Ev.ret))))⟩
theorem putS_w (l : List DT45) (e : DT45) (hl : l.length ≤ 1048576) (hr : ∀ x ∈ l, R64E x) (he : R64E e) : ∃ v : List DT45 × (Bool × Unit), (v.1.length ≤ l.length + 1 ∧ ∀ x ∈ v.1, R64E x) ∧ Ev (fun k => spec_PutEvent k l e) v := by
  obtain ⟨r, hp, _, e1⟩ := putW_ev l e (by omega)
  have hrl : r.length = l.length + 1 := by rw [hp.length_eq]; simp
  have e2 := specScoreB_ev r (by omega)
  by_cases c : scoreP r
  · exact ⟨(r, (true, ())), ⟨by show r.length ≤ _; omega, fun x hx => by
      rcases List.mem_cons.1 (hp.mem_iff.1 hx) with h | h
      · rw [h]; exact he
      · exact hr x h⟩, Ev.eq (fun k => spec_PutEvent_eq k l e) (Ev.bind e1 (Ev.bind e2 (Ev.neg (by simpa using c) Ev.ret)))⟩
  · exact ⟨([] ++ l, (false, ())), ⟨by simp, fun x hx => hr x (by simpa using hx)⟩, Ev.eq (fun k => spec_PutEvent_eq k l e) (Ev.bind e1 (Ev.bind e2 (Ev.pos (by simpa using c) (Ev.pos (by rw [List.length_nil]; omega) Ev.ret))))⟩
theorem l8Draw_w : Dr (fun k c => spec_l8Draw k c) (fun r => r.length ≤ 13 ∧ ∀ x ∈ r, R64E x) := by
  intro c h
  have key : ∀ (d : Nat) (c : DT82) (s : List DT45), CurOk c → s.length + d ≤ 1000 → (∀ x ∈ s, R64E x) → ∃ r c', CurOk c' ∧ (r.length ≤ s.length + d ∧ ∀ x ∈ r, R64E x) ∧ E2 (fun k m => spec_l8Draw.l0 k m (d : Int) c.1 c.2.1 c.2.2.1 s) (r, c') := by
    intro d
    induction d with
    | zero => intro c s h hs hw; exact ⟨s, c, h, ⟨by omega, hw⟩, E2.eq (fun k m => spec_l8Draw.l0_eq k m _ _ _ _ s) (E2.neg (by omega) E2.ret)⟩
    | succ d ih =>
      intro c s h hs hw
      obtain ⟨x, c1, h1, hx, e1⟩ := l8Event_w c h
      obtain ⟨v, ⟨hv, hvw⟩, e2⟩ := putS_w s x (by omega) hw hx
      obtain ⟨r, c', h', ⟨hr, hrw⟩, e3⟩ := ih c1 v.1 h1 (by omega) hvw
      refine ⟨r, c', h', ⟨by omega, hrw⟩, E2.eq (fun k m => spec_l8Draw.l0_eq k m _ _ _ _ s) (E2.pos (by omega) (E2.bind e1 (E2.bind e2 ?_)))⟩
      simp only [wrapP (show 0 < d + 1 by omega) (show d + 1 < 9223372036854775807 by omega), Nat.add_sub_cancel]
      exact e3
  obtain ⟨x, c1, h1, ⟨h2, h3, _⟩, e1⟩ := l1Below_dr 13 c h
  obtain ⟨n, rfl⟩ := Int.eq_ofNat_of_zero_le h2
  have := h3 (by omega)
  obtain ⟨r, c', h', ⟨hr, hrw⟩, e3⟩ := key n c1 [] h1 (by simp; omega) (by simp)
  exact ⟨r, c', h', ⟨by simp at hr; omega, hrw⟩, Ev.eq (fun k => spec_l8Draw_eq k c) (Ev.bind e1 (Ev.loop (f := fun k m => spec_l8Draw.l0 k m (n : Int) c1.1 c1.2.1 c1.2.2.1 []) e3))⟩
theorem l8Tune_w (voice most : Int) (hm : most ≤ 100) (hvo : R64 voice) : Dr (fun k c => spec_l8Tune k c voice most) (fun r => r.length ≤ 100 ∧ ∀ x ∈ r, R64E x) := by
  intro c h
  have key : ∀ (d : Nat) (t : Int) (c : DT82) (s : List DT45), CurOk c → s.length + d ≤ 1000 → R64 t → (∀ x ∈ s, R64E x) → ∃ r c', CurOk c' ∧ (r.length ≤ s.length + d ∧ ∀ x ∈ r, R64E x) ∧ E2 (fun k m => spec_l8Tune.l0 k m voice t (d : Int) c.1 c.2.1 c.2.2.1 s) (r, c') := by
    intro d
    induction d with
    | zero => intro t c s h hs ht hw; exact ⟨s, c, h, ⟨by omega, hw⟩, E2.eq (fun k m => spec_l8Tune.l0_eq k m _ _ _ _ _ _ s) (E2.neg (by omega) E2.ret)⟩
    | succ d ih =>
      intro t c s h hs ht hw
      obtain ⟨x1, c1, h1, _, e1⟩ := l1Below_dr 3 c h
      obtain ⟨x2, c2, h2, _, e2⟩ := l1Below_dr 8 c1 h1
      obtain ⟨x3, c3, h3, _, e3⟩ := l1Once_dr 5 c2 h2
      obtain ⟨v, ⟨hv, hvw⟩, e4⟩ := putS_w s (t, (IntKind.wrap .i64 (6 * (IntKind.wrap .i64 (1 + x1))), (IntKind.wrap .i64 (60 + x2), (voice, ())))) (by omega) hw ⟨ht, wrap_R64 _, hvo⟩
      by_cases q : x3 = true
      · obtain ⟨r, c', h', ⟨hr, hrw⟩, e5⟩ := ih (IntKind.wrap .i64 ((IntKind.wrap .i64 (t + (IntKind.wrap .i64 (6 * (IntKind.wrap .i64 (1 + x1)))))) + 12)) c3 v.1 h3 (by omega) (wrap_R64 _) hvw
        refine ⟨r, c', h', ⟨by omega, hrw⟩, E2.eq (fun k m => spec_l8Tune.l0_eq k m _ _ _ _ _ _ s) (E2.pos (by omega) (E2.bind e1 (E2.bind e2 (E2.bind e3 (E2.pos q (E2.bind e4 ?_))))))⟩
        simp only [wrapP (show 0 < d + 1 by omega) (show d + 1 < 9223372036854775807 by omega), Nat.add_sub_cancel]
        exact e5
      · obtain ⟨r, c', h', ⟨hr, hrw⟩, e5⟩ := ih (IntKind.wrap .i64 (t + (IntKind.wrap .i64 (6 * (IntKind.wrap .i64 (1 + x1)))))) c3 v.1 h3 (by omega) (wrap_R64 _) hvw
        refine ⟨r, c', h', ⟨by omega, hrw⟩, E2.eq (fun k m => spec_l8Tune.l0_eq k m _ _ _ _ _ _ s) (E2.pos (by omega) (E2.bind e1 (E2.bind e2 (E2.bind e3 (E2.neg q (E2.bind e4 ?_))))))⟩
        simp only [wrapP (show 0 < d + 1 by omega) (show d + 1 < 9223372036854775807 by omega), Nat.add_sub_cancel]
        exact e5
  obtain ⟨x, c1, h1, ⟨h2, h3, h4⟩, e1⟩ := l1Below_dr most c h
  obtain ⟨n, rfl⟩ := Int.eq_ofNat_of_zero_le h2
  have hn : n ≤ 100 := by
    rcases Int.lt_or_le 0 most with q | q
    · have := h3 q; omega
    · have := h4 q; omega
  obtain ⟨r, c', h', ⟨hr, hrw⟩, e3⟩ := key n 0 c1 [] h1 (by simp; omega) (sm_R64 (by omega) (by omega)) (by simp)
  exact ⟨r, c', h', ⟨by simp at hr; omega, hrw⟩, Ev.eq (fun k => spec_l8Tune_eq k c voice most) (Ev.bind e1 (Ev.loop (f := fun k m => spec_l8Tune.l0 k m voice 0 (n : Int) c1.1 c1.2.1 c1.2.2.1 []) e3))⟩
theorem l8Any_w : Dr (fun k c => spec_l8Any k c) (fun r => r.length ≤ 14 ∧ ∀ x ∈ r, R64E x) := by
  intro c h
  obtain ⟨l, c1, h1, ⟨hl, hw⟩, e1⟩ := l8Draw_w c h
  by_cases q0 : (((List.length l : Nat) : Int) : Int) = 0
  · exact ⟨l, c1, h1, ⟨by omega, hw⟩, Ev.eq (fun k => spec_l8Any_eq k c) (Ev.bind e1 (Ev.pos q0 Ev.ret))⟩
  obtain ⟨i, c2, h2, ⟨i1, i2, _⟩, e2⟩ := l1Below_dr ((List.length l : Nat) : Int) c1 h1
  have i2 := i2 (by omega)
  obtain ⟨x, c3, h3, _, e3⟩ := l1Below_dr 9 c2 h2
  have sm : ∀ (ls : List Int), (∀ x ∈ ls, -10 ≤ x ∧ x ≤ 5000) → ∀ x ∈ ls, R64 x := fun ls h x hx => by have := h x hx; exact sm_R64 (by omega) (by omega)
  by_cases q1 : x = 0
  · obtain ⟨y, c4, h4, hy, e4⟩ := l1Int_w [(-1), 2000, 2001] (by simp) (sm _ (by decide)) c3 h3
    exact ⟨setAt T45 l i (fun yy => (y, yy.2)), c4, h4, ⟨by rw [setAt_len]; exact Nat.le_trans hl (by omega), mem_setAt (t := T45) (P := R64E) hw i1 i2 fun z hz => ⟨hy, hz.2⟩⟩, Ev.eq (fun k => spec_l8Any_eq k c) (Ev.bind e1 (Ev.neg q0 (Ev.bind e2 (Ev.bind e3 (Ev.pos q1 (Ev.bind e4 (Ev.pos i1 (Ev.pos i2 Ev.ret))))))))⟩
  by_cases q2 : x = 1
  · obtain ⟨y, c4, h4, hy, e4⟩ := l1Int_w [0, 96, 97] (by simp) (sm _ (by decide)) c3 h3
    exact ⟨setAt T45 l i (fun yy => (yy.1, (y, yy.2.2))), c4, h4, ⟨by rw [setAt_len]; exact Nat.le_trans hl (by omega), mem_setAt (t := T45) (P := R64E) hw i1 i2 fun z hz => ⟨hz.1, hy, hz.2.2⟩⟩, Ev.eq (fun k => spec_l8Any_eq k c) (Ev.bind e1 (Ev.neg q0 (Ev.bind e2 (Ev.bind e3 (Ev.neg q1 (Ev.pos q2 (Ev.bind e4 (Ev.pos i1 (Ev.pos i2 Ev.ret)))))))))⟩
  by_cases q3 : x = 2
  · obtain ⟨y, c4, h4, hy, e4⟩ := l1Int_w [20, 108, 109] (by simp) (sm _ (by decide)) c3 h3
    exact ⟨setAt T45 l i (fun yy => (yy.1, (yy.2.1, (y, yy.2.2.2)))), c4, h4, ⟨by rw [setAt_len]; exact Nat.le_trans hl (by omega), mem_setAt (t := T45) (P := R64E) hw i1 i2 fun z hz => ⟨hz.1, hz.2.1, hz.2.2⟩⟩, Ev.eq (fun k => spec_l8Any_eq k c) (Ev.bind e1 (Ev.neg q0 (Ev.bind e2 (Ev.bind e3 (Ev.neg q1 (Ev.neg q2 (Ev.pos q3 (Ev.bind e4 (Ev.pos i1 (Ev.pos i2 Ev.ret))))))))))⟩
  by_cases q4 : x = 3
  · obtain ⟨y, c4, h4, hy, e4⟩ := l1Int_w [0, 4, 5] (by simp) (sm _ (by decide)) c3 h3
    exact ⟨setAt T45 l i (fun yy => (yy.1, (yy.2.1, (yy.2.2.1, (y, ()))))), c4, h4, ⟨by rw [setAt_len]; exact Nat.le_trans hl (by omega), mem_setAt (t := T45) (P := R64E) hw i1 i2 fun z hz => ⟨hz.1, hz.2.1, hy⟩⟩, Ev.eq (fun k => spec_l8Any_eq k c) (Ev.bind e1 (Ev.neg q0 (Ev.bind e2 (Ev.bind e3 (Ev.neg q1 (Ev.neg q2 (Ev.neg q3 (Ev.pos q4 (Ev.bind e4 (Ev.pos i1 (Ev.pos i2 Ev.ret)))))))))))⟩
  by_cases q5 : x = 4
  · refine ⟨l ++ [rd T45 l 0], c3, h3, ⟨by rw [List.length_append, List.length_singleton]; exact Nat.succ_le_succ hl, fun z hz => ?_⟩, Ev.eq (fun k => spec_l8Any_eq k c) (Ev.bind e1 (Ev.neg q0 (Ev.bind e2 (Ev.bind e3 (Ev.neg q1 (Ev.neg q2 (Ev.neg q3 (Ev.neg q4 (Ev.pos q5 (Ev.pos (Nat.le_refl 0) (Ev.pos (show (0 : Int) < ((List.length l : Nat) : Int) by omega) (Ev.pos (show (l.length + 1) * 32 ≤ 211106232532992 by omega) Ev.ret))))))))))))⟩
    rcases List.mem_append.1 hz with hz | hz
    · exact hw z hz
    · have hz : z = rd T45 l 0 := by simpa using hz
      rw [hz]
      have h0 : 0 < l.length := by omega
      have := rd_at (t := T45) h0
      rw [show ((0 : Nat) : Int) = 0 from rfl] at this
      rw [this]
      exact hw _ (List.getElem_mem h0)
  exact ⟨l, c3, h3, ⟨by omega, hw⟩, Ev.eq (fun k => spec_l8Any_eq k c) (Ev.bind e1 (Ev.neg q0 (Ev.bind e2 (Ev.bind e3 (Ev.neg q1 (Ev.neg q2 (Ev.neg q3 (Ev.neg q4 (Ev.neg q5 Ev.ret)))))))))⟩
theorem addS {s : List DT50} {a b c : Int} (h : ∀ x ∈ s, R64S x) (hb : R64 b) : ∀ x ∈ s ++ ([(a, (b, (c, ())))] : List DT50), R64S x := by
  intro x hx
  rcases List.mem_append.1 hx with hx | hx
  · exact h x hx
  · have hx : x = (a, (b, (c, ()))) := by simpa using hx
    rw [hx]
    exact hb
theorem partS_w (l : List DT45) (v e : Int) (hl : l.length ≤ 1000) (hlw : ∀ x ∈ l, R64E x) : ∃ r : List DT50 × (Bool × Unit), (r.1.length ≤ 2001 ∧ ∀ x ∈ r.1, R64S x) ∧ Ev (fun k => spec_PartFrom k l v e) r := by
  have hf : (l.filter (ofVoice v)).length ≤ 1000 := Nat.le_trans (List.length_filter_le _ _) hl
  have hfw : ∀ x ∈ l.filter (ofVoice v), R64E x := fun x hx => hlw x (List.mem_filter.1 hx).1
  generalize hg : l.filter (ofVoice v) = f at hf hfw
  have hv := specVoice_ev l v (by omega)
  rw [hg] at hv
  by_cases hp : scoreP l
  · have key : ∀ (d i : Nat) (a : Int) (s : List DT50), i + d = f.length → s.length ≤ 2 * i → (∀ x ∈ s, R64S x) → ∃ r : List DT50 × (Bool × Unit), (r.1.length ≤ 2001 ∧ ∀ x ∈ r.1, R64S x) ∧ E2 (fun k m => spec_PartFrom.l0 k m l e a (i : Int) s f) r := by
      intro d
      induction d with
      | zero =>
        intro i a s hi hs hw
        have start : ∀ {v : List DT50 × (Bool × Unit)}, E2 (fun k m => if (e : Int) < a then some ([], (false, ())) else if (2096 : Int) < e then some ([], (false, ())) else if (a : Int) < e then (if (List.length s + List.length ([(a, (IntKind.wrap .i64 (e - a), (0, ())))] : (List DT50))) * 24 ≤ 211106232532992 then some ((s ++ ([(a, (IntKind.wrap .i64 (e - a), (0, ())))] : (List DT50))), (true, ())) else none) else some (s, (true, ()))) v → E2 (fun k m => spec_PartFrom.l0 k m l e a (i : Int) s f) v := by
          intro v h
          refine E2.eq (fun k m => spec_PartFrom.l0_eq k m l e a _ s f) ?_
          refine E2.neg (by omega) ?_
          refine E2.bind (specScore_ev l (by omega)) ?_
          exact E2.neg (by simpa using hp) h
        by_cases c1 : e < a
        · exact ⟨([], (false, ())), ⟨by simp, by simp⟩, start (E2.pos c1 E2.ret)⟩
        by_cases c2 : 2096 < e
        · exact ⟨([], (false, ())), ⟨by simp, by simp⟩, start (E2.neg c1 (E2.pos c2 E2.ret))⟩
        by_cases c3 : a < e
        · exact ⟨((s ++ ([(a, (IntKind.wrap .i64 (e - a), (0, ())))] : (List DT50))), (true, ())), ⟨by simp; omega, addS hw (wrap_R64 _)⟩, start (E2.neg c1 (E2.neg c2 (E2.pos c3 (E2.pos (by simp only [List.length_cons, List.length_nil]; omega) E2.ret))))⟩
        · exact ⟨(s, (true, ())), ⟨by show s.length ≤ _; omega, hw⟩, start (E2.neg c1 (E2.neg c2 (E2.neg c3 E2.ret)))⟩
      | succ d ih =>
        intro i a s hi hs hw
        have i0 : (0 : Int) ≤ (i : Int) := by omega
        have hiw : R64 (rd T45 f (i : Int)).2.1 := by rw [rd_at (t := T45) (show i < f.length by omega)]; exact (hfw _ (List.getElem_mem _)).2.1
        have i1 : (i : Int) < ((List.length f : Nat) : Int) := by omega
        by_cases c1 : LT.lt (α := Int) (rd T45 f (i : Int)).1 a
        · exact ⟨([], (false, ())), ⟨by simp, by simp⟩, E2.eq (fun k m => spec_PartFrom.l0_eq k m l e a _ s f) (E2.pos i1 (E2.bind (specScore_ev l (by omega)) (E2.pos (by simpa using hp) (E2.pos i0 (E2.pos i1 (E2.pos c1 E2.ret))))))⟩
        by_cases c2 : LT.lt (α := Int) a (rd T45 f (i : Int)).1
        · obtain ⟨r, hr, e1⟩ := ih (i + 1) (IntKind.wrap .i64 ((rd T45 f (i : Int)).1 + (rd T45 f (i : Int)).2.1)) ((s ++ ([(a, (IntKind.wrap .i64 ((rd T45 f (i : Int)).1 - a), (0, ())))] : (List DT50))) ++ ([((rd T45 f (i : Int)).1, ((rd T45 f (i : Int)).2.1, ((rd T45 f (i : Int)).2.2.1, ())))] : (List DT50))) (by omega) (by simp; omega) (addS (addS hw (wrap_R64 _)) hiw)
          refine ⟨r, hr, E2.eq (fun k m => spec_PartFrom.l0_eq k m l e a _ s f) (E2.pos i1 (E2.bind (specScore_ev l (by omega)) (E2.pos (by simpa using hp) (E2.pos i0 (E2.pos i1 (E2.neg c1 (E2.pos i0 (E2.pos i1 (E2.pos c2 (E2.pos i0 (E2.pos i1 (E2.pos (by simp only [List.length_cons, List.length_nil]; omega) (E2.pos i0 (E2.pos i1 (E2.pos i0 (E2.pos i1 (E2.pos i0 (E2.pos i1 (E2.pos (by simp only [List.length_append, List.length_cons, List.length_nil]; omega) (E2.pos i0 (E2.pos i1 (E2.pos i0 (E2.pos i1 ?_)))))))))))))))))))))))⟩
          simp only [wrapS (show i < 9223372036854775807 by omega)]
          exact e1
        · obtain ⟨r, hr, e1⟩ := ih (i + 1) (IntKind.wrap .i64 ((rd T45 f (i : Int)).1 + (rd T45 f (i : Int)).2.1)) (s ++ ([((rd T45 f (i : Int)).1, ((rd T45 f (i : Int)).2.1, ((rd T45 f (i : Int)).2.2.1, ())))] : (List DT50))) (by omega) (by simp; omega) (addS hw hiw)
          refine ⟨r, hr, E2.eq (fun k m => spec_PartFrom.l0_eq k m l e a _ s f) (E2.pos i1 (E2.bind (specScore_ev l (by omega)) (E2.pos (by simpa using hp) (E2.pos i0 (E2.pos i1 (E2.neg c1 (E2.pos i0 (E2.pos i1 (E2.neg c2 (E2.pos i0 (E2.pos i1 (E2.pos i0 (E2.pos i1 (E2.pos i0 (E2.pos i1 (E2.pos (by simp only [List.length_cons, List.length_nil]; omega) (E2.pos i0 (E2.pos i1 (E2.pos i0 (E2.pos i1 ?_))))))))))))))))))))⟩
          simp only [wrapS (show i < 9223372036854775807 by omega)]
          exact e1
    obtain ⟨r, hr, e1⟩ := key f.length 0 0 [] (by omega) (by simp) (by simp)
    exact ⟨r, hr, Ev.eq (fun k => spec_PartFrom_eq k l v e) (Ev.bind hv (Ev.loop (f := fun k m => spec_PartFrom.l0 k m l e 0 0 [] f) e1))⟩
  · refine ⟨([], (false, ())), ⟨by simp, by simp⟩, Ev.eq (fun k => spec_PartFrom_eq k l v e) (Ev.bind hv (Ev.loop (f := fun k m => spec_PartFrom.l0 k m l e 0 0 [] f) ?_))⟩
    refine E2.eq (fun k m => spec_PartFrom.l0_eq k m l e 0 0 [] _) ?_
    by_cases c : (0 : Int) < ((List.length f : Nat) : Int)
    · exact E2.pos c (E2.bind (specScore_ev l (by omega)) (E2.neg (by simpa using hp) (E2.bind (specScore_ev l (by omega)) (E2.pos (by simpa using hp) E2.ret))))
    · exact E2.neg c (E2.bind (specScore_ev l (by omega)) (E2.pos (by simpa using hp) E2.ret))
theorem l13Part_w : Dr (fun k c => spec_l13Part k c) (fun r => r.length ≤ 2001 ∧ ∀ x ∈ r, R64S x) := by
  intro c h
  obtain ⟨l, c1, h1, ⟨hl, hlw⟩, e1⟩ := l8Tune_w 1 9 (by omega) (sm_R64 (by omega) (by omega)) c h
  have hl : l.length ≤ 100 := hl
  obtain ⟨en, e2⟩ := endOfS_ev l (by omega)
  obtain ⟨x, c2, h2, _, e3⟩ := l1Below_dr 30 c1 h1
  obtain ⟨p, ⟨hp, hpw⟩, e4⟩ := partS_w l 1 (IntKind.wrap .i64 (en + x)) (by omega) hlw
  have sm : ∀ (ls : List Int), (∀ x ∈ ls, -10 ≤ x ∧ x ≤ 5000) → ∀ x ∈ ls, R64 x := fun ls h x hx => by have := h x hx; exact sm_R64 (by omega) (by omega)
  by_cases q : (0 : Int) < ((List.length p.1 : Nat) : Int)
  · obtain ⟨i, c3, h3, ⟨i1, i2, _⟩, e5⟩ := l1Below_dr ((List.length p.1 : Nat) : Int) c2 h2
    have i2 := i2 q
    obtain ⟨y, c4, h4, _, e6⟩ := l1Below_dr 9 c3 h3
    by_cases q0 : y = 0
    · obtain ⟨z, c5, h5, _, e7⟩ := l4Raw_dr c4 h4
      exact ⟨setAt T50 p.1 i (fun yy => (z, yy.2)), c5, h5, ⟨by rw [setAt_len]; exact hp, mem_setAt (t := T50) (P := R64S) hpw i1 i2 fun z hz => hz⟩, Ev.eq (fun k => spec_l13Part_eq k c) (Ev.bind e1 (Ev.bind e2 (Ev.bind e3 (Ev.bind e4 (Ev.pos q (Ev.bind e5 (Ev.bind e6 (Ev.pos q0 (Ev.bind e7 (Ev.pos i1 (Ev.pos i2 Ev.ret)))))))))))⟩
    by_cases q1 : y = 1
    · obtain ⟨z, c5, h5, hz0, e7⟩ := l1Int_w [0, 96, 97, 3000, 3001] (by simp) (sm _ (by decide)) c4 h4
      exact ⟨setAt T50 p.1 i (fun yy => (yy.1, (z, yy.2.2))), c5, h5, ⟨by rw [setAt_len]; exact hp, mem_setAt (t := T50) (P := R64S) hpw i1 i2 fun z hz => hz0⟩, Ev.eq (fun k => spec_l13Part_eq k c) (Ev.bind e1 (Ev.bind e2 (Ev.bind e3 (Ev.bind e4 (Ev.pos q (Ev.bind e5 (Ev.bind e6 (Ev.neg q0 (Ev.pos q1 (Ev.bind e7 (Ev.pos i1 (Ev.pos i2 Ev.ret))))))))))))⟩
    by_cases q2 : y = 2
    · obtain ⟨z, c5, h5, _, e7⟩ := l1Int_dr [0, 20, 109] (by simp) c4 h4
      exact ⟨setAt T50 p.1 i (fun yy => (yy.1, (yy.2.1, (z, ())))), c5, h5, ⟨by rw [setAt_len]; exact hp, mem_setAt (t := T50) (P := R64S) hpw i1 i2 fun z hz => hz⟩, Ev.eq (fun k => spec_l13Part_eq k c) (Ev.bind e1 (Ev.bind e2 (Ev.bind e3 (Ev.bind e4 (Ev.pos q (Ev.bind e5 (Ev.bind e6 (Ev.neg q0 (Ev.neg q1 (Ev.pos q2 (Ev.bind e7 (Ev.pos i1 (Ev.pos i2 Ev.ret)))))))))))))⟩
    · exact ⟨p.1, c4, h4, ⟨hp, hpw⟩, Ev.eq (fun k => spec_l13Part_eq k c) (Ev.bind e1 (Ev.bind e2 (Ev.bind e3 (Ev.bind e4 (Ev.pos q (Ev.bind e5 (Ev.bind e6 (Ev.neg q0 (Ev.neg q1 (Ev.neg q2 Ev.ret))))))))))⟩
  · exact ⟨p.1, c2, h2, ⟨hp, hpw⟩, Ev.eq (fun k => spec_l13Part_eq k c) (Ev.bind e1 (Ev.bind e2 (Ev.bind e3 (Ev.bind e4 (Ev.neg q Ev.ret)))))⟩
theorem newS_w (m : DT31) (ps : List DT126) (h : fewP 10 ps) : ∃ v : DT38 × (Bool × Unit), Bk T38 v.1 ∧ fewP 10 v.1.2.2.2.1 ∧ R64 v.1.2.2.2.2.2.2.2.1 ∧ R64 v.1.2.2.2.2.2.2.2.2.1 ∧ Ev (fun k => spec_NewOrchestra k m ps) v := by
  have b := newO_bk m ps (bkP_few h (by omega))
  obtain ⟨r, e1⟩ := specIsO_ev (newO m ps) (sm_of b)
  by_cases c : r = true
  · exact ⟨(newO m ps, (true, ())), b, h, sm_R64 (n := 1) (by omega) (by omega), sm_R64 (n := 0) (by omega) (by omega), Ev.eq (fun k => spec_NewOrchestra_eq k m ps) (Ev.bind (l33_ev _ b) (Ev.bind e1 (Ev.neg (by simpa using c) Ev.ret)))⟩
  · exact ⟨(zeroO, (false, ())), zeroO_bk, ⟨by simp [zeroO], by simp [zeroO]⟩, sm_R64 (n := 0) (by omega) (by omega), sm_R64 (n := 0) (by omega) (by omega), Ev.eq (fun k => spec_NewOrchestra_eq k m ps) (Ev.bind (l33_ev _ b) (Ev.bind e1 (Ev.pos c Ev.ret)))⟩
theorem l33Draw_w : Dr (fun k c => spec_l33Draw k c) (fun o => (Bk T38 o ∧ fewP 10 o.2.2.2.1) ∧ R64 o.2.2.2.2.2.2.2.1 ∧ R64 o.2.2.2.2.2.2.2.2.1) := by
  intro c h
  obtain ⟨m, c1, h1, _, e1⟩ := l10Draw_dr c h
  obtain ⟨ps, c2, h2, hps, e2⟩ := l33Voices_dr c1 h1
  obtain ⟨v, bv, fv, rv1, rv2, e3⟩ := newS_w m ps hps
  obtain ⟨sc, c4, h4, hsc, e4⟩ := l13Score_dr c2 h2
  obtain ⟨te, c5, h5, hte, e5⟩ := l11Draw_dr c4 h4
  obtain ⟨ma, c6, h6, hma, e6⟩ := l25Draw_dr c5 h5
  obtain ⟨le, c7, h7, hle, e7⟩ := l26Draw_dr c6 h6
  have hsc : sc.length ≤ 200 := hsc
  have hma : ma.length ≤ 9 := hma
  have hle : le.length ≤ 6 := hle
  obtain ⟨st, hst, e8⟩ := seatP_ev v.1.2.2.2.1 sc fv (by omega)
  have b1 : Bk (.list T45) sc := bk_ev (by omega)
  have b2 : Bk (.list T31) te := bk_te (by omega)
  have b3 : Bk (.list T128) ma := bk_ma (by omega)
  have b4 : Bk (.list T31) le := bk_te (by omega)
  have bk : ∀ seats : List Int, Bk (.list (.int .i64)) seats → Bk T38 (sc, (v.1.2.1, (te, (v.1.2.2.2.1, (seats, (ma, (le, v.1.2.2.2.2.2.2.2))))))) := fun seats hs => ⟨b1, bv.2.1, b2, bv.2.2.2.1, hs, b3, b4, bv.2.2.2.2.2.2.2⟩
  by_cases q : st.2.1 = true
  · obtain ⟨x, c9, h9, _, e9⟩ := l1Once_dr 5 c7 h7
    by_cases q2 : x = true
    · exact ⟨_, c9, h9, ⟨⟨bk _ bv.2.2.2.2.1, fv⟩, rv1, rv2⟩, Ev.eq (fun k => spec_l33Draw_eq k c) (Ev.bind e1 (Ev.bind e2 (Ev.bind e3 (Ev.bind e4 (Ev.bind e5 (Ev.bind e6 (Ev.bind e7 (Ev.bind e8 (Ev.pos q (Ev.bind e9 (Ev.neg (fun h => h q2) Ev.ret)))))))))))⟩
    · exact ⟨_, c9, h9, ⟨⟨bk _ (bk_in (by omega)), fv⟩, rv1, rv2⟩, Ev.eq (fun k => spec_l33Draw_eq k c) (Ev.bind e1 (Ev.bind e2 (Ev.bind e3 (Ev.bind e4 (Ev.bind e5 (Ev.bind e6 (Ev.bind e7 (Ev.bind e8 (Ev.pos q (Ev.bind e9 (Ev.pos q2 Ev.ret)))))))))))⟩
  · exact ⟨_, c7, h7, ⟨⟨bk _ bv.2.2.2.2.1, fv⟩, rv1, rv2⟩, Ev.eq (fun k => spec_l33Draw_eq k c) (Ev.bind e1 (Ev.bind e2 (Ev.bind e3 (Ev.bind e4 (Ev.bind e5 (Ev.bind e6 (Ev.bind e7 (Ev.bind e8 (Ev.neg q Ev.ret)))))))))⟩
theorem l33Any_w : Dr (fun k c => spec_l33Any k c) (fun o => Bk T38 o ∧ R64 o.2.2.2.2.2.2.2.1 ∧ R64 o.2.2.2.2.2.2.2.2.1) := by
  intro c h
  obtain ⟨o, c1, h1, ⟨⟨bo, fo⟩, ro⟩, e1⟩ := l33Draw_w c h
  obtain ⟨x, c2, h2, _, e2⟩ := l1Below_dr 14 c1 h1
  by_cases q0 : x = 0
  · obtain ⟨y, c3, h3, hy, e3⟩ := l8Any_dr c2 h2
    have hy : y.length ≤ 14 := hy
    exact ⟨(y, o.2), c3, h3, ⟨⟨bk_ev (by show y.length ≤ _; omega), bo.2⟩, ro⟩, Ev.eq (fun k => spec_l33Any_eq k c) (Ev.bind e1 (Ev.bind e2 (Ev.pos q0 (Ev.bind e3 Ev.ret))))⟩
  by_cases q1 : x = 1
  · obtain ⟨y, c3, h3, hy, e3⟩ := l10Any_dr c2 h2
    exact ⟨(o.1, (y, o.2.2)), c3, h3, ⟨⟨bo.1, bk_flat _ rfl, bo.2.2⟩, ro⟩, Ev.eq (fun k => spec_l33Any_eq k c) (Ev.bind e1 (Ev.bind e2 (Ev.neg q0 (Ev.pos q1 (Ev.bind e3 Ev.ret)))))⟩
  by_cases q2 : x = 2
  · obtain ⟨y, c3, h3, hy, e3⟩ := l11Any_dr c2 h2
    have hy : y.length ≤ 4 := hy
    exact ⟨(o.1, (o.2.1, (y, o.2.2.2))), c3, h3, ⟨⟨bo.1, bo.2.1, bk_te (by show y.length ≤ _; omega), bo.2.2.2⟩, ro⟩, Ev.eq (fun k => spec_l33Any_eq k c) (Ev.bind e1 (Ev.bind e2 (Ev.neg q0 (Ev.neg q1 (Ev.pos q2 (Ev.bind e3 Ev.ret))))))⟩
  by_cases q3 : x = 3
  · obtain ⟨y, c3, h3, hy, e3⟩ := l29Any_dr c2 h2
    exact ⟨(o.1, (o.2.1, (o.2.2.1, (y, o.2.2.2.2)))), c3, h3, ⟨⟨bo.1, bo.2.1, bo.2.2.1, bkP_few hy (by omega), bo.2.2.2.2⟩, ro⟩, Ev.eq (fun k => spec_l33Any_eq k c) (Ev.bind e1 (Ev.bind e2 (Ev.neg q0 (Ev.neg q1 (Ev.neg q2 (Ev.pos q3 (Ev.bind e3 Ev.ret)))))))⟩
  by_cases q4 : x = 4
  · exact ⟨(o.1, (o.2.1, (o.2.2.1, (o.2.2.2.1, ([1, 1], o.2.2.2.2.2))))), c2, h2, ⟨⟨bo.1, bo.2.1, bo.2.2.1, bo.2.2.2.1, bk_in (by simp), bo.2.2.2.2.2⟩, ro⟩, Ev.eq (fun k => spec_l33Any_eq k c) (Ev.bind e1 (Ev.bind e2 (Ev.neg q0 (Ev.neg q1 (Ev.neg q2 (Ev.neg q3 (Ev.pos q4 Ev.ret)))))))⟩
  by_cases q5 : x = 5
  · obtain ⟨y, c3, h3, hy, e3⟩ := l25Any_dr c2 h2
    have hy : y.length ≤ 9 := hy
    exact ⟨(o.1, (o.2.1, (o.2.2.1, (o.2.2.2.1, (o.2.2.2.2.1, (y, o.2.2.2.2.2.2)))))), c3, h3, ⟨⟨bo.1, bo.2.1, bo.2.2.1, bo.2.2.2.1, bo.2.2.2.2.1, bk_ma (by show y.length ≤ _; omega), bo.2.2.2.2.2.2⟩, ro⟩, Ev.eq (fun k => spec_l33Any_eq k c) (Ev.bind e1 (Ev.bind e2 (Ev.neg q0 (Ev.neg q1 (Ev.neg q2 (Ev.neg q3 (Ev.neg q4 (Ev.pos q5 (Ev.bind e3 Ev.ret)))))))))⟩
  by_cases q6 : x = 6
  · obtain ⟨y, c3, h3, hy, e3⟩ := l26Any_dr c2 h2
    have hy : y.length ≤ 6 := hy
    exact ⟨(o.1, (o.2.1, (o.2.2.1, (o.2.2.2.1, (o.2.2.2.2.1, (o.2.2.2.2.2.1, (y, o.2.2.2.2.2.2.2))))))), c3, h3, ⟨⟨bo.1, bo.2.1, bo.2.2.1, bo.2.2.2.1, bo.2.2.2.2.1, bo.2.2.2.2.2.1, bk_te (by show y.length ≤ _; omega), bo.2.2.2.2.2.2.2⟩, ro⟩, Ev.eq (fun k => spec_l33Any_eq k c) (Ev.bind e1 (Ev.bind e2 (Ev.neg q0 (Ev.neg q1 (Ev.neg q2 (Ev.neg q3 (Ev.neg q4 (Ev.neg q5 (Ev.pos q6 (Ev.bind e3 Ev.ret))))))))))⟩
  by_cases q7 : x = 7
  · obtain ⟨y, c3, h3, hy, e3⟩ := l1Int_w [0, 9999, 10000] (by simp) (fun x hx => by simp at hx; rcases hx with rfl | rfl | rfl <;> exact sm_R64 (by omega) (by omega)) c2 h2
    exact ⟨(o.1, (o.2.1, (o.2.2.1, (o.2.2.2.1, (o.2.2.2.2.1, (o.2.2.2.2.2.1, (o.2.2.2.2.2.2.1, (y, o.2.2.2.2.2.2.2.2)))))))), c3, h3, ⟨⟨bo.1, bo.2.1, bo.2.2.1, bo.2.2.2.1, bo.2.2.2.2.1, bo.2.2.2.2.2.1, bo.2.2.2.2.2.2.1, trivial, bo.2.2.2.2.2.2.2.2⟩, hy, ro.2⟩, Ev.eq (fun k => spec_l33Any_eq k c) (Ev.bind e1 (Ev.bind e2 (Ev.neg q0 (Ev.neg q1 (Ev.neg q2 (Ev.neg q3 (Ev.neg q4 (Ev.neg q5 (Ev.neg q6 (Ev.pos q7 (Ev.bind e3 Ev.ret)))))))))))⟩
  by_cases q8 : x = 8
  · obtain ⟨y, c3, h3, hy, e3⟩ := l1Int_w [(-1), 100000, 100001] (by simp) (fun x hx => by simp at hx; rcases hx with rfl | rfl | rfl <;> exact sm_R64 (by omega) (by omega)) c2 h2
    exact ⟨(o.1, (o.2.1, (o.2.2.1, (o.2.2.2.1, (o.2.2.2.2.1, (o.2.2.2.2.2.1, (o.2.2.2.2.2.2.1, (o.2.2.2.2.2.2.2.1, (y, ()))))))))), c3, h3, ⟨⟨bo.1, bo.2.1, bo.2.2.1, bo.2.2.2.1, bo.2.2.2.2.1, bo.2.2.2.2.2.1, bo.2.2.2.2.2.2.1, bo.2.2.2.2.2.2.2.1, trivial, trivial⟩, ro.1, hy⟩, Ev.eq (fun k => spec_l33Any_eq k c) (Ev.bind e1 (Ev.bind e2 (Ev.neg q0 (Ev.neg q1 (Ev.neg q2 (Ev.neg q3 (Ev.neg q4 (Ev.neg q5 (Ev.neg q6 (Ev.neg q7 (Ev.pos q8 (Ev.bind e3 Ev.ret))))))))))))⟩
  exact ⟨o, c2, h2, ⟨bo, ro⟩, Ev.eq (fun k => spec_l33Any_eq k c) (Ev.bind e1 (Ev.bind e2 (Ev.neg q0 (Ev.neg q1 (Ev.neg q2 (Ev.neg q3 (Ev.neg q4 (Ev.neg q5 (Ev.neg q6 (Ev.neg q7 (Ev.neg q8 Ev.ret)))))))))))⟩
def cntB (c : UInt8) (b : ByteArray) : Nat := b.data.toList.count c
theorem cnt_app (c : UInt8) (a b : ByteArray) : cntB c (a ++ b) = cntB c a + cntB c b := by unfold cntB; rw [bytes_app, List.count_append]
theorem digs_cnt (c : UInt8) (hc : ∀ d : Nat, d < 10 → UInt8.ofNat (48 + d) ≠ c) (u : Nat) : (Lib.decDigits u).count c = 0 := by
  induction u using Nat.strongRecOn with
  | _ u ih =>
    have one : ∀ d : Nat, d < 10 → List.count c [UInt8.ofNat (48 + d)] = 0 := fun d hd => List.count_eq_zero.2 (fun h => hc d hd (List.mem_singleton.1 h).symm)
    by_cases h : u < 10
    · rw [Lib.decDigits_one h]; exact one u h
    · rw [decDigits_step u (by omega), if_neg (by omega), List.count_append, ih (u / 10) (by omega), one _ (Nat.mod_lt _ (by omega))]
def plainC (c : UInt8) : Prop := c = 64 ∨ c = 47 ∨ c = 32
theorem plainC_dig {c : UInt8} (h : plainC c) : ∀ d : Nat, d < 10 → UInt8.ofNat (48 + d) ≠ c := by
  rcases h with rfl | rfl | rfl <;> decide
theorem itoa_cnt {c : UInt8} (h : plainC c) (n : Int) : cntB c (itoaB n) = 0 := by
  have hd := digs_cnt c (plainC_dig h)
  unfold cntB itoaB Lib.itoa
  split
  · show List.count c (45 :: Lib.decDigits n.natAbs) = 0
    rw [List.count_cons, hd]
    rcases h with rfl | rfl | rfl <;> decide
  · exact hd _
theorem let_cnt {c : UInt8} (h : plainC c) (s : Int) (hs : 0 ≤ s ∧ s ≤ 6) : cntB c (letB s) = 0 := by
  rcases seven hs.1 hs.2 with rfl | rfl | rfl | rfl | rfl | rfl | rfl <;> rcases h with rfl | rfl | rfl <;> decide +kernel
theorem note_cnt {c : UInt8} (h : plainC c) (p : Int) : cntB c (noteB p) = 0 := by
  unfold noteB
  split
  · obtain ⟨hs, _⟩ := place_facts (p % 12) (by omega) (by omega)
    rw [cnt_app, itoa_cnt h]
    split
    · rw [cnt_app, let_cnt h _ hs]
      rcases h with rfl | rfl | rfl <;> decide +kernel
    · rw [let_cnt h _ hs]
  · rcases h with rfl | rfl | rfl <;> decide +kernel
theorem event_cnt (e : DT45) : cntB 64 (eventB e) = 1 := by
  unfold eventB
  rw [cnt_app, cnt_app, cnt_app, cnt_app, cnt_app, cnt_app, note_cnt (.inl rfl), itoa_cnt (.inl rfl), itoa_cnt (.inl rfl), itoa_cnt (.inl rfl)]
  decide +kernel
theorem sign_cnt (s : DT50) : cntB 47 (signB s) = 1 := by
  unfold signB
  rw [cnt_app, cnt_app, itoa_cnt (.inr (.inl rfl))]
  split
  · rw [note_cnt (.inr (.inl rfl))]; decide +kernel
  · decide +kernel
theorem join_cnt (c : UInt8) : ∀ (n : Nat) (w : List ByteArray), w.length = n + 1 → cntB c (joinB w spB) = (w.map (cntB c)).sum + n * cntB c spB := by
  intro n
  induction n with
  | zero =>
    intro w h
    obtain ⟨y, rfl⟩ := List.length_eq_one_iff.1 h
    rw [joinB_one]
    simp
  | succ n ih =>
    intro w h
    have hne : w ≠ [] := by rintro rfl; simp at h
    obtain ⟨v, y, rfl⟩ : ∃ v y, w = v ++ [y] := ⟨w.dropLast, w.getLast hne, (List.dropLast_concat_getLast hne).symm⟩
    have hv : v.length = n + 1 := by simp at h; omega
    rw [joinB_snoc v y (by rintro rfl; simp at hv), cnt_app, cnt_app, ih v hv, List.map_append, List.sum_append, Nat.succ_mul]
    simp only [List.map_cons, List.map_nil, List.sum_cons, List.sum_nil]
    omega
theorem sum_all {α : Type} (f : α → Nat) (m : Nat) : ∀ (l : List α), (∀ x ∈ l, f x = m) → (l.map f).sum = l.length * m
  | [], _ => by simp
  | x :: l, h => by
    rw [List.map_cons, List.sum_cons, h x (by simp), sum_all f m l (fun y hy => h y (by simp [hy])), List.length_cons, Nat.succ_mul, Nat.add_comm]
theorem spaced_cnt (c : UInt8) (hs : cntB c spB = 0) (h45 : cntB c (ByteArray.mk #[45]) = 0) (w : List ByteArray) (h : ∀ x ∈ w, cntB c x = 1) : cntB c (spacedB w) = w.length := by
  unfold spacedB
  split
  · rename_i h0; rw [h45, h0]
  · obtain ⟨n, hn⟩ : ∃ n, w.length = n + 1 := ⟨w.length - 1, by omega⟩
    rw [join_cnt c n w hn, hs, sum_all (cntB c) 1 w h]
    omega
theorem score_cnt (l : List DT45) : cntB 64 (spacedB (l.map eventB)) = l.length := by
  rw [spaced_cnt 64 (by decide +kernel) (by decide +kernel) _ (fun x hx => by obtain ⟨e, _, rfl⟩ := List.mem_map.1 hx; exact event_cnt e), List.length_map]
theorem part_cnt (l : List DT50) : cntB 47 (spacedB (l.map signB)) = l.length := by
  rw [spaced_cnt 47 (by decide +kernel) (by decide +kernel) _ (fun x hx => by obtain ⟨e, _, rfl⟩ := List.mem_map.1 hx; exact sign_cnt e), List.length_map]
theorem nums_cnt (l : List Int) (n : Nat) (h : l.length = n + 1) : cntB 32 (spacedB (l.map itoaB)) = n := by
  unfold spacedB
  rw [if_neg (by rw [List.length_map]; omega), join_cnt 32 n _ (by rw [List.length_map]; exact h), sum_all (cntB 32) 0 _ (fun x hx => by obtain ⟨e, _, rfl⟩ := List.mem_map.1 hx; exact itoa_cnt (.inr (.inr rfl)) e)]
  have : cntB 32 spB = 1 := by decide +kernel
  rw [this]
  omega
theorem bt_at {s : ByteArray} {i : Nat} (h : i < s.size) : bt s (i : Int) = ((s.data.toList[i]'(by rw [← bytes_size]; exact h)).toNat : Int) := by
  have h2 : i < s.data.size := h
  unfold bt
  rw [Int.toNat_natCast, Array.getD_eq_getD_getElem?, Array.getElem?_eq_getElem h2]
  simp
theorem cnt_step {s : ByteArray} {i : Nat} (c : UInt8) (h : i < s.size) : (s.data.toList.drop i).count c = (if bt s (i : Int) = (c.toNat : Int) then 1 else 0) + (s.data.toList.drop (i + 1)).count c := by
  have h2 : i < s.data.toList.length := by rw [← bytes_size]; exact h
  rw [List.drop_eq_getElem_cons h2, List.count_cons, bt_at h, Nat.add_comm]
  congr 1
  by_cases q : s.data.toList[i] = c
  · rw [if_pos (by simpa using q), if_pos (by rw [q])]
  · rw [if_neg (by simpa using q), if_neg (fun h3 => q (UInt8.toNat_inj.1 (by omega)))]
theorem spaced_size (w : List ByteArray) (h : ∀ x ∈ w, x.size ≤ 1000) : (spacedB w).size ≤ w.length * 1001 + 1 := by
  unfold spacedB
  split
  · exact Nat.succ_le_succ (Nat.zero_le _)
  · exact Nat.le_trans (joinB_size w 1000 h) (Nat.le_succ _)
theorem drawFS_ev (code : List Int) (hc : code.length ≤ 1048576) : ∃ l : List DT45, (l.length ≤ 14 ∧ ∀ x ∈ l, R64E x) ∧ Ev (fun k => spec_DrawFormatScore k code) l := by
  obtain ⟨c, hc, e0⟩ := l1New_ev code hc
  obtain ⟨l, c1, _, hl, e1⟩ := l8Any_w c hc
  exact ⟨l, hl, Ev.eq (fun k => spec_DrawFormatScore_eq k code) (Ev.bind (Ev.eq (fun k => spec_DrawIsScore_eq k code) (Ev.bind e0 (Ev.bind e1 Ev.ret))) Ev.ret)⟩
theorem drawFP_ev (code : List Int) (hc : code.length ≤ 1048576) : ∃ l : List DT50, (l.length ≤ 2001 ∧ ∀ x ∈ l, R64S x) ∧ Ev (fun k => spec_DrawFormatPart k code) l := by
  obtain ⟨c, hc, e0⟩ := l1New_ev code hc
  obtain ⟨l, c1, _, hl, e1⟩ := l13Part_w c hc
  exact ⟨l, hl, Ev.eq (fun k => spec_DrawFormatPart_eq k code) (Ev.bind (Ev.eq (fun k => spec_DrawIsPart_eq k code) (Ev.bind e0 (Ev.bind e1 Ev.ret))) Ev.ret)⟩
theorem drawFO_ev (code : List Int) (hc : code.length ≤ 1048576) : ∃ (o : DT38), (Bk T38 o ∧ R64 o.2.2.2.2.2.2.2.1 ∧ R64 o.2.2.2.2.2.2.2.2.1) ∧ Ev (fun k => spec_DrawFormatOrchestra k code) o := by
  obtain ⟨c, hc, e0⟩ := l1New_ev code hc
  obtain ⟨o, c1, h1, ho, e1⟩ := l33Any_w c hc
  exact ⟨o, ho, Ev.eq (fun k => spec_DrawFormatOrchestra_eq k code) (Ev.bind (Ev.eq (fun k => spec_DrawIsOrchestra_eq k code) (Ev.bind e0 (Ev.bind e1 Ev.ret))) Ev.ret)⟩
theorem drawFE_ev (code : List Int) (hc : code.length ≤ 1048576) : ∃ (e : DT45), R64E e ∧ Ev (fun k => spec_DrawFormatEvent k code) e := by
  obtain ⟨c, hc, e0⟩ := l1New_ev code hc
  obtain ⟨e, c1, h1, he, e1⟩ := l8Event_w c hc
  obtain ⟨b, c2, h2, _, e2⟩ := l1Once_dr 6 c1 h1
  by_cases q : b = true
  · obtain ⟨x, c3, _, _, e3⟩ := l1Int_dr [0, 11, 12, 119, 120] (by simp) c2 h2
    exact ⟨(e.1, (e.2.1, (x, e.2.2.2))), he, Ev.eq (fun k => spec_DrawFormatEvent_eq k code) (Ev.bind e0 (Ev.bind e1 (Ev.bind e2 (Ev.pos q (Ev.bind e3 Ev.ret)))))⟩
  · exact ⟨e, he, Ev.eq (fun k => spec_DrawFormatEvent_eq k code) (Ev.bind e0 (Ev.bind e1 (Ev.bind e2 (Ev.neg q Ev.ret))))⟩
theorem tailV (code : List Int) (hc : code.length ≤ 1048576) : Ev (fun k =>
   (impl_FormatNumbers k []).bind fun r8 =>
   if r8 = (ByteArray.mk #[45]) then
   (impl_FormatChords k []).bind fun r9 =>
   if r9 = (ByteArray.mk #[45]) then
   (impl_FormatFaults k []).bind fun r10 =>
   if r10 = (ByteArray.mk #[45]) then
   (spec_DrawFormatEvent k code).bind fun r11 =>
   (impl_FormatEvent k r11).bind fun r12 =>
   some (decide (¬ (r12 = (ByteArray.mk #[]))))
   else some false
   else some false
   else some false) true := by
  obtain ⟨e, he, e1⟩ := drawFE_ev code hc
  have n1 := implNumbers_ev [] (by simp) (by simp)
  have n2 := implChords_ev [] (by simp)
  have n3 := implFaults_ev [] (by simp) (by simp)
  refine Ev.bind n1 (Ev.pos rfl (Ev.bind n2 (Ev.pos rfl (Ev.bind n3 (Ev.pos rfl (Ev.bind e1 (Ev.bind (implEvent_ev e he) (Ev.ret.val ?_))))))))
  have h1 := event_cnt e
  rw [decide_eq_true_eq]
  intro h
  rw [h] at h1
  exact absurd h1 (by decide +kernel)
theorem loop2 (code : List Int) (hc : code.length ≤ 1048576) (s t a : ByteArray) (i6 i10 : Int) (s0 : List DT45) (s1 : List DT50) (ha : a.size ≤ 1099511627776) (hcnt : cntB 32 a = 7) : ∀ (d i n : Nat), i + d = a.size → n + (a.data.toList.drop i).count 32 = 7 → E2 (fun k m => laws_FnViews.l2 k m code s ((List.length s0 : Nat) : Int) i6 t ((List.length s1 : Nat) : Int) i10 a (n : Int) (i : Int) s0 s1) true := by
  intro d
  induction d with
  | zero =>
    intro i n hi hn
    have h0 : (a.data.toList.drop i).count 32 = 0 := by rw [List.drop_eq_nil_of_le (by rw [← bytes_size]; omega)]; rfl
    exact E2.eq (fun k m => laws_FnViews.l2_eq k m code s _ i6 t _ i10 a _ _ s0 s1) (E2.neg (by omega) (E2.pos rfl (E2.pos rfl (E2.pos (by omega) (E2.of (tailV code hc))))))
  | succ d ih =>
    intro i n hi hn
    have hs := cnt_step (s := a) (i := i) 32 (by omega)
    refine E2.eq (fun k m => laws_FnViews.l2_eq k m code s _ i6 t _ i10 a _ _ s0 s1) (E2.pos (by omega) (E2.pos (by omega) (E2.pos (by omega) ?_)))
    by_cases q : bt a (i : Int) = 32
    · rw [if_pos (show bt a (i : Int) = ((32 : UInt8).toNat : Int) from q)] at hs
      refine E2.pos q ?_
      simp only [wrapS (show i < 9223372036854775807 by omega), wrapS (show n < 9223372036854775807 by omega)]
      exact ih (i + 1) (n + 1) (by omega) (by omega)
    · rw [if_neg (show ¬ bt a (i : Int) = ((32 : UInt8).toNat : Int) from q)] at hs
      refine E2.neg q ?_
      simp only [wrapS (show i < 9223372036854775807 by omega)]
      exact ih (i + 1) n (by omega) (by omega)
theorem tail2 (code : List Int) (hc : code.length ≤ 1048576) (s t : ByteArray) (i6 i10 : Int) (s0 : List DT45) (s1 : List DT50) : Ev (fun k =>
   (spec_DrawFormatOrchestra k code).bind fun r6 =>
   (impl_FormatOrchestra k r6).bind fun r7 =>
   laws_FnViews.l2 k k code s ((List.length s0 : Nat) : Int) i6 t ((List.length s1 : Nat) : Int) i10 r7 0 0 s0 s1) true := by
  obtain ⟨o, ⟨ho, r1, r2⟩, e1⟩ := drawFO_ev code hc
  have hr : ∀ x ∈ ([o.2.2.2.2.2.2.2.2.1, o.2.2.2.2.2.2.2.1, ((List.length o.1 : Nat) : Int), ((List.length o.2.2.1 : Nat) : Int), ((List.length o.2.2.2.1 : Nat) : Int), ((List.length o.2.2.2.2.1 : Nat) : Int), ((List.length o.2.2.2.2.2.1 : Nat) : Int), ((List.length o.2.2.2.2.2.2.1 : Nat) : Int)] : List Int), R64 x := by
    have v1 := ho.1.1
    have v2 := ho.2.2.1.1
    have v3 := ho.2.2.2.1.1
    have v4 := ho.2.2.2.2.1.1
    have v5 := ho.2.2.2.2.2.1.1
    have v6 := ho.2.2.2.2.2.2.1.1
    intro x hx
    simp only [List.mem_cons, List.not_mem_nil, or_false] at hx
    rcases hx with rfl | rfl | rfl | rfl | rfl | rfl | rfl | rfl
    · exact r2
    · exact r1
    all_goals exact sm_R64 (by omega) (by omega)
  have e2 : Ev (fun k => impl_FormatOrchestra k o) _ := Ev.eq (fun k => impl_FormatOrchestra_eq k o) (Ev.bind (implNumbers_ev _ (by simp) hr) Ev.ret)
  refine Ev.bind e1 (Ev.bind e2 ?_)
  have hcnt := nums_cnt [o.2.2.2.2.2.2.2.2.1, o.2.2.2.2.2.2.2.1, ((List.length o.1 : Nat) : Int), ((List.length o.2.2.1 : Nat) : Int), ((List.length o.2.2.2.1 : Nat) : Int), ((List.length o.2.2.2.2.1 : Nat) : Int), ((List.length o.2.2.2.2.2.1 : Nat) : Int), ((List.length o.2.2.2.2.2.2.1 : Nat) : Int)] 7 rfl
  have hsz := spaced_size (([o.2.2.2.2.2.2.2.2.1, o.2.2.2.2.2.2.2.1, ((List.length o.1 : Nat) : Int), ((List.length o.2.2.1 : Nat) : Int), ((List.length o.2.2.2.1 : Nat) : Int), ((List.length o.2.2.2.2.1 : Nat) : Int), ((List.length o.2.2.2.2.2.1 : Nat) : Int), ((List.length o.2.2.2.2.2.2.1 : Nat) : Int)] : List Int).map itoaB) (fun x hx => by obtain ⟨y, hy, rfl⟩ := List.mem_map.1 hx; exact Nat.le_trans (itoaB_size y (hr y hy)) (by omega))
  rw [List.length_map] at hsz
  generalize ([o.2.2.2.2.2.2.2.2.1, o.2.2.2.2.2.2.2.1, ((List.length o.1 : Nat) : Int), ((List.length o.2.2.1 : Nat) : Int), ((List.length o.2.2.2.1 : Nat) : Int), ((List.length o.2.2.2.2.1 : Nat) : Int), ((List.length o.2.2.2.2.2.1 : Nat) : Int), ((List.length o.2.2.2.2.2.2.1 : Nat) : Int)] : List Int).map itoaB = w at *
  have hl : (spacedB w).size ≤ 1099511627776 := Nat.le_trans hsz (by simp)
  exact Ev.loop (f := fun k m => laws_FnViews.l2 k m code s ((List.length s0 : Nat) : Int) i6 t ((List.length s1 : Nat) : Int) i10 (spacedB w) 0 0 s0 s1) (loop2 code hc s t (spacedB w) i6 i10 s0 s1 hl hcnt (spacedB w).size 0 0 (by omega) (by rw [Nat.zero_add]; exact hcnt))
theorem loop1 (code : List Int) (hc : code.length ≤ 1048576) (s t : ByteArray) (i6 : Int) (s0 : List DT45) (s1 : List DT50) (ht : t.size ≤ 1099511627776) : ∀ (d i n : Nat), i + d = t.size → n + (t.data.toList.drop i).count 47 = s1.length → n ≤ i → E2 (fun k m => laws_FnViews.l1 k m code s ((List.length s0 : Nat) : Int) i6 t (n : Int) (i : Int) s0 s1) true := by
  intro d
  induction d with
  | zero =>
    intro i n hi hn _
    have h0 : (t.data.toList.drop i).count 47 = 0 := by rw [List.drop_eq_nil_of_le (by rw [← bytes_size]; omega)]; rfl
    obtain rfl : n = s1.length := by omega
    exact E2.eq (fun k m => laws_FnViews.l1_eq k m code s _ i6 t _ _ s0 s1) (E2.neg (by omega) (E2.of (tail2 code hc s t i6 (i : Int) s0 s1)))
  | succ d ih =>
    intro i n hi hn hni
    have hs := cnt_step (s := t) (i := i) 47 (by omega)
    refine E2.eq (fun k m => laws_FnViews.l1_eq k m code s _ i6 t _ _ s0 s1) (E2.pos (by omega) (E2.pos (by omega) (E2.pos (by omega) ?_)))
    by_cases q : bt t (i : Int) = 47
    · rw [if_pos (show bt t (i : Int) = ((47 : UInt8).toNat : Int) from q)] at hs
      refine E2.pos q ?_
      simp only [wrapS (show i < 9223372036854775807 by omega), wrapS (show n < 9223372036854775807 by omega)]
      exact ih (i + 1) (n + 1) (by omega) (by omega) (by omega)
    · rw [if_neg (show ¬ bt t (i : Int) = ((47 : UInt8).toNat : Int) from q)] at hs
      refine E2.neg q ?_
      simp only [wrapS (show i < 9223372036854775807 by omega)]
      exact ih (i + 1) n (by omega) (by omega) (by omega)
theorem tail1 (code : List Int) (hc : code.length ≤ 1048576) (s : ByteArray) (i6 : Int) (s0 : List DT45) : Ev (fun k =>
   (spec_DrawFormatPart k code).bind fun r4 =>
   (impl_FormatPart k r4).bind fun r5 =>
   laws_FnViews.l1 k k code s ((List.length s0 : Nat) : Int) i6 r5 0 0 s0 r4) true := by
  obtain ⟨p, ⟨hp, hw⟩, e1⟩ := drawFP_ev code hc
  refine Ev.bind e1 (Ev.bind (implFPart_ev p (by omega) hw) ?_)
  have hsz := spaced_size (p.map signB) (signs_small p hw)
  rw [List.length_map] at hsz
  exact Ev.loop (f := fun k m => laws_FnViews.l1 k m code s ((List.length s0 : Nat) : Int) i6 (spacedB (p.map signB)) 0 0 s0 p) (loop1 code hc s _ i6 s0 p (by omega) (spacedB (p.map signB)).size 0 0 (by omega) (by rw [Nat.zero_add]; exact part_cnt p) (Nat.le_refl 0))
theorem loop0 (code : List Int) (hc : code.length ≤ 1048576) (s : ByteArray) (s0 : List DT45) (hs0 : s.size ≤ 1099511627776) : ∀ (d i n : Nat), i + d = s.size → n + (s.data.toList.drop i).count 64 = s0.length → n ≤ i → E2 (fun k m => laws_FnViews.l0 k m code s (n : Int) (i : Int) s0) true := by
  intro d
  induction d with
  | zero =>
    intro i n hi hn _
    have h0 : (s.data.toList.drop i).count 64 = 0 := by rw [List.drop_eq_nil_of_le (by rw [← bytes_size]; omega)]; rfl
    obtain rfl : n = s0.length := by omega
    exact E2.eq (fun k m => laws_FnViews.l0_eq k m code s _ _ s0) (E2.neg (by omega) (E2.of (tail1 code hc s (i : Int) s0)))
  | succ d ih =>
    intro i n hi hn hni
    have hs := cnt_step (s := s) (i := i) 64 (by omega)
    refine E2.eq (fun k m => laws_FnViews.l0_eq k m code s _ _ s0) (E2.pos (by omega) (E2.pos (by omega) (E2.pos (by omega) ?_)))
    by_cases q : bt s (i : Int) = 64
    · rw [if_pos (show bt s (i : Int) = ((64 : UInt8).toNat : Int) from q)] at hs
      refine E2.pos q ?_
      simp only [wrapS (show i < 9223372036854775807 by omega), wrapS (show n < 9223372036854775807 by omega)]
      exact ih (i + 1) (n + 1) (by omega) (by omega) (by omega)
    · rw [if_neg (show ¬ bt s (i : Int) = ((64 : UInt8).toNat : Int) from q)] at hs
      refine E2.neg q ?_
      simp only [wrapS (show i < 9223372036854775807 by omega)]
      exact ih (i + 1) n (by omega) (by omega) (by omega)
theorem pure (a0 : List Int) (w0 : Wd (.list (.int .u8)) a0) : ∃ k, laws_FnViews k a0 = some true := by
  refine Ev.at (f := fun k => laws_FnViews k a0) ?_
  by_cases hb : (1048576 : Int) < ((List.length a0 : Nat) : Int)
  · exact Ev.eq (fun k => laws_FnViews_eq k a0) (Ev.bind (Ev.eq (fun k => laws_big_eq k a0) Ev.ret) (Ev.pos (by simpa using hb) Ev.ret))
  have hc : a0.length ≤ 1048576 := by omega
  obtain ⟨l, ⟨hl, hw⟩, e1⟩ := drawFS_ev a0 hc
  have hsz := spaced_size (l.map eventB) (evs_small l hw)
  rw [List.length_map] at hsz
  exact Ev.eq (fun k => laws_FnViews_eq k a0) (Ev.bind (Ev.eq (fun k => laws_big_eq k a0) Ev.ret) (Ev.neg (by simpa using hb) (Ev.bind e1 (Ev.bind (implFScore_ev l (by omega) hw)
    (Ev.loop (f := fun k m => laws_FnViews.l0 k m a0 (spacedB (l.map eventB)) 0 0 l) (loop0 a0 hc _ l (by omega) (spacedB (l.map eventB)).size 0 0 (by omega) (by rw [Nat.zero_add]; exact score_cnt l) (Nat.le_refl 0)))))))
end Go.QFnViews
