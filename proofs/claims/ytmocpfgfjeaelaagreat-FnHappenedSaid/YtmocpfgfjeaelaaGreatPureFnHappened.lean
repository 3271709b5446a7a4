/- The plain half of FnHappened. No condition. -/
import Derived.Test.YtmocpfgfjeaelaaGreatHFnHappened
set_option linter.unusedVariables false
set_option linter.unusedSimpArgs false
open Go Go.Flat
namespace Go.fM
theorem bN (x lo hi : Int) : Ev (fun k => eY k x lo hi) (decide (lo <= x /\ x <= hi)) := by
  by_cases c : lo <= x
  · exact Ev.eq (fun k => Dv k x lo hi) (Ev.pos c (Ev.ret.val (by simp [c])))
  · exact Ev.eq (fun k => Dv k x lo hi) (Ev.neg c (Ev.ret.val (by simp [c])))
theorem aI (x lo hi : Int) : Ev (fun k => aT k x lo hi) (decide (lo <= x /\ x <= hi)) := by
  by_cases c : lo <= x
  · exact Ev.eq (fun k => mQ k x lo hi) (Ev.pos c (Ev.ret.val (by simp [c])))
  · exact Ev.eq (fun k => mQ k x lo hi) (Ev.neg c (Ev.ret.val (by simp [c])))
def UQ (a b : Int) : Int := (Nat.gcd a.toNat b.toNat : Int)
def UR (n : Int) : Int := (n.natAbs : Int)
def isR (n d : Int) : Bool := decide ((1 <= d /\ d <= 1000000) /\ (-1000000000 <= n /\ n <= 1000000000) /\ UQ (UR n) d = 1)
abbrev Res : Type := cu × (Bool × Unit)
def noR : Res := ((0, (0, ())), (false, ()))
def mk (n d : Int) : Res :=
  if isR (Int.tdiv n (UQ (UR n) d)) (Int.tdiv d (UQ (UR n) d)) = true then ((Int.tdiv n (UQ (UR n) d), (Int.tdiv d (UQ (UR n) d), ())), (true, ())) else noR
theorem rT (x : Int) : Ev (fun k => cmp_isNaN_int k x) false := Ev.eq (fun k => rR k x) (Ev.ret.val (by simp))
def zh (x y : Int) : Int := if x < y then -1 else if y < x then 1 else 0
theorem uj (x y : Int) : Ev (fun k => cmp_Compare_int k x y) (zh x y) := by
  unfold zh
  by_cases c : x < y
  · exact Ev.eq (fun k => iK k x y) (Ev.bind (rT x) (Ev.bind (rT y) (Ev.neg (by simp) (Ev.neg (by simp) (Ev.pos c (Ev.ret.val (by rw [if_pos c])))))))
  · by_cases c2 : y < x
    · exact Ev.eq (fun k => iK k x y) (Ev.bind (rT x) (Ev.bind (rT y) (Ev.neg (by simp) (Ev.neg (by simp) (Ev.neg c (Ev.pos c2 (Ev.ret.val (by rw [if_neg c, if_pos c2]))))))))
    · exact Ev.eq (fun k => iK k x y) (Ev.bind (rT x) (Ev.bind (rT y) (Ev.neg (by simp) (Ev.neg (by simp) (Ev.neg c (Ev.neg c2 (Ev.ret.val (by rw [if_neg c, if_neg c2]))))))))
theorem Ab {f : Nat -> Option Bool} {p : Prop} [d : Decidable p] (h : ∃ r, Ev f r /\ (r = true ↔ p)) : Ev f (decide p) := by
  obtain ⟨r, e, hr⟩ := h
  exact e.val (by rw [Bool.eq_iff_iff, hr]; simp)
theorem vB {F : Int -> Nat -> Nat -> Option Bool} {n : Nat} (Q : Nat -> Prop) (c : Bool) (hend : E2 (F (n : Int)) c)
    (hgo : ∀ i, i < n -> Q i -> ∀ v, E2 (F ((i + 1 : Nat) : Int)) v -> E2 (F (i : Int)) v) (hstop : ∀ i, i < n -> ¬ Q i -> E2 (F (i : Int)) false) :
    ∃ r, E2 (F 0) r /\ (r = true ↔ (∀ i, i < n -> Q i) /\ c = true) := by
  have key : ∀ d i, i + d = n -> ∃ r, E2 (F (i : Int)) r /\ (r = true ↔ (∀ j, i <= j -> j < n -> Q j) /\ c = true) := by
    intro d
    induction d with
    | zero =>
      intro i hi
      have hi : i = n := by omega
      subst hi
      exact ⟨c, hend, ⟨fun h => ⟨fun j _ _ => by omega, h⟩, fun h => h.2⟩⟩
    | succ d ih =>
      intro i hi
      obtain ⟨r, er, hr⟩ := ih (i + 1) (by omega)
      by_cases hq : Q i
      · refine ⟨r, hgo i (by omega) hq r er, hr.trans ⟨fun h => ⟨fun j h1 h2 => ?_, h.2⟩, fun h => ⟨fun j h1 h2 => h.1 j (by omega) h2, h.2⟩⟩⟩
        by_cases hj : j = i
        · subst hj; exact hq
        · exact h.1 j (by omega) h2
      · exact ⟨false, hstop i (by omega) hq, by simp only [Bool.false_eq_true, false_iff]; exact fun h => hq (h.1 i (Nat.le_refl _) (by omega))⟩
  obtain ⟨r, er, hr⟩ := key n 0 (by omega)
  exact ⟨r, er, hr.trans ⟨fun h => ⟨fun i hi => h.1 i (Nat.zero_le _) hi, h.2⟩, fun h => ⟨fun i _ hi => h.1 i hi, h.2⟩⟩⟩
theorem jE {i : Nat} (h : 0 < i) (h2 : i < 9223372036854775807) : IntKind.wrap .i64 ((i : Int) - 1) = ((i - 1 : Nat) : Int) := by
  rw [jD (by omega) (by omega)]; omega
def Vy (e : aF) : Prop := (0 <= (e.1 : Int) /\ (e.1 : Int) <= 2000) /\ (1 <= (e.2.1 : Int) /\ (e.2.1 : Int) <= 96) /\ (21 <= (e.2.2.1 : Int) /\ (e.2.2.1 : Int) <= 108) /\ 1 <= (e.2.2.2.1 : Int) /\ (e.2.2.2.1 : Int) <= 4
instance (e : aF) : Decidable (Vy e) := by unfold Vy; infer_instance
theorem Rl (e : aF) : Ev (fun k => En k e) (decide (Vy e)) := by
  refine Ev.eq (fun k => Mw k e) (Ev.bind (bN _ _ _) ?_)
  unfold Vy
  by_cases c1 : 0 <= (e.1 : Int) /\ (e.1 : Int) <= 2000
  · refine Ev.pos (by simp [c1]) (Ev.bind (bN _ _ _) ?_)
    by_cases c2 : 1 <= (e.2.1 : Int) /\ (e.2.1 : Int) <= 96
    · refine Ev.pos (by simp [c2]) (Ev.bind (bN _ _ _) ?_)
      by_cases c3 : 21 <= (e.2.2.1 : Int) /\ (e.2.2.1 : Int) <= 108
      · exact Ev.pos (by simp [c3]) (Ev.bind (bN _ _ _) (Ev.ret.val (by simp only [c1, c2, c3, true_and, and_self, decide_eq_true_eq])))
      · exact Ev.neg (by simpa using c3) (Ev.ret.val (by simp only [c3, false_and, and_false, decide_false]))
    · exact Ev.neg (by simpa using c2) (Ev.ret.val (by simp only [c2, false_and, and_false, decide_false]))
  · exact Ev.neg (by simpa using c1) (Ev.ret.val (by simp only [c1, false_and, decide_false]))
def Ac (a b : aF) : Prop := (a.1 : Int) < b.1 \/ (a.1 : Int) = b.1 /\ ((a.2.2.2.1 : Int) < b.2.2.2.1 \/ (a.2.2.2.1 : Int) = b.2.2.2.1 /\ (a.2.2.1 : Int) < b.2.2.1)
instance (a b : aF) : Decidable (Ac a b) := by unfold Ac; infer_instance
theorem AJ (a b : aF) : Ev (fun k => sV k a b) (decide (Ac a b)) := by
  refine Ev.eq (fun k => ED k a b) ?_
  unfold Ac
  by_cases c1 : (a.1 : Int) = b.1
  · refine Ev.neg (by omega) ?_
    by_cases c2 : (a.2.2.2.1 : Int) = b.2.2.2.1
    · exact Ev.neg (by omega) (Ev.ret.val (by congr 1; exact propext ⟨fun h => .inr ⟨c1, .inr ⟨c2, h⟩⟩, fun h => by omega⟩))
    · exact Ev.pos (by omega) (Ev.ret.val (by congr 1; exact propext ⟨fun h => .inr ⟨c1, .inl h⟩, fun h => by omega⟩))
  · exact Ev.pos (by omega) (Ev.ret.val (by congr 1; exact propext ⟨fun h => .inl h, fun h => by omega⟩))
def Mj (x y : Int) : Int := if x ≠ 0 then x else y
theorem Rj (x y z : Int) : Ev (fun k => bP k [x, y, z]) (Mj x (Mj y z)) := by
  refine Ev.eq (fun k => sN k _) (Ev.loop (f := fun k m => bP.l0 k m 0 [x, y, z] ((List.length [x, y, z] : Nat) : Int) 0) ?_)
  have w0 : IntKind.wrap .i64 ((0 : Int) + 1) = 1 := jD (by omega) (by omega)
  have w1 : IntKind.wrap .i64 ((1 : Int) + 1) = 2 := jD (by omega) (by omega)
  have w2 : IntKind.wrap .i64 ((2 : Int) + 1) = 3 := jD (by omega) (by omega)
  have r0 : rd (.int .i64) [x, y, z] 0 = x := rfl
  have r1 : rd (.int .i64) [x, y, z] 1 = y := rfl
  have r2 : rd (.int .i64) [x, y, z] 2 = z := rfl
  have hl : ((List.length [x, y, z] : Nat) : Int) = 3 := rfl
  unfold Mj
  refine E2.eq (fun k m => bP.aA k m 0 [x, y, z] _ 0) (E2.pos (by rw [hl]; omega) (E2.pos (by omega) (E2.pos (by rw [hl]; omega) ?_)))
  simp only [r0, w0]
  by_cases c0 : x = 0
  · refine E2.neg (fun h => h c0) ?_
    rw [if_neg (show ¬ x ≠ 0 by omega)]
    refine E2.eq (fun k m => bP.aA k m 0 [x, y, z] _ 1) (E2.pos (by rw [hl]; omega) (E2.pos (by omega) (E2.pos (by rw [hl]; omega) ?_)))
    simp only [r1, w1]
    by_cases c1 : y = 0
    · refine E2.neg (fun h => h c1) ?_
      rw [if_neg (show ¬ y ≠ 0 by omega)]
      refine E2.eq (fun k m => bP.aA k m 0 [x, y, z] _ 2) (E2.pos (by rw [hl]; omega) (E2.pos (by omega) (E2.pos (by rw [hl]; omega) ?_)))
      simp only [r2, w2]
      by_cases c2 : z = 0
      · exact E2.neg (fun h => h c2) (E2.eq (fun k m => bP.aA k m 0 [x, y, z] _ 3) (E2.neg (by rw [hl]; omega) (E2.ret.val c2.symm)))
      · exact E2.pos c2 E2.ret
    · rw [if_pos c1]; exact E2.pos c1 E2.ret
  · rw [if_pos c0]; exact E2.pos c0 E2.ret
def Qo (a b : aF) : Int := Mj (zh a.1 b.1) (Mj (zh a.2.2.2.1 b.2.2.2.1) (zh a.2.2.1 b.2.2.1))
theorem xS (a b : aF) : Ev (fun k => iZ k a b) (Qo a b) :=
  Ev.eq (fun k => qg k a b) (Ev.bind (uj _ _) (Ev.bind (uj _ _) (Ev.bind (uj _ _) (Ev.bind (Rj _ _ _) Ev.ret))))
theorem Az (a b : aF) : Qo a b < 0 ↔ Ac a b := by
  unfold Qo Mj zh Ac
  repeat' split
  all_goals omega
def QS (l : List aF) (i : Nat) : Prop := Vy (rd bL l (i : Int)) /\ (0 < i -> Ac (rd bL l ((i - 1 : Nat) : Int)) (rd bL l (i : Int)))
instance (l : List aF) (i : Nat) : Decidable (QS l i) := by unfold QS; infer_instance
def eF (l : List aF) : Prop := (∀ i, i < l.length -> QS l i) /\ decide (((l.length : Nat) : Int) <= 40) = true
instance (l : List aF) : Decidable (eF l) := by unfold eF; infer_instance
theorem Bz (l : List aF) (hl : l.length <= 33554432) : Ev (fun k => dM k l) (decide (eF l)) := by
  refine Ab ?_
  obtain ⟨r, er, hr⟩ := vB (F := fun i k m => dM.l0 k m l i) (n := l.length) (QS l) (decide (((l.length : Nat) : Int) <= 40)) (E2.eq (fun k m => dM.aA k m l _) (E2.neg (by omega) E2.ret)) (fun i hi hq v e => by
    refine E2.eq (fun k m => dM.aA k m l _) (E2.pos (by omega) (E2.pos (by omega) (E2.pos (by omega) (E2.bind (Rl _) (E2.neg (by simpa using hq.1) ?_)))))
    by_cases c : 0 < i
    · refine E2.pos (by omega) ?_
      simp only [jE c (show i < 9223372036854775807 by omega), cO (show i < 9223372036854775807 by omega)]
      exact E2.pos (by omega) (E2.pos (by omega) (E2.pos (by omega) (E2.pos (by omega) (E2.bind (AJ _ _) (E2.neg (by simpa using hq.2 c) e)))))
    · refine E2.neg (by omega) ?_
      simp only [cO (show i < 9223372036854775807 by omega)]
      exact e) (fun i hi hq => by
    refine E2.eq (fun k m => dM.aA k m l _) (E2.pos (by omega) (E2.pos (by omega) (E2.pos (by omega) (E2.bind (Rl _) ?_))))
    by_cases c0 : Vy (rd bL l (i : Int))
    · refine E2.neg (by simpa using c0) ?_
      have c : 0 < i := by
        rcases Nat.eq_zero_or_pos i with h | h
        · exact absurd ⟨c0, fun h' => by omega⟩ hq
        · exact h
      have c1 : ¬ Ac (rd bL l ((i - 1 : Nat) : Int)) (rd bL l (i : Int)) := fun h => hq ⟨c0, fun _ => h⟩
      refine E2.pos (by omega) ?_
      simp only [jE c (show i < 9223372036854775807 by omega)]
      exact E2.pos (by omega) (E2.pos (by omega) (E2.pos (by omega) (E2.pos (by omega) (E2.bind (AJ _ _) (E2.pos (by simpa using c1) E2.ret)))))
    · exact E2.pos (by simpa using c0) E2.ret)
  exact ⟨r, Ev.eq (fun k => FM k l) (Ev.loop (f := fun k m => dM.l0 k m l 0) er), hr⟩
theorem dw (l : List aF) (hl : l.length <= 1048576) : Ev (fun k => dM k l) (decide (eF l)) := Bz l (by omega)
theorem sO (l : List aF) (hl : l.length <= 33554432) : Ev (fun k => aO k l) (decide (eF l)) := by
  refine Ab ?_
  obtain ⟨r, er, hr⟩ := vB (F := fun i k m => aO.l0 k m l l ((List.length l : Nat) : Int) i) (n := l.length) (QS l) (decide (((l.length : Nat) : Int) <= 40)) (E2.eq (fun k m => aO.aA k m l l _ _) (E2.neg (by omega) E2.ret)) (fun i hi hq v e => by
    obtain ⟨⟨h1, h2, h3, h4⟩, h5⟩ := hq
    refine E2.eq (fun k m => aO.aA k m l l _ _) (E2.pos (by omega) (E2.pos (by omega) (E2.pos (by omega) (E2.bind (aI _ _ _) (E2.neg (by simpa using h1) (E2.bind (aI _ _ _) (E2.neg (by simpa using h2) (E2.bind (aI _ _ _) (E2.neg (by simpa using h3) (E2.bind (aI _ _ _) (E2.neg (by simpa using h4) ?_)))))))))))
    by_cases c : 0 < i
    · refine E2.pos (by omega) ?_
      simp only [jE c (show i < 9223372036854775807 by omega), cO (show i < 9223372036854775807 by omega)]
      have := (Az _ _).2 (h5 c)
      exact E2.pos (by omega) (E2.pos (by omega) (E2.bind (xS _ _) (E2.neg (by omega) e)))
    · refine E2.neg (by omega) ?_
      simp only [cO (show i < 9223372036854775807 by omega)]
      exact e) (fun i hi hq => by
    refine E2.eq (fun k m => aO.aA k m l l _ _) (E2.pos (by omega) (E2.pos (by omega) (E2.pos (by omega) (E2.bind (aI _ _ _) ?_))))
    by_cases h1 : 0 <= ((rd bL l (i : Int)).1 : Int) /\ ((rd bL l (i : Int)).1 : Int) <= 2000
    · refine E2.neg (by simpa using h1) (E2.bind (aI _ _ _) ?_)
      by_cases h2 : 1 <= ((rd bL l (i : Int)).2.1 : Int) /\ ((rd bL l (i : Int)).2.1 : Int) <= 96
      · refine E2.neg (by simpa using h2) (E2.bind (aI _ _ _) ?_)
        by_cases h3 : 21 <= ((rd bL l (i : Int)).2.2.1 : Int) /\ ((rd bL l (i : Int)).2.2.1 : Int) <= 108
        · refine E2.neg (by simpa using h3) (E2.bind (aI _ _ _) ?_)
          by_cases h4 : 1 <= ((rd bL l (i : Int)).2.2.2.1 : Int) /\ ((rd bL l (i : Int)).2.2.2.1 : Int) <= 4
          · refine E2.neg (by simpa using h4) ?_
            have c : 0 < i := by
              rcases Nat.eq_zero_or_pos i with h | h
              · exact absurd ⟨⟨h1, h2, h3, h4⟩, fun h' => by omega⟩ hq
              · exact h
            have c1 : ¬ Ac (rd bL l ((i - 1 : Nat) : Int)) (rd bL l (i : Int)) := fun h => hq ⟨⟨h1, h2, h3, h4⟩, fun _ => h⟩
            refine E2.pos (by omega) ?_
            simp only [jE c (show i < 9223372036854775807 by omega)]
            have := mt (Az _ _).1 c1
            exact E2.pos (by omega) (E2.pos (by omega) (E2.bind (xS _ _) (E2.pos (by omega) E2.ret)))
          · exact E2.pos (by simpa using h4) E2.ret
        · exact E2.pos (by simpa using h3) E2.ret
      · exact E2.pos (by simpa using h2) E2.ret
    · exact E2.pos (by simpa using h1) E2.ret)
  exact ⟨r, Ev.eq (fun k => ug k l) (Ev.loop (f := fun k m => aO.l0 k m l l ((List.length l : Nat) : Int) 0) er), hr⟩
theorem dD (l : List aF) (hl : l.length <= 1048576) : Ev (fun k => aO k l) (decide (eF l)) := sO l (by omega)
def okT (t : cu) : Prop := (20 <= (t.2.1 : Int) /\ (t.2.1 : Int) <= 300) /\ (0 <= (t.1 : Int) /\ (t.1 : Int) <= 2000)
instance (e : cu) : Decidable (okT e) := by unfold okT; infer_instance
def QT (l : List cu) (i : Nat) : Prop := okT (rd dV l (i : Int)) /\ (i = 0 -> Eq (α := Int) (rd dV l (i : Int)).1 0) /\ (0 < i -> LT.lt (α := Int) (rd dV l ((i - 1 : Nat) : Int)).1 (rd dV l (i : Int)).1)
instance (l : List cu) (i : Nat) : Decidable (QT l i) := by unfold QT; infer_instance
def Ah (l : List cu) : Prop := (∀ i, i < l.length -> QT l i) /\ decide (1 <= ((l.length : Nat) : Int) /\ ((l.length : Nat) : Int) <= 8) = true
instance (l : List cu) : Decidable (Ah l) := by unfold Ah; infer_instance
theorem gW (l : List cu) (hl : l.length <= 2097152) : Ev (fun k => fE k l) (decide (Ah l)) := by
  refine Ab ?_
  obtain ⟨r, er, hr⟩ := vB (F := fun i k m => fE.l0 k m l i) (n := l.length) (QT l) (decide (1 <= ((l.length : Nat) : Int) /\ ((l.length : Nat) : Int) <= 8)) (E2.eq (fun k m => fE.aA k m l _) (E2.neg (by omega) (E2.bind (bN _ _ _) (E2.ret.val (by simp))))) (fun i hi hq v e => by
    obtain ⟨⟨h1, h2⟩, h3, h4⟩ := hq
    refine E2.eq (fun k m => fE.aA k m l _) (E2.pos (by omega) (E2.pos (by omega) (E2.pos (by omega) (E2.bind (bN _ _ _) (E2.neg (by simpa using h1) (E2.pos (by omega) (E2.pos (by omega) (E2.bind (bN _ _ _) (E2.neg (by simpa using h2) ?_)))))))))
    simp only [cO (show i < 9223372036854775807 by omega)]
    by_cases c : 0 < i
    · refine E2.neg (by omega) (E2.pos (by omega) ?_)
      simp only [jE c (show i < 9223372036854775807 by omega)]
      have := h4 c
      exact E2.pos (by omega) (E2.pos (by omega) (E2.pos (by omega) (E2.pos (by omega) (E2.neg (by omega) e))))
    · refine E2.pos (by omega) (E2.pos (by omega) (E2.pos (by omega) (E2.neg (fun h => h (h3 (by omega))) (E2.neg (by omega) e))))) (fun i hi hq => by
    refine E2.eq (fun k m => fE.aA k m l _) (E2.pos (by omega) (E2.pos (by omega) (E2.pos (by omega) (E2.bind (bN _ _ _) ?_))))
    by_cases h1 : LE.le (α := Int) 20 (rd dV l (i : Int)).2.1 /\ LE.le (α := Int) (rd dV l (i : Int)).2.1 300
    · refine E2.neg (by simpa using h1) (E2.pos (by omega) (E2.pos (by omega) (E2.bind (bN _ _ _) ?_)))
      by_cases h2 : LE.le (α := Int) 0 (rd dV l (i : Int)).1 /\ LE.le (α := Int) (rd dV l (i : Int)).1 2000
      · refine E2.neg (by simpa using h2) ?_
        by_cases c : 0 < i
        · refine E2.neg (by omega) (E2.pos (by omega) ?_)
          simp only [jE c (show i < 9223372036854775807 by omega)]
          have h4 : ¬ LT.lt (α := Int) (rd dV l ((i - 1 : Nat) : Int)).1 (rd dV l (i : Int)).1 := fun h => hq ⟨⟨h1, h2⟩, fun h' => by omega, fun _ => h⟩
          exact E2.pos (by omega) (E2.pos (by omega) (E2.pos (by omega) (E2.pos (by omega) (E2.pos (by omega) E2.ret))))
        · have h3 : ¬ Eq (α := Int) (rd dV l (i : Int)).1 0 := fun h => hq ⟨⟨h1, h2⟩, fun _ => h, fun h' => absurd h' c⟩
          exact E2.pos (by omega) (E2.pos (by omega) (E2.pos (by omega) (E2.pos h3 E2.ret)))
      · exact E2.pos (by simpa using h2) E2.ret
    · exact E2.pos (by simpa using h1) E2.ret)
  exact ⟨r, Ev.eq (fun k => FN k l) (Ev.loop (f := fun k m => fE.l0 k m l 0) er), hr⟩
def QT' (l : List cu) (i : Nat) : Prop := (i = 0 -> Eq (α := Int) (rd dV l (i : Int)).1 0) /\ (0 < i -> LT.lt (α := Int) (rd dV l ((i - 1 : Nat) : Int)).1 (rd dV l (i : Int)).1) /\ LE.le (α := Int) (rd dV l (i : Int)).1 2000 /\ (LE.le (α := Int) 20 (rd dV l (i : Int)).2.1 /\ LE.le (α := Int) (rd dV l (i : Int)).2.1 300)
theorem XN (l : List cu) : (∀ i, i < l.length -> QT' l i) ↔ (∀ i, i < l.length -> QT l i) := by
  constructor
  · intro h
    have hp : ∀ i, i < l.length -> LE.le (α := Int) 0 (rd dV l (i : Int)).1 := by
      intro i
      induction i with
      | zero => intro hi; have := (h 0 hi).1 rfl; omega
      | succ i ih =>
        intro hi
        have h1 := ih (by omega)
        have h2 := (h (i + 1) hi).2.1 (by omega)
        simp only [Nat.add_sub_cancel] at h2
        omega
    intro i hi
    obtain ⟨h1, h2, h3, h4⟩ := h i hi
    exact ⟨⟨h4, hp i hi, h3⟩, h1, h2⟩
  · intro h i hi
    obtain ⟨⟨h1, h2, h3⟩, h4, h5⟩ := h i hi
    exact ⟨h4, h5, h3, h1⟩
theorem lF (l : List cu) (hl : l.length <= 2097152) : Ev (fun k => fD k l) (decide (Ah l)) := by
  refine Ab ?_
  obtain ⟨r, er, hr⟩ := vB (F := fun i k m => fD.l0 k m l l ((List.length l : Nat) : Int) i) (n := l.length) (QT' l) (decide (1 <= ((l.length : Nat) : Int) /\ ((l.length : Nat) : Int) <= 8)) (E2.eq (fun k m => fD.aA k m l l _ _) (E2.neg (by omega) (E2.bind (aI _ _ _) (E2.ret.val (by simp))))) (fun i hi hq v e => by
    obtain ⟨h3, h4, h5, h6⟩ := hq
    refine E2.eq (fun k m => fD.aA k m l l _ _) (E2.pos (by omega) (E2.pos (by omega) (E2.pos (by omega) ?_)))
    simp only [cO (show i < 9223372036854775807 by omega)]
    by_cases c : 0 < i
    · refine E2.neg (by omega) (E2.pos (by omega) ?_)
      simp only [jE c (show i < 9223372036854775807 by omega)]
      have := h4 c
      exact E2.pos (by omega) (E2.pos (by omega) (E2.neg (by omega) (E2.neg (by omega) (E2.bind (aI _ _ _) (E2.neg (by simpa using h6) e)))))
    · exact E2.pos (by omega) (E2.neg (fun h => h (h3 (by omega))) (E2.neg (by omega) (E2.neg (by omega) (E2.bind (aI _ _ _) (E2.neg (by simpa using h6) e)))))) (fun i hi hq => by
    refine E2.eq (fun k m => fD.aA k m l l _ _) (E2.pos (by omega) (E2.pos (by omega) (E2.pos (by omega) ?_)))
    by_cases c : 0 < i
    · refine E2.neg (by omega) (E2.pos (by omega) ?_)
      simp only [jE c (show i < 9223372036854775807 by omega)]
      refine E2.pos (by omega) (E2.pos (by omega) ?_)
      by_cases h4 : LT.lt (α := Int) (rd dV l ((i - 1 : Nat) : Int)).1 (rd dV l (i : Int)).1
      · refine E2.neg (by omega) ?_
        by_cases h5 : LE.le (α := Int) (rd dV l (i : Int)).1 2000
        · exact E2.neg (by omega) (E2.bind (aI _ _ _) (E2.pos (by simp only [decide_eq_true_eq]; exact fun h6 => hq ⟨fun h => by omega, fun _ => h4, h5, h6⟩) E2.ret))
        · exact E2.pos (by omega) E2.ret
      · exact E2.pos (by omega) E2.ret
    · refine E2.pos (by omega) ?_
      by_cases h3 : Eq (α := Int) (rd dV l (i : Int)).1 0
      · refine E2.neg (fun h => h h3) (E2.neg (by omega) (E2.neg (by omega) (E2.bind (aI _ _ _) (E2.pos (by simp only [decide_eq_true_eq]; exact fun h6 => hq ⟨fun _ => h3, fun h => absurd h c, by omega, h6⟩) E2.ret))))
      · exact E2.pos h3 E2.ret)
  exact ⟨r, Ev.eq (fun k => Fz k l) (Ev.loop (f := fun k m => fD.l0 k m l l ((List.length l : Nat) : Int) 0) er), hr.trans (and_congr (XN l) Iff.rfl)⟩
theorem Mx (m : cu) : ∃ r, Ev (fun k => uU k m) r /\ Ev (fun k => uS k m) r := by
  by_cases c1 : 1 <= (m.1 : Int) /\ (m.1 : Int) <= 12
  · by_cases d1 : (m.2.1 : Int) = 1
    · exact ⟨true, Ev.eq (fun k => gV k m) (Ev.bind (bN _ _ _) (Ev.pos (by simpa using c1) (Ev.pos d1 Ev.ret))), Ev.eq (fun k => kI k m) (Ev.bind (aI _ _ _) (Ev.pos (by simpa using c1) (Ev.pos d1 Ev.ret)))⟩
    · by_cases d2 : (m.2.1 : Int) = 2
      · exact ⟨true, Ev.eq (fun k => gV k m) (Ev.bind (bN _ _ _) (Ev.pos (by simpa using c1) (Ev.neg d1 (Ev.pos d2 Ev.ret)))), Ev.eq (fun k => kI k m) (Ev.bind (aI _ _ _) (Ev.pos (by simpa using c1) (Ev.neg d1 (Ev.pos d2 Ev.ret))))⟩
      · by_cases d3 : (m.2.1 : Int) = 4
        · exact ⟨true, Ev.eq (fun k => gV k m) (Ev.bind (bN _ _ _) (Ev.pos (by simpa using c1) (Ev.neg d1 (Ev.neg d2 (Ev.pos d3 Ev.ret))))), Ev.eq (fun k => kI k m) (Ev.bind (aI _ _ _) (Ev.pos (by simpa using c1) (Ev.neg d1 (Ev.neg d2 (Ev.pos d3 Ev.ret)))))⟩
        · exact ⟨_, Ev.eq (fun k => gV k m) (Ev.bind (bN _ _ _) (Ev.pos (by simpa using c1) (Ev.neg d1 (Ev.neg d2 (Ev.neg d3 Ev.ret))))), Ev.eq (fun k => kI k m) (Ev.bind (aI _ _ _) (Ev.pos (by simpa using c1) (Ev.neg d1 (Ev.neg d2 (Ev.neg d3 Ev.ret)))))⟩
  · exact ⟨false, Ev.eq (fun k => gV k m) (Ev.bind (bN _ _ _) (Ev.neg (by simpa using c1) Ev.ret)), Ev.eq (fun k => kI k m) (Ev.bind (aI _ _ _) (Ev.neg (by simpa using c1) Ev.ret))⟩
def vg (a b : bf) : Prop := (a.1 : Int) < b.1 \/ (a.1 : Int) = b.1 /\ (a.2.1 : Int) < b.2.1
instance (a b : bf) : Decidable (vg a b) := by unfold vg; infer_instance
theorem yN (a b : bf) : Ev (fun k => qW k a b) (decide (vg a b)) := by
  refine Ev.eq (fun k => Dx k a b) ?_
  unfold vg
  by_cases c1 : (a.1 : Int) < b.1
  · exact Ev.pos c1 (Ev.ret.val (by simp [c1]))
  · refine Ev.neg c1 ?_
    by_cases c2 : (a.1 : Int) = b.1
    · exact Ev.pos c2 (Ev.ret.val (by congr 1; exact propext ⟨fun h => .inr ⟨c2, h⟩, fun h => by omega⟩))
    · exact Ev.neg c2 (Ev.ret.val (by simp [c1, c2]))
theorem XO (x y : Int) : Ev (fun k => bP k [x, y]) (Mj x y) := by
  refine Ev.eq (fun k => sN k _) (Ev.loop (f := fun k m => bP.l0 k m 0 [x, y] ((List.length [x, y] : Nat) : Int) 0) ?_)
  have w0 : IntKind.wrap .i64 ((0 : Int) + 1) = 1 := jD (by omega) (by omega)
  have w1 : IntKind.wrap .i64 ((1 : Int) + 1) = 2 := jD (by omega) (by omega)
  have r0 : rd (.int .i64) [x, y] 0 = x := rfl
  have r1 : rd (.int .i64) [x, y] 1 = y := rfl
  have hl : ((List.length [x, y] : Nat) : Int) = 2 := rfl
  unfold Mj
  refine E2.eq (fun k m => bP.aA k m 0 [x, y] _ 0) (E2.pos (by rw [hl]; omega) (E2.pos (by omega) (E2.pos (by rw [hl]; omega) ?_)))
  simp only [r0, w0]
  by_cases c0 : x = 0
  · refine E2.neg (fun h => h c0) ?_
    rw [if_neg (show ¬ x ≠ 0 by omega)]
    refine E2.eq (fun k m => bP.aA k m 0 [x, y] _ 1) (E2.pos (by rw [hl]; omega) (E2.pos (by omega) (E2.pos (by rw [hl]; omega) ?_)))
    simp only [r1, w1]
    by_cases c1 : y = 0
    · exact E2.neg (fun h => h c1) (E2.eq (fun k m => bP.aA k m 0 [x, y] _ 2) (E2.neg (by rw [hl]; omega) (E2.ret.val c1.symm)))
    · exact E2.pos c1 E2.ret
  · rw [if_pos c0]; exact E2.pos c0 E2.ret
def UU (a b : bf) : Int := Mj (zh a.1 b.1) (zh a.2.1 b.2.1)
theorem AL (a b : bf) : Ev (fun k => nS k a b) (UU a b) :=
  Ev.eq (fun k => Dt k a b) (Ev.bind (uj _ _) (Ev.bind (uj _ _) (Ev.bind (XO _ _) Ev.ret)))
theorem Gt (a b : bf) : UU a b < 0 ↔ vg a b := by
  unfold UU Mj zh vg
  repeat' split
  all_goals omega
def okM (e : bf) : Prop := (1 <= (e.1 : Int) /\ (e.1 : Int) <= 100) /\ (1 <= (e.2.1 : Int) /\ (e.2.1 : Int) <= 4) /\ (0 <= (e.2.2.1 : Int) /\ (e.2.2.1 : Int) <= 9) /\ (0 <= (e.2.2.2.1 : Int) /\ (e.2.2.2.1 : Int) <= 100000) /\ (1 <= (e.2.2.2.2.1 : Int) /\ (e.2.2.2.2.1 : Int) <= 99)
def QM (l : List bf) (i : Nat) : Prop := okM (rd eP l (i : Int)) /\ (0 < i -> vg (rd eP l ((i - 1 : Nat) : Int)) (rd eP l (i : Int)))
def MB (l : List bf) : Prop := (∀ i, i < l.length -> QM l i) /\ decide (((l.length : Nat) : Int) <= 30) = true
theorem notM (l : List bf) (i : Nat) (h : ¬ QM l i) (h1 : okM (rd eP l (i : Int))) : 0 < i /\ ¬ vg (rd eP l ((i - 1 : Nat) : Int)) (rd eP l (i : Int)) := by
  refine ⟨?_, fun c => h ⟨h1, fun _ => c⟩⟩
  rcases Nat.eq_zero_or_pos i with hi | hi
  · exact absurd ⟨h1, fun h' => by omega⟩ h
  · exact hi
theorem xw (l : List bf) (hl : l.length <= 2097152) : ∃ r, Ev (fun k => dY k l) r /\ (r = true ↔ MB l) := by
  obtain ⟨r, er, hr⟩ := gG (R := fun i v => E2 (fun k m => dY.l0 k m l i) v) (n := l.length) (QM l) (decide (((l.length : Nat) : Int) <= 30)) (E2.eq (fun k m => dY.aA k m l _) (E2.neg (by omega) E2.ret)) (fun i hi hq v e => by
    obtain ⟨⟨h1, h2, h3, h4, h5⟩, h6⟩ := hq
    refine E2.eq (fun k m => dY.aA k m l _) (E2.pos (by omega) (E2.pos (by omega) (E2.pos (by omega) (E2.bind (bN _ _ _) (E2.neg (by simpa using h1) (E2.bind (bN _ _ _) (E2.neg (by simpa using h2) (E2.bind (bN _ _ _) (E2.neg (by simpa using h3) (E2.bind (bN _ _ _) (E2.neg (by simpa using h4) (E2.bind (bN _ _ _) (E2.neg (by simpa using h5) ?_)))))))))))))
    simp only [cO (show i < 9223372036854775807 by omega)]
    by_cases c : 0 < i
    · refine E2.pos (by omega) ?_
      simp only [jE c (show i < 9223372036854775807 by omega)]
      exact E2.pos (by omega) (E2.pos (by omega) (E2.bind (yN _ _) (E2.neg (by simpa using h6 c) e)))
    · exact E2.neg (by omega) e) (fun i hi hq => by
    refine E2.eq (fun k m => dY.aA k m l _) (E2.pos (by omega) (E2.pos (by omega) (E2.pos (by omega) (E2.bind (bN _ _ _) ?_))))
    by_cases h1 : 1 <= ((rd eP l (i : Int)).1 : Int) /\ ((rd eP l (i : Int)).1 : Int) <= 100
    · refine E2.neg (by simpa using h1) (E2.bind (bN _ _ _) ?_)
      by_cases h2 : 1 <= ((rd eP l (i : Int)).2.1 : Int) /\ ((rd eP l (i : Int)).2.1 : Int) <= 4
      · refine E2.neg (by simpa using h2) (E2.bind (bN _ _ _) ?_)
        by_cases h3 : 0 <= ((rd eP l (i : Int)).2.2.1 : Int) /\ ((rd eP l (i : Int)).2.2.1 : Int) <= 9
        · refine E2.neg (by simpa using h3) (E2.bind (bN _ _ _) ?_)
          by_cases h4 : 0 <= ((rd eP l (i : Int)).2.2.2.1 : Int) /\ ((rd eP l (i : Int)).2.2.2.1 : Int) <= 100000
          · refine E2.neg (by simpa using h4) (E2.bind (bN _ _ _) ?_)
            by_cases h5 : 1 <= ((rd eP l (i : Int)).2.2.2.2.1 : Int) /\ ((rd eP l (i : Int)).2.2.2.2.1 : Int) <= 99
            · obtain ⟨c, c1⟩ := notM l i hq ⟨h1, h2, h3, h4, h5⟩
              refine E2.neg (by simpa using h5) (E2.pos (by omega) ?_)
              simp only [jE c (show i < 9223372036854775807 by omega)]
              exact E2.pos (by omega) (E2.pos (by omega) (E2.bind (yN _ _) (E2.pos (by simpa using c1) E2.ret)))
            · exact E2.pos (by simpa using h5) E2.ret
          · exact E2.pos (by simpa using h4) E2.ret
        · exact E2.pos (by simpa using h3) E2.ret
      · exact E2.pos (by simpa using h2) E2.ret
    · exact E2.pos (by simpa using h1) E2.ret)
  exact ⟨r, Ev.eq (fun k => EC k l) (Ev.loop (f := fun k m => dY.l0 k m l 0) er), hr⟩
theorem vk (l : List bf) (hl : l.length <= 1048576) : ∃ r, Ev (fun k => dY k l) r /\ (r = true ↔ MB l) := xw l (by omega)
theorem BA (l : List bf) (hl : l.length <= 2097152) : ∃ r, Ev (fun k => dX k l) r /\ (r = true ↔ MB l) := by
  obtain ⟨r, er, hr⟩ := gG (R := fun i v => E2 (fun k m => dX.l0 k m l l ((List.length l : Nat) : Int) i) v) (n := l.length) (QM l) (decide (((l.length : Nat) : Int) <= 30)) (E2.eq (fun k m => dX.aA k m l l _ _) (E2.neg (by omega) E2.ret)) (fun i hi hq v e => by
    obtain ⟨⟨h1, h2, h3, h4, h5⟩, h6⟩ := hq
    refine E2.eq (fun k m => dX.aA k m l l _ _) (E2.pos (by omega) (E2.pos (by omega) (E2.pos (by omega) (E2.bind (aI _ _ _) (E2.neg (by simpa using h1) (E2.bind (aI _ _ _) (E2.neg (by simpa using h2) (E2.bind (aI _ _ _) (E2.neg (by simpa using h3) (E2.bind (aI _ _ _) (E2.neg (by simpa using h4) (E2.bind (aI _ _ _) (E2.neg (by simpa using h5) ?_)))))))))))))
    simp only [cO (show i < 9223372036854775807 by omega)]
    by_cases c : 0 < i
    · refine E2.pos (by omega) ?_
      simp only [jE c (show i < 9223372036854775807 by omega)]
      have := (Gt _ _).2 (h6 c)
      exact E2.pos (by omega) (E2.pos (by omega) (E2.bind (AL _ _) (E2.neg (by omega) e)))
    · exact E2.neg (by omega) e) (fun i hi hq => by
    refine E2.eq (fun k m => dX.aA k m l l _ _) (E2.pos (by omega) (E2.pos (by omega) (E2.pos (by omega) (E2.bind (aI _ _ _) ?_))))
    by_cases h1 : 1 <= ((rd eP l (i : Int)).1 : Int) /\ ((rd eP l (i : Int)).1 : Int) <= 100
    · refine E2.neg (by simpa using h1) (E2.bind (aI _ _ _) ?_)
      by_cases h2 : 1 <= ((rd eP l (i : Int)).2.1 : Int) /\ ((rd eP l (i : Int)).2.1 : Int) <= 4
      · refine E2.neg (by simpa using h2) (E2.bind (aI _ _ _) ?_)
        by_cases h3 : 0 <= ((rd eP l (i : Int)).2.2.1 : Int) /\ ((rd eP l (i : Int)).2.2.1 : Int) <= 9
        · refine E2.neg (by simpa using h3) (E2.bind (aI _ _ _) ?_)
          by_cases h4 : 0 <= ((rd eP l (i : Int)).2.2.2.1 : Int) /\ ((rd eP l (i : Int)).2.2.2.1 : Int) <= 100000
          · refine E2.neg (by simpa using h4) (E2.bind (aI _ _ _) ?_)
            by_cases h5 : 1 <= ((rd eP l (i : Int)).2.2.2.2.1 : Int) /\ ((rd eP l (i : Int)).2.2.2.2.1 : Int) <= 99
            · obtain ⟨c, c1⟩ := notM l i hq ⟨h1, h2, h3, h4, h5⟩
              refine E2.neg (by simpa using h5) (E2.pos (by omega) ?_)
              simp only [jE c (show i < 9223372036854775807 by omega)]
              have := mt (Gt _ _).1 c1
              exact E2.pos (by omega) (E2.pos (by omega) (E2.bind (AL _ _) (E2.pos (by omega) E2.ret)))
            · exact E2.pos (by simpa using h5) E2.ret
          · exact E2.pos (by simpa using h4) E2.ret
        · exact E2.pos (by simpa using h3) E2.ret
      · exact E2.pos (by simpa using h2) E2.ret
    · exact E2.pos (by simpa using h1) E2.ret)
  exact ⟨r, Ev.eq (fun k => Er k l) (Ev.loop (f := fun k m => dX.l0 k m l l ((List.length l : Nat) : Int) 0) er), hr⟩
theorem yO (l : List bf) (hl : l.length <= 1048576) : ∃ r, Ev (fun k => dX k l) r /\ (r = true ↔ MB l) := BA l (by omega)
def QL (l : List cu) (i : Nat) : Prop := Eq (α := Int) (rd dV l (i : Int)).1 (i : Int) /\ (LE.le (α := Int) 1 (rd dV l (i : Int)).2.1 /\ LE.le (α := Int) (rd dV l (i : Int)).2.1 500) /\ (0 < i -> LT.lt (α := Int) (rd dV l ((i - 1 : Nat) : Int)).2.1 (rd dV l (i : Int)).2.1)
def OD (l : List cu) : Prop := (∀ i, i < l.length -> QL l i) /\ decide (((l.length : Nat) : Int) <= 26) = true
theorem Ai (l : List cu) (hl : l.length <= 1048576) : ∃ r, Ev (fun k => eB k l) r /\ (r = true ↔ OD l) := by
  obtain ⟨r, er, hr⟩ := gG (R := fun i v => E2 (fun k m => eB.l0 k m l i) v) (n := l.length) (QL l) (decide (((l.length : Nat) : Int) <= 26)) (E2.eq (fun k m => eB.aA k m l _) (E2.neg (by omega) E2.ret)) (fun i hi hq v e => by
    obtain ⟨h1, h2, h3⟩ := hq
    refine E2.eq (fun k m => eB.aA k m l _) (E2.pos (by omega) (E2.pos (by omega) (E2.pos (by omega) (E2.neg (fun c => c h1) (E2.pos (by omega) (E2.pos (by omega) (E2.bind (bN _ _ _) (E2.neg (by simpa using h2) ?_))))))))
    simp only [cO (show i < 9223372036854775807 by omega)]
    by_cases c : 0 < i
    · refine E2.pos (by omega) ?_
      simp only [jE c (show i < 9223372036854775807 by omega)]
      have := h3 c
      exact E2.pos (by omega) (E2.pos (by omega) (E2.pos (by omega) (E2.pos (by omega) (E2.neg (by omega) e))))
    · exact E2.neg (by omega) e) (fun i hi hq => by
    refine E2.eq (fun k m => eB.aA k m l _) (E2.pos (by omega) (E2.pos (by omega) (E2.pos (by omega) ?_)))
    by_cases h1 : Eq (α := Int) (rd dV l (i : Int)).1 (i : Int)
    · refine E2.neg (fun c => c h1) (E2.pos (by omega) (E2.pos (by omega) (E2.bind (bN _ _ _) ?_)))
      by_cases h2 : LE.le (α := Int) 1 (rd dV l (i : Int)).2.1 /\ LE.le (α := Int) (rd dV l (i : Int)).2.1 500
      · have c : 0 < i := by
          rcases Nat.eq_zero_or_pos i with h | h
          · exact absurd ⟨h1, h2, fun h' => by omega⟩ hq
          · exact h
        have h3 : ¬ LT.lt (α := Int) (rd dV l ((i - 1 : Nat) : Int)).2.1 (rd dV l (i : Int)).2.1 := fun h => hq ⟨h1, h2, fun _ => h⟩
        refine E2.neg (by simpa using h2) (E2.pos (by omega) ?_)
        simp only [jE c (show i < 9223372036854775807 by omega)]
        exact E2.pos (by omega) (E2.pos (by omega) (E2.pos (by omega) (E2.pos (by omega) (E2.pos (by omega) E2.ret))))
      · exact E2.pos (by simpa using h2) E2.ret
    · exact E2.pos h1 E2.ret)
  exact ⟨r, Ev.eq (fun k => Cq k l) (Ev.loop (f := fun k m => eB.l0 k m l 0) er), hr⟩
theorem Aj (l : List cu) (hl : l.length <= 1048576) : ∃ r, Ev (fun k => dZ k l) r /\ (r = true ↔ OD l) := by
  obtain ⟨r, er, hr⟩ := gG (R := fun i v => E2 (fun k m => dZ.l0 k m l l ((List.length l : Nat) : Int) i) v) (n := l.length) (QL l) (decide (((l.length : Nat) : Int) <= 26)) (E2.eq (fun k m => dZ.aA k m l l _ _) (E2.neg (by omega) E2.ret)) (fun i hi hq v e => by
    obtain ⟨h1, h2, h3⟩ := hq
    refine E2.eq (fun k m => dZ.aA k m l l _ _) (E2.pos (by omega) (E2.pos (by omega) (E2.pos (by omega) (E2.neg (fun c => c h1) (E2.bind (aI _ _ _) (E2.neg (by simpa using h2) ?_))))))
    simp only [cO (show i < 9223372036854775807 by omega)]
    by_cases c : 0 < i
    · refine E2.pos (by omega) ?_
      simp only [jE c (show i < 9223372036854775807 by omega)]
      have := h3 c
      exact E2.pos (by omega) (E2.pos (by omega) (E2.neg (by omega) e))
    · exact E2.neg (by omega) e) (fun i hi hq => by
    refine E2.eq (fun k m => dZ.aA k m l l _ _) (E2.pos (by omega) (E2.pos (by omega) (E2.pos (by omega) ?_)))
    by_cases h1 : Eq (α := Int) (rd dV l (i : Int)).1 (i : Int)
    · refine E2.neg (fun c => c h1) (E2.bind (aI _ _ _) ?_)
      by_cases h2 : LE.le (α := Int) 1 (rd dV l (i : Int)).2.1 /\ LE.le (α := Int) (rd dV l (i : Int)).2.1 500
      · have c : 0 < i := by
          rcases Nat.eq_zero_or_pos i with h | h
          · exact absurd ⟨h1, h2, fun h' => by omega⟩ hq
          · exact h
        have h3 : ¬ LT.lt (α := Int) (rd dV l ((i - 1 : Nat) : Int)).2.1 (rd dV l (i : Int)).2.1 := fun h => hq ⟨h1, h2, fun _ => h⟩
        refine E2.neg (by simpa using h2) (E2.pos (by omega) ?_)
        simp only [jE c (show i < 9223372036854775807 by omega)]
        exact E2.pos (by omega) (E2.pos (by omega) (E2.pos (by omega) E2.ret))
      · exact E2.pos (by simpa using h2) E2.ret
    · exact E2.pos h1 E2.ret)
  exact ⟨r, Ev.eq (fun k => Ck k l) (Ev.loop (f := fun k m => dZ.l0 k m l l ((List.length l : Nat) : Int) 0) er), hr⟩
theorem Cu (l : List Int) (x : Int) (hl : l.length <= 1048576) : Ev (fun k => gQ k l x) (decide (x ∈ l)) := by
  refine Ab ?_
  obtain ⟨r, er, hr⟩ := Sk (R := fun i v => E2 (fun k m => gQ.l0 k m l x i) v) (n := l.length) (fun i => Eq (α := Int) (rd (.int .i64) l (i : Int)) x) (E2.eq (fun k m => gQ.aA k m l x _) (E2.neg (by omega) E2.ret)) (fun i hi hq v e => by
    refine E2.eq (fun k m => gQ.aA k m l x _) (E2.pos (by omega) (E2.pos (by omega) (E2.pos (by omega) (E2.neg hq ?_))))
    simp only [cO (show i < 9223372036854775807 by omega)]; exact e) (fun i hi hq => E2.eq (fun k m => gQ.aA k m l x _) (E2.pos (by omega) (E2.pos (by omega) (E2.pos (by omega) (E2.pos hq E2.ret)))))
  refine ⟨r, Ev.eq (fun k => Jd k l x) (Ev.loop (f := fun k m => gQ.l0 k m l x 0) er), hr.trans ⟨fun ⟨i, hi, h⟩ => ?_, fun h => ?_⟩⟩
  · rw [<- h, fK hi]; exact List.getElem_mem hi
  · obtain ⟨i, hi, h⟩ := List.mem_iff_getElem.1 h
    exact ⟨i, hi, by rw [fK hi]; exact h⟩
theorem IJ (l : List Int) (x : Int) (hl : l.length <= 1048576) : Ev (fun k => aC k l x) (wW (fun i => decide (Eq (α := Int) x (rd (.int .i64) l (i : Int)))) l.length) := by
  have er := tL (R := fun i v => E2 (fun k m => aC.l0 k m l x ((List.length l : Nat) : Int) i) v) (n := l.length) (fun i => decide (Eq (α := Int) x (rd (.int .i64) l (i : Int)))) (E2.eq (fun k m => aC.aA k m l x _ _) (E2.neg (by omega) E2.ret)) (fun i hi hq v e => by
    refine E2.eq (fun k m => aC.aA k m l x _ _) (E2.pos (by omega) (E2.pos (by omega) (E2.pos (by omega) (E2.neg (by simpa using hq) ?_))))
    simp only [cO (show i < 9223372036854775807 by omega)]; exact e) (fun i hi hq => E2.eq (fun k m => aC.aA k m l x _ _) (E2.pos (by omega) (E2.pos (by omega) (E2.pos (by omega) (E2.pos (by simpa using hq) E2.ret)))))
  exact Ev.eq (fun k => ji k l x) (Ev.loop (f := fun k m => aC.l0 k m l x ((List.length l : Nat) : Int) 0) er)
theorem jB (l : List Int) (x : Int) (hl : l.length <= 1048576) : Ev (fun k => cK k l x) (decide (x ∈ l)) := by
  refine Ev.eq (fun k => jI k l x) (Ev.bind (IJ l x hl) (Ev.ret.val ?_))
  rw [Bool.eq_iff_iff, decide_eq_true_eq, decide_eq_true_eq, wX]
  constructor
  · rintro ⟨i, hi, h⟩
    have h : x = rd (.int .i64) l (i : Int) := by simpa using h
    rw [h, fK hi]; exact List.getElem_mem hi
  · intro h
    obtain ⟨i, hi, h⟩ := List.mem_iff_getElem.1 h
    exact ⟨i, hi, by rw [decide_eq_true_eq, fK hi]; exact h.symm⟩
def iq (v : Int) (e : aF) : Bool := decide ((e.2.2.2.1 : Int) = v)
theorem MC (l : List aF) (v : Int) (hl : l.length <= 1048576) : Ev (fun k => gF k l v) (l.filter (iq v)) := by
  have er := Mi (t := bL) (l := l) (R := fun i s r => E2 (fun k m => gF.l0 k m l v i s) r) (iq v) (fun s => E2.eq (fun k m => gF.aA k m l v _ s) (E2.neg (by omega) E2.ret)) (fun i s hi hs hq r e => by
    refine E2.eq (fun k m => gF.aA k m l v _ s) (E2.pos (by omega) (E2.pos (by omega) (E2.pos (by omega) (E2.pos (of_decide_eq_true hq) (E2.pos (by omega) (E2.pos (by omega) (E2.pos (by simp only [List.length_cons, List.length_nil]; omega) ?_)))))))
    simp only [cO (show i < 9223372036854775807 by omega)]; exact e) (fun i s hi hs hq r e => by
    refine E2.eq (fun k m => gF.aA k m l v _ s) (E2.pos (by omega) (E2.pos (by omega) (E2.pos (by omega) (E2.neg (of_decide_eq_false hq) ?_))))
    simp only [cO (show i < 9223372036854775807 by omega)]; exact e)
  exact Ev.eq (fun k => FQ k l v) (Ev.loop (f := fun k m => gF.l0 k m l v 0 []) er)
theorem yF (e : aF) (v : Int) : Ev (fun k => iX k e v) (! iq v e) := by
  refine Ev.eq (fun k => qK k e v) (Ev.ret.val ?_)
  unfold iq
  simp
theorem Ej (l : List aF) (v : Int) (hl : l.length <= 1048576) : Ev (fun k => aj k l v) (l.filter (iq v)) := by
  have ei : Ev (fun k => ay k l v) (wW (fun i => ! iq v (rd bL l (i : Int))) l.length) := by
    have er := tL (R := fun i r => E2 (fun k m => ay.l0 k m l v ((List.length l : Nat) : Int) i) r) (n := l.length) (fun i => ! iq v (rd bL l (i : Int))) (E2.eq (fun k m => ay.aA k m l v _ _) (E2.neg (by omega) E2.ret)) (fun i hi hq r e => by
      refine E2.eq (fun k m => ay.aA k m l v _ _) (E2.pos (by omega) (E2.pos (by omega) (E2.pos (by omega) (E2.bind (yF _ _) (E2.neg (by rw [hq]; simp) ?_)))))
      simp only [cO (show i < 9223372036854775807 by omega)]; exact e) (fun i hi hq => E2.eq (fun k m => ay.aA k m l v _ _) (E2.pos (by omega) (E2.pos (by omega) (E2.pos (by omega) (E2.bind (yF _ _) (E2.pos hq E2.ret))))))
    exact Ev.eq (fun k => iL k l v) (Ev.loop (f := fun k m => ay.l0 k m l v ((List.length l : Nat) : Int) 0) er)
  refine Ev.eq (fun k => iC k l v) (Ev.bind ei ?_)
  rcases tK (fun i => ! iq v (rd bL l (i : Int))) l.length with ⟨h, hall⟩ | ⟨r, h, hr, h1, h0⟩
  · refine Ev.pos h (Ev.ret.val ?_)
    symm
    rw [List.filter_eq_self]
    intro x hx
    obtain ⟨i, hi, rfl⟩ := List.mem_iff_getElem.1 hx
    have := hall i hi
    rw [fK hi] at this
    simpa using this
  · rw [h]
    refine Ev.neg (by omega) ?_
    rw [cO (by omega)]
    refine Ev.loop (f := fun k m => aj.l0 k m v (r : Int) ((r + 1 : Nat) : Int) l) ?_
    refine Df (t := bL) (l := l) (R := fun i j s w => E2 (fun k m => aj.l0 k m v i j s) w) (iq v) (fun i s hi hs => ?_) (fun i j s hij hj hs hq w e => ?_) (fun i j s hij hj hs hq w e => ?_) r hr (fun j hj => by simpa using h0 j hj) (by simpa using h1)
    · refine E2.eq (fun k m => aj.aA k m v _ _ s) (E2.neg (by omega) (E2.pos (by omega) (E2.pos (by omega) (E2.pos (by omega) (E2.pos ?_ (E2.ret.val ?_))))))
      · simp only [List.length_append, List.length_take, List.length_replicate, List.length_drop, Int.toNat_natCast]
        omega
      · simp only [Int.toNat_natCast, show Int.toNat 0 = 0 from rfl, Nat.sub_zero, List.drop_zero]
        rw [List.append_assoc, List.take_append_of_le_length (by simp; omega), List.take_take, Nat.min_self]
    · refine E2.eq (fun k m => aj.aA k m v _ _ s) (E2.pos (by omega) (E2.pos (by omega) (E2.pos (by omega) (E2.bind (yF _ _) (E2.pos (by rw [hq]; simp) (E2.pos (by omega) (E2.pos (by omega) ?_)))))))
      simp only [cO (show i < 9223372036854775807 by omega), cO (show j < 9223372036854775807 by omega), Int.toNat_natCast]; exact e
    · refine E2.eq (fun k m => aj.aA k m v _ _ s) (E2.pos (by omega) (E2.pos (by omega) (E2.pos (by omega) (E2.bind (yF _ _) (E2.neg (by rw [hq]; simp) ?_)))))
      simp only [cO (show j < 9223372036854775807 by omega)]; exact e
theorem jF (l : List aF) (hl : l.length <= 1048576) : Ev (fun k => bH k l) l :=
  Ev.eq (fun k => kY k l) (Ev.pos (by simp only [List.length_nil]; omega) (Ev.ret.val (by simp)))
theorem yG (l : List aF) (v : Int) (hl : l.length <= 1048576) : Ev (fun k => mG k l v) (l.filter (iq v)) :=
  Ev.eq (fun k => uh k l v) (Ev.bind (jF l hl) (Ev.bind (Ej l v hl) Ev.ret))
def QF (lo hi : Int) (l : List aF) (i : Nat) : Prop := LE.le (α := Int) lo (rd bL l (i : Int)).2.2.1 /\ LE.le (α := Int) (rd bL l (i : Int)).2.2.1 hi
def KW (l : List aF) (lo hi : Int) : Prop := (∀ i, i < l.length -> QF lo hi l i) /\ decide (eF l) = true
theorem OE (l : List aF) (lo hi : Int) (hl : l.length <= 1048576) : ∃ r, Ev (fun k => fJ k l lo hi) r /\ (r = true ↔ KW l lo hi) := by
  obtain ⟨r, er, hr⟩ := gG (R := fun i v => E2 (fun k m => fJ.l0 k m l lo hi i) v) (n := l.length) (QF lo hi l) (decide (eF l)) (E2.eq (fun k m => fJ.aA k m l lo hi _) (E2.neg (by omega) (E2.bind (dw l hl) (E2.ret.val (by simp))))) (fun i hi' hq v e => by
    refine E2.eq (fun k m => fJ.aA k m l lo hi _) (E2.pos (by omega) (E2.pos (by omega) (E2.pos (by omega) (E2.bind (bN _ _ _) (E2.neg (by simpa [QF] using hq) ?_)))))
    simp only [cO (show i < 9223372036854775807 by omega)]; exact e) (fun i hi' hq => E2.eq (fun k m => fJ.aA k m l lo hi _) (E2.pos (by omega) (E2.pos (by omega) (E2.pos (by omega) (E2.bind (bN _ _ _) (E2.pos (by simp only [decide_eq_true_eq]; exact hq) E2.ret))))))
  exact ⟨r, Ev.eq (fun k => Dy k l lo hi) (Ev.loop (f := fun k m => fJ.l0 k m l lo hi 0) er), hr⟩
theorem Ad (l : List aF) (lo hi : Int) (hl : l.length <= 1048576) : ∃ r, Ev (fun k => bA k l lo hi) r /\ (r = true ↔ KW l lo hi) := by
  obtain ⟨r, er, hr⟩ := gG (R := fun i v => E2 (fun k m => bA.l0 k m l lo hi l ((List.length l : Nat) : Int) i) v) (n := l.length) (QF lo hi l) (decide (eF l)) (E2.eq (fun k m => bA.aA k m l lo hi l _ _) (E2.neg (by omega) (E2.bind (dD l hl) (E2.ret.val (by simp))))) (fun i hi' hq v e => by
    refine E2.eq (fun k m => bA.aA k m l lo hi l _ _) (E2.pos (by omega) (E2.pos (by omega) (E2.pos (by omega) (E2.bind (aI _ _ _) (E2.neg (by simpa [QF] using hq) ?_)))))
    simp only [cO (show i < 9223372036854775807 by omega)]; exact e) (fun i hi' hq => E2.eq (fun k m => bA.aA k m l lo hi l _ _) (E2.pos (by omega) (E2.pos (by omega) (E2.pos (by omega) (E2.bind (aI _ _ _) (E2.pos (by simp only [decide_eq_true_eq]; exact hq) E2.ret))))))
  exact ⟨r, Ev.eq (fun k => qJ k l lo hi) (Ev.loop (f := fun k m => bA.l0 k m l lo hi l ((List.length l : Nat) : Int) 0) er), hr⟩
def Mk (p : bF) (l : List aF) (v : Int) : Prop := (v : Int) ∈ p.2.2.2.1 /\ eF l /\ KW (l.filter (iq v)) p.2.1 p.2.2.1
theorem filter_le (l : List aF) (v : Int) (hl : l.length <= 1048576) : (l.filter (iq v)).length <= 1048576 := Nat.le_trans (List.length_filter_le _ _) hl
theorem Cv (p : bF) (l : List aF) (v : Int) (hp : p.2.2.2.1.length <= 1048576) (hl : l.length <= 1048576) : ∃ r, Ev (fun k => uV k p l v) r /\ (r = true ↔ Mk p l v) := by
  unfold Mk
  by_cases c1 : (v : Int) ∈ p.2.2.2.1
  · by_cases c2 : eF l
    · obtain ⟨r, er, hr⟩ := OE (l.filter (iq v)) p.2.1 p.2.2.1 (filter_le l v hl)
      exact ⟨r, Ev.eq (fun k => uI k p l v) (Ev.bind (Cu _ _ hp) (Ev.pos (by simpa using c1) (Ev.bind (dw l hl) (Ev.pos (by simpa using c2) (Ev.bind (MC l v hl) (Ev.bind er (Ev.ret.val (by simp)))))))), by rw [hr]; exact ⟨fun h => ⟨c1, c2, h⟩, fun h => h.2.2⟩⟩
    · exact ⟨false, Ev.eq (fun k => uI k p l v) (Ev.bind (Cu _ _ hp) (Ev.pos (by simpa using c1) (Ev.bind (dw l hl) (Ev.neg (by simpa using c2) Ev.ret)))), by simp only [Bool.false_eq_true, false_iff]; exact fun h => c2 h.2.1⟩
  · exact ⟨false, Ev.eq (fun k => uI k p l v) (Ev.bind (Cu _ _ hp) (Ev.neg (by simpa using c1) Ev.ret)), by simp only [Bool.false_eq_true, false_iff]; exact fun h => c1 h.1⟩
theorem yH (p : bF) (l : List aF) (v : Int) (hp : p.2.2.2.1.length <= 1048576) (hl : l.length <= 1048576) : ∃ r, Ev (fun k => jT k p l v) r /\ (r = true ↔ Mk p l v) := by
  unfold Mk
  by_cases c1 : (v : Int) ∈ p.2.2.2.1
  · by_cases c2 : eF l
    · obtain ⟨r, er, hr⟩ := Ad (l.filter (iq v)) p.2.1 p.2.2.1 (filter_le l v hl)
      exact ⟨r, Ev.eq (fun k => jJ k p l v) (Ev.bind (jB _ _ hp) (Ev.pos (by simpa using c1) (Ev.bind (dD l hl) (Ev.pos (by simpa using c2) (Ev.bind (yG l v hl) (Ev.bind er (Ev.ret.val (by simp)))))))), by rw [hr]; exact ⟨fun h => ⟨c1, c2, h⟩, fun h => h.2.2⟩⟩
    · exact ⟨false, Ev.eq (fun k => jJ k p l v) (Ev.bind (jB _ _ hp) (Ev.pos (by simpa using c1) (Ev.bind (dD l hl) (Ev.neg (by simpa using c2) Ev.ret)))), by simp only [Bool.false_eq_true, false_iff]; exact fun h => c2 h.2.1⟩
  · exact ⟨false, Ev.eq (fun k => jJ k p l v) (Ev.bind (jB _ _ hp) (Ev.neg (by simpa using c1) Ev.ret)), by simp only [Bool.false_eq_true, false_iff]; exact fun h => c1 h.1⟩
def QA (lo hi : Int) (l : List Int) (i : Nat) : Prop := (LE.le (α := Int) lo (rd (.int .i64) l (i : Int)) /\ LE.le (α := Int) (rd (.int .i64) l (i : Int)) hi) /\ (0 < i -> LT.lt (α := Int) (rd (.int .i64) l ((i - 1 : Nat) : Int)) (rd (.int .i64) l (i : Int)))
def Ml (l : List Int) (lo hi : Int) : Prop := ∀ i, i < l.length -> QA lo hi l i
theorem Wu {lo hi : Int} {l : List Int} {i : Nat} (h : ¬ QA lo hi l i) (h1 : LE.le (α := Int) lo (rd (.int .i64) l (i : Int)) /\ LE.le (α := Int) (rd (.int .i64) l (i : Int)) hi) : 0 < i /\ ¬ LT.lt (α := Int) (rd (.int .i64) l ((i - 1 : Nat) : Int)) (rd (.int .i64) l (i : Int)) := by
  refine ⟨?_, fun c => h ⟨h1, fun _ => c⟩⟩
  rcases Nat.eq_zero_or_pos i with hi | hi
  · exact absurd ⟨h1, fun h' => by omega⟩ h
  · exact hi
theorem Cg (l : List Int) (lo hi : Int) (hl : l.length <= 1048576) : ∃ r, Ev (fun k => aW k l lo hi) r /\ (r = true ↔ Ml l lo hi) := by
  obtain ⟨r, er, hr⟩ := gG (R := fun i v => E2 (fun k m => aW.l0 k m l lo hi l ((List.length l : Nat) : Int) i) v) (n := l.length) (QA lo hi l) true (E2.eq (fun k m => aW.aA k m l lo hi l _ _) (E2.neg (by omega) E2.ret)) (fun i hi' hq v e => by
    obtain ⟨h1, h2⟩ := hq
    refine E2.eq (fun k m => aW.aA k m l lo hi l _ _) (E2.pos (by omega) (E2.pos (by omega) (E2.pos (by omega) (E2.bind (aI _ _ _) (E2.neg (by simpa using h1) ?_)))))
    simp only [cO (show i < 9223372036854775807 by omega)]
    by_cases c : 0 < i
    · refine E2.pos (by omega) ?_
      simp only [jE c (show i < 9223372036854775807 by omega)]
      have := h2 c
      exact E2.pos (by omega) (E2.pos (by omega) (E2.neg (by omega) e))
    · exact E2.neg (by omega) e) (fun i hi' hq => by
    refine E2.eq (fun k m => aW.aA k m l lo hi l _ _) (E2.pos (by omega) (E2.pos (by omega) (E2.pos (by omega) (E2.bind (aI _ _ _) ?_))))
    by_cases h1 : LE.le (α := Int) lo (rd (.int .i64) l (i : Int)) /\ LE.le (α := Int) (rd (.int .i64) l (i : Int)) hi
    · obtain ⟨c, c1⟩ := Wu hq h1
      refine E2.neg (by simpa using h1) (E2.pos (by omega) ?_)
      simp only [jE c (show i < 9223372036854775807 by omega)]
      exact E2.pos (by omega) (E2.pos (by omega) (E2.pos (by omega) E2.ret))
    · exact E2.pos (by simp only [decide_eq_true_eq]; exact h1) E2.ret)
  exact ⟨r, Ev.eq (fun k => qI k l lo hi) (Ev.loop (f := fun k m => aW.l0 k m l lo hi l ((List.length l : Nat) : Int) 0) er), hr.trans ⟨fun h => h.1, fun h => ⟨h, rfl⟩⟩⟩
def Yp (p : bF) : Prop := (21 <= (p.2.1 : Int) /\ (p.2.1 : Int) <= p.2.2.1) /\ (p.2.2.1 : Int) <= 108 /\ Ml p.2.2.2.1 1 4
def QP (l : List bF) (i : Nat) : Prop := Yp (rd dx l (i : Int)) /\ (1 <= ((rd dx l (i : Int)).1 : Int) /\ ((rd dx l (i : Int)).1 : Int) <= 99) /\ (0 < i -> LT.lt (α := Int) (rd dx l ((i - 1 : Nat) : Int)).1 (rd dx l (i : Int)).1)
def lU (l : List bF) : Prop := (∀ i, i < l.length -> QP l i) /\ decide (((l.length : Nat) : Int) <= 8) = true
def UG (l : List bF) : Prop := l.length <= 1048576 /\ ∀ i : Nat, i < l.length -> (rd dx l (i : Int)).2.2.2.1.length <= 1048576
theorem Sr (l : List bF) (i : Nat) (a b c : Int) (vs : List Int) (hv : vs.length <= 1048576) (hi : i < l.length) (hl : l.length <= 1048576) (x : Bool) (e : E2 (fun k n => aK.l0 k n l ((i + 1 : Nat) : Int)) x) :
    ∃ r, E2 (fun k n => aK.l1 k k n l (i : Int) 0 a b c vs) r /\ (r = true ↔ Ml vs 1 4 /\ x = true) := by
  obtain ⟨r, er, hr⟩ := gG (R := fun j v => E3 (fun k m n => aK.l1 k m n l (i : Int) j a b c vs) v) (n := vs.length) (QA 1 4 vs) x (by
    refine E3.eq (fun k m n => aK.Bw k m n l (i : Int) _ a b c vs) (E3.neg (by omega) ?_)
    simp only [cO (show i < 9223372036854775807 by omega)]
    exact E3.out e) (fun j hj hq v e => by
    obtain ⟨h1, h2⟩ := hq
    refine E3.eq (fun k m n => aK.Bw k m n l (i : Int) _ a b c vs) (E3.pos (by omega) (E3.pos (by omega) (E3.pos (by omega) (E3.bind (bN _ _ _) (E3.neg (by simpa using h1) ?_)))))
    simp only [cO (show j < 9223372036854775807 by omega)]
    by_cases c : 0 < j
    · refine E3.pos (by omega) ?_
      simp only [jE c (show j < 9223372036854775807 by omega)]
      have := h2 c
      exact E3.pos (by omega) (E3.pos (by omega) (E3.pos (by omega) (E3.pos (by omega) (E3.neg (by omega) e))))
    · exact E3.neg (by omega) e) (fun j hj hq => by
    refine E3.eq (fun k m n => aK.Bw k m n l (i : Int) _ a b c vs) (E3.pos (by omega) (E3.pos (by omega) (E3.pos (by omega) (E3.bind (bN _ _ _) ?_))))
    by_cases h1 : LE.le (α := Int) 1 (rd (.int .i64) vs (j : Int)) /\ LE.le (α := Int) (rd (.int .i64) vs (j : Int)) 4
    · obtain ⟨c, c1⟩ := Wu hq h1
      refine E3.neg (by simpa using h1) (E3.pos (by omega) ?_)
      simp only [jE c (show j < 9223372036854775807 by omega)]
      exact E3.pos (by omega) (E3.pos (by omega) (E3.pos (by omega) (E3.pos (by omega) (E3.pos (by omega) E3.ret))))
    · exact E3.pos (by simp only [decide_eq_true_eq]; exact h1) E3.ret)
  exact ⟨r, E3.loop (f := fun k m n => aK.l1 k m n l (i : Int) 0 a b c vs) er, hr⟩
theorem vZ (l : List bF) (hs : UG l) : ∃ r, Ev (fun k => aK k l) r /\ (r = true ↔ lU l) := by
  have hl := hs.1
  have key : ∀ d i, i + d = l.length -> ∃ r, E2 (fun k m => aK.l0 k m l (i : Int)) r /\ (r = true ↔ (∀ j, i <= j -> j < l.length -> QP l j) /\ decide (((l.length : Nat) : Int) <= 8) = true) := by
    intro d
    induction d with
    | zero =>
      intro i hi
      exact ⟨_, E2.eq (fun k m => aK.aA k m l _) (E2.neg (by omega) E2.ret), ⟨fun h => ⟨fun j _ _ => by omega, h⟩, fun h => h.2⟩⟩
    | succ d ih =>
      intro i hi
      have hlt : i < l.length := by omega
      obtain ⟨x, ex, hx⟩ := ih (i + 1) (by omega)
      have stop : (∃ e : E2 (fun k m => aK.l0 k m l (i : Int)) false, True) -> ¬ QP l i -> ∃ r, E2 (fun k m => aK.l0 k m l (i : Int)) r /\ (r = true ↔ (∀ j, i <= j -> j < l.length -> QP l j) /\ decide (((l.length : Nat) : Int) <= 8) = true) := fun ⟨e, _⟩ h =>
        ⟨false, e, by simp only [Bool.false_eq_true, false_iff]; exact fun c => h (c.1 i (Nat.le_refl _) hlt)⟩
      have st : ∀ {f : Nat -> Nat -> Option Bool} {v : Bool}, (∀ k m, aK.l0 k (m + 1) l (i : Int) = f k m) -> E2 f v -> E2 (fun k m => aK.l0 k m l (i : Int)) v := fun h e => E2.eq h e
      by_cases h1 : LE.le (α := Int) 1 (rd dx l (i : Int)).1 /\ LE.le (α := Int) (rd dx l (i : Int)).1 99
      · by_cases h2 : LE.le (α := Int) 21 (rd dx l (i : Int)).2.1
        · by_cases h3 : LE.le (α := Int) (rd dx l (i : Int)).2.1 (rd dx l (i : Int)).2.2.1
          · by_cases h4 : LE.le (α := Int) (rd dx l (i : Int)).2.2.1 108
            · obtain ⟨r, er, hr⟩ := Sr l i (rd dx l (i : Int)).1 (rd dx l (i : Int)).2.1 (rd dx l (i : Int)).2.2.1 (rd dx l (i : Int)).2.2.2.1 (hs.2 i hlt) hlt hl x ex
              by_cases c : 0 < i
              · by_cases h5 : LT.lt (α := Int) (rd dx l ((i - 1 : Nat) : Int)).1 (rd dx l (i : Int)).1
                · refine ⟨r, E2.eq (fun k m => aK.aA k m l _) (E2.pos (by omega) (E2.pos (by omega) (E2.pos (by omega) (E2.bind (bN _ _ _) (E2.neg (by simpa using h1) (E2.neg (by omega) (E2.neg (by omega) (E2.neg (by omega) (E2.pos (by omega) ?_))))))))), hr.trans ⟨fun ⟨h6, h7⟩ => ⟨fun j hj1 hj2 => ?_, (hx.1 h7).2⟩, fun h => ⟨(h.1 i (Nat.le_refl _) hlt).1.2.2, hx.2 ⟨fun j hj1 hj2 => h.1 j (by omega) hj2, h.2⟩⟩⟩⟩
                  · simp only [jE c (show i < 9223372036854775807 by omega)]
                    exact E2.pos (by omega) (E2.pos (by omega) (E2.neg (by omega) er))
                  · by_cases hji : j = i
                    · subst hji; exact ⟨⟨⟨h2, h3⟩, h4, h6⟩, h1, fun _ => h5⟩
                    · exact (hx.1 h7).1 j (by omega) hj2
                · refine stop ⟨E2.eq (fun k m => aK.aA k m l _) (E2.pos (by omega) (E2.pos (by omega) (E2.pos (by omega) (E2.bind (bN _ _ _) (E2.neg (by simpa using h1) (E2.neg (by omega) (E2.neg (by omega) (E2.neg (by omega) (E2.pos (by omega) ?_))))))))), trivial⟩ (fun h => h5 (h.2.2 c))
                  simp only [jE c (show i < 9223372036854775807 by omega)]
                  exact E2.pos (by omega) (E2.pos (by omega) (E2.pos (by omega) E2.ret))
              · refine ⟨r, E2.eq (fun k m => aK.aA k m l _) (E2.pos (by omega) (E2.pos (by omega) (E2.pos (by omega) (E2.bind (bN _ _ _) (E2.neg (by simpa using h1) (E2.neg (by omega) (E2.neg (by omega) (E2.neg (by omega) (E2.neg (by omega) er))))))))), hr.trans ⟨fun ⟨h6, h7⟩ => ⟨fun j hj1 hj2 => ?_, (hx.1 h7).2⟩, fun h => ⟨(h.1 i (Nat.le_refl _) hlt).1.2.2, hx.2 ⟨fun j hj1 hj2 => h.1 j (by omega) hj2, h.2⟩⟩⟩⟩
                by_cases hji : j = i
                · subst hji; exact ⟨⟨⟨h2, h3⟩, h4, h6⟩, h1, fun h => absurd h c⟩
                · exact (hx.1 h7).1 j (by omega) hj2
            · exact stop ⟨E2.eq (fun k m => aK.aA k m l _) (E2.pos (by omega) (E2.pos (by omega) (E2.pos (by omega) (E2.bind (bN _ _ _) (E2.neg (by simpa using h1) (E2.neg (by omega) (E2.neg (by omega) (E2.pos (by omega) E2.ret)))))))), trivial⟩ (fun h => h4 h.1.2.1)
          · exact stop ⟨E2.eq (fun k m => aK.aA k m l _) (E2.pos (by omega) (E2.pos (by omega) (E2.pos (by omega) (E2.bind (bN _ _ _) (E2.neg (by simpa using h1) (E2.neg (by omega) (E2.pos (by omega) E2.ret))))))), trivial⟩ (fun h => h3 h.1.1.2)
        · exact stop ⟨E2.eq (fun k m => aK.aA k m l _) (E2.pos (by omega) (E2.pos (by omega) (E2.pos (by omega) (E2.bind (bN _ _ _) (E2.neg (by simpa using h1) (E2.pos (by omega) E2.ret)))))), trivial⟩ (fun h => h2 h.1.1.1)
      · exact stop ⟨E2.eq (fun k m => aK.aA k m l _) (E2.pos (by omega) (E2.pos (by omega) (E2.pos (by omega) (E2.bind (bN _ _ _) (E2.pos (by simp only [decide_eq_true_eq]; exact h1) E2.ret))))), trivial⟩ (fun h => h1 h.2.1)
  obtain ⟨r, er, hr⟩ := key l.length 0 (by omega)
  exact ⟨r, Ev.eq (fun k => Cr k l) (Ev.loop (f := fun k m => aK.l0 k m l 0) er), hr.trans ⟨fun h => ⟨fun i hi => h.1 i (Nat.zero_le _) hi, h.2⟩, fun h => ⟨fun i _ hi => h.1 i hi, h.2⟩⟩⟩
def jK (l : List bF) : List Int := l.map fun p => p.1
theorem ko {l : List bF} {i : Nat} (h : i < l.length) : Eq (α := Int) (rd (.int .i64) (jK l) (i : Int)) (rd dx l (i : Int)).1 := by
  unfold jK
  rw [fK (by simpa using h), fK h]
  simp
theorem vN (l : List bF) (hs : UG l) : ∃ r, Ev (fun k => aQ k l) r /\ (r = true ↔ lU l) := by
  have hl := hs.1
  obtain ⟨a, ea, ha⟩ := Cg (jK l) 1 99 (by unfold jK; simpa using hl)
  obtain ⟨r, er, hr⟩ := gG (R := fun i v => E2 (fun k m => aQ.l0 k m l l ((List.length l : Nat) : Int) i (jK (l.take i.toNat))) v) (n := l.length) (fun i => Yp (rd dx l (i : Int))) (decide (((l.length : Nat) : Int) <= 8 /\ a = true)) (by
    refine E2.eq (fun k m => aQ.aA k m l l _ _ _) (E2.neg (by omega) ?_)
    rw [Int.toNat_natCast, List.take_length]
    by_cases c : ((l.length : Nat) : Int) <= 8
    · exact E2.pos c (E2.bind ea (E2.ret.val (by simp [c])))
    · exact E2.neg c (E2.ret.val (by simp [c]))) (fun i hi hq v e => by
    obtain ⟨h1, h2, h3⟩ := hq
    obtain ⟨b, eb, hb⟩ := Cg (rd dx l (i : Int)).2.2.2.1 1 4 (hs.2 i hi)
    have hlen : (jK (l.take ((i : Int)).toNat)).length = i := by unfold jK; simp; omega
    refine E2.eq (fun k m => aQ.aA k m l l _ _ _) (E2.pos (by omega) (E2.pos (by omega) (E2.pos (by omega) (E2.bind (aI _ _ _) (E2.neg (by simpa using h1) (E2.neg (Int.not_lt.2 h2) (E2.bind eb (E2.neg (by simpa using hb.2 h3) (E2.pos (by rw [hlen]; simp only [List.length_cons, List.length_nil]; omega) ?_)))))))))
    simp only [cO (show i < 9223372036854775807 by omega)]
    have he : jK (l.take ((i : Int)).toNat) ++ [(rd dx l (i : Int)).1] = jK (l.take (((i + 1 : Nat) : Int)).toNat) := by
      unfold jK
      rw [Int.toNat_natCast, Int.toNat_natCast, List.take_succ_eq_append_getElem hi, fK hi, List.map_append]
      rfl
    rw [he]
    exact e) (fun i hi hq => by
    obtain ⟨b, eb, hb⟩ := Cg (rd dx l (i : Int)).2.2.2.1 1 4 (hs.2 i hi)
    refine E2.eq (fun k m => aQ.aA k m l l _ _ _) (E2.pos (by omega) (E2.pos (by omega) (E2.pos (by omega) (E2.bind (aI _ _ _) ?_))))
    by_cases h1 : LE.le (α := Int) 21 (rd dx l (i : Int)).2.1 /\ LE.le (α := Int) (rd dx l (i : Int)).2.1 (rd dx l (i : Int)).2.2.1
    · refine E2.neg (by simpa using h1) ?_
      by_cases h2 : LE.le (α := Int) (rd dx l (i : Int)).2.2.1 108
      · exact E2.neg (by omega) (E2.bind eb (E2.pos (fun c => hq ⟨h1, h2, hb.1 c⟩) E2.ret))
      · exact E2.pos (by omega) E2.ret
    · exact E2.pos (by simp only [decide_eq_true_eq]; exact h1) E2.ret)
  have er' : E2 (fun k m => aQ.l0 k m l l ((List.length l : Nat) : Int) 0 []) r := er
  refine ⟨r, Ev.eq (fun k => qd k l) (Ev.loop (f := fun k m => aQ.l0 k m l l ((List.length l : Nat) : Int) 0 []) er'), hr.trans ?_⟩
  unfold lU
  rw [decide_eq_true_eq, decide_eq_true_eq, ha]
  unfold Ml
  have hlen : (jK l).length = l.length := by unfold jK; simp
  rw [hlen]
  constructor
  · rintro ⟨h1, h2, h3⟩
    refine ⟨fun i hi => ?_, h2⟩
    obtain ⟨k1, k2⟩ := h3 i hi
    rw [ko hi] at k1
    refine ⟨h1 i hi, k1, fun c => ?_⟩
    have := k2 c
    rw [ko hi, ko (show i - 1 < l.length by omega)] at this
    exact this
  · rintro ⟨h1, h2⟩
    refine ⟨fun i hi => (h1 i hi).1, h2, fun i hi => ?_⟩
    obtain ⟨k1, k2, k3⟩ := h1 i hi
    refine ⟨by rw [ko hi]; exact k2, fun c => ?_⟩
    rw [ko hi, ko (show i - 1 < l.length by omega)]
    exact k3 c
def KX (l : List bF) (sc : List aF) (x v : Int) (j : Nat) : Prop := Eq (α := Int) (rd dx l (j : Int)).1 x /\ Mk (rd dx l (j : Int)) sc v
def QI (l : List bF) (sc : List aF) (seats : List Int) (i : Nat) : Prop := (∃ j, j < l.length /\ KX l sc (rd (.int .i64) seats (i : Int)) ((i + 1 : Nat) : Int) j) /\ ¬ (rd (.int .i64) seats (i : Int)) ∈ seats.take i
def OG (l : List bF) (sc : List aF) (seats : List Int) : Prop := (∀ i, i < seats.length -> QI l sc seats i) /\ lU l /\ eF sc /\ ((seats.length : Nat) : Int) <= 4
theorem Gu (i : Nat) (s : List Int) : List.take (Int.toNat (i : Int) - Int.toNat 0) (List.drop (Int.toNat 0) s) = s.take i := by
  simp
theorem OH (l : List bF) (sc : List aF) (seats : List Int) (hs : UG l) (h1 : sc.length <= 1048576) (h2 : seats.length <= 1048576) (i : Nat) (hi : i < seats.length) (x : Bool) (e : E2 (fun k n => aX.l0 k n l sc seats ((i + 1 : Nat) : Int)) x) :
    ∃ r, E2 (fun k n => aX.l1 k k n l sc seats (i : Int) false 0) r /\ (r = true ↔ QI l sc seats i /\ x = true) := by
  have hl := hs.1
  have key : ∀ d (j : Nat) (g : Bool), j + d = l.length -> ∃ r, E3 (fun k m n => aX.l1 k m n l sc seats (i : Int) g (j : Int)) r /\
      (r = true ↔ ((g = true \/ ∃ q, j <= q /\ q < l.length /\ KX l sc (rd (.int .i64) seats (i : Int)) ((i + 1 : Nat) : Int) q) /\ ¬ (rd (.int .i64) seats (i : Int)) ∈ seats.take i) /\ x = true) := by
    intro d
    induction d with
    | zero =>
      intro j g hj
      have no : ¬ ∃ q, j <= q /\ q < l.length /\ KX l sc (rd (.int .i64) seats (i : Int)) ((i + 1 : Nat) : Int) q := by rintro ⟨q, h3, h4, _⟩; omega
      cases g with
      | false =>
        exact ⟨false, E3.eq (fun k m n => aX.Bw k m n l sc seats (i : Int) false _) (E3.neg (by omega) (E3.pos (by simp) E3.ret)), by simp only [Bool.false_eq_true, false_iff, false_or]; exact fun h => no h.1.1⟩
      | true =>
        by_cases hm : (rd (.int .i64) seats (i : Int)) ∈ seats.take i
        · refine ⟨false, E3.eq (fun k m n => aX.Bw k m n l sc seats (i : Int) true _) (E3.neg (by omega) (E3.neg (by simp) (E3.pos (by omega) (E3.pos (by omega) (E3.pos (by omega) (E3.pos (by omega) (E3.bind (Cu _ _ ?_) (E3.pos ?_ E3.ret)))))))), by simp [hm]⟩
          · simp; omega
          · rw [Gu]; simpa using hm
        · refine ⟨x, E3.eq (fun k m n => aX.Bw k m n l sc seats (i : Int) true _) (E3.neg (by omega) (E3.neg (by simp) (E3.pos (by omega) (E3.pos (by omega) (E3.pos (by omega) (E3.pos (by omega) (E3.bind (Cu _ _ ?_) (E3.neg ?_ ?_)))))))), by simp [hm]⟩
          · simp; omega
          · rw [Gu]; simpa using hm
          · simp only [cO (show i < 9223372036854775807 by omega)]
            exact E3.out e
    | succ d ih =>
      intro j g hj
      have hlt : j < l.length := by omega
      cases g with
      | true =>
        obtain ⟨r, er, hr⟩ := ih (j + 1) true (by omega)
        refine ⟨r, E3.eq (fun k m n => aX.Bw k m n l sc seats (i : Int) true _) (E3.pos (by omega) (E3.pos rfl ?_)), hr.trans (by simp)⟩
        simp only [cO (show j < 9223372036854775807 by omega)]
        exact er
      | false =>
        have wi : IntKind.wrap .i64 ((i : Int) + 1) = ((i + 1 : Nat) : Int) := cO (by omega)
        by_cases hid : Eq (α := Int) (rd dx l (j : Int)).1 (rd (.int .i64) seats (i : Int))
        · obtain ⟨c, ec, hc⟩ := Cv (rd dx l (j : Int)) sc ((i + 1 : Nat) : Int) (hs.2 j hlt) h1
          obtain ⟨r, er, hr⟩ := ih (j + 1) c (by omega)
          refine ⟨r, E3.eq (fun k m n => aX.Bw k m n l sc seats (i : Int) false _) (E3.pos (by omega) (E3.neg (by simp) (E3.pos (by omega) (E3.pos (by omega) (E3.pos (by omega) (E3.pos (by omega) (E3.pos hid (E3.pos (by omega) (E3.pos (by omega) ?_))))))))), hr.trans ?_⟩
          · simp only [cO (show j < 9223372036854775807 by omega), wi]
            refine E3.bind ec ?_
            simpa using er
          · refine and_congr (and_congr ⟨fun h => .inr ?_, fun h => ?_⟩ Iff.rfl) Iff.rfl
            · rcases h with h | ⟨q, h3, h4, h5⟩
              · exact ⟨j, Nat.le_refl _, hlt, hid, hc.1 h⟩
              · exact ⟨q, by omega, h4, h5⟩
            · rcases h with h | ⟨q, h3, h4, h5⟩
              · cases h
              · by_cases hq : q = j
                · subst hq; exact .inl (hc.2 h5.2)
                · exact .inr ⟨q, by omega, h4, h5⟩
        · obtain ⟨r, er, hr⟩ := ih (j + 1) false (by omega)
          refine ⟨r, E3.eq (fun k m n => aX.Bw k m n l sc seats (i : Int) false _) (E3.pos (by omega) (E3.neg (by simp) (E3.pos (by omega) (E3.pos (by omega) (E3.pos (by omega) (E3.pos (by omega) (E3.neg hid ?_))))))), hr.trans ?_⟩
          · simp only [cO (show j < 9223372036854775807 by omega)]
            exact er
          · refine and_congr (and_congr (or_congr Iff.rfl ⟨fun ⟨q, h3, h4, h5⟩ => ⟨q, by omega, h4, h5⟩, fun ⟨q, h3, h4, h5⟩ => ?_⟩) Iff.rfl) Iff.rfl
            by_cases hq : q = j
            · subst hq; exact absurd h5.1 hid
            · exact ⟨q, by omega, h4, h5⟩
  obtain ⟨r, er, hr⟩ := key l.length 0 false (by omega)
  refine ⟨r, E3.loop (f := fun k m n => aX.l1 k m n l sc seats (i : Int) false 0) er, hr.trans ?_⟩
  unfold QI
  simp
theorem Ak (l : List bF) (sc : List aF) (seats : List Int) (hs : UG l) (h1 : sc.length <= 1048576) (h2 : seats.length <= 1048576) : ∃ r, Ev (fun k => aX k l sc seats) r /\ (r = true ↔ OG l sc seats) := by
  have key : ∀ d i, i + d = seats.length -> ∃ r, E2 (fun k m => aX.l0 k m l sc seats (i : Int)) r /\ (r = true ↔ (∀ j, i <= j -> j < seats.length -> QI l sc seats j) /\ lU l /\ eF sc /\ ((seats.length : Nat) : Int) <= 4) := by
    intro d
    induction d with
    | zero =>
      intro i hi
      have tr : ∀ {p : Prop}, (p ↔ (∀ j, i <= j -> j < seats.length -> QI l sc seats j) /\ p) := ⟨fun h => ⟨fun j _ _ => by omega, h⟩, fun h => h.2⟩
      obtain ⟨a, ea, ha⟩ := vZ l hs
      by_cases ca : a = true
      · by_cases cs : eF sc
        · exact ⟨_, E2.eq (fun k m => aX.aA k m l sc seats _) (E2.neg (by omega) (E2.bind ea (E2.pos ca (E2.bind (dw sc h1) (E2.pos (by simpa using cs) E2.ret))))), Iff.trans (by rw [decide_eq_true_eq]; exact ⟨fun h => ⟨ha.1 ca, cs, h⟩, fun h => h.2.2⟩) tr⟩
        · exact ⟨_, E2.eq (fun k m => aX.aA k m l sc seats _) (E2.neg (by omega) (E2.bind ea (E2.pos ca (E2.bind (dw sc h1) (E2.neg (by simpa using cs) E2.ret))))), by simp only [Bool.false_eq_true, false_iff]; exact fun h => cs h.2.2.1⟩
      · exact ⟨_, E2.eq (fun k m => aX.aA k m l sc seats _) (E2.neg (by omega) (E2.bind ea (E2.neg ca E2.ret))), by simp only [Bool.false_eq_true, false_iff]; exact fun h => ca (ha.2 h.2.1)⟩
    | succ d ih =>
      intro i hi
      have hlt : i < seats.length := by omega
      obtain ⟨x, ex, hx⟩ := ih (i + 1) (by omega)
      obtain ⟨r, er, hr⟩ := OH l sc seats hs h1 h2 i hlt x ex
      refine ⟨r, E2.eq (fun k m => aX.aA k m l sc seats _) (E2.pos (by omega) er), hr.trans ⟨fun ⟨h3, h4⟩ => ⟨fun j hj1 hj2 => ?_, (hx.1 h4).2⟩, fun ⟨h3, h4⟩ => ⟨h3 i (Nat.le_refl _) hlt, hx.2 ⟨fun j hj1 hj2 => h3 j (by omega) hj2, h4⟩⟩⟩⟩
      by_cases hj : j = i
      · subst hj; exact h3
      · exact (hx.1 h4).1 j (by omega) hj2
  obtain ⟨r, er, hr⟩ := key seats.length 0 (by omega)
  exact ⟨r, Ev.eq (fun k => Dw k l sc seats) (Ev.loop (f := fun k m => aX.l0 k m l sc seats 0) er), hr.trans ⟨fun h => ⟨fun i hi => h.1 i (Nat.zero_le _) hi, h.2⟩, fun h => ⟨fun i _ hi => h.1 i hi, h.2⟩⟩⟩
theorem Rm (l : List bF) (sc : List aF) (x : Int) (i : Nat) (hs : UG l) (h1 : sc.length <= 1048576) (hi : i < 1048576) : ∃ r, Ev (fun k => iD k l x sc (i : Int)) r /\ (r = true ↔ ∃ j, j < l.length /\ KX l sc x ((i + 1 : Nat) : Int) j) := by
  have hl := hs.1
  have wi : IntKind.wrap .i64 ((i : Int) + 1) = ((i + 1 : Nat) : Int) := cO (by omega)
  have one : ∀ j, j < l.length -> ∃ r, Ev (fun k => su k (rd dx l (j : Int)) x sc (i : Int)) r /\ (r = true ↔ KX l sc x ((i + 1 : Nat) : Int) j) := by
    intro j hj
    by_cases hid : Eq (α := Int) (rd dx l (j : Int)).1 x
    · obtain ⟨c, ec, hc⟩ := yH (rd dx l (j : Int)) sc ((i + 1 : Nat) : Int) (hs.2 j hj) h1
      refine ⟨c, Ev.eq (fun k => uN k _ x sc (i : Int)) (Ev.pos hid ?_), hc.trans ⟨fun h => ⟨hid, h⟩, fun h => h.2⟩⟩
      simp only [wi]
      exact Ev.bind ec (Ev.ret.val (by simp))
    · exact ⟨false, Ev.eq (fun k => uN k _ x sc (i : Int)) (Ev.neg hid Ev.ret), by simp only [Bool.false_eq_true, false_iff]; exact fun h => hid h.1⟩
  have hdec : ∀ j, Decidable (KX l sc x ((i + 1 : Nat) : Int) j) := fun j => Classical.propDecidable _
  have er := tL (R := fun j v => E2 (fun k m => aU.l0 k m l x sc (i : Int) ((List.length l : Nat) : Int) j) v) (n := l.length) (fun j => @decide _ (hdec j)) (E2.eq (fun k m => aU.aA k m l x sc _ _ _) (E2.neg (by omega) E2.ret)) (fun j hj hq v e => by
    obtain ⟨c, ec, hc⟩ := one j hj
    refine E2.eq (fun k m => aU.aA k m l x sc _ _ _) (E2.pos (by omega) (E2.pos (by omega) (E2.pos (by omega) (E2.bind ec (E2.neg (fun h => absurd (hc.1 h) (@of_decide_eq_false _ (hdec j) hq)) ?_)))))
    simp only [cO (show j < 9223372036854775807 by omega)]; exact e) (fun j hj hq => by
    obtain ⟨c, ec, hc⟩ := one j hj
    exact E2.eq (fun k m => aU.aA k m l x sc _ _ _) (E2.pos (by omega) (E2.pos (by omega) (E2.pos (by omega) (E2.bind ec (E2.pos (hc.2 (by simpa using hq)) E2.ret))))))
  refine ⟨_, Ev.eq (fun k => nW k l x sc _) (Ev.bind (Ev.eq (fun k => oZ k l x sc _) (Ev.loop (f := fun k m => aU.l0 k m l x sc (i : Int) ((List.length l : Nat) : Int) 0) er)) Ev.ret), ?_⟩
  rw [decide_eq_true_eq, wX]
  simp only [decide_eq_true_eq]
theorem wh (l : List bF) (sc : List aF) (seats : List Int) (hs : UG l) (h1 : sc.length <= 1048576) (h2 : seats.length <= 1048576) : ∃ r, Ev (fun k => eT k l sc seats) r /\ (r = true ↔ OG l sc seats) := by
  obtain ⟨a, ea, ha⟩ := vN l hs
  by_cases ca : a = true
  · by_cases cs : eF sc
    · by_cases c4 : ((seats.length : Nat) : Int) <= 4
      · obtain ⟨r, er, hr⟩ := gG (R := fun i v => E2 (fun k m => eT.l0 k m l seats seats ((List.length seats : Nat) : Int) i sc) v) (n := seats.length) (QI l sc seats) true (E2.eq (fun k m => eT.aA k m l seats seats _ _ sc) (E2.neg (by omega) E2.ret)) (fun i hi hq v e => by
          obtain ⟨c, ec, hc⟩ := Rm l sc (rd (.int .i64) seats (i : Int)) i hs h1 (by omega)
          refine E2.eq (fun k m => eT.aA k m l seats seats _ _ sc) (E2.pos (by omega) (E2.pos (by omega) (E2.pos (by omega) (E2.pos (by omega) (E2.pos (by omega) (E2.bind (jB _ _ ?_) (E2.neg ?_ (E2.bind ec (E2.neg (by simpa using hc.2 hq.1) ?_)))))))))
          · simp; omega
          · rw [Gu]; simpa using hq.2
          · simp only [cO (show i < 9223372036854775807 by omega)]; exact e) (fun i hi hq => by
          obtain ⟨c, ec, hc⟩ := Rm l sc (rd (.int .i64) seats (i : Int)) i hs h1 (by omega)
          refine E2.eq (fun k m => eT.aA k m l seats seats _ _ sc) (E2.pos (by omega) (E2.pos (by omega) (E2.pos (by omega) (E2.pos (by omega) (E2.pos (by omega) (E2.bind (jB _ _ ?_) ?_))))))
          · simp; omega
          rw [Gu]
          by_cases hm : (rd (.int .i64) seats (i : Int)) ∈ seats.take i
          · exact E2.pos (by simpa using hm) E2.ret
          · exact E2.neg (by simpa using hm) (E2.bind ec (E2.pos (fun h => hq ⟨hc.1 h, hm⟩) E2.ret)))
        exact ⟨r, Ev.eq (fun k => nC k l sc seats) (Ev.bind ea (Ev.neg (by simpa using ca) (Ev.bind (dD sc h1) (Ev.neg (by simpa using cs) (Ev.neg (by omega) (Ev.loop (f := fun k m => eT.l0 k m l seats seats ((List.length seats : Nat) : Int) 0 sc) er)))))), hr.trans ⟨fun h => ⟨h.1, ha.1 ca, cs, c4⟩, fun h => ⟨h.1, rfl⟩⟩⟩
      · exact ⟨false, Ev.eq (fun k => nC k l sc seats) (Ev.bind ea (Ev.neg (by simpa using ca) (Ev.bind (dD sc h1) (Ev.neg (by simpa using cs) (Ev.pos (by omega) Ev.ret))))), by simp only [Bool.false_eq_true, false_iff]; exact fun h => c4 h.2.2.2⟩
    · exact ⟨false, Ev.eq (fun k => nC k l sc seats) (Ev.bind ea (Ev.neg (by simpa using ca) (Ev.bind (dD sc h1) (Ev.pos (by simpa using cs) Ev.ret)))), by simp only [Bool.false_eq_true, false_iff]; exact fun h => cs h.2.2.1⟩
  · exact ⟨false, Ev.eq (fun k => nC k l sc seats) (Ev.bind ea (Ev.pos ca Ev.ret)), by simp only [Bool.false_eq_true, false_iff]; exact fun h => ca (ha.2 h.2.1)⟩
structure Sm (o : bg) : Prop where
  score : o.1.length <= 1048576
  qY : o.2.2.1.length <= 2097152
  Gv : UG o.2.2.2.1
  seats : o.2.2.2.2.1.length <= 1048576
  marks : o.2.2.2.2.2.1.length <= 1048576
  letters : o.2.2.2.2.2.2.1.length <= 1048576
theorem OI {o : bg} (h : Bk jC o) : Sm o := by
  refine ⟨h.1.1, Nat.le_trans h.2.2.1.1 (by omega), ⟨h.2.2.2.1.1, fun i hi => ?_⟩, h.2.2.2.2.1.1, h.2.2.2.2.2.1.1, h.2.2.2.2.2.2.1.1⟩
  rw [fK hi]
  exact (h.2.2.2.1.2 _ (List.getElem_mem hi)).2.2.2.1.1
theorem yc (o : bg) (h : Sm o) : ∃ r, Ev (fun k => fU k o) r /\ Ev (fun k => dL k o) r := by
  obtain ⟨m, Qt, XP⟩ := Mx o.2.1
  obtain ⟨a, ea, ha⟩ := vk o.2.2.2.2.2.1 h.marks
  obtain ⟨a', UW, ha'⟩ := yO o.2.2.2.2.2.1 h.marks
  obtain rfl : a' = a := by rw [Bool.eq_iff_iff]; exact ha'.trans ha.symm
  obtain ⟨b, eb, hb⟩ := Ai o.2.2.2.2.2.2.1 h.letters
  obtain ⟨b', eb', hb'⟩ := Aj o.2.2.2.2.2.2.1 h.letters
  obtain rfl : b' = b := by rw [Bool.eq_iff_iff]; exact hb'.trans hb.symm
  obtain ⟨c, ec, hc⟩ := Ak o.2.2.2.1 o.1 o.2.2.2.2.1 h.Gv h.score h.seats
  obtain ⟨c', ZF, hc'⟩ := wh o.2.2.2.1 o.1 o.2.2.2.2.1 h.Gv h.score h.seats
  obtain rfl : c' = c := by rw [Bool.eq_iff_iff]; exact hc'.trans hc.symm
  by_cases d1 : eF o.1
  · by_cases d2 : m = true
    · by_cases d3 : Ah o.2.2.1
      · by_cases d4 : a' = true
        · by_cases d5 : b' = true
          · by_cases d6 : c' = true
            · by_cases d7 : 1 <= (o.2.2.2.2.2.2.2.1 : Int) /\ (o.2.2.2.2.2.2.2.1 : Int) <= 9999
              · exact ⟨_, Ev.eq (fun k => bM k o) (Ev.bind (dw _ h.score) (Ev.pos (by simpa using d1) (Ev.bind Qt (Ev.pos d2 (Ev.bind (gW _ h.qY) (Ev.pos (by simpa using d3) (Ev.bind ea (Ev.pos d4 (Ev.bind eb (Ev.pos d5 (Ev.bind ec (Ev.pos d6 (Ev.bind (bN _ _ _) (Ev.pos (by simpa using d7) (Ev.bind (bN _ _ _) Ev.ret))))))))))))))),
                  Ev.eq (fun k => fF k o) (Ev.bind (dD _ h.score) (Ev.pos (by simpa using d1) (Ev.bind XP (Ev.pos d2 (Ev.bind (lF _ h.qY) (Ev.pos (by simpa using d3) (Ev.bind UW (Ev.pos d4 (Ev.bind eb' (Ev.pos d5 (Ev.bind ZF (Ev.pos d6 (Ev.bind (aI _ _ _) (Ev.pos (by simpa using d7) (Ev.bind (aI _ _ _) Ev.ret)))))))))))))))⟩
              · exact ⟨false, Ev.eq (fun k => bM k o) (Ev.bind (dw _ h.score) (Ev.pos (by simpa using d1) (Ev.bind Qt (Ev.pos d2 (Ev.bind (gW _ h.qY) (Ev.pos (by simpa using d3) (Ev.bind ea (Ev.pos d4 (Ev.bind eb (Ev.pos d5 (Ev.bind ec (Ev.pos d6 (Ev.bind (bN _ _ _) (Ev.neg (by simpa using d7) Ev.ret)))))))))))))),
                  Ev.eq (fun k => fF k o) (Ev.bind (dD _ h.score) (Ev.pos (by simpa using d1) (Ev.bind XP (Ev.pos d2 (Ev.bind (lF _ h.qY) (Ev.pos (by simpa using d3) (Ev.bind UW (Ev.pos d4 (Ev.bind eb' (Ev.pos d5 (Ev.bind ZF (Ev.pos d6 (Ev.bind (aI _ _ _) (Ev.neg (by simpa using d7) Ev.ret))))))))))))))⟩
            · exact ⟨false, Ev.eq (fun k => bM k o) (Ev.bind (dw _ h.score) (Ev.pos (by simpa using d1) (Ev.bind Qt (Ev.pos d2 (Ev.bind (gW _ h.qY) (Ev.pos (by simpa using d3) (Ev.bind ea (Ev.pos d4 (Ev.bind eb (Ev.pos d5 (Ev.bind ec (Ev.neg d6 Ev.ret)))))))))))),
                Ev.eq (fun k => fF k o) (Ev.bind (dD _ h.score) (Ev.pos (by simpa using d1) (Ev.bind XP (Ev.pos d2 (Ev.bind (lF _ h.qY) (Ev.pos (by simpa using d3) (Ev.bind UW (Ev.pos d4 (Ev.bind eb' (Ev.pos d5 (Ev.bind ZF (Ev.neg d6 Ev.ret))))))))))))⟩
          · exact ⟨false, Ev.eq (fun k => bM k o) (Ev.bind (dw _ h.score) (Ev.pos (by simpa using d1) (Ev.bind Qt (Ev.pos d2 (Ev.bind (gW _ h.qY) (Ev.pos (by simpa using d3) (Ev.bind ea (Ev.pos d4 (Ev.bind eb (Ev.neg d5 Ev.ret)))))))))),
              Ev.eq (fun k => fF k o) (Ev.bind (dD _ h.score) (Ev.pos (by simpa using d1) (Ev.bind XP (Ev.pos d2 (Ev.bind (lF _ h.qY) (Ev.pos (by simpa using d3) (Ev.bind UW (Ev.pos d4 (Ev.bind eb' (Ev.neg d5 Ev.ret))))))))))⟩
        · exact ⟨false, Ev.eq (fun k => bM k o) (Ev.bind (dw _ h.score) (Ev.pos (by simpa using d1) (Ev.bind Qt (Ev.pos d2 (Ev.bind (gW _ h.qY) (Ev.pos (by simpa using d3) (Ev.bind ea (Ev.neg d4 Ev.ret)))))))),
            Ev.eq (fun k => fF k o) (Ev.bind (dD _ h.score) (Ev.pos (by simpa using d1) (Ev.bind XP (Ev.pos d2 (Ev.bind (lF _ h.qY) (Ev.pos (by simpa using d3) (Ev.bind UW (Ev.neg d4 Ev.ret))))))))⟩
      · exact ⟨false, Ev.eq (fun k => bM k o) (Ev.bind (dw _ h.score) (Ev.pos (by simpa using d1) (Ev.bind Qt (Ev.pos d2 (Ev.bind (gW _ h.qY) (Ev.neg (by simpa using d3) Ev.ret)))))),
          Ev.eq (fun k => fF k o) (Ev.bind (dD _ h.score) (Ev.pos (by simpa using d1) (Ev.bind XP (Ev.pos d2 (Ev.bind (lF _ h.qY) (Ev.neg (by simpa using d3) Ev.ret))))))⟩
    · exact ⟨false, Ev.eq (fun k => bM k o) (Ev.bind (dw _ h.score) (Ev.pos (by simpa using d1) (Ev.bind Qt (Ev.neg d2 Ev.ret)))),
        Ev.eq (fun k => fF k o) (Ev.bind (dD _ h.score) (Ev.pos (by simpa using d1) (Ev.bind XP (Ev.neg d2 Ev.ret))))⟩
  · exact ⟨false, Ev.eq (fun k => bM k o) (Ev.bind (dw _ h.score) (Ev.neg (by simpa using d1) Ev.ret)),
      Ev.eq (fun k => fF k o) (Ev.bind (dD _ h.score) (Ev.neg (by simpa using d1) Ev.ret))⟩
theorem JY (m : cu) : ∃ r, Ev (fun k => uU k m) r := by
  by_cases c1 : 1 <= (m.1 : Int) /\ (m.1 : Int) <= 12
  · by_cases d1 : (m.2.1 : Int) = 1
    · exact ⟨true, Ev.eq (fun k => gV k m) (Ev.bind (bN _ _ _) (Ev.pos (by simpa using c1) (Ev.pos d1 Ev.ret)))⟩
    · by_cases d2 : (m.2.1 : Int) = 2
      · exact ⟨true, Ev.eq (fun k => gV k m) (Ev.bind (bN _ _ _) (Ev.pos (by simpa using c1) (Ev.neg d1 (Ev.pos d2 Ev.ret))))⟩
      · by_cases d3 : (m.2.1 : Int) = 4
        · exact ⟨true, Ev.eq (fun k => gV k m) (Ev.bind (bN _ _ _) (Ev.pos (by simpa using c1) (Ev.neg d1 (Ev.neg d2 (Ev.pos d3 Ev.ret)))))⟩
        · exact ⟨_, Ev.eq (fun k => gV k m) (Ev.bind (bN _ _ _) (Ev.pos (by simpa using c1) (Ev.neg d1 (Ev.neg d2 (Ev.neg d3 Ev.ret)))))⟩
  · exact ⟨false, Ev.eq (fun k => gV k m) (Ev.bind (bN _ _ _) (Ev.neg (by simpa using c1) Ev.ret))⟩
theorem Je (o : bg) (h : Sm o) : ∃ r, Ev (fun k => fU k o) r := by
  obtain ⟨m, Qt⟩ := JY o.2.1
  obtain ⟨a', ea, ha⟩ := vk o.2.2.2.2.2.1 h.marks
  obtain ⟨b', eb, hb⟩ := Ai o.2.2.2.2.2.2.1 h.letters
  obtain ⟨c', ec, hc⟩ := Ak o.2.2.2.1 o.1 o.2.2.2.2.1 h.Gv h.score h.seats
  by_cases d1 : eF o.1
  · by_cases d2 : m = true
    · by_cases d3 : Ah o.2.2.1
      · by_cases d4 : a' = true
        · by_cases d5 : b' = true
          · by_cases d6 : c' = true
            · by_cases d7 : 1 <= (o.2.2.2.2.2.2.2.1 : Int) /\ (o.2.2.2.2.2.2.2.1 : Int) <= 9999
              · exact ⟨_, Ev.eq (fun k => bM k o) (Ev.bind (dw _ h.score) (Ev.pos (by simpa using d1) (Ev.bind Qt (Ev.pos d2 (Ev.bind (gW _ h.qY) (Ev.pos (by simpa using d3) (Ev.bind ea (Ev.pos d4 (Ev.bind eb (Ev.pos d5 (Ev.bind ec (Ev.pos d6 (Ev.bind (bN _ _ _) (Ev.pos (by simpa using d7) (Ev.bind (bN _ _ _) Ev.ret)))))))))))))))⟩
              · exact ⟨false, Ev.eq (fun k => bM k o) (Ev.bind (dw _ h.score) (Ev.pos (by simpa using d1) (Ev.bind Qt (Ev.pos d2 (Ev.bind (gW _ h.qY) (Ev.pos (by simpa using d3) (Ev.bind ea (Ev.pos d4 (Ev.bind eb (Ev.pos d5 (Ev.bind ec (Ev.pos d6 (Ev.bind (bN _ _ _) (Ev.neg (by simpa using d7) Ev.ret))))))))))))))⟩
            · exact ⟨false, Ev.eq (fun k => bM k o) (Ev.bind (dw _ h.score) (Ev.pos (by simpa using d1) (Ev.bind Qt (Ev.pos d2 (Ev.bind (gW _ h.qY) (Ev.pos (by simpa using d3) (Ev.bind ea (Ev.pos d4 (Ev.bind eb (Ev.pos d5 (Ev.bind ec (Ev.neg d6 Ev.ret))))))))))))⟩
          · exact ⟨false, Ev.eq (fun k => bM k o) (Ev.bind (dw _ h.score) (Ev.pos (by simpa using d1) (Ev.bind Qt (Ev.pos d2 (Ev.bind (gW _ h.qY) (Ev.pos (by simpa using d3) (Ev.bind ea (Ev.pos d4 (Ev.bind eb (Ev.neg d5 Ev.ret))))))))))⟩
        · exact ⟨false, Ev.eq (fun k => bM k o) (Ev.bind (dw _ h.score) (Ev.pos (by simpa using d1) (Ev.bind Qt (Ev.pos d2 (Ev.bind (gW _ h.qY) (Ev.pos (by simpa using d3) (Ev.bind ea (Ev.neg d4 Ev.ret))))))))⟩
      · exact ⟨false, Ev.eq (fun k => bM k o) (Ev.bind (dw _ h.score) (Ev.pos (by simpa using d1) (Ev.bind Qt (Ev.pos d2 (Ev.bind (gW _ h.qY) (Ev.neg (by simpa using d3) Ev.ret))))))⟩
    · exact ⟨false, Ev.eq (fun k => bM k o) (Ev.bind (dw _ h.score) (Ev.pos (by simpa using d1) (Ev.bind Qt (Ev.neg d2 Ev.ret))))⟩
  · exact ⟨false, Ev.eq (fun k => bM k o) (Ev.bind (dw _ h.score) (Ev.neg (by simpa using d1) Ev.ret))⟩
theorem XQ (l : List bF) (h : Bk (.list dx) l) : Ev (fun k => gY k l) l := by
  have hl : l.length <= 1048576 := h.1
  have key : ∀ d (i : Nat) (s : List bF), i + d = l.length -> s.length = i -> s ++ l.drop i = l -> E2 (fun k m => gY.l0 k m l (i : Int) s) l := by
    intro d
    induction d with
    | zero =>
      intro i s hi hs ht
      have hi : i = l.length := by omega
      subst hi
      have e : E2 (fun k m => gY.l0 k m l ((l.length : Nat) : Int) s) s := by
        refine E2.eq (fun k m => gY.aA k m l _ s) ?_
        refine E2.neg (by omega) ?_
        exact E2.ret
      exact e.val (by rw [<- ht]; simp)
    | succ d ih =>
      intro i s hi hs ht
      have hi' : i < l.length := by omega
      have hb := (bk_rd h hi').2.2.2.1.1
      refine E2.eq (fun k m => gY.aA k m l _ s) ?_
      refine E2.pos (by omega) ?_
      refine E2.pos (by omega) ?_
      refine E2.pos (by omega) ?_
      refine E2.pos (by simp only [List.length_nil]; omega) ?_
      refine E2.pos (by simp only [List.length_cons, List.length_nil]; omega) ?_
      simp only [cO (show i < 9223372036854775807 by omega)]
      refine ih (i + 1) _ (by omega) (by simp; omega) ?_
      rw [List.append_assoc]
      refine Eq.trans ?_ ht
      congr 1
      exact (Ri (t := dx) hi').symm
  exact Ev.eq (fun k => FL k l) (Ev.loop (f := fun k m => gY.l0 k m l 0 []) (key l.length 0 [] (by omega) rfl (by simp)))
theorem wm (o : bg) (h : Bk jC o) : Ev (fun k => jV k o) o := by
  have h1 := h.1.1
  have h2 := h.2.2.1.1
  have h4 := h.2.2.2.2.1.1
  have h5 := h.2.2.2.2.2.1.1
  have h6 := h.2.2.2.2.2.2.1.1
  refine Ev.eq (fun k => FH k o) ?_
  refine Ev.pos (by simp only [List.length_nil]; omega) ?_
  refine Ev.pos (by simp only [List.length_nil]; omega) ?_
  refine Ev.bind (XQ o.2.2.2.1 h.2.2.2.1) ?_
  refine Ev.pos (by simp only [List.length_nil]; omega) ?_
  refine Ev.pos (by simp only [List.length_nil]; omega) ?_
  refine Ev.pos (by simp only [List.length_nil]; omega) ?_
  exact Ev.ret
theorem KY (l : List Int) (hl : l.length <= 1048576) : Ev (fun k => qR k l) l :=
  Ev.eq (fun k => Dq k l) (Ev.pos (by simp only [List.length_nil]; omega) Ev.ret)
theorem Sv (l : List cu) (hl : l.length <= 1048576) : Ev (fun k => mZ k l) l :=
  Ev.eq (fun k => xu k l) (Ev.pos (by simp only [List.length_nil]; omega) Ev.ret)
theorem yg (l : List bf) (hl : l.length <= 1048576) : Ev (fun k => iP k l) l :=
  Ev.eq (fun k => xX k l) (Ev.pos (by simp only [List.length_nil]; omega) Ev.ret)
theorem Sw (l : List cu) (hl : l.length <= 1048576) : Ev (fun k => mH k l) l :=
  Ev.eq (fun k => wz k l) (Ev.pos (by simp only [List.length_nil]; omega) Ev.ret)
theorem KZ (p : bF) (h : Bk dx p) : Ev (fun k => oq k p) p :=
  Ev.eq (fun k => AU k p) (Ev.bind (KY _ h.2.2.2.1.1) Ev.ret)
theorem qz (o : bg) (h : Bk jC o) : Ev (fun k => au k o) o := by
  have hp : Bk (.list dx) o.2.2.2.1 := h.2.2.2.1
  have hl : o.2.2.2.1.length <= 1048576 := hp.1
  have key : ∀ d (i : Nat) (s : List bF), i + d = o.2.2.2.1.length -> s.length = i -> s ++ o.2.2.2.1.drop i = o.2.2.2.1 -> E2 (fun k m => au.l0 k m o.2.2.2.1 ((List.length o.2.2.2.1 : Nat) : Int) (i : Int) o.1 o.2.1.1 o.2.1.2.1 o.2.2.1 o.2.2.2.1 o.2.2.2.2.1 o.2.2.2.2.2.1 o.2.2.2.2.2.2.1 o.2.2.2.2.2.2.2.1 o.2.2.2.2.2.2.2.2.1 0 0 0 0 s) o := by
    intro d
    induction d with
    | zero =>
      intro i s hi hs ht
      have hi : i = o.2.2.2.1.length := by omega
      subst hi
      have hs' : s = o.2.2.2.1 := by rw [<- ht]; simp
      subst hs'
      refine E2.eq (fun k m => au.aA k m _ _ _ _ _ _ _ _ _ _ _ _ _ _ _ _ _ _) ?_
      refine E2.neg (by omega) ?_
      refine E2.bind (jF _ h.1.1) ?_
      refine E2.bind (Sv _ h.2.2.1.1) ?_
      refine E2.bind (KY _ h.2.2.2.2.1.1) ?_
      refine E2.bind (yg _ h.2.2.2.2.2.1.1) ?_
      refine E2.bind (Sw _ h.2.2.2.2.2.2.1.1) ?_
      exact E2.ret
    | succ d ih =>
      intro i s hi hs ht
      have hi' : i < o.2.2.2.1.length := by omega
      refine E2.eq (fun k m => au.aA k m _ _ _ _ _ _ _ _ _ _ _ _ _ _ _ _ _ _) ?_
      refine E2.pos (by omega) ?_
      refine E2.pos (by omega) ?_
      refine E2.pos (by omega) ?_
      refine E2.bind (KZ _ (bk_rd hp hi')) ?_
      refine E2.pos (by simp only [List.length_cons, List.length_nil]; omega) ?_
      simp only [cO (show i < 9223372036854775807 by omega)]
      refine ih (i + 1) _ (by omega) (by simp; omega) ?_
      rw [List.append_assoc]
      refine Eq.trans ?_ ht
      congr 1
      exact (Ri (t := dx) hi').symm
  exact Ev.eq (fun k => wu k o) (Ev.loop (f := fun k m => au.l0 k m o.2.2.2.1 ((List.length o.2.2.2.1 : Nat) : Int) 0 o.1 o.2.1.1 o.2.1.2.1 o.2.2.1 o.2.2.2.1 o.2.2.2.2.1 o.2.2.2.2.2.1 o.2.2.2.2.2.2.1 o.2.2.2.2.2.2.2.1 o.2.2.2.2.2.2.2.2.1 0 0 0 0 []) (key o.2.2.2.1.length 0 [] (by omega) rfl (by simp)))
def FT (l : List cu) (x : cu) (p : Nat) : List cu := if p < l.length /\ ((rd dV l (p : Int)).1 : Int) = x.1 then l.take p ++ [x] ++ l.drop (p + 1) else l.take p ++ [x] ++ l.drop p
theorem UY (l : List cu) (x : cu) (p : Nat) (hp : p <= l.length) : (FT l x p).length <= l.length + 1 := by
  unfold FT
  split
  · simp; omega
  · simp; omega
theorem Sy (l : List cu) (x : cu) (hl : l.length <= 1048576) (p : Nat) (hp : p <= l.length) (h1 : ∀ j, j < p -> ((rd dV l (j : Int)).1 : Int) < x.1) (h2 : p < l.length -> ¬ ((rd dV l (p : Int)).1 : Int) < x.1) :
    Ev (fun k => aY k l x) (if p < l.length then (p : Int) else -1) := by
  have key : ∀ d i : Nat, i + d = p -> E2 (fun k m => aY.l0 k m l x ((List.length l : Nat) : Int) (i : Int)) (if p < l.length then (p : Int) else -1) := by
    intro d
    induction d with
    | zero =>
      intro i hi
      have hi : i = p := by omega
      subst hi
      refine E2.eq (fun k m => aY.aA k m l x _ _) ?_
      by_cases c : i < l.length
      · refine E2.pos (by omega) (E2.pos (by omega) (E2.pos (by omega) (E2.bind (Ev.eq (fun k => rC k _ _) Ev.ret) ?_)))
        have := h2 c
        exact E2.pos (by simp only [decide_eq_true_eq]; exact Int.not_lt.1 this) (E2.ret.val (by rw [if_pos c]))
      · exact E2.neg (by omega) (E2.ret.val (by rw [if_neg c]))
    | succ d ih =>
      intro i hi
      refine E2.eq (fun k m => aY.aA k m l x _ _) ?_
      refine E2.pos (by omega) (E2.pos (by omega) (E2.pos (by omega) (E2.bind (Ev.eq (fun k => rC k _ _) Ev.ret) ?_)))
      have := h1 i (by omega)
      refine E2.neg (by simp only [decide_eq_true_eq]; exact Int.not_le.2 this) ?_
      simp only [cO (show i < 9223372036854775807 by omega)]
      exact ih (i + 1) (by omega)
  exact Ev.eq (fun k => ql k l x) (Ev.loop (f := fun k m => aY.l0 k m l x ((List.length l : Nat) : Int) 0) (key p 0 (by omega)))
theorem Ev.uniq {α : Type} {f : Nat -> Option α} {a b : α} (h : Ev f a) (k : Ev f b) : a = b := by
  obtain ⟨K, h⟩ := h
  obtain ⟨M, k⟩ := k
  have h1 := h (max K M) (by omega)
  rw [k (max K M) (by omega)] at h1
  exact (Option.some.inj h1).symm
theorem oz (Q : Nat -> Prop) : ∀ n, ∃ p, p <= n /\ (∀ j, j < p -> Q j) /\ (p < n -> ¬ Q p)
  | 0 => ⟨0, Nat.le_refl _, fun j hj => by omega, fun h => by omega⟩
  | n + 1 => by
    obtain ⟨p, h1, h2, h3⟩ := oz Q n
    by_cases hp : p < n
    · exact ⟨p, by omega, h2, fun _ => h3 hp⟩
    · have : p = n := by omega
      subst this
      by_cases hq : Q p
      · exact ⟨p + 1, Nat.le_refl _, fun j hj => by
          by_cases h : j = p
          · subst h; exact hq
          · exact h2 j (by omega), fun h => by omega⟩
      · exact ⟨p, by omega, h2, fun _ => hq⟩
theorem XR (x y : Int) : Ev (fun k => IU k x y) (if y < x then y else x) := by
  refine Ev.eq (fun k => OB k x y) ?_
  by_cases c : y < x
  · exact (Ev.pos c Ev.ret).val (by rw [if_pos c])
  · exact (Ev.neg c Ev.ret).val (by rw [if_neg c])
theorem Rn (x e : aF) : Ev (fun k => uy k x e) (decide (¬ Ac x e)) :=
  Ev.eq (fun k => Ct k x e) (Ev.bind (xS x e) (Ev.ret.val (by
    have := Az x e
    by_cases h : Ac x e
    · have := this.2 h; simp [h]; omega
    · have := mt this.1 h; simp [h]; omega)))
theorem Sz {a b c : aF} (h : Ac a b) (k : Ac b c) : Ac a c := by unfold Ac at *; omega
theorem Wz (a : aF) : ¬ Ac a a := by unfold Ac; omega
theorem La {l : List aF} (h : ∀ i, i < l.length -> QS l i) : ∀ d i : Nat, i + d + 1 < l.length -> Ac (rd bL l (i : Int)) (rd bL l ((i + d + 1 : Nat) : Int)) := by
  intro d
  induction d with
  | zero => intro i hi; exact (h (i + 1) (by omega)).2 (by omega)
  | succ d ih => intro i hi; exact Sz (ih i (by omega)) ((h (i + (d + 1) + 1) (by omega)).2 (by omega))
theorem OJ {l : List aF} (h : ∀ i, i < l.length -> QS l i) {i j : Nat} (hij : i < j) (hj : j < l.length) : rd bL l (i : Int) ≠ rd bL l (j : Int) := fun e => by
  have := La h (j - i - 1) i (by omega)
  rw [show i + (j - i - 1) + 1 = j by omega, e] at this
  exact Wz _ this
theorem UZ (a b : aF) : ((a.1 : Int) = b.1 /\ ((a.2.1 : Int) = b.2.1 /\ ((a.2.2.1 : Int) = b.2.2.1 /\ (a.2.2.2.1 : Int) = b.2.2.2.1))) ↔ a = b := by
  obtain ⟨a1, a2, a3, a4, ⟨⟩⟩ := a
  obtain ⟨b1, b2, b3, b4, ⟨⟩⟩ := b
  constructor
  · rintro ⟨h1, h2, h3, h4⟩
    simp only at h1 h2 h3 h4
    rw [h1, h2, h3, h4]
  · intro h
    injection h with h1 h
    injection h with h2 h
    injection h with h3 h
    injection h with h4 h
    exact ⟨h1, h2, h3, h4⟩
def Jf (l : List aF) (e : aF) (i : Nat) : List aF := (l.take i).filter fun x => decide (x ≠ e)
theorem SA {l : List aF} {e : aF} {i : Nat} : (Jf l e i).length <= l.length := by
  unfold Jf
  refine Nat.le_trans (List.length_filter_le _ _) ?_
  simp
  omega
theorem OL {l : List aF} {e : aF} {p : Nat} (h : ∀ i, i < l.length -> QS l i) (hp : p < l.length) (he : rd bL l (p : Int) = e) : Jf l e l.length = l.take p ++ l.drop (p + 1) := by
  have hne : ∀ j : Nat, (hj : j < l.length) -> j ≠ p -> l[j] ≠ e := fun j hj hjp Nf => by
    have Nf : rd bL l (j : Int) = e := (fK (t := bL) (l := l) hj).trans Nf
    rcases Nat.lt_or_gt_of_ne hjp with hlt | hgt
    · exact OJ h hlt hp (Nf.trans he.symm)
    · exact OJ h hgt hj (he.trans Nf.symm)
  unfold Jf
  rw [List.take_length]
  have e1 : l = l.take p ++ l[p] :: l.drop (p + 1) := by
    have := List.take_append_drop p l
    rw [List.drop_eq_getElem_cons hp] at this
    exact this.symm
  have hpe : l[p] = e := (fK (t := bL) (l := l) hp).symm.trans he
  have f1 : (l.take p).filter (fun x => decide (x ≠ e)) = l.take p := List.filter_eq_self.2 fun x hx => by
    obtain ⟨j, hj, rfl⟩ := List.getElem_of_mem hx
    have hj' : j < p := by simp at hj; omega
    rw [List.getElem_take]
    simpa using hne j (by omega) (by omega)
  have f2 : (l.drop (p + 1)).filter (fun x => decide (x ≠ e)) = l.drop (p + 1) := List.filter_eq_self.2 fun x hx => by
    obtain ⟨j, hj, rfl⟩ := List.getElem_of_mem hx
    have hj' : p + 1 + j < l.length := by simp at hj; omega
    rw [List.getElem_drop]
    simpa using hne (p + 1 + j) hj' (by omega)
  conv => lhs; rw [e1]
  rw [List.filter_append, List.filter_cons, f1, f2]
  simp [hpe]
def Vz (a b : bf) : Prop := (a.1 : Int) = b.1 /\ (a.2.1 : Int) = b.2.1
instance (a b : bf) : Decidable (Vz a b) := by unfold Vz; infer_instance
def WA (a b : bf) : Prop := (b.2.2.2.1 : Int) < a.2.2.2.1 \/ (b.2.2.2.1 : Int) = a.2.2.2.1 /\ ((b.2.2.2.2.1 : Int) < a.2.2.2.2.1 \/ (b.2.2.2.2.1 : Int) = a.2.2.2.2.1 /\ (b.2.2.1 : Int) < a.2.2.1)
instance (a b : bf) : Decidable (WA a b) := by unfold WA; infer_instance
theorem SE (a b : bf) : Ev (fun k => uW k a b) (decide (WA a b)) := by
  refine Ev.eq (fun k => FP k a b) ?_
  unfold WA
  by_cases c1 : (a.2.2.2.1 : Int) = b.2.2.2.1
  · refine Ev.neg (by omega) ?_
    by_cases c2 : (a.2.2.2.2.1 : Int) = b.2.2.2.2.1
    · exact Ev.neg (by omega) (Ev.ret.val (by congr 1; exact propext ⟨fun h => .inr ⟨c1.symm, .inr ⟨c2.symm, h⟩⟩, fun h => by omega⟩))
    · exact Ev.pos (by omega) (Ev.ret.val (by congr 1; exact propext ⟨fun h => .inr ⟨c1.symm, .inl h⟩, fun h => by omega⟩))
  · exact Ev.pos (by omega) (Ev.ret.val (by congr 1; exact propext ⟨fun h => .inl h, fun h => by omega⟩))
theorem SF (a b : bf) : Ev (fun k => yM k a b) (decide (WA a b)) :=
  Ev.eq (fun k => FR k a b) (Ev.bind (uj _ _) (Ev.bind (uj _ _) (Ev.bind (uj _ _) (Ev.bind (Rj _ _ _) (Ev.ret.val (by
    congr 1
    unfold WA Mj zh
    refine propext ?_
    repeat' split
    all_goals omega))))))
def zu (l : List bf) (x : bf) (p : Nat) : List bf :=
  if p < l.length /\ Vz (rd eP l (p : Int)) x then (if WA x (rd eP l (p : Int)) then l.take p ++ [x] ++ l.drop (p + 1) else l) else l.take p ++ [x] ++ l.drop p
theorem OM (l : List bf) (x : bf) (p : Nat) (hp : p <= l.length) : (zu l x p).length <= l.length + 1 := by
  unfold zu
  split
  · split
    · simp; omega
    · omega
  · simp; omega
theorem Va {l : List bf} {i : Nat} (hi : i < l.length) : rd eP (l.drop i) (0 : Int) = rd eP l (i : Int) := by
  show (l.drop i).getD (Int.toNat 0) _ = l.getD (Int.toNat (i : Int)) _
  simp [List.getD]
theorem Ro (l : List bf) (x : bf) (hl : l.length <= 1048576) (p : Nat) (hp : p <= l.length) (h1 : ∀ j, j < p -> vg (rd eP l (j : Int)) x) (h2 : p < l.length -> ¬ vg (rd eP l (p : Int)) x) : Ev (fun k => je k l x) (zu l x p) := by
  have key : ∀ d i : Nat, i + d = p -> E2 (fun k m => je.l0 k m l (i : Int) x.1 x.2.1 x.2.2.1 x.2.2.2.1 x.2.2.2.2.1) (zu l x p) := by
    intro d
    induction d with
    | zero =>
      intro i hi
      have hi : i = p := by omega
      subst hi
      have hrest : List.take ((Int.toNat ((List.length l : Nat) : Int)) - (Int.toNat (i : Int))) (List.drop (Int.toNat (i : Int)) l) = l.drop i := by
        simp only [Int.toNat_natCast]
        rw [List.take_of_length_le (by simp)]
      have htake : List.take ((Int.toNat (i : Int)) - (Int.toNat 0)) (List.drop (Int.toNat 0) l) = l.take i := by simp
      have XT : List.take ((Int.toNat ((List.length (l.drop i) : Nat) : Int)) - (Int.toNat 1)) (List.drop (Int.toNat 1) (l.drop i)) = l.drop (i + 1) := by
        have : Int.toNat 1 = 1 := rfl
        rw [this, Int.toNat_natCast, List.drop_drop, List.take_of_length_le (by simp; omega)]
      have hdl : (l.drop i).length = l.length - i := by simp
      have htl : (l.take i).length = i := by simp; omega
      have hx : (x.1, (x.2.1, (x.2.2.1, (x.2.2.2.1, (x.2.2.2.2.1, ()))))) = x := rfl
      refine E2.eq (fun k m => je.aA k m l _ _ _ _ _ _) ?_
      simp only [hrest, htake, XT, hx]
      by_cases c : i < l.length
      · refine E2.pos (by omega) (E2.pos (by omega) (E2.pos (by omega) (E2.bind (yN _ _) (E2.neg (by simpa using h2 c) ?_))))
        refine E2.pos (by omega) (E2.pos (by omega) (E2.pos (by rw [hdl]; omega) (E2.pos (by omega) (E2.pos (by rw [hdl]; omega) ?_))))
        simp only [Va c]
        have last : ¬ (i < l.length /\ Vz (rd eP l (i : Int)) x) -> zu l x i = ([] ++ l.take i) ++ [x] ++ l.drop i := fun h => by unfold zu; rw [if_neg h]; rfl
        by_cases q1 : ((rd eP l (i : Int)).1 : Int) = x.1
        · refine E2.pos q1 (E2.pos (by omega) (E2.pos (by rw [hdl]; omega) ?_))
          by_cases q2 : ((rd eP l (i : Int)).2.1 : Int) = x.2.1
          · refine E2.pos q2 (E2.pos (by omega) (E2.pos (by rw [hdl]; omega) (E2.bind (SE _ _) ?_)))
            have hk : i < l.length /\ Vz (rd eP l (i : Int)) x := ⟨c, q1, q2⟩
            by_cases q3 : WA x (rd eP l (i : Int))
            · refine E2.neg (by simpa using q3) (E2.pos (by omega) (E2.pos (by rw [hdl]; omega) (E2.pos (by omega) (E2.pos (by omega) (E2.pos (by simp only [List.length_nil, htl]; omega) (E2.pos (by simp only [List.length_append, List.length_nil, List.length_singleton, htl]; omega) (E2.pos (by simp only [List.length_append, List.length_nil, List.length_singleton, List.length_drop, htl]; omega) ?_)))))))
              exact E2.ret.val (by unfold zu; rw [if_pos hk, if_pos q3]; rfl)
            · exact E2.pos (by simpa using q3) (E2.pos (by simp only [List.length_nil]; omega) (E2.ret.val (by unfold zu; rw [if_pos hk, if_neg q3]; rfl)))
          · refine E2.neg q2 (E2.pos (by omega) (E2.pos (by omega) (E2.pos (by simp only [List.length_nil, htl]; omega) (E2.pos (by simp only [List.length_append, List.length_nil, List.length_singleton, htl]; omega) (E2.pos (by simp only [List.length_append, List.length_nil, List.length_singleton, List.length_drop, htl]; omega) ?_)))))
            exact E2.ret.val (last fun h => q2 h.2.2).symm
        · refine E2.neg q1 (E2.pos (by omega) (E2.pos (by omega) (E2.pos (by simp only [List.length_nil, htl]; omega) (E2.pos (by simp only [List.length_append, List.length_nil, List.length_singleton, htl]; omega) (E2.pos (by simp only [List.length_append, List.length_nil, List.length_singleton, List.length_drop, htl]; omega) ?_)))))
          exact E2.ret.val (last fun h => q1 h.2.1).symm
      · refine E2.neg (by omega) (E2.pos (by omega) (E2.pos (by omega) (E2.neg (by rw [hdl]; omega) ?_)))
        refine E2.pos (by omega) (E2.pos (by omega) (E2.pos (by simp only [List.length_nil, htl]; omega) (E2.pos (by simp only [List.length_append, List.length_nil, List.length_singleton, htl]; omega) (E2.pos (by simp only [List.length_append, List.length_nil, List.length_singleton, List.length_drop, htl]; omega) ?_))))
        exact E2.ret.val (by unfold zu; rw [if_neg (fun h => c h.1)]; rfl)
    | succ d ih =>
      intro i hi
      refine E2.eq (fun k m => je.aA k m l _ _ _ _ _ _) (E2.pos (by omega) (E2.pos (by omega) (E2.pos (by omega) (E2.bind (yN _ _) (E2.pos (by simpa using h1 i (by omega)) ?_)))))
      simp only [cO (show i < 9223372036854775807 by omega)]
      exact ih (i + 1) (by omega)
  exact Ev.eq (fun k => Jc k l x) (Ev.loop (f := fun k m => je.l0 k m l 0 x.1 x.2.1 x.2.2.1 x.2.2.2.1 x.2.2.2.2.1) (key p 0 (by omega)))
theorem XU {i j : Nat} (hi : i <= 1048577) (hj : j <= 1048577) : IntKind.wrap .i64 (Int.fdiv (IntKind.wrap .u64 (IntKind.wrap .i64 ((i : Int) + (j : Int)))) (2 ^ (min (Int.toNat 1) (IntKind.bits .u64)))) = (((i + j) / 2 : Nat) : Int) := by
  have w64 : ∀ n : Int, IntKind.wrap .u64 n = n % 18446744073709551616 := fun n => by simp [IntKind.wrap, IntKind.bits, IntKind.signed]
  have e1 : IntKind.wrap .i64 ((i : Int) + (j : Int)) = ((i + j : Nat) : Int) := by rw [IntKind.wrap_i64]; omega
  have e2 : IntKind.wrap .u64 ((i + j : Nat) : Int) = ((i + j : Nat) : Int) := by rw [w64]; omega
  have e3 : (2 : Int) ^ (min (Int.toNat 1) (IntKind.bits .u64)) = 2 := rfl
  have e4 : Int.fdiv ((i + j : Nat) : Int) 2 = (((i + j) / 2 : Nat) : Int) := by
    rw [Int.fdiv_eq_ediv_of_nonneg _ (by omega)]
    omega
  rw [e1, e2, e3, e4, IntKind.wrap_i64]
  omega
theorem Jg {a b c : bf} (h : vg a b) (k : vg b c) : vg a c := by unfold vg at *; omega
theorem SG {l : List bf} (h : ∀ i, i < l.length -> QM l i) : ∀ d i : Nat, i + d + 1 < l.length -> vg (rd eP l (i : Int)) (rd eP l ((i + d + 1 : Nat) : Int)) := by
  intro d
  induction d with
  | zero => intro i hi; exact (h (i + 1) (by omega)).2 (by omega)
  | succ d ih => intro i hi; exact Jg (ih i (by omega)) ((h (i + (d + 1) + 1) (by omega)).2 (by omega))
theorem SH (a b : bf) (h : ¬ vg a b) : UU a b = 0 ↔ Vz a b := by
  unfold UU Mj zh Vz
  unfold vg at h
  repeat' split
  all_goals omega
theorem SK (l : List bf) (x : bf) (hl : l.length <= 1048576) (p : Nat) (hp : p <= l.length) (h1 : ∀ j, j < p -> vg (rd eP l (j : Int)) x) (h2 : ∀ j, p <= j -> j < l.length -> ¬ vg (rd eP l (j : Int)) x) :
    Ev (fun k => aL k l x) ((p : Int), (decide (p < l.length /\ Vz (rd eP l (p : Int)) x), ())) := by
  have hx : (x.1, (x.2.1, (x.2.2.1, (x.2.2.2.1, (x.2.2.2.2.1, ()))))) = x := rfl
  have key : ∀ d i j : Nat, j - i <= d -> i <= p -> p <= j -> j <= l.length -> E2 (fun k m => aL.l0 k m l ((List.length l : Nat) : Int) (i : Int) (j : Int) x.1 x.2.1 x.2.2.1 x.2.2.2.1 x.2.2.2.2.1) ((p : Int), (decide (p < l.length /\ Vz (rd eP l (p : Int)) x), ())) := by
    intro d
    induction d with
    | zero =>
      intro i j hd hi hj hjl
      have XE : i = p := by omega
      subst XE
      refine E2.eq (fun k m => aL.aA k m l _ _ _ _ _ _ _ _) ?_
      simp only [hx]
      refine E2.neg (by omega) ?_
      by_cases c : i < l.length
      · refine E2.pos (by omega) (E2.pos (by omega) (E2.pos (by omega) (E2.bind (AL _ _) (E2.ret.val ?_))))
        have := SH _ _ (h2 i (Nat.le_refl _) c)
        simp [c, this]
      · exact E2.neg (by omega) (E2.ret.val (by simp [c]))
    | succ d ih =>
      intro i j hd hi hj hjl
      by_cases hij : i < j
      · refine E2.eq (fun k m => aL.aA k m l _ _ _ _ _ _ _ _) ?_
        simp only [hx, XU (show i <= 1048577 by omega) (show j <= 1048577 by omega), cO (show (i + j) / 2 < 9223372036854775807 by omega)]
        refine E2.pos (by omega) (E2.neg (by omega) (E2.pos (by omega) (E2.pos (by omega) (E2.bind (AL _ _) ?_))))
        by_cases c : (i + j) / 2 < p
        · exact E2.pos ((Gt _ _).2 (h1 _ c)) (ih _ _ (by omega) (by omega) hj hjl)
        · exact E2.neg (mt (Gt _ _).1 (h2 _ (by omega) (by omega))) (ih _ _ (by omega) hi (by omega) (by omega))
      · exact ih i j (by omega) hi hj hjl
  exact Ev.eq (fun k => ng k l x) (Ev.loop (f := fun k m => aL.l0 k m l ((List.length l : Nat) : Int) 0 ((List.length l : Nat) : Int) x.1 x.2.1 x.2.2.1 x.2.2.2.1 x.2.2.2.2.1) (key l.length 0 l.length (by omega) (by omega) hp (Nat.le_refl _)))
theorem WB (l : List bf) (x : bf) (hl : l.length <= 1048576) (p : Nat) (hp : p <= l.length) (h1 : ∀ j, j < p -> vg (rd eP l (j : Int)) x) (h2 : ∀ j, p <= j -> j < l.length -> ¬ vg (rd eP l (j : Int)) x) : Ev (fun k => IW k l x) (zu l x p) := by
  refine Ev.eq (fun k => OC k l x) (Ev.bind (SK l x hl p hp h1 h2) ?_)
  by_cases c : p < l.length /\ Vz (rd eP l (p : Int)) x
  · refine Ev.neg (by simpa using c) (Ev.pos (by show (0 : Int) <= (p : Int); omega) (Ev.pos (by show (p : Int) < _; omega) (Ev.bind (SF _ _) ?_)))
    unfold zu
    rw [if_pos c]
    by_cases q : WA x (rd eP l (p : Int))
    · rw [if_pos q]
      refine Ev.pos (by simpa using q) (Ev.pos (by show (0 : Int) <= (p : Int); omega) (Ev.pos (by show (p : Int) < _; omega) (Ev.ret.val ?_)))
      show l.set (Int.toNat (p : Int)) x = _
      rw [Int.toNat_natCast, List.set_eq_take_append_cons_drop, if_pos c.1]
      simp
    · rw [if_neg q]
      exact Ev.neg (by simpa using q) Ev.ret
  · refine Ev.pos (by simpa using c) (Ev.bind ?_ Ev.ret)
    refine Ev.eq (f := fun _ => some (zu l x p)) (fun k => ?_) Ev.ret
    rw [vY]
    have := sM (T := eP) (B := 40) (l := l) (i := (p : Int)) (x := x) (by omega) (by omega) (by omega)
    unfold zu
    rw [if_neg c]
    simpa using this
theorem SL (l : List bf) (x : bf) (hl : l.length <= 1048576) : ∃ v : List bf, v.length <= 1048576 /\ Ev (fun k => qV k l x) v /\ Ev (fun k => yL k l x) v := by
  obtain ⟨p, hp, h1, h2⟩ := oz (fun i => vg (rd eP l (i : Int)) x) l.length
  have hs := Ro l x hl p hp h1 h2
  have hvl := OM l x p hp
  obtain ⟨a, ea, ha⟩ := vk l hl
  obtain ⟨a', UW, ha'⟩ := yO l hl
  obtain rfl : a' = a := by rw [Bool.eq_iff_iff]; exact ha'.trans ha.symm
  obtain ⟨b, eb, hb⟩ := xw (zu l x p) (by omega)
  obtain ⟨b', eb', hb'⟩ := BA (zu l x p) (by omega)
  obtain rfl : b' = b := by rw [Bool.eq_iff_iff]; exact hb'.trans hb.symm
  have sz : (List.length ([] : (List bf)) + List.length l) * 40 <= 211106232532992 := by rw [List.length_nil]; omega
  by_cases c : a' = true
  · have hq := (ha.1 c).1
    have h2' : ∀ j, p <= j -> j < l.length -> ¬ vg (rd eP l (j : Int)) x := fun j hpj hj hbj => by
      rcases Nat.lt_or_ge p j with h | h
      · have := SG hq (j - p - 1) p (by omega)
        rw [show p + (j - p - 1) + 1 = j by omega] at this
        exact h2 (by omega) (Jg this hbj)
      · have : j = p := by omega
        subst this
        exact h2 hj hbj
    have hi := WB l x hl p hp h1 h2'
    by_cases d : b' = true
    · have hlen := (hb.1 d).2
      simp only [decide_eq_true_eq] at hlen
      exact ⟨zu l x p, by omega, Ev.eq (fun k => kJ k l x) (Ev.bind hs (Ev.bind ea (Ev.neg (by simpa using c) (Ev.bind eb (Ev.neg (by simpa using d) Ev.ret))))),
        Ev.eq (fun k => uH k l x) (Ev.bind UW (Ev.pos c (Ev.bind (yg _ hl) (Ev.bind hi (Ev.bind eb' (Ev.pos d Ev.ret))))))⟩
    · exact ⟨l, hl, Ev.eq (fun k => kJ k l x) (Ev.bind hs (Ev.bind ea (Ev.neg (by simpa using c) (Ev.bind eb (Ev.pos d (Ev.pos sz Ev.ret)))))),
        Ev.eq (fun k => uH k l x) (Ev.bind UW (Ev.pos c (Ev.bind (yg _ hl) (Ev.bind hi (Ev.bind eb' (Ev.neg d (Ev.bind (yg _ hl) Ev.ret)))))))⟩
  · exact ⟨l, hl, Ev.eq (fun k => kJ k l x) (Ev.bind hs (Ev.bind ea (Ev.pos c (Ev.pos sz Ev.ret)))), Ev.eq (fun k => uH k l x) (Ev.bind UW (Ev.neg c (Ev.bind (yg _ hl) Ev.ret)))⟩
theorem ME (a b : bf) : ((a.1 : Int) = b.1 /\ ((a.2.1 : Int) = b.2.1 /\ ((a.2.2.1 : Int) = b.2.2.1 /\ ((a.2.2.2.1 : Int) = b.2.2.2.1 /\ (a.2.2.2.2.1 : Int) = b.2.2.2.2.1)))) ↔ a = b := by
  obtain ⟨a1, a2, a3, a4, a5, ⟨⟩⟩ := a
  obtain ⟨b1, b2, b3, b4, b5, ⟨⟩⟩ := b
  constructor
  · rintro ⟨h1, h2, h3, h4, h5⟩
    simp only at h1 h2 h3 h4 h5
    rw [h1, h2, h3, h4, h5]
  · intro h
    injection h with h1 h
    injection h with h2 h
    injection h with h3 h
    injection h with h4 h
    injection h with h5 h
    exact ⟨h1, h2, h3, h4, h5⟩
theorem Rp {a b : List bf} (h : a.length = b.length) : (∀ i, i < a.length -> rd eP a (i : Int) = rd eP b (i : Int)) ↔ a = b := by
  constructor
  · intro H
    refine List.ext_getElem h fun i h1 h2 => ?_
    have := H i h1
    rwa [fK (t := eP) h1, fK (t := eP) h2] at this
  · rintro rfl i _
    rfl
theorem WC (a b : List bf) (ha : a.length <= 1048576) : ∃ r, Ev (fun k => eH k a b) r /\ (r = true ↔ a = b) := by
  by_cases c : a.length = b.length
  · obtain ⟨r, er, hr⟩ := gG (R := fun i v => E2 (fun k m => eH.l0 k m a b i) v) (n := a.length) (fun i => rd eP a (i : Int) = rd eP b (i : Int)) true (E2.eq (fun k m => eH.aA k m a b _) (E2.neg (by omega) E2.ret)) (fun i hi hq v e => by
      refine E2.eq (fun k m => eH.aA k m a b _) (E2.pos (by omega) (E2.pos (by omega) (E2.pos (by omega) (E2.pos (by omega) (E2.pos (by omega) (E2.neg (fun h => h ((ME _ _).2 hq)) ?_))))))
      simp only [cO (show i < 9223372036854775807 by omega)]
      exact e) (fun i hi hq => E2.eq (fun k m => eH.aA k m a b _) (E2.pos (by omega) (E2.pos (by omega) (E2.pos (by omega) (E2.pos (by omega) (E2.pos (by omega) (E2.pos (fun h => hq ((ME _ _).1 h)) E2.ret)))))))
    refine ⟨r, Ev.eq (fun k => vW k a b) (Ev.neg (by omega) (Ev.loop (f := fun k m => eH.l0 k m a b 0) er)), hr.trans ⟨fun h => (Rp c).1 h.1, fun h => ⟨(Rp c).2 h, rfl⟩⟩⟩
  · exact ⟨false, Ev.eq (fun k => vW k a b) (Ev.pos (by omega) Ev.ret), by simp only [Bool.false_eq_true, false_iff]; exact fun h => c (h ▸ rfl)⟩
theorem Rq (a b : List bf) (ha : a.length <= 1048576) : ∃ r, Ev (fun k => bJ k a b) r /\ (r = true ↔ a = b) := by
  by_cases c : a.length = b.length
  · obtain ⟨r, er, hr⟩ := gG (R := fun i v => E2 (fun k m => bJ.l0 k m a b ((List.length a : Nat) : Int) i) v) (n := a.length) (fun i => rd eP a (i : Int) = rd eP b (i : Int)) true (E2.eq (fun k m => bJ.aA k m a b _ _) (E2.neg (by omega) E2.ret)) (fun i hi hq v e => by
      refine E2.eq (fun k m => bJ.aA k m a b _ _) (E2.pos (by omega) (E2.pos (by omega) (E2.pos (by omega) (E2.pos (by omega) (E2.pos (by omega) (E2.neg (fun h => h ((ME _ _).2 hq)) ?_))))))
      simp only [cO (show i < 9223372036854775807 by omega)]
      exact e) (fun i hi hq => E2.eq (fun k m => bJ.aA k m a b _ _) (E2.pos (by omega) (E2.pos (by omega) (E2.pos (by omega) (E2.pos (by omega) (E2.pos (by omega) (E2.pos (fun h => hq ((ME _ _).1 h)) E2.ret)))))))
    refine ⟨r, Ev.eq (fun k => oH k a b) (Ev.neg (by omega) (Ev.loop (f := fun k m => bJ.l0 k m a b ((List.length a : Nat) : Int) 0) er)), hr.trans ⟨fun h => (Rp c).1 h.1, fun h => ⟨(Rp c).2 h, rfl⟩⟩⟩
  · exact ⟨false, Ev.eq (fun k => oH k a b) (Ev.pos (by omega) Ev.ret), by simp only [Bool.false_eq_true, false_iff]; exact fun h => c (h ▸ rfl)⟩
def wkE (l : List aF) : Prop := l.Pairwise fun a b => ¬ Ac b a
theorem WE (l : List aF) (e : aF) (hl : l.length <= 33554432) : ∃ v : List aF, v.Perm (e :: l) /\ (wkE l -> wkE v) /\ Ev (fun k => jL k l e) v := by
  obtain ⟨p, hp, h1, h2⟩ := oz (fun i => Ac (rd bL l (i : Int)) e) l.length
  refine ⟨l.take p ++ [e] ++ l.drop p, ?_, fun hw => ?_, ?_⟩
  · have : (l.take p ++ [e] ++ l.drop p).Perm (e :: (l.take p ++ l.drop p)) := by
      rw [List.append_assoc]
      exact List.perm_middle
    rwa [List.take_append_drop] at this
  · have hd : ∀ b ∈ l.drop p, ¬ Ac b e := fun b hb hbe => by
      obtain ⟨j, hj, rfl⟩ := List.getElem_of_mem hb
      rw [List.length_drop] at hj
      have hpl : p < l.length := by omega
      have hnp := h2 hpl
      rw [List.getElem_drop] at hbe
      rcases Nat.eq_zero_or_pos j with h0 | h0
      · subst h0
        rw [fK hpl] at hnp
        exact hnp hbe
      · have := List.pairwise_iff_getElem.1 hw p (p + j) hpl (by omega) (by omega)
        rw [fK hpl] at hnp
        unfold Ac at *
        omega
    have ht : ∀ a ∈ l.take p, Ac a e := fun a ha => by
      obtain ⟨j, hj, rfl⟩ := List.getElem_of_mem ha
      rw [List.length_take] at hj
      have := h1 j (by omega)
      rw [fK (by omega)] at this
      rw [List.getElem_take]
      exact this
    unfold wkE at *
    rw [List.append_assoc, List.pairwise_append]
    have hs : (l.take p ++ l.drop p).Pairwise fun a b => ¬ Ac b a := by rw [List.take_append_drop]; exact hw
    rw [List.pairwise_append] at hs
    refine ⟨hs.1, ?_, fun a ha b hb => ?_⟩
    · rw [List.singleton_append, List.pairwise_cons]
      exact ⟨fun b hb => hd b hb, hs.2.1⟩
    · rw [List.singleton_append, List.mem_cons] at hb
      rcases hb with rfl | hb
      · have := ht a ha
        unfold Ac at *
        omega
      · exact hs.2.2 a ha b hb
  · have key : ∀ d i : Nat, i + d = p -> E2 (fun k m => jL.l0 k m l (i : Int) e.1 e.2.1 e.2.2.1 e.2.2.2.1) (l.take p ++ [e] ++ l.drop p) := by
      intro d
      induction d with
      | zero =>
        intro i hi
        have hi : i = p := by omega
        subst hi
        have hfin : ((([] : List aF) ++ (List.take ((Int.toNat (i : Int)) - (Int.toNat 0)) (List.drop (Int.toNat 0) l))) ++ ([(e.1, (e.2.1, (e.2.2.1, (e.2.2.2.1, ()))))] : (List aF))) ++ (List.take ((Int.toNat ((List.length l : Nat) : Int)) - (Int.toNat (i : Int))) (List.drop (Int.toNat (i : Int)) l)) = l.take i ++ [e] ++ l.drop i := by
          simp only [Int.toNat_natCast, Int.toNat_zero, Nat.sub_zero, List.drop_zero, List.nil_append]
          rw [List.take_of_length_le (l := l.drop i) (by simp)]
        have hsz : (List.take ((Int.toNat (i : Int)) - (Int.toNat 0)) (List.drop (Int.toNat 0) l)).length <= l.length := by simp; omega
        have hsz2 : (List.take ((Int.toNat ((List.length l : Nat) : Int)) - (Int.toNat (i : Int))) (List.drop (Int.toNat (i : Int)) l)).length <= l.length := by simp
        refine E2.eq (fun k m => jL.aA k m l _ _ _ _ _) ?_
        by_cases c : i < l.length
        · refine E2.pos (by omega) (E2.pos (by omega) (E2.pos (by omega) (E2.bind (AJ _ _) (E2.neg (by simpa using h2 c) ?_))))
          refine E2.pos (by omega) (E2.pos (by omega) (E2.pos (by rw [List.length_nil]; omega) (E2.pos (by simp only [List.length_append, List.length_nil, List.length_singleton]; omega) (E2.pos (by omega) (E2.pos (by omega) (E2.pos (by simp only [List.length_append, List.length_nil, List.length_singleton]; omega) ?_))))))
          exact E2.ret.val hfin
        · refine E2.neg (by omega) ?_
          refine E2.pos (by omega) (E2.pos (by omega) (E2.pos (by rw [List.length_nil]; omega) (E2.pos (by simp only [List.length_append, List.length_nil, List.length_singleton]; omega) (E2.pos (by omega) (E2.pos (by omega) (E2.pos (by simp only [List.length_append, List.length_nil, List.length_singleton]; omega) ?_))))))
          exact E2.ret.val hfin
      | succ d ih =>
        intro i hi
        refine E2.eq (fun k m => jL.aA k m l _ _ _ _ _) (E2.pos (by omega) (E2.pos (by omega) (E2.pos (by omega) (E2.bind (AJ _ _) (E2.pos (by simpa using h1 i (by omega)) ?_)))))
        simp only [cO (show i < 9223372036854775807 by omega)]
        exact ih (i + 1) (by omega)
    exact Ev.eq (fun k => JX k l e) (Ev.loop (f := fun k m => jL.l0 k m l 0 e.1 e.2.1 e.2.2.1 e.2.2.2.1) (key p 0 (by omega)))
def zw (m : cu) (ps : List bF) : bg := ([], (m, ([(0, (100, ()))], (ps, ([], ([], ([], (1, (0, ())))))))))
def Dz : bg := ([], ((0, (0, ())), ([], ([], ([], ([], ([], (0, (0, ())))))))))
theorem WG (m : cu) (ps : List bF) (h : Bk (.list dx) ps) : Bk jC (zw m ps) :=
  ⟨⟨by simp [zw], by simp [zw]⟩, wJ _ rfl, ⟨by simp [zw], fun x _ => wJ x rfl⟩, h, ⟨by simp [zw], by simp [zw]⟩, ⟨by simp [zw], by simp [zw]⟩, ⟨by simp [zw], by simp [zw]⟩, trivial, trivial, trivial⟩
theorem Rs (a b : aF) : ((a.1 : Int) = b.1 /\ ((a.2.1 : Int) = b.2.1 /\ ((a.2.2.1 : Int) = b.2.2.1 /\ (a.2.2.2.1 : Int) = b.2.2.2.1))) ↔ a = b := by
  obtain ⟨a1, a2, a3, a4, ⟨⟩⟩ := a
  obtain ⟨b1, b2, b3, b4, ⟨⟩⟩ := b
  constructor
  · rintro ⟨h1, h2, h3, h4⟩
    simp only at h1 h2 h3 h4
    rw [h1, h2, h3, h4]
  · intro h
    injection h with h1 h
    injection h with h2 h
    injection h with h3 h
    injection h with h4 h
    exact ⟨h1, h2, h3, h4⟩
theorem Vb {a b : List aF} (h : a.length = b.length) : (∀ i, i < a.length -> rd bL a (i : Int) = rd bL b (i : Int)) ↔ a = b := by
  constructor
  · intro H
    refine List.ext_getElem h fun i h1 h2 => ?_
    have := H i h1
    rwa [fK (t := bL) h1, fK (t := bL) h2] at this
  · rintro rfl i _
    rfl
theorem Rt (a b : List aF) (ha : a.length <= 33554432) : ∃ r, Ev (fun k => bD k a b) r /\ (r = true ↔ a = b) := by
  by_cases c : a.length = b.length
  · obtain ⟨r, er, hr⟩ := gG (R := fun i v => E2 (fun k m => bD.l0 k m a b ((List.length a : Nat) : Int) i) v) (n := a.length) (fun i => rd bL a (i : Int) = rd bL b (i : Int)) true (E2.eq (fun k m => bD.aA k m a b _ _) (E2.neg (by omega) E2.ret)) (fun i hi hq v e => by
      refine E2.eq (fun k m => bD.aA k m a b _ _) (E2.pos (by omega) (E2.pos (by omega) (E2.pos (by omega) (E2.pos (by omega) (E2.pos (by omega) (E2.neg (fun h => h ((Rs _ _).2 hq)) ?_))))))
      simp only [cO (show i < 9223372036854775807 by omega)]
      exact e) (fun i hi hq => E2.eq (fun k m => bD.aA k m a b _ _) (E2.pos (by omega) (E2.pos (by omega) (E2.pos (by omega) (E2.pos (by omega) (E2.pos (by omega) (E2.pos (fun h => hq ((Rs _ _).1 h)) E2.ret)))))))
    refine ⟨r, Ev.eq (fun k => nT k a b) (Ev.neg (by omega) (Ev.loop (f := fun k m => bD.l0 k m a b ((List.length a : Nat) : Int) 0) er)), hr.trans ⟨fun h => (Vb c).1 h.1, fun h => ⟨(Vb c).2 h, rfl⟩⟩⟩
  · exact ⟨false, Ev.eq (fun k => nT k a b) (Ev.pos (by omega) Ev.ret), by simp only [Bool.false_eq_true, false_iff]; exact fun h => c (h ▸ rfl)⟩
def oI (c : dQ) : Prop := c.1.length <= 1048576 /\ (0 : Int) <= c.2.1 /\ (c.2.1 : Int) <= ((c.1.length : Nat) : Int)
def Dr {α : Type} (f : Nat -> dQ -> Option (α × dQ)) (P : α -> Prop) : Prop := ∀ c, oI c -> ∃ x c', oI c' /\ P x /\ Ev (fun k => f k c) (x, c')
theorem Vd (a : BitVec (IntKind.bits .i64)) : 0 <= IntKind.wrap .i64 (((a &&& BitVec.ofInt (IntKind.bits .i64) 255).toNat : Nat)) /\ IntKind.wrap .i64 (((a &&& BitVec.ofInt (IntKind.bits .i64) 255).toNat : Nat)) <= 255 := by
  have h : (a &&& BitVec.ofInt (IntKind.bits .i64) 255).toNat <= 255 := by
    rw [BitVec.toNat_and]
    exact Nat.le_trans Nat.and_le_right (by decide)
  rw [IntKind.wrap_i64]
  omega
theorem EF : Dr (fun k c => qx k c) (fun x => 0 <= x /\ x <= 255) := by
  intro c h
  obtain ⟨h1, h2, h3⟩ := h
  by_cases q : (c.2.1 : Int) < ((List.length c.1 : Nat) : Int)
  · refine ⟨_, (c.1, (IntKind.wrap .i64 (c.2.1 + 1), (IntKind.wrap .i64 ((IntKind.wrap .i64 (c.2.2.1 * 6364136223846793005)) + 1442695040888963407), ()))), ⟨h1, ?_, ?_⟩, Vd _, Ev.eq (fun k => Ag k c) (Ev.neg (by omega) (Ev.neg (by omega) (Ev.pos q (Ev.pos h2 (Ev.pos q Ev.ret)))))⟩
    · show (0 : Int) <= IntKind.wrap .i64 (c.2.1 + 1)
      rw [jD (by omega) (by omega)]
      omega
    · show IntKind.wrap .i64 (c.2.1 + 1) <= ((List.length c.1 : Nat) : Int)
      rw [jD (by omega) (by omega)]
      omega
  · exact ⟨_, (c.1, (c.2.1, (IntKind.wrap .i64 ((IntKind.wrap .i64 (c.2.2.1 * 6364136223846793005)) + 1442695040888963407), ()))), ⟨h1, h2, h3⟩, Vd _, Ev.eq (fun k => Ag k c) (Ev.neg (by omega) (Ev.neg (by omega) (Ev.neg q Ev.ret)))⟩
theorem aS (n : Int) : Dr (fun k c => aM k c n) (fun x => 0 <= x /\ (0 < n -> x < n) /\ (n <= 0 -> x = 0)) := by
  intro c h
  by_cases q : n <= 0
  · exact ⟨0, c, h, ⟨by omega, fun h => by omega, fun _ => rfl⟩, Ev.eq (fun k => uz k c n) (Ev.pos q Ev.ret)⟩
  · obtain ⟨x, c1, h1, hx, e1⟩ := EF c h
    have hm : ∀ y : Int, 0 <= y -> 0 <= Int.tmod y n /\ (0 < n -> Int.tmod y n < n) /\ (n <= 0 -> Int.tmod y n = 0) := fun y hy => ⟨Int.tmod_nonneg _ hy, fun hn => Int.tmod_lt_of_pos _ hn, fun h => absurd h q⟩
    by_cases q2 : n <= 256
    · exact ⟨Int.tmod x n, c1, h1, hm x hx.1, Ev.eq (fun k => uz k c n) (Ev.neg q (Ev.pos q2 (Ev.bind e1 (Ev.neg (by omega) Ev.ret))))⟩
    · obtain ⟨y, c2, h2, hy, e2⟩ := EF c1 h1
      obtain ⟨z, c3, h3, hz, e3⟩ := EF c2 h2
      refine ⟨_, c3, h3, hm _ ?_, Ev.eq (fun k => uz k c n) (Ev.neg q (Ev.neg q2 (Ev.bind e1 (Ev.bind e2 (Ev.bind e3 (Ev.neg (by omega) Ev.ret))))))⟩
      rw [jD (n := x * 65536) (by omega) (by omega), jD (n := y * 256) (by omega) (by omega), jD (n := x * 65536 + y * 256) (by omega) (by omega), jD (by omega) (by omega)]
      omega
theorem EG (n : Int) : Dr (fun k c => tN k c n) (fun _ => True) := by
  intro c h
  obtain ⟨x, c1, h1, _, e1⟩ := aS n c h
  exact ⟨_, c1, h1, trivial, Ev.eq (fun k => IZ k c n) (Ev.bind e1 Ev.ret)⟩
theorem wo (l : List Int) (hl : 0 < l.length) : Dr (fun k c => lg k c l) (fun _ => True) := by
  intro c h
  obtain ⟨x, c1, h1, ⟨h2, h3, _⟩, e1⟩ := aS ((List.length l : Nat) : Int) c h
  exact ⟨_, c1, h1, trivial, Ev.eq (fun k => Bv k c l) (Ev.bind e1 (Ev.pos h2 (Ev.pos (h3 (by omega)) Ev.ret)))⟩
theorem yP : Dr (fun k c => ou k c) (fun _ => True) := by
  intro c h
  obtain ⟨x1, c1, h1, _, e1⟩ := aS 20 c h
  obtain ⟨x2, c2, h2, _, e2⟩ := aS 10 c1 h1
  obtain ⟨x3, c3, h3, _, e3⟩ := aS 18 c2 h2
  obtain ⟨x4, c4, h4, _, e4⟩ := aS 3 c3 h3
  exact ⟨_, c4, h4, trivial, Ev.eq (fun k => FD k c) (Ev.bind e1 (Ev.bind e2 (Ev.bind e3 (Ev.bind e4 Ev.ret))))⟩
theorem Gw (l : List aF) (e : aF) (hl : l.length <= 1048576) : ∃ v : List aF × (Bool × Unit), v.1.length <= l.length + 1 /\ Ev (fun k => lq k l e) v := by
  obtain ⟨r, hp, _, e1⟩ := WE l e (by omega)
  have hr : r.length = l.length + 1 := by rw [hp.length_eq]; simp
  have e2 := Bz r (by omega)
  by_cases c : eF r
  · exact ⟨(r, (true, ())), by show r.length <= _; omega, Ev.eq (fun k => xY k l e) (Ev.bind e1 (Ev.bind e2 (Ev.neg (by simpa using c) Ev.ret)))⟩
  · exact ⟨([] ++ l, (false, ())), by simp, Ev.eq (fun k => xY k l e) (Ev.bind e1 (Ev.bind e2 (Ev.pos (by simpa using c) (Ev.pos (by rw [List.length_nil]; omega) Ev.ret))))⟩
theorem SN : Dr (fun k c => jd k c) (fun r => r.length <= 13) := by
  intro c h
  have key : ∀ (d : Nat) (c : dQ) (s : List aF), oI c -> s.length + d <= 1000 -> ∃ r c', oI c' /\ r.length <= s.length + d /\ E2 (fun k m => jd.l0 k m (d : Int) c.1 c.2.1 c.2.2.1 s) (r, c') := by
    intro d
    induction d with
    | zero => intro c s h hs; exact ⟨s, c, h, by omega, E2.eq (fun k m => jd.aA k m _ _ _ _ s) (E2.neg (by omega) E2.ret)⟩
    | succ d ih =>
      intro c s h hs
      obtain ⟨x, c1, h1, _, e1⟩ := yP c h
      obtain ⟨v, hv, e2⟩ := Gw s x (by omega)
      obtain ⟨r, c', h', hr, e3⟩ := ih c1 v.1 h1 (by omega)
      refine ⟨r, c', h', by omega, E2.eq (fun k m => jd.aA k m _ _ _ _ s) (E2.pos (by omega) (E2.bind e1 (E2.bind e2 ?_)))⟩
      simp only [jE (show 0 < d + 1 by omega) (show d + 1 < 9223372036854775807 by omega), Nat.add_sub_cancel]
      exact e3
  obtain ⟨x, c1, h1, ⟨h2, h3, _⟩, e1⟩ := aS 13 c h
  obtain ⟨n, rfl⟩ := Int.eq_ofNat_of_zero_le h2
  have := h3 (by omega)
  obtain ⟨r, c', h', hr, e3⟩ := key n c1 [] h1 (by simp; omega)
  exact ⟨r, c', h', by simp at hr; omega, Ev.eq (fun k => Jb k c) (Ev.bind e1 (Ev.loop (f := fun k m => jd.l0 k m (n : Int) c1.1 c1.2.1 c1.2.2.1 []) e3))⟩
theorem Lb (OO most : Int) (hm : most <= 100) : Dr (fun k c => gP k c OO most) (fun r => r.length <= 100) := by
  intro c h
  have key : ∀ (d : Nat) (t : Int) (c : dQ) (s : List aF), oI c -> s.length + d <= 1000 -> ∃ r c', oI c' /\ r.length <= s.length + d /\ E2 (fun k m => gP.l0 k m OO t (d : Int) c.1 c.2.1 c.2.2.1 s) (r, c') := by
    intro d
    induction d with
    | zero => intro t c s h hs; exact ⟨s, c, h, by omega, E2.eq (fun k m => gP.aA k m _ _ _ _ _ _ s) (E2.neg (by omega) E2.ret)⟩
    | succ d ih =>
      intro t c s h hs
      obtain ⟨x1, c1, h1, _, e1⟩ := aS 3 c h
      obtain ⟨x2, c2, h2, _, e2⟩ := aS 8 c1 h1
      obtain ⟨x3, c3, h3, _, e3⟩ := EG 5 c2 h2
      obtain ⟨v, hv, e4⟩ := Gw s (t, (IntKind.wrap .i64 (6 * (IntKind.wrap .i64 (1 + x1))), (IntKind.wrap .i64 (60 + x2), (OO, ())))) (by omega)
      by_cases q : x3 = true
      · obtain ⟨r, c', h', hr, e5⟩ := ih (IntKind.wrap .i64 ((IntKind.wrap .i64 (t + (IntKind.wrap .i64 (6 * (IntKind.wrap .i64 (1 + x1)))))) + 12)) c3 v.1 h3 (by omega)
        refine ⟨r, c', h', by omega, E2.eq (fun k m => gP.aA k m _ _ _ _ _ _ s) (E2.pos (by omega) (E2.bind e1 (E2.bind e2 (E2.bind e3 (E2.pos q (E2.bind e4 ?_))))))⟩
        simp only [jE (show 0 < d + 1 by omega) (show d + 1 < 9223372036854775807 by omega), Nat.add_sub_cancel]
        exact e5
      · obtain ⟨r, c', h', hr, e5⟩ := ih (IntKind.wrap .i64 (t + (IntKind.wrap .i64 (6 * (IntKind.wrap .i64 (1 + x1)))))) c3 v.1 h3 (by omega)
        refine ⟨r, c', h', by omega, E2.eq (fun k m => gP.aA k m _ _ _ _ _ _ s) (E2.pos (by omega) (E2.bind e1 (E2.bind e2 (E2.bind e3 (E2.neg q (E2.bind e4 ?_))))))⟩
        simp only [jE (show 0 < d + 1 by omega) (show d + 1 < 9223372036854775807 by omega), Nat.add_sub_cancel]
        exact e5
  obtain ⟨x, c1, h1, ⟨h2, h3, h4⟩, e1⟩ := aS most c h
  obtain ⟨n, rfl⟩ := Int.eq_ofNat_of_zero_le h2
  have hn : n <= 100 := by
    rcases Int.lt_or_le 0 most with q | q
    · have := h3 q; omega
    · have := h4 q; omega
  obtain ⟨r, c', h', hr, e3⟩ := key n 0 c1 [] h1 (by simp; omega)
  exact ⟨r, c', h', by simp at hr; omega, Ev.eq (fun k => Ja k c OO most) (Ev.bind e1 (Ev.loop (f := fun k m => gP.l0 k m OO 0 (n : Int) c1.1 c1.2.1 c1.2.2.1 []) e3))⟩
theorem xR {t : Ty} {l : List t.den} {i : Int} {f : t.den -> t.den} : (setAt t l i f).length = l.length := by unfold setAt; simp
theorem Ve : Dr (fun k c => Ci k c) (fun r => r.length <= 14) := by
  intro c h
  obtain ⟨l, c1, h1, hl, e1⟩ := SN c h
  by_cases q0 : (((List.length l : Nat) : Int) : Int) = 0
  · exact ⟨l, c1, h1, by omega, Ev.eq (fun k => lD k c) (Ev.bind e1 (Ev.pos q0 Ev.ret))⟩
  obtain ⟨i, c2, h2, ⟨i1, i2, _⟩, e2⟩ := aS ((List.length l : Nat) : Int) c1 h1
  have i2 := i2 (by omega)
  obtain ⟨x, c3, h3, _, e3⟩ := aS 9 c2 h2
  by_cases q1 : x = 0
  · obtain ⟨y, c4, h4, _, e4⟩ := wo [(-1), 2000, 2001] (by simp) c3 h3
    exact ⟨_, c4, h4, by show (setAt _ _ _ _).length <= _; rw [xR]; exact Nat.le_trans hl (by omega), Ev.eq (fun k => lD k c) (Ev.bind e1 (Ev.neg q0 (Ev.bind e2 (Ev.bind e3 (Ev.pos q1 (Ev.bind e4 (Ev.pos i1 (Ev.pos i2 Ev.ret))))))))⟩
  by_cases q2 : x = 1
  · obtain ⟨y, c4, h4, _, e4⟩ := wo [0, 96, 97] (by simp) c3 h3
    exact ⟨_, c4, h4, by show (setAt _ _ _ _).length <= _; rw [xR]; exact Nat.le_trans hl (by omega), Ev.eq (fun k => lD k c) (Ev.bind e1 (Ev.neg q0 (Ev.bind e2 (Ev.bind e3 (Ev.neg q1 (Ev.pos q2 (Ev.bind e4 (Ev.pos i1 (Ev.pos i2 Ev.ret)))))))))⟩
  by_cases q3 : x = 2
  · obtain ⟨y, c4, h4, _, e4⟩ := wo [20, 108, 109] (by simp) c3 h3
    exact ⟨_, c4, h4, by show (setAt _ _ _ _).length <= _; rw [xR]; exact Nat.le_trans hl (by omega), Ev.eq (fun k => lD k c) (Ev.bind e1 (Ev.neg q0 (Ev.bind e2 (Ev.bind e3 (Ev.neg q1 (Ev.neg q2 (Ev.pos q3 (Ev.bind e4 (Ev.pos i1 (Ev.pos i2 Ev.ret))))))))))⟩
  by_cases q4 : x = 3
  · obtain ⟨y, c4, h4, _, e4⟩ := wo [0, 4, 5] (by simp) c3 h3
    exact ⟨_, c4, h4, by show (setAt _ _ _ _).length <= _; rw [xR]; exact Nat.le_trans hl (by omega), Ev.eq (fun k => lD k c) (Ev.bind e1 (Ev.neg q0 (Ev.bind e2 (Ev.bind e3 (Ev.neg q1 (Ev.neg q2 (Ev.neg q3 (Ev.pos q4 (Ev.bind e4 (Ev.pos i1 (Ev.pos i2 Ev.ret)))))))))))⟩
  by_cases q5 : x = 4
  · exact ⟨_, c3, h3, by show (_ ++ [_]).length <= _; rw [List.length_append, List.length_singleton]; exact Nat.succ_le_succ hl, Ev.eq (fun k => lD k c) (Ev.bind e1 (Ev.neg q0 (Ev.bind e2 (Ev.bind e3 (Ev.neg q1 (Ev.neg q2 (Ev.neg q3 (Ev.neg q4 (Ev.pos q5 (Ev.pos (Nat.le_refl 0) (Ev.pos (show (0 : Int) < ((List.length l : Nat) : Int) by omega) (Ev.pos (show (l.length + 1) * 32 <= 211106232532992 by omega) Ev.ret))))))))))))⟩
  exact ⟨l, c3, h3, by omega, Ev.eq (fun k => lD k c) (Ev.bind e1 (Ev.neg q0 (Ev.bind e2 (Ev.bind e3 (Ev.neg q1 (Ev.neg q2 (Ev.neg q3 (Ev.neg q4 (Ev.neg q5 Ev.ret)))))))))⟩
theorem Qu : Dr (fun k c => qQ k c) (fun _ => True) := by
  intro c h
  obtain ⟨x1, c1, h1, _, e1⟩ := aS 4 c h
  obtain ⟨x2, c2, h2, _, e2⟩ := wo [4, 4, 4, 8, 2] (by simp) c1 h1
  exact ⟨_, c2, h2, trivial, Ev.eq (fun k => za k c) (Ev.bind e1 (Ev.bind e2 Ev.ret))⟩
theorem Qv : Dr (fun k c => iH k c) (fun r => 1 <= r.length /\ r.length <= 4) := by
  intro c h
  have key : ∀ (d : Nat) (t : Int) (c : dQ) (s : List cu), oI c -> s.length + d <= 1000 -> ∃ r c', oI c' /\ s.length <= r.length /\ r.length <= s.length + d /\ E2 (fun k m => iH.l0 k m t (d : Int) c.1 c.2.1 c.2.2.1 s) (r, c') := by
    intro d
    induction d with
    | zero => intro t c s h hs; exact ⟨s, c, h, by omega, by omega, E2.eq (fun k m => iH.aA k m _ _ _ _ _ s) (E2.neg (by omega) E2.ret)⟩
    | succ d ih =>
      intro t c s h hs
      obtain ⟨x1, c1, h1, _, e1⟩ := aS 50 c h
      obtain ⟨x2, c2, h2, _, e2⟩ := wo [40, 60, 72, 100, 120, 200, 77] (by simp) c1 h1
      obtain ⟨r, c', h', hr, hr', e5⟩ := ih (IntKind.wrap .i64 ((IntKind.wrap .i64 (t + 1)) + x1)) c2 (s ++ [(IntKind.wrap .i64 ((IntKind.wrap .i64 (t + 1)) + x1), (x2, ()))]) h2 (by simp; omega)
      simp only [List.length_append, List.length_singleton] at hr hr'
      refine ⟨r, c', h', by omega, by omega, E2.eq (fun k m => iH.aA k m _ _ _ _ _ s) (E2.pos (by omega) (E2.bind e1 (E2.bind e2 (E2.pos (by rw [List.length_singleton]; omega) ?_))))⟩
      simp only [jE (show 0 < d + 1 by omega) (show d + 1 < 9223372036854775807 by omega), Nat.add_sub_cancel]
      exact e5
  obtain ⟨x1, c1, h1, _, e1⟩ := wo [60, 90, 120, 50, 144] (by simp) c h
  obtain ⟨x, c2, h2, ⟨i1, i2, _⟩, e2⟩ := aS 4 c1 h1
  obtain ⟨n, rfl⟩ := Int.eq_ofNat_of_zero_le i1
  have := i2 (by omega)
  obtain ⟨r, c', h', hr, hr', e3⟩ := key n 0 c2 [(0, (x1, ()))] h2 (by simp; omega)
  simp only [List.length_singleton] at hr hr'
  exact ⟨r, c', h', by omega, Ev.eq (fun k => FI k c) (Ev.bind e1 (Ev.bind e2 (Ev.loop (f := fun k m => iH.l0 k m 0 (n : Int) c2.1 c2.2.1 c2.2.2.1 [(0, (x1, ()))]) e3)))⟩
theorem Fg : Dr (fun k c => fT k c) (fun r => r.length <= 200) := by
  intro c h
  obtain ⟨a, c1, h1, ha, e1⟩ := Lb 1 9 (by omega) c h
  obtain ⟨b, c2, h2, hb, e2⟩ := Lb 2 9 (by omega) c1 h1
  have key : ∀ (d i : Nat) (s : List aF), i + d = b.length -> s.length + d <= 1000 -> ∃ r, r.length <= s.length + d /\ E2 (fun k m => fT.l0 k m (i : Int) c2.1 c2.2.1 c2.2.2.1 s b) (r, c2) := by
    intro d
    induction d with
    | zero => intro i s hi hs; exact ⟨s, by omega, E2.eq (fun k m => fT.aA k m _ _ _ _ s b) (E2.neg (by omega) E2.ret)⟩
    | succ d ih =>
      intro i s hi hs
      obtain ⟨v, hv, e4⟩ := Gw s (rd bL b (i : Int)) (by omega)
      obtain ⟨r, hr, e5⟩ := ih (i + 1) v.1 (by omega) (by omega)
      refine ⟨r, by omega, E2.eq (fun k m => fT.aA k m _ _ _ _ s b) (E2.pos (by omega) (E2.pos (by omega) (E2.pos (by omega) (E2.bind e4 ?_))))⟩
      simp only [cO (show i < 9223372036854775807 by omega)]
      exact e5
  have ha : a.length <= 100 := ha
  have hb : b.length <= 100 := hb
  obtain ⟨r, hr, e3⟩ := key b.length 0 a (by omega) (by omega)
  exact ⟨r, c2, h2, by show r.length <= 200; omega, Ev.eq (fun k => Ey k c) (Ev.bind e1 (Ev.bind e2 (Ev.loop (f := fun k m => fT.l0 k m 0 c2.1 c2.2.1 c2.2.2.1 a b) e3)))⟩
theorem Jh : Dr (fun k c => qU k c) (fun _ => True) := by
  intro c h
  obtain ⟨x1, c1, h1, _, e1⟩ := aS 5 c h
  obtain ⟨x2, c2, h2, _, e2⟩ := aS 4 c1 h1
  obtain ⟨x3, c3, h3, _, e3⟩ := aS 4 c2 h2
  obtain ⟨x4, c4, h4, _, e4⟩ := aS 5 c3 h3
  obtain ⟨x5, c5, h5, _, e5⟩ := aS 3 c4 h4
  exact ⟨_, c5, h5, trivial, Ev.eq (fun k => FE k c) (Ev.bind e1 (Ev.bind e2 (Ev.bind e3 (Ev.bind e4 (Ev.bind e5 Ev.ret)))))⟩
theorem Ji (l : List bf) (x : bf) (hl : l.length <= 1048576) : ∃ v : List bf, v.length <= l.length + 1 /\ Ev (fun k => qV k l x) v := by
  obtain ⟨p, hp, h1, h2⟩ := oz (fun i => vg (rd eP l (i : Int)) x) l.length
  have hs := Ro l x hl p hp h1 h2
  have hvl := OM l x p hp
  obtain ⟨a, ea, _⟩ := vk l hl
  obtain ⟨b, eb, _⟩ := xw (zu l x p) (by omega)
  have sz : (List.length ([] : (List bf)) + List.length l) * 40 <= 211106232532992 := by rw [List.length_nil]; omega
  by_cases c : a = true
  · by_cases d : b = true
    · exact ⟨zu l x p, hvl, Ev.eq (fun k => kJ k l x) (Ev.bind hs (Ev.bind ea (Ev.neg (by simpa using c) (Ev.bind eb (Ev.neg (by simpa using d) Ev.ret)))))⟩
    · exact ⟨[] ++ l, by simp, Ev.eq (fun k => kJ k l x) (Ev.bind hs (Ev.bind ea (Ev.neg (by simpa using c) (Ev.bind eb (Ev.pos d (Ev.pos sz Ev.ret))))))⟩
  · exact ⟨[] ++ l, by simp, Ev.eq (fun k => kJ k l x) (Ev.bind hs (Ev.bind ea (Ev.pos c (Ev.pos sz Ev.ret))))⟩
theorem Qw : Dr (fun k c => iI k c) (fun r => r.length <= 9) := by
  intro c h
  have key : ∀ (d : Nat) (c : dQ) (s : List bf), oI c -> s.length + d <= 1000 -> ∃ r c', oI c' /\ r.length <= s.length + d /\ E2 (fun k m => iI.l0 k m (d : Int) c.1 c.2.1 c.2.2.1 s) (r, c') := by
    intro d
    induction d with
    | zero => intro c s h hs; exact ⟨s, c, h, by omega, E2.eq (fun k m => iI.aA k m _ _ _ _ s) (E2.neg (by omega) E2.ret)⟩
    | succ d ih =>
      intro c s h hs
      obtain ⟨x, c1, h1, _, e1⟩ := Jh c h
      obtain ⟨v, hv, e2⟩ := Ji s x (by omega)
      obtain ⟨r, c', h', hr, e3⟩ := ih c1 v h1 (by omega)
      refine ⟨r, c', h', by omega, E2.eq (fun k m => iI.aA k m _ _ _ _ s) (E2.pos (by omega) (E2.bind e1 (E2.bind e2 ?_)))⟩
      simp only [jE (show 0 < d + 1 by omega) (show d + 1 < 9223372036854775807 by omega), Nat.add_sub_cancel]
      exact e3
  obtain ⟨x, c1, h1, ⟨h2, h3, _⟩, e1⟩ := aS 9 c h
  obtain ⟨n, rfl⟩ := Int.eq_ofNat_of_zero_le h2
  have := h3 (by omega)
  obtain ⟨r, c', h', hr, e3⟩ := key n c1 [] h1 (by simp; omega)
  exact ⟨r, c', h', by show r.length <= 9; simp at hr; omega, Ev.eq (fun k => FJ k c) (Ev.bind e1 (Ev.loop (f := fun k m => iI.l0 k m (n : Int) c1.1 c1.2.1 c1.2.2.1 []) e3))⟩
theorem Qx : Dr (fun k c => iJ k c) (fun r => r.length <= 6) := by
  intro c h
  have key : ∀ (d : Nat) (t : Int) (c : dQ) (s : List cu), oI c -> s.length + d <= 1000 -> ∃ r c', oI c' /\ r.length <= s.length + d /\ E2 (fun k m => iJ.l0 k m t (d : Int) c.1 c.2.1 c.2.2.1 s) (r, c') := by
    intro d
    induction d with
    | zero => intro t c s h hs; exact ⟨s, c, h, by omega, E2.eq (fun k m => iJ.aA k m _ _ _ _ _ s) (E2.neg (by omega) E2.ret)⟩
    | succ d ih =>
      intro t c s h hs
      obtain ⟨x1, c1, h1, _, e1⟩ := aS 9 c h
      obtain ⟨r, c', h', hr, e5⟩ := ih (IntKind.wrap .i64 ((IntKind.wrap .i64 (t + 1)) + x1)) c1 (s ++ [(((List.length s : Nat) : Int), (IntKind.wrap .i64 ((IntKind.wrap .i64 (t + 1)) + x1), ()))]) h1 (by simp; omega)
      simp only [List.length_append, List.length_singleton] at hr
      refine ⟨r, c', h', by omega, E2.eq (fun k m => iJ.aA k m _ _ _ _ _ s) (E2.pos (by omega) (E2.bind e1 (E2.pos (by rw [List.length_singleton]; omega) ?_)))⟩
      simp only [jE (show 0 < d + 1 by omega) (show d + 1 < 9223372036854775807 by omega), Nat.add_sub_cancel]
      exact e5
  obtain ⟨x, c1, h1, ⟨i1, i2, _⟩, e1⟩ := aS 6 c h
  obtain ⟨n, rfl⟩ := Int.eq_ofNat_of_zero_le i1
  have := i2 (by omega)
  obtain ⟨r, c', h', hr, e3⟩ := key n 0 c1 [] h1 (by simp; omega)
  exact ⟨r, c', h', by show r.length <= 6; simp at hr; omega, Ev.eq (fun k => FK k c) (Ev.bind e1 (Ev.loop (f := fun k m => iJ.l0 k m 0 (n : Int) c1.1 c1.2.1 c1.2.2.1 []) e3))⟩
def oC (n : Nat) (l : List bF) : Prop := l.length <= n /\ ∀ p ∈ l, p.2.2.2.1.length <= 3
theorem OP {n : Nat} {l : List bF} {a b c : Int} {v : List Int} (h : oC n l) (hv : v.length <= 3) : oC (n + 1) (l ++ [(a, (b, (c, (v, ()))))]) :=
  ⟨by rw [List.length_append, List.length_singleton]; have := h.1; omega, fun p hp => by
    rcases List.mem_append.1 hp with h1 | h1
    · exact h.2 p h1
    · rw [List.mem_singleton.1 h1]; exact hv⟩
theorem sF {n m : Nat} {l : List bF} (h : oC n l) (hm : n <= m) : oC m l := ⟨Nat.le_trans h.1 hm, h.2⟩
theorem MF : Dr (fun k c => cZ k c) (fun r => oC 10 r) := by
  intro c h
  have key : ∀ (d i : Nat) (c : dQ) (s : List bF), i + d = 7 -> 1 <= i -> oI c -> oC i s -> ∃ r c', oI c' /\ oC 10 r /\ E2 (fun k m => cZ.l0 k m (i : Int) c.1 c.2.1 c.2.2.1 s) (r, c') := by
    intro d
    induction d with
    | zero =>
      intro i c s hi h1 h hs
      obtain ⟨x, c1, k1, ⟨k2, k3, _⟩, e1⟩ := aS 4 c h
      have := k3 (by omega)
      refine ⟨s, c1, k1, sF hs (by omega), E2.eq (fun k m => cZ.aA k m _ _ _ _ s) (E2.bind e1 (E2.neg ?_ E2.ret))⟩
      rw [jD (by omega) (by omega)]; omega
    | succ d ih =>
      intro i c s hi h1 h hs
      obtain ⟨x, c1, k1, ⟨k2, k3, _⟩, e1⟩ := aS 4 c h
      have := k3 (by omega)
      by_cases q : (i : Int) <= IntKind.wrap .i64 (2 + x)
      · obtain ⟨x2, c2, k2', _, e2⟩ := aS 18 c1 k1
        obtain ⟨x3, c3, k3', _, e3⟩ := aS 12 c2 k2'
        obtain ⟨r, c', h', hr, e5⟩ := ih (i + 1) c3 (s ++ [((i : Int), (IntKind.wrap .i64 (40 + x2), (IntKind.wrap .i64 (76 + x3), ([1, 2, 3], ()))))]) (by omega) (by omega) k3' (OP hs (by simp))
        have := hs.1
        refine ⟨r, c', h', hr, E2.eq (fun k m => cZ.aA k m _ _ _ _ s) (E2.bind e1 (E2.pos q (E2.bind e2 (E2.bind e3 (E2.pos (by rw [List.length_singleton]; omega) ?_)))))⟩
        simp only [cO (show i < 9223372036854775807 by omega)]
        exact e5
      · exact ⟨s, c1, k1, sF hs (by omega), E2.eq (fun k m => cZ.aA k m _ _ _ _ s) (E2.bind e1 (E2.neg q E2.ret))⟩
  obtain ⟨r, c', h', hr, e⟩ := key 6 1 c [] (by omega) (by omega) h ⟨by simp, by simp⟩
  exact ⟨r, c', h', hr, Ev.eq (fun k => wN k c) (Ev.loop (f := fun k m => cZ.l0 k m 1 c.1 c.2.1 c.2.2.1 []) e)⟩
theorem WH (l : List bF) (sc : List aF) (n : Nat) (hn : n <= 4) (hl : oC 10 l) (hs : sc.length <= 1048576) : ∀ (d : Nat) (t : List Int), t.length + d = n -> ∃ r : List Int × (Bool × Unit), r.1.length <= 4 /\ Ev (fun k => bW k l sc (n : Int) t) r := by
  intro d
  induction d with
  | zero =>
    intro t ht
    exact ⟨([] ++ t, (true, ())), by simp; omega, Ev.eq (fun k => pO k l sc _ t) (Ev.pos (by omega) (Ev.pos (by rw [List.length_nil]; omega) Ev.ret))⟩
  | succ d ih =>
    intro t ht
    have key : ∀ (e i : Nat), i + e = l.length -> ∃ r : List Int × (Bool × Unit), r.1.length <= 4 /\ E2 (fun k m => bW.l0 k m l sc (n : Int) t (i : Int)) r := by
      intro e
      induction e with
      | zero => intro i hi; exact ⟨([], (false, ())), by simp, E2.eq (fun k m => bW.aA k m l sc _ t _) (E2.neg (by omega) E2.ret)⟩
      | succ e ZG =>
        intro i hi
        have hll := hl.1
        obtain ⟨r, hr, er⟩ := ZG (i + 1) (by omega)
        have i0 : (0 : Int) <= (i : Int) := by omega
        have i1 : (i : Int) < ((List.length l : Nat) : Int) := by omega
        have h1 := Cu t (rd dx l (i : Int)).1 (by omega)
        by_cases q : decide (((rd dx l (i : Int)).1 : Int) ∈ t) = true
        · refine ⟨r, hr, E2.eq (fun k m => bW.aA k m l sc _ t _) (E2.pos i1 (E2.pos i0 (E2.pos i1 (E2.bind h1 (E2.pos q ?_)))))⟩
          simp only [cO (show i < 9223372036854775807 by omega)]
          exact er
        · have hv : (rd dx l (i : Int)).2.2.2.1.length <= 1048576 := by
            rw [fK (show i < l.length by omega)]
            exact Nat.le_trans (hl.2 _ (List.getElem_mem _)) (by omega)
          obtain ⟨b, eb, _⟩ := Cv (rd dx l (i : Int)) sc (IntKind.wrap .i64 (((List.length t : Nat) : Int) + 1)) hv hs
          by_cases qb : b = true
          · obtain ⟨r2, hr2, ZH⟩ := ih (([] ++ t) ++ [(rd dx l (i : Int)).1]) (by simp; omega)
            by_cases q2 : r2.2.1 = true
            · exact ⟨(r2.1, (true, ())), hr2, E2.eq (fun k m => bW.aA k m l sc _ t _) (E2.pos i1 (E2.pos i0 (E2.pos i1 (E2.bind h1 (E2.neg q (E2.pos i0 (E2.pos i1 (E2.bind eb (E2.neg (fun h => h qb) (E2.pos (by rw [List.length_nil]; omega) (E2.pos i0 (E2.pos i1 (E2.pos (by rw [List.length_append, List.length_nil, List.length_singleton]; omega) (E2.bind ZH (E2.pos q2 E2.ret)))))))))))))))⟩
            · refine ⟨r, hr, E2.eq (fun k m => bW.aA k m l sc _ t _) (E2.pos i1 (E2.pos i0 (E2.pos i1 (E2.bind h1 (E2.neg q (E2.pos i0 (E2.pos i1 (E2.bind eb (E2.neg (fun h => h qb) (E2.pos (by rw [List.length_nil]; omega) (E2.pos i0 (E2.pos i1 (E2.pos (by rw [List.length_append, List.length_nil, List.length_singleton]; omega) (E2.bind ZH (E2.neg q2 ?_)))))))))))))))⟩
              simp only [cO (show i < 9223372036854775807 by omega)]
              exact er
          · refine ⟨r, hr, E2.eq (fun k m => bW.aA k m l sc _ t _) (E2.pos i1 (E2.pos i0 (E2.pos i1 (E2.bind h1 (E2.neg q (E2.pos i0 (E2.pos i1 (E2.bind eb (E2.pos qb ?_)))))))))⟩
            simp only [cO (show i < 9223372036854775807 by omega)]
            exact er
    obtain ⟨r, hr, er⟩ := key l.length 0 (by omega)
    exact ⟨r, hr, Ev.eq (fun k => pO k l sc _ t) (Ev.neg (by omega) (Ev.loop (f := fun k m => bW.l0 k m l sc (n : Int) t 0) er))⟩
theorem MG {n : Nat} {l : List bF} (h : oC n l) (hn : n <= 1048576) : UG l := ⟨Nat.le_trans h.1 hn, fun i hi => by
  rw [fK hi]
  exact Nat.le_trans (h.2 _ (List.getElem_mem hi)) (by omega)⟩
theorem Vf (l : List bF) (sc : List aF) (hl : oC 10 l) (hs : sc.length <= 1048576) : ∃ r : List Int × (Bool × Unit), r.1.length <= 4 /\ Ev (fun k => lV k l sc 2) r := by
  obtain ⟨a, ea, _⟩ := vZ l (MG hl (by omega))
  by_cases qa : a = true
  · have eb := dw sc hs
    by_cases qb : eF sc
    · obtain ⟨r, hr, er⟩ := WH l sc 2 (by omega) hl hs 2 [] (by simp)
      exact ⟨(r.1, (decide (r.2.1 = true), ())), hr, Ev.eq (fun k => ig k l sc 2) (Ev.bind ea (Ev.neg (fun h => h qa) (Ev.bind eb (Ev.neg (by simpa using qb) (Ev.bind (bN _ _ _) (Ev.neg (by simp) (Ev.bind er Ev.ret)))))))⟩
    · exact ⟨([], (false, ())), by simp, Ev.eq (fun k => ig k l sc 2) (Ev.bind ea (Ev.neg (fun h => h qa) (Ev.bind eb (Ev.pos (by simpa using qb) Ev.ret))))⟩
  · exact ⟨([], (false, ())), by simp, Ev.eq (fun k => ig k l sc 2) (Ev.bind ea (Ev.pos qa Ev.ret))⟩
theorem Ru {n : Nat} {l : List bF} (h : oC n l) (hn : n <= 1048576) : Bk (.list dx) l :=
  ⟨Nat.le_trans h.1 hn, fun x hx => ⟨trivial, trivial, trivial, ⟨Nat.le_trans (h.2 x hx) (by omega), fun _ _ => trivial⟩, trivial⟩⟩
theorem ZI {l : List aF} (h : l.length <= 1048576) : Bk (.list bL) l := ⟨h, fun x _ => wJ x rfl⟩
theorem Xe {l : List cu} (h : l.length <= 1048576) : Bk (.list dV) l := ⟨h, fun x _ => wJ x rfl⟩
theorem ZJ {l : List bf} (h : l.length <= 1048576) : Bk (.list eP) l := ⟨h, fun x _ => wJ x rfl⟩
theorem ZK {l : List Int} (h : l.length <= 1048576) : Bk (.list (.int .i64)) l := ⟨h, fun x _ => trivial⟩
theorem Jj (code : List Int) (hc : code.length <= 1048576) : ∃ c : dQ, oI c /\ Ev (fun k => iM k code) c := by
  have key : ∀ (d i : Nat) (h : Int), i + d = code.length -> ∃ c : dQ, oI c /\ E2 (fun k m => iM.l0 k m code h (i : Int)) c := by
    intro d
    induction d with
    | zero => intro i h hi; exact ⟨(code, (0, (h, ()))), ⟨hc, Int.le_refl 0, by show (0 : Int) <= ((List.length code : Nat) : Int); omega⟩, E2.eq (fun k m => iM.aA k m code _ _) (E2.neg (by omega) E2.ret)⟩
    | succ d ih =>
      intro i h hi
      by_cases q : (i : Int) < 4000
      · obtain ⟨c, hc', e⟩ := ih (i + 1) _ (by omega)
        refine ⟨c, hc', E2.eq (fun k m => iM.aA k m code _ _) (E2.pos (by omega) (E2.pos q (E2.pos (by omega) (E2.pos (by omega) ?_))))⟩
        simp only [cO (show i < 9223372036854775807 by omega)]
        exact e
      · exact ⟨(code, (0, (h, ()))), ⟨hc, Int.le_refl 0, by show (0 : Int) <= ((List.length code : Nat) : Int); omega⟩, E2.eq (fun k m => iM.aA k m code _ _) (E2.pos (by omega) (E2.neg q E2.ret))⟩
  obtain ⟨c, hc', e⟩ := key code.length 0 (IntKind.wrap .i64 (193017 + ((List.length code : Nat) : Int))) (by omega)
  exact ⟨c, hc', Ev.eq (fun k => JW k code) (Ev.loop (f := fun k m => iM.l0 k m code (IntKind.wrap .i64 (193017 + ((List.length code : Nat) : Int))) 0) e)⟩
theorem Fh {t : Ty} {a b : List t.den} (h : a.length = b.length) : (∀ i, i < a.length -> rd t a (i : Int) = rd t b (i : Int)) ↔ a = b := by
  constructor
  · intro H
    refine List.ext_getElem h fun i h1 h2 => ?_
    have := H i h1
    rwa [fK (t := t) h1, fK (t := t) h2] at this
  · rintro rfl i _
    rfl
theorem Jk (a b : cu) : ((a.1 : Int) = b.1 /\ (a.2.1 : Int) = b.2.1) ↔ a = b := by
  obtain ⟨a1, a2, ⟨⟩⟩ := a
  obtain ⟨b1, b2, ⟨⟩⟩ := b
  constructor
  · rintro ⟨h1, h2⟩
    simp only at h1 h2
    rw [h1, h2]
  · intro h
    injection h with h1 h
    injection h with h2 h
    exact ⟨h1, h2⟩
theorem WI (a b : List cu) (ha : a.length <= 33554432) : ∃ r, Ev (fun k => bK k a b) r /\ (r = true ↔ a = b) := by
  by_cases c : a.length = b.length
  · obtain ⟨r, er, hr⟩ := gG (R := fun i v => E2 (fun k m => bK.l0 k m a b ((List.length a : Nat) : Int) i) v) (n := a.length) (fun i => rd dV a (i : Int) = rd dV b (i : Int)) true (E2.eq (fun k m => bK.aA k m a b _ _) (E2.neg (by omega) E2.ret)) (fun i hi hq v e => by
      refine E2.eq (fun k m => bK.aA k m a b _ _) (E2.pos (by omega) (E2.pos (by omega) (E2.pos (by omega) (E2.pos (by omega) (E2.pos (by omega) (E2.neg (fun h => h ((Jk _ _).2 hq)) ?_))))))
      simp only [cO (show i < 9223372036854775807 by omega)]
      exact e) (fun i hi hq => E2.eq (fun k m => bK.aA k m a b _ _) (E2.pos (by omega) (E2.pos (by omega) (E2.pos (by omega) (E2.pos (by omega) (E2.pos (by omega) (E2.pos (fun h => hq ((Jk _ _).1 h)) E2.ret)))))))
    refine ⟨r, Ev.eq (fun k => nU k a b) (Ev.neg (by omega) (Ev.loop (f := fun k m => bK.l0 k m a b ((List.length a : Nat) : Int) 0) er)), hr.trans ⟨fun h => (Fh (t := dV) c).1 h.1, fun h => ⟨(Fh (t := dV) c).2 h, rfl⟩⟩⟩
  · exact ⟨false, Ev.eq (fun k => nU k a b) (Ev.pos (by omega) Ev.ret), by simp only [Bool.false_eq_true, false_iff]; exact fun h => c (h ▸ rfl)⟩
theorem WJ (a b : List cu) (ha : a.length <= 33554432) : ∃ r, Ev (fun k => bG k a b) r /\ (r = true ↔ a = b) := by
  by_cases c : a.length = b.length
  · obtain ⟨r, er, hr⟩ := gG (R := fun i v => E2 (fun k m => bG.l0 k m a b ((List.length a : Nat) : Int) i) v) (n := a.length) (fun i => rd dV a (i : Int) = rd dV b (i : Int)) true (E2.eq (fun k m => bG.aA k m a b _ _) (E2.neg (by omega) E2.ret)) (fun i hi hq v e => by
      refine E2.eq (fun k m => bG.aA k m a b _ _) (E2.pos (by omega) (E2.pos (by omega) (E2.pos (by omega) (E2.pos (by omega) (E2.pos (by omega) (E2.neg (fun h => h ((Jk _ _).2 hq)) ?_))))))
      simp only [cO (show i < 9223372036854775807 by omega)]
      exact e) (fun i hi hq => E2.eq (fun k m => bG.aA k m a b _ _) (E2.pos (by omega) (E2.pos (by omega) (E2.pos (by omega) (E2.pos (by omega) (E2.pos (by omega) (E2.pos (fun h => hq ((Jk _ _).1 h)) E2.ret)))))))
    refine ⟨r, Ev.eq (fun k => nD k a b) (Ev.neg (by omega) (Ev.loop (f := fun k m => bG.l0 k m a b ((List.length a : Nat) : Int) 0) er)), hr.trans ⟨fun h => (Fh (t := dV) c).1 h.1, fun h => ⟨(Fh (t := dV) c).2 h, rfl⟩⟩⟩
  · exact ⟨false, Ev.eq (fun k => nD k a b) (Ev.pos (by omega) Ev.ret), by simp only [Bool.false_eq_true, false_iff]; exact fun h => c (h ▸ rfl)⟩
theorem Rv (a b : List Int) (ha : a.length <= 33554432) : ∃ r, Ev (fun k => bI k a b) r /\ (r = true ↔ a = b) := by
  by_cases c : a.length = b.length
  · obtain ⟨r, er, hr⟩ := gG (R := fun i v => E2 (fun k m => bI.l0 k m a b ((List.length a : Nat) : Int) i) v) (n := a.length) (fun i => rd (.int .i64) a (i : Int) = rd (.int .i64) b (i : Int)) true (E2.eq (fun k m => bI.aA k m a b _ _) (E2.neg (by omega) E2.ret)) (fun i hi hq v e => by
      refine E2.eq (fun k m => bI.aA k m a b _ _) (E2.pos (by omega) (E2.pos (by omega) (E2.pos (by omega) (E2.pos (by omega) (E2.pos (by omega) (E2.neg (fun h => h hq) ?_))))))
      simp only [cO (show i < 9223372036854775807 by omega)]
      exact e) (fun i hi hq => E2.eq (fun k m => bI.aA k m a b _ _) (E2.pos (by omega) (E2.pos (by omega) (E2.pos (by omega) (E2.pos (by omega) (E2.pos (by omega) (E2.pos hq E2.ret)))))))
    refine ⟨r, Ev.eq (fun k => oG k a b) (Ev.neg (by omega) (Ev.loop (f := fun k m => bI.l0 k m a b ((List.length a : Nat) : Int) 0) er)), hr.trans ⟨fun h => (Fh (t := .int .i64) c).1 h.1, fun h => ⟨(Fh (t := .int .i64) c).2 h, rfl⟩⟩⟩
  · exact ⟨false, Ev.eq (fun k => oG k a b) (Ev.pos (by omega) Ev.ret), by simp only [Bool.false_eq_true, false_iff]; exact fun h => c (h ▸ rfl)⟩
theorem XV {a b : bF} (h1 : (a.1 : Int) = b.1) (h2 : (a.2.1 : Int) = b.2.1) (h3 : (a.2.2.1 : Int) = b.2.2.1) (h4 : a.2.2.2.1 = b.2.2.2.1) : a = b := by
  obtain ⟨a1, a2, a3, a4, ⟨⟩⟩ := a
  obtain ⟨b1, b2, b3, b4, ⟨⟩⟩ := b
  simp only at h1 h2 h3 h4
  rw [h1, h2, h3, h4]
theorem Vg (a b : bF) (ha : a.2.2.2.1.length <= 33554432) : ∃ r, Ev (fun k => nA k a b) r /\ (r = true ↔ a = b) := by
  by_cases c1 : (a.1 : Int) = b.1
  · by_cases c2 : (a.2.1 : Int) = b.2.1
    · by_cases c3 : (a.2.2.1 : Int) = b.2.2.1
      · obtain ⟨r, er, hr⟩ := Rv a.2.2.2.1 b.2.2.2.1 ha
        refine ⟨_, Ev.eq (fun k => kU k a b) (Ev.pos c1 (Ev.pos c2 (Ev.pos c3 (Ev.bind er Ev.ret)))), ?_⟩
        rw [decide_eq_true_eq]
        exact hr.trans ⟨fun h => XV c1 c2 c3 h, fun h => by rw [h]⟩
      · exact ⟨false, Ev.eq (fun k => kU k a b) (Ev.pos c1 (Ev.pos c2 (Ev.neg c3 Ev.ret))), by simp only [Bool.false_eq_true, false_iff]; exact fun h => c3 (by rw [h])⟩
    · exact ⟨false, Ev.eq (fun k => kU k a b) (Ev.pos c1 (Ev.neg c2 Ev.ret)), by simp only [Bool.false_eq_true, false_iff]; exact fun h => c2 (by rw [h])⟩
  · exact ⟨false, Ev.eq (fun k => kU k a b) (Ev.neg c1 Ev.ret), by simp only [Bool.false_eq_true, false_iff]; exact fun h => c1 (by rw [h])⟩
theorem WK (a b : List bF) (ha : Bk (.list dx) a) : ∃ r, Ev (fun k => aP k a b) r /\ (r = true ↔ a = b) := by
  have hal := ha.1
  by_cases c : a.length = b.length
  · have one : ∀ i, i < a.length -> ∃ r, Ev (fun k => nA k (rd dx a (i : Int)) (rd dx b (i : Int))) r /\ (r = true ↔ rd dx a (i : Int) = rd dx b (i : Int)) := fun i hi => Vg _ _ (by
      rw [fK hi]
      exact Nat.le_trans (ha.2 _ (List.getElem_mem hi)).2.2.2.1.1 (by omega))
    obtain ⟨r, er, hr⟩ := gG (R := fun i v => E2 (fun k m => aP.l0 k m b a ((List.length a : Nat) : Int) i) v) (n := a.length) (fun i => rd dx a (i : Int) = rd dx b (i : Int)) true (E2.eq (fun k m => aP.aA k m b a _ _) (E2.neg (by omega) E2.ret)) (fun i hi hq v e => by
      obtain ⟨q, eq, hqq⟩ := one i hi
      refine E2.eq (fun k m => aP.aA k m b a _ _) (E2.pos (by omega) (E2.pos (by omega) (E2.pos (by omega) (E2.pos (by omega) (E2.pos (by omega) (E2.bind eq (E2.neg (fun h => h (hqq.2 hq)) ?_)))))))
      simp only [cO (show i < 9223372036854775807 by omega)]
      exact e) (fun i hi hq => by
      obtain ⟨q, eq, hqq⟩ := one i hi
      exact E2.eq (fun k m => aP.aA k m b a _ _) (E2.pos (by omega) (E2.pos (by omega) (E2.pos (by omega) (E2.pos (by omega) (E2.pos (by omega) (E2.bind eq (E2.pos (fun h => hq (hqq.1 h)) E2.ret))))))))
    refine ⟨r, Ev.eq (fun k => jY k a b) (Ev.neg (by omega) (Ev.loop (f := fun k m => aP.l0 k m b a ((List.length a : Nat) : Int) 0) er)), hr.trans ⟨fun h => (Fh (t := dx) c).1 h.1, fun h => ⟨(Fh (t := dx) c).2 h, rfl⟩⟩⟩
  · exact ⟨false, Ev.eq (fun k => jY k a b) (Ev.pos (by omega) Ev.ret), by simp only [Bool.false_eq_true, false_iff]; exact fun h => c (h ▸ rfl)⟩
def BkS (a : bg) : Prop := Bk (.list bL) a.1 /\ Bk (.list dV) a.2.2.1 /\ Bk (.list dx) a.2.2.2.1 /\ a.2.2.2.2.1.length <= 33554432 /\ Bk (.list eP) a.2.2.2.2.2.1 /\ Bk (.list dV) a.2.2.2.2.2.2.1
theorem Vh {a : bg} (h : Bk jC a) : BkS a := ⟨h.1, h.2.2.1, h.2.2.2.1, Nat.le_trans h.2.2.2.2.1.1 (by omega), h.2.2.2.2.2.1, h.2.2.2.2.2.2.1⟩
theorem Lc (a b : bg) (h : BkS a) : ∃ r, Ev (fun k => iO k a b) r /\ (r = true ↔ a = b) := by
  obtain ⟨r1, e1, h1⟩ := Rt a.1 b.1 (by have := h.1.1; omega)
  obtain ⟨r2, e2, h2⟩ := WI a.2.2.1 b.2.2.1 (by have := h.2.1.1; omega)
  obtain ⟨r3, e3, h3⟩ := WK a.2.2.2.1 b.2.2.2.1 h.2.2.1
  obtain ⟨r4, e4, h4⟩ := Rv a.2.2.2.2.1 b.2.2.2.2.1 h.2.2.2.1
  obtain ⟨r5, e5, h5⟩ := Rq a.2.2.2.2.2.1 b.2.2.2.2.2.1 h.2.2.2.2.1.1
  obtain ⟨r6, e6, h6⟩ := WJ a.2.2.2.2.2.2.1 b.2.2.2.2.2.2.1 (by have := h.2.2.2.2.2.1; omega)
  by_cases c1 : r1 = true
  · by_cases cm : ((a.2.1.1 : Int) = b.2.1.1) /\ ((a.2.1.2.1 : Int) = b.2.1.2.1)
    · by_cases c2 : r2 = true
      · by_cases c3 : r3 = true
        · by_cases c4 : r4 = true
          · by_cases c5 : r5 = true
            · by_cases c6 : r6 = true
              · by_cases c7 : (a.2.2.2.2.2.2.2.1 : Int) = b.2.2.2.2.2.2.2.1
                · refine ⟨_, Ev.eq (fun k => dN k a b) (Ev.bind e1 (Ev.pos c1 (Ev.pos cm (Ev.bind e2 (Ev.pos c2 (Ev.bind e3 (Ev.pos c3 (Ev.bind e4 (Ev.pos c4 (Ev.bind e5 (Ev.pos c5 (Ev.bind e6 (Ev.pos c6 (Ev.pos c7 Ev.ret)))))))))))))), ?_⟩
                  rw [decide_eq_true_eq]
                  have hm := (Jk a.2.1 b.2.1).1 cm
                  have g1 := h1.1 c1; have g2 := h2.1 c2; have g3 := h3.1 c3; have g4 := h4.1 c4; have g5 := h5.1 c5; have g6 := h6.1 c6
                  refine ⟨fun hh => ?_, fun hh => by rw [hh]⟩
                  obtain ⟨a1, a2, a3, a4, a5, a6, a7, a8, a9, ⟨⟩⟩ := a
                  obtain ⟨b1, b2, b3, b4, b5, b6, b7, b8, b9, ⟨⟩⟩ := b
                  simp only at g1 hm g2 g3 g4 g5 g6 c7 hh
                  rw [g1, hm, g2, g3, g4, g5, g6, c7, hh]
                · exact ⟨false, Ev.eq (fun k => dN k a b) (Ev.bind e1 (Ev.pos c1 (Ev.pos cm (Ev.bind e2 (Ev.pos c2 (Ev.bind e3 (Ev.pos c3 (Ev.bind e4 (Ev.pos c4 (Ev.bind e5 (Ev.pos c5 (Ev.bind e6 (Ev.pos c6 (Ev.neg c7 Ev.ret)))))))))))))), by simp only [Bool.false_eq_true, false_iff]; exact fun hh => c7 (by rw [hh])⟩
              · exact ⟨false, Ev.eq (fun k => dN k a b) (Ev.bind e1 (Ev.pos c1 (Ev.pos cm (Ev.bind e2 (Ev.pos c2 (Ev.bind e3 (Ev.pos c3 (Ev.bind e4 (Ev.pos c4 (Ev.bind e5 (Ev.pos c5 (Ev.bind e6 (Ev.neg c6 Ev.ret))))))))))))), by simp only [Bool.false_eq_true, false_iff]; exact fun hh => c6 (h6.2 (by rw [hh]))⟩
            · exact ⟨false, Ev.eq (fun k => dN k a b) (Ev.bind e1 (Ev.pos c1 (Ev.pos cm (Ev.bind e2 (Ev.pos c2 (Ev.bind e3 (Ev.pos c3 (Ev.bind e4 (Ev.pos c4 (Ev.bind e5 (Ev.neg c5 Ev.ret))))))))))), by simp only [Bool.false_eq_true, false_iff]; exact fun hh => c5 (h5.2 (by rw [hh]))⟩
          · exact ⟨false, Ev.eq (fun k => dN k a b) (Ev.bind e1 (Ev.pos c1 (Ev.pos cm (Ev.bind e2 (Ev.pos c2 (Ev.bind e3 (Ev.pos c3 (Ev.bind e4 (Ev.neg c4 Ev.ret))))))))), by simp only [Bool.false_eq_true, false_iff]; exact fun hh => c4 (h4.2 (by rw [hh]))⟩
        · exact ⟨false, Ev.eq (fun k => dN k a b) (Ev.bind e1 (Ev.pos c1 (Ev.pos cm (Ev.bind e2 (Ev.pos c2 (Ev.bind e3 (Ev.neg c3 Ev.ret))))))), by simp only [Bool.false_eq_true, false_iff]; exact fun hh => c3 (h3.2 (by rw [hh]))⟩
      · exact ⟨false, Ev.eq (fun k => dN k a b) (Ev.bind e1 (Ev.pos c1 (Ev.pos cm (Ev.bind e2 (Ev.neg c2 Ev.ret))))), by simp only [Bool.false_eq_true, false_iff]; exact fun hh => c2 (h2.2 (by rw [hh]))⟩
    · exact ⟨false, Ev.eq (fun k => dN k a b) (Ev.bind e1 (Ev.pos c1 (Ev.neg cm Ev.ret))), by simp only [Bool.false_eq_true, false_iff]; exact fun hh => cm (by rw [hh]; exact ⟨rfl, rfl⟩)⟩
  · exact ⟨false, Ev.eq (fun k => dN k a b) (Ev.bind e1 (Ev.neg c1 Ev.ret)), by simp only [Bool.false_eq_true, false_iff]; exact fun hh => c1 (h1.2 (by rw [hh]))⟩
def Gd (n : Nat) (o : bg) : Prop := o.1.length <= n /\ o.2.2.1.length <= n /\ oC n o.2.2.2.1 /\ o.2.2.2.2.1.length <= n /\ o.2.2.2.2.2.1.length <= n /\ o.2.2.2.2.2.2.1.length <= n
theorem kV {n m : Nat} {o : bg} (h : Gd n o) (hm : n <= m) : Gd m o :=
  ⟨Nat.le_trans h.1 hm, Nat.le_trans h.2.1 hm, sF h.2.2.1 hm, Nat.le_trans h.2.2.2.1 hm, Nat.le_trans h.2.2.2.2.1 hm, Nat.le_trans h.2.2.2.2.2 hm⟩
theorem tQ {n : Nat} {o : bg} (h : Gd n o) (hn : n <= 1048576) : Bk jC o :=
  ⟨ZI (Nat.le_trans h.1 hn), wJ (t := dV) _ rfl, Xe (Nat.le_trans h.2.1 hn), Ru h.2.2.1 hn, ZK (Nat.le_trans h.2.2.2.1 hn), ZJ (Nat.le_trans h.2.2.2.2.1 hn), Xe (Nat.le_trans h.2.2.2.2.2 hn), trivial, trivial, trivial⟩
theorem WL {n : Nat} (hn : n <= 1000000) {o out : bg} (h : Gd n o) (h2 : Gd n out) (ok : Bool) : ∃ v : bg × (Bool × Unit), Gd n v.1 /\ (v = (o, (false, ())) \/ v = (out, (true, ())) /\ Ev (fun k => fU k out) true) /\ Ev (fun k => mI k o out ok) v := by
  have b := tQ h (by omega)
  by_cases c : ok = true
  · obtain ⟨r, e1⟩ := Je out (OI (tQ h2 (by omega)))
    by_cases d : r = true
    · exact ⟨(out, (true, ())), h2, .inr ⟨rfl, by rw [d] at e1; exact e1⟩, Ev.eq (fun k => uE k o out ok) (Ev.neg (by simpa using c) (Ev.bind e1 (Ev.neg (by simpa using d) Ev.ret)))⟩
    · exact ⟨(o, (false, ())), h, .inl rfl, Ev.eq (fun k => uE k o out ok) (Ev.neg (by simpa using c) (Ev.bind e1 (Ev.pos d (Ev.bind (wm _ b) Ev.ret))))⟩
  · exact ⟨(o, (false, ())), h, .inl rfl, Ev.eq (fun k => uE k o out ok) (Ev.pos c (Ev.bind (wm _ b) Ev.ret))⟩
def ZL (n : Nat) (o : bg) (f : Nat -> Option (bg × (Bool × Unit))) : Prop := ∃ v : bg × (Bool × Unit), Gd (n + 1) v.1 /\ (v.1 = o \/ Ev (fun k => fU k v.1) true) /\ Ev f v
theorem MH {n : Nat} {o : bg} {f : Nat -> Option (bg × (Bool × Unit))} {g : Nat -> Option (bg × (Bool × Unit))} (h : ∃ v : bg × (Bool × Unit), Gd (n + 1) v.1 /\ (v = (o, (false, ())) \/ ∃ out, v = (out, (true, ())) /\ Ev (fun k => fU k out) true) /\ Ev g v) (hf : ∀ v, Ev g v -> Ev f (v.1, (decide (v.2.1 = true), ()))) : ZL n o f := by
  obtain ⟨v, h1, h2, h3⟩ := h
  refine ⟨(v.1, (decide (v.2.1 = true), ())), h1, ?_, hf v h3⟩
  rcases h2 with rfl | ⟨out, rfl, h⟩
  · exact .inl rfl
  · exact .inr h
theorem Rw {n : Nat} (hn : n + 1 <= 1000000) {o out : bg} (h : Gd n o) (h2 : Gd (n + 1) out) (ok : Bool) : ∃ v : bg × (Bool × Unit), Gd (n + 1) v.1 /\ (v = (o, (false, ())) \/ ∃ out, v = (out, (true, ())) /\ Ev (fun k => fU k out) true) /\ Ev (fun k => mI k o out ok) v := by
  obtain ⟨v, h1, h2, h3⟩ := WL hn (kV h (Nat.le_succ n)) h2 ok
  refine ⟨v, h1, ?_, h3⟩
  rcases h2 with rfl | ⟨rfl, h⟩
  · exact .inl rfl
  · exact .inr ⟨_, rfl, h⟩
theorem Vi {n : Nat} (hn : n + 1 <= 1000000) {o : bg} (h : Gd n o) (x : Int) : ZL n o (fun k => wZ k o x) := by
  have b := tQ h (by omega)
  by_cases c1 : 1 <= x /\ x <= 1000
  · by_cases c2 : 0 <= (o.2.2.2.2.2.2.2.2.1 : Int) /\ (o.2.2.2.2.2.2.2.2.1 : Int) <= 100000
    · exact MH (Rw hn h (out := (o.1, (o.2.1, (o.2.2.1, (o.2.2.2.1, (o.2.2.2.2.1, (o.2.2.2.2.2.1, (o.2.2.2.2.2.2.1, (o.2.2.2.2.2.2.2.1, (IntKind.wrap .i64 (o.2.2.2.2.2.2.2.2.1 + x), ())))))))))) (kV (show Gd n _ from h) (Nat.le_succ n)) true) fun v e =>
        Ev.eq (fun k => sD k o x) (Ev.bind (wm _ b) (Ev.bind (bN _ _ _) (Ev.neg (by simpa using c1) (Ev.bind (bN _ _ _) (Ev.neg (by simpa using c2) (Ev.bind e Ev.ret))))))
    · exact ⟨(o, (false, ())), kV h (Nat.le_succ n), .inl rfl, Ev.eq (fun k => sD k o x) (Ev.bind (wm _ b) (Ev.bind (bN _ _ _) (Ev.neg (by simpa using c1) (Ev.bind (bN _ _ _) (Ev.pos (by simpa using c2) Ev.ret)))))⟩
  · exact ⟨(o, (false, ())), kV h (Nat.le_succ n), .inl rfl, Ev.eq (fun k => sD k o x) (Ev.bind (wm _ b) (Ev.bind (bN _ _ _) (Ev.pos (by simpa using c1) Ev.ret)))⟩
theorem Jl {n : Nat} {o : bg} (h : Gd n o) {l : List aF} (hl : l.length <= n + 1) (e : Int) : Gd (n + 1) (l, (o.2.1, (o.2.2.1, (o.2.2.2.1, (o.2.2.2.2.1, (o.2.2.2.2.2.1, (o.2.2.2.2.2.2.1, (e, o.2.2.2.2.2.2.2.2)))))))) :=
  have h := kV h (Nat.le_succ n); ⟨hl, h.2⟩
theorem SQ {n : Nat} (hn : n + 1 <= 1000000) {o : bg} (h : Gd n o) (e : aF) : ZL n o (fun k => vQ k o e) := by
  have b := tQ h (by omega)
  obtain ⟨p, hp, ep⟩ := Gw o.1 e (by have := h.1; omega)
  exact MH (Rw hn h (Jl h (by have := h.1; omega) _) (decide (p.2.1 = true))) fun v e1 =>
    Ev.eq (fun k => Du k o e) (Ev.bind (wm _ b) (Ev.bind ep (Ev.bind (XR _ _) (Ev.bind e1 Ev.ret))))
theorem Vj {n : Nat} (hn : n + 1 <= 1000000) {o : bg} (h : Gd n o) (x y z w : Int) : ZL n o (fun k => xg k o x y z w) := by
  have b := tQ h (by omega)
  obtain ⟨p, hp, ep⟩ := Ji o.2.2.2.2.2.1 (x, (y, (z, (o.2.2.2.2.2.2.2.2.1, (w, ()))))) (by have := h.2.2.2.2.1; omega)
  obtain ⟨r, er, _⟩ := WC p o.2.2.2.2.2.1 (by have := h.2.2.2.2.1; omega)
  have h' := kV h (Nat.le_succ n)
  have hg : Gd (n + 1) (o.1, (o.2.1, (o.2.2.1, (o.2.2.2.1, (o.2.2.2.2.1, (p, o.2.2.2.2.2.2)))))) := ⟨h'.1, h'.2.1, h'.2.2.1, h'.2.2.2.1, by have := h.2.2.2.2.1; show p.length <= _; omega, h'.2.2.2.2.2⟩
  exact MH (Rw hn h hg (decide (¬ (r = true)))) fun v e1 =>
    Ev.eq (fun k => EA k o x y z w) (Ev.bind (wm _ b) (Ev.bind ep (Ev.bind er (Ev.bind e1 Ev.ret))))
theorem Vk (l : List bF) (sc : List aF) (n N : Nat) (hn : n <= 4) (hN : N <= 1000000) (hl : oC N l) (hs : sc.length <= 1048576) : ∀ (d : Nat) (t : List Int), t.length + d = n -> ∃ r : List Int × (Bool × Unit), r.1.length <= 4 /\ Ev (fun k => bW k l sc (n : Int) t) r := by
  intro d
  induction d with
  | zero =>
    intro t ht
    exact ⟨([] ++ t, (true, ())), by simp; omega, Ev.eq (fun k => pO k l sc _ t) (Ev.pos (by omega) (Ev.pos (by rw [List.length_nil]; omega) Ev.ret))⟩
  | succ d ih =>
    intro t ht
    have key : ∀ (e i : Nat), i + e = l.length -> ∃ r : List Int × (Bool × Unit), r.1.length <= 4 /\ E2 (fun k m => bW.l0 k m l sc (n : Int) t (i : Int)) r := by
      intro e
      induction e with
      | zero => intro i hi; exact ⟨([], (false, ())), by simp, E2.eq (fun k m => bW.aA k m l sc _ t _) (E2.neg (by omega) E2.ret)⟩
      | succ e ZG =>
        intro i hi
        have hll := hl.1
        obtain ⟨r, hr, er⟩ := ZG (i + 1) (by omega)
        have i0 : (0 : Int) <= (i : Int) := by omega
        have i1 : (i : Int) < ((List.length l : Nat) : Int) := by omega
        have h1 := Cu t (rd dx l (i : Int)).1 (by omega)
        by_cases q : decide (((rd dx l (i : Int)).1 : Int) ∈ t) = true
        · refine ⟨r, hr, E2.eq (fun k m => bW.aA k m l sc _ t _) (E2.pos i1 (E2.pos i0 (E2.pos i1 (E2.bind h1 (E2.pos q ?_)))))⟩
          simp only [cO (show i < 9223372036854775807 by omega)]
          exact er
        · have hv : (rd dx l (i : Int)).2.2.2.1.length <= 1048576 := by
            rw [fK (show i < l.length by omega)]
            exact Nat.le_trans (hl.2 _ (List.getElem_mem _)) (by omega)
          obtain ⟨b, eb, _⟩ := Cv (rd dx l (i : Int)) sc (IntKind.wrap .i64 (((List.length t : Nat) : Int) + 1)) hv hs
          by_cases qb : b = true
          · obtain ⟨r2, hr2, ZH⟩ := ih (([] ++ t) ++ [(rd dx l (i : Int)).1]) (by simp; omega)
            by_cases q2 : r2.2.1 = true
            · exact ⟨(r2.1, (true, ())), hr2, E2.eq (fun k m => bW.aA k m l sc _ t _) (E2.pos i1 (E2.pos i0 (E2.pos i1 (E2.bind h1 (E2.neg q (E2.pos i0 (E2.pos i1 (E2.bind eb (E2.neg (fun h => h qb) (E2.pos (by rw [List.length_nil]; omega) (E2.pos i0 (E2.pos i1 (E2.pos (by rw [List.length_append, List.length_nil, List.length_singleton]; omega) (E2.bind ZH (E2.pos q2 E2.ret)))))))))))))))⟩
            · refine ⟨r, hr, E2.eq (fun k m => bW.aA k m l sc _ t _) (E2.pos i1 (E2.pos i0 (E2.pos i1 (E2.bind h1 (E2.neg q (E2.pos i0 (E2.pos i1 (E2.bind eb (E2.neg (fun h => h qb) (E2.pos (by rw [List.length_nil]; omega) (E2.pos i0 (E2.pos i1 (E2.pos (by rw [List.length_append, List.length_nil, List.length_singleton]; omega) (E2.bind ZH (E2.neg q2 ?_)))))))))))))))⟩
              simp only [cO (show i < 9223372036854775807 by omega)]
              exact er
          · refine ⟨r, hr, E2.eq (fun k m => bW.aA k m l sc _ t _) (E2.pos i1 (E2.pos i0 (E2.pos i1 (E2.bind h1 (E2.neg q (E2.pos i0 (E2.pos i1 (E2.bind eb (E2.pos qb ?_)))))))))⟩
            simp only [cO (show i < 9223372036854775807 by omega)]
            exact er
    obtain ⟨r, hr, er⟩ := key l.length 0 (by omega)
    exact ⟨r, hr, Ev.eq (fun k => pO k l sc _ t) (Ev.neg (by omega) (Ev.loop (f := fun k m => bW.l0 k m l sc (n : Int) t 0) er))⟩
theorem Vl (l : List bF) (sc : List aF) (v : Int) {N : Nat} (hN : N <= 1000000) (hl : oC N l) (hs : sc.length <= 1048576) : ∃ r : List Int × (Bool × Unit), r.1.length <= 4 /\ Ev (fun k => lV k l sc v) r := by
  obtain ⟨a, ea, _⟩ := vZ l (MG hl (by omega))
  by_cases qa : a = true
  · have eb := dw sc hs
    by_cases qb : eF sc
    · by_cases qc : 1 <= v /\ v <= 4
      · obtain ⟨m, rfl⟩ := Int.eq_ofNat_of_zero_le (show 0 <= v by omega)
        obtain ⟨r, hr, er⟩ := Vk l sc m N (by omega) hN hl hs m [] (by simp)
        exact ⟨(r.1, (decide (r.2.1 = true), ())), hr, Ev.eq (fun k => ig k l sc _) (Ev.bind ea (Ev.neg (fun h => h qa) (Ev.bind eb (Ev.neg (by simpa using qb) (Ev.bind (bN _ _ _) (Ev.neg (by simpa using qc) (Ev.bind er Ev.ret)))))))⟩
      · exact ⟨([], (false, ())), by simp, Ev.eq (fun k => ig k l sc v) (Ev.bind ea (Ev.neg (fun h => h qa) (Ev.bind eb (Ev.neg (by simpa using qb) (Ev.bind (bN _ _ _) (Ev.pos (by simpa using qc) Ev.ret))))))⟩
    · exact ⟨([], (false, ())), by simp, Ev.eq (fun k => ig k l sc v) (Ev.bind ea (Ev.neg (fun h => h qa) (Ev.bind eb (Ev.pos (by simpa using qb) Ev.ret))))⟩
  · exact ⟨([], (false, ())), by simp, Ev.eq (fun k => ig k l sc v) (Ev.bind ea (Ev.pos qa Ev.ret))⟩
theorem Vm {n : Nat} (h4 : 4 <= n) (hn : n + 1 <= 1000000) {o : bg} (h : Gd n o) (v : Int) : ZL n o (fun k => xk k o v) := by
  have b := tQ h (by omega)
  obtain ⟨p, hp, ep⟩ := Vl o.2.2.2.1 o.1 v (by omega) h.2.2.1 (by have := h.1; omega)
  have h' := kV h (Nat.le_succ n)
  have hg : Gd (n + 1) (o.1, (o.2.1, (o.2.2.1, (o.2.2.2.1, (p.1, o.2.2.2.2.2))))) := ⟨h'.1, h'.2.1, h'.2.2.1, by show p.1.length <= _; omega, h'.2.2.2.2⟩
  exact MH (Rw hn h hg (decide (p.2.1 = true))) fun v e1 =>
    Ev.eq (fun k => EB k o _) (Ev.bind (wm _ b) (Ev.bind ep (Ev.bind e1 Ev.ret)))
def ZM (p : bF) : Prop := p.2.2.2.1.length <= 3
theorem Jm {n m : Nat} {l l' : List bF} (h : oC n l) (hl : l'.length <= m) (hm : ∀ p ∈ l', p ∈ l) : oC m l' := ⟨hl, fun p hp => h.2 p (hm p hp)⟩
theorem OQ {n m k : Nat} {l l' : List bF} (h : oC n l) (h' : oC m l') (hk : l.length + l'.length <= k) : oC k (l ++ l') := ⟨by rw [List.length_append]; exact hk, fun p hp => (List.mem_append.1 hp).elim (h.2 p) (h'.2 p)⟩
theorem Cw {n : Nat} {o : bg} (h : Gd n o) {l : List bF} (hl : oC (n + 1) l) {seats : List Int} (hs : seats.length <= n + 1) : Gd (n + 1) (o.1, (o.2.1, (o.2.2.1, (l, (seats, o.2.2.2.2.2))))) :=
  have h := kV h (Nat.le_succ n); ⟨h.1, h.2.1, hl, hs, h.2.2.2.2⟩
def JZ (x : kX) : Prop := ZM x.2.2.2.2.1
theorem Ld : Dr (fun k c => wK k c) (fun x => JZ x) := by
  intro c h
  obtain ⟨a, c1, h1, ha, e1⟩ := aS 8 c h
  obtain ⟨b, c2, h2, hb, e2⟩ := aS 4 c1 h1
  have w : IntKind.wrap .i64 (1 + a) = 1 + a := jD (by omega) (by omega)
  by_cases d1 : IntKind.wrap .i64 (1 + a) = 1
  · obtain ⟨x, c3, h3, _, e3⟩ := yP c2 h2
    refine ⟨_, c3, h3, ?_, Ev.eq (fun k => lY k c) (Ev.bind e1 (Ev.bind e2 (Ev.pos d1 (Ev.pos d1 (Ev.bind e3 Ev.ret)))))⟩
    show ([] : List Int).length <= 3
    simp
  by_cases d2 : IntKind.wrap .i64 (1 + a) = 2
  · obtain ⟨x, c3, h3, _, e3⟩ := yP c2 h2
    refine ⟨_, c3, h3, ?_, Ev.eq (fun k => lY k c) (Ev.bind e1 (Ev.bind e2 (Ev.neg d1 (Ev.pos d2 (Ev.bind e3 Ev.ret)))))⟩
    show ([] : List Int).length <= 3
    simp
  by_cases d3 : IntKind.wrap .i64 (1 + a) = 3
  · obtain ⟨x, c3, h3, _, e3⟩ := aS 9 c2 h2
    obtain ⟨y, c4, h4, _, e4⟩ := aS 90 c3 h3
    refine ⟨_, c4, h4, ?_, Ev.eq (fun k => lY k c) (Ev.bind e1 (Ev.bind e2 (Ev.neg d1 (Ev.neg d2 (Ev.pos d3 (Ev.bind e3 (Ev.bind e4 Ev.ret)))))))⟩
    show ([] : List Int).length <= 3
    simp
  by_cases d6 : IntKind.wrap .i64 (1 + a) = 6
  · obtain ⟨x, c3, h3, _, e3⟩ := aS 9 c2 h2
    refine ⟨_, c3, h3, ?_, Ev.eq (fun k => lY k c) (Ev.bind e1 (Ev.bind e2 (Ev.neg d1 (Ev.neg d2 (Ev.neg d3 (Ev.pos d6 (Ev.bind e3 Ev.ret)))))))⟩
    show ([1, 2] : List Int).length <= 3
    simp
  by_cases d7 : IntKind.wrap .i64 (1 + a) = 7
  · obtain ⟨x, c3, h3, _, e3⟩ := Jh c2 h2
    refine ⟨_, c3, h3, ?_, Ev.eq (fun k => lY k c) (Ev.bind e1 (Ev.bind e2 (Ev.neg d1 (Ev.neg d2 (Ev.neg d3 (Ev.neg d6 (Ev.pos d7 (Ev.bind e3 Ev.ret))))))))⟩
    show ([] : List Int).length <= 3
    simp
  · refine ⟨_, c2, h2, ?_, Ev.eq (fun k => lY k c) (Ev.bind e1 (Ev.bind e2 (Ev.neg d1 (Ev.neg d2 (Ev.neg d3 (Ev.neg d6 (Ev.neg d7 Ev.ret)))))))⟩
    show ([] : List Int).length <= 3
    simp
def lZ (l : List aF) : List kX := l.map fun e => (1, (0, (e, ((0, (0, ())), ((0, (0, (0, ([], ())))), ((0, (0, (0, (0, (0, ()))))), ()))))))
theorem SS (l : List aF) (hl : l.length <= 1048576) : Ev (fun k => gU k l) (lZ l) := by
  have key : ∀ (d i : Nat), i + d = l.length -> E2 (fun k m => gU.l0 k m l (i : Int) (lZ (l.take i))) (lZ l) := by
    intro d
    induction d with
    | zero =>
      intro i hi
      rw [List.take_of_length_le (by omega)]
      exact E2.eq (fun k m => gU.aA k m _ _ _) (E2.neg (by omega) E2.ret)
    | succ d ih =>
      intro i hi
      have e := ih (i + 1) (by omega)
      have hlt : i < l.length := by omega
      have hlen : (lZ (l.take i)).length = i := by simp [lZ]; omega
      refine E2.eq (fun k m => gU.aA k m _ _ _) (E2.pos (by omega) (E2.pos (by omega) (E2.pos (by omega) (E2.pos (by simp only [List.length_singleton]; omega) ?_))))
      simp only [cO (show i < 9223372036854775807 by omega)]
      have : lZ (l.take (i + 1)) = lZ (l.take i) ++ [((1, (0, ((rd bL l (i : Int)), ((0, (0, ())), ((0, (0, (0, ([], ())))), ((0, (0, (0, (0, (0, ()))))), ())))))) : kX)] := by
        rw [fK hlt]
        unfold lZ
        rw [List.take_succ_eq_append_getElem hlt, List.map_append]
        rfl
      rw [<- this]
      exact e
  exact Ev.eq (fun k => Ez k l) (Ev.loop (f := fun k m => gU.l0 k m l 0 []) (key l.length 0 (by omega)))
theorem WM (m : cu) (ps : List bF) (h : oC 10 ps) : ∃ v : bg × (Bool × Unit), Gd 10 v.1 /\ (v.1 = Dz \/ v.1 = zw m ps /\ Ev (fun k => fU k v.1) true) /\ Ev (fun k => kT k m ps) v := by
  have b := WG m ps (Ru h (by omega))
  obtain ⟨r, e1⟩ := Je (zw m ps) (OI b)
  by_cases c : r = true
  · exact ⟨(zw m ps, (true, ())), ⟨by simp [zw], by simp [zw], h, by simp [zw], by simp [zw], by simp [zw]⟩, .inr ⟨rfl, by rw [c] at e1; exact e1⟩, Ev.eq (fun k => nV k m ps) (Ev.bind (wm _ b) (Ev.bind e1 (Ev.neg (by simpa using c) Ev.ret)))⟩
  · exact ⟨(Dz, (false, ())), ⟨by simp [Dz], by simp [Dz], ⟨by simp [Dz], by simp [Dz]⟩, by simp [Dz], by simp [Dz], by simp [Dz]⟩, .inl rfl, Ev.eq (fun k => nV k m ps) (Ev.bind (wm _ b) (Ev.bind e1 (Ev.pos c Ev.ret)))⟩
theorem Le {can : Nat -> Int -> Bool} {eU : Nat -> Int} {len : Nat} : ∀ (d : Nat) (t : List Int), (tH can eU len d t).1.length <= t.length + d
  | 0, t => Nat.le_refl _
  | d + 1, t => by
    have key : ∀ e, (kZ (tH can eU len d) can eU len t e).1.length <= t.length + (d + 1) := by
      intro e
      induction e with
      | zero => exact Nat.le_add_right _ _
      | succ e ih =>
        unfold kZ
        split
        · exact ih
        · split
          · have := Le (can := can) (eU := eU) (len := len) d (t ++ [eU (len - (e + 1))])
            rw [List.length_append, List.length_singleton] at this
            show (tH can eU len d (t ++ [eU (len - (e + 1))])).1.length <= _
            omega
          · exact ih
    exact key len
theorem SV (l : List bF) (sc : List aF) (v : Int) : (oV Go.fZ.Pf Go.fZ.Pg Go.fZ.AP l sc v).1.length <= 4 := by
  unfold oV
  split
  · rename_i h
    refine Nat.le_trans (Le _ _) ?_
    rw [List.length_nil]
    omega
  · simp
theorem Vn (l : List bF) (sc : List aF) (v : Int) (hok : Aa l sc) : Ev (fun k => sw k l sc v) ((oV Go.fZ.Pf Go.fZ.Pg Go.fZ.AP l sc v).1, ((oV Go.fZ.Pf Go.fZ.Pg Go.fZ.AP l sc v).2, ())) :=
  Ev.eq (fun k => Bg k l sc v) (by
    have := Oq Go.fZ.Pf Go.fZ.Pg Go.fZ.AP (v := v) hok
    exact ⟨0, fun _ _ => this⟩)
theorem Jo {can : Nat -> Int -> Bool} {eU : Nat -> Int} {len : Nat} : ∀ (d : Nat) (t : List Int), (tH can eU len d t).2 = true -> (tH can eU len d t).1.length = t.length + d
  | 0, t, _ => rfl
  | d + 1, t, h => by
    have key : ∀ e, (kZ (tH can eU len d) can eU len t e).2 = true -> (kZ (tH can eU len d) can eU len t e).1.length = t.length + (d + 1) := by
      intro e
      induction e with
      | zero => intro h; simp [kZ] at h
      | succ e ih =>
        intro h
        simp only [kZ] at h ⊢
        split at h
        · rename_i c
          rw [if_pos c]
          exact ih h
        · rename_i c
          rw [if_neg c]
          split at h
          · rename_i c2
            rw [if_pos c2]
            have := Jo (can := can) (eU := eU) (len := len) d (t ++ [eU (len - (e + 1))]) c2
            simp only [List.length_append, List.length_singleton] at this
            show (tH can eU len d (t ++ [eU (len - (e + 1))])).1.length = _
            omega
          · rename_i c2
            rw [if_neg c2]
            exact ih h
    exact key len h
theorem Qy (l : List bF) (sc : List aF) (v : Int) (h : (oV Go.fZ.Pf Go.fZ.Pg Go.fZ.AP l sc v).2 = true) : (((oV Go.fZ.Pf Go.fZ.Pg Go.fZ.AP l sc v).1.length : Nat) : Int) = v := by
  unfold oV at h ⊢
  split at h
  · rename_i c
    rw [if_pos c]
    have := Jo _ _ h
    simp only [List.length_nil] at this
    rw [this]
    omega
  · cases h
def Gx (n : Nat) (o : bg) (P : bg -> Prop) (f : Nat -> Option (bg × (Bool × Unit))) : Prop := ∃ v : bg × (Bool × Unit), Gd (n + 1) v.1 /\ (v = (o, (false, ())) \/ v.2.1 = true /\ Ev (fun k => dL k v.1) true /\ P v.1) /\ Ev f v
theorem Fj {n : Nat} (hn : n + 1 <= 1000000) {o out : bg} {P : bg -> Prop} {g : Nat -> bg -> Option (Bool × bg)} {ok : Bool} (h : Gd n o) (e : Ev (fun k => g k o) (ok, out)) (hg : ok = true -> Gd (n + 1) out) (hP : ok = true -> P out) :
    Gx n o P (fun k => (au k o).bind fun r1 => (g k r1).bind fun r2 => if ¬ (r2.1 = true) then (au k o).bind fun r3 => some (r3, (false, ())) else (dL k r2.2).bind fun r4 => if ¬ (r4 = true) then (au k o).bind fun r5 => some (r5, (false, ())) else some (r2.2, (true, ()))) := by
  have b := tQ h (by omega)
  have h' := kV h (Nat.le_succ n)
  by_cases c : ok = true
  · obtain ⟨r, _, i1⟩ := yc out (OI (tQ (hg c) (by omega)))
    by_cases d : r = true
    · exact ⟨(out, (true, ())), hg c, .inr ⟨rfl, by rw [d] at i1; exact i1, hP c⟩, Ev.bind (qz _ b) (Ev.bind e (Ev.neg (by simpa using c) (Ev.bind i1 (Ev.neg (by simpa using d) Ev.ret))))⟩
    · exact ⟨(o, (false, ())), h', .inl rfl, Ev.bind (qz _ b) (Ev.bind e (Ev.neg (by simpa using c) (Ev.bind i1 (Ev.pos d (Ev.bind (qz _ b) Ev.ret)))))⟩
  · exact ⟨(o, (false, ())), h', .inl rfl, Ev.bind (qz _ b) (Ev.bind e (Ev.pos c (Ev.bind (qz _ b) Ev.ret)))⟩
theorem lM {n : Nat} {o : bg} {P : bg -> Prop} {f g : Nat -> Option (bg × (Bool × Unit))} (h : Gx n o P f) (hf : ∀ v, Ev f v -> Ev g (v.1, (decide (v.2.1 = true), ()))) : Gx n o P g := by
  obtain ⟨v, g1, g2, e1⟩ := h
  have hv : (v.1, (decide (v.2.1 = true), ())) = v := by simp
  exact ⟨v, g1, g2, (hf v e1).val hv⟩
theorem Al {n : Nat} {o : bg} {P : bg -> Prop} {f F : Nat -> Option (bg × (Bool × Unit))} (hF : ∀ k, F (k + 1) = f k) (h : Gx n o P f) : Gx n o P F := by
  obtain ⟨v, g1, g2, e1⟩ := h
  exact ⟨v, g1, g2, Ev.eq hF e1⟩
theorem Rx (l : List aF) (e : aF) (hl : l.length <= 1048576) : ∃ p, p <= l.length /\ (∀ j, j < p -> Ac (rd bL l (j : Int)) e) /\ (p < l.length -> ¬ Ac (rd bL l (p : Int)) e) /\
    Ev (fun k => xq k l e) (if eF (l.take p ++ [e] ++ l.drop p) then (l.take p ++ [e] ++ l.drop p, (true, ())) else (l, (false, ()))) := by
  obtain ⟨p, hp, h1, h2⟩ := oz (fun i => Ac (rd bL l (i : Int)) e) l.length
  have hm : (l.take p ++ [e] ++ l.drop p).length = l.length + 1 := by simp; omega
  refine ⟨p, hp, h1, h2, ?_⟩
  have hi : Ev (fun k => aZ k l e) (if p < l.length then (p : Int) else -1) := by
    have key : ∀ d i : Nat, i + d = p -> E2 (fun k m => aZ.l0 k m l e ((List.length l : Nat) : Int) (i : Int)) (if p < l.length then (p : Int) else -1) := by
      intro d
      induction d with
      | zero =>
        intro i hi
        have hi : i = p := by omega
        subst hi
        refine E2.eq (fun k m => aZ.aA k m l e _ _) ?_
        by_cases c : i < l.length
        · rw [if_pos c]
          exact E2.pos (by omega) (E2.pos (by omega) (E2.pos (by omega) (E2.bind (Rn _ _) (E2.pos (by simpa using h2 c) E2.ret))))
        · rw [if_neg c]
          exact E2.neg (by omega) E2.ret
      | succ d ih =>
        intro i hi
        refine E2.eq (fun k m => aZ.aA k m l e _ _) (E2.pos (by omega) (E2.pos (by omega) (E2.pos (by omega) (E2.bind (Rn _ _) (E2.neg (by simpa using h1 i (by omega)) ?_)))))
        simp only [cO (show i < 9223372036854775807 by omega)]
        exact ih (i + 1) (by omega)
    exact Ev.eq (fun k => qo k l e) (Ev.loop (f := fun k m => aZ.l0 k m l e ((List.length l : Nat) : Int) 0) (key p 0 (by omega)))
  have hins : Ev (fun k => jw k l (p : Int) [e]) (l.take p ++ [e] ++ l.drop p) := by
    refine Ev.eq (f := fun _ => some (l.take p ++ [e] ++ l.drop p)) (fun k => ?_) Ev.ret
    rw [uY]
    have := sM (T := bL) (B := 32) (l := l) (i := (p : Int)) (x := e) (by omega) (by omega) (by omega)
    simpa using this
  have VA := sO (l.take p ++ [e] ++ l.drop p) (by omega)
  by_cases c : eF (l.take p ++ [e] ++ l.drop p)
  · rw [if_pos c]
    refine Ev.eq (fun k => xZ k l e) (Ev.bind hi ?_)
    by_cases d : p < l.length
    · rw [if_pos d]
      exact Ev.neg (by omega) (Ev.bind (jF _ hl) (Ev.bind hins (Ev.bind VA (Ev.neg (by simpa using c) Ev.ret))))
    · rw [if_neg d]
      have hpl : p = l.length := by omega
      rw [hpl] at hins VA c ⊢
      exact Ev.pos (by omega) (Ev.bind (jF _ hl) (Ev.bind hins (Ev.bind VA (Ev.neg (by simpa using c) Ev.ret))))
  · rw [if_neg c]
    refine Ev.eq (fun k => xZ k l e) (Ev.bind hi ?_)
    by_cases d : p < l.length
    · rw [if_pos d]
      exact Ev.neg (by omega) (Ev.bind (jF _ hl) (Ev.bind hins (Ev.bind VA (Ev.pos (by simpa using c) (Ev.bind (jF _ hl) Ev.ret)))))
    · rw [if_neg d]
      have hpl : p = l.length := by omega
      rw [hpl] at hins VA c
      exact Ev.pos (by omega) (Ev.bind (jF _ hl) (Ev.bind hins (Ev.bind VA (Ev.pos (by simpa using c) (Ev.bind (jF _ hl) Ev.ret)))))
theorem Jp {n : Nat} (hn : n + 1 <= 1000000) {o out : bg} {P : bg -> Prop} {ok : Bool} {e : aF} (h : Gd n o) (ec : Ev (fun k => jm k o e) (ok, out)) (hg : ok = true -> Gd (n + 1) out) (hP : ok = true -> P out) : Gx n o P (fun k => nR k o e) :=
  lM (Al (F := fun k => uw k o e) (fun k => vV k o e) (Fj (g := fun k r => jm k r e) hn h ec hg hP)) fun v e1 => Ev.eq (fun k => wM k o e) (Ev.bind e1 Ev.ret)
theorem Qz {n : Nat} (hn : n + 1 <= 1000000) {o out : bg} {P : bg -> Prop} {ok : Bool} {e : aF} (h : Gd n o) (ec : Ev (fun k => lW k o e) (ok, out)) (hg : ok = true -> Gd (n + 1) out) (hP : ok = true -> P out) : Gx n o P (fun k => qM k o e) :=
  lM (Al (F := fun k => rU k o e) (fun k => AV k o e) (Fj (g := fun k r => lW k r e) hn h ec hg hP)) fun v e1 => Ev.eq (fun k => Dm k o e) (Ev.bind e1 Ev.ret)
theorem QB {n : Nat} (hn : n + 1 <= 1000000) {o out : bg} {P : bg -> Prop} {ok : Bool} {x : cu} (h : Gd n o) (ec : Ev (fun k => lX k o x) (ok, out)) (hg : ok = true -> Gd (n + 1) out) (hP : ok = true -> P out) : Gx n o P (fun k => qN k o x) :=
  lM (Al (F := fun k => rV k o x) (fun k => AX k o x) (Fj (g := fun k r => lX k r x) hn h ec hg hP)) fun v e1 => Ev.eq (fun k => Dn k o x) (Ev.bind e1 Ev.ret)
theorem SX {n : Nat} (hn : n + 1 <= 1000000) {o out : bg} {P : bg -> Prop} {ok : Bool} {v : Int} (h : Gd n o) (ec : Ev (fun k => mR k o v) (ok, out)) (hg : ok = true -> Gd (n + 1) out) (hP : ok = true -> P out) : Gx n o P (fun k => sP k o v) :=
  lM (Al (F := fun k => rW k o v) (fun k => AY k o v) (Fj (g := fun k r => mR k r v) hn h ec hg hP)) fun w e1 => Ev.eq (fun k => Es k o v) (Ev.bind e1 Ev.ret)
theorem yQ {n : Nat} (hn : n + 1 <= 1000000) {o out : bg} {P : bg -> Prop} {ok : Bool} {id : Int} (h : Gd n o) (ec : Ev (fun k => ku k o id) (ok, out)) (hg : ok = true -> Gd (n + 1) out) (hP : ok = true -> P out) : Gx n o P (fun k => qP k o id) :=
  lM (Al (F := fun k => rX k o id) (fun k => AZ k o id) (Fj (g := fun k r => ku k r id) hn h ec hg hP)) fun v e1 => Ev.eq (fun k => Dp k o id) (Ev.bind e1 Ev.ret)
theorem SY {n : Nat} (hn : n + 1 <= 1000000) {o out : bg} {P : bg -> Prop} {ok : Bool} {p : bF} (h : Gd n o) (ec : Ev (fun k => dA k o p) (ok, out)) (hg : ok = true -> Gd (n + 1) out) (hP : ok = true -> P out) : Gx n o P (fun k => sQ k o p) :=
  lM (Al (F := fun k => rY k o p) (fun k => Ba k o p) (Fj (g := fun k r => dA k r p) hn h ec hg hP)) fun v e1 => Ev.eq (fun k => Et k o p) (Ev.bind e1 Ev.ret)
theorem EH {n : Nat} (hn : n + 1 <= 1000000) {o out : bg} {P : bg -> Prop} {ok : Bool} {x : Int} (h : Gd n o) (ec : Ev (fun k => mV k o x) (ok, out)) (hg : ok = true -> Gd (n + 1) out) (hP : ok = true -> P out) : Gx n o P (fun k => sU k o x) :=
  lM (Al (F := fun k => sj k o x) (fun k => Bc k o x) (Fj (g := fun k r => mV k r x) hn h ec hg hP)) fun v e1 => Ev.eq (fun k => Ew k o x) (Ev.bind e1 Ev.ret)
theorem Ta {n : Nat} (hn : n + 1 <= 1000000) {o out : bg} {P : bg -> Prop} {ok : Bool} {x1 x2 x3 x4 : Int} (h : Gd n o) (ec : Ev (fun k => mU k o x1 x2 x3 x4) (ok, out)) (hg : ok = true -> Gd (n + 1) out) (hP : ok = true -> P out) : Gx n o P (fun k => sS k o x1 x2 x3 x4) :=
  lM (Al (F := fun k => rZ k o x1 x2 x3 x4) (fun k => Bb k o x1 x2 x3 x4) (Fj (g := fun k r => mU k r x1 x2 x3 x4) hn h ec hg hP)) fun v e1 => Ev.eq (fun k => Eu k o x1 x2 x3 x4) (Ev.bind e1 Ev.ret)
theorem XW {n : Nat} (hn : n + 1 <= 1000000) {o : bg} (h : Gd n o) (e : aF) : Gx n o (fun b => e ∈ b.1 /\ Eq (α := Int) b.2.2.2.2.2.2.2.1 (IntKind.wrap .i64 (o.2.2.2.2.2.2.2.1 + 1))) (fun k => nR k o e) := by
  obtain ⟨p, hp, _, _, ep⟩ := Rx o.1 e (by have := h.1; omega)
  have hm : (o.1.take p ++ [e] ++ o.1.drop p).length = o.1.length + 1 := by simp; omega
  have hmem : e ∈ o.1.take p ++ [e] ++ o.1.drop p := by simp
  generalize o.1.take p ++ [e] ++ o.1.drop p = L at ep hm hmem
  by_cases c : eF L
  · rw [if_pos c] at ep
    have ec : Ev (fun k => jm k o e) (true, (L, (o.2.1, (o.2.2.1, (o.2.2.2.1, (o.2.2.2.2.1, (o.2.2.2.2.2.1, (o.2.2.2.2.2.2.1, (IntKind.wrap .i64 (o.2.2.2.2.2.2.2.1 + 1), o.2.2.2.2.2.2.2.2))))))))) := Ev.eq (fun k => oM k o e) (Ev.bind ep Ev.ret)
    exact Jp hn h ec (fun _ => Jl h (by have := h.1; omega) _) fun _ => ⟨hmem, rfl⟩
  · rw [if_neg c] at ep
    have ec : Ev (fun k => jm k o e) (false, (o.1, (o.2.1, (o.2.2.1, (o.2.2.2.1, (o.2.2.2.2.1, (o.2.2.2.2.2.1, (o.2.2.2.2.2.2.1, (IntKind.wrap .i64 (o.2.2.2.2.2.2.2.1 + 1), o.2.2.2.2.2.2.2.2))))))))) := Ev.eq (fun k => oM k o e) (Ev.bind ep Ev.ret)
    exact Jp hn h ec (fun hh => by cases hh) fun hh => by cases hh
theorem Vo (l : List aF) (e : aF) (hl : l.length <= 1048576) : ∃ v : List aF × (Bool × Unit), (v.2.1 = true -> v.1.length <= l.length /\ e ∉ v.1) /\ Ev (fun k => vR k l e) v := by
  obtain ⟨p, hp, h1, h2⟩ := oz (fun i => rd bL l (i : Int) ≠ e) l.length
  have hi : Ev (fun k => bT k l e) (if p < l.length then (p : Int) else -1) := by
    have key : ∀ d i : Nat, i + d = p -> E2 (fun k m => bT.l0 k m l ((List.length l : Nat) : Int) (i : Int) e.1 e.2.1 e.2.2.1 e.2.2.2.1) (if p < l.length then (p : Int) else -1) := by
      intro d
      induction d with
      | zero =>
        intro i hi
        have hi : i = p := by omega
        subst hi
        refine E2.eq (fun k m => bT.aA k m l _ _ _ _ _ _) ?_
        by_cases c : i < l.length
        · rw [if_pos c]
          have he : rd bL l (i : Int) = e := Classical.not_not.1 (h2 c)
          exact E2.pos (by omega) (E2.pos (by omega) (E2.pos (by omega) (E2.pos ((UZ _ _).2 he.symm) E2.ret)))
        · rw [if_neg c]
          exact E2.neg (by omega) E2.ret
      | succ d ih =>
        intro i hi
        refine E2.eq (fun k m => bT.aA k m l _ _ _ _ _ _) (E2.pos (by omega) (E2.pos (by omega) (E2.pos (by omega) (E2.neg (fun h => h1 i (by omega) ((UZ _ _).1 h).symm) ?_))))
        simp only [cO (show i < 9223372036854775807 by omega)]
        exact ih (i + 1) (by omega)
    exact Ev.eq (fun k => vX k l e) (Ev.loop (f := fun k m => bT.l0 k m l ((List.length l : Nat) : Int) 0 e.1 e.2.1 e.2.2.1 e.2.2.2.1) (key p 0 (by omega)))
  have VA := dD l hl
  by_cases d : p < l.length
  · by_cases c : eF l
    · have hk := OL c.1 d (Classical.not_not.1 (h2 d))
      have hdel : Ev (fun k => lC k l (p : Int) (IntKind.wrap .i64 ((p : Int) + 1))) (Jf l e l.length) := by
        refine Ev.eq (f := fun _ => some (Jf l e l.length)) (fun k => ?_) Ev.ret
        rw [uZ, cO (show p < 9223372036854775807 by omega)]
        have := Br (T := bL) (l := l) (i := (p : Int)) (j := ((p + 1 : Nat) : Int)) (by omega) (by omega) (by omega) (by omega)
        rw [hk]
        simpa using this
      refine ⟨(Jf l e l.length, (true, ())), fun _ => ⟨SA, fun hm => ?_⟩, Ev.eq (fun k => qX k l e) (Ev.bind hi ?_)⟩
      · have hm : e ∈ (l.take l.length).filter (fun x => decide (x ≠ e)) := hm
        simp at hm
      · rw [if_pos d]
        exact Ev.bind VA (Ev.neg (by simpa using c) (Ev.neg (by omega) (Ev.bind (jF _ hl) (Ev.bind hdel Ev.ret))))
    · exact ⟨(l, (false, ())), fun h => (by cases h), Ev.eq (fun k => qX k l e) (Ev.bind hi (Ev.bind VA (Ev.pos (by simpa using c) (Ev.bind (jF _ hl) Ev.ret))))⟩
  · refine ⟨(l, (false, ())), fun h => (by cases h), Ev.eq (fun k => qX k l e) (Ev.bind hi (Ev.bind VA ?_))⟩
    rw [if_neg d]
    by_cases c : eF l
    · exact Ev.neg (by simpa using c) (Ev.pos (by omega) (Ev.bind (jF _ hl) Ev.ret))
    · exact Ev.pos (by simpa using c) (Ev.bind (jF _ hl) Ev.ret)
theorem XY {n : Nat} (hn : n + 1 <= 1000000) {o : bg} (h : Gd n o) (e : aF) : Gx n o (fun b => e ∉ b.1) (fun k => qM k o e) := by
  obtain ⟨v, hv, ev⟩ := Vo o.1 e (by have := h.1; omega)
  have ec : Ev (fun k => lW k o e) (decide (v.2.1 = true), (v.1, (o.2.1, (o.2.2.1, (o.2.2.2.1, (o.2.2.2.2.1, (o.2.2.2.2.2.1, (o.2.2.2.2.2.2.1, (IntKind.wrap .i64 (o.2.2.2.2.2.2.2.1 + 1), o.2.2.2.2.2.2.2.2))))))))) := Ev.eq (fun k => Bd k o e) (Ev.bind ev Ev.ret)
  exact Qz hn h ec (fun c => Jl h (by have := (hv (by simpa using c)).1; have := h.1; omega) _) fun c => (hv (by simpa using c)).2
theorem XZ {n : Nat} (hn : n + 1 <= 1000000) {o : bg} (h : Gd n o) (x : cu) : Gx n o (fun b => ∃ p, p <= o.2.2.1.length /\ (∀ j, j < p -> ((rd dV o.2.2.1 (j : Int)).1 : Int) < x.1) /\ (p < o.2.2.1.length -> ¬ ((rd dV o.2.2.1 (p : Int)).1 : Int) < x.1) /\ b.2.2.1 = FT o.2.2.1 x p) (fun k => qN k o x) := by
  have hl : o.2.2.1.length <= 1048576 := by have := h.2.1; omega
  obtain ⟨p, hp, h1, h2⟩ := oz (fun i => ((rd dV o.2.2.1 (i : Int)).1 : Int) < x.1) o.2.2.1.length
  have hlen := UY o.2.2.1 x p hp
  have hi := Sy o.2.2.1 x hl p hp h1 h2
  have i1 : Ev (fun k => lX k o x) (true, (o.1, (o.2.1, (FT o.2.2.1 x p, o.2.2.2)))) := by
    refine Ev.eq (fun k => Bf k o x) (Ev.bind hi ?_)
    by_cases c : p < o.2.2.1.length
    · rw [if_pos c]
      refine Ev.neg (by omega) (Ev.pos (by omega) (Ev.pos (by omega) ?_))
      by_cases q : ((rd dV o.2.2.1 (p : Int)).1 : Int) = x.1
      · refine Ev.pos q (Ev.pos (by omega) (Ev.pos (by omega) (Ev.ret.val ?_)))
        have e : List.set o.2.2.1 (Int.toNat (p : Int)) x = FT o.2.2.1 x p := by
          unfold FT
          rw [if_pos ⟨c, q⟩, Int.toNat_natCast, List.set_eq_take_append_cons_drop, if_pos c]
          simp
        rw [e]
      · have hins : Ev (fun k => lu k o.2.2.1 (p : Int) [x]) (FT o.2.2.1 x p) := by
          refine Ev.eq (f := fun _ => some (FT o.2.2.1 x p)) (fun k => ?_) Ev.ret
          rw [uX]
          have := sM (T := dV) (B := 16) (l := o.2.2.1) (i := (p : Int)) (x := x) (by omega) (by omega) (by omega)
          unfold FT
          rw [if_neg (fun h => q h.2)]
          simpa using this
        exact Ev.neg q (Ev.bind hins Ev.ret)
    · rw [if_neg c]
      refine Ev.pos (by omega) (Ev.pos (by simp only [List.length_singleton]; omega) (Ev.ret.val ?_))
      have e : o.2.2.1 ++ [x] = FT o.2.2.1 x p := by
        have : p = o.2.2.1.length := by omega
        subst this
        unfold FT
        rw [if_neg (fun h => c h.1)]
        simp
      rw [e]
  have h' := kV h (Nat.le_succ n)
  exact QB hn h i1 (fun _ => ⟨h'.1, by have := h.2.1; show (FT o.2.2.1 x p).length <= _; omega, h'.2.2⟩) fun _ => ⟨p, hp, h1, h2, rfl⟩
theorem ZN {n : Nat} (h4 : 4 <= n) (hn : n + 1 <= 1000000) {o : bg} (h : Gd n o) (v : Int) : Gx n o (fun b => ((b.2.2.2.2.1.length : Nat) : Int) = v) (fun k => sP k o v) := by
  have b := tQ h (by omega)
  have hok : Aa o.2.2.2.1 o.1 := ⟨b.2.2.2.1.1, b.1.1, fun p hp => (b.2.2.2.1.2 p hp).2.2.2.1.1⟩
  have ei := Vn o.2.2.2.1 o.1 v hok
  have hlen := SV o.2.2.2.1 o.1 v
  have htr := Qy o.2.2.2.1 o.1 v
  generalize oV Go.fZ.Pf Go.fZ.Pg Go.fZ.AP o.2.2.2.1 o.1 v = R at ei hlen htr
  have ec : Ev (fun k => mR k o v) (decide (R.2 = true), (o.1, (o.2.1, (o.2.2.1, (o.2.2.2.1, (R.1, o.2.2.2.2.2)))))) := Ev.eq (fun k => Cm k o v) (Ev.bind ei Ev.ret)
  have h' := kV h (Nat.le_succ n)
  exact SX hn h ec (fun _ => ⟨h'.1, h'.2.1, h'.2.2.1, by show R.1.length <= _; omega, h'.2.2.2.2⟩) fun c => htr (by simpa using c)
theorem ZO {n : Nat} (hn : n + 1 <= 1000000) {o : bg} (h : Gd n o) (x : Int) : Gx n o (fun b => Eq (α := Int) b.2.2.2.2.2.2.2.2.1 (IntKind.wrap .i64 (o.2.2.2.2.2.2.2.2.1 + x))) (fun k => sU k o x) := by
  have h' := kV h (Nat.le_succ n)
  by_cases c1 : (1 : Int) <= x /\ x <= 1000
  · by_cases c2 : (0 : Int) <= o.2.2.2.2.2.2.2.2.1 /\ o.2.2.2.2.2.2.2.2.1 <= 100000
    · have ec : Ev (fun k => mV k o x) (true, (o.1, (o.2.1, (o.2.2.1, (o.2.2.2.1, (o.2.2.2.2.1, (o.2.2.2.2.2.1, (o.2.2.2.2.2.2.1, (o.2.2.2.2.2.2.2.1, (IntKind.wrap .i64 (o.2.2.2.2.2.2.2.2.1 + x), ())))))))))) := Ev.eq (fun k => qj k o x) (Ev.bind (aI _ _ _) (Ev.neg (by simpa using c1) (Ev.bind (aI _ _ _) (Ev.neg (by simpa using c2) Ev.ret))))
      exact EH hn h ec (fun _ => h') fun _ => rfl
    · exact EH (out := o) (ok := false) hn h (Ev.eq (fun k => qj k o x) (Ev.bind (aI _ _ _) (Ev.neg (by simpa using c1) (Ev.bind (aI _ _ _) (Ev.pos (by simpa using c2) Ev.ret))))) (fun hh => by cases hh) fun hh => by cases hh
  · exact EH (out := o) (ok := false) hn h (Ev.eq (fun k => qj k o x) (Ev.bind (aI _ _ _) (Ev.pos (by simpa using c1) Ev.ret))) (fun hh => by cases hh) fun hh => by cases hh
theorem ZP {n : Nat} (hn : n + 1 <= 1000000) {o : bg} (h : Gd n o) (x1 x2 x3 x4 : Int) : Gx n o (fun _ => True) (fun k => sS k o x1 x2 x3 x4) := by
  have hl : o.2.2.2.2.2.1.length <= 1048576 := by have := h.2.2.2.2.1; omega
  obtain ⟨u, hu, p1, p2⟩ := SL o.2.2.2.2.2.1 (x1, (x2, (x3, (o.2.2.2.2.2.2.2.2.1, (x4, ()))))) hl
  obtain ⟨u', hu', p1'⟩ := Ji o.2.2.2.2.2.1 (x1, (x2, (x3, (o.2.2.2.2.2.2.2.2.1, (x4, ()))))) hl
  have := Ev.uniq p1 p1'
  subst this
  obtain ⟨r, er, _⟩ := Rq o.2.2.2.2.2.1 u hl
  have h' := kV h (Nat.le_succ n)
  have ec : Ev (fun k => mU k o x1 x2 x3 x4) (decide (¬ (r = true)), (o.1, (o.2.1, (o.2.2.1, (o.2.2.2.1, (o.2.2.2.2.1, (u, o.2.2.2.2.2.2))))))) := Ev.eq (fun k => Co k o x1 x2 x3 x4) (Ev.bind p2 (Ev.bind er Ev.ret))
  exact Ta hn h ec (fun _ => ⟨h'.1, h'.2.1, h'.2.2.1, h'.2.2.2.1, by have := h.2.2.2.2.1; show u.length <= _; omega, h'.2.2.2.2.2⟩) fun _ => trivial
theorem WO (l : List bF) (id : Int) (hl : l.length <= 1048576) : ∃ p, p <= l.length /\ (∀ j, j < p -> ¬ ((rd dx l (j : Int)).1 : Int) = id) /\ (p < l.length -> ((rd dx l (p : Int)).1 : Int) = id) /\ Ev (fun k => aV k l id) (if p < l.length then (p : Int) else -1) := by
  obtain ⟨p, hp, h1, h2⟩ := oz (fun i => ¬ ((rd dx l (i : Int)).1 : Int) = id) l.length
  refine ⟨p, hp, h1, fun c => Classical.not_not.1 (h2 c), ?_⟩
  have key : ∀ d i : Nat, i + d = p -> E2 (fun k m => aV.l0 k m l id ((List.length l : Nat) : Int) (i : Int)) (if p < l.length then (p : Int) else -1) := by
    intro d
    induction d with
    | zero =>
      intro i hi
      have hi : i = p := by omega
      subst hi
      refine E2.eq (fun k m => aV.aA k m l id _ _) ?_
      by_cases c : i < l.length
      · rw [if_pos c]
        exact E2.pos (by omega) (E2.pos (by omega) (E2.pos (by omega) (E2.bind (Ev.eq (fun k => rD k _ _) Ev.ret) (E2.pos (by simpa using Classical.not_not.1 (h2 c)) E2.ret))))
      · rw [if_neg c]
        exact E2.neg (by omega) E2.ret
    | succ d ih =>
      intro i hi
      refine E2.eq (fun k m => aV.aA k m l id _ _) (E2.pos (by omega) (E2.pos (by omega) (E2.pos (by omega) (E2.bind (Ev.eq (fun k => rD k _ _) Ev.ret) (E2.neg (by simpa using h1 i (by omega)) ?_)))))
      simp only [cO (show i < 9223372036854775807 by omega)]
      exact ih (i + 1) (by omega)
  exact Ev.eq (fun k => pq k l id) (Ev.loop (f := fun k m => aV.l0 k m l id ((List.length l : Nat) : Int) 0) (key p 0 (by omega)))
theorem WQ (l : List Int) (x : Int) (hl : l.length <= 1048576) : ∃ p, p <= l.length /\ Ev (fun k => aC k l x) (if p < l.length then (p : Int) else -1) := by
  obtain ⟨p, hp, h1, h2⟩ := oz (fun i => ¬ Eq (α := Int) x (rd (.int .i64) l (i : Int))) l.length
  refine ⟨p, hp, ?_⟩
  have key : ∀ d i : Nat, i + d = p -> E2 (fun k m => aC.l0 k m l x ((List.length l : Nat) : Int) (i : Int)) (if p < l.length then (p : Int) else -1) := by
    intro d
    induction d with
    | zero =>
      intro i hi
      have hi : i = p := by omega
      subst hi
      refine E2.eq (fun k m => aC.aA k m l x _ _) ?_
      by_cases c : i < l.length
      · rw [if_pos c]
        exact E2.pos (by omega) (E2.pos (by omega) (E2.pos (by omega) (E2.pos (Classical.not_not.1 (h2 c)) E2.ret)))
      · rw [if_neg c]
        exact E2.neg (by omega) E2.ret
    | succ d ih =>
      intro i hi
      refine E2.eq (fun k m => aC.aA k m l x _ _) (E2.pos (by omega) (E2.pos (by omega) (E2.pos (by omega) (E2.neg (h1 i (by omega)) ?_))))
      simp only [cO (show i < 9223372036854775807 by omega)]
      exact ih (i + 1) (by omega)
  exact Ev.eq (fun k => ji k l x) (Ev.loop (f := fun k m => aC.l0 k m l x ((List.length l : Nat) : Int) 0) (key p 0 (by omega)))
theorem Tc (l : List bF) (sc : List aF) (seats : List Int) (v : Int) {N : Nat} (hN : N <= 1000000) (hl : oC N l) (hs : sc.length <= 1048576) (h2 : seats.length <= 1048576) : ∃ r : Int × (Bool × Unit), Ev (fun k => dP k l sc seats v) r := by
  obtain ⟨a, ea, _⟩ := wh l sc seats (MG hl (by omega)) hs h2
  by_cases qa : a = true
  · by_cases qc : 1 <= v /\ v <= ((List.length seats : Nat) : Int)
    · have hll := hl.1
      have key : ∀ (e i : Nat), i + e = l.length -> ∃ r : Int × (Bool × Unit), E2 (fun k m => dP.l0 k m sc seats v l ((List.length l : Nat) : Int) (i : Int)) r := by
        intro e
        induction e with
        | zero => intro i hi; exact ⟨_, E2.eq (fun k m => dP.aA k m sc seats v l _ _) (E2.neg (by omega) E2.ret)⟩
        | succ e ZG =>
          intro i hi
          obtain ⟨r, er⟩ := ZG (i + 1) (by omega)
          have h1 := jB seats (rd dx l (i : Int)).1 h2
          by_cases q : decide (((rd dx l (i : Int)).1 : Int) ∈ seats) = true
          · refine ⟨r, E2.eq (fun k m => dP.aA k m sc seats v l _ _) (E2.pos (by omega) (E2.pos (by omega) (E2.pos (by omega) (E2.bind h1 (E2.neg (fun hh => hh q) ?_)))))⟩
            simp only [cO (show i < 9223372036854775807 by omega)]
            exact er
          · have hv : (rd dx l (i : Int)).2.2.2.1.length <= 1048576 := by
              rw [fK (show i < l.length by omega)]
              exact Nat.le_trans (hl.2 _ (List.getElem_mem _)) (by omega)
            obtain ⟨b, eb, _⟩ := yH (rd dx l (i : Int)) sc v hv hs
            by_cases qb : b = true
            · exact ⟨_, E2.eq (fun k m => dP.aA k m sc seats v l _ _) (E2.pos (by omega) (E2.pos (by omega) (E2.pos (by omega) (E2.bind h1 (E2.pos q (E2.bind eb (E2.pos qb E2.ret)))))))⟩
            · refine ⟨r, E2.eq (fun k m => dP.aA k m sc seats v l _ _) (E2.pos (by omega) (E2.pos (by omega) (E2.pos (by omega) (E2.bind h1 (E2.pos q (E2.bind eb (E2.neg qb ?_)))))))⟩
              simp only [cO (show i < 9223372036854775807 by omega)]
              exact er
      obtain ⟨r, er⟩ := key l.length 0 (by omega)
      exact ⟨r, Ev.eq (fun k => qm k l sc seats v) (Ev.bind ea (Ev.neg (fun hh => hh qa) (Ev.bind (aI _ _ _) (Ev.neg (by simpa using qc) (Ev.loop (f := fun k m => dP.l0 k m sc seats v l ((List.length l : Nat) : Int) 0) er)))))⟩
    · exact ⟨_, Ev.eq (fun k => qm k l sc seats v) (Ev.bind ea (Ev.neg (fun hh => hh qa) (Ev.bind (aI _ _ _) (Ev.pos (by simpa using qc) Ev.ret))))⟩
  · exact ⟨_, Ev.eq (fun k => qm k l sc seats v) (Ev.bind ea (Ev.pos qa Ev.ret))⟩
theorem Ya {n : Nat} (hn : n + 1 <= 1000000) {o : bg} (h : Gd n o) (id : Int) : Gx n o (fun b => ∃ p, p < o.2.2.2.1.length /\ ((rd dx o.2.2.2.1 (p : Int)).1 : Int) = id /\ b.2.2.2.1 = o.2.2.2.1.take p ++ o.2.2.2.1.drop (p + 1)) (fun k => qP k o id) := by
  have hpl := h.2.2.1
  have hlen : o.2.2.2.1.length <= n := hpl.1
  have hsl : o.2.2.2.2.1.length <= n := h.2.2.2.1
  obtain ⟨p, hp, _, h2, ep⟩ := WO o.2.2.2.1 id (by omega)
  obtain ⟨q, hq, eq⟩ := WQ o.2.2.2.2.1 id (by omega)
  by_cases c : p < o.2.2.2.1.length
  · rw [if_pos c] at ep
    have hdel : Ev (fun k => jk k o.2.2.2.1 (p : Int) (IntKind.wrap .i64 ((p : Int) + 1))) (o.2.2.2.1.take p ++ o.2.2.2.1.drop (p + 1)) := by
      refine Ev.eq (f := fun _ => some (o.2.2.2.1.take p ++ o.2.2.2.1.drop (p + 1))) (fun k => ?_) Ev.ret
      rw [uF, cO (show p < 9223372036854775807 by omega)]
      have := Br (T := dx) (l := o.2.2.2.1) (i := (p : Int)) (j := ((p + 1 : Nat) : Int)) (by omega) (by omega) (by omega) (by omega)
      simpa using this
    have few : oC (n + 1) (o.2.2.2.1.take p ++ o.2.2.2.1.drop (p + 1)) := Jm hpl (by simp; omega) fun x hx => (List.mem_append.1 hx).elim List.mem_of_mem_take List.mem_of_mem_drop
    by_cases d : q < o.2.2.2.2.1.length
    · rw [if_pos d] at eq
      obtain ⟨r, er⟩ := Tc o.2.2.2.1 o.1 o.2.2.2.2.1 (IntKind.wrap .i64 ((q : Int) + 1)) (by omega) hpl (by have := h.1; omega) (by omega)
      by_cases f : r.2.1 = true
      · have ec : Ev (fun k => ku k o id) (true, (o.1, (o.2.1, (o.2.2.1, (o.2.2.2.1.take p ++ o.2.2.2.1.drop (p + 1), (List.set o.2.2.2.2.1 (Int.toNat (q : Int)) r.1, o.2.2.2.2.2)))))) :=
          Ev.eq (fun k => lK k o id) (Ev.bind ep (Ev.neg (by omega) (Ev.bind eq (Ev.pos (by omega) (Ev.bind er (Ev.neg (fun hh => hh f) (Ev.pos (by omega) (Ev.pos (by omega) (Ev.bind hdel Ev.ret)))))))))
        exact yQ hn h ec (fun _ => Cw h few (by rw [List.length_set]; omega)) fun _ => ⟨p, c, h2 c, rfl⟩
      · exact yQ (out := o) (ok := false) hn h (Ev.eq (fun k => lK k o id) (Ev.bind ep (Ev.neg (by omega) (Ev.bind eq (Ev.pos (by omega) (Ev.bind er (Ev.pos f Ev.ret))))))) (fun hh => by cases hh) fun hh => by cases hh
    · rw [if_neg d] at eq
      have ec : Ev (fun k => ku k o id) (true, (o.1, (o.2.1, (o.2.2.1, (o.2.2.2.1.take p ++ o.2.2.2.1.drop (p + 1), o.2.2.2.2))))) :=
        Ev.eq (fun k => lK k o id) (Ev.bind ep (Ev.neg (by omega) (Ev.bind eq (Ev.neg (by omega) (Ev.bind hdel Ev.ret)))))
      exact yQ hn h ec (fun _ => Cw (seats := o.2.2.2.2.1) h few (by omega)) fun _ => ⟨p, c, h2 c, rfl⟩
  · rw [if_neg c] at ep
    exact yQ (out := o) (ok := false) hn h (Ev.eq (fun k => lK k o id) (Ev.bind ep (Ev.pos (by omega) Ev.ret))) (fun hh => by cases hh) fun hh => by cases hh
theorem ZQ {n : Nat} (hn : n + 1 <= 1000000) {o : bg} (h : Gd n o) (p : bF) (hp : ZM p) : Gx n o (fun b => b.2.2.2.1.length = o.2.2.2.1.length + 1) (fun k => sQ k o p) := by
  have hpl := h.2.2.1
  have hlen : o.2.2.2.1.length <= n := hpl.1
  have bp : Bk dx p := ⟨trivial, trivial, trivial, ⟨Nat.le_trans hp (by omega), fun _ _ => trivial⟩, trivial⟩
  have hone : oC 1 [p] := ⟨by simp, fun q hq => by simp at hq; subst hq; exact hp⟩
  have key : ∀ d i a : Nat, i + d = o.2.2.2.1.length -> a <= i -> ∃ (ok : Bool) (ps : List bF), (ok = true -> oC (n + 1) ps /\ ps.length = o.2.2.2.1.length + 1) /\ E2 (fun k m => dA.l0 k m p (a : Int) ((List.length o.2.2.2.1 : Nat) : Int) (i : Int) o.2.1.1 o.2.1.2.1 o.2.2.2.2.2.2.2.1 o.2.2.2.2.2.2.2.2.1 o.2.2.2.1 o.1 o.2.2.1 o.2.2.2.2.1 o.2.2.2.2.2.1 o.2.2.2.2.2.2.1) (ok, (o.1, (o.2.1, (o.2.2.1, (ps, o.2.2.2.2))))) := by
    intro d
    induction d with
    | zero =>
      intro i a hi ha
      refine ⟨true, o.2.2.2.1.take a ++ [p] ++ o.2.2.2.1.drop a, fun _ => ⟨?_, by simp; omega⟩, ?_⟩
      · exact OQ (m := n) (OQ (n := n) (m := 1) (k := n + 1) (Jm hpl (by simp; omega) fun x hx => List.mem_of_mem_take hx) hone (by simp; omega)) (Jm hpl (by simp; omega) fun x hx => List.mem_of_mem_drop hx) (by simp; omega)
      · have hins : Ev (fun k => kH k o.2.2.2.1 (a : Int) [p]) (o.2.2.2.1.take a ++ [p] ++ o.2.2.2.1.drop a) := by
          refine Ev.eq (f := fun _ => some (o.2.2.2.1.take a ++ [p] ++ o.2.2.2.1.drop a)) (fun k => ?_) Ev.ret
          rw [uG]
          have := sM (T := dx) (B := 48) (l := o.2.2.2.1) (i := (a : Int)) (x := p) (by omega) (by omega) (by omega)
          simpa using this
        exact E2.eq (fun k m => dA.aA k m _ _ _ _ _ _ _ _ _ _ _ _ _ _) (E2.neg (by omega) (E2.bind (KZ p bp) (E2.bind hins E2.ret)))
    | succ d ih =>
      intro i a hi ha
      by_cases c : Eq (α := Int) (rd dx o.2.2.2.1 (i : Int)).1 p.1
      · exact ⟨false, o.2.2.2.1, fun hh => (by cases hh), E2.eq (fun k m => dA.aA k m _ _ _ _ _ _ _ _ _ _ _ _ _ _) (E2.pos (by omega) (E2.pos (by omega) (E2.pos (by omega) (E2.pos c E2.ret))))⟩
      · by_cases f : LT.lt (α := Int) (rd dx o.2.2.2.1 (i : Int)).1 p.1
        · obtain ⟨ok, ps, g1, e1⟩ := ih (i + 1) (a + 1) (by omega) (by omega)
          refine ⟨ok, ps, g1, E2.eq (fun k m => dA.aA k m _ _ _ _ _ _ _ _ _ _ _ _ _ _) (E2.pos (by omega) (E2.pos (by omega) (E2.pos (by omega) (E2.neg c (E2.pos f ?_)))))⟩
          simp only [cO (show i < 9223372036854775807 by omega), cO (show a < 9223372036854775807 by omega)]
          exact e1
        · obtain ⟨ok, ps, g1, e1⟩ := ih (i + 1) a (by omega) (by omega)
          refine ⟨ok, ps, g1, E2.eq (fun k m => dA.aA k m _ _ _ _ _ _ _ _ _ _ _ _ _ _) (E2.pos (by omega) (E2.pos (by omega) (E2.pos (by omega) (E2.neg c (E2.neg f ?_)))))⟩
          simp only [cO (show i < 9223372036854775807 by omega)]
          exact e1
  obtain ⟨ok, ps, g1, e1⟩ := key o.2.2.2.1.length 0 0 (by omega) (by omega)
  have ec : Ev (fun k => dA k o p) (ok, (o.1, (o.2.1, (o.2.2.1, (ps, o.2.2.2.2))))) := Ev.eq (fun k => Cn k o p) (Ev.loop (f := fun k m => dA.l0 k m p 0 ((List.length o.2.2.2.1 : Nat) : Int) 0 o.2.1.1 o.2.1.2.1 o.2.2.2.2.2.2.2.1 o.2.2.2.2.2.2.2.2.1 o.2.2.2.1 o.1 o.2.2.1 o.2.2.2.2.1 o.2.2.2.2.2.1 o.2.2.2.2.2.2.1) e1)
  exact SY hn h ec (fun c => Cw (seats := o.2.2.2.2.1) h (g1 c).1 (by have := h.2.2.2.1; omega)) fun c => (g1 c).2
theorem tT {n : Nat} {o : bg} {P Q : bg -> Prop} {f : Nat -> Option (bg × (Bool × Unit))} (h : Gx n o P f) (hP : ∀ b, P b -> Q b) : Gx n o Q f := by
  obtain ⟨v, g1, g2, e1⟩ := h
  exact ⟨v, g1, g2.imp id fun h => ⟨h.1, h.2.1, hP _ h.2.2⟩, e1⟩
theorem Vp {n : Nat} (h4 : 4 <= n) (hn : n + 1 <= 1000000) {o : bg} (h : Gd n o) (x : kX) (hx : JZ x) : Gx n o (fun _ => 1 <= (x.1 : Int) /\ (x.1 : Int) <= 8) (fun k => qh k o x) := by
  by_cases c1 : (x.1 : Int) = 1
  · exact lM (tT (XW hn h x.2.2.1) fun _ _ => by omega) fun v e => Ev.eq (fun k => iV k o x) (Ev.pos c1 (Ev.bind e Ev.ret))
  by_cases c2 : (x.1 : Int) = 2
  · exact lM (tT (XY hn h x.2.2.1) fun _ _ => by omega) fun v e => Ev.eq (fun k => iV k o x) (Ev.neg c1 (Ev.pos c2 (Ev.bind e Ev.ret)))
  by_cases c3 : (x.1 : Int) = 3
  · exact lM (tT (XZ hn h x.2.2.2.1) fun _ _ => by omega) fun v e => Ev.eq (fun k => iV k o x) (Ev.neg c1 (Ev.neg c2 (Ev.pos c3 (Ev.bind e Ev.ret))))
  by_cases c4 : (x.1 : Int) = 4
  · exact lM (tT (ZN h4 hn h x.2.1) fun _ _ => by omega) fun v e => Ev.eq (fun k => iV k o x) (Ev.neg c1 (Ev.neg c2 (Ev.neg c3 (Ev.pos c4 (Ev.bind e Ev.ret)))))
  by_cases c5 : (x.1 : Int) = 5
  · exact lM (tT (Ya hn h x.2.1) fun _ _ => by omega) fun v e => Ev.eq (fun k => iV k o x) (Ev.neg c1 (Ev.neg c2 (Ev.neg c3 (Ev.neg c4 (Ev.pos c5 (Ev.bind e Ev.ret))))))
  by_cases c6 : (x.1 : Int) = 6
  · exact lM (tT (ZQ hn h x.2.2.2.2.1 hx) fun _ _ => by omega) fun v e => Ev.eq (fun k => iV k o x) (Ev.neg c1 (Ev.neg c2 (Ev.neg c3 (Ev.neg c4 (Ev.neg c5 (Ev.pos c6 (Ev.bind e Ev.ret)))))))
  by_cases c7 : (x.1 : Int) = 7
  · exact lM (tT (ZP hn h _ _ _ _) fun _ _ => by omega) fun v e => Ev.eq (fun k => iV k o x) (Ev.neg c1 (Ev.neg c2 (Ev.neg c3 (Ev.neg c4 (Ev.neg c5 (Ev.neg c6 (Ev.pos c7 (Ev.bind e Ev.ret))))))))
  by_cases c8 : (x.1 : Int) = 8
  · exact lM (tT (ZO hn h x.2.1) fun _ _ => by omega) fun v e => Ev.eq (fun k => iV k o x) (Ev.neg c1 (Ev.neg c2 (Ev.neg c3 (Ev.neg c4 (Ev.neg c5 (Ev.neg c6 (Ev.neg c7 (Ev.pos c8 (Ev.bind e Ev.ret)))))))))
  · exact ⟨(o, (false, ())), kV h (Nat.le_succ n), .inl rfl, Ev.eq (fun k => iV k o x) (Ev.neg c1 (Ev.neg c2 (Ev.neg c3 (Ev.neg c4 (Ev.neg c5 (Ev.neg c6 (Ev.neg c7 (Ev.neg c8 (Ev.bind (qz _ (tQ h (by omega))) Ev.ret)))))))))⟩
def Runs : bg -> List kX -> bg -> Prop
  | o, [], w => o = w
  | o, x :: l, w => ∃ v, Ev (fun k => qh k o x) v /\ Runs v.1 l w
theorem Jq {w : bg} : ∀ (a b : List kX) (o : bg), Runs o (a ++ b) w -> ∃ u, Runs o a u /\ Runs u b w
  | [], b, o, h => ⟨o, rfl, h⟩
  | x :: a, b, o, h => by
    obtain ⟨v, e, r⟩ := h
    obtain ⟨u, h1, h2⟩ := Jq a b _ r
    exact ⟨u, ⟨v, e, h1⟩, h2⟩
theorem EI {w w' : bg} : ∀ (a : List kX) (o : bg), Runs o a w -> Runs o a w' -> w = w'
  | [], _, h, h' => h.symm.trans h'
  | x :: a, o, h, h' => by
    obtain ⟨v, e, r⟩ := h
    obtain ⟨v', e', r'⟩ := h'
    obtain rfl := Ev.uniq e e'
    exact EI a _ r r'
theorem Gy {o w : bg} {l : List kX} (hl : l.length <= 1048576) (b : Bk jC o) (h : Runs o l w) : Ev (fun k => gM k o l) w := by
  have key : ∀ (d i : Nat) (p : bg), i + d = l.length -> Runs p (l.drop i) w -> E2 (fun k m => gM.l0 k m l ((List.length l : Nat) : Int) (i : Int) 0 0 0 0 p.2.1.1 p.2.1.2.1 p.2.2.2.2.2.2.2.1 p.2.2.2.2.2.2.2.2.1 p.1 p.2.2.1 p.2.2.2.1 p.2.2.2.2.1 p.2.2.2.2.2.1 p.2.2.2.2.2.2.1) w := by
    intro d
    induction d with
    | zero =>
      intro i p hi hp
      rw [List.drop_of_length_le (by omega)] at hp
      have hp : p = w := hp
      subst hp
      exact E2.eq (fun k m => gM.aA k m _ _ _ _ _ _ _ _ _ _ _ _ _ _ _ _ _) (E2.neg (by omega) E2.ret)
    | succ d ih =>
      intro i p hi hp
      rw [List.drop_eq_getElem_cons (show i < l.length by omega)] at hp
      obtain ⟨v, e, r⟩ := hp
      have e2 := ih (i + 1) _ (by omega) r
      rw [<- fK (t := Dc) (show i < l.length by omega)] at e
      refine E2.eq (fun k m => gM.aA k m _ _ _ _ _ _ _ _ _ _ _ _ _ _ _ _ _) (E2.pos (by omega) (E2.pos (by omega) (E2.pos (by omega) (E2.bind e ?_))))
      simp only [cO (show i < 9223372036854775807 by omega)]
      exact e2
  exact Ev.eq (fun k => IX k o l) (Ev.bind (qz _ b) (Ev.loop (f := fun k m => gM.l0 k m l ((List.length l : Nat) : Int) 0 0 0 0 0 o.2.1.1 o.2.1.2.1 o.2.2.2.2.2.2.2.1 o.2.2.2.2.2.2.2.2.1 o.1 o.2.2.1 o.2.2.2.1 o.2.2.2.2.1 o.2.2.2.2.2.1 o.2.2.2.2.2.2.1) (key l.length 0 o (by omega) h)))
def isO (o : bg) : Prop := Ev (fun k => dL k o) true
theorem Gz : ∀ (l : List kX) (n : Nat) (o : bg), 4 <= n -> n + l.length <= 100000 -> Gd n o -> (∀ x ∈ l, JZ x) -> ∃ w, Runs o l w /\ Gd (n + l.length) w /\ (isO o -> isO w)
  | [], n, o, _, _, h, _ => ⟨o, rfl, h, id⟩
  | x :: l, n, o, h4, hn, h, hl => by
    simp only [List.length_cons] at hn
    obtain ⟨v, g1, g2, e1⟩ := Vp h4 (by omega) h x (hl x List.mem_cons_self)
    obtain ⟨w, r, gw, hw⟩ := Gz l (n + 1) v.1 (by omega) (by omega) g1 fun y hy => hl y (List.mem_cons_of_mem _ hy)
    refine ⟨w, ⟨v, e1, r⟩, by rw [List.length_cons, show n + (l.length + 1) = n + 1 + l.length by omega]; exact gw, fun ho => hw ?_⟩
    rcases g2 with g2 | g2
    · rw [g2]; exact ho
    · exact g2.2.1
theorem Td (l : List Int) (hl : 0 < l.length) : Dr (fun k c => lg k c l) (fun x => x ∈ l) := by
  intro c h
  obtain ⟨x, c1, h1, ⟨h2, h3, _⟩, e1⟩ := aS ((List.length l : Nat) : Int) c h
  have h3 := h3 (by omega)
  refine ⟨_, c1, h1, ?_, Ev.eq (fun k => Bv k c l) (Ev.bind e1 (Ev.pos h2 (Ev.pos h3 Ev.ret)))⟩
  obtain ⟨N, rfl⟩ := Int.eq_ofNat_of_zero_le h2
  show rd (.int .i64) l (N : Int) ∈ l
  rw [fK (show N < l.length by omega)]
  exact List.getElem_mem _
def Yb (m : cu) : Prop := (1 <= (m.1 : Int) /\ (m.1 : Int) <= 12) /\ ((m.2.1 : Int) = 1 \/ (m.2.1 : Int) = 2 \/ (m.2.1 : Int) = 4 \/ (m.2.1 : Int) = 8)
theorem Te {m : cu} (h : Yb m) : Ev (fun k => uS k m) true := by
  refine Ev.eq (fun k => kI k m) (Ev.bind (aI _ _ _) (Ev.pos (by simpa using h.1) ?_))
  by_cases d1 : (m.2.1 : Int) = 1
  · exact Ev.pos d1 Ev.ret
  by_cases d2 : (m.2.1 : Int) = 2
  · exact Ev.neg d1 (Ev.pos d2 Ev.ret)
  by_cases d3 : (m.2.1 : Int) = 4
  · exact Ev.neg d1 (Ev.neg d2 (Ev.pos d3 Ev.ret))
  · exact Ev.neg d1 (Ev.neg d2 (Ev.neg d3 (Ev.ret.val (decide_eq_true (((h.2.resolve_left d1).resolve_left d2).resolve_left d3)))))
theorem OT : Dr (fun k c => qQ k c) Yb := by
  intro c h
  obtain ⟨x1, c1, h1, hx, e1⟩ := aS 4 c h
  obtain ⟨x2, c2, h2, hy, e2⟩ := Td [4, 4, 4, 8, 2] (by simp) c1 h1
  have := hx.2.1 (by omega)
  have w : IntKind.wrap .i64 (2 + x1) = 2 + x1 := jD (by omega) (by omega)
  refine ⟨_, c2, h2, ?_, Ev.eq (fun k => za k c) (Ev.bind e1 (Ev.bind e2 Ev.ret))⟩
  have hy : x2 ∈ ([4, 4, 4, 8, 2] : List Int) := hy
  simp only [List.mem_cons, List.not_mem_nil, or_false] at hy
  refine ⟨⟨?_, ?_⟩, ?_⟩
  · show 1 <= IntKind.wrap .i64 (2 + x1); omega
  · show IntKind.wrap .i64 (2 + x1) <= 12; omega
  · show x2 = 1 \/ x2 = 2 \/ x2 = 4 \/ x2 = 8; omega
theorem ZR {t : Ty} {s u : List t.den} {i : Nat} (h : i < s.length) : rd t (s ++ u) (i : Int) = rd t s (i : Int) := by
  rw [fK h, fK (by rw [List.length_append]; omega), List.getElem_append_left h]
theorem ZT {t : Ty} {s : List t.den} {x : t.den} : rd t (s ++ [x]) (s.length : Int) = x := by
  rw [fK (by simp), List.getElem_concat_length]
  rfl
def Yc (l : List bF) : Prop := l.length <= 5 /\ ∀ j : Nat, j < l.length -> Yp (rd dx l (j : Int)) /\ Eq (α := Int) (rd dx l (j : Int)).1 ((j : Int) + 1)
theorem Jr {l : List bF} (h : Yc l) : lU l := by
  have h5 := h.1
  refine ⟨fun i hi => ⟨(h.2 i hi).1, ?_, fun h0 => ?_⟩, by simp; omega⟩
  · have q := (h.2 i hi).2
    exact ⟨show LE.le (α := Int) 1 (rd dx l (i : Int)).1 by omega, show LE.le (α := Int) (rd dx l (i : Int)).1 99 by omega⟩
  · have q := (h.2 i hi).2
    have q' := (h.2 (i - 1) (by omega)).2
    omega
theorem Yd : Ml [1, 2, 3] 1 4 := by
  intro i hi
  have : i = 0 \/ i = 1 \/ i = 2 := by simp at hi; omega
  rcases this with rfl | rfl | rfl
  · exact ⟨⟨by decide, by decide⟩, fun h => absurd h (by omega)⟩
  · exact ⟨⟨by decide, by decide⟩, fun _ => by decide⟩
  · exact ⟨⟨by decide, by decide⟩, fun _ => by decide⟩
theorem Ka : Dr (fun k c => cZ k c) (fun r => oC 10 r /\ Yc r) := by
  intro c h
  have key : ∀ (d i : Nat) (c : dQ) (s : List bF), i + d = 6 -> 1 <= i -> oI c -> oC i s -> s.length + 1 = i -> Yc s -> ∃ r c', oI c' /\ (oC 10 r /\ Yc r) /\ E2 (fun k m => cZ.l0 k m (i : Int) c.1 c.2.1 c.2.2.1 s) (r, c') := by
    intro d
    induction d with
    | zero =>
      intro i c s hi h1 h hs hl hv
      obtain ⟨x, c1, k1, ⟨k2, k3, _⟩, e1⟩ := aS 4 c h
      have := k3 (by omega)
      refine ⟨s, c1, k1, ⟨sF hs (by omega), hv⟩, E2.eq (fun k m => cZ.aA k m _ _ _ _ s) (E2.bind e1 (E2.neg ?_ E2.ret))⟩
      rw [jD (by omega) (by omega)]; omega
    | succ d ih =>
      intro i c s hi h1 h hs hl hv
      obtain ⟨x, c1, k1, ⟨k2, k3, _⟩, e1⟩ := aS 4 c h
      have := k3 (by omega)
      by_cases q : (i : Int) <= IntKind.wrap .i64 (2 + x)
      · obtain ⟨x2, c2, k2', hx2, e2⟩ := aS 18 c1 k1
        obtain ⟨x3, c3, k3', hx3, e3⟩ := aS 12 c2 k2'
        have b2 := hx2.2.1 (by omega)
        have b3 := hx3.2.1 (by omega)
        have w2 : IntKind.wrap .i64 (40 + x2) = 40 + x2 := jD (by omega) (by omega)
        have w3 : IntKind.wrap .i64 (76 + x3) = 76 + x3 := jD (by omega) (by omega)
        have hv' : Yc (s ++ [((i : Int), (IntKind.wrap .i64 (40 + x2), (IntKind.wrap .i64 (76 + x3), ([1, 2, 3], ()))))]) := by
          refine ⟨by rw [List.length_append, List.length_singleton]; omega, fun j hj => ?_⟩
          rw [List.length_append, List.length_singleton] at hj
          by_cases cj : j < s.length
          · rw [ZR cj]; exact hv.2 j cj
          · obtain rfl : j = s.length := by omega
            rw [ZT]
            refine ⟨⟨⟨?_, ?_⟩, ?_, Yd⟩, ?_⟩
            · show 21 <= IntKind.wrap .i64 (40 + x2); omega
            · show IntKind.wrap .i64 (40 + x2) <= IntKind.wrap .i64 (76 + x3); omega
            · show IntKind.wrap .i64 (76 + x3) <= 108; omega
            · show (i : Int) = (s.length : Int) + 1; omega
        obtain ⟨r, c', h', hr, e5⟩ := ih (i + 1) c3 (s ++ [((i : Int), (IntKind.wrap .i64 (40 + x2), (IntKind.wrap .i64 (76 + x3), ([1, 2, 3], ()))))]) (by omega) (by omega) k3' (OP hs (by simp)) (by rw [List.length_append, List.length_singleton]; omega) hv'
        have := hs.1
        refine ⟨r, c', h', hr, E2.eq (fun k m => cZ.aA k m _ _ _ _ s) (E2.bind e1 (E2.pos q (E2.bind e2 (E2.bind e3 (E2.pos (by rw [List.length_singleton]; omega) ?_)))))⟩
        simp only [cO (show i < 9223372036854775807 by omega)]
        exact e5
      · exact ⟨s, c1, k1, ⟨sF hs (by omega), hv⟩, E2.eq (fun k m => cZ.aA k m _ _ _ _ s) (E2.bind e1 (E2.neg q E2.ret))⟩
  obtain ⟨r, c', h', hr, e⟩ := key 5 1 c [] (by omega) (by omega) h ⟨by simp, by simp⟩ (by simp) ⟨by simp, fun j hj => absurd hj (by simp)⟩
  exact ⟨r, c', h', hr, Ev.eq (fun k => wN k c) (Ev.loop (f := fun k m => cZ.l0 k m 1 c.1 c.2.1 c.2.2.1 []) e)⟩
def wO (m : cu) (ps : List bF) (sc : List aF) (i : Int) : bg := (sc, (m, ([(0, (100, ()))], (ps, ([], ([], ([], (i, (0, ())))))))))
theorem Ry {m : cu} {ps : List bF} {sc : List aF} {i : Int} (h : oC 10 ps) (hs : sc.length <= 100) : Gd 100 (wO m ps sc i) :=
  ⟨hs, by simp [wO], sF h (by omega), by simp [wO], by simp [wO], by simp [wO]⟩
theorem Vq {m : cu} {ps : List bF} {sc : List aF} {i : Int} (hm : Yb m) (h : oC 10 ps) (hp : lU ps) (hs : eF sc) (hi : 1 <= i /\ i <= 9999) : isO (wO m ps sc i) := by
  have hlen : sc.length <= 40 := by have := of_decide_eq_true hs.2; omega
  have s := OI (tQ (Ry (m := m) (sc := sc) (i := i) h (by omega)) (by omega))
  obtain ⟨a', UW, ha'⟩ := yO [] (by simp)
  obtain ⟨b', eb', hb'⟩ := Aj [] (by simp)
  obtain ⟨c', ZF, hc'⟩ := wh ps sc [] s.Gv s.score (by simp)
  have d3 : Ah [(0, (100, ()))] := ⟨fun i hi => by
    obtain rfl : i = 0 := by simpa using hi
    exact ⟨⟨⟨by decide, by decide⟩, by decide, by decide⟩, fun _ => rfl, fun h => absurd h (by omega)⟩, by decide⟩
  have d4 : a' = true := ha'.2 ⟨fun i hi => absurd hi (by simp), by decide⟩
  have d5 : b' = true := hb'.2 ⟨fun i hi => absurd hi (by simp), by decide⟩
  have d6 : c' = true := hc'.2 ⟨fun i hi => absurd hi (by simp), hp, hs, by decide⟩
  refine Ev.eq (fun k => fF k (wO m ps sc i)) (Ev.bind (dD _ s.score) (Ev.pos (decide_eq_true (show eF (wO m ps sc i).1 from hs)) (Ev.bind (Te hm) ?_)))
  exact Ev.pos rfl (Ev.bind (lF _ s.qY) (Ev.pos (decide_eq_true (show Ah (wO m ps sc i).2.2.1 from d3)) (Ev.bind UW (Ev.pos d4 (Ev.bind eb' (Ev.pos d5 (Ev.bind ZF (Ev.pos d6 (Ev.bind (aI _ _ _) (Ev.pos (decide_eq_true hi) (Ev.bind (aI _ _ _) (Ev.ret.val (by simp [wO])))))))))))))
theorem MI : Dr (fun k c => wY k c) (fun o => ∃ m ps, o = wO m ps [] 1 /\ Yb m /\ oC 10 ps /\ Yc ps) := by
  intro c h
  obtain ⟨m, c1, h1, hm, e1⟩ := OT c h
  obtain ⟨ps, c2, h2, ⟨hps, hv⟩, e2⟩ := Ka c1 h1
  have d1 : eF [] := ⟨fun i hi => absurd hi (by simp), by decide⟩
  have g := Ry (m := m) (i := 1) hps (show ([] : List aF).length <= 100 by simp)
  have b := tQ g (by omega)
  have ii := Vq (i := 1) hm hps (Jr hv) d1 (by omega)
  obtain ⟨r, i1, i2⟩ := yc (wO m ps [] 1) (OI b)
  obtain rfl : r = true := Ev.uniq i2 ii
  have e3 : Ev (fun k => kT k m ps) (wO m ps [] 1, (true, ())) := Ev.eq (fun k => nV k m ps) (Ev.bind (wm (wO m ps [] 1) b) (Ev.bind i1 (Ev.neg (by simp) Ev.ret)))
  exact ⟨wO m ps [] 1, c2, h2, ⟨m, ps, rfl, hm, hps, hv⟩, Ev.eq (fun k => Ep k c) (Ev.bind e1 (Ev.bind e2 (Ev.bind e3 Ev.ret)))⟩
theorem MJ {t : Ty} {l : List t.den} {i j : Nat} (h : i < j) (hj : j <= l.length) : rd t (l.take j) (i : Int) = rd t l (i : Int) := by
  rw [fK (show i < l.length by omega), fK (by rw [List.length_take]; omega), List.getElem_take]
theorem QC {l : List aF} (h : eF l) (j : Nat) (hj : j <= l.length) : eF (l.take j) := by
  have hl : (l.take j).length = j := by rw [List.length_take]; omega
  refine ⟨fun i hi => ?_, ?_⟩
  · have q := h.1 i (by omega)
    unfold QS at q ⊢
    rw [MJ (by omega) hj]
    exact ⟨q.1, fun h0 => by rw [MJ (by omega) hj]; exact q.2 h0⟩
  · have := of_decide_eq_true h.2
    exact decide_eq_true (by omega)
theorem Ye {m : cu} {ps : List bF} {l : List aF} (hm : Yb m) (h : oC 10 ps) (hp : lU ps) (hl : eF l) {i : Nat} (hi : i < l.length) : Ev (fun k => nR k (wO m ps (l.take i) ((i : Int) + 1)) (rd bL l (i : Int))) (wO m ps (l.take (i + 1)) (((i + 1 : Nat) : Int) + 1), (true, ())) := by
  have hlen : l.length <= 40 := by have := of_decide_eq_true hl.2; omega
  have ht : (l.take i).length = i := by rw [List.length_take]; omega
  obtain ⟨p, hp1, h1, h2, ep⟩ := Rx (l.take i) (rd bL l (i : Int)) (by omega)
  have hpi : p = i := by
    apply Classical.byContradiction
    intro c
    refine h2 (by omega) ?_
    rw [MJ (by omega) (by omega)]
    have := La hl.1 (i - p - 1) p (by omega)
    rwa [show p + (i - p - 1) + 1 = i by omega] at this
  have hL : (l.take i).take p ++ [rd bL l (i : Int)] ++ (l.take i).drop p = l.take (i + 1) := by
    rw [List.take_of_length_le (by omega), List.drop_of_length_le (by omega), List.append_nil, fK hi, List.take_succ_eq_append_getElem hi]
  have hs := QC hl (i + 1) (by omega)
  rw [hL, if_pos hs] at ep
  have w : IntKind.wrap .i64 ((i : Int) + 1 + 1) = ((i + 1 : Nat) : Int) + 1 := by rw [jD (by omega) (by omega)]; omega
  have ec : Ev (fun k => jm k (wO m ps (l.take i) ((i : Int) + 1)) (rd bL l (i : Int))) (true, wO m ps (l.take (i + 1)) (((i + 1 : Nat) : Int) + 1)) := Ev.eq (fun k => oM k _ _) (Ev.bind ep (Ev.ret.val (by rw [<- w]; rfl)))
  have is1 := Vq (i := ((i + 1 : Nat) : Int) + 1) hm h hp hs (by omega)
  have b := tQ (Ry (m := m) (i := (i : Int) + 1) h (show (l.take i).length <= 100 by omega)) (by omega)
  exact Ev.eq (fun k => wM k _ _) (Ev.bind (Ev.eq (fun k => vV k _ _) (Ev.bind (qz _ b) (Ev.bind ec (Ev.neg (by simp) (Ev.bind is1 (Ev.neg (by simp) Ev.ret)))))) (Ev.ret.val (by simp)))
theorem Tf {m : cu} {ps : List bF} {l : List aF} (hm : Yb m) (h : oC 10 ps) (hp : lU ps) (hl : eF l) : ∀ (d i : Nat), i + d = l.length -> Runs (wO m ps (l.take i) ((i : Int) + 1)) (lZ (l.drop i)) (wO m ps l ((l.length : Int) + 1)) := by
  intro d
  induction d with
  | zero =>
    intro i hi
    obtain rfl : i = l.length := by omega
    rw [List.drop_of_length_le (by omega), List.take_of_length_le (by omega)]
    exact rfl
  | succ d ih =>
    intro i hi
    rw [List.drop_eq_getElem_cons (show i < l.length by omega)]
    have e := Ye hm h hp hl (show i < l.length by omega)
    rw [fK (show i < l.length by omega)] at e
    exact ⟨(wO m ps (l.take (i + 1)) (((i + 1 : Nat) : Int) + 1), (true, ())), Ev.eq (fun k => iV k _ _) (Ev.pos rfl (Ev.bind e (Ev.ret.val (by simp)))), ih (i + 1) (by omega)⟩
theorem Tg (l : List aF) (hl : l.length <= 1048576) : Ev (fun k => gT k l) (lZ l) := by
  have key : ∀ (d i : Nat), i + d = l.length -> E2 (fun k m => gT.l0 k m l ((List.length l : Nat) : Int) (i : Int) (lZ (l.take i))) (lZ l) := by
    intro d
    induction d with
    | zero =>
      intro i hi
      rw [List.take_of_length_le (by omega)]
      exact E2.eq (fun k m => gT.aA k m _ _ _ _) (E2.neg (by omega) E2.ret)
    | succ d ih =>
      intro i hi
      have e := ih (i + 1) (by omega)
      have hlt : i < l.length := by omega
      have hlen : (lZ (l.take i)).length = i := by simp [lZ]; omega
      refine E2.eq (fun k m => gT.aA k m _ _ _ _) (E2.pos (by omega) (E2.pos (by omega) (E2.pos (by omega) (E2.pos (by simp only [List.length_singleton]; omega) ?_))))
      simp only [cO (show i < 9223372036854775807 by omega)]
      have : lZ (l.take (i + 1)) = lZ (l.take i) ++ [((1, (0, ((rd bL l (i : Int)), ((0, (0, ())), ((0, (0, (0, ([], ())))), ((0, (0, (0, (0, (0, ()))))), ())))))) : kX)] := by
        rw [fK hlt]
        unfold lZ
        rw [List.take_succ_eq_append_getElem hlt, List.map_append]
        rfl
      rw [<- this]
      exact e
  exact Ev.eq (fun k => Eo k l) (Ev.loop (f := fun k m => gT.l0 k m l ((List.length l : Nat) : Int) 0 []) (key l.length 0 (by omega)))
theorem OU (most : Int) (hm : most <= 100) : Dr (fun k c => iG k c most) (fun l => l.length <= 301 /\ (∀ x ∈ l, JZ x) /\ ∃ x ∈ l, (x.1 : Int) = 4) := by
  intro c h
  obtain ⟨sc, c1, h1, hsc, e1⟩ := Fg c h
  have hsc : sc.length <= 200 := hsc
  have e2 := SS sc (by omega)
  have hwl : (lZ sc).length = sc.length := by simp [lZ]
  have hwo : ∀ x ∈ lZ sc, JZ x := fun x hx => by
    obtain ⟨e, _, rfl⟩ := List.mem_map.1 hx
    show ([] : List Int).length <= 3
    simp
  obtain ⟨n, c2, h2, hn, e3⟩ := aS most c1 h1
  have key : ∀ (d : Nat) (c : dQ) (s : List kX), oI c -> s.length + d <= 301 -> (∀ x ∈ s, JZ x) -> (∃ x ∈ s, (x.1 : Int) = 4) -> ∃ (l : List kX) (c' : dQ), oI c' /\ (l.length <= 301 /\ (∀ x ∈ l, JZ x) /\ ∃ x ∈ l, (x.1 : Int) = 4) /\ E2 (fun k m => iG.l0 k m (d : Int) c.1 c.2.1 c.2.2.1 s) (l, c') := by
    intro d
    induction d with
    | zero =>
      intro c s hc hs ho h4
      exact ⟨s, c, hc, ⟨by omega, ho, h4⟩, E2.eq (fun k m => iG.aA k m _ _ _ _ _) (E2.neg (by omega) E2.ret)⟩
    | succ d ih =>
      intro c s hc hs ho h4
      obtain ⟨x, c', hc', hx, e⟩ := Ld c hc
      obtain ⟨l, c'', h3, h4, e'⟩ := ih c' (s ++ [x]) hc' (by simp; omega) (fun y hy => (List.mem_append.1 hy).elim (ho y) (fun hy => by simp at hy; rw [hy]; exact hx)) (h4.imp fun y hy => ⟨List.mem_append_left _ hy.1, hy.2⟩)
      refine ⟨l, c'', h3, h4, E2.eq (fun k m => iG.aA k m _ _ _ _ _) (E2.pos (by omega) (E2.bind e (E2.pos (by simp only [List.length_singleton]; omega) ?_)))⟩
      have w : IntKind.wrap .i64 (((d + 1 : Nat) : Int) - 1) = (d : Int) := by rw [jD (by omega) (by omega)]; omega
      rw [w]
      exact e'
  obtain ⟨N, rfl⟩ := Int.eq_ofNat_of_zero_le hn.1
  have hN : N <= 100 := by
    by_cases hm0 : 0 < most
    · have := hn.2.1 hm0; omega
    · have := hn.2.2 (by omega); omega
  obtain ⟨l, c', h3, h4, e4⟩ := key N c2 (lZ sc ++ [((4, (2, ((0, (0, (0, (0, ())))), ((0, (0, ())), ((0, (0, (0, ([], ())))), ((0, (0, (0, (0, (0, ()))))), ())))))) : kX)]) h2 (by simp; omega) (fun y hy => (List.mem_append.1 hy).elim (hwo y) (fun hy => by
    simp at hy
    subst hy
    show ([] : List Int).length <= 3
    simp)) ⟨_, List.mem_append_right _ (List.mem_singleton.2 rfl), rfl⟩
  exact ⟨l, c', h3, h4, Ev.eq (fun k => Fy k c most) (Ev.bind e1 (Ev.bind e2 (Ev.pos (by simp only [List.length_singleton]; omega) (Ev.bind e3 (Ev.loop (f := fun k m => iG.l0 k m (N : Int) c2.1 c2.2.1 c2.2.2.1 (lZ sc ++ [((4, (2, ((0, (0, (0, (0, ())))), ((0, (0, ())), ((0, (0, (0, ([], ())))), ((0, (0, (0, (0, (0, ()))))), ())))))) : kX)])) e4)))))⟩
theorem Ti (l : List kX) (kd : Int) (hl : l.length <= 1048576) (hx : ∃ x ∈ l, (x.1 : Int) = kd) : ∃ v : Int, 1 <= v /\ Ev (fun k => bV k l kd) v := by
  have key : ∀ (d i : Nat) (n : Int), i + d = l.length -> 0 <= n -> n <= i -> ∃ v : Int, n <= v /\ ((∃ j, i <= j /\ j < l.length /\ ((rd Dc l (j : Int)).1 : Int) = kd) -> n + 1 <= v) /\ E2 (fun k m => bV.l0 k m kd n l ((List.length l : Nat) : Int) (i : Int)) v := by
    intro d
    induction d with
    | zero =>
      intro i n hi h0 h1
      exact ⟨n, by omega, fun ⟨j, a, b, _⟩ => by omega, E2.eq (fun k m => bV.aA k m kd n l _ _) (E2.neg (by omega) E2.ret)⟩
    | succ d ih =>
      intro i n hi h0 h1
      by_cases c : Eq (α := Int) (rd Dc l (i : Int)).1 kd
      · obtain ⟨v, h2, _, e⟩ := ih (i + 1) (n + 1) (by omega) (by omega) (by omega)
        refine ⟨v, by omega, fun _ => h2, E2.eq (fun k m => bV.aA k m kd n l _ _) (E2.pos (by omega) (E2.pos (by omega) (E2.pos (by omega) (E2.pos c ?_))))⟩
        simp only [cO (show i < 9223372036854775807 by omega)]
        rw [jD (n := n + 1) (by omega) (by omega)]
        exact e
      · obtain ⟨v, h2, h3, e⟩ := ih (i + 1) n (by omega) (by omega) (by omega)
        refine ⟨v, by omega, fun ⟨j, a, b, hj⟩ => h3 ⟨j, Nat.lt_of_le_of_ne a (fun q => c (q ▸ hj)), b, hj⟩, E2.eq (fun k m => bV.aA k m kd n l _ _) (E2.pos (by omega) (E2.pos (by omega) (E2.pos (by omega) (E2.neg c ?_))))⟩
        simp only [cO (show i < 9223372036854775807 by omega)]
        exact e
  obtain ⟨v, _, h3, e⟩ := key l.length 0 0 (by omega) (by omega) (by omega)
  obtain ⟨x, hx, hk⟩ := hx
  obtain ⟨j, hj, rfl⟩ := List.mem_iff_getElem.1 hx
  have := h3 ⟨j, by omega, hj, by rw [fK hj]; exact hk⟩
  exact ⟨v, by omega, Ev.eq (fun k => xW k l kd) (Ev.loop (f := fun k m => bV.l0 k m kd 0 l ((List.length l : Nat) : Int) 0) e)⟩
theorem OV : Dr (fun k c => yJ k c) (fun o => Gd 200 o) := by
  intro c h
  obtain ⟨m, c1, h1, _, e1⟩ := Qu c h
  obtain ⟨ps, c2, h2, hps, e2⟩ := MF c1 h1
  obtain ⟨v, gv, _, e3⟩ := WM m ps hps
  obtain ⟨sc, c4, h4, hsc, e4⟩ := Fg c2 h2
  obtain ⟨te, c5, h5, hte, e5⟩ := Qv c4 h4
  obtain ⟨ma, c6, h6, hma, e6⟩ := Qw c5 h5
  obtain ⟨le, c7, h7, hle, e7⟩ := Qx c6 h6
  have hsc : sc.length <= 200 := hsc
  have hte : te.length <= 4 := hte.2
  have hma : ma.length <= 9 := hma
  have hle : le.length <= 6 := hle
  have fv := gv.2.2.1
  obtain ⟨st, hst, e8⟩ := Vf v.1.2.2.2.1 sc fv (by omega)
  have gd : ∀ seats : List Int, seats.length <= 200 -> Gd 200 (sc, (v.1.2.1, (te, (v.1.2.2.2.1, (seats, (ma, (le, v.1.2.2.2.2.2.2.2))))))) := fun seats hs => ⟨hsc, by show te.length <= _; omega, sF fv (by omega), hs, by show ma.length <= _; omega, by show le.length <= _; omega⟩
  have g5 : v.1.2.2.2.2.1.length <= 200 := Nat.le_trans gv.2.2.2.1 (by omega)
  by_cases q : st.2.1 = true
  · obtain ⟨x, c9, h9, _, e9⟩ := EG 5 c7 h7
    by_cases q2 : x = true
    · exact ⟨_, c9, h9, gd _ g5, Ev.eq (fun k => uD k c) (Ev.bind e1 (Ev.bind e2 (Ev.bind e3 (Ev.bind e4 (Ev.bind e5 (Ev.bind e6 (Ev.bind e7 (Ev.bind e8 (Ev.pos q (Ev.bind e9 (Ev.neg (fun h => h q2) Ev.ret)))))))))))⟩
    · exact ⟨_, c9, h9, gd _ (by omega), Ev.eq (fun k => uD k c) (Ev.bind e1 (Ev.bind e2 (Ev.bind e3 (Ev.bind e4 (Ev.bind e5 (Ev.bind e6 (Ev.bind e7 (Ev.bind e8 (Ev.pos q (Ev.bind e9 (Ev.pos q2 Ev.ret)))))))))))⟩
  · exact ⟨_, c7, h7, gd _ g5, Ev.eq (fun k => uD k c) (Ev.bind e1 (Ev.bind e2 (Ev.bind e3 (Ev.bind e4 (Ev.bind e5 (Ev.bind e6 (Ev.bind e7 (Ev.bind e8 (Ev.neg q Ev.ret)))))))))⟩
theorem QD : Dr (fun k c => eD k c) (fun o => Gd 210 o) := by
  intro c h
  obtain ⟨o, c1, h1, ho, e1⟩ := OV c h
  obtain ⟨n, c2, h2, hn, e2⟩ := aS 6 c1 h1
  have hn1 := hn.2.1 (by omega)
  have key : ∀ (d : Nat) (c : dQ) (o : bg), d <= 6 -> oI c -> Gd (206 - d) o -> ∃ (r : bg) (c' : dQ), oI c' /\ Gd 210 r /\ E2 (fun k m => eD.l0 k m (d : Int) c.1 c.2.1 c.2.2.1 0 0 0 0 o.2.1.1 o.2.1.2.1 o.2.2.2.2.2.2.2.1 o.2.2.2.2.2.2.2.2.1 o.1 o.2.2.1 o.2.2.2.1 o.2.2.2.2.1 o.2.2.2.2.2.1 o.2.2.2.2.2.2.1) (r, c') := by
    intro d
    induction d with
    | zero =>
      intro c o hd hc ho
      exact ⟨o, c, hc, kV ho (by omega), E2.eq (fun k m => eD.aA k m _ _ _ _ _ _ _ _ _ _ _ _ _ _ _ _ _ _) (E2.neg (by omega) E2.ret)⟩
    | succ d ih =>
      intro c o hd hc ho
      have w : IntKind.wrap .i64 (((d + 1 : Nat) : Int) - 1) = (d : Int) := by rw [jD (by omega) (by omega)]; omega
      have hg : ∀ {v : bg}, Gd (206 - (d + 1) + 1) v -> Gd (206 - d) v := fun h => kV h (by omega)
      obtain ⟨x, c1, h1, _, e1⟩ := aS 5 c hc
      by_cases q0 : (x : Int) = 0
      · obtain ⟨y, c2, h2, _, e2⟩ := aS 5 c1 h1
        obtain ⟨v, g1, _, e3⟩ := Vi (by omega) ho (IntKind.wrap .i64 (1 + y))
        obtain ⟨r, c', hc', hr, e⟩ := ih c2 v.1 (by omega) h2 (hg g1)
        refine ⟨r, c', hc', hr, E2.eq (fun k m => eD.aA k m _ _ _ _ _ _ _ _ _ _ _ _ _ _ _ _ _ _) (E2.pos (by omega) (E2.bind e1 (E2.pos q0 (E2.bind e2 (E2.bind e3 ?_)))))⟩
        rw [w]; exact e
      by_cases q1 : (x : Int) = 1
      · obtain ⟨y, c2, h2, _, e2⟩ := aS 5 c1 h1
        obtain ⟨y2, c3, h3, _, e3⟩ := aS 4 c2 h2
        obtain ⟨y3, c4, h4, _, e4⟩ := aS 4 c3 h3
        obtain ⟨y4, c5, h5, _, e5⟩ := aS 3 c4 h4
        obtain ⟨v, g1, _, e6⟩ := Vj (by omega) ho (IntKind.wrap .i64 (1 + y)) (IntKind.wrap .i64 (1 + y2)) y3 (IntKind.wrap .i64 (1 + y4))
        obtain ⟨r, c', hc', hr, e⟩ := ih c5 v.1 (by omega) h5 (hg g1)
        refine ⟨r, c', hc', hr, E2.eq (fun k m => eD.aA k m _ _ _ _ _ _ _ _ _ _ _ _ _ _ _ _ _ _) (E2.pos (by omega) (E2.bind e1 (E2.neg q0 (E2.pos q1 (E2.bind e2 (E2.bind e3 (E2.bind e4 (E2.bind e5 (E2.bind e6 ?_)))))))))⟩
        rw [w]; exact e
      by_cases q2 : (x : Int) = 2
      · obtain ⟨y, c2, h2, _, e2⟩ := aS 3 c1 h1
        obtain ⟨v, g1, _, e3⟩ := Vm (by omega) (by omega) ho (IntKind.wrap .i64 (1 + y))
        obtain ⟨r, c', hc', hr, e⟩ := ih c2 v.1 (by omega) h2 (hg g1)
        refine ⟨r, c', hc', hr, E2.eq (fun k m => eD.aA k m _ _ _ _ _ _ _ _ _ _ _ _ _ _ _ _ _ _) (E2.pos (by omega) (E2.bind e1 (E2.neg q0 (E2.neg q1 (E2.pos q2 (E2.bind e2 (E2.bind e3 ?_)))))))⟩
        rw [w]; exact e
      · obtain ⟨y, c2, h2, _, e2⟩ := yP c1 h1
        obtain ⟨v, g1, _, e3⟩ := SQ (by omega) ho y
        obtain ⟨r, c', hc', hr, e⟩ := ih c2 v.1 (by omega) h2 (hg g1)
        refine ⟨r, c', hc', hr, E2.eq (fun k m => eD.aA k m _ _ _ _ _ _ _ _ _ _ _ _ _ _ _ _ _ _) (E2.pos (by omega) (E2.bind e1 (E2.neg q0 (E2.neg q1 (E2.neg q2 (E2.bind e2 (E2.bind e3 ?_)))))))⟩
        rw [w]; exact e
  obtain ⟨N, rfl⟩ := Int.eq_ofNat_of_zero_le hn.1
  obtain ⟨r, c', hc', hr, e⟩ := key N c2 o (by omega) h2 (kV ho (by omega))
  exact ⟨r, c', hc', hr, Ev.eq (fun k => FC k c) (Ev.bind e1 (Ev.bind e2 (Ev.loop (f := fun k m => eD.l0 k m (N : Int) c2.1 c2.2.1 c2.2.2.1 0 0 0 0 o.2.1.1 o.2.1.2.1 o.2.2.2.2.2.2.2.1 o.2.2.2.2.2.2.2.2.1 o.1 o.2.2.1 o.2.2.2.1 o.2.2.2.2.1 o.2.2.2.2.2.1 o.2.2.2.2.2.2.1) e)))⟩
theorem MK (code : List Int) (hc : code.length <= 1048576) : ∃ (o : bg) (x : kX), Gd 210 o /\ JZ x /\ Ev (fun k => nQ k code) (o, (x, ())) := by
  obtain ⟨c, hc, e0⟩ := Jj code hc
  obtain ⟨o, c1, h1, ho, e1⟩ := QD c hc
  obtain ⟨x, c2, h2, hx, e2⟩ := Ld c1 h1
  obtain ⟨y, c3, h3, _, e3⟩ := EG 9 c2 h2
  by_cases q : y = true
  · obtain ⟨z, c4, h4, _, e4⟩ := aS 11 c3 h3
    exact ⟨o, (IntKind.wrap .i64 (z - 1), x.2), ho, hx, Ev.eq (fun k => wL k code) (Ev.bind e0 (Ev.bind e1 (Ev.bind e2 (Ev.bind e3 (Ev.pos q (Ev.bind e4 Ev.ret))))))⟩
  · exact ⟨o, x, ho, hx, Ev.eq (fun k => wL k code) (Ev.bind e0 (Ev.bind e1 (Ev.bind e2 (Ev.bind e3 (Ev.neg q Ev.ret)))))⟩
theorem Tj (x : Int) (h : 1 <= x /\ x <= 8) : ∃ s : ByteArray, s ≠ ByteArray.mk #[] /\ Ev (fun k => gN k x) s := by
  have w : IntKind.wrap .i64 (x - 1) = x - 1 := jD (by omega) (by omega)
  have : x = 1 \/ x = 2 \/ x = 3 \/ x = 4 \/ x = 5 \/ x = 6 \/ x = 7 \/ x = 8 := by omega
  refine ⟨_, ?_, Ev.eq (fun k => zq k x) (Ev.bind (aI _ _ _) (Ev.neg (by simpa using h) (Ev.pos (by omega) (Ev.pos (by simp only [List.length_cons, List.length_nil]; omega) Ev.ret))))⟩
  rw [w]
  rcases this with rfl | rfl | rfl | rfl | rfl | rfl | rfl | rfl <;> (intro q; have q := congrArg ByteArray.size q; revert q; decide)
theorem QE (code : List Int) (hc : code.length <= 1048576) : ∃ (m : cu) (ps : List bF) (l : List kX), Yb m /\ oC 10 ps /\ Yc ps /\ (l.length <= 301 /\ (∀ x ∈ l, JZ x) /\ ∃ x ∈ l, (x.1 : Int) = 4) /\ Ev (fun k => uo k code) (wO m ps [] 1, (l, ())) := by
  obtain ⟨c, hc, e0⟩ := Jj code hc
  obtain ⟨o, c1, h1, ⟨m, ps, rfl, hm, hf, hv⟩, e1⟩ := MI c hc
  obtain ⟨l, c2, h2, hl, e2⟩ := OU 9 (by omega) c1 h1
  exact ⟨m, ps, l, hm, hf, hv, hl, Ev.eq (fun k => Cj k code) (Ev.bind e0 (Ev.bind e1 (Ev.bind e2 Ev.ret)))⟩
theorem ML (code : List Int) (hc : code.length <= 1048576) : ∃ l : List aF, l.length <= 14 /\ Ev (fun k => qL k code) l := by
  obtain ⟨c, hc, e0⟩ := Jj code hc
  obtain ⟨l, c1, h1, hl, e1⟩ := Ve c hc
  exact ⟨l, hl, Ev.eq (fun k => Af k code) (Ev.bind (Ev.eq (fun k => AR k code) (Ev.bind e0 (Ev.bind e1 Ev.ret))) Ev.ret)⟩
theorem ZU (code : List Int) (hw : Wd (.list (.int .u8)) code) (i : Nat) (hi : i <= 1000) (hc : code.length <= 1048576) : ∃ v : Int, 0 <= v /\ v <= 255 /\ Ev (fun k => Mq k code (i : Int)) v := by
  by_cases c : (i : Int) < ((List.length code : Nat) : Int)
  · have hb : Wd (.int .u8) (rd (.int .u8) code (i : Int)) := Zy hw (by omega)
    have hb : (Lit.int .u8 (rd (.int .u8) code (i : Int))).wf = true := hb
    simp only [Lit.wf, Bool.and_eq_true, decide_eq_true_eq] at hb
    have b1 : (0 : Int) <= rd (.int .u8) code (i : Int) := hb.1
    have b2 : LE.le (α := Int) (rd (.int .u8) code (i : Int)) 255 := hb.2
    exact ⟨_, by rw [jD (by omega) (by omega)]; exact b1, by rw [jD (by omega) (by omega)]; exact b2, Ev.eq (fun k => IY k code _) (Ev.pos c (Ev.pos (by omega) (Ev.pos c Ev.ret)))⟩
  · have w1 : IntKind.wrap .i64 ((i : Int) * 31) = (i : Int) * 31 := jD (by omega) (by omega)
    have w2 : IntKind.wrap .i64 (((List.length code : Nat) : Int) * 7) = ((List.length code : Nat) : Int) * 7 := jD (by omega) (by omega)
    have w3 : IntKind.wrap .i64 ((i : Int) * 31 + ((List.length code : Nat) : Int) * 7) = (i : Int) * 31 + ((List.length code : Nat) : Int) * 7 := jD (by omega) (by omega)
    refine ⟨_, ?_, ?_, Ev.eq (fun k => IY k code _) (Ev.neg c (Ev.neg (by omega) Ev.ret))⟩
    · rw [w1, w2, w3]; exact Int.tmod_nonneg _ (by omega)
    · rw [w1, w2, w3]; have := Int.tmod_lt_of_pos ((i : Int) * 31 + ((List.length code : Nat) : Int) * 7) (show (0 : Int) < 256 by omega); omega
theorem tailA (code : List Int) (hc : code.length <= 1048576) : Ev (fun k =>
 (nQ k code).bind fun UO =>
 (qh k UO.1 UO.2.1).bind fun r16 =>
 if r16.2.1 = true then
 if ¬ (r16.2.1 = true) then
 some true
 else (gN k UO.2.1.1).bind fun r17 =>
 some (decide (¬ (r17 = (ByteArray.mk #[]))))
 else (iO k UO.1 r16.1).bind fun r18 =>
 if r18 = true then
 if ¬ (r16.2.1 = true) then
 some true
 else (gN k UO.2.1.1).bind fun r19 =>
 some (decide (¬ (r19 = (ByteArray.mk #[]))))
 else some false) true := by
  obtain ⟨o, x, ho, hx, e1⟩ := MK code hc
  obtain ⟨v, _, g2, e2⟩ := Vp (by omega) (by omega) ho x hx
  refine Ev.bind e1 (Ev.bind e2 ?_)
  rcases g2 with rfl | ⟨g2, _, g3⟩
  · obtain ⟨r, e3, h3⟩ := Lc o o (Vh (tQ ho (by omega)))
    exact Ev.neg (by simp) (Ev.bind e3 (Ev.pos (h3.2 rfl) (Ev.pos (by simp) Ev.ret)))
  · obtain ⟨s, hs, e3⟩ := Tj x.1 g3
    exact Ev.pos g2 (Ev.neg (fun h => h g2) (Ev.bind e3 (Ev.ret.val (by simpa using hs))))
theorem pure (a0 : List Int) (w0 : Wd (.list (.int .u8)) a0) : ∃ k, um k a0 = some true := by
  refine Ev.at (f := fun k => um k a0) ?_
  by_cases hb : (1048576 : Int) < ((List.length a0 : Nat) : Int)
  · exact Ev.eq (fun k => vU k a0) (Ev.bind (Ev.eq (fun k => Fe k a0) Ev.ret) (Ev.pos (by simpa using hb) Ev.ret))
  have hc : a0.length <= 1048576 := by omega
  obtain ⟨m, ps, l, hm, hf, hv, ⟨hl, hh, h4⟩, e1⟩ := QE a0 hc
  obtain ⟨y, hy, e2⟩ := ML a0 hc
  have hp := Jr hv
  have d1 : eF [] := ⟨fun i hi => absurd hi (by simp), by decide⟩
  have g0 := Ry (m := m) (i := 1) hf (show ([] : List aF).length <= 100 by simp)
  have b0 := tQ g0 (by omega)
  have i0 := Vq (i := 1) hm hf hp d1 (by omega)
  obtain ⟨w, hr, gw, hw⟩ := Gz l 100 _ (by omega) (by omega) g0 hh
  have bw := tQ gw (by omega)
  have hpos : 0 < l.length := by obtain ⟨x, hx, _⟩ := h4; exact List.length_pos_of_mem hx
  obtain ⟨t, ht0, _, e3⟩ := ZU a0 w0 3 (by omega) hc
  have t1 : 0 <= Int.tmod t ((List.length l : Nat) : Int) := Int.tmod_nonneg _ ht0
  have t2 : Int.tmod t ((List.length l : Nat) : Int) < ((List.length l : Nat) : Int) := Int.tmod_lt_of_pos _ (by omega)
  obtain ⟨T, hT⟩ := Int.eq_ofNat_of_zero_le t1
  obtain ⟨u, r1, r2⟩ := Jq (l.take T) (l.drop T) _ (by rw [List.take_append_drop]; exact hr)
  obtain ⟨u', ru, gu, _⟩ := Gz (l.take T) 100 _ (by omega) (by rw [List.length_take]; omega) g0 fun x hx => hh x (List.mem_of_mem_take hx)
  obtain ⟨q, eq, hq⟩ := Lc w w (Vh bw)
  obtain ⟨n, hn, e4⟩ := Ti l 4 (by omega) h4
  have f0 := Gy (by omega) b0 hr
  have hwl : (lZ y).length = y.length := by simp [lZ]
  have hwo : ∀ x ∈ lZ y, JZ x := fun x hx => by
    obtain ⟨e, _, rfl⟩ := List.mem_map.1 hx
    show ([] : List Int).length <= 3
    simp
  obtain ⟨z, hz, gz, _⟩ := Gz (lZ y) 100 _ (by omega) (by omega) g0 hwo
  have e5 := Gy (by omega) b0 hz
  refine Ev.eq (fun k => vU k a0) (Ev.bind (Ev.eq (fun k => Fe k a0) Ev.ret) (Ev.neg (by simpa using hb) (Ev.bind e1 (Ev.bind f0 (Ev.bind e3 (Ev.neg (by show ¬ (((List.length l : Nat) : Int) = 0); omega) (Ev.bind (hw i0) (Ev.neg (by simp) ?_))))))))
  obtain rfl := EI _ _ r1 ru
  have bu := tQ gu (by rw [List.length_take]; omega)
  have s1 : List.take ((Int.toNat (Int.tmod t ((List.length l : Nat) : Int))) - (Int.toNat 0)) (List.drop (Int.toNat 0) l) = l.take T := by rw [hT]; simp
  have s2 : List.take ((Int.toNat ((List.length l : Nat) : Int)) - (Int.toNat (Int.tmod t ((List.length l : Nat) : Int)))) (List.drop (Int.toNat (Int.tmod t ((List.length l : Nat) : Int))) l) = l.drop T := by
    rw [hT]
    exact List.take_of_length_le (by simp)
  have f1 := Gy (by rw [List.length_take]; omega) b0 r1
  have f2 := Gy (by rw [List.length_drop]; omega) bu r2
  rw [<- s1] at f1
  rw [<- s2] at f2
  refine Ev.pos t1 (Ev.pos (Int.le_of_lt t2) (Ev.bind f1 (Ev.pos t1 (Ev.pos (Int.le_of_lt t2) (Ev.bind f2 (Ev.bind eq (Ev.neg (fun h => h (hq.2 rfl)) (Ev.bind e4 (Ev.neg (by omega) (Ev.bind e2 (Ev.bind (Tg y (by omega)) (Ev.bind e5 (Ev.bind (dD y (by omega)) ?_)))))))))))))
  by_cases c : eF y
  · have hz' := Tf hm hf hp c y.length 0 (by omega)
    have hz2 : Runs (wO m ps [] 1) (lZ y) (wO m ps y ((y.length : Int) + 1)) := hz'
    obtain rfl := EI _ _ hz hz2
    obtain ⟨r, er, hr'⟩ := Rt y y (by omega)
    exact Ev.pos (decide_eq_true c) (Ev.bind (Ev.eq (fun k => AQ k y y) (Ev.bind er Ev.ret)) (Ev.neg (by simpa using hr'.2 rfl) (Ev.neg (by omega) (tailA a0 hc))))
  · exact Ev.neg (by simpa using c) (Ev.neg (by omega) (tailA a0 hc))
end Go.fM
