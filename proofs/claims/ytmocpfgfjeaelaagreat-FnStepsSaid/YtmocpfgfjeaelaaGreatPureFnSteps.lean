/- The plain half of FnSteps. No condition. -/
import Derived.Test.YtmocpfgfjeaelaaGreatHFnSteps
set_option linter.unusedVariables false
set_option linter.unusedSimpArgs false
open Go Go.Flat
namespace Go.jy
theorem bT (x lo hi : Int) : Ev (fun k => fq k x lo hi) (decide (lo <= x /\ x <= hi)) := by
 by_cases c : lo <= x
 ·exact Ev.eq (fun k => Dq k x lo hi) (Ev.pos c (Ev.ret.val (by simp [c])))
 ·exact Ev.eq (fun k => Dq k x lo hi) (Ev.neg c (Ev.ret.val (by simp [c])))
theorem aI (x lo hi : Int) : Ev (fun k => aY k x lo hi) (decide (lo <= x /\ x <= hi)) := by
 by_cases c : lo <= x
 ·exact Ev.eq (fun k => mE k x lo hi) (Ev.pos c (Ev.ret.val (by simp [c])))
 ·exact Ev.eq (fun k => mE k x lo hi) (Ev.neg c (Ev.ret.val (by simp [c])))
theorem rR (x : Int) : Ev (fun k => cmp_isNaN_int k x) false := Ev.eq (fun k => rQ k x) (Ev.ret.val (by simp))
def yV (x y : Int) : Int := if x < y then -1 else if y < x then 1 else 0
theorem ug (x y : Int) : Ev (fun k => cmp_Compare_int k x y) (yV x y) := by
 unfold yV
 by_cases c : x < y
 ·exact Ev.eq (fun k => iK k x y) (Ev.bind (rR x) (Ev.bind (rR y) (Ev.neg (by simp) (Ev.neg (by simp) (Ev.pos c (Ev.ret.val (by rw [if_pos c])))))))
 ·by_cases c2 : y < x
  ·exact Ev.eq (fun k => iK k x y) (Ev.bind (rR x) (Ev.bind (rR y) (Ev.neg (by simp) (Ev.neg (by simp) (Ev.neg c (Ev.pos c2 (Ev.ret.val (by rw [if_neg c, if_pos c2]))))))))
  ·exact Ev.eq (fun k => iK k x y) (Ev.bind (rR x) (Ev.bind (rR y) (Ev.neg (by simp) (Ev.neg (by simp) (Ev.neg c (Ev.neg c2 (Ev.ret.val (by rw [if_neg c, if_neg c2]))))))))
theorem yj {f : Nat -> Option Bool} {p : Prop} [d : Decidable p] (h : ∃ r, Ev f r /\ (r = true ↔ p)) : Ev f (decide p) := by
 obtain ⟨r, e, hr⟩ := h
 exact e.val (by rw [Bool.eq_iff_iff, hr]; simp)
theorem vk {F : Int -> Nat -> Nat -> Option Bool} {n : Nat} (Q : Nat -> Prop) (c : Bool) (hend : E2 (F (n : Int)) c)
  (hgo : ∀ i, i < n -> Q i -> ∀ v, E2 (F ((i + 1 : Nat) : Int)) v -> E2 (F (i : Int)) v) (hstop : ∀ i, i < n -> ¬ Q i -> E2 (F (i : Int)) false) :
  ∃ r, E2 (F 0) r /\ (r = true ↔ (∀ i, i < n -> Q i) /\ c = true) := by
 have key : ∀ d i, i + d = n -> ∃ r, E2 (F (i : Int)) r /\ (r = true ↔ (∀ j, i <= j -> j < n -> Q j) /\ c = true) := by
  intro d
  induction d with
  | zero =>
   intro i hi
   have hi : i = n := by omega
   subst hi
   exact ⟨c, hend, ⟨fun h => ⟨fun j _ _ => by omega, h⟩, fun h => h.2⟩⟩
  | succ d ih =>
   intro i hi
   obtain ⟨r, er, hr⟩ := ih (i + 1) (by omega)
   by_cases hq : Q i
   ·refine ⟨r, hgo i (by omega) hq r er, hr.trans ⟨fun h => ⟨fun j h1 h2 => ?_, h.2⟩, fun h => ⟨fun j h1 h2 => h.1 j (by omega) h2, h.2⟩⟩⟩
    by_cases hj : j = i
    ·subst hj; exact hq
    ·exact h.1 j (by omega) h2
   ·exact ⟨false, hstop i (by omega) hq, by simp only [Bool.false_eq_true, false_iff]; exact fun h => hq (h.1 i (Nat.le_refl _) (by omega))⟩
 obtain ⟨r, er, hr⟩ := key n 0 (by omega)
 exact ⟨r, er, hr.trans ⟨fun h => ⟨fun i hi => h.1 i (Nat.zero_le _) hi, h.2⟩, fun h => ⟨fun i _ hi => h.1 i hi, h.2⟩⟩⟩
theorem jL {i : Nat} (h : 0 < i) (h2 : i < 9223372036854775807) : IntKind.wrap .i64 ((i : Int) - 1) = ((i - 1 : Nat) : Int) := by
 rw [lS (by omega) (by omega)]; omega
def Wp (e : aF) : Prop := (0 <= (e.1 : Int) /\ (e.1 : Int) <= 2000) /\ (1 <= (e.2.1 : Int) /\ (e.2.1 : Int) <= 96) /\ (21 <= (e.2.2.1 : Int) /\ (e.2.2.1 : Int) <= 108) /\ 1 <= (e.2.2.2.1 : Int) /\ (e.2.2.2.1 : Int) <= 4
instance (e : aF) : Decidable (Wp e) := by unfold Wp; infer_instance
theorem RZ (e : aF) : Ev (fun k => Es k e) (decide (Wp e)) := by
 refine Ev.eq (fun k => Mr k e) (Ev.bind (bT _ _ _) ?_)
 unfold Wp
 by_cases c1 : 0 <= (e.1 : Int) /\ (e.1 : Int) <= 2000
 ·refine Ev.pos (by simp [c1]) (Ev.bind (bT _ _ _) ?_)
  by_cases c2 : 1 <= (e.2.1 : Int) /\ (e.2.1 : Int) <= 96
  ·refine Ev.pos (by simp [c2]) (Ev.bind (bT _ _ _) ?_)
   by_cases c3 : 21 <= (e.2.2.1 : Int) /\ (e.2.2.1 : Int) <= 108
   ·exact Ev.pos (by simp [c3]) (Ev.bind (bT _ _ _) (Ev.ret.val (by simp only [c1, c2, c3, true_and, and_self, decide_eq_true_eq])))
   ·exact Ev.neg (by simpa using c3) (Ev.ret.val (by simp only [c3, false_and, and_false, decide_false]))
  ·exact Ev.neg (by simpa using c2) (Ev.ret.val (by simp only [c2, false_and, and_false, decide_false]))
 ·exact Ev.neg (by simpa using c1) (Ev.ret.val (by simp only [c1, false_and, decide_false]))
def zR (a b : aF) : Prop := (a.1 : Int) < b.1 \/ (a.1 : Int) = b.1 /\ ((a.2.2.2.1 : Int) < b.2.2.2.1 \/ (a.2.2.2.1 : Int) = b.2.2.2.1 /\ (a.2.2.1 : Int) < b.2.2.1)
instance (a b : aF) : Decidable (zR a b) := by unfold zR; infer_instance
theorem AA (a b : aF) : Ev (fun k => sS k a b) (decide (zR a b)) := by
 refine Ev.eq (fun k => EH k a b) ?_
 unfold zR
 by_cases c1 : (a.1 : Int) = b.1
 ·refine Ev.neg (by omega) ?_
  by_cases c2 : (a.2.2.2.1 : Int) = b.2.2.2.1
  ·exact Ev.neg (by omega) (Ev.ret.val (by congr 1; exact propext ⟨fun h => .inr ⟨c1, .inr ⟨c2, h⟩⟩, fun h => by omega⟩))
  ·exact Ev.pos (by omega) (Ev.ret.val (by congr 1; exact propext ⟨fun h => .inr ⟨c1, .inl h⟩, fun h => by omega⟩))
 ·exact Ev.pos (by omega) (Ev.ret.val (by congr 1; exact propext ⟨fun h => .inl h, fun h => by omega⟩))
def Mj (x y : Int) : Int := if x ≠ 0 then x else y
theorem Rc (x y z : Int) : Ev (fun k => bX k [x, y, z]) (Mj x (Mj y z)) := by
 refine Ev.eq (fun k => sK k _) (Ev.loop (f := fun k m => bX.l0 k m 0 [x, y, z] ((List.length [x, y, z] : Nat) : Int) 0) ?_)
 have w0 : IntKind.wrap .i64 ((0 : Int) + 1) = 1 := lS (by omega) (by omega)
 have w1 : IntKind.wrap .i64 ((1 : Int) + 1) = 2 := lS (by omega) (by omega)
 have w2 : IntKind.wrap .i64 ((2 : Int) + 1) = 3 := lS (by omega) (by omega)
 have r0 : rd (.int .i64) [x, y, z] 0 = x := rfl
 have r1 : rd (.int .i64) [x, y, z] 1 = y := rfl
 have r2 : rd (.int .i64) [x, y, z] 2 = z := rfl
 have hl : ((List.length [x, y, z] : Nat) : Int) = 3 := rfl
 unfold Mj
 refine E2.eq (fun k m => bX.aA k m 0 [x, y, z] _ 0) (E2.pos (by rw [hl]; omega) (E2.pos (by omega) (E2.pos (by rw [hl]; omega) ?_)))
 simp only [r0, w0]
 by_cases c0 : x = 0
 ·refine E2.neg (fun h => h c0) ?_
  rw [if_neg (show ¬ x ≠ 0 by omega)]
  refine E2.eq (fun k m => bX.aA k m 0 [x, y, z] _ 1) (E2.pos (by rw [hl]; omega) (E2.pos (by omega) (E2.pos (by rw [hl]; omega) ?_)))
  simp only [r1, w1]
  by_cases c1 : y = 0
  ·refine E2.neg (fun h => h c1) ?_
   rw [if_neg (show ¬ y ≠ 0 by omega)]
   refine E2.eq (fun k m => bX.aA k m 0 [x, y, z] _ 2) (E2.pos (by rw [hl]; omega) (E2.pos (by omega) (E2.pos (by rw [hl]; omega) ?_)))
   simp only [r2, w2]
   by_cases c2 : z = 0
   ·exact E2.neg (fun h => h c2) (E2.eq (fun k m => bX.aA k m 0 [x, y, z] _ 3) (E2.neg (by rw [hl]; omega) (E2.ret.val c2.symm)))
   ·exact E2.pos c2 E2.ret
  ·rw [if_pos c1]; exact E2.pos c1 E2.ret
 ·rw [if_pos c0]; exact E2.pos c0 E2.ret
def Qd (a b : aF) : Int := Mj (yV a.1 b.1) (Mj (yV a.2.2.2.1 b.2.2.2.1) (yV a.2.2.1 b.2.2.1))
theorem xL (a b : aF) : Ev (fun k => iW k a b) (Qd a b) :=
 Ev.eq (fun k => pR k a b) (Ev.bind (ug _ _) (Ev.bind (ug _ _) (Ev.bind (ug _ _) (Ev.bind (Rc _ _ _) Ev.ret))))
theorem Ay (a b : aF) : Qd a b < 0 ↔ zR a b := by
 unfold Qd Mj yV zR
 repeat' split
 all_goals omega
def QS (l : List aF) (i : Nat) : Prop := Wp (rd bR l (i : Int)) /\ (0 < i -> zR (rd bR l ((i - 1 : Nat) : Int)) (rd bR l (i : Int)))
instance (l : List aF) (i : Nat) : Decidable (QS l i) := by unfold QS; infer_instance
def gD (l : List aF) : Prop := (∀ i, i < l.length -> QS l i) /\ decide (((l.length : Nat) : Int) <= 40) = true
instance (l : List aF) : Decidable (gD l) := by unfold gD; infer_instance
theorem Bp (l : List aF) (hl : l.length <= 33554432) : Ev (fun k => dO k l) (decide (gD l)) := by
 refine yj ?_
 obtain ⟨r, er, hr⟩ := vk (F := fun i k m => dO.l0 k m l i) (n := l.length) (QS l) (decide (((l.length : Nat) : Int) <= 40)) (E2.eq (fun k m => dO.aA k m l _) (E2.neg (by omega) E2.ret)) (fun i hi hq v e => by
  refine E2.eq (fun k m => dO.aA k m l _) (E2.pos (by omega) (E2.pos (by omega) (E2.pos (by omega) (E2.bind (RZ _) (E2.neg (by simpa using hq.1) ?_)))))
  by_cases c : 0 < i
  ·refine E2.pos (by omega) ?_
   simp only [jL c (show i < 9223372036854775807 by omega), cZ (show i < 9223372036854775807 by omega)]
   exact E2.pos (by omega) (E2.pos (by omega) (E2.pos (by omega) (E2.pos (by omega) (E2.bind (AA _ _) (E2.neg (by simpa using hq.2 c) e)))))
  ·refine E2.neg (by omega) ?_
   simp only [cZ (show i < 9223372036854775807 by omega)]
   exact e) (fun i hi hq => by
  refine E2.eq (fun k m => dO.aA k m l _) (E2.pos (by omega) (E2.pos (by omega) (E2.pos (by omega) (E2.bind (RZ _) ?_))))
  by_cases c0 : Wp (rd bR l (i : Int))
  ·refine E2.neg (by simpa using c0) ?_
   have c : 0 < i := by
    rcases Nat.eq_zero_or_pos i with h | h
    ·exact absurd ⟨c0, fun h' => by omega⟩ hq
    ·exact h
   have c1 : ¬ zR (rd bR l ((i - 1 : Nat) : Int)) (rd bR l (i : Int)) := fun h => hq ⟨c0, fun _ => h⟩
   refine E2.pos (by omega) ?_
   simp only [jL c (show i < 9223372036854775807 by omega)]
   exact E2.pos (by omega) (E2.pos (by omega) (E2.pos (by omega) (E2.pos (by omega) (E2.bind (AA _ _) (E2.pos (by simpa using c1) E2.ret)))))
  ·exact E2.pos (by simpa using c0) E2.ret)
 exact ⟨r, Ev.eq (fun k => FP k l) (Ev.loop (f := fun k m => dO.l0 k m l 0) er), hr⟩
theorem dB (l : List aF) (hl : l.length <= 1048576) : Ev (fun k => dO k l) (decide (gD l)) := Bp l (by omega)
theorem sM (l : List aF) (hl : l.length <= 33554432) : Ev (fun k => aP k l) (decide (gD l)) := by
 refine yj ?_
 obtain ⟨r, er, hr⟩ := vk (F := fun i k m => aP.l0 k m l l ((List.length l : Nat) : Int) i) (n := l.length) (QS l) (decide (((l.length : Nat) : Int) <= 40)) (E2.eq (fun k m => aP.aA k m l l _ _) (E2.neg (by omega) E2.ret)) (fun i hi hq v e => by
  obtain ⟨⟨h1, h2, h3, h4⟩, h5⟩ := hq
  refine E2.eq (fun k m => aP.aA k m l l _ _) (E2.pos (by omega) (E2.pos (by omega) (E2.pos (by omega) (E2.bind (aI _ _ _) (E2.neg (by simpa using h1) (E2.bind (aI _ _ _) (E2.neg (by simpa using h2) (E2.bind (aI _ _ _) (E2.neg (by simpa using h3) (E2.bind (aI _ _ _) (E2.neg (by simpa using h4) ?_)))))))))))
  by_cases c : 0 < i
  ·refine E2.pos (by omega) ?_
   simp only [jL c (show i < 9223372036854775807 by omega), cZ (show i < 9223372036854775807 by omega)]
   have := (Ay _ _).2 (h5 c)
   exact E2.pos (by omega) (E2.pos (by omega) (E2.bind (xL _ _) (E2.neg (by omega) e)))
  ·refine E2.neg (by omega) ?_
   simp only [cZ (show i < 9223372036854775807 by omega)]
   exact e) (fun i hi hq => by
  refine E2.eq (fun k m => aP.aA k m l l _ _) (E2.pos (by omega) (E2.pos (by omega) (E2.pos (by omega) (E2.bind (aI _ _ _) ?_))))
  by_cases h1 : 0 <= ((rd bR l (i : Int)).1 : Int) /\ ((rd bR l (i : Int)).1 : Int) <= 2000
  ·refine E2.neg (by simpa using h1) (E2.bind (aI _ _ _) ?_)
   by_cases h2 : 1 <= ((rd bR l (i : Int)).2.1 : Int) /\ ((rd bR l (i : Int)).2.1 : Int) <= 96
   ·refine E2.neg (by simpa using h2) (E2.bind (aI _ _ _) ?_)
    by_cases h3 : 21 <= ((rd bR l (i : Int)).2.2.1 : Int) /\ ((rd bR l (i : Int)).2.2.1 : Int) <= 108
    ·refine E2.neg (by simpa using h3) (E2.bind (aI _ _ _) ?_)
     by_cases h4 : 1 <= ((rd bR l (i : Int)).2.2.2.1 : Int) /\ ((rd bR l (i : Int)).2.2.2.1 : Int) <= 4
     ·refine E2.neg (by simpa using h4) ?_
      have c : 0 < i := by
       rcases Nat.eq_zero_or_pos i with h | h
       ·exact absurd ⟨⟨h1, h2, h3, h4⟩, fun h' => by omega⟩ hq
       ·exact h
      have c1 : ¬ zR (rd bR l ((i - 1 : Nat) : Int)) (rd bR l (i : Int)) := fun h => hq ⟨⟨h1, h2, h3, h4⟩, fun _ => h⟩
      refine E2.pos (by omega) ?_
      simp only [jL c (show i < 9223372036854775807 by omega)]
      have := mt (Ay _ _).1 c1
      exact E2.pos (by omega) (E2.pos (by omega) (E2.bind (xL _ _) (E2.pos (by omega) E2.ret)))
     ·exact E2.pos (by simpa using h4) E2.ret
    ·exact E2.pos (by simpa using h3) E2.ret
   ·exact E2.pos (by simpa using h2) E2.ret
  ·exact E2.pos (by simpa using h1) E2.ret)
 exact ⟨r, Ev.eq (fun k => tZ k l) (Ev.loop (f := fun k m => aP.l0 k m l l ((List.length l : Nat) : Int) 0) er), hr⟩
theorem dN (l : List aF) (hl : l.length <= 1048576) : Ev (fun k => aP k l) (decide (gD l)) := sM l (by omega)
def okT (t : bE) : Prop := (20 <= (t.2.1 : Int) /\ (t.2.1 : Int) <= 300) /\ (0 <= (t.1 : Int) /\ (t.1 : Int) <= 2000)
instance (e : bE) : Decidable (okT e) := by unfold okT; infer_instance
def QT (l : List bE) (i : Nat) : Prop := okT (rd dn l (i : Int)) /\ (i = 0 -> Eq (α := Int) (rd dn l (i : Int)).1 0) /\ (0 < i -> LT.lt (α := Int) (rd dn l ((i - 1 : Nat) : Int)).1 (rd dn l (i : Int)).1)
instance (l : List bE) (i : Nat) : Decidable (QT l i) := by unfold QT; infer_instance
def yH (l : List bE) : Prop := (∀ i, i < l.length -> QT l i) /\ decide (1 <= ((l.length : Nat) : Int) /\ ((l.length : Nat) : Int) <= 8) = true
instance (l : List bE) : Decidable (yH l) := by unfold yH; infer_instance
theorem gU (l : List bE) (hl : l.length <= 2097152) : Ev (fun k => fF k l) (decide (yH l)) := by
 refine yj ?_
 obtain ⟨r, er, hr⟩ := vk (F := fun i k m => fF.l0 k m l i) (n := l.length) (QT l) (decide (1 <= ((l.length : Nat) : Int) /\ ((l.length : Nat) : Int) <= 8)) (E2.eq (fun k m => fF.aA k m l _) (E2.neg (by omega) (E2.bind (bT _ _ _) (E2.ret.val (by simp))))) (fun i hi hq v e => by
  obtain ⟨⟨h1, h2⟩, h3, h4⟩ := hq
  refine E2.eq (fun k m => fF.aA k m l _) (E2.pos (by omega) (E2.pos (by omega) (E2.pos (by omega) (E2.bind (bT _ _ _) (E2.neg (by simpa using h1) (E2.pos (by omega) (E2.pos (by omega) (E2.bind (bT _ _ _) (E2.neg (by simpa using h2) ?_)))))))))
  simp only [cZ (show i < 9223372036854775807 by omega)]
  by_cases c : 0 < i
  ·refine E2.neg (by omega) (E2.pos (by omega) ?_)
   simp only [jL c (show i < 9223372036854775807 by omega)]
   have := h4 c
   exact E2.pos (by omega) (E2.pos (by omega) (E2.pos (by omega) (E2.pos (by omega) (E2.neg (by omega) e))))
  ·refine E2.pos (by omega) (E2.pos (by omega) (E2.pos (by omega) (E2.neg (fun h => h (h3 (by omega))) (E2.neg (by omega) e))))) (fun i hi hq => by
  refine E2.eq (fun k m => fF.aA k m l _) (E2.pos (by omega) (E2.pos (by omega) (E2.pos (by omega) (E2.bind (bT _ _ _) ?_))))
  by_cases h1 : LE.le (α := Int) 20 (rd dn l (i : Int)).2.1 /\ LE.le (α := Int) (rd dn l (i : Int)).2.1 300
  ·refine E2.neg (by simpa using h1) (E2.pos (by omega) (E2.pos (by omega) (E2.bind (bT _ _ _) ?_)))
   by_cases h2 : LE.le (α := Int) 0 (rd dn l (i : Int)).1 /\ LE.le (α := Int) (rd dn l (i : Int)).1 2000
   ·refine E2.neg (by simpa using h2) ?_
    by_cases c : 0 < i
    ·refine E2.neg (by omega) (E2.pos (by omega) ?_)
     simp only [jL c (show i < 9223372036854775807 by omega)]
     have h4 : ¬ LT.lt (α := Int) (rd dn l ((i - 1 : Nat) : Int)).1 (rd dn l (i : Int)).1 := fun h => hq ⟨⟨h1, h2⟩, fun h' => by omega, fun _ => h⟩
     exact E2.pos (by omega) (E2.pos (by omega) (E2.pos (by omega) (E2.pos (by omega) (E2.pos (by omega) E2.ret))))
    ·have h3 : ¬ Eq (α := Int) (rd dn l (i : Int)).1 0 := fun h => hq ⟨⟨h1, h2⟩, fun _ => h, fun h' => absurd h' c⟩
     exact E2.pos (by omega) (E2.pos (by omega) (E2.pos (by omega) (E2.pos h3 E2.ret)))
   ·exact E2.pos (by simpa using h2) E2.ret
  ·exact E2.pos (by simpa using h1) E2.ret)
 exact ⟨r, Ev.eq (fun k => FR k l) (Ev.loop (f := fun k m => fF.l0 k m l 0) er), hr⟩
def QT' (l : List bE) (i : Nat) : Prop := (i = 0 -> Eq (α := Int) (rd dn l (i : Int)).1 0) /\ (0 < i -> LT.lt (α := Int) (rd dn l ((i - 1 : Nat) : Int)).1 (rd dn l (i : Int)).1) /\ LE.le (α := Int) (rd dn l (i : Int)).1 2000 /\ (LE.le (α := Int) 20 (rd dn l (i : Int)).2.1 /\ LE.le (α := Int) (rd dn l (i : Int)).2.1 300)
theorem Zq (l : List bE) : (∀ i, i < l.length -> QT' l i) ↔ (∀ i, i < l.length -> QT l i) := by
 constructor
 ·intro h
  have hp : ∀ i, i < l.length -> LE.le (α := Int) 0 (rd dn l (i : Int)).1 := by
   intro i
   induction i with
   | zero => intro hi; have := (h 0 hi).1 rfl; omega
   | succ i ih =>
    intro hi
    have h1 := ih (by omega)
    have h2 := (h (i + 1) hi).2.1 (by omega)
    simp only [Nat.add_sub_cancel] at h2
    omega
  intro i hi
  obtain ⟨h1, h2, h3, h4⟩ := h i hi
  exact ⟨⟨h4, hp i hi, h3⟩, h1, h2⟩
 ·intro h i hi
  obtain ⟨⟨h1, h2, h3⟩, h4, h5⟩ := h i hi
  exact ⟨h4, h5, h3, h1⟩
theorem jW (l : List bE) (hl : l.length <= 2097152) : Ev (fun k => eG k l) (decide (yH l)) := by
 refine yj ?_
 obtain ⟨r, er, hr⟩ := vk (F := fun i k m => eG.l0 k m l l ((List.length l : Nat) : Int) i) (n := l.length) (QT' l) (decide (1 <= ((l.length : Nat) : Int) /\ ((l.length : Nat) : Int) <= 8)) (E2.eq (fun k m => eG.aA k m l l _ _) (E2.neg (by omega) (E2.bind (aI _ _ _) (E2.ret.val (by simp))))) (fun i hi hq v e => by
  obtain ⟨h3, h4, h5, h6⟩ := hq
  refine E2.eq (fun k m => eG.aA k m l l _ _) (E2.pos (by omega) (E2.pos (by omega) (E2.pos (by omega) ?_)))
  simp only [cZ (show i < 9223372036854775807 by omega)]
  by_cases c : 0 < i
  ·refine E2.neg (by omega) (E2.pos (by omega) ?_)
   simp only [jL c (show i < 9223372036854775807 by omega)]
   have := h4 c
   exact E2.pos (by omega) (E2.pos (by omega) (E2.neg (by omega) (E2.neg (by omega) (E2.bind (aI _ _ _) (E2.neg (by simpa using h6) e)))))
  ·exact E2.pos (by omega) (E2.neg (fun h => h (h3 (by omega))) (E2.neg (by omega) (E2.neg (by omega) (E2.bind (aI _ _ _) (E2.neg (by simpa using h6) e)))))) (fun i hi hq => by
  refine E2.eq (fun k m => eG.aA k m l l _ _) (E2.pos (by omega) (E2.pos (by omega) (E2.pos (by omega) ?_)))
  by_cases c : 0 < i
  ·refine E2.neg (by omega) (E2.pos (by omega) ?_)
   simp only [jL c (show i < 9223372036854775807 by omega)]
   refine E2.pos (by omega) (E2.pos (by omega) ?_)
   by_cases h4 : LT.lt (α := Int) (rd dn l ((i - 1 : Nat) : Int)).1 (rd dn l (i : Int)).1
   ·refine E2.neg (by omega) ?_
    by_cases h5 : LE.le (α := Int) (rd dn l (i : Int)).1 2000
    ·exact E2.neg (by omega) (E2.bind (aI _ _ _) (E2.pos (by simp only [decide_eq_true_eq]; exact fun h6 => hq ⟨fun h => by omega, fun _ => h4, h5, h6⟩) E2.ret))
    ·exact E2.pos (by omega) E2.ret
   ·exact E2.pos (by omega) E2.ret
  ·refine E2.pos (by omega) ?_
   by_cases h3 : Eq (α := Int) (rd dn l (i : Int)).1 0
   ·refine E2.neg (fun h => h h3) (E2.neg (by omega) (E2.neg (by omega) (E2.bind (aI _ _ _) (E2.pos (by simp only [decide_eq_true_eq]; exact fun h6 => hq ⟨fun _ => h3, fun h => absurd h c, by omega, h6⟩) E2.ret))))
   ·exact E2.pos h3 E2.ret)
 exact ⟨r, Ev.eq (fun k => FE k l) (Ev.loop (f := fun k m => eG.l0 k m l l ((List.length l : Nat) : Int) 0) er), hr.trans (and_congr (Zq l) Iff.rfl)⟩
theorem Ms (m : bE) : ∃ r, Ev (fun k => uQ k m) r /\ Ev (fun k => yA k m) r := by
 by_cases c1 : 1 <= (m.1 : Int) /\ (m.1 : Int) <= 12
 ·by_cases d1 : (m.2.1 : Int) = 1
  ·exact ⟨true, Ev.eq (fun k => gT k m) (Ev.bind (bT _ _ _) (Ev.pos (by simpa using c1) (Ev.pos d1 Ev.ret))), Ev.eq (fun k => mI k m) (Ev.bind (aI _ _ _) (Ev.pos (by simpa using c1) (Ev.pos d1 Ev.ret)))⟩
  ·by_cases d2 : (m.2.1 : Int) = 2
   ·exact ⟨true, Ev.eq (fun k => gT k m) (Ev.bind (bT _ _ _) (Ev.pos (by simpa using c1) (Ev.neg d1 (Ev.pos d2 Ev.ret)))), Ev.eq (fun k => mI k m) (Ev.bind (aI _ _ _) (Ev.pos (by simpa using c1) (Ev.neg d1 (Ev.pos d2 Ev.ret))))⟩
   ·by_cases d3 : (m.2.1 : Int) = 4
    ·exact ⟨true, Ev.eq (fun k => gT k m) (Ev.bind (bT _ _ _) (Ev.pos (by simpa using c1) (Ev.neg d1 (Ev.neg d2 (Ev.pos d3 Ev.ret))))), Ev.eq (fun k => mI k m) (Ev.bind (aI _ _ _) (Ev.pos (by simpa using c1) (Ev.neg d1 (Ev.neg d2 (Ev.pos d3 Ev.ret)))))⟩
    ·exact ⟨_, Ev.eq (fun k => gT k m) (Ev.bind (bT _ _ _) (Ev.pos (by simpa using c1) (Ev.neg d1 (Ev.neg d2 (Ev.neg d3 Ev.ret))))), Ev.eq (fun k => mI k m) (Ev.bind (aI _ _ _) (Ev.pos (by simpa using c1) (Ev.neg d1 (Ev.neg d2 (Ev.neg d3 Ev.ret)))))⟩
 ·exact ⟨false, Ev.eq (fun k => gT k m) (Ev.bind (bT _ _ _) (Ev.neg (by simpa using c1) Ev.ret)), Ev.eq (fun k => mI k m) (Ev.bind (aI _ _ _) (Ev.neg (by simpa using c1) Ev.ret))⟩
def uW (a b : aU) : Prop := (a.1 : Int) < b.1 \/ (a.1 : Int) = b.1 /\ (a.2.1 : Int) < b.2.1
instance (a b : aU) : Decidable (uW a b) := by unfold uW; infer_instance
theorem yI (a b : aU) : Ev (fun k => qW k a b) (decide (uW a b)) := by
 refine Ev.eq (fun k => Dv k a b) ?_
 unfold uW
 by_cases c1 : (a.1 : Int) < b.1
 ·exact Ev.pos c1 (Ev.ret.val (by simp [c1]))
 ·refine Ev.neg c1 ?_
  by_cases c2 : (a.1 : Int) = b.1
  ·exact Ev.pos c2 (Ev.ret.val (by congr 1; exact propext ⟨fun h => .inr ⟨c2, h⟩, fun h => by omega⟩))
  ·exact Ev.neg c2 (Ev.ret.val (by simp [c1, c2]))
theorem Zr (x y : Int) : Ev (fun k => bX k [x, y]) (Mj x y) := by
 refine Ev.eq (fun k => sK k _) (Ev.loop (f := fun k m => bX.l0 k m 0 [x, y] ((List.length [x, y] : Nat) : Int) 0) ?_)
 have w0 : IntKind.wrap .i64 ((0 : Int) + 1) = 1 := lS (by omega) (by omega)
 have w1 : IntKind.wrap .i64 ((1 : Int) + 1) = 2 := lS (by omega) (by omega)
 have r0 : rd (.int .i64) [x, y] 0 = x := rfl
 have r1 : rd (.int .i64) [x, y] 1 = y := rfl
 have hl : ((List.length [x, y] : Nat) : Int) = 2 := rfl
 unfold Mj
 refine E2.eq (fun k m => bX.aA k m 0 [x, y] _ 0) (E2.pos (by rw [hl]; omega) (E2.pos (by omega) (E2.pos (by rw [hl]; omega) ?_)))
 simp only [r0, w0]
 by_cases c0 : x = 0
 ·refine E2.neg (fun h => h c0) ?_
  rw [if_neg (show ¬ x ≠ 0 by omega)]
  refine E2.eq (fun k m => bX.aA k m 0 [x, y] _ 1) (E2.pos (by rw [hl]; omega) (E2.pos (by omega) (E2.pos (by rw [hl]; omega) ?_)))
  simp only [r1, w1]
  by_cases c1 : y = 0
  ·exact E2.neg (fun h => h c1) (E2.eq (fun k m => bX.aA k m 0 [x, y] _ 2) (E2.neg (by rw [hl]; omega) (E2.ret.val c1.symm)))
  ·exact E2.pos c1 E2.ret
 ·rw [if_pos c0]; exact E2.pos c0 E2.ret
def VD (a b : aU) : Int := Mj (yV a.1 b.1) (yV a.2.1 b.2.1)
theorem AB (a b : aU) : Ev (fun k => nM k a b) (VD a b) :=
 Ev.eq (fun k => Dm k a b) (Ev.bind (ug _ _) (Ev.bind (ug _ _) (Ev.bind (Zr _ _) Ev.ret)))
theorem Gv (a b : aU) : VD a b < 0 ↔ uW a b := by
 unfold VD Mj yV uW
 repeat' split
 all_goals omega
def okM (e : aU) : Prop := (1 <= (e.1 : Int) /\ (e.1 : Int) <= 100) /\ (1 <= (e.2.1 : Int) /\ (e.2.1 : Int) <= 4) /\ (0 <= (e.2.2.1 : Int) /\ (e.2.2.1 : Int) <= 9) /\ (0 <= (e.2.2.2.1 : Int) /\ (e.2.2.2.1 : Int) <= 100000) /\ (1 <= (e.2.2.2.2.1 : Int) /\ (e.2.2.2.2.1 : Int) <= 99)
def QM (l : List aU) (i : Nat) : Prop := okM (rd dY l (i : Int)) /\ (0 < i -> uW (rd dY l ((i - 1 : Nat) : Int)) (rd dY l (i : Int)))
def Mt (l : List aU) : Prop := (∀ i, i < l.length -> QM l i) /\ decide (((l.length : Nat) : Int) <= 30) = true
theorem notM (l : List aU) (i : Nat) (h : ¬ QM l i) (h1 : okM (rd dY l (i : Int))) : 0 < i /\ ¬ uW (rd dY l ((i - 1 : Nat) : Int)) (rd dY l (i : Int)) := by
 refine ⟨?_, fun c => h ⟨h1, fun _ => c⟩⟩
 rcases Nat.eq_zero_or_pos i with hi | hi
 ·exact absurd ⟨h1, fun h' => by omega⟩ h
 ·exact hi
theorem wZ (l : List aU) (hl : l.length <= 2097152) : ∃ r, Ev (fun k => dX k l) r /\ (r = true ↔ Mt l) := by
 obtain ⟨r, er, hr⟩ := gF (R := fun i v => E2 (fun k m => dX.l0 k m l i) v) (n := l.length) (QM l) (decide (((l.length : Nat) : Int) <= 30)) (E2.eq (fun k m => dX.aA k m l _) (E2.neg (by omega) E2.ret)) (fun i hi hq v e => by
  obtain ⟨⟨h1, h2, h3, h4, h5⟩, h6⟩ := hq
  refine E2.eq (fun k m => dX.aA k m l _) (E2.pos (by omega) (E2.pos (by omega) (E2.pos (by omega) (E2.bind (bT _ _ _) (E2.neg (by simpa using h1) (E2.bind (bT _ _ _) (E2.neg (by simpa using h2) (E2.bind (bT _ _ _) (E2.neg (by simpa using h3) (E2.bind (bT _ _ _) (E2.neg (by simpa using h4) (E2.bind (bT _ _ _) (E2.neg (by simpa using h5) ?_)))))))))))))
  simp only [cZ (show i < 9223372036854775807 by omega)]
  by_cases c : 0 < i
  ·refine E2.pos (by omega) ?_
   simp only [jL c (show i < 9223372036854775807 by omega)]
   exact E2.pos (by omega) (E2.pos (by omega) (E2.bind (yI _ _) (E2.neg (by simpa using h6 c) e)))
  ·exact E2.neg (by omega) e) (fun i hi hq => by
  refine E2.eq (fun k m => dX.aA k m l _) (E2.pos (by omega) (E2.pos (by omega) (E2.pos (by omega) (E2.bind (bT _ _ _) ?_))))
  by_cases h1 : 1 <= ((rd dY l (i : Int)).1 : Int) /\ ((rd dY l (i : Int)).1 : Int) <= 100
  ·refine E2.neg (by simpa using h1) (E2.bind (bT _ _ _) ?_)
   by_cases h2 : 1 <= ((rd dY l (i : Int)).2.1 : Int) /\ ((rd dY l (i : Int)).2.1 : Int) <= 4
   ·refine E2.neg (by simpa using h2) (E2.bind (bT _ _ _) ?_)
    by_cases h3 : 0 <= ((rd dY l (i : Int)).2.2.1 : Int) /\ ((rd dY l (i : Int)).2.2.1 : Int) <= 9
    ·refine E2.neg (by simpa using h3) (E2.bind (bT _ _ _) ?_)
     by_cases h4 : 0 <= ((rd dY l (i : Int)).2.2.2.1 : Int) /\ ((rd dY l (i : Int)).2.2.2.1 : Int) <= 100000
     ·refine E2.neg (by simpa using h4) (E2.bind (bT _ _ _) ?_)
      by_cases h5 : 1 <= ((rd dY l (i : Int)).2.2.2.2.1 : Int) /\ ((rd dY l (i : Int)).2.2.2.2.1 : Int) <= 99
      ·obtain ⟨c, c1⟩ := notM l i hq ⟨h1, h2, h3, h4, h5⟩
       refine E2.neg (by simpa using h5) (E2.pos (by omega) ?_)
       simp only [jL c (show i < 9223372036854775807 by omega)]
       exact E2.pos (by omega) (E2.pos (by omega) (E2.bind (yI _ _) (E2.pos (by simpa using c1) E2.ret)))
      ·exact E2.pos (by simpa using h5) E2.ret
     ·exact E2.pos (by simpa using h4) E2.ret
    ·exact E2.pos (by simpa using h3) E2.ret
   ·exact E2.pos (by simpa using h2) E2.ret
  ·exact E2.pos (by simpa using h1) E2.ret)
 exact ⟨r, Ev.eq (fun k => EG k l) (Ev.loop (f := fun k m => dX.l0 k m l 0) er), hr⟩
theorem uX (l : List aU) (hl : l.length <= 1048576) : ∃ r, Ev (fun k => dX k l) r /\ (r = true ↔ Mt l) := wZ l (by omega)
theorem Bq (l : List aU) (hl : l.length <= 2097152) : ∃ r, Ev (fun k => dW k l) r /\ (r = true ↔ Mt l) := by
 obtain ⟨r, er, hr⟩ := gF (R := fun i v => E2 (fun k m => dW.l0 k m l l ((List.length l : Nat) : Int) i) v) (n := l.length) (QM l) (decide (((l.length : Nat) : Int) <= 30)) (E2.eq (fun k m => dW.aA k m l l _ _) (E2.neg (by omega) E2.ret)) (fun i hi hq v e => by
  obtain ⟨⟨h1, h2, h3, h4, h5⟩, h6⟩ := hq
  refine E2.eq (fun k m => dW.aA k m l l _ _) (E2.pos (by omega) (E2.pos (by omega) (E2.pos (by omega) (E2.bind (aI _ _ _) (E2.neg (by simpa using h1) (E2.bind (aI _ _ _) (E2.neg (by simpa using h2) (E2.bind (aI _ _ _) (E2.neg (by simpa using h3) (E2.bind (aI _ _ _) (E2.neg (by simpa using h4) (E2.bind (aI _ _ _) (E2.neg (by simpa using h5) ?_)))))))))))))
  simp only [cZ (show i < 9223372036854775807 by omega)]
  by_cases c : 0 < i
  ·refine E2.pos (by omega) ?_
   simp only [jL c (show i < 9223372036854775807 by omega)]
   have := (Gv _ _).2 (h6 c)
   exact E2.pos (by omega) (E2.pos (by omega) (E2.bind (AB _ _) (E2.neg (by omega) e)))
  ·exact E2.neg (by omega) e) (fun i hi hq => by
  refine E2.eq (fun k m => dW.aA k m l l _ _) (E2.pos (by omega) (E2.pos (by omega) (E2.pos (by omega) (E2.bind (aI _ _ _) ?_))))
  by_cases h1 : 1 <= ((rd dY l (i : Int)).1 : Int) /\ ((rd dY l (i : Int)).1 : Int) <= 100
  ·refine E2.neg (by simpa using h1) (E2.bind (aI _ _ _) ?_)
   by_cases h2 : 1 <= ((rd dY l (i : Int)).2.1 : Int) /\ ((rd dY l (i : Int)).2.1 : Int) <= 4
   ·refine E2.neg (by simpa using h2) (E2.bind (aI _ _ _) ?_)
    by_cases h3 : 0 <= ((rd dY l (i : Int)).2.2.1 : Int) /\ ((rd dY l (i : Int)).2.2.1 : Int) <= 9
    ·refine E2.neg (by simpa using h3) (E2.bind (aI _ _ _) ?_)
     by_cases h4 : 0 <= ((rd dY l (i : Int)).2.2.2.1 : Int) /\ ((rd dY l (i : Int)).2.2.2.1 : Int) <= 100000
     ·refine E2.neg (by simpa using h4) (E2.bind (aI _ _ _) ?_)
      by_cases h5 : 1 <= ((rd dY l (i : Int)).2.2.2.2.1 : Int) /\ ((rd dY l (i : Int)).2.2.2.2.1 : Int) <= 99
      ·obtain ⟨c, c1⟩ := notM l i hq ⟨h1, h2, h3, h4, h5⟩
       refine E2.neg (by simpa using h5) (E2.pos (by omega) ?_)
       simp only [jL c (show i < 9223372036854775807 by omega)]
       have := mt (Gv _ _).1 c1
       exact E2.pos (by omega) (E2.pos (by omega) (E2.bind (AB _ _) (E2.pos (by omega) E2.ret)))
      ·exact E2.pos (by simpa using h5) E2.ret
     ·exact E2.pos (by simpa using h4) E2.ret
    ·exact E2.pos (by simpa using h3) E2.ret
   ·exact E2.pos (by simpa using h2) E2.ret
  ·exact E2.pos (by simpa using h1) E2.ret)
 exact ⟨r, Ev.eq (fun k => EB k l) (Ev.loop (f := fun k m => dW.l0 k m l l ((List.length l : Nat) : Int) 0) er), hr⟩
theorem Dx (l : List aU) (hl : l.length <= 1048576) : ∃ r, Ev (fun k => dW k l) r /\ (r = true ↔ Mt l) := Bq l (by omega)
def QL (l : List bE) (i : Nat) : Prop := Eq (α := Int) (rd dn l (i : Int)).1 (i : Int) /\ (LE.le (α := Int) 1 (rd dn l (i : Int)).2.1 /\ LE.le (α := Int) (rd dn l (i : Int)).2.1 500) /\ (0 < i -> LT.lt (α := Int) (rd dn l ((i - 1 : Nat) : Int)).2.1 (rd dn l (i : Int)).2.1)
def Ow (l : List bE) : Prop := (∀ i, i < l.length -> QL l i) /\ decide (((l.length : Nat) : Int) <= 26) = true
theorem Ag (l : List bE) (hl : l.length <= 1048576) : ∃ r, Ev (fun k => eB k l) r /\ (r = true ↔ Ow l) := by
 obtain ⟨r, er, hr⟩ := gF (R := fun i v => E2 (fun k m => eB.l0 k m l i) v) (n := l.length) (QL l) (decide (((l.length : Nat) : Int) <= 26)) (E2.eq (fun k m => eB.aA k m l _) (E2.neg (by omega) E2.ret)) (fun i hi hq v e => by
  obtain ⟨h1, h2, h3⟩ := hq
  refine E2.eq (fun k m => eB.aA k m l _) (E2.pos (by omega) (E2.pos (by omega) (E2.pos (by omega) (E2.neg (fun c => c h1) (E2.pos (by omega) (E2.pos (by omega) (E2.bind (bT _ _ _) (E2.neg (by simpa using h2) ?_))))))))
  simp only [cZ (show i < 9223372036854775807 by omega)]
  by_cases c : 0 < i
  ·refine E2.pos (by omega) ?_
   simp only [jL c (show i < 9223372036854775807 by omega)]
   have := h3 c
   exact E2.pos (by omega) (E2.pos (by omega) (E2.pos (by omega) (E2.pos (by omega) (E2.neg (by omega) e))))
  ·exact E2.neg (by omega) e) (fun i hi hq => by
  refine E2.eq (fun k m => eB.aA k m l _) (E2.pos (by omega) (E2.pos (by omega) (E2.pos (by omega) ?_)))
  by_cases h1 : Eq (α := Int) (rd dn l (i : Int)).1 (i : Int)
  ·refine E2.neg (fun c => c h1) (E2.pos (by omega) (E2.pos (by omega) (E2.bind (bT _ _ _) ?_)))
   by_cases h2 : LE.le (α := Int) 1 (rd dn l (i : Int)).2.1 /\ LE.le (α := Int) (rd dn l (i : Int)).2.1 500
   ·have c : 0 < i := by
     rcases Nat.eq_zero_or_pos i with h | h
     ·exact absurd ⟨h1, h2, fun h' => by omega⟩ hq
     ·exact h
    have h3 : ¬ LT.lt (α := Int) (rd dn l ((i - 1 : Nat) : Int)).2.1 (rd dn l (i : Int)).2.1 := fun h => hq ⟨h1, h2, fun _ => h⟩
    refine E2.neg (by simpa using h2) (E2.pos (by omega) ?_)
    simp only [jL c (show i < 9223372036854775807 by omega)]
    exact E2.pos (by omega) (E2.pos (by omega) (E2.pos (by omega) (E2.pos (by omega) (E2.pos (by omega) E2.ret))))
   ·exact E2.pos (by simpa using h2) E2.ret
  ·exact E2.pos h1 E2.ret)
 exact ⟨r, Ev.eq (fun k => Ci k l) (Ev.loop (f := fun k m => eB.l0 k m l 0) er), hr⟩
theorem Je (l : List bE) (hl : l.length <= 1048576) : ∃ r, Ev (fun k => dZ k l) r /\ (r = true ↔ Ow l) := by
 obtain ⟨r, er, hr⟩ := gF (R := fun i v => E2 (fun k m => dZ.l0 k m l l ((List.length l : Nat) : Int) i) v) (n := l.length) (QL l) (decide (((l.length : Nat) : Int) <= 26)) (E2.eq (fun k m => dZ.aA k m l l _ _) (E2.neg (by omega) E2.ret)) (fun i hi hq v e => by
  obtain ⟨h1, h2, h3⟩ := hq
  refine E2.eq (fun k m => dZ.aA k m l l _ _) (E2.pos (by omega) (E2.pos (by omega) (E2.pos (by omega) (E2.neg (fun c => c h1) (E2.bind (aI _ _ _) (E2.neg (by simpa using h2) ?_))))))
  simp only [cZ (show i < 9223372036854775807 by omega)]
  by_cases c : 0 < i
  ·refine E2.pos (by omega) ?_
   simp only [jL c (show i < 9223372036854775807 by omega)]
   have := h3 c
   exact E2.pos (by omega) (E2.pos (by omega) (E2.neg (by omega) e))
  ·exact E2.neg (by omega) e) (fun i hi hq => by
  refine E2.eq (fun k m => dZ.aA k m l l _ _) (E2.pos (by omega) (E2.pos (by omega) (E2.pos (by omega) ?_)))
  by_cases h1 : Eq (α := Int) (rd dn l (i : Int)).1 (i : Int)
  ·refine E2.neg (fun c => c h1) (E2.bind (aI _ _ _) ?_)
   by_cases h2 : LE.le (α := Int) 1 (rd dn l (i : Int)).2.1 /\ LE.le (α := Int) (rd dn l (i : Int)).2.1 500
   ·have c : 0 < i := by
     rcases Nat.eq_zero_or_pos i with h | h
     ·exact absurd ⟨h1, h2, fun h' => by omega⟩ hq
     ·exact h
    have h3 : ¬ LT.lt (α := Int) (rd dn l ((i - 1 : Nat) : Int)).2.1 (rd dn l (i : Int)).2.1 := fun h => hq ⟨h1, h2, fun _ => h⟩
    refine E2.neg (by simpa using h2) (E2.pos (by omega) ?_)
    simp only [jL c (show i < 9223372036854775807 by omega)]
    exact E2.pos (by omega) (E2.pos (by omega) (E2.pos (by omega) E2.ret))
   ·exact E2.pos (by simpa using h2) E2.ret
  ·exact E2.pos h1 E2.ret)
 exact ⟨r, Ev.eq (fun k => Cb k l) (Ev.loop (f := fun k m => dZ.l0 k m l l ((List.length l : Nat) : Int) 0) er), hr⟩
theorem Ck (l : List Int) (x : Int) (hl : l.length <= 1048576) : Ev (fun k => gP k l x) (decide (x ∈ l)) := by
 refine yj ?_
 obtain ⟨r, er, hr⟩ := Ej (R := fun i v => E2 (fun k m => gP.l0 k m l x i) v) (n := l.length) (fun i => Eq (α := Int) (rd (.int .i64) l (i : Int)) x) (E2.eq (fun k m => gP.aA k m l x _) (E2.neg (by omega) E2.ret)) (fun i hi hq v e => by
  refine E2.eq (fun k m => gP.aA k m l x _) (E2.pos (by omega) (E2.pos (by omega) (E2.pos (by omega) (E2.neg hq ?_))))
  simp only [cZ (show i < 9223372036854775807 by omega)]; exact e) (fun i hi hq => E2.eq (fun k m => gP.aA k m l x _) (E2.pos (by omega) (E2.pos (by omega) (E2.pos (by omega) (E2.pos hq E2.ret)))))
 refine ⟨r, Ev.eq (fun k => Jd k l x) (Ev.loop (f := fun k m => gP.l0 k m l x 0) er), hr.trans ⟨fun ⟨i, hi, h⟩ => ?_, fun h => ?_⟩⟩
 ·rw [<- h, fT hi]; exact List.getElem_mem hi
 ·obtain ⟨i, hi, h⟩ := List.mem_iff_getElem.1 h
  exact ⟨i, hi, by rw [fT hi]; exact h⟩
theorem IJ (l : List Int) (x : Int) (hl : l.length <= 1048576) : Ev (fun k => aC k l x) (wS (fun i => decide (Eq (α := Int) x (rd (.int .i64) l (i : Int)))) l.length) := by
 have er := tJ (R := fun i v => E2 (fun k m => aC.l0 k m l x ((List.length l : Nat) : Int) i) v) (n := l.length) (fun i => decide (Eq (α := Int) x (rd (.int .i64) l (i : Int)))) (E2.eq (fun k m => aC.aA k m l x _ _) (E2.neg (by omega) E2.ret)) (fun i hi hq v e => by
  refine E2.eq (fun k m => aC.aA k m l x _ _) (E2.pos (by omega) (E2.pos (by omega) (E2.pos (by omega) (E2.neg (by simpa using hq) ?_))))
  simp only [cZ (show i < 9223372036854775807 by omega)]; exact e) (fun i hi hq => E2.eq (fun k m => aC.aA k m l x _ _) (E2.pos (by omega) (E2.pos (by omega) (E2.pos (by omega) (E2.pos (by simpa using hq) E2.ret)))))
 exact Ev.eq (fun k => jf k l x) (Ev.loop (f := fun k m => aC.l0 k m l x ((List.length l : Nat) : Int) 0) er)
theorem jw (l : List Int) (x : Int) (hl : l.length <= 1048576) : Ev (fun k => dw k l x) (decide (x ∈ l)) := by
 refine Ev.eq (fun k => jE k l x) (Ev.bind (IJ l x hl) (Ev.ret.val ?_))
 rw [Bool.eq_iff_iff, decide_eq_true_eq, decide_eq_true_eq, wT]
 constructor
 ·rintro ⟨i, hi, h⟩
  have h : x = rd (.int .i64) l (i : Int) := by simpa using h
  rw [h, fT hi]; exact List.getElem_mem hi
 ·intro h
  obtain ⟨i, hi, h⟩ := List.mem_iff_getElem.1 h
  exact ⟨i, hi, by rw [decide_eq_true_eq, fT hi]; exact h.symm⟩
def gZ (v : Int) (e : aF) : Bool := decide ((e.2.2.2.1 : Int) = v)
theorem Mv (l : List aF) (v : Int) (hl : l.length <= 1048576) : Ev (fun k => gB k l v) (l.filter (gZ v)) := by
 have er := Mi (t := bR) (l := l) (R := fun i s r => E2 (fun k m => gB.l0 k m l v i s) r) (gZ v) (fun s => E2.eq (fun k m => gB.aA k m l v _ s) (E2.neg (by omega) E2.ret)) (fun i s hi hs hq r e => by
  refine E2.eq (fun k m => gB.aA k m l v _ s) (E2.pos (by omega) (E2.pos (by omega) (E2.pos (by omega) (E2.pos (of_decide_eq_true hq) (E2.pos (by omega) (E2.pos (by omega) (E2.pos (by simp only [List.length_cons, List.length_nil]; omega) ?_)))))))
  simp only [cZ (show i < 9223372036854775807 by omega)]; exact e) (fun i s hi hs hq r e => by
  refine E2.eq (fun k m => gB.aA k m l v _ s) (E2.pos (by omega) (E2.pos (by omega) (E2.pos (by omega) (E2.neg (of_decide_eq_false hq) ?_))))
  simp only [cZ (show i < 9223372036854775807 by omega)]; exact e)
 exact Ev.eq (fun k => FV k l v) (Ev.loop (f := fun k m => gB.l0 k m l v 0 []) er)
theorem yt (e : aF) (v : Int) : Ev (fun k => iV k e v) (! gZ v e) := by
 refine Ev.eq (fun k => qF k e v) (Ev.ret.val ?_)
 unfold gZ
 simp
theorem El (l : List aF) (v : Int) (hl : l.length <= 1048576) : Ev (fun k => aj k l v) (l.filter (gZ v)) := by
 have ei : Ev (fun k => au k l v) (wS (fun i => ! gZ v (rd bR l (i : Int))) l.length) := by
  have er := tJ (R := fun i r => E2 (fun k m => au.l0 k m l v ((List.length l : Nat) : Int) i) r) (n := l.length) (fun i => ! gZ v (rd bR l (i : Int))) (E2.eq (fun k m => au.aA k m l v _ _) (E2.neg (by omega) E2.ret)) (fun i hi hq r e => by
   refine E2.eq (fun k m => au.aA k m l v _ _) (E2.pos (by omega) (E2.pos (by omega) (E2.pos (by omega) (E2.bind (yt _ _) (E2.neg (by rw [hq]; simp) ?_)))))
   simp only [cZ (show i < 9223372036854775807 by omega)]; exact e) (fun i hi hq => E2.eq (fun k m => au.aA k m l v _ _) (E2.pos (by omega) (E2.pos (by omega) (E2.pos (by omega) (E2.bind (yt _ _) (E2.pos hq E2.ret))))))
  exact Ev.eq (fun k => iL k l v) (Ev.loop (f := fun k m => au.l0 k m l v ((List.length l : Nat) : Int) 0) er)
 refine Ev.eq (fun k => iB k l v) (Ev.bind ei ?_)
 rcases tH (fun i => ! gZ v (rd bR l (i : Int))) l.length with ⟨h, hall⟩ | ⟨r, h, hr, h1, h0⟩
 ·refine Ev.pos h (Ev.ret.val ?_)
  symm
  rw [List.filter_eq_self]
  intro x hx
  obtain ⟨i, hi, rfl⟩ := List.mem_iff_getElem.1 hx
  have := hall i hi
  rw [fT hi] at this
  simpa using this
 ·rw [h]
  refine Ev.neg (by omega) ?_
  rw [cZ (by omega)]
  refine Ev.loop (f := fun k m => aj.l0 k m v (r : Int) ((r + 1 : Nat) : Int) l) ?_
  refine CV (t := bR) (l := l) (R := fun i j s w => E2 (fun k m => aj.l0 k m v i j s) w) (gZ v) (fun i s hi hs => ?_) (fun i j s hij hj hs hq w e => ?_) (fun i j s hij hj hs hq w e => ?_) r hr (fun j hj => by simpa using h0 j hj) (by simpa using h1)
  ·refine E2.eq (fun k m => aj.aA k m v _ _ s) (E2.neg (by omega) (E2.pos (by omega) (E2.pos (by omega) (E2.pos (by omega) (E2.pos ?_ (E2.ret.val ?_))))))
   ·simp only [List.length_append, List.length_take, List.length_replicate, List.length_drop, Int.toNat_natCast]
    omega
   ·simp only [Int.toNat_natCast, show Int.toNat 0 = 0 from rfl, Nat.sub_zero, List.drop_zero]
    rw [List.append_assoc, List.take_append_of_le_length (by simp; omega), List.take_take, Nat.min_self]
  ·refine E2.eq (fun k m => aj.aA k m v _ _ s) (E2.pos (by omega) (E2.pos (by omega) (E2.pos (by omega) (E2.bind (yt _ _) (E2.pos (by rw [hq]; simp) (E2.pos (by omega) (E2.pos (by omega) ?_)))))))
   simp only [cZ (show i < 9223372036854775807 by omega), cZ (show j < 9223372036854775807 by omega), Int.toNat_natCast]; exact e
  ·refine E2.eq (fun k m => aj.aA k m v _ _ s) (E2.pos (by omega) (E2.pos (by omega) (E2.pos (by omega) (E2.bind (yt _ _) (E2.neg (by rw [hq]; simp) ?_)))))
   simp only [cZ (show j < 9223372036854775807 by omega)]; exact e
theorem jC (l : List aF) (hl : l.length <= 1048576) : Ev (fun k => bJ k l) l :=
 Ev.eq (fun k => kU k l) (Ev.pos (by simp only [List.length_nil]; omega) (Ev.ret.val (by simp)))
theorem yu (l : List aF) (v : Int) (hl : l.length <= 1048576) : Ev (fun k => lX k l v) (l.filter (gZ v)) :=
 Ev.eq (fun k => uf k l v) (Ev.bind (jC l hl) (Ev.bind (El l v hl) Ev.ret))
def QF (lo hi : Int) (l : List aF) (i : Nat) : Prop := LE.le (α := Int) lo (rd bR l (i : Int)).2.2.1 /\ LE.le (α := Int) (rd bR l (i : Int)).2.2.1 hi
def KW (l : List aF) (lo hi : Int) : Prop := (∀ i, i < l.length -> QF lo hi l i) /\ decide (gD l) = true
theorem Ox (l : List aF) (lo hi : Int) (hl : l.length <= 1048576) : ∃ r, Ev (fun k => fO k l lo hi) r /\ (r = true ↔ KW l lo hi) := by
 obtain ⟨r, er, hr⟩ := gF (R := fun i v => E2 (fun k m => fO.l0 k m l lo hi i) v) (n := l.length) (QF lo hi l) (decide (gD l)) (E2.eq (fun k m => fO.aA k m l lo hi _) (E2.neg (by omega) (E2.bind (dB l hl) (E2.ret.val (by simp))))) (fun i hi' hq v e => by
  refine E2.eq (fun k m => fO.aA k m l lo hi _) (E2.pos (by omega) (E2.pos (by omega) (E2.pos (by omega) (E2.bind (bT _ _ _) (E2.neg (by simpa [QF] using hq) ?_)))))
  simp only [cZ (show i < 9223372036854775807 by omega)]; exact e) (fun i hi' hq => E2.eq (fun k m => fO.aA k m l lo hi _) (E2.pos (by omega) (E2.pos (by omega) (E2.pos (by omega) (E2.bind (bT _ _ _) (E2.pos (by simp only [decide_eq_true_eq]; exact hq) E2.ret))))))
 exact ⟨r, Ev.eq (fun k => Dw k l lo hi) (Ev.loop (f := fun k m => fO.l0 k m l lo hi 0) er), hr⟩
theorem zS (l : List aF) (lo hi : Int) (hl : l.length <= 1048576) : ∃ r, Ev (fun k => bC k l lo hi) r /\ (r = true ↔ KW l lo hi) := by
 obtain ⟨r, er, hr⟩ := gF (R := fun i v => E2 (fun k m => bC.l0 k m l lo hi l ((List.length l : Nat) : Int) i) v) (n := l.length) (QF lo hi l) (decide (gD l)) (E2.eq (fun k m => bC.aA k m l lo hi l _ _) (E2.neg (by omega) (E2.bind (dN l hl) (E2.ret.val (by simp))))) (fun i hi' hq v e => by
  refine E2.eq (fun k m => bC.aA k m l lo hi l _ _) (E2.pos (by omega) (E2.pos (by omega) (E2.pos (by omega) (E2.bind (aI _ _ _) (E2.neg (by simpa [QF] using hq) ?_)))))
  simp only [cZ (show i < 9223372036854775807 by omega)]; exact e) (fun i hi' hq => E2.eq (fun k m => bC.aA k m l lo hi l _ _) (E2.pos (by omega) (E2.pos (by omega) (E2.pos (by omega) (E2.bind (aI _ _ _) (E2.pos (by simp only [decide_eq_true_eq]; exact hq) E2.ret))))))
 exact ⟨r, Ev.eq (fun k => qE k l lo hi) (Ev.loop (f := fun k m => bC.l0 k m l lo hi l ((List.length l : Nat) : Int) 0) er), hr⟩
def Mk (p : bn) (l : List aF) (v : Int) : Prop := (v : Int) ∈ p.2.2.2.1 /\ gD l /\ KW (l.filter (gZ v)) p.2.1 p.2.2.1
theorem filter_le (l : List aF) (v : Int) (hl : l.length <= 1048576) : (l.filter (gZ v)).length <= 1048576 := Nat.le_trans (List.length_filter_le _ _) hl
theorem Cm (p : bn) (l : List aF) (v : Int) (hp : p.2.2.2.1.length <= 1048576) (hl : l.length <= 1048576) : ∃ r, Ev (fun k => uR k p l v) r /\ (r = true ↔ Mk p l v) := by
 unfold Mk
 by_cases c1 : (v : Int) ∈ p.2.2.2.1
 ·by_cases c2 : gD l
  ·obtain ⟨r, er, hr⟩ := Ox (l.filter (gZ v)) p.2.1 p.2.2.1 (filter_le l v hl)
   exact ⟨r, Ev.eq (fun k => uD k p l v) (Ev.bind (Ck _ _ hp) (Ev.pos (by simpa using c1) (Ev.bind (dB l hl) (Ev.pos (by simpa using c2) (Ev.bind (Mv l v hl) (Ev.bind er (Ev.ret.val (by simp)))))))), by rw [hr]; exact ⟨fun h => ⟨c1, c2, h⟩, fun h => h.2.2⟩⟩
  ·exact ⟨false, Ev.eq (fun k => uD k p l v) (Ev.bind (Ck _ _ hp) (Ev.pos (by simpa using c1) (Ev.bind (dB l hl) (Ev.neg (by simpa using c2) Ev.ret)))), by simp only [Bool.false_eq_true, false_iff]; exact fun h => c2 h.2.1⟩
 ·exact ⟨false, Ev.eq (fun k => uD k p l v) (Ev.bind (Ck _ _ hp) (Ev.neg (by simpa using c1) Ev.ret)), by simp only [Bool.false_eq_true, false_iff]; exact fun h => c1 h.1⟩
theorem yw (p : bn) (l : List aF) (v : Int) (hp : p.2.2.2.1.length <= 1048576) (hl : l.length <= 1048576) : ∃ r, Ev (fun k => jR k p l v) r /\ (r = true ↔ Mk p l v) := by
 unfold Mk
 by_cases c1 : (v : Int) ∈ p.2.2.2.1
 ·by_cases c2 : gD l
  ·obtain ⟨r, er, hr⟩ := zS (l.filter (gZ v)) p.2.1 p.2.2.1 (filter_le l v hl)
   exact ⟨r, Ev.eq (fun k => jF k p l v) (Ev.bind (jw _ _ hp) (Ev.pos (by simpa using c1) (Ev.bind (dN l hl) (Ev.pos (by simpa using c2) (Ev.bind (yu l v hl) (Ev.bind er (Ev.ret.val (by simp)))))))), by rw [hr]; exact ⟨fun h => ⟨c1, c2, h⟩, fun h => h.2.2⟩⟩
  ·exact ⟨false, Ev.eq (fun k => jF k p l v) (Ev.bind (jw _ _ hp) (Ev.pos (by simpa using c1) (Ev.bind (dN l hl) (Ev.neg (by simpa using c2) Ev.ret)))), by simp only [Bool.false_eq_true, false_iff]; exact fun h => c2 h.2.1⟩
 ·exact ⟨false, Ev.eq (fun k => jF k p l v) (Ev.bind (jw _ _ hp) (Ev.neg (by simpa using c1) Ev.ret)), by simp only [Bool.false_eq_true, false_iff]; exact fun h => c1 h.1⟩
def QA (lo hi : Int) (l : List Int) (i : Nat) : Prop := (LE.le (α := Int) lo (rd (.int .i64) l (i : Int)) /\ LE.le (α := Int) (rd (.int .i64) l (i : Int)) hi) /\ (0 < i -> LT.lt (α := Int) (rd (.int .i64) l ((i - 1 : Nat) : Int)) (rd (.int .i64) l (i : Int)))
def Ml (l : List Int) (lo hi : Int) : Prop := ∀ i, i < l.length -> QA lo hi l i
theorem Xe {lo hi : Int} {l : List Int} {i : Nat} (h : ¬ QA lo hi l i) (h1 : LE.le (α := Int) lo (rd (.int .i64) l (i : Int)) /\ LE.le (α := Int) (rd (.int .i64) l (i : Int)) hi) : 0 < i /\ ¬ LT.lt (α := Int) (rd (.int .i64) l ((i - 1 : Nat) : Int)) (rd (.int .i64) l (i : Int)) := by
 refine ⟨?_, fun c => h ⟨h1, fun _ => c⟩⟩
 rcases Nat.eq_zero_or_pos i with hi | hi
 ·exact absurd ⟨h1, fun h' => by omega⟩ h
 ·exact hi
theorem BX (l : List Int) (lo hi : Int) (hl : l.length <= 1048576) : ∃ r, Ev (fun k => aW k l lo hi) r /\ (r = true ↔ Ml l lo hi) := by
 obtain ⟨r, er, hr⟩ := gF (R := fun i v => E2 (fun k m => aW.l0 k m l lo hi l ((List.length l : Nat) : Int) i) v) (n := l.length) (QA lo hi l) true (E2.eq (fun k m => aW.aA k m l lo hi l _ _) (E2.neg (by omega) E2.ret)) (fun i hi' hq v e => by
  obtain ⟨h1, h2⟩ := hq
  refine E2.eq (fun k m => aW.aA k m l lo hi l _ _) (E2.pos (by omega) (E2.pos (by omega) (E2.pos (by omega) (E2.bind (aI _ _ _) (E2.neg (by simpa using h1) ?_)))))
  simp only [cZ (show i < 9223372036854775807 by omega)]
  by_cases c : 0 < i
  ·refine E2.pos (by omega) ?_
   simp only [jL c (show i < 9223372036854775807 by omega)]
   have := h2 c
   exact E2.pos (by omega) (E2.pos (by omega) (E2.neg (by omega) e))
  ·exact E2.neg (by omega) e) (fun i hi' hq => by
  refine E2.eq (fun k m => aW.aA k m l lo hi l _ _) (E2.pos (by omega) (E2.pos (by omega) (E2.pos (by omega) (E2.bind (aI _ _ _) ?_))))
  by_cases h1 : LE.le (α := Int) lo (rd (.int .i64) l (i : Int)) /\ LE.le (α := Int) (rd (.int .i64) l (i : Int)) hi
  ·obtain ⟨c, c1⟩ := Xe hq h1
   refine E2.neg (by simpa using h1) (E2.pos (by omega) ?_)
   simp only [jL c (show i < 9223372036854775807 by omega)]
   exact E2.pos (by omega) (E2.pos (by omega) (E2.pos (by omega) E2.ret))
  ·exact E2.pos (by simp only [decide_eq_true_eq]; exact h1) E2.ret)
 exact ⟨r, Ev.eq (fun k => qD k l lo hi) (Ev.loop (f := fun k m => aW.l0 k m l lo hi l ((List.length l : Nat) : Int) 0) er), hr.trans ⟨fun h => h.1, fun h => ⟨h, rfl⟩⟩⟩
def ZQ (p : bn) : Prop := (21 <= (p.2.1 : Int) /\ (p.2.1 : Int) <= p.2.2.1) /\ (p.2.2.1 : Int) <= 108 /\ Ml p.2.2.2.1 1 4
def QP (l : List bn) (i : Nat) : Prop := ZQ (rd bV l (i : Int)) /\ (1 <= ((rd bV l (i : Int)).1 : Int) /\ ((rd bV l (i : Int)).1 : Int) <= 99) /\ (0 < i -> LT.lt (α := Int) (rd bV l ((i - 1 : Nat) : Int)).1 (rd bV l (i : Int)).1)
def iC (l : List bn) : Prop := (∀ i, i < l.length -> QP l i) /\ decide (((l.length : Nat) : Int) <= 8) = true
def Vu (l : List bn) : Prop := l.length <= 1048576 /\ ∀ i : Nat, i < l.length -> (rd bV l (i : Int)).2.2.2.1.length <= 1048576
theorem Tv (l : List bn) (i : Nat) (a b c : Int) (vs : List Int) (hv : vs.length <= 1048576) (hi : i < l.length) (hl : l.length <= 1048576) (x : Bool) (e : E2 (fun k n => aK.l0 k n l ((i + 1 : Nat) : Int)) x) :
  ∃ r, E2 (fun k n => aK.l1 k k n l (i : Int) 0 a b c vs) r /\ (r = true ↔ Ml vs 1 4 /\ x = true) := by
 obtain ⟨r, er, hr⟩ := gF (R := fun j v => E3 (fun k m n => aK.l1 k m n l (i : Int) j a b c vs) v) (n := vs.length) (QA 1 4 vs) x (by
  refine E3.eq (fun k m n => aK.wG k m n l (i : Int) _ a b c vs) (E3.neg (by omega) ?_)
  simp only [cZ (show i < 9223372036854775807 by omega)]
  exact E3.out e) (fun j hj hq v e => by
  obtain ⟨h1, h2⟩ := hq
  refine E3.eq (fun k m n => aK.wG k m n l (i : Int) _ a b c vs) (E3.pos (by omega) (E3.pos (by omega) (E3.pos (by omega) (E3.bind (bT _ _ _) (E3.neg (by simpa using h1) ?_)))))
  simp only [cZ (show j < 9223372036854775807 by omega)]
  by_cases c : 0 < j
  ·refine E3.pos (by omega) ?_
   simp only [jL c (show j < 9223372036854775807 by omega)]
   have := h2 c
   exact E3.pos (by omega) (E3.pos (by omega) (E3.pos (by omega) (E3.pos (by omega) (E3.neg (by omega) e))))
  ·exact E3.neg (by omega) e) (fun j hj hq => by
  refine E3.eq (fun k m n => aK.wG k m n l (i : Int) _ a b c vs) (E3.pos (by omega) (E3.pos (by omega) (E3.pos (by omega) (E3.bind (bT _ _ _) ?_))))
  by_cases h1 : LE.le (α := Int) 1 (rd (.int .i64) vs (j : Int)) /\ LE.le (α := Int) (rd (.int .i64) vs (j : Int)) 4
  ·obtain ⟨c, c1⟩ := Xe hq h1
   refine E3.neg (by simpa using h1) (E3.pos (by omega) ?_)
   simp only [jL c (show j < 9223372036854775807 by omega)]
   exact E3.pos (by omega) (E3.pos (by omega) (E3.pos (by omega) (E3.pos (by omega) (E3.pos (by omega) E3.ret))))
  ·exact E3.pos (by simp only [decide_eq_true_eq]; exact h1) E3.ret)
 exact ⟨r, E3.loop (f := fun k m n => aK.l1 k m n l (i : Int) 0 a b c vs) er, hr⟩
theorem vW (l : List bn) (hs : Vu l) : ∃ r, Ev (fun k => aK k l) r /\ (r = true ↔ iC l) := by
 have hl := hs.1
 have key : ∀ d i, i + d = l.length -> ∃ r, E2 (fun k m => aK.l0 k m l (i : Int)) r /\ (r = true ↔ (∀ j, i <= j -> j < l.length -> QP l j) /\ decide (((l.length : Nat) : Int) <= 8) = true) := by
  intro d
  induction d with
  | zero =>
   intro i hi
   exact ⟨_, E2.eq (fun k m => aK.aA k m l _) (E2.neg (by omega) E2.ret), ⟨fun h => ⟨fun j _ _ => by omega, h⟩, fun h => h.2⟩⟩
  | succ d ih =>
   intro i hi
   have hlt : i < l.length := by omega
   obtain ⟨x, ex, hx⟩ := ih (i + 1) (by omega)
   have stop : (∃ e : E2 (fun k m => aK.l0 k m l (i : Int)) false, True) -> ¬ QP l i -> ∃ r, E2 (fun k m => aK.l0 k m l (i : Int)) r /\ (r = true ↔ (∀ j, i <= j -> j < l.length -> QP l j) /\ decide (((l.length : Nat) : Int) <= 8) = true) := fun ⟨e, _⟩ h =>
    ⟨false, e, by simp only [Bool.false_eq_true, false_iff]; exact fun c => h (c.1 i (Nat.le_refl _) hlt)⟩
   have st : ∀ {f : Nat -> Nat -> Option Bool} {v : Bool}, (∀ k m, aK.l0 k (m + 1) l (i : Int) = f k m) -> E2 f v -> E2 (fun k m => aK.l0 k m l (i : Int)) v := fun h e => E2.eq h e
   by_cases h1 : LE.le (α := Int) 1 (rd bV l (i : Int)).1 /\ LE.le (α := Int) (rd bV l (i : Int)).1 99
   ·by_cases h2 : LE.le (α := Int) 21 (rd bV l (i : Int)).2.1
    ·by_cases h3 : LE.le (α := Int) (rd bV l (i : Int)).2.1 (rd bV l (i : Int)).2.2.1
     ·by_cases h4 : LE.le (α := Int) (rd bV l (i : Int)).2.2.1 108
      ·obtain ⟨r, er, hr⟩ := Tv l i (rd bV l (i : Int)).1 (rd bV l (i : Int)).2.1 (rd bV l (i : Int)).2.2.1 (rd bV l (i : Int)).2.2.2.1 (hs.2 i hlt) hlt hl x ex
       by_cases c : 0 < i
       ·by_cases h5 : LT.lt (α := Int) (rd bV l ((i - 1 : Nat) : Int)).1 (rd bV l (i : Int)).1
        ·refine ⟨r, E2.eq (fun k m => aK.aA k m l _) (E2.pos (by omega) (E2.pos (by omega) (E2.pos (by omega) (E2.bind (bT _ _ _) (E2.neg (by simpa using h1) (E2.neg (by omega) (E2.neg (by omega) (E2.neg (by omega) (E2.pos (by omega) ?_))))))))), hr.trans ⟨fun ⟨h6, h7⟩ => ⟨fun j hj1 hj2 => ?_, (hx.1 h7).2⟩, fun h => ⟨(h.1 i (Nat.le_refl _) hlt).1.2.2, hx.2 ⟨fun j hj1 hj2 => h.1 j (by omega) hj2, h.2⟩⟩⟩⟩
         ·simp only [jL c (show i < 9223372036854775807 by omega)]
          exact E2.pos (by omega) (E2.pos (by omega) (E2.neg (by omega) er))
         ·by_cases hji : j = i
          ·subst hji; exact ⟨⟨⟨h2, h3⟩, h4, h6⟩, h1, fun _ => h5⟩
          ·exact (hx.1 h7).1 j (by omega) hj2
        ·refine stop ⟨E2.eq (fun k m => aK.aA k m l _) (E2.pos (by omega) (E2.pos (by omega) (E2.pos (by omega) (E2.bind (bT _ _ _) (E2.neg (by simpa using h1) (E2.neg (by omega) (E2.neg (by omega) (E2.neg (by omega) (E2.pos (by omega) ?_))))))))), trivial⟩ (fun h => h5 (h.2.2 c))
         simp only [jL c (show i < 9223372036854775807 by omega)]
         exact E2.pos (by omega) (E2.pos (by omega) (E2.pos (by omega) E2.ret))
       ·refine ⟨r, E2.eq (fun k m => aK.aA k m l _) (E2.pos (by omega) (E2.pos (by omega) (E2.pos (by omega) (E2.bind (bT _ _ _) (E2.neg (by simpa using h1) (E2.neg (by omega) (E2.neg (by omega) (E2.neg (by omega) (E2.neg (by omega) er))))))))), hr.trans ⟨fun ⟨h6, h7⟩ => ⟨fun j hj1 hj2 => ?_, (hx.1 h7).2⟩, fun h => ⟨(h.1 i (Nat.le_refl _) hlt).1.2.2, hx.2 ⟨fun j hj1 hj2 => h.1 j (by omega) hj2, h.2⟩⟩⟩⟩
        by_cases hji : j = i
        ·subst hji; exact ⟨⟨⟨h2, h3⟩, h4, h6⟩, h1, fun h => absurd h c⟩
        ·exact (hx.1 h7).1 j (by omega) hj2
      ·exact stop ⟨E2.eq (fun k m => aK.aA k m l _) (E2.pos (by omega) (E2.pos (by omega) (E2.pos (by omega) (E2.bind (bT _ _ _) (E2.neg (by simpa using h1) (E2.neg (by omega) (E2.neg (by omega) (E2.pos (by omega) E2.ret)))))))), trivial⟩ (fun h => h4 h.1.2.1)
     ·exact stop ⟨E2.eq (fun k m => aK.aA k m l _) (E2.pos (by omega) (E2.pos (by omega) (E2.pos (by omega) (E2.bind (bT _ _ _) (E2.neg (by simpa using h1) (E2.neg (by omega) (E2.pos (by omega) E2.ret))))))), trivial⟩ (fun h => h3 h.1.1.2)
    ·exact stop ⟨E2.eq (fun k m => aK.aA k m l _) (E2.pos (by omega) (E2.pos (by omega) (E2.pos (by omega) (E2.bind (bT _ _ _) (E2.neg (by simpa using h1) (E2.pos (by omega) E2.ret)))))), trivial⟩ (fun h => h2 h.1.1.1)
   ·exact stop ⟨E2.eq (fun k m => aK.aA k m l _) (E2.pos (by omega) (E2.pos (by omega) (E2.pos (by omega) (E2.bind (bT _ _ _) (E2.pos (by simp only [decide_eq_true_eq]; exact h1) E2.ret))))), trivial⟩ (fun h => h1 h.2.1)
 obtain ⟨r, er, hr⟩ := key l.length 0 (by omega)
 exact ⟨r, Ev.eq (fun k => Ch k l) (Ev.loop (f := fun k m => aK.l0 k m l 0) er), hr.trans ⟨fun h => ⟨fun i hi => h.1 i (Nat.zero_le _) hi, h.2⟩, fun h => ⟨fun i _ hi => h.1 i hi, h.2⟩⟩⟩
def jG (l : List bn) : List Int := l.map fun p => p.1
theorem jZ {l : List bn} {i : Nat} (h : i < l.length) : Eq (α := Int) (rd (.int .i64) (jG l) (i : Int)) (rd bV l (i : Int)).1 := by
 unfold jG
 rw [fT (by simpa using h), fT h]
 simp
theorem vL (l : List bn) (hs : Vu l) : ∃ r, Ev (fun k => aQ k l) r /\ (r = true ↔ iC l) := by
 have hl := hs.1
 obtain ⟨a, ea, ha⟩ := BX (jG l) 1 99 (by unfold jG; simpa using hl)
 obtain ⟨r, er, hr⟩ := gF (R := fun i v => E2 (fun k m => aQ.l0 k m l l ((List.length l : Nat) : Int) i (jG (l.take i.toNat))) v) (n := l.length) (fun i => ZQ (rd bV l (i : Int))) (decide (((l.length : Nat) : Int) <= 8 /\ a = true)) (by
  refine E2.eq (fun k m => aQ.aA k m l l _ _ _) (E2.neg (by omega) ?_)
  rw [Int.toNat_natCast, List.take_length]
  by_cases c : ((l.length : Nat) : Int) <= 8
  ·exact E2.pos c (E2.bind ea (E2.ret.val (by simp [c])))
  ·exact E2.neg c (E2.ret.val (by simp [c]))) (fun i hi hq v e => by
  obtain ⟨h1, h2, h3⟩ := hq
  obtain ⟨b, eb, hb⟩ := BX (rd bV l (i : Int)).2.2.2.1 1 4 (hs.2 i hi)
  have hlen : (jG (l.take ((i : Int)).toNat)).length = i := by unfold jG; simp; omega
  refine E2.eq (fun k m => aQ.aA k m l l _ _ _) (E2.pos (by omega) (E2.pos (by omega) (E2.pos (by omega) (E2.bind (aI _ _ _) (E2.neg (by simpa using h1) (E2.neg (Int.not_lt.2 h2) (E2.bind eb (E2.neg (by simpa using hb.2 h3) (E2.pos (by rw [hlen]; simp only [List.length_cons, List.length_nil]; omega) ?_)))))))))
  simp only [cZ (show i < 9223372036854775807 by omega)]
  have he : jG (l.take ((i : Int)).toNat) ++ [(rd bV l (i : Int)).1] = jG (l.take (((i + 1 : Nat) : Int)).toNat) := by
   unfold jG
   rw [Int.toNat_natCast, Int.toNat_natCast, List.take_succ_eq_append_getElem hi, fT hi, List.map_append]
   rfl
  rw [he]
  exact e) (fun i hi hq => by
  obtain ⟨b, eb, hb⟩ := BX (rd bV l (i : Int)).2.2.2.1 1 4 (hs.2 i hi)
  refine E2.eq (fun k m => aQ.aA k m l l _ _ _) (E2.pos (by omega) (E2.pos (by omega) (E2.pos (by omega) (E2.bind (aI _ _ _) ?_))))
  by_cases h1 : LE.le (α := Int) 21 (rd bV l (i : Int)).2.1 /\ LE.le (α := Int) (rd bV l (i : Int)).2.1 (rd bV l (i : Int)).2.2.1
  ·refine E2.neg (by simpa using h1) ?_
   by_cases h2 : LE.le (α := Int) (rd bV l (i : Int)).2.2.1 108
   ·exact E2.neg (by omega) (E2.bind eb (E2.pos (fun c => hq ⟨h1, h2, hb.1 c⟩) E2.ret))
   ·exact E2.pos (by omega) E2.ret
  ·exact E2.pos (by simp only [decide_eq_true_eq]; exact h1) E2.ret)
 have er' : E2 (fun k m => aQ.l0 k m l l ((List.length l : Nat) : Int) 0 []) r := er
 refine ⟨r, Ev.eq (fun k => pQ k l) (Ev.loop (f := fun k m => aQ.l0 k m l l ((List.length l : Nat) : Int) 0 []) er'), hr.trans ?_⟩
 unfold iC
 rw [decide_eq_true_eq, decide_eq_true_eq, ha]
 unfold Ml
 have hlen : (jG l).length = l.length := by unfold jG; simp
 rw [hlen]
 constructor
 ·rintro ⟨h1, h2, h3⟩
  refine ⟨fun i hi => ?_, h2⟩
  obtain ⟨k1, k2⟩ := h3 i hi
  rw [jZ hi] at k1
  refine ⟨h1 i hi, k1, fun c => ?_⟩
  have := k2 c
  rw [jZ hi, jZ (show i - 1 < l.length by omega)] at this
  exact this
 ·rintro ⟨h1, h2⟩
  refine ⟨fun i hi => (h1 i hi).1, h2, fun i hi => ?_⟩
  obtain ⟨k1, k2, k3⟩ := h1 i hi
  refine ⟨by rw [jZ hi]; exact k2, fun c => ?_⟩
  rw [jZ hi, jZ (show i - 1 < l.length by omega)]
  exact k3 c
def KX (l : List bn) (sc : List aF) (x v : Int) (j : Nat) : Prop := Eq (α := Int) (rd bV l (j : Int)).1 x /\ Mk (rd bV l (j : Int)) sc v
def QI (l : List bn) (sc : List aF) (seats : List Int) (i : Nat) : Prop := (∃ j, j < l.length /\ KX l sc (rd (.int .i64) seats (i : Int)) ((i + 1 : Nat) : Int) j) /\ ¬ (rd (.int .i64) seats (i : Int)) ∈ seats.take i
def Ah (l : List bn) (sc : List aF) (seats : List Int) : Prop := (∀ i, i < seats.length -> QI l sc seats i) /\ iC l /\ gD sc /\ ((seats.length : Nat) : Int) <= 4
theorem Gw (i : Nat) (s : List Int) : List.take (Int.toNat (i : Int) - Int.toNat 0) (List.drop (Int.toNat 0) s) = s.take i := by
 simp
theorem Oy (l : List bn) (sc : List aF) (seats : List Int) (hs : Vu l) (h1 : sc.length <= 1048576) (h2 : seats.length <= 1048576) (i : Nat) (hi : i < seats.length) (x : Bool) (e : E2 (fun k n => aX.l0 k n l sc seats ((i + 1 : Nat) : Int)) x) :
  ∃ r, E2 (fun k n => aX.l1 k k n l sc seats (i : Int) false 0) r /\ (r = true ↔ QI l sc seats i /\ x = true) := by
 have hl := hs.1
 have key : ∀ d (j : Nat) (g : Bool), j + d = l.length -> ∃ r, E3 (fun k m n => aX.l1 k m n l sc seats (i : Int) g (j : Int)) r /\
   (r = true ↔ ((g = true \/ ∃ q, j <= q /\ q < l.length /\ KX l sc (rd (.int .i64) seats (i : Int)) ((i + 1 : Nat) : Int) q) /\ ¬ (rd (.int .i64) seats (i : Int)) ∈ seats.take i) /\ x = true) := by
  intro d
  induction d with
  | zero =>
   intro j g hj
   have no : ¬ ∃ q, j <= q /\ q < l.length /\ KX l sc (rd (.int .i64) seats (i : Int)) ((i + 1 : Nat) : Int) q := by rintro ⟨q, h3, h4, _⟩; omega
   cases g with
   | false =>
    exact ⟨false, E3.eq (fun k m n => aX.wG k m n l sc seats (i : Int) false _) (E3.neg (by omega) (E3.pos (by simp) E3.ret)), by simp only [Bool.false_eq_true, false_iff, false_or]; exact fun h => no h.1.1⟩
   | true =>
    by_cases hm : (rd (.int .i64) seats (i : Int)) ∈ seats.take i
    ·refine ⟨false, E3.eq (fun k m n => aX.wG k m n l sc seats (i : Int) true _) (E3.neg (by omega) (E3.neg (by simp) (E3.pos (by omega) (E3.pos (by omega) (E3.pos (by omega) (E3.pos (by omega) (E3.bind (Ck _ _ ?_) (E3.pos ?_ E3.ret)))))))), by simp [hm]⟩
     ·simp; omega
     ·rw [Gw]; simpa using hm
    ·refine ⟨x, E3.eq (fun k m n => aX.wG k m n l sc seats (i : Int) true _) (E3.neg (by omega) (E3.neg (by simp) (E3.pos (by omega) (E3.pos (by omega) (E3.pos (by omega) (E3.pos (by omega) (E3.bind (Ck _ _ ?_) (E3.neg ?_ ?_)))))))), by simp [hm]⟩
     ·simp; omega
     ·rw [Gw]; simpa using hm
     ·simp only [cZ (show i < 9223372036854775807 by omega)]
      exact E3.out e
  | succ d ih =>
   intro j g hj
   have hlt : j < l.length := by omega
   cases g with
   | true =>
    obtain ⟨r, er, hr⟩ := ih (j + 1) true (by omega)
    refine ⟨r, E3.eq (fun k m n => aX.wG k m n l sc seats (i : Int) true _) (E3.pos (by omega) (E3.pos rfl ?_)), hr.trans (by simp)⟩
    simp only [cZ (show j < 9223372036854775807 by omega)]
    exact er
   | false =>
    have wi : IntKind.wrap .i64 ((i : Int) + 1) = ((i + 1 : Nat) : Int) := cZ (by omega)
    by_cases hid : Eq (α := Int) (rd bV l (j : Int)).1 (rd (.int .i64) seats (i : Int))
    ·obtain ⟨c, ec, hc⟩ := Cm (rd bV l (j : Int)) sc ((i + 1 : Nat) : Int) (hs.2 j hlt) h1
     obtain ⟨r, er, hr⟩ := ih (j + 1) c (by omega)
     refine ⟨r, E3.eq (fun k m n => aX.wG k m n l sc seats (i : Int) false _) (E3.pos (by omega) (E3.neg (by simp) (E3.pos (by omega) (E3.pos (by omega) (E3.pos (by omega) (E3.pos (by omega) (E3.pos hid (E3.pos (by omega) (E3.pos (by omega) ?_))))))))), hr.trans ?_⟩
     ·simp only [cZ (show j < 9223372036854775807 by omega), wi]
      refine E3.bind ec ?_
      simpa using er
     ·refine and_congr (and_congr ⟨fun h => .inr ?_, fun h => ?_⟩ Iff.rfl) Iff.rfl
      ·rcases h with h | ⟨q, h3, h4, h5⟩
       ·exact ⟨j, Nat.le_refl _, hlt, hid, hc.1 h⟩
       ·exact ⟨q, by omega, h4, h5⟩
      ·rcases h with h | ⟨q, h3, h4, h5⟩
       ·cases h
       ·by_cases hq : q = j
        ·subst hq; exact .inl (hc.2 h5.2)
        ·exact .inr ⟨q, by omega, h4, h5⟩
    ·obtain ⟨r, er, hr⟩ := ih (j + 1) false (by omega)
     refine ⟨r, E3.eq (fun k m n => aX.wG k m n l sc seats (i : Int) false _) (E3.pos (by omega) (E3.neg (by simp) (E3.pos (by omega) (E3.pos (by omega) (E3.pos (by omega) (E3.pos (by omega) (E3.neg hid ?_))))))), hr.trans ?_⟩
     ·simp only [cZ (show j < 9223372036854775807 by omega)]
      exact er
     ·refine and_congr (and_congr (or_congr Iff.rfl ⟨fun ⟨q, h3, h4, h5⟩ => ⟨q, by omega, h4, h5⟩, fun ⟨q, h3, h4, h5⟩ => ?_⟩) Iff.rfl) Iff.rfl
      by_cases hq : q = j
      ·subst hq; exact absurd h5.1 hid
      ·exact ⟨q, by omega, h4, h5⟩
 obtain ⟨r, er, hr⟩ := key l.length 0 false (by omega)
 refine ⟨r, E3.loop (f := fun k m n => aX.l1 k m n l sc seats (i : Int) false 0) er, hr.trans ?_⟩
 unfold QI
 simp
theorem Ai (l : List bn) (sc : List aF) (seats : List Int) (hs : Vu l) (h1 : sc.length <= 1048576) (h2 : seats.length <= 1048576) : ∃ r, Ev (fun k => aX k l sc seats) r /\ (r = true ↔ Ah l sc seats) := by
 have key : ∀ d i, i + d = seats.length -> ∃ r, E2 (fun k m => aX.l0 k m l sc seats (i : Int)) r /\ (r = true ↔ (∀ j, i <= j -> j < seats.length -> QI l sc seats j) /\ iC l /\ gD sc /\ ((seats.length : Nat) : Int) <= 4) := by
  intro d
  induction d with
  | zero =>
   intro i hi
   have tr : ∀ {p : Prop}, (p ↔ (∀ j, i <= j -> j < seats.length -> QI l sc seats j) /\ p) := ⟨fun h => ⟨fun j _ _ => by omega, h⟩, fun h => h.2⟩
   obtain ⟨a, ea, ha⟩ := vW l hs
   by_cases ca : a = true
   ·by_cases cs : gD sc
    ·exact ⟨_, E2.eq (fun k m => aX.aA k m l sc seats _) (E2.neg (by omega) (E2.bind ea (E2.pos ca (E2.bind (dB sc h1) (E2.pos (by simpa using cs) E2.ret))))), Iff.trans (by rw [decide_eq_true_eq]; exact ⟨fun h => ⟨ha.1 ca, cs, h⟩, fun h => h.2.2⟩) tr⟩
    ·exact ⟨_, E2.eq (fun k m => aX.aA k m l sc seats _) (E2.neg (by omega) (E2.bind ea (E2.pos ca (E2.bind (dB sc h1) (E2.neg (by simpa using cs) E2.ret))))), by simp only [Bool.false_eq_true, false_iff]; exact fun h => cs h.2.2.1⟩
   ·exact ⟨_, E2.eq (fun k m => aX.aA k m l sc seats _) (E2.neg (by omega) (E2.bind ea (E2.neg ca E2.ret))), by simp only [Bool.false_eq_true, false_iff]; exact fun h => ca (ha.2 h.2.1)⟩
  | succ d ih =>
   intro i hi
   have hlt : i < seats.length := by omega
   obtain ⟨x, ex, hx⟩ := ih (i + 1) (by omega)
   obtain ⟨r, er, hr⟩ := Oy l sc seats hs h1 h2 i hlt x ex
   refine ⟨r, E2.eq (fun k m => aX.aA k m l sc seats _) (E2.pos (by omega) er), hr.trans ⟨fun ⟨h3, h4⟩ => ⟨fun j hj1 hj2 => ?_, (hx.1 h4).2⟩, fun ⟨h3, h4⟩ => ⟨h3 i (Nat.le_refl _) hlt, hx.2 ⟨fun j hj1 hj2 => h3 j (by omega) hj2, h4⟩⟩⟩⟩
   by_cases hj : j = i
   ·subst hj; exact h3
   ·exact (hx.1 h4).1 j (by omega) hj2
 obtain ⟨r, er, hr⟩ := key seats.length 0 (by omega)
 exact ⟨r, Ev.eq (fun k => Du k l sc seats) (Ev.loop (f := fun k m => aX.l0 k m l sc seats 0) er), hr.trans ⟨fun h => ⟨fun i hi => h.1 i (Nat.zero_le _) hi, h.2⟩, fun h => ⟨fun i _ hi => h.1 i hi, h.2⟩⟩⟩
theorem Sb (l : List bn) (sc : List aF) (x : Int) (i : Nat) (hs : Vu l) (h1 : sc.length <= 1048576) (hi : i < 1048576) : ∃ r, Ev (fun k => iD k l x sc (i : Int)) r /\ (r = true ↔ ∃ j, j < l.length /\ KX l sc x ((i + 1 : Nat) : Int) j) := by
 have hl := hs.1
 have wi : IntKind.wrap .i64 ((i : Int) + 1) = ((i + 1 : Nat) : Int) := cZ (by omega)
 have one : ∀ j, j < l.length -> ∃ r, Ev (fun k => su k (rd bV l (j : Int)) x sc (i : Int)) r /\ (r = true ↔ KX l sc x ((i + 1 : Nat) : Int) j) := by
  intro j hj
  by_cases hid : Eq (α := Int) (rd bV l (j : Int)).1 x
  ·obtain ⟨c, ec, hc⟩ := yw (rd bV l (j : Int)) sc ((i + 1 : Nat) : Int) (hs.2 j hj) h1
   refine ⟨c, Ev.eq (fun k => uJ k _ x sc (i : Int)) (Ev.pos hid ?_), hc.trans ⟨fun h => ⟨hid, h⟩, fun h => h.2⟩⟩
   simp only [wi]
   exact Ev.bind ec (Ev.ret.val (by simp))
  ·exact ⟨false, Ev.eq (fun k => uJ k _ x sc (i : Int)) (Ev.neg hid Ev.ret), by simp only [Bool.false_eq_true, false_iff]; exact fun h => hid h.1⟩
 have hdec : ∀ j, Decidable (KX l sc x ((i + 1 : Nat) : Int) j) := fun j => Classical.propDecidable _
 have er := tJ (R := fun j v => E2 (fun k m => aT.l0 k m l x sc (i : Int) ((List.length l : Nat) : Int) j) v) (n := l.length) (fun j => @decide _ (hdec j)) (E2.eq (fun k m => aT.aA k m l x sc _ _ _) (E2.neg (by omega) E2.ret)) (fun j hj hq v e => by
  obtain ⟨c, ec, hc⟩ := one j hj
  refine E2.eq (fun k m => aT.aA k m l x sc _ _ _) (E2.pos (by omega) (E2.pos (by omega) (E2.pos (by omega) (E2.bind ec (E2.neg (fun h => absurd (hc.1 h) (@of_decide_eq_false _ (hdec j) hq)) ?_)))))
  simp only [cZ (show j < 9223372036854775807 by omega)]; exact e) (fun j hj hq => by
  obtain ⟨c, ec, hc⟩ := one j hj
  exact E2.eq (fun k m => aT.aA k m l x sc _ _ _) (E2.pos (by omega) (E2.pos (by omega) (E2.pos (by omega) (E2.bind ec (E2.pos (hc.2 (by simpa using hq)) E2.ret))))))
 refine ⟨_, Ev.eq (fun k => nQ k l x sc _) (Ev.bind (Ev.eq (fun k => oO k l x sc _) (Ev.loop (f := fun k m => aT.l0 k m l x sc (i : Int) ((List.length l : Nat) : Int) 0) er)) Ev.ret), ?_⟩
 rw [decide_eq_true_eq, wT]
 simp only [decide_eq_true_eq]
theorem vX (l : List bn) (sc : List aF) (seats : List Int) (hs : Vu l) (h1 : sc.length <= 1048576) (h2 : seats.length <= 1048576) : ∃ r, Ev (fun k => eF k l sc seats) r /\ (r = true ↔ Ah l sc seats) := by
 obtain ⟨a, ea, ha⟩ := vL l hs
 by_cases ca : a = true
 ·by_cases cs : gD sc
  ·by_cases c4 : ((seats.length : Nat) : Int) <= 4
   ·obtain ⟨r, er, hr⟩ := gF (R := fun i v => E2 (fun k m => eF.l0 k m l seats seats ((List.length seats : Nat) : Int) i sc) v) (n := seats.length) (QI l sc seats) true (E2.eq (fun k m => eF.aA k m l seats seats _ _ sc) (E2.neg (by omega) E2.ret)) (fun i hi hq v e => by
     obtain ⟨c, ec, hc⟩ := Sb l sc (rd (.int .i64) seats (i : Int)) i hs h1 (by omega)
     refine E2.eq (fun k m => eF.aA k m l seats seats _ _ sc) (E2.pos (by omega) (E2.pos (by omega) (E2.pos (by omega) (E2.pos (by omega) (E2.pos (by omega) (E2.bind (jw _ _ ?_) (E2.neg ?_ (E2.bind ec (E2.neg (by simpa using hc.2 hq.1) ?_)))))))))
     ·simp; omega
     ·rw [Gw]; simpa using hq.2
     ·simp only [cZ (show i < 9223372036854775807 by omega)]; exact e) (fun i hi hq => by
     obtain ⟨c, ec, hc⟩ := Sb l sc (rd (.int .i64) seats (i : Int)) i hs h1 (by omega)
     refine E2.eq (fun k m => eF.aA k m l seats seats _ _ sc) (E2.pos (by omega) (E2.pos (by omega) (E2.pos (by omega) (E2.pos (by omega) (E2.pos (by omega) (E2.bind (jw _ _ ?_) ?_))))))
     ·simp; omega
     rw [Gw]
     by_cases hm : (rd (.int .i64) seats (i : Int)) ∈ seats.take i
     ·exact E2.pos (by simpa using hm) E2.ret
     ·exact E2.neg (by simpa using hm) (E2.bind ec (E2.pos (fun h => hq ⟨hc.1 h, hm⟩) E2.ret)))
    exact ⟨r, Ev.eq (fun k => ng k l sc seats) (Ev.bind ea (Ev.neg (by simpa using ca) (Ev.bind (dN sc h1) (Ev.neg (by simpa using cs) (Ev.neg (by omega) (Ev.loop (f := fun k m => eF.l0 k m l seats seats ((List.length seats : Nat) : Int) 0 sc) er)))))), hr.trans ⟨fun h => ⟨h.1, ha.1 ca, cs, c4⟩, fun h => ⟨h.1, rfl⟩⟩⟩
   ·exact ⟨false, Ev.eq (fun k => ng k l sc seats) (Ev.bind ea (Ev.neg (by simpa using ca) (Ev.bind (dN sc h1) (Ev.neg (by simpa using cs) (Ev.pos (by omega) Ev.ret))))), by simp only [Bool.false_eq_true, false_iff]; exact fun h => c4 h.2.2.2⟩
  ·exact ⟨false, Ev.eq (fun k => ng k l sc seats) (Ev.bind ea (Ev.neg (by simpa using ca) (Ev.bind (dN sc h1) (Ev.pos (by simpa using cs) Ev.ret)))), by simp only [Bool.false_eq_true, false_iff]; exact fun h => cs h.2.2.1⟩
 ·exact ⟨false, Ev.eq (fun k => ng k l sc seats) (Ev.bind ea (Ev.pos ca Ev.ret)), by simp only [Bool.false_eq_true, false_iff]; exact fun h => ca (ha.2 h.2.1)⟩
structure Sm (o : aV) : Prop where
 score : o.1.length <= 1048576
 qY : o.2.2.1.length <= 2097152
 Gx : Vu o.2.2.2.1
 seats : o.2.2.2.2.1.length <= 1048576
 marks : o.2.2.2.2.2.1.length <= 1048576
 letters : o.2.2.2.2.2.2.1.length <= 1048576
theorem KY {o : aV} (h : Bk iF o) : Sm o := by
 refine ⟨h.1.1, Nat.le_trans h.2.2.1.1 (by omega), ⟨h.2.2.2.1.1, fun i hi => ?_⟩, h.2.2.2.2.1.1, h.2.2.2.2.2.1.1, h.2.2.2.2.2.2.1.1⟩
 rw [fT hi]
 exact (h.2.2.2.1.2 _ (List.getElem_mem hi)).2.2.2.1.1
theorem xQ (o : aV) (h : Sm o) : ∃ r, Ev (fun k => fM k o) r /\ Ev (fun k => aZ k o) r := by
 obtain ⟨m, Qk, Zt⟩ := Ms o.2.1
 obtain ⟨a, ea, ha⟩ := uX o.2.2.2.2.2.1 h.marks
 obtain ⟨a', XT, ha'⟩ := Dx o.2.2.2.2.2.1 h.marks
 obtain rfl : a' = a := by rw [Bool.eq_iff_iff]; exact ha'.trans ha.symm
 obtain ⟨b, eb, hb⟩ := Ag o.2.2.2.2.2.2.1 h.letters
 obtain ⟨b', eb', hb'⟩ := Je o.2.2.2.2.2.2.1 h.letters
 obtain rfl : b' = b := by rw [Bool.eq_iff_iff]; exact hb'.trans hb.symm
 obtain ⟨c, ec, hc⟩ := Ai o.2.2.2.1 o.1 o.2.2.2.2.1 h.Gx h.score h.seats
 obtain ⟨c', ec', hc'⟩ := vX o.2.2.2.1 o.1 o.2.2.2.2.1 h.Gx h.score h.seats
 obtain rfl : c' = c := by rw [Bool.eq_iff_iff]; exact hc'.trans hc.symm
 by_cases d1 : gD o.1
 ·by_cases d2 : m = true
  ·by_cases d3 : yH o.2.2.1
   ·by_cases d4 : a' = true
    ·by_cases d5 : b' = true
     ·by_cases d6 : c' = true
      ·by_cases d7 : 1 <= (o.2.2.2.2.2.2.2.1 : Int) /\ (o.2.2.2.2.2.2.2.1 : Int) <= 9999
       ·exact ⟨_, Ev.eq (fun k => bS k o) (Ev.bind (dB _ h.score) (Ev.pos (by simpa using d1) (Ev.bind Qk (Ev.pos d2 (Ev.bind (gU _ h.qY) (Ev.pos (by simpa using d3) (Ev.bind ea (Ev.pos d4 (Ev.bind eb (Ev.pos d5 (Ev.bind ec (Ev.pos d6 (Ev.bind (bT _ _ _) (Ev.pos (by simpa using d7) (Ev.bind (bT _ _ _) Ev.ret))))))))))))))),
         Ev.eq (fun k => eP k o) (Ev.bind (dN _ h.score) (Ev.pos (by simpa using d1) (Ev.bind Zt (Ev.pos d2 (Ev.bind (jW _ h.qY) (Ev.pos (by simpa using d3) (Ev.bind XT (Ev.pos d4 (Ev.bind eb' (Ev.pos d5 (Ev.bind ec' (Ev.pos d6 (Ev.bind (aI _ _ _) (Ev.pos (by simpa using d7) (Ev.bind (aI _ _ _) Ev.ret)))))))))))))))⟩
       ·exact ⟨false, Ev.eq (fun k => bS k o) (Ev.bind (dB _ h.score) (Ev.pos (by simpa using d1) (Ev.bind Qk (Ev.pos d2 (Ev.bind (gU _ h.qY) (Ev.pos (by simpa using d3) (Ev.bind ea (Ev.pos d4 (Ev.bind eb (Ev.pos d5 (Ev.bind ec (Ev.pos d6 (Ev.bind (bT _ _ _) (Ev.neg (by simpa using d7) Ev.ret)))))))))))))),
         Ev.eq (fun k => eP k o) (Ev.bind (dN _ h.score) (Ev.pos (by simpa using d1) (Ev.bind Zt (Ev.pos d2 (Ev.bind (jW _ h.qY) (Ev.pos (by simpa using d3) (Ev.bind XT (Ev.pos d4 (Ev.bind eb' (Ev.pos d5 (Ev.bind ec' (Ev.pos d6 (Ev.bind (aI _ _ _) (Ev.neg (by simpa using d7) Ev.ret))))))))))))))⟩
      ·exact ⟨false, Ev.eq (fun k => bS k o) (Ev.bind (dB _ h.score) (Ev.pos (by simpa using d1) (Ev.bind Qk (Ev.pos d2 (Ev.bind (gU _ h.qY) (Ev.pos (by simpa using d3) (Ev.bind ea (Ev.pos d4 (Ev.bind eb (Ev.pos d5 (Ev.bind ec (Ev.neg d6 Ev.ret)))))))))))),
        Ev.eq (fun k => eP k o) (Ev.bind (dN _ h.score) (Ev.pos (by simpa using d1) (Ev.bind Zt (Ev.pos d2 (Ev.bind (jW _ h.qY) (Ev.pos (by simpa using d3) (Ev.bind XT (Ev.pos d4 (Ev.bind eb' (Ev.pos d5 (Ev.bind ec' (Ev.neg d6 Ev.ret))))))))))))⟩
     ·exact ⟨false, Ev.eq (fun k => bS k o) (Ev.bind (dB _ h.score) (Ev.pos (by simpa using d1) (Ev.bind Qk (Ev.pos d2 (Ev.bind (gU _ h.qY) (Ev.pos (by simpa using d3) (Ev.bind ea (Ev.pos d4 (Ev.bind eb (Ev.neg d5 Ev.ret)))))))))),
       Ev.eq (fun k => eP k o) (Ev.bind (dN _ h.score) (Ev.pos (by simpa using d1) (Ev.bind Zt (Ev.pos d2 (Ev.bind (jW _ h.qY) (Ev.pos (by simpa using d3) (Ev.bind XT (Ev.pos d4 (Ev.bind eb' (Ev.neg d5 Ev.ret))))))))))⟩
    ·exact ⟨false, Ev.eq (fun k => bS k o) (Ev.bind (dB _ h.score) (Ev.pos (by simpa using d1) (Ev.bind Qk (Ev.pos d2 (Ev.bind (gU _ h.qY) (Ev.pos (by simpa using d3) (Ev.bind ea (Ev.neg d4 Ev.ret)))))))),
      Ev.eq (fun k => eP k o) (Ev.bind (dN _ h.score) (Ev.pos (by simpa using d1) (Ev.bind Zt (Ev.pos d2 (Ev.bind (jW _ h.qY) (Ev.pos (by simpa using d3) (Ev.bind XT (Ev.neg d4 Ev.ret))))))))⟩
   ·exact ⟨false, Ev.eq (fun k => bS k o) (Ev.bind (dB _ h.score) (Ev.pos (by simpa using d1) (Ev.bind Qk (Ev.pos d2 (Ev.bind (gU _ h.qY) (Ev.neg (by simpa using d3) Ev.ret)))))),
     Ev.eq (fun k => eP k o) (Ev.bind (dN _ h.score) (Ev.pos (by simpa using d1) (Ev.bind Zt (Ev.pos d2 (Ev.bind (jW _ h.qY) (Ev.neg (by simpa using d3) Ev.ret))))))⟩
  ·exact ⟨false, Ev.eq (fun k => bS k o) (Ev.bind (dB _ h.score) (Ev.pos (by simpa using d1) (Ev.bind Qk (Ev.neg d2 Ev.ret)))),
    Ev.eq (fun k => eP k o) (Ev.bind (dN _ h.score) (Ev.pos (by simpa using d1) (Ev.bind Zt (Ev.neg d2 Ev.ret))))⟩
 ·exact ⟨false, Ev.eq (fun k => bS k o) (Ev.bind (dB _ h.score) (Ev.neg (by simpa using d1) Ev.ret)),
   Ev.eq (fun k => eP k o) (Ev.bind (dN _ h.score) (Ev.neg (by simpa using d1) Ev.ret))⟩
theorem JY (m : bE) : ∃ r, Ev (fun k => uQ k m) r := by
 by_cases c1 : 1 <= (m.1 : Int) /\ (m.1 : Int) <= 12
 ·by_cases d1 : (m.2.1 : Int) = 1
  ·exact ⟨true, Ev.eq (fun k => gT k m) (Ev.bind (bT _ _ _) (Ev.pos (by simpa using c1) (Ev.pos d1 Ev.ret)))⟩
  ·by_cases d2 : (m.2.1 : Int) = 2
   ·exact ⟨true, Ev.eq (fun k => gT k m) (Ev.bind (bT _ _ _) (Ev.pos (by simpa using c1) (Ev.neg d1 (Ev.pos d2 Ev.ret))))⟩
   ·by_cases d3 : (m.2.1 : Int) = 4
    ·exact ⟨true, Ev.eq (fun k => gT k m) (Ev.bind (bT _ _ _) (Ev.pos (by simpa using c1) (Ev.neg d1 (Ev.neg d2 (Ev.pos d3 Ev.ret)))))⟩
    ·exact ⟨_, Ev.eq (fun k => gT k m) (Ev.bind (bT _ _ _) (Ev.pos (by simpa using c1) (Ev.neg d1 (Ev.neg d2 (Ev.neg d3 Ev.ret)))))⟩
 ·exact ⟨false, Ev.eq (fun k => gT k m) (Ev.bind (bT _ _ _) (Ev.neg (by simpa using c1) Ev.ret))⟩
theorem Jf (o : aV) (h : Sm o) : ∃ r, Ev (fun k => fM k o) r := by
 obtain ⟨m, Qk⟩ := JY o.2.1
 obtain ⟨a', ea, ha⟩ := uX o.2.2.2.2.2.1 h.marks
 obtain ⟨b', eb, hb⟩ := Ag o.2.2.2.2.2.2.1 h.letters
 obtain ⟨c', ec, hc⟩ := Ai o.2.2.2.1 o.1 o.2.2.2.2.1 h.Gx h.score h.seats
 by_cases d1 : gD o.1
 ·by_cases d2 : m = true
  ·by_cases d3 : yH o.2.2.1
   ·by_cases d4 : a' = true
    ·by_cases d5 : b' = true
     ·by_cases d6 : c' = true
      ·by_cases d7 : 1 <= (o.2.2.2.2.2.2.2.1 : Int) /\ (o.2.2.2.2.2.2.2.1 : Int) <= 9999
       ·exact ⟨_, Ev.eq (fun k => bS k o) (Ev.bind (dB _ h.score) (Ev.pos (by simpa using d1) (Ev.bind Qk (Ev.pos d2 (Ev.bind (gU _ h.qY) (Ev.pos (by simpa using d3) (Ev.bind ea (Ev.pos d4 (Ev.bind eb (Ev.pos d5 (Ev.bind ec (Ev.pos d6 (Ev.bind (bT _ _ _) (Ev.pos (by simpa using d7) (Ev.bind (bT _ _ _) Ev.ret)))))))))))))))⟩
       ·exact ⟨false, Ev.eq (fun k => bS k o) (Ev.bind (dB _ h.score) (Ev.pos (by simpa using d1) (Ev.bind Qk (Ev.pos d2 (Ev.bind (gU _ h.qY) (Ev.pos (by simpa using d3) (Ev.bind ea (Ev.pos d4 (Ev.bind eb (Ev.pos d5 (Ev.bind ec (Ev.pos d6 (Ev.bind (bT _ _ _) (Ev.neg (by simpa using d7) Ev.ret))))))))))))))⟩
      ·exact ⟨false, Ev.eq (fun k => bS k o) (Ev.bind (dB _ h.score) (Ev.pos (by simpa using d1) (Ev.bind Qk (Ev.pos d2 (Ev.bind (gU _ h.qY) (Ev.pos (by simpa using d3) (Ev.bind ea (Ev.pos d4 (Ev.bind eb (Ev.pos d5 (Ev.bind ec (Ev.neg d6 Ev.ret))))))))))))⟩
     ·exact ⟨false, Ev.eq (fun k => bS k o) (Ev.bind (dB _ h.score) (Ev.pos (by simpa using d1) (Ev.bind Qk (Ev.pos d2 (Ev.bind (gU _ h.qY) (Ev.pos (by simpa using d3) (Ev.bind ea (Ev.pos d4 (Ev.bind eb (Ev.neg d5 Ev.ret))))))))))⟩
    ·exact ⟨false, Ev.eq (fun k => bS k o) (Ev.bind (dB _ h.score) (Ev.pos (by simpa using d1) (Ev.bind Qk (Ev.pos d2 (Ev.bind (gU _ h.qY) (Ev.pos (by simpa using d3) (Ev.bind ea (Ev.neg d4 Ev.ret))))))))⟩
   ·exact ⟨false, Ev.eq (fun k => bS k o) (Ev.bind (dB _ h.score) (Ev.pos (by simpa using d1) (Ev.bind Qk (Ev.pos d2 (Ev.bind (gU _ h.qY) (Ev.neg (by simpa using d3) Ev.ret))))))⟩
  ·exact ⟨false, Ev.eq (fun k => bS k o) (Ev.bind (dB _ h.score) (Ev.pos (by simpa using d1) (Ev.bind Qk (Ev.neg d2 Ev.ret))))⟩
 ·exact ⟨false, Ev.eq (fun k => bS k o) (Ev.bind (dB _ h.score) (Ev.neg (by simpa using d1) Ev.ret))⟩
theorem Zu (l : List bn) (h : Bk (.list bV) l) : Ev (fun k => gW k l) l := by
 have hl : l.length <= 1048576 := h.1
 have key : ∀ d (i : Nat) (s : List bn), i + d = l.length -> s.length = i -> s ++ l.drop i = l -> E2 (fun k m => gW.l0 k m l (i : Int) s) l := by
  intro d
  induction d with
  | zero =>
   intro i s hi hs ht
   have hi : i = l.length := by omega
   subst hi
   have e : E2 (fun k m => gW.l0 k m l ((l.length : Nat) : Int) s) s := by
    refine E2.eq (fun k m => gW.aA k m l _ s) ?_
    refine E2.neg (by omega) ?_
    exact E2.ret
   exact e.val (by rw [<- ht]; simp)
  | succ d ih =>
   intro i s hi hs ht
   have hi' : i < l.length := by omega
   have hb := (bk_rd h hi').2.2.2.1.1
   refine E2.eq (fun k m => gW.aA k m l _ s) ?_
   refine E2.pos (by omega) ?_
   refine E2.pos (by omega) ?_
   refine E2.pos (by omega) ?_
   refine E2.pos (by simp only [List.length_nil]; omega) ?_
   refine E2.pos (by simp only [List.length_cons, List.length_nil]; omega) ?_
   simp only [cZ (show i < 9223372036854775807 by omega)]
   refine ih (i + 1) _ (by omega) (by simp; omega) ?_
   rw [List.append_assoc]
   refine Eq.trans ?_ ht
   congr 1
   exact (Rb (t := bV) hi').symm
 exact Ev.eq (fun k => FQ k l) (Ev.loop (f := fun k m => gW.l0 k m l 0 []) (key l.length 0 [] (by omega) rfl (by simp)))
theorem xg (o : aV) (h : Bk iF o) : Ev (fun k => jS k o) o := by
 have h1 := h.1.1
 have h2 := h.2.2.1.1
 have h4 := h.2.2.2.2.1.1
 have h5 := h.2.2.2.2.2.1.1
 have h6 := h.2.2.2.2.2.2.1.1
 refine Ev.eq (fun k => FM k o) ?_
 refine Ev.pos (by simp only [List.length_nil]; omega) ?_
 refine Ev.pos (by simp only [List.length_nil]; omega) ?_
 refine Ev.bind (Zu o.2.2.2.1 h.2.2.2.1) ?_
 refine Ev.pos (by simp only [List.length_nil]; omega) ?_
 refine Ev.pos (by simp only [List.length_nil]; omega) ?_
 refine Ev.pos (by simp only [List.length_nil]; omega) ?_
 exact Ev.ret
theorem KZ (l : List Int) (hl : l.length <= 1048576) : Ev (fun k => qV k l) l :=
 Ev.eq (fun k => Dt k l) (Ev.pos (by simp only [List.length_nil]; omega) Ev.ret)
theorem Tw (l : List bE) (hl : l.length <= 1048576) : Ev (fun k => mQ k l) l :=
 Ev.eq (fun k => wY k l) (Ev.pos (by simp only [List.length_nil]; omega) Ev.ret)
theorem xR (l : List aU) (hl : l.length <= 1048576) : Ev (fun k => iO k l) l :=
 Ev.eq (fun k => xO k l) (Ev.pos (by simp only [List.length_nil]; omega) Ev.ret)
theorem Tx (l : List bE) (hl : l.length <= 1048576) : Ev (fun k => mg k l) l :=
 Ev.eq (fun k => wh k l) (Ev.pos (by simp only [List.length_nil]; omega) Ev.ret)
theorem La (p : bn) (h : Bk bV p) : Ev (fun k => nX k p) p :=
 Ev.eq (fun k => AZ k p) (Ev.bind (KZ _ h.2.2.2.1.1) Ev.ret)
theorem xS (o : aV) (h : Bk iF o) : Ev (fun k => ay k o) o := by
 have hp : Bk (.list bV) o.2.2.2.1 := h.2.2.2.1
 have hl : o.2.2.2.1.length <= 1048576 := hp.1
 have key : ∀ d (i : Nat) (s : List bn), i + d = o.2.2.2.1.length -> s.length = i -> s ++ o.2.2.2.1.drop i = o.2.2.2.1 -> E2 (fun k m => ay.l0 k m o.2.2.2.1 ((List.length o.2.2.2.1 : Nat) : Int) (i : Int) o.1 o.2.1.1 o.2.1.2.1 o.2.2.1 o.2.2.2.1 o.2.2.2.2.1 o.2.2.2.2.2.1 o.2.2.2.2.2.2.1 o.2.2.2.2.2.2.2.1 o.2.2.2.2.2.2.2.2.1 0 0 0 0 s) o := by
  intro d
  induction d with
  | zero =>
   intro i s hi hs ht
   have hi : i = o.2.2.2.1.length := by omega
   subst hi
   have hs' : s = o.2.2.2.1 := by rw [<- ht]; simp
   subst hs'
   refine E2.eq (fun k m => ay.aA k m _ _ _ _ _ _ _ _ _ _ _ _ _ _ _ _ _ _) ?_
   refine E2.neg (by omega) ?_
   refine E2.bind (jC _ h.1.1) ?_
   refine E2.bind (Tw _ h.2.2.1.1) ?_
   refine E2.bind (KZ _ h.2.2.2.2.1.1) ?_
   refine E2.bind (xR _ h.2.2.2.2.2.1.1) ?_
   refine E2.bind (Tx _ h.2.2.2.2.2.2.1.1) ?_
   exact E2.ret
  | succ d ih =>
   intro i s hi hs ht
   have hi' : i < o.2.2.2.1.length := by omega
   refine E2.eq (fun k m => ay.aA k m _ _ _ _ _ _ _ _ _ _ _ _ _ _ _ _ _ _) ?_
   refine E2.pos (by omega) ?_
   refine E2.pos (by omega) ?_
   refine E2.pos (by omega) ?_
   refine E2.bind (La _ (bk_rd hp hi')) ?_
   refine E2.pos (by simp only [List.length_cons, List.length_nil]; omega) ?_
   simp only [cZ (show i < 9223372036854775807 by omega)]
   refine ih (i + 1) _ (by omega) (by simp; omega) ?_
   rw [List.append_assoc]
   refine Eq.trans ?_ ht
   congr 1
   exact (Rb (t := bV) hi').symm
 exact Ev.eq (fun k => vZ k o) (Ev.loop (f := fun k m => ay.l0 k m o.2.2.2.1 ((List.length o.2.2.2.1 : Nat) : Int) 0 o.1 o.2.1.1 o.2.1.2.1 o.2.2.1 o.2.2.2.1 o.2.2.2.2.1 o.2.2.2.2.2.1 o.2.2.2.2.2.2.1 o.2.2.2.2.2.2.2.1 o.2.2.2.2.2.2.2.2.1 0 0 0 0 []) (key o.2.2.2.1.length 0 [] (by omega) rfl (by simp)))
def Aj (l : List bE) (x : bE) (p : Nat) : List bE := if p < l.length /\ ((rd dn l (p : Int)).1 : Int) = x.1 then l.take p ++ [x] ++ l.drop (p + 1) else l.take p ++ [x] ++ l.drop p
theorem VE (l : List bE) (x : bE) (p : Nat) (hp : p <= l.length) : (Aj l x p).length <= l.length + 1 := by
 unfold Aj
 split
 ·simp; omega
 ·simp; omega
theorem Tz (l : List bE) (x : bE) (hl : l.length <= 1048576) (p : Nat) (hp : p <= l.length) (h1 : ∀ j, j < p -> ((rd dn l (j : Int)).1 : Int) < x.1) (h2 : p < l.length -> ¬ ((rd dn l (p : Int)).1 : Int) < x.1) :
  Ev (fun k => bf k l x) (if p < l.length then (p : Int) else -1) := by
 have key : ∀ d i : Nat, i + d = p -> E2 (fun k m => bf.l0 k m l x ((List.length l : Nat) : Int) (i : Int)) (if p < l.length then (p : Int) else -1) := by
  intro d
  induction d with
  | zero =>
   intro i hi
   have hi : i = p := by omega
   subst hi
   refine E2.eq (fun k m => bf.aA k m l x _ _) ?_
   by_cases c : i < l.length
   ·refine E2.pos (by omega) (E2.pos (by omega) (E2.pos (by omega) (E2.bind (Ev.eq (fun k => rA k _ _) Ev.ret) ?_)))
    have := h2 c
    exact E2.pos (by simp only [decide_eq_true_eq]; exact Int.not_lt.1 this) (E2.ret.val (by rw [if_pos c]))
   ·exact E2.neg (by omega) (E2.ret.val (by rw [if_neg c]))
  | succ d ih =>
   intro i hi
   refine E2.eq (fun k m => bf.aA k m l x _ _) ?_
   refine E2.pos (by omega) (E2.pos (by omega) (E2.pos (by omega) (E2.bind (Ev.eq (fun k => rA k _ _) Ev.ret) ?_)))
   have := h1 i (by omega)
   refine E2.neg (by simp only [decide_eq_true_eq]; exact Int.not_le.2 this) ?_
   simp only [cZ (show i < 9223372036854775807 by omega)]
   exact ih (i + 1) (by omega)
 exact Ev.eq (fun k => pY k l x) (Ev.loop (f := fun k m => bf.l0 k m l x ((List.length l : Nat) : Int) 0) (key p 0 (by omega)))
theorem Ev.uniq {α : Type} {f : Nat -> Option α} {a b : α} (h : Ev f a) (k : Ev f b) : a = b := by
 obtain ⟨K, h⟩ := h
 obtain ⟨M, k⟩ := k
 have h1 := h (max K M) (by omega)
 rw [k (max K M) (by omega)] at h1
 exact (Option.some.inj h1).symm
theorem nY (Q : Nat -> Prop) : ∀ n, ∃ p, p <= n /\ (∀ j, j < p -> Q j) /\ (p < n -> ¬ Q p)
 | 0 => ⟨0, Nat.le_refl _, fun j hj => by omega, fun h => by omega⟩
 | n + 1 => by
  obtain ⟨p, h1, h2, h3⟩ := nY Q n
  by_cases hp : p < n
  ·exact ⟨p, by omega, h2, fun _ => h3 hp⟩
  ·have : p = n := by omega
   subst this
   by_cases hq : Q p
   ·exact ⟨p + 1, Nat.le_refl _, fun j hj => by
     by_cases h : j = p
     ·subst h; exact hq
     ·exact h2 j (by omega), fun h => by omega⟩
   ·exact ⟨p, by omega, h2, fun _ => hq⟩
theorem Zv (x y : Int) : Ev (fun k => IV k x y) (if y < x then y else x) := by
 refine Ev.eq (fun k => Ou k x y) ?_
 by_cases c : y < x
 ·exact (Ev.pos c Ev.ret).val (by rw [if_pos c])
 ·exact (Ev.neg c Ev.ret).val (by rw [if_neg c])
theorem Sc (x e : aF) : Ev (fun k => uj k x e) (decide (¬ zR x e)) :=
 Ev.eq (fun k => Cj k x e) (Ev.bind (xL x e) (Ev.ret.val (by
  have := Ay x e
  by_cases h : zR x e
  ·have := this.2 h; simp [h]; omega
  ·have := mt this.1 h; simp [h]; omega)))
theorem TA {a b c : aF} (h : zR a b) (k : zR b c) : zR a c := by unfold zR at *; omega
theorem XU (a : aF) : ¬ zR a a := by unfold zR; omega
theorem TB {l : List aF} (h : ∀ i, i < l.length -> QS l i) : ∀ d i : Nat, i + d + 1 < l.length -> zR (rd bR l (i : Int)) (rd bR l ((i + d + 1 : Nat) : Int)) := by
 intro d
 induction d with
 | zero => intro i hi; exact (h (i + 1) (by omega)).2 (by omega)
 | succ d ih => intro i hi; exact TA (ih i (by omega)) ((h (i + (d + 1) + 1) (by omega)).2 (by omega))
theorem Oz {l : List aF} (h : ∀ i, i < l.length -> QS l i) {i j : Nat} (hij : i < j) (hj : j < l.length) : rd bR l (i : Int) ≠ rd bR l (j : Int) := fun e => by
 have := TB h (j - i - 1) i (by omega)
 rw [show i + (j - i - 1) + 1 = j by omega, e] at this
 exact XU _ this
theorem Mw (a b : aF) : ((a.1 : Int) = b.1 /\ ((a.2.1 : Int) = b.2.1 /\ ((a.2.2.1 : Int) = b.2.2.1 /\ (a.2.2.2.1 : Int) = b.2.2.2.1))) ↔ a = b := by
 obtain ⟨a1, a2, a3, a4, ⟨⟩⟩ := a
 obtain ⟨b1, b2, b3, b4, ⟨⟩⟩ := b
 constructor
 ·rintro ⟨h1, h2, h3, h4⟩
  simp only at h1 h2 h3 h4
  rw [h1, h2, h3, h4]
 ·intro h
  injection h with h1 h
  injection h with h2 h
  injection h with h3 h
  injection h with h4 h
  exact ⟨h1, h2, h3, h4⟩
def Jg (l : List aF) (e : aF) (i : Nat) : List aF := (l.take i).filter fun x => decide (x ≠ e)
theorem TD {l : List aF} {e : aF} {i : Nat} : (Jg l e i).length <= l.length := by
 unfold Jg
 refine Nat.le_trans (List.length_filter_le _ _) ?_
 simp
 omega
theorem OA {l : List aF} {e : aF} {p : Nat} (h : ∀ i, i < l.length -> QS l i) (hp : p < l.length) (he : rd bR l (p : Int) = e) : Jg l e l.length = l.take p ++ l.drop (p + 1) := by
 have hne : ∀ j : Nat, (hj : j < l.length) -> j ≠ p -> l[j] ≠ e := fun j hj hjp MX => by
  have MX : rd bR l (j : Int) = e := (fT (t := bR) (l := l) hj).trans MX
  rcases Nat.lt_or_gt_of_ne hjp with hlt | hgt
  ·exact Oz h hlt hp (MX.trans he.symm)
  ·exact Oz h hgt hj (he.trans MX.symm)
 unfold Jg
 rw [List.take_length]
 have e1 : l = l.take p ++ l[p] :: l.drop (p + 1) := by
  have := List.take_append_drop p l
  rw [List.drop_eq_getElem_cons hp] at this
  exact this.symm
 have hpe : l[p] = e := (fT (t := bR) (l := l) hp).symm.trans he
 have f1 : (l.take p).filter (fun x => decide (x ≠ e)) = l.take p := List.filter_eq_self.2 fun x hx => by
  obtain ⟨j, hj, rfl⟩ := List.getElem_of_mem hx
  have hj' : j < p := by simp at hj; omega
  rw [List.getElem_take]
  simpa using hne j (by omega) (by omega)
 have f2 : (l.drop (p + 1)).filter (fun x => decide (x ≠ e)) = l.drop (p + 1) := List.filter_eq_self.2 fun x hx => by
  obtain ⟨j, hj, rfl⟩ := List.getElem_of_mem hx
  have hj' : p + 1 + j < l.length := by simp at hj; omega
  rw [List.getElem_drop]
  simpa using hne (p + 1 + j) hj' (by omega)
 conv => lhs; rw [e1]
 rw [List.filter_append, List.filter_cons, f1, f2]
 simp [hpe]
def Wu (a b : aU) : Prop := (a.1 : Int) = b.1 /\ (a.2.1 : Int) = b.2.1
instance (a b : aU) : Decidable (Wu a b) := by unfold Wu; infer_instance
def XV (a b : aU) : Prop := (b.2.2.2.1 : Int) < a.2.2.2.1 \/ (b.2.2.2.1 : Int) = a.2.2.2.1 /\ ((b.2.2.2.2.1 : Int) < a.2.2.2.2.1 \/ (b.2.2.2.2.1 : Int) = a.2.2.2.2.1 /\ (b.2.2.1 : Int) < a.2.2.1)
instance (a b : aU) : Decidable (XV a b) := by unfold XV; infer_instance
theorem TF (a b : aU) : Ev (fun k => uS k a b) (decide (XV a b)) := by
 refine Ev.eq (fun k => FT k a b) ?_
 unfold XV
 by_cases c1 : (a.2.2.2.1 : Int) = b.2.2.2.1
 ·refine Ev.neg (by omega) ?_
  by_cases c2 : (a.2.2.2.2.1 : Int) = b.2.2.2.2.1
  ·exact Ev.neg (by omega) (Ev.ret.val (by congr 1; exact propext ⟨fun h => .inr ⟨c1.symm, .inr ⟨c2.symm, h⟩⟩, fun h => by omega⟩))
  ·exact Ev.pos (by omega) (Ev.ret.val (by congr 1; exact propext ⟨fun h => .inr ⟨c1.symm, .inl h⟩, fun h => by omega⟩))
 ·exact Ev.pos (by omega) (Ev.ret.val (by congr 1; exact propext ⟨fun h => .inl h, fun h => by omega⟩))
theorem TG (a b : aU) : Ev (fun k => yG k a b) (decide (XV a b)) :=
 Ev.eq (fun k => FU k a b) (Ev.bind (ug _ _) (Ev.bind (ug _ _) (Ev.bind (ug _ _) (Ev.bind (Rc _ _ _) (Ev.ret.val (by
  congr 1
  unfold XV Mj yV
  refine propext ?_
  repeat' split
  all_goals omega))))))
def ze (l : List aU) (x : aU) (p : Nat) : List aU :=
 if p < l.length /\ Wu (rd dY l (p : Int)) x then (if XV x (rd dY l (p : Int)) then l.take p ++ [x] ++ l.drop (p + 1) else l) else l.take p ++ [x] ++ l.drop p
theorem OB (l : List aU) (x : aU) (p : Nat) (hp : p <= l.length) : (ze l x p).length <= l.length + 1 := by
 unfold ze
 split
 ·split
  ·simp; omega
  ·omega
 ·simp; omega
theorem VF {l : List aU} {i : Nat} (hi : i < l.length) : rd dY (l.drop i) (0 : Int) = rd dY l (i : Int) := by
 show (l.drop i).getD (Int.toNat 0) _ = l.getD (Int.toNat (i : Int)) _
 simp [List.getD]
theorem Sd (l : List aU) (x : aU) (hl : l.length <= 1048576) (p : Nat) (hp : p <= l.length) (h1 : ∀ j, j < p -> uW (rd dY l (j : Int)) x) (h2 : p < l.length -> ¬ uW (rd dY l (p : Int)) x) : Ev (fun k => iY k l x) (ze l x p) := by
 have key : ∀ d i : Nat, i + d = p -> E2 (fun k m => iY.l0 k m l (i : Int) x.1 x.2.1 x.2.2.1 x.2.2.2.1 x.2.2.2.2.1) (ze l x p) := by
  intro d
  induction d with
  | zero =>
   intro i hi
   have hi : i = p := by omega
   subst hi
   have hrest : List.take ((Int.toNat ((List.length l : Nat) : Int)) - (Int.toNat (i : Int))) (List.drop (Int.toNat (i : Int)) l) = l.drop i := by
    simp only [Int.toNat_natCast]
    rw [List.take_of_length_le (by simp)]
   have htake : List.take ((Int.toNat (i : Int)) - (Int.toNat 0)) (List.drop (Int.toNat 0) l) = l.take i := by simp
   have Zw : List.take ((Int.toNat ((List.length (l.drop i) : Nat) : Int)) - (Int.toNat 1)) (List.drop (Int.toNat 1) (l.drop i)) = l.drop (i + 1) := by
    have : Int.toNat 1 = 1 := rfl
    rw [this, Int.toNat_natCast, List.drop_drop, List.take_of_length_le (by simp; omega)]
   have hdl : (l.drop i).length = l.length - i := by simp
   have htl : (l.take i).length = i := by simp; omega
   have hx : (x.1, (x.2.1, (x.2.2.1, (x.2.2.2.1, (x.2.2.2.2.1, ()))))) = x := rfl
   refine E2.eq (fun k m => iY.aA k m l _ _ _ _ _ _) ?_
   simp only [hrest, htake, Zw, hx]
   by_cases c : i < l.length
   ·refine E2.pos (by omega) (E2.pos (by omega) (E2.pos (by omega) (E2.bind (yI _ _) (E2.neg (by simpa using h2 c) ?_))))
    refine E2.pos (by omega) (E2.pos (by omega) (E2.pos (by rw [hdl]; omega) (E2.pos (by omega) (E2.pos (by rw [hdl]; omega) ?_))))
    simp only [VF c]
    have last : ¬ (i < l.length /\ Wu (rd dY l (i : Int)) x) -> ze l x i = ([] ++ l.take i) ++ [x] ++ l.drop i := fun h => by unfold ze; rw [if_neg h]; rfl
    by_cases q1 : ((rd dY l (i : Int)).1 : Int) = x.1
    ·refine E2.pos q1 (E2.pos (by omega) (E2.pos (by rw [hdl]; omega) ?_))
     by_cases q2 : ((rd dY l (i : Int)).2.1 : Int) = x.2.1
     ·refine E2.pos q2 (E2.pos (by omega) (E2.pos (by rw [hdl]; omega) (E2.bind (TF _ _) ?_)))
      have hk : i < l.length /\ Wu (rd dY l (i : Int)) x := ⟨c, q1, q2⟩
      by_cases q3 : XV x (rd dY l (i : Int))
      ·refine E2.neg (by simpa using q3) (E2.pos (by omega) (E2.pos (by rw [hdl]; omega) (E2.pos (by omega) (E2.pos (by omega) (E2.pos (by simp only [List.length_nil, htl]; omega) (E2.pos (by simp only [List.length_append, List.length_nil, List.length_singleton, htl]; omega) (E2.pos (by simp only [List.length_append, List.length_nil, List.length_singleton, List.length_drop, htl]; omega) ?_)))))))
       exact E2.ret.val (by unfold ze; rw [if_pos hk, if_pos q3]; rfl)
      ·exact E2.pos (by simpa using q3) (E2.pos (by simp only [List.length_nil]; omega) (E2.ret.val (by unfold ze; rw [if_pos hk, if_neg q3]; rfl)))
     ·refine E2.neg q2 (E2.pos (by omega) (E2.pos (by omega) (E2.pos (by simp only [List.length_nil, htl]; omega) (E2.pos (by simp only [List.length_append, List.length_nil, List.length_singleton, htl]; omega) (E2.pos (by simp only [List.length_append, List.length_nil, List.length_singleton, List.length_drop, htl]; omega) ?_)))))
      exact E2.ret.val (last fun h => q2 h.2.2).symm
    ·refine E2.neg q1 (E2.pos (by omega) (E2.pos (by omega) (E2.pos (by simp only [List.length_nil, htl]; omega) (E2.pos (by simp only [List.length_append, List.length_nil, List.length_singleton, htl]; omega) (E2.pos (by simp only [List.length_append, List.length_nil, List.length_singleton, List.length_drop, htl]; omega) ?_)))))
     exact E2.ret.val (last fun h => q1 h.2.1).symm
   ·refine E2.neg (by omega) (E2.pos (by omega) (E2.pos (by omega) (E2.neg (by rw [hdl]; omega) ?_)))
    refine E2.pos (by omega) (E2.pos (by omega) (E2.pos (by simp only [List.length_nil, htl]; omega) (E2.pos (by simp only [List.length_append, List.length_nil, List.length_singleton, htl]; omega) (E2.pos (by simp only [List.length_append, List.length_nil, List.length_singleton, List.length_drop, htl]; omega) ?_))))
    exact E2.ret.val (by unfold ze; rw [if_neg (fun h => c h.1)]; rfl)
  | succ d ih =>
   intro i hi
   refine E2.eq (fun k m => iY.aA k m l _ _ _ _ _ _) (E2.pos (by omega) (E2.pos (by omega) (E2.pos (by omega) (E2.bind (yI _ _) (E2.pos (by simpa using h1 i (by omega)) ?_)))))
   simp only [cZ (show i < 9223372036854775807 by omega)]
   exact ih (i + 1) (by omega)
 exact Ev.eq (fun k => Jc k l x) (Ev.loop (f := fun k m => iY.l0 k m l 0 x.1 x.2.1 x.2.2.1 x.2.2.2.1 x.2.2.2.2.1) (key p 0 (by omega)))
theorem Zx {i j : Nat} (hi : i <= 1048577) (hj : j <= 1048577) : IntKind.wrap .i64 (Int.fdiv (IntKind.wrap .u64 (IntKind.wrap .i64 ((i : Int) + (j : Int)))) (2 ^ (min (Int.toNat 1) (IntKind.bits .u64)))) = (((i + j) / 2 : Nat) : Int) := by
 have w64 : ∀ n : Int, IntKind.wrap .u64 n = n % 18446744073709551616 := fun n => by simp [IntKind.wrap, IntKind.bits, IntKind.signed]
 have e1 : IntKind.wrap .i64 ((i : Int) + (j : Int)) = ((i + j : Nat) : Int) := by rw [IntKind.wrap_i64]; omega
 have e2 : IntKind.wrap .u64 ((i + j : Nat) : Int) = ((i + j : Nat) : Int) := by rw [w64]; omega
 have e3 : (2 : Int) ^ (min (Int.toNat 1) (IntKind.bits .u64)) = 2 := rfl
 have e4 : Int.fdiv ((i + j : Nat) : Int) 2 = (((i + j) / 2 : Nat) : Int) := by
  rw [Int.fdiv_eq_ediv_of_nonneg _ (by omega)]
  omega
 rw [e1, e2, e3, e4, IntKind.wrap_i64]
 omega
theorem Jh {a b c : aU} (h : uW a b) (k : uW b c) : uW a c := by unfold uW at *; omega
theorem TH {l : List aU} (h : ∀ i, i < l.length -> QM l i) : ∀ d i : Nat, i + d + 1 < l.length -> uW (rd dY l (i : Int)) (rd dY l ((i + d + 1 : Nat) : Int)) := by
 intro d
 induction d with
 | zero => intro i hi; exact (h (i + 1) (by omega)).2 (by omega)
 | succ d ih => intro i hi; exact Jh (ih i (by omega)) ((h (i + (d + 1) + 1) (by omega)).2 (by omega))
theorem TI (a b : aU) (h : ¬ uW a b) : VD a b = 0 ↔ Wu a b := by
 unfold VD Mj yV Wu
 unfold uW at h
 repeat' split
 all_goals omega
theorem TJ (l : List aU) (x : aU) (hl : l.length <= 1048576) (p : Nat) (hp : p <= l.length) (h1 : ∀ j, j < p -> uW (rd dY l (j : Int)) x) (h2 : ∀ j, p <= j -> j < l.length -> ¬ uW (rd dY l (j : Int)) x) :
  Ev (fun k => aL k l x) ((p : Int), (decide (p < l.length /\ Wu (rd dY l (p : Int)) x), ())) := by
 have hx : (x.1, (x.2.1, (x.2.2.1, (x.2.2.2.1, (x.2.2.2.2.1, ()))))) = x := rfl
 have key : ∀ d i j : Nat, j - i <= d -> i <= p -> p <= j -> j <= l.length -> E2 (fun k m => aL.l0 k m l ((List.length l : Nat) : Int) (i : Int) (j : Int) x.1 x.2.1 x.2.2.1 x.2.2.2.1 x.2.2.2.2.1) ((p : Int), (decide (p < l.length /\ Wu (rd dY l (p : Int)) x), ())) := by
  intro d
  induction d with
  | zero =>
   intro i j hd hi hj hjl
   have Zg : i = p := by omega
   subst Zg
   refine E2.eq (fun k m => aL.aA k m l _ _ _ _ _ _ _ _) ?_
   simp only [hx]
   refine E2.neg (by omega) ?_
   by_cases c : i < l.length
   ·refine E2.pos (by omega) (E2.pos (by omega) (E2.pos (by omega) (E2.bind (AB _ _) (E2.ret.val ?_))))
    have := TI _ _ (h2 i (Nat.le_refl _) c)
    simp [c, this]
   ·exact E2.neg (by omega) (E2.ret.val (by simp [c]))
  | succ d ih =>
   intro i j hd hi hj hjl
   by_cases hij : i < j
   ·refine E2.eq (fun k m => aL.aA k m l _ _ _ _ _ _ _ _) ?_
    simp only [hx, Zx (show i <= 1048577 by omega) (show j <= 1048577 by omega), cZ (show (i + j) / 2 < 9223372036854775807 by omega)]
    refine E2.pos (by omega) (E2.neg (by omega) (E2.pos (by omega) (E2.pos (by omega) (E2.bind (AB _ _) ?_))))
    by_cases c : (i + j) / 2 < p
    ·exact E2.pos ((Gv _ _).2 (h1 _ c)) (ih _ _ (by omega) (by omega) hj hjl)
    ·exact E2.neg (mt (Gv _ _).1 (h2 _ (by omega) (by omega))) (ih _ _ (by omega) hi (by omega) (by omega))
   ·exact ih i j (by omega) hi hj hjl
 exact Ev.eq (fun k => mU k l x) (Ev.loop (f := fun k m => aL.l0 k m l ((List.length l : Nat) : Int) 0 ((List.length l : Nat) : Int) x.1 x.2.1 x.2.2.1 x.2.2.2.1 x.2.2.2.2.1) (key l.length 0 l.length (by omega) (by omega) hp (Nat.le_refl _)))
theorem XW (l : List aU) (x : aU) (hl : l.length <= 1048576) (p : Nat) (hp : p <= l.length) (h1 : ∀ j, j < p -> uW (rd dY l (j : Int)) x) (h2 : ∀ j, p <= j -> j < l.length -> ¬ uW (rd dY l (j : Int)) x) : Ev (fun k => IY k l x) (ze l x p) := by
 refine Ev.eq (fun k => Ov k l x) (Ev.bind (TJ l x hl p hp h1 h2) ?_)
 by_cases c : p < l.length /\ Wu (rd dY l (p : Int)) x
 ·refine Ev.neg (by simpa using c) (Ev.pos (by show (0 : Int) <= (p : Int); omega) (Ev.pos (by show (p : Int) < _; omega) (Ev.bind (TG _ _) ?_)))
  unfold ze
  rw [if_pos c]
  by_cases q : XV x (rd dY l (p : Int))
  ·rw [if_pos q]
   refine Ev.pos (by simpa using q) (Ev.pos (by show (0 : Int) <= (p : Int); omega) (Ev.pos (by show (p : Int) < _; omega) (Ev.ret.val ?_)))
   show l.set (Int.toNat (p : Int)) x = _
   rw [Int.toNat_natCast, List.set_eq_take_append_cons_drop, if_pos c.1]
   simp
  ·rw [if_neg q]
   exact Ev.neg (by simpa using q) Ev.ret
 ·refine Ev.pos (by simpa using c) (Ev.bind ?_ Ev.ret)
  refine Ev.eq (f := fun _ => some (ze l x p)) (fun k => ?_) Ev.ret
  rw [vV]
  have := sJ (T := dY) (B := 40) (l := l) (i := (p : Int)) (x := x) (by omega) (by omega) (by omega)
  unfold ze
  rw [if_neg c]
  simpa using this
theorem TK (l : List aU) (x : aU) (hl : l.length <= 1048576) : ∃ v : List aU, v.length <= 1048576 /\ Ev (fun k => qU k l x) v /\ Ev (fun k => yE k l x) v := by
 obtain ⟨p, hp, h1, h2⟩ := nY (fun i => uW (rd dY l (i : Int)) x) l.length
 have hs := Sd l x hl p hp h1 h2
 have hvl := OB l x p hp
 obtain ⟨a, ea, ha⟩ := uX l hl
 obtain ⟨a', XT, ha'⟩ := Dx l hl
 obtain rfl : a' = a := by rw [Bool.eq_iff_iff]; exact ha'.trans ha.symm
 obtain ⟨b, eb, hb⟩ := wZ (ze l x p) (by omega)
 obtain ⟨b', eb', hb'⟩ := Bq (ze l x p) (by omega)
 obtain rfl : b' = b := by rw [Bool.eq_iff_iff]; exact hb'.trans hb.symm
 have sz : (List.length ([] : (List aU)) + List.length l) * 40 <= 211106232532992 := by rw [List.length_nil]; omega
 by_cases c : a' = true
 ·have hq := (ha.1 c).1
  have h2' : ∀ j, p <= j -> j < l.length -> ¬ uW (rd dY l (j : Int)) x := fun j hpj hj hbj => by
   rcases Nat.lt_or_ge p j with h | h
   ·have := TH hq (j - p - 1) p (by omega)
    rw [show p + (j - p - 1) + 1 = j by omega] at this
    exact h2 (by omega) (Jh this hbj)
   ·have : j = p := by omega
    subst this
    exact h2 hj hbj
  have hi := XW l x hl p hp h1 h2'
  by_cases d : b' = true
  ·have hlen := (hb.1 d).2
   simp only [decide_eq_true_eq] at hlen
   exact ⟨ze l x p, by omega, Ev.eq (fun k => kH k l x) (Ev.bind hs (Ev.bind ea (Ev.neg (by simpa using c) (Ev.bind eb (Ev.neg (by simpa using d) Ev.ret))))),
    Ev.eq (fun k => uz k l x) (Ev.bind XT (Ev.pos c (Ev.bind (xR _ hl) (Ev.bind hi (Ev.bind eb' (Ev.pos d Ev.ret))))))⟩
  ·exact ⟨l, hl, Ev.eq (fun k => kH k l x) (Ev.bind hs (Ev.bind ea (Ev.neg (by simpa using c) (Ev.bind eb (Ev.pos d (Ev.pos sz Ev.ret)))))),
    Ev.eq (fun k => uz k l x) (Ev.bind XT (Ev.pos c (Ev.bind (xR _ hl) (Ev.bind hi (Ev.bind eb' (Ev.neg d (Ev.bind (xR _ hl) Ev.ret)))))))⟩
 ·exact ⟨l, hl, Ev.eq (fun k => kH k l x) (Ev.bind hs (Ev.bind ea (Ev.pos c (Ev.pos sz Ev.ret)))), Ev.eq (fun k => uz k l x) (Ev.bind XT (Ev.neg c (Ev.bind (xR _ hl) Ev.ret)))⟩
theorem Mx (a b : aU) : ((a.1 : Int) = b.1 /\ ((a.2.1 : Int) = b.2.1 /\ ((a.2.2.1 : Int) = b.2.2.1 /\ ((a.2.2.2.1 : Int) = b.2.2.2.1 /\ (a.2.2.2.2.1 : Int) = b.2.2.2.2.1)))) ↔ a = b := by
 obtain ⟨a1, a2, a3, a4, a5, ⟨⟩⟩ := a
 obtain ⟨b1, b2, b3, b4, b5, ⟨⟩⟩ := b
 constructor
 ·rintro ⟨h1, h2, h3, h4, h5⟩
  simp only at h1 h2 h3 h4 h5
  rw [h1, h2, h3, h4, h5]
 ·intro h
  injection h with h1 h
  injection h with h2 h
  injection h with h3 h
  injection h with h4 h
  injection h with h5 h
  exact ⟨h1, h2, h3, h4, h5⟩
theorem Sg {a b : List aU} (h : a.length = b.length) : (∀ i, i < a.length -> rd dY a (i : Int) = rd dY b (i : Int)) ↔ a = b := by
 constructor
 ·intro H
  refine List.ext_getElem h fun i h1 h2 => ?_
  have := H i h1
  rwa [fT (t := dY) h1, fT (t := dY) h2] at this
 ·rintro rfl i _
  rfl
theorem XY (a b : List aU) (ha : a.length <= 1048576) : ∃ r, Ev (fun k => eU k a b) r /\ (r = true ↔ a = b) := by
 by_cases c : a.length = b.length
 ·obtain ⟨r, er, hr⟩ := gF (R := fun i v => E2 (fun k m => eU.l0 k m a b i) v) (n := a.length) (fun i => rd dY a (i : Int) = rd dY b (i : Int)) true (E2.eq (fun k m => eU.aA k m a b _) (E2.neg (by omega) E2.ret)) (fun i hi hq v e => by
   refine E2.eq (fun k m => eU.aA k m a b _) (E2.pos (by omega) (E2.pos (by omega) (E2.pos (by omega) (E2.pos (by omega) (E2.pos (by omega) (E2.neg (fun h => h ((Mx _ _).2 hq)) ?_))))))
   simp only [cZ (show i < 9223372036854775807 by omega)]
   exact e) (fun i hi hq => E2.eq (fun k m => eU.aA k m a b _) (E2.pos (by omega) (E2.pos (by omega) (E2.pos (by omega) (E2.pos (by omega) (E2.pos (by omega) (E2.pos (fun h => hq ((Mx _ _).1 h)) E2.ret)))))))
  refine ⟨r, Ev.eq (fun k => vT k a b) (Ev.neg (by omega) (Ev.loop (f := fun k m => eU.l0 k m a b 0) er)), hr.trans ⟨fun h => (Sg c).1 h.1, fun h => ⟨(Sg c).2 h, rfl⟩⟩⟩
 ·exact ⟨false, Ev.eq (fun k => vT k a b) (Ev.pos (by omega) Ev.ret), by simp only [Bool.false_eq_true, false_iff]; exact fun h => c (h ▸ rfl)⟩
theorem Si (a b : List aU) (ha : a.length <= 1048576) : ∃ r, Ev (fun k => bM k a b) r /\ (r = true ↔ a = b) := by
 by_cases c : a.length = b.length
 ·obtain ⟨r, er, hr⟩ := gF (R := fun i v => E2 (fun k m => bM.l0 k m a b ((List.length a : Nat) : Int) i) v) (n := a.length) (fun i => rd dY a (i : Int) = rd dY b (i : Int)) true (E2.eq (fun k m => bM.aA k m a b _ _) (E2.neg (by omega) E2.ret)) (fun i hi hq v e => by
   refine E2.eq (fun k m => bM.aA k m a b _ _) (E2.pos (by omega) (E2.pos (by omega) (E2.pos (by omega) (E2.pos (by omega) (E2.pos (by omega) (E2.neg (fun h => h ((Mx _ _).2 hq)) ?_))))))
   simp only [cZ (show i < 9223372036854775807 by omega)]
   exact e) (fun i hi hq => E2.eq (fun k m => bM.aA k m a b _ _) (E2.pos (by omega) (E2.pos (by omega) (E2.pos (by omega) (E2.pos (by omega) (E2.pos (by omega) (E2.pos (fun h => hq ((Mx _ _).1 h)) E2.ret)))))))
  refine ⟨r, Ev.eq (fun k => oz k a b) (Ev.neg (by omega) (Ev.loop (f := fun k m => bM.l0 k m a b ((List.length a : Nat) : Int) 0) er)), hr.trans ⟨fun h => (Sg c).1 h.1, fun h => ⟨(Sg c).2 h, rfl⟩⟩⟩
 ·exact ⟨false, Ev.eq (fun k => oz k a b) (Ev.pos (by omega) Ev.ret), by simp only [Bool.false_eq_true, false_iff]; exact fun h => c (h ▸ rfl)⟩
def wkE (l : List aF) : Prop := l.Pairwise fun a b => ¬ zR b a
theorem XZ (l : List aF) (e : aF) (hl : l.length <= 33554432) : ∃ v : List aF, v.Perm (e :: l) /\ (wkE l -> wkE v) /\ Ev (fun k => jI k l e) v := by
 obtain ⟨p, hp, h1, h2⟩ := nY (fun i => zR (rd bR l (i : Int)) e) l.length
 refine ⟨l.take p ++ [e] ++ l.drop p, ?_, fun hw => ?_, ?_⟩
 ·have : (l.take p ++ [e] ++ l.drop p).Perm (e :: (l.take p ++ l.drop p)) := by
   rw [List.append_assoc]
   exact List.perm_middle
  rwa [List.take_append_drop] at this
 ·have hd : ∀ b ∈ l.drop p, ¬ zR b e := fun b hb hbe => by
   obtain ⟨j, hj, rfl⟩ := List.getElem_of_mem hb
   rw [List.length_drop] at hj
   have hpl : p < l.length := by omega
   have hnp := h2 hpl
   rw [List.getElem_drop] at hbe
   rcases Nat.eq_zero_or_pos j with h0 | h0
   ·subst h0
    rw [fT hpl] at hnp
    exact hnp hbe
   ·have := List.pairwise_iff_getElem.1 hw p (p + j) hpl (by omega) (by omega)
    rw [fT hpl] at hnp
    unfold zR at *
    omega
  have ht : ∀ a ∈ l.take p, zR a e := fun a ha => by
   obtain ⟨j, hj, rfl⟩ := List.getElem_of_mem ha
   rw [List.length_take] at hj
   have := h1 j (by omega)
   rw [fT (by omega)] at this
   rw [List.getElem_take]
   exact this
  unfold wkE at *
  rw [List.append_assoc, List.pairwise_append]
  have hs : (l.take p ++ l.drop p).Pairwise fun a b => ¬ zR b a := by rw [List.take_append_drop]; exact hw
  rw [List.pairwise_append] at hs
  refine ⟨hs.1, ?_, fun a ha b hb => ?_⟩
  ·rw [List.singleton_append, List.pairwise_cons]
   exact ⟨fun b hb => hd b hb, hs.2.1⟩
  ·rw [List.singleton_append, List.mem_cons] at hb
   rcases hb with rfl | hb
   ·have := ht a ha
    unfold zR at *
    omega
   ·exact hs.2.2 a ha b hb
 ·have key : ∀ d i : Nat, i + d = p -> E2 (fun k m => jI.l0 k m l (i : Int) e.1 e.2.1 e.2.2.1 e.2.2.2.1) (l.take p ++ [e] ++ l.drop p) := by
   intro d
   induction d with
   | zero =>
    intro i hi
    have hi : i = p := by omega
    subst hi
    have hfin : ((([] : List aF) ++ (List.take ((Int.toNat (i : Int)) - (Int.toNat 0)) (List.drop (Int.toNat 0) l))) ++ ([(e.1, (e.2.1, (e.2.2.1, (e.2.2.2.1, ()))))] : (List aF))) ++ (List.take ((Int.toNat ((List.length l : Nat) : Int)) - (Int.toNat (i : Int))) (List.drop (Int.toNat (i : Int)) l)) = l.take i ++ [e] ++ l.drop i := by
     simp only [Int.toNat_natCast, Int.toNat_zero, Nat.sub_zero, List.drop_zero, List.nil_append]
     rw [List.take_of_length_le (l := l.drop i) (by simp)]
    have hsz : (List.take ((Int.toNat (i : Int)) - (Int.toNat 0)) (List.drop (Int.toNat 0) l)).length <= l.length := by simp; omega
    have hsz2 : (List.take ((Int.toNat ((List.length l : Nat) : Int)) - (Int.toNat (i : Int))) (List.drop (Int.toNat (i : Int)) l)).length <= l.length := by simp
    refine E2.eq (fun k m => jI.aA k m l _ _ _ _ _) ?_
    by_cases c : i < l.length
    ·refine E2.pos (by omega) (E2.pos (by omega) (E2.pos (by omega) (E2.bind (AA _ _) (E2.neg (by simpa using h2 c) ?_))))
     refine E2.pos (by omega) (E2.pos (by omega) (E2.pos (by rw [List.length_nil]; omega) (E2.pos (by simp only [List.length_append, List.length_nil, List.length_singleton]; omega) (E2.pos (by omega) (E2.pos (by omega) (E2.pos (by simp only [List.length_append, List.length_nil, List.length_singleton]; omega) ?_))))))
     exact E2.ret.val hfin
    ·refine E2.neg (by omega) ?_
     refine E2.pos (by omega) (E2.pos (by omega) (E2.pos (by rw [List.length_nil]; omega) (E2.pos (by simp only [List.length_append, List.length_nil, List.length_singleton]; omega) (E2.pos (by omega) (E2.pos (by omega) (E2.pos (by simp only [List.length_append, List.length_nil, List.length_singleton]; omega) ?_))))))
     exact E2.ret.val hfin
   | succ d ih =>
    intro i hi
    refine E2.eq (fun k m => jI.aA k m l _ _ _ _ _) (E2.pos (by omega) (E2.pos (by omega) (E2.pos (by omega) (E2.bind (AA _ _) (E2.pos (by simpa using h1 i (by omega)) ?_)))))
    simp only [cZ (show i < 9223372036854775807 by omega)]
    exact ih (i + 1) (by omega)
  exact Ev.eq (fun k => JX k l e) (Ev.loop (f := fun k m => jI.l0 k m l 0 e.1 e.2.1 e.2.2.1 e.2.2.2.1) (key p 0 (by omega)))
def zf (m : bE) (ps : List bn) : aV := ([], (m, ([(0, (100, ()))], (ps, ([], ([], ([], (1, (0, ())))))))))
def Br : aV := ([], ((0, (0, ())), ([], ([], ([], ([], ([], (0, (0, ())))))))))
theorem Ya (m : bE) (ps : List bn) (h : Bk (.list bV) ps) : Bk iF (zf m ps) :=
 ⟨⟨by simp [zf], by simp [zf]⟩, wF _ rfl, ⟨by simp [zf], fun x _ => wF x rfl⟩, h, ⟨by simp [zf], by simp [zf]⟩, ⟨by simp [zf], by simp [zf]⟩, ⟨by simp [zf], by simp [zf]⟩, trivial, trivial, trivial⟩
theorem Sj (a b : aF) : ((a.1 : Int) = b.1 /\ ((a.2.1 : Int) = b.2.1 /\ ((a.2.2.1 : Int) = b.2.2.1 /\ (a.2.2.2.1 : Int) = b.2.2.2.1))) ↔ a = b := by
 obtain ⟨a1, a2, a3, a4, ⟨⟩⟩ := a
 obtain ⟨b1, b2, b3, b4, ⟨⟩⟩ := b
 constructor
 ·rintro ⟨h1, h2, h3, h4⟩
  simp only at h1 h2 h3 h4
  rw [h1, h2, h3, h4]
 ·intro h
  injection h with h1 h
  injection h with h2 h
  injection h with h3 h
  injection h with h4 h
  exact ⟨h1, h2, h3, h4⟩
theorem VG {a b : List aF} (h : a.length = b.length) : (∀ i, i < a.length -> rd bR a (i : Int) = rd bR b (i : Int)) ↔ a = b := by
 constructor
 ·intro H
  refine List.ext_getElem h fun i h1 h2 => ?_
  have := H i h1
  rwa [fT (t := bR) h1, fT (t := bR) h2] at this
 ·rintro rfl i _
  rfl
theorem Yb (a b : List aF) (ha : a.length <= 33554432) : ∃ r, Ev (fun k => bP k a b) r /\ (r = true ↔ a = b) := by
 by_cases c : a.length = b.length
 ·obtain ⟨r, er, hr⟩ := gF (R := fun i v => E2 (fun k m => bP.l0 k m a b ((List.length a : Nat) : Int) i) v) (n := a.length) (fun i => rd bR a (i : Int) = rd bR b (i : Int)) true (E2.eq (fun k m => bP.aA k m a b _ _) (E2.neg (by omega) E2.ret)) (fun i hi hq v e => by
   refine E2.eq (fun k m => bP.aA k m a b _ _) (E2.pos (by omega) (E2.pos (by omega) (E2.pos (by omega) (E2.pos (by omega) (E2.pos (by omega) (E2.neg (fun h => h ((Sj _ _).2 hq)) ?_))))))
   simp only [cZ (show i < 9223372036854775807 by omega)]
   exact e) (fun i hi hq => E2.eq (fun k m => bP.aA k m a b _ _) (E2.pos (by omega) (E2.pos (by omega) (E2.pos (by omega) (E2.pos (by omega) (E2.pos (by omega) (E2.pos (fun h => hq ((Sj _ _).1 h)) E2.ret)))))))
  refine ⟨r, Ev.eq (fun k => nO k a b) (Ev.neg (by omega) (Ev.loop (f := fun k m => bP.l0 k m a b ((List.length a : Nat) : Int) 0) er)), hr.trans ⟨fun h => (VG c).1 h.1, fun h => ⟨(VG c).2 h, rfl⟩⟩⟩
 ·exact ⟨false, Ev.eq (fun k => nO k a b) (Ev.pos (by omega) Ev.ret), by simp only [Bool.false_eq_true, false_iff]; exact fun h => c (h ▸ rfl)⟩
def oC (c : eH) : Prop := c.1.length <= 1048576 /\ (0 : Int) <= c.2.1 /\ (c.2.1 : Int) <= ((c.1.length : Nat) : Int)
def Dr {α : Type} (f : Nat -> eH -> Option (α × eH)) (P : α -> Prop) : Prop := ∀ c, oC c -> ∃ x c', oC c' /\ P x /\ Ev (fun k => f k c) (x, c')
theorem VH (a : BitVec (IntKind.bits .i64)) : 0 <= IntKind.wrap .i64 (((a &&& BitVec.ofInt (IntKind.bits .i64) 255).toNat : Nat)) /\ IntKind.wrap .i64 (((a &&& BitVec.ofInt (IntKind.bits .i64) 255).toNat : Nat)) <= 255 := by
 have h : (a &&& BitVec.ofInt (IntKind.bits .i64) 255).toNat <= 255 := by
  rw [BitVec.toNat_and]
  exact Nat.le_trans Nat.and_le_right (by decide)
 rw [IntKind.wrap_i64]
 omega
theorem EI : Dr (fun k c => ql k c) (fun x => 0 <= x /\ x <= 255) := by
 intro c h
 obtain ⟨h1, h2, h3⟩ := h
 by_cases q : (c.2.1 : Int) < ((List.length c.1 : Nat) : Int)
 ·refine ⟨_, (c.1, (IntKind.wrap .i64 (c.2.1 + 1), (IntKind.wrap .i64 ((IntKind.wrap .i64 (c.2.2.1 * 6364136223846793005)) + 1442695040888963407), ()))), ⟨h1, ?_, ?_⟩, VH _, Ev.eq (fun k => Af k c) (Ev.neg (by omega) (Ev.neg (by omega) (Ev.pos q (Ev.pos h2 (Ev.pos q Ev.ret)))))⟩
  ·show (0 : Int) <= IntKind.wrap .i64 (c.2.1 + 1)
   rw [lS (by omega) (by omega)]
   omega
  ·show IntKind.wrap .i64 (c.2.1 + 1) <= ((List.length c.1 : Nat) : Int)
   rw [lS (by omega) (by omega)]
   omega
 ·exact ⟨_, (c.1, (c.2.1, (IntKind.wrap .i64 ((IntKind.wrap .i64 (c.2.2.1 * 6364136223846793005)) + 1442695040888963407), ()))), ⟨h1, h2, h3⟩, VH _, Ev.eq (fun k => Af k c) (Ev.neg (by omega) (Ev.neg (by omega) (Ev.neg q Ev.ret)))⟩
theorem bq (n : Int) : Dr (fun k c => aM k c n) (fun x => 0 <= x /\ (0 < n -> x < n) /\ (n <= 0 -> x = 0)) := by
 intro c h
 by_cases q : n <= 0
 ·exact ⟨0, c, h, ⟨by omega, fun h => by omega, fun _ => rfl⟩, Ev.eq (fun k => um k c n) (Ev.pos q Ev.ret)⟩
 ·obtain ⟨x, c1, h1, hx, e1⟩ := EI c h
  have hm : ∀ y : Int, 0 <= y -> 0 <= Int.tmod y n /\ (0 < n -> Int.tmod y n < n) /\ (n <= 0 -> Int.tmod y n = 0) := fun y hy => ⟨Int.tmod_nonneg _ hy, fun hn => Int.tmod_lt_of_pos _ hn, fun h => absurd h q⟩
  by_cases q2 : n <= 256
  ·exact ⟨Int.tmod x n, c1, h1, hm x hx.1, Ev.eq (fun k => um k c n) (Ev.neg q (Ev.pos q2 (Ev.bind e1 (Ev.neg (by omega) Ev.ret))))⟩
  ·obtain ⟨y, c2, h2, hy, e2⟩ := EI c1 h1
   obtain ⟨z, c3, h3, hz, e3⟩ := EI c2 h2
   refine ⟨_, c3, h3, hm _ ?_, Ev.eq (fun k => um k c n) (Ev.neg q (Ev.neg q2 (Ev.bind e1 (Ev.bind e2 (Ev.bind e3 (Ev.neg (by omega) Ev.ret))))))⟩
   rw [lS (n := x * 65536) (by omega) (by omega), lS (n := y * 256) (by omega) (by omega), lS (n := x * 65536 + y * 256) (by omega) (by omega), lS (by omega) (by omega)]
   omega
theorem nZ (n : Int) : Dr (fun k c => jA k c n) (fun _ => True) := by
 intro c h
 obtain ⟨x, c1, h1, _, e1⟩ := bq n c h
 exact ⟨_, c1, h1, trivial, Ev.eq (fun k => Ja k c n) (Ev.bind e1 Ev.ret)⟩
theorem mJ (l : List Int) (hl : 0 < l.length) : Dr (fun k c => iM k c l) (fun _ => True) := by
 intro c h
 obtain ⟨x, c1, h1, ⟨h2, h3, _⟩, e1⟩ := bq ((List.length l : Nat) : Int) c h
 exact ⟨_, c1, h1, trivial, Ev.eq (fun k => JW k c l) (Ev.bind e1 (Ev.pos h2 (Ev.pos (h3 (by omega)) Ev.ret)))⟩
theorem Ji : Dr (fun k c => uP k c) (fun _ => True) := by
 intro c h
 obtain ⟨x1, c1, h1, _, e1⟩ := bq 20 c h
 obtain ⟨x2, c2, h2, _, e2⟩ := bq 10 c1 h1
 obtain ⟨x3, c3, h3, _, e3⟩ := bq 18 c2 h2
 obtain ⟨x4, c4, h4, _, e4⟩ := bq 3 c3 h3
 exact ⟨_, c4, h4, trivial, Ev.eq (fun k => FD k c) (Ev.bind e1 (Ev.bind e2 (Ev.bind e3 (Ev.bind e4 Ev.ret))))⟩
theorem MB (l : List aF) (e : aF) (hl : l.length <= 1048576) : ∃ v : List aF × (Bool × Unit), v.1.length <= l.length + 1 /\ Ev (fun k => mP k l e) v := by
 obtain ⟨r, hp, _, e1⟩ := XZ l e (by omega)
 have hr : r.length = l.length + 1 := by rw [hp.length_eq]; simp
 have e2 := Bp r (by omega)
 by_cases c : gD r
 ·exact ⟨(r, (true, ())), by show r.length <= _; omega, Ev.eq (fun k => xM k l e) (Ev.bind e1 (Ev.bind e2 (Ev.neg (by simpa using c) Ev.ret)))⟩
 ·exact ⟨([] ++ l, (false, ())), by simp, Ev.eq (fun k => xM k l e) (Ev.bind e1 (Ev.bind e2 (Ev.pos (by simpa using c) (Ev.pos (by rw [List.length_nil]; omega) Ev.ret))))⟩
theorem Lb (OC most : Int) (hm : most <= 100) : Dr (fun k c => gN k c OC most) (fun r => r.length <= 100) := by
 intro c h
 have key : ∀ (d : Nat) (t : Int) (c : eH) (s : List aF), oC c -> s.length + d <= 1000 -> ∃ r c', oC c' /\ r.length <= s.length + d /\ E2 (fun k m => gN.l0 k m OC t (d : Int) c.1 c.2.1 c.2.2.1 s) (r, c') := by
  intro d
  induction d with
  | zero => intro t c s h hs; exact ⟨s, c, h, by omega, E2.eq (fun k m => gN.aA k m _ _ _ _ _ _ s) (E2.neg (by omega) E2.ret)⟩
  | succ d ih =>
   intro t c s h hs
   obtain ⟨x1, c1, h1, _, e1⟩ := bq 3 c h
   obtain ⟨x2, c2, h2, _, e2⟩ := bq 8 c1 h1
   obtain ⟨x3, c3, h3, _, e3⟩ := nZ 5 c2 h2
   obtain ⟨v, hv, e4⟩ := MB s (t, (IntKind.wrap .i64 (6 * (IntKind.wrap .i64 (1 + x1))), (IntKind.wrap .i64 (60 + x2), (OC, ())))) (by omega)
   by_cases q : x3 = true
   ·obtain ⟨r, c', h', hr, e5⟩ := ih (IntKind.wrap .i64 ((IntKind.wrap .i64 (t + (IntKind.wrap .i64 (6 * (IntKind.wrap .i64 (1 + x1)))))) + 12)) c3 v.1 h3 (by omega)
    refine ⟨r, c', h', by omega, E2.eq (fun k m => gN.aA k m _ _ _ _ _ _ s) (E2.pos (by omega) (E2.bind e1 (E2.bind e2 (E2.bind e3 (E2.pos q (E2.bind e4 ?_))))))⟩
    simp only [jL (show 0 < d + 1 by omega) (show d + 1 < 9223372036854775807 by omega), Nat.add_sub_cancel]
    exact e5
   ·obtain ⟨r, c', h', hr, e5⟩ := ih (IntKind.wrap .i64 (t + (IntKind.wrap .i64 (6 * (IntKind.wrap .i64 (1 + x1)))))) c3 v.1 h3 (by omega)
    refine ⟨r, c', h', by omega, E2.eq (fun k m => gN.aA k m _ _ _ _ _ _ s) (E2.pos (by omega) (E2.bind e1 (E2.bind e2 (E2.bind e3 (E2.neg q (E2.bind e4 ?_))))))⟩
    simp only [jL (show 0 < d + 1 by omega) (show d + 1 < 9223372036854775807 by omega), Nat.add_sub_cancel]
    exact e5
 obtain ⟨x, c1, h1, ⟨h2, h3, h4⟩, e1⟩ := bq most c h
 obtain ⟨n, rfl⟩ := Int.eq_ofNat_of_zero_le h2
 have hn : n <= 100 := by
  rcases Int.lt_or_le 0 most with q | q
  ·have := h3 q; omega
  ·have := h4 q; omega
 obtain ⟨r, c', h', hr, e3⟩ := key n 0 c1 [] h1 (by simp; omega)
 exact ⟨r, c', h', by simp at hr; omega, Ev.eq (fun k => Jb k c OC most) (Ev.bind e1 (Ev.loop (f := fun k m => gN.l0 k m OC 0 (n : Int) c1.1 c1.2.1 c1.2.2.1 []) e3))⟩
theorem vg {t : Ty} {l : List t.den} {i : Int} {f : t.den -> t.den} : (setAt t l i f).length = l.length := by unfold setAt; simp
theorem Ql : Dr (fun k c => yC k c) (fun _ => True) := by
 intro c h
 obtain ⟨x1, c1, h1, _, e1⟩ := bq 4 c h
 obtain ⟨x2, c2, h2, _, e2⟩ := mJ [4, 4, 4, 8, 2] (by simp) c1 h1
 exact ⟨_, c2, h2, trivial, Ev.eq (fun k => FI k c) (Ev.bind e1 (Ev.bind e2 Ev.ret))⟩
theorem Qm : Dr (fun k c => iH k c) (fun r => 1 <= r.length /\ r.length <= 4) := by
 intro c h
 have key : ∀ (d : Nat) (t : Int) (c : eH) (s : List bE), oC c -> s.length + d <= 1000 -> ∃ r c', oC c' /\ s.length <= r.length /\ r.length <= s.length + d /\ E2 (fun k m => iH.l0 k m t (d : Int) c.1 c.2.1 c.2.2.1 s) (r, c') := by
  intro d
  induction d with
  | zero => intro t c s h hs; exact ⟨s, c, h, by omega, by omega, E2.eq (fun k m => iH.aA k m _ _ _ _ _ s) (E2.neg (by omega) E2.ret)⟩
  | succ d ih =>
   intro t c s h hs
   obtain ⟨x1, c1, h1, _, e1⟩ := bq 50 c h
   obtain ⟨x2, c2, h2, _, e2⟩ := mJ [40, 60, 72, 100, 120, 200, 77] (by simp) c1 h1
   obtain ⟨r, c', h', hr, hr', e5⟩ := ih (IntKind.wrap .i64 ((IntKind.wrap .i64 (t + 1)) + x1)) c2 (s ++ [(IntKind.wrap .i64 ((IntKind.wrap .i64 (t + 1)) + x1), (x2, ()))]) h2 (by simp; omega)
   simp only [List.length_append, List.length_singleton] at hr hr'
   refine ⟨r, c', h', by omega, by omega, E2.eq (fun k m => iH.aA k m _ _ _ _ _ s) (E2.pos (by omega) (E2.bind e1 (E2.bind e2 (E2.pos (by rw [List.length_singleton]; omega) ?_))))⟩
   simp only [jL (show 0 < d + 1 by omega) (show d + 1 < 9223372036854775807 by omega), Nat.add_sub_cancel]
   exact e5
 obtain ⟨x1, c1, h1, _, e1⟩ := mJ [60, 90, 120, 50, 144] (by simp) c h
 obtain ⟨x, c2, h2, ⟨i1, i2, _⟩, e2⟩ := bq 4 c1 h1
 obtain ⟨n, rfl⟩ := Int.eq_ofNat_of_zero_le i1
 have := i2 (by omega)
 obtain ⟨r, c', h', hr, hr', e3⟩ := key n 0 c2 [(0, (x1, ()))] h2 (by simp; omega)
 simp only [List.length_singleton] at hr hr'
 exact ⟨r, c', h', by omega, Ev.eq (fun k => FJ k c) (Ev.bind e1 (Ev.bind e2 (Ev.loop (f := fun k m => iH.l0 k m 0 (n : Int) c2.1 c2.2.1 c2.2.2.1 [(0, (x1, ()))]) e3)))⟩
theorem OD : Dr (fun k c => gQ k c) (fun r => r.length <= 200) := by
 intro c h
 obtain ⟨a, c1, h1, ha, e1⟩ := Lb 1 9 (by omega) c h
 obtain ⟨b, c2, h2, hb, e2⟩ := Lb 2 9 (by omega) c1 h1
 have key : ∀ (d i : Nat) (s : List aF), i + d = b.length -> s.length + d <= 1000 -> ∃ r, r.length <= s.length + d /\ E2 (fun k m => gQ.l0 k m (i : Int) c2.1 c2.2.1 c2.2.2.1 s b) (r, c2) := by
  intro d
  induction d with
  | zero => intro i s hi hs; exact ⟨s, by omega, E2.eq (fun k m => gQ.aA k m _ _ _ _ s b) (E2.neg (by omega) E2.ret)⟩
  | succ d ih =>
   intro i s hi hs
   obtain ⟨v, hv, e4⟩ := MB s (rd bR b (i : Int)) (by omega)
   obtain ⟨r, hr, e5⟩ := ih (i + 1) v.1 (by omega) (by omega)
   refine ⟨r, by omega, E2.eq (fun k m => gQ.aA k m _ _ _ _ s b) (E2.pos (by omega) (E2.pos (by omega) (E2.pos (by omega) (E2.bind e4 ?_))))⟩
   simp only [cZ (show i < 9223372036854775807 by omega)]
   exact e5
 have ha : a.length <= 100 := ha
 have hb : b.length <= 100 := hb
 obtain ⟨r, hr, e3⟩ := key b.length 0 a (by omega) (by omega)
 exact ⟨r, c2, h2, by show r.length <= 200; omega, Ev.eq (fun k => EF k c) (Ev.bind e1 (Ev.bind e2 (Ev.loop (f := fun k m => gQ.l0 k m 0 c2.1 c2.2.1 c2.2.2.1 a b) e3)))⟩
theorem Qn : Dr (fun k c => yF k c) (fun _ => True) := by
 intro c h
 obtain ⟨x1, c1, h1, _, e1⟩ := bq 5 c h
 obtain ⟨x2, c2, h2, _, e2⟩ := bq 4 c1 h1
 obtain ⟨x3, c3, h3, _, e3⟩ := bq 4 c2 h2
 obtain ⟨x4, c4, h4, _, e4⟩ := bq 5 c3 h3
 obtain ⟨x5, c5, h5, _, e5⟩ := bq 3 c4 h4
 exact ⟨_, c5, h5, trivial, Ev.eq (fun k => FN k c) (Ev.bind e1 (Ev.bind e2 (Ev.bind e3 (Ev.bind e4 (Ev.bind e5 Ev.ret)))))⟩
theorem Jj (l : List aU) (x : aU) (hl : l.length <= 1048576) : ∃ v : List aU, v.length <= l.length + 1 /\ Ev (fun k => qU k l x) v := by
 obtain ⟨p, hp, h1, h2⟩ := nY (fun i => uW (rd dY l (i : Int)) x) l.length
 have hs := Sd l x hl p hp h1 h2
 have hvl := OB l x p hp
 obtain ⟨a, ea, _⟩ := uX l hl
 obtain ⟨b, eb, _⟩ := wZ (ze l x p) (by omega)
 have sz : (List.length ([] : (List aU)) + List.length l) * 40 <= 211106232532992 := by rw [List.length_nil]; omega
 by_cases c : a = true
 ·by_cases d : b = true
  ·exact ⟨ze l x p, hvl, Ev.eq (fun k => kH k l x) (Ev.bind hs (Ev.bind ea (Ev.neg (by simpa using c) (Ev.bind eb (Ev.neg (by simpa using d) Ev.ret)))))⟩
  ·exact ⟨[] ++ l, by simp, Ev.eq (fun k => kH k l x) (Ev.bind hs (Ev.bind ea (Ev.neg (by simpa using c) (Ev.bind eb (Ev.pos d (Ev.pos sz Ev.ret))))))⟩
 ·exact ⟨[] ++ l, by simp, Ev.eq (fun k => kH k l x) (Ev.bind hs (Ev.bind ea (Ev.pos c (Ev.pos sz Ev.ret))))⟩
theorem Qo : Dr (fun k c => iI k c) (fun r => r.length <= 9) := by
 intro c h
 have key : ∀ (d : Nat) (c : eH) (s : List aU), oC c -> s.length + d <= 1000 -> ∃ r c', oC c' /\ r.length <= s.length + d /\ E2 (fun k m => iI.l0 k m (d : Int) c.1 c.2.1 c.2.2.1 s) (r, c') := by
  intro d
  induction d with
  | zero => intro c s h hs; exact ⟨s, c, h, by omega, E2.eq (fun k m => iI.aA k m _ _ _ _ s) (E2.neg (by omega) E2.ret)⟩
  | succ d ih =>
   intro c s h hs
   obtain ⟨x, c1, h1, _, e1⟩ := Qn c h
   obtain ⟨v, hv, e2⟩ := Jj s x (by omega)
   obtain ⟨r, c', h', hr, e3⟩ := ih c1 v h1 (by omega)
   refine ⟨r, c', h', by omega, E2.eq (fun k m => iI.aA k m _ _ _ _ s) (E2.pos (by omega) (E2.bind e1 (E2.bind e2 ?_)))⟩
   simp only [jL (show 0 < d + 1 by omega) (show d + 1 < 9223372036854775807 by omega), Nat.add_sub_cancel]
   exact e3
 obtain ⟨x, c1, h1, ⟨h2, h3, _⟩, e1⟩ := bq 9 c h
 obtain ⟨n, rfl⟩ := Int.eq_ofNat_of_zero_le h2
 have := h3 (by omega)
 obtain ⟨r, c', h', hr, e3⟩ := key n c1 [] h1 (by simp; omega)
 exact ⟨r, c', h', by show r.length <= 9; simp at hr; omega, Ev.eq (fun k => FK k c) (Ev.bind e1 (Ev.loop (f := fun k m => iI.l0 k m (n : Int) c1.1 c1.2.1 c1.2.2.1 []) e3))⟩
theorem Qp : Dr (fun k c => iJ k c) (fun r => r.length <= 6) := by
 intro c h
 have key : ∀ (d : Nat) (t : Int) (c : eH) (s : List bE), oC c -> s.length + d <= 1000 -> ∃ r c', oC c' /\ r.length <= s.length + d /\ E2 (fun k m => iJ.l0 k m t (d : Int) c.1 c.2.1 c.2.2.1 s) (r, c') := by
  intro d
  induction d with
  | zero => intro t c s h hs; exact ⟨s, c, h, by omega, E2.eq (fun k m => iJ.aA k m _ _ _ _ _ s) (E2.neg (by omega) E2.ret)⟩
  | succ d ih =>
   intro t c s h hs
   obtain ⟨x1, c1, h1, _, e1⟩ := bq 9 c h
   obtain ⟨r, c', h', hr, e5⟩ := ih (IntKind.wrap .i64 ((IntKind.wrap .i64 (t + 1)) + x1)) c1 (s ++ [(((List.length s : Nat) : Int), (IntKind.wrap .i64 ((IntKind.wrap .i64 (t + 1)) + x1), ()))]) h1 (by simp; omega)
   simp only [List.length_append, List.length_singleton] at hr
   refine ⟨r, c', h', by omega, E2.eq (fun k m => iJ.aA k m _ _ _ _ _ s) (E2.pos (by omega) (E2.bind e1 (E2.pos (by rw [List.length_singleton]; omega) ?_)))⟩
   simp only [jL (show 0 < d + 1 by omega) (show d + 1 < 9223372036854775807 by omega), Nat.add_sub_cancel]
   exact e5
 obtain ⟨x, c1, h1, ⟨i1, i2, _⟩, e1⟩ := bq 6 c h
 obtain ⟨n, rfl⟩ := Int.eq_ofNat_of_zero_le i1
 have := i2 (by omega)
 obtain ⟨r, c', h', hr, e3⟩ := key n 0 c1 [] h1 (by simp; omega)
 exact ⟨r, c', h', by show r.length <= 6; simp at hr; omega, Ev.eq (fun k => FL k c) (Ev.bind e1 (Ev.loop (f := fun k m => iJ.l0 k m 0 (n : Int) c1.1 c1.2.1 c1.2.2.1 []) e3))⟩
def og (n : Nat) (l : List bn) : Prop := l.length <= n /\ ∀ p ∈ l, p.2.2.2.1.length <= 3
theorem Jk {n : Nat} {l : List bn} {a b c : Int} {v : List Int} (h : og n l) (hv : v.length <= 3) : og (n + 1) (l ++ [(a, (b, (c, (v, ()))))]) :=
 ⟨by rw [List.length_append, List.length_singleton]; have := h.1; omega, fun p hp => by
  rcases List.mem_append.1 hp with h1 | h1
  ·exact h.2 p h1
  ·rw [List.mem_singleton.1 h1]; exact hv⟩
theorem vv {n m : Nat} {l : List bn} (h : og n l) (hm : n <= m) : og m l := ⟨Nat.le_trans h.1 hm, h.2⟩
theorem Qq : Dr (fun k c => bA k c) (fun r => og 10 r /\ 1 <= r.length) := by
 intro c h
 have key : ∀ (d i : Nat) (c : eH) (s : List bn), i + d = 7 -> 1 <= i -> oC c -> og i s -> ∃ r c', oC c' /\ (og 10 r /\ s.length <= r.length /\ (i = 1 -> 1 <= r.length)) /\ E2 (fun k m => bA.l0 k m (i : Int) c.1 c.2.1 c.2.2.1 s) (r, c') := by
  intro d
  induction d with
  | zero =>
   intro i c s hi h1 h hs
   obtain ⟨x, c1, k1, ⟨k2, k3, _⟩, e1⟩ := bq 5 c h
   have := k3 (by omega)
   refine ⟨s, c1, k1, ⟨vv hs (by omega), by omega, fun h => by omega⟩, E2.eq (fun k m => bA.aA k m _ _ _ _ s) (E2.bind e1 (E2.neg ?_ E2.ret))⟩
   rw [lS (by omega) (by omega)]; omega
  | succ d ih =>
   intro i c s hi h1 h hs
   obtain ⟨x, c1, k1, ⟨k2, k3, _⟩, e1⟩ := bq 5 c h
   have := k3 (by omega)
   by_cases q : (i : Int) <= IntKind.wrap .i64 (1 + x)
   ·obtain ⟨x2, c2, k2', _, e2⟩ := bq 12 c1 k1
    obtain ⟨x3, c3, k3', _, e3⟩ := bq 12 c2 k2'
    have hsl := hs.1
    have in2 : ∀ (n v : Nat) (c : eH) (a b e : Int) (w : List Int), v + n = 4 -> w.length + n <= 3 -> oC c -> ∃ r c', oC c' /\ (og 10 r /\ s.length + 1 <= r.length) /\ E3 (fun k m m1 => bA.l2 k m m1 (i : Int) (v : Int) c.1 c.2.1 c.2.2.1 s a b e w) (r, c') := by
     intro n
     induction n with
     | zero =>
      intro v c a b e w hv hw hc
      obtain ⟨r, c', h', hr, e5⟩ := ih (i + 1) c (s ++ [(a, (b, (e, (w, ()))))]) (by omega) (by omega) hc (Jk hs (by omega))
      rw [List.length_append, List.length_singleton] at hr
      refine ⟨r, c', h', ⟨hr.1, hr.2.1⟩, E3.eq (fun k m m1 => bA.VA k m m1 _ _ _ _ _ s _ _ _ w) (E3.neg (by omega) (E3.pos (by rw [List.length_singleton]; omega) ?_))⟩
      simp only [cZ (show i < 9223372036854775807 by omega)]
      exact E3.out e5
     | succ n ihn =>
      intro v c a b e w hv hw hc
      obtain ⟨y, c4, k4, _, e4⟩ := nZ 3 c hc
      by_cases qy : y = true
      ·obtain ⟨r, c', h', hr, e5⟩ := ihn (v + 1) c4 a b e w (by omega) (by omega) k4
       refine ⟨r, c', h', hr, E3.eq (fun k m m1 => bA.VA k m m1 _ _ _ _ _ s _ _ _ w) (E3.pos (by omega) (E3.bind e4 (E3.neg (fun h => h qy) ?_)))⟩
       simp only [cZ (show v < 9223372036854775807 by omega)]
       exact e5
      ·obtain ⟨r, c', h', hr, e5⟩ := ihn (v + 1) c4 a b e (w ++ [(v : Int)]) (by omega) (by rw [List.length_append, List.length_singleton]; omega) k4
       refine ⟨r, c', h', hr, E3.eq (fun k m m1 => bA.VA k m m1 _ _ _ _ _ s _ _ _ w) (E3.pos (by omega) (E3.bind e4 (E3.pos qy (E3.pos (by rw [List.length_singleton]; omega) ?_))))⟩
       simp only [cZ (show v < 9223372036854775807 by omega)]
       exact e5
    have in1 : ∀ (n v : Nat) (c : eH) (a b e : Int), v + n = 4 -> n <= 3 -> oC c -> ∃ r c', oC c' /\ (og 10 r /\ s.length + 1 <= r.length) /\ E3 (fun k m m1 => bA.l1 k m m1 (i : Int) (v : Int) c.1 c.2.1 c.2.2.1 s a b e) (r, c') := by
     intro n
     induction n with
     | zero =>
      intro v c a b e hv hw hc
      obtain ⟨r, c', h', hr, e5⟩ := ih (i + 1) c (s ++ [(a, (b, (e, ([], ()))))]) (by omega) (by omega) hc (Jk hs (by simp))
      rw [List.length_append, List.length_singleton] at hr
      refine ⟨r, c', h', ⟨hr.1, hr.2.1⟩, E3.eq (fun k m m1 => bA.wG k m m1 _ _ _ _ _ s _ _ _) (E3.neg (by omega) (E3.pos (by rw [List.length_singleton]; omega) ?_))⟩
      simp only [cZ (show i < 9223372036854775807 by omega)]
      exact E3.out e5
     | succ n ihn =>
      intro v c a b e hv hw hc
      obtain ⟨y, c4, k4, _, e4⟩ := nZ 3 c hc
      by_cases qy : y = true
      ·obtain ⟨r, c', h', hr, e5⟩ := ihn (v + 1) c4 a b e (by omega) (by omega) k4
       refine ⟨r, c', h', hr, E3.eq (fun k m m1 => bA.wG k m m1 _ _ _ _ _ s _ _ _) (E3.pos (by omega) (E3.bind e4 (E3.neg (fun h => h qy) ?_)))⟩
       simp only [cZ (show v < 9223372036854775807 by omega)]
       exact e5
      ·obtain ⟨r, c', h', hr, e5⟩ := in2 n (v + 1) c4 a b e [(v : Int)] (by omega) (by rw [List.length_singleton]; omega) k4
       refine ⟨r, c', h', hr, E3.eq (fun k m m1 => bA.wG k m m1 _ _ _ _ _ s _ _ _) (E3.pos (by omega) (E3.bind e4 (E3.pos qy (E3.pos (by rw [List.length_singleton]; omega) ?_))))⟩
       simp only [cZ (show v < 9223372036854775807 by omega)]
       exact e5
    obtain ⟨r, c', h', hr, e5⟩ := in1 3 1 c3 (IntKind.wrap .i64 (2 * (i : Int))) (IntKind.wrap .i64 (50 + x2)) (IntKind.wrap .i64 (66 + x3)) (by omega) (by omega) k3'
    refine ⟨r, c', h', ⟨hr.1, by omega, fun _ => by omega⟩, E2.eq (fun k m => bA.aA k m _ _ _ _ s) (E2.bind e1 (E2.pos q (E2.bind e2 (E2.bind e3 ?_))))⟩
    exact E3.loop (f := fun k m m1 => bA.l1 k m m1 (i : Int) 1 c3.1 c3.2.1 c3.2.2.1 s (IntKind.wrap .i64 (2 * (i : Int))) (IntKind.wrap .i64 (50 + x2)) (IntKind.wrap .i64 (66 + x3))) e5
   ·exact ⟨s, c1, k1, ⟨vv hs (by omega), by omega, fun h => by rw [lS (by omega) (by omega)] at q; omega⟩, E2.eq (fun k m => bA.aA k m _ _ _ _ s) (E2.bind e1 (E2.neg q E2.ret))⟩
 obtain ⟨r, c', h', hr, e⟩ := key 6 1 c [] (by omega) (by omega) h ⟨by simp, by simp⟩
 exact ⟨r, c', h', ⟨hr.1, hr.2.2 rfl⟩, Ev.eq (fun k => FH k c) (Ev.loop (f := fun k m => bA.l0 k m 1 c.1 c.2.1 c.2.2.1 []) e)⟩
theorem Dy {n : Nat} {l : List bn} {i : Int} {f : bn -> bn} (h : og n l) (h0 : 0 <= i) (h1 : i < ((List.length l : Nat) : Int)) (hf : ∀ p : bn, p.2.2.2.1.length <= 3 -> (f p).2.2.2.1.length <= 3) : og n (setAt bV l i f) := by
 obtain ⟨j, rfl⟩ := Int.eq_ofNat_of_zero_le h0
 have hj : j < l.length := by omega
 refine ⟨by rw [vg]; exact h.1, fun p hp => ?_⟩
 unfold setAt at hp
 rcases List.mem_or_eq_of_mem_set hp with h2 | h2
 ·exact h.2 p h2
 ·rw [h2]
  refine hf _ ?_
  rw [fT hj]
  exact h.2 _ (List.getElem_mem hj)
theorem Yc (l : List bn) (sc : List aF) (n : Nat) (hn : n <= 4) (hl : og 10 l) (hs : sc.length <= 1048576) : ∀ (d : Nat) (t : List Int), t.length + d = n -> ∃ r : List Int × (Bool × Unit), r.1.length <= 4 /\ Ev (fun k => cK k l sc (n : Int) t) r := by
 intro d
 induction d with
 | zero =>
  intro t ht
  exact ⟨([] ++ t, (true, ())), by simp; omega, Ev.eq (fun k => pz k l sc _ t) (Ev.pos (by omega) (Ev.pos (by rw [List.length_nil]; omega) Ev.ret))⟩
 | succ d ih =>
  intro t ht
  have key : ∀ (e i : Nat), i + e = l.length -> ∃ r : List Int × (Bool × Unit), r.1.length <= 4 /\ E2 (fun k m => cK.l0 k m l sc (n : Int) t (i : Int)) r := by
   intro e
   induction e with
   | zero => intro i hi; exact ⟨([], (false, ())), by simp, E2.eq (fun k m => cK.aA k m l sc _ t _) (E2.neg (by omega) E2.ret)⟩
   | succ e ihe =>
    intro i hi
    have hll := hl.1
    obtain ⟨r, hr, er⟩ := ihe (i + 1) (by omega)
    have i0 : (0 : Int) <= (i : Int) := by omega
    have i1 : (i : Int) < ((List.length l : Nat) : Int) := by omega
    have h1 := Ck t (rd bV l (i : Int)).1 (by omega)
    by_cases q : decide (((rd bV l (i : Int)).1 : Int) ∈ t) = true
    ·refine ⟨r, hr, E2.eq (fun k m => cK.aA k m l sc _ t _) (E2.pos i1 (E2.pos i0 (E2.pos i1 (E2.bind h1 (E2.pos q ?_)))))⟩
     simp only [cZ (show i < 9223372036854775807 by omega)]
     exact er
    ·have hv : (rd bV l (i : Int)).2.2.2.1.length <= 1048576 := by
      rw [fT (show i < l.length by omega)]
      exact Nat.le_trans (hl.2 _ (List.getElem_mem _)) (by omega)
     obtain ⟨b, eb, _⟩ := Cm (rd bV l (i : Int)) sc (IntKind.wrap .i64 (((List.length t : Nat) : Int) + 1)) hv hs
     by_cases qb : b = true
     ·obtain ⟨r2, hr2, er2⟩ := ih (([] ++ t) ++ [(rd bV l (i : Int)).1]) (by simp; omega)
      by_cases q2 : r2.2.1 = true
      ·exact ⟨(r2.1, (true, ())), hr2, E2.eq (fun k m => cK.aA k m l sc _ t _) (E2.pos i1 (E2.pos i0 (E2.pos i1 (E2.bind h1 (E2.neg q (E2.pos i0 (E2.pos i1 (E2.bind eb (E2.neg (fun h => h qb) (E2.pos (by rw [List.length_nil]; omega) (E2.pos i0 (E2.pos i1 (E2.pos (by rw [List.length_append, List.length_nil, List.length_singleton]; omega) (E2.bind er2 (E2.pos q2 E2.ret)))))))))))))))⟩
      ·refine ⟨r, hr, E2.eq (fun k m => cK.aA k m l sc _ t _) (E2.pos i1 (E2.pos i0 (E2.pos i1 (E2.bind h1 (E2.neg q (E2.pos i0 (E2.pos i1 (E2.bind eb (E2.neg (fun h => h qb) (E2.pos (by rw [List.length_nil]; omega) (E2.pos i0 (E2.pos i1 (E2.pos (by rw [List.length_append, List.length_nil, List.length_singleton]; omega) (E2.bind er2 (E2.neg q2 ?_)))))))))))))))⟩
       simp only [cZ (show i < 9223372036854775807 by omega)]
       exact er
     ·refine ⟨r, hr, E2.eq (fun k m => cK.aA k m l sc _ t _) (E2.pos i1 (E2.pos i0 (E2.pos i1 (E2.bind h1 (E2.neg q (E2.pos i0 (E2.pos i1 (E2.bind eb (E2.pos qb ?_)))))))))⟩
      simp only [cZ (show i < 9223372036854775807 by omega)]
      exact er
  obtain ⟨r, hr, er⟩ := key l.length 0 (by omega)
  exact ⟨r, hr, Ev.eq (fun k => pz k l sc _ t) (Ev.neg (by omega) (Ev.loop (f := fun k m => cK.l0 k m l sc (n : Int) t 0) er))⟩
theorem MC {n : Nat} {l : List bn} (h : og n l) (hn : n <= 1048576) : Vu l := ⟨Nat.le_trans h.1 hn, fun i hi => by
 rw [fT hi]
 exact Nat.le_trans (h.2 _ (List.getElem_mem hi)) (by omega)⟩
theorem VI (l : List bn) (sc : List aF) (hl : og 10 l) (hs : sc.length <= 1048576) : ∃ r : List Int × (Bool × Unit), r.1.length <= 4 /\ Ev (fun k => lM k l sc 2) r := by
 obtain ⟨a, ea, _⟩ := vW l (MC hl (by omega))
 by_cases qa : a = true
 ·have eb := dB sc hs
  by_cases qb : gD sc
  ·obtain ⟨r, hr, er⟩ := Yc l sc 2 (by omega) hl hs 2 [] (by simp)
   exact ⟨(r.1, (decide (r.2.1 = true), ())), hr, Ev.eq (fun k => gY k l sc 2) (Ev.bind ea (Ev.neg (fun h => h qa) (Ev.bind eb (Ev.neg (by simpa using qb) (Ev.bind (bT _ _ _) (Ev.neg (by simp) (Ev.bind er Ev.ret)))))))⟩
  ·exact ⟨([], (false, ())), by simp, Ev.eq (fun k => gY k l sc 2) (Ev.bind ea (Ev.neg (fun h => h qa) (Ev.bind eb (Ev.pos (by simpa using qb) Ev.ret))))⟩
 ·exact ⟨([], (false, ())), by simp, Ev.eq (fun k => gY k l sc 2) (Ev.bind ea (Ev.pos qa Ev.ret))⟩
theorem Sk {n : Nat} {l : List bn} (h : og n l) (hn : n <= 1048576) : Bk (.list bV) l :=
 ⟨Nat.le_trans h.1 hn, fun x hx => ⟨trivial, trivial, trivial, ⟨Nat.le_trans (h.2 x hx) (by omega), fun _ _ => trivial⟩, trivial⟩⟩
theorem aa5 {l : List aF} (h : l.length <= 1048576) : Bk (.list bR) l := ⟨h, fun x _ => wF x rfl⟩
theorem YB {l : List bE} (h : l.length <= 1048576) : Bk (.list dn) l := ⟨h, fun x _ => wF x rfl⟩
theorem aa6 {l : List aU} (h : l.length <= 1048576) : Bk (.list dY) l := ⟨h, fun x _ => wF x rfl⟩
theorem aa7 {l : List Int} (h : l.length <= 1048576) : Bk (.list (.int .i64)) l := ⟨h, fun x _ => trivial⟩
theorem tO (code : List Int) (hc : code.length <= 1048576) : ∃ c : eH, oC c /\ Ev (fun k => fJ k code) c := by
 have key : ∀ (d i : Nat) (h : Int), i + d = code.length -> ∃ c : eH, oC c /\ E2 (fun k m => fJ.l0 k m code h (i : Int)) c := by
  intro d
  induction d with
  | zero => intro i h hi; exact ⟨(code, (0, (h, ()))), ⟨hc, Int.le_refl 0, by show (0 : Int) <= ((List.length code : Nat) : Int); omega⟩, E2.eq (fun k m => fJ.aA k m code _ _) (E2.neg (by omega) E2.ret)⟩
  | succ d ih =>
   intro i h hi
   by_cases q : (i : Int) < 4000
   ·obtain ⟨c, hc', e⟩ := ih (i + 1) _ (by omega)
    refine ⟨c, hc', E2.eq (fun k m => fJ.aA k m code _ _) (E2.pos (by omega) (E2.pos q (E2.pos (by omega) (E2.pos (by omega) ?_))))⟩
    simp only [cZ (show i < 9223372036854775807 by omega)]
    exact e
   ·exact ⟨(code, (0, (h, ()))), ⟨hc, Int.le_refl 0, by show (0 : Int) <= ((List.length code : Nat) : Int); omega⟩, E2.eq (fun k m => fJ.aA k m code _ _) (E2.pos (by omega) (E2.neg q E2.ret))⟩
 obtain ⟨c, hc', e⟩ := key code.length 0 (IntKind.wrap .i64 (193017 + ((List.length code : Nat) : Int))) (by omega)
 exact ⟨c, hc', Ev.eq (fun k => JV k code) (Ev.loop (f := fun k m => fJ.l0 k m code (IntKind.wrap .i64 (193017 + ((List.length code : Nat) : Int))) 0) e)⟩
theorem Fh {t : Ty} {a b : List t.den} (h : a.length = b.length) : (∀ i, i < a.length -> rd t a (i : Int) = rd t b (i : Int)) ↔ a = b := by
 constructor
 ·intro H
  refine List.ext_getElem h fun i h1 h2 => ?_
  have := H i h1
  rwa [fT (t := t) h1, fT (t := t) h2] at this
 ·rintro rfl i _
  rfl
theorem Jl (a b : bE) : ((a.1 : Int) = b.1 /\ (a.2.1 : Int) = b.2.1) ↔ a = b := by
 obtain ⟨a1, a2, ⟨⟩⟩ := a
 obtain ⟨b1, b2, ⟨⟩⟩ := b
 constructor
 ·rintro ⟨h1, h2⟩
  simp only at h1 h2
  rw [h1, h2]
 ·intro h
  injection h with h1 h
  injection h with h2 h
  exact ⟨h1, h2⟩
theorem Yd (a b : List bE) (ha : a.length <= 33554432) : ∃ r, Ev (fun k => bQ k a b) r /\ (r = true ↔ a = b) := by
 by_cases c : a.length = b.length
 ·obtain ⟨r, er, hr⟩ := gF (R := fun i v => E2 (fun k m => bQ.l0 k m a b ((List.length a : Nat) : Int) i) v) (n := a.length) (fun i => rd dn a (i : Int) = rd dn b (i : Int)) true (E2.eq (fun k m => bQ.aA k m a b _ _) (E2.neg (by omega) E2.ret)) (fun i hi hq v e => by
   refine E2.eq (fun k m => bQ.aA k m a b _ _) (E2.pos (by omega) (E2.pos (by omega) (E2.pos (by omega) (E2.pos (by omega) (E2.pos (by omega) (E2.neg (fun h => h ((Jl _ _).2 hq)) ?_))))))
   simp only [cZ (show i < 9223372036854775807 by omega)]
   exact e) (fun i hi hq => E2.eq (fun k m => bQ.aA k m a b _ _) (E2.pos (by omega) (E2.pos (by omega) (E2.pos (by omega) (E2.pos (by omega) (E2.pos (by omega) (E2.pos (fun h => hq ((Jl _ _).1 h)) E2.ret)))))))
  refine ⟨r, Ev.eq (fun k => nP k a b) (Ev.neg (by omega) (Ev.loop (f := fun k m => bQ.l0 k m a b ((List.length a : Nat) : Int) 0) er)), hr.trans ⟨fun h => (Fh (t := dn) c).1 h.1, fun h => ⟨(Fh (t := dn) c).2 h, rfl⟩⟩⟩
 ·exact ⟨false, Ev.eq (fun k => nP k a b) (Ev.pos (by omega) Ev.ret), by simp only [Bool.false_eq_true, false_iff]; exact fun h => c (h ▸ rfl)⟩
theorem Ye (a b : List bE) (ha : a.length <= 33554432) : ∃ r, Ev (fun k => bI k a b) r /\ (r = true ↔ a = b) := by
 by_cases c : a.length = b.length
 ·obtain ⟨r, er, hr⟩ := gF (R := fun i v => E2 (fun k m => bI.l0 k m a b ((List.length a : Nat) : Int) i) v) (n := a.length) (fun i => rd dn a (i : Int) = rd dn b (i : Int)) true (E2.eq (fun k m => bI.aA k m a b _ _) (E2.neg (by omega) E2.ret)) (fun i hi hq v e => by
   refine E2.eq (fun k m => bI.aA k m a b _ _) (E2.pos (by omega) (E2.pos (by omega) (E2.pos (by omega) (E2.pos (by omega) (E2.pos (by omega) (E2.neg (fun h => h ((Jl _ _).2 hq)) ?_))))))
   simp only [cZ (show i < 9223372036854775807 by omega)]
   exact e) (fun i hi hq => E2.eq (fun k m => bI.aA k m a b _ _) (E2.pos (by omega) (E2.pos (by omega) (E2.pos (by omega) (E2.pos (by omega) (E2.pos (by omega) (E2.pos (fun h => hq ((Jl _ _).1 h)) E2.ret)))))))
  refine ⟨r, Ev.eq (fun k => ni k a b) (Ev.neg (by omega) (Ev.loop (f := fun k m => bI.l0 k m a b ((List.length a : Nat) : Int) 0) er)), hr.trans ⟨fun h => (Fh (t := dn) c).1 h.1, fun h => ⟨(Fh (t := dn) c).2 h, rfl⟩⟩⟩
 ·exact ⟨false, Ev.eq (fun k => ni k a b) (Ev.pos (by omega) Ev.ret), by simp only [Bool.false_eq_true, false_iff]; exact fun h => c (h ▸ rfl)⟩
theorem Sl (a b : List Int) (ha : a.length <= 33554432) : ∃ r, Ev (fun k => bL k a b) r /\ (r = true ↔ a = b) := by
 by_cases c : a.length = b.length
 ·obtain ⟨r, er, hr⟩ := gF (R := fun i v => E2 (fun k m => bL.l0 k m a b ((List.length a : Nat) : Int) i) v) (n := a.length) (fun i => rd (.int .i64) a (i : Int) = rd (.int .i64) b (i : Int)) true (E2.eq (fun k m => bL.aA k m a b _ _) (E2.neg (by omega) E2.ret)) (fun i hi hq v e => by
   refine E2.eq (fun k m => bL.aA k m a b _ _) (E2.pos (by omega) (E2.pos (by omega) (E2.pos (by omega) (E2.pos (by omega) (E2.pos (by omega) (E2.neg (fun h => h hq) ?_))))))
   simp only [cZ (show i < 9223372036854775807 by omega)]
   exact e) (fun i hi hq => E2.eq (fun k m => bL.aA k m a b _ _) (E2.pos (by omega) (E2.pos (by omega) (E2.pos (by omega) (E2.pos (by omega) (E2.pos (by omega) (E2.pos hq E2.ret)))))))
  refine ⟨r, Ev.eq (fun k => ou k a b) (Ev.neg (by omega) (Ev.loop (f := fun k m => bL.l0 k m a b ((List.length a : Nat) : Int) 0) er)), hr.trans ⟨fun h => (Fh (t := .int .i64) c).1 h.1, fun h => ⟨(Fh (t := .int .i64) c).2 h, rfl⟩⟩⟩
 ·exact ⟨false, Ev.eq (fun k => ou k a b) (Ev.pos (by omega) Ev.ret), by simp only [Bool.false_eq_true, false_iff]; exact fun h => c (h ▸ rfl)⟩
theorem Zy {a b : bn} (h1 : (a.1 : Int) = b.1) (h2 : (a.2.1 : Int) = b.2.1) (h3 : (a.2.2.1 : Int) = b.2.2.1) (h4 : a.2.2.2.1 = b.2.2.2.1) : a = b := by
 obtain ⟨a1, a2, a3, a4, ⟨⟩⟩ := a
 obtain ⟨b1, b2, b3, b4, ⟨⟩⟩ := b
 simp only at h1 h2 h3 h4
 rw [h1, h2, h3, h4]
theorem VJ (a b : bn) (ha : a.2.2.2.1.length <= 33554432) : ∃ r, Ev (fun k => mZ k a b) r /\ (r = true ↔ a = b) := by
 by_cases c1 : (a.1 : Int) = b.1
 ·by_cases c2 : (a.2.1 : Int) = b.2.1
  ·by_cases c3 : (a.2.2.1 : Int) = b.2.2.1
   ·obtain ⟨r, er, hr⟩ := Sl a.2.2.2.1 b.2.2.2.1 ha
    refine ⟨_, Ev.eq (fun k => kR k a b) (Ev.pos c1 (Ev.pos c2 (Ev.pos c3 (Ev.bind er Ev.ret)))), ?_⟩
    rw [decide_eq_true_eq]
    exact hr.trans ⟨fun h => Zy c1 c2 c3 h, fun h => by rw [h]⟩
   ·exact ⟨false, Ev.eq (fun k => kR k a b) (Ev.pos c1 (Ev.pos c2 (Ev.neg c3 Ev.ret))), by simp only [Bool.false_eq_true, false_iff]; exact fun h => c3 (by rw [h])⟩
  ·exact ⟨false, Ev.eq (fun k => kR k a b) (Ev.pos c1 (Ev.neg c2 Ev.ret)), by simp only [Bool.false_eq_true, false_iff]; exact fun h => c2 (by rw [h])⟩
 ·exact ⟨false, Ev.eq (fun k => kR k a b) (Ev.neg c1 Ev.ret), by simp only [Bool.false_eq_true, false_iff]; exact fun h => c1 (by rw [h])⟩
theorem Yf (a b : List bn) (ha : Bk (.list bV) a) : ∃ r, Ev (fun k => aO k a b) r /\ (r = true ↔ a = b) := by
 have hal := ha.1
 by_cases c : a.length = b.length
 ·have one : ∀ i, i < a.length -> ∃ r, Ev (fun k => mZ k (rd bV a (i : Int)) (rd bV b (i : Int))) r /\ (r = true ↔ rd bV a (i : Int) = rd bV b (i : Int)) := fun i hi => VJ _ _ (by
   rw [fT hi]
   exact Nat.le_trans (ha.2 _ (List.getElem_mem hi)).2.2.2.1.1 (by omega))
  obtain ⟨r, er, hr⟩ := gF (R := fun i v => E2 (fun k m => aO.l0 k m b a ((List.length a : Nat) : Int) i) v) (n := a.length) (fun i => rd bV a (i : Int) = rd bV b (i : Int)) true (E2.eq (fun k m => aO.aA k m b a _ _) (E2.neg (by omega) E2.ret)) (fun i hi hq v e => by
   obtain ⟨q, eq, hqq⟩ := one i hi
   refine E2.eq (fun k m => aO.aA k m b a _ _) (E2.pos (by omega) (E2.pos (by omega) (E2.pos (by omega) (E2.pos (by omega) (E2.pos (by omega) (E2.bind eq (E2.neg (fun h => h (hqq.2 hq)) ?_)))))))
   simp only [cZ (show i < 9223372036854775807 by omega)]
   exact e) (fun i hi hq => by
   obtain ⟨q, eq, hqq⟩ := one i hi
   exact E2.eq (fun k m => aO.aA k m b a _ _) (E2.pos (by omega) (E2.pos (by omega) (E2.pos (by omega) (E2.pos (by omega) (E2.pos (by omega) (E2.bind eq (E2.pos (fun h => hq (hqq.1 h)) E2.ret))))))))
  refine ⟨r, Ev.eq (fun k => jV k a b) (Ev.neg (by omega) (Ev.loop (f := fun k m => aO.l0 k m b a ((List.length a : Nat) : Int) 0) er)), hr.trans ⟨fun h => (Fh (t := bV) c).1 h.1, fun h => ⟨(Fh (t := bV) c).2 h, rfl⟩⟩⟩
 ·exact ⟨false, Ev.eq (fun k => jV k a b) (Ev.pos (by omega) Ev.ret), by simp only [Bool.false_eq_true, false_iff]; exact fun h => c (h ▸ rfl)⟩
def BkS (a : aV) : Prop := Bk (.list bR) a.1 /\ Bk (.list dn) a.2.2.1 /\ Bk (.list bV) a.2.2.2.1 /\ a.2.2.2.2.1.length <= 33554432 /\ Bk (.list dY) a.2.2.2.2.2.1 /\ Bk (.list dn) a.2.2.2.2.2.2.1
theorem VK {a : aV} (h : Bk iF a) : BkS a := ⟨h.1, h.2.2.1, h.2.2.2.1, Nat.le_trans h.2.2.2.2.1.1 (by omega), h.2.2.2.2.2.1, h.2.2.2.2.2.2.1⟩
theorem Lc (a b : aV) (h : BkS a) : ∃ r, Ev (fun k => dD k a b) r /\ (r = true ↔ a = b) := by
 obtain ⟨r1, e1, h1⟩ := Yb a.1 b.1 (by have := h.1.1; omega)
 obtain ⟨r2, e2, h2⟩ := Yd a.2.2.1 b.2.2.1 (by have := h.2.1.1; omega)
 obtain ⟨r3, e3, h3⟩ := Yf a.2.2.2.1 b.2.2.2.1 h.2.2.1
 obtain ⟨r4, e4, h4⟩ := Sl a.2.2.2.2.1 b.2.2.2.2.1 h.2.2.2.1
 obtain ⟨r5, e5, h5⟩ := Si a.2.2.2.2.2.1 b.2.2.2.2.2.1 h.2.2.2.2.1.1
 obtain ⟨r6, e6, h6⟩ := Ye a.2.2.2.2.2.2.1 b.2.2.2.2.2.2.1 (by have := h.2.2.2.2.2.1; omega)
 by_cases c1 : r1 = true
 ·by_cases cm : ((a.2.1.1 : Int) = b.2.1.1) /\ ((a.2.1.2.1 : Int) = b.2.1.2.1)
  ·by_cases c2 : r2 = true
   ·by_cases c3 : r3 = true
    ·by_cases c4 : r4 = true
     ·by_cases c5 : r5 = true
      ·by_cases c6 : r6 = true
       ·by_cases c7 : (a.2.2.2.2.2.2.2.1 : Int) = b.2.2.2.2.2.2.2.1
        ·refine ⟨_, Ev.eq (fun k => dP k a b) (Ev.bind e1 (Ev.pos c1 (Ev.pos cm (Ev.bind e2 (Ev.pos c2 (Ev.bind e3 (Ev.pos c3 (Ev.bind e4 (Ev.pos c4 (Ev.bind e5 (Ev.pos c5 (Ev.bind e6 (Ev.pos c6 (Ev.pos c7 Ev.ret)))))))))))))), ?_⟩
         rw [decide_eq_true_eq]
         have hm := (Jl a.2.1 b.2.1).1 cm
         have g1 := h1.1 c1; have g2 := h2.1 c2; have g3 := h3.1 c3; have g4 := h4.1 c4; have g5 := h5.1 c5; have g6 := h6.1 c6
         refine ⟨fun hh => ?_, fun hh => by rw [hh]⟩
         obtain ⟨a1, a2, a3, a4, a5, a6, a7, a8, a9, ⟨⟩⟩ := a
         obtain ⟨b1, b2, b3, b4, b5, b6, b7, b8, b9, ⟨⟩⟩ := b
         simp only at g1 hm g2 g3 g4 g5 g6 c7 hh
         rw [g1, hm, g2, g3, g4, g5, g6, c7, hh]
        ·exact ⟨false, Ev.eq (fun k => dP k a b) (Ev.bind e1 (Ev.pos c1 (Ev.pos cm (Ev.bind e2 (Ev.pos c2 (Ev.bind e3 (Ev.pos c3 (Ev.bind e4 (Ev.pos c4 (Ev.bind e5 (Ev.pos c5 (Ev.bind e6 (Ev.pos c6 (Ev.neg c7 Ev.ret)))))))))))))), by simp only [Bool.false_eq_true, false_iff]; exact fun hh => c7 (by rw [hh])⟩
       ·exact ⟨false, Ev.eq (fun k => dP k a b) (Ev.bind e1 (Ev.pos c1 (Ev.pos cm (Ev.bind e2 (Ev.pos c2 (Ev.bind e3 (Ev.pos c3 (Ev.bind e4 (Ev.pos c4 (Ev.bind e5 (Ev.pos c5 (Ev.bind e6 (Ev.neg c6 Ev.ret))))))))))))), by simp only [Bool.false_eq_true, false_iff]; exact fun hh => c6 (h6.2 (by rw [hh]))⟩
      ·exact ⟨false, Ev.eq (fun k => dP k a b) (Ev.bind e1 (Ev.pos c1 (Ev.pos cm (Ev.bind e2 (Ev.pos c2 (Ev.bind e3 (Ev.pos c3 (Ev.bind e4 (Ev.pos c4 (Ev.bind e5 (Ev.neg c5 Ev.ret))))))))))), by simp only [Bool.false_eq_true, false_iff]; exact fun hh => c5 (h5.2 (by rw [hh]))⟩
     ·exact ⟨false, Ev.eq (fun k => dP k a b) (Ev.bind e1 (Ev.pos c1 (Ev.pos cm (Ev.bind e2 (Ev.pos c2 (Ev.bind e3 (Ev.pos c3 (Ev.bind e4 (Ev.neg c4 Ev.ret))))))))), by simp only [Bool.false_eq_true, false_iff]; exact fun hh => c4 (h4.2 (by rw [hh]))⟩
    ·exact ⟨false, Ev.eq (fun k => dP k a b) (Ev.bind e1 (Ev.pos c1 (Ev.pos cm (Ev.bind e2 (Ev.pos c2 (Ev.bind e3 (Ev.neg c3 Ev.ret))))))), by simp only [Bool.false_eq_true, false_iff]; exact fun hh => c3 (h3.2 (by rw [hh]))⟩
   ·exact ⟨false, Ev.eq (fun k => dP k a b) (Ev.bind e1 (Ev.pos c1 (Ev.pos cm (Ev.bind e2 (Ev.neg c2 Ev.ret))))), by simp only [Bool.false_eq_true, false_iff]; exact fun hh => c2 (h2.2 (by rw [hh]))⟩
  ·exact ⟨false, Ev.eq (fun k => dP k a b) (Ev.bind e1 (Ev.pos c1 (Ev.neg cm Ev.ret))), by simp only [Bool.false_eq_true, false_iff]; exact fun hh => cm (by rw [hh]; exact ⟨rfl, rfl⟩)⟩
 ·exact ⟨false, Ev.eq (fun k => dP k a b) (Ev.bind e1 (Ev.neg c1 Ev.ret)), by simp only [Bool.false_eq_true, false_iff]; exact fun hh => c1 (h1.2 (by rw [hh]))⟩
def Gd (n : Nat) (o : aV) : Prop := o.1.length <= n /\ o.2.2.1.length <= n /\ og n o.2.2.2.1 /\ o.2.2.2.2.1.length <= n /\ o.2.2.2.2.2.1.length <= n /\ o.2.2.2.2.2.2.1.length <= n
theorem lC {n m : Nat} {o : aV} (h : Gd n o) (hm : n <= m) : Gd m o :=
 ⟨Nat.le_trans h.1 hm, Nat.le_trans h.2.1 hm, vv h.2.2.1 hm, Nat.le_trans h.2.2.2.1 hm, Nat.le_trans h.2.2.2.2.1 hm, Nat.le_trans h.2.2.2.2.2 hm⟩
theorem yS {n : Nat} {o : aV} (h : Gd n o) (hn : n <= 1048576) : Bk iF o :=
 ⟨aa5 (Nat.le_trans h.1 hn), wF (t := dn) _ rfl, YB (Nat.le_trans h.2.1 hn), Sk h.2.2.1 hn, aa7 (Nat.le_trans h.2.2.2.1 hn), aa6 (Nat.le_trans h.2.2.2.2.1 hn), YB (Nat.le_trans h.2.2.2.2.2 hn), trivial, trivial, trivial⟩
theorem Yg {n : Nat} (hn : n <= 1000000) {o out : aV} (h : Gd n o) (h2 : Gd n out) (ok : Bool) : ∃ v : aV × (Bool × Unit), Gd n v.1 /\ (v = (o, (false, ())) \/ v = (out, (true, ())) /\ Ev (fun k => fM k out) true) /\ Ev (fun k => lZ k o out ok) v := by
 have b := yS h (by omega)
 by_cases c : ok = true
 ·obtain ⟨r, e1⟩ := Jf out (KY (yS h2 (by omega)))
  by_cases d : r = true
  ·exact ⟨(out, (true, ())), h2, .inr ⟨rfl, by rw [d] at e1; exact e1⟩, Ev.eq (fun k => uq k o out ok) (Ev.neg (by simpa using c) (Ev.bind e1 (Ev.neg (by simpa using d) Ev.ret)))⟩
  ·exact ⟨(o, (false, ())), h, .inl rfl, Ev.eq (fun k => uq k o out ok) (Ev.neg (by simpa using c) (Ev.bind e1 (Ev.pos d (Ev.bind (xg _ b) Ev.ret))))⟩
 ·exact ⟨(o, (false, ())), h, .inl rfl, Ev.eq (fun k => uq k o out ok) (Ev.pos c (Ev.bind (xg _ b) Ev.ret))⟩
def ZU (n : Nat) (o : aV) (f : Nat -> Option (aV × (Bool × Unit))) : Prop := ∃ v : aV × (Bool × Unit), Gd (n + 1) v.1 /\ (v.1 = o \/ Ev (fun k => fM k v.1) true) /\ Ev f v
theorem ME {n : Nat} {o : aV} {f : Nat -> Option (aV × (Bool × Unit))} {g : Nat -> Option (aV × (Bool × Unit))} (h : ∃ v : aV × (Bool × Unit), Gd (n + 1) v.1 /\ (v = (o, (false, ())) \/ ∃ out, v = (out, (true, ())) /\ Ev (fun k => fM k out) true) /\ Ev g v) (hf : ∀ v, Ev g v -> Ev f (v.1, (decide (v.2.1 = true), ()))) : ZU n o f := by
 obtain ⟨v, h1, h2, h3⟩ := h
 refine ⟨(v.1, (decide (v.2.1 = true), ())), h1, ?_, hf v h3⟩
 rcases h2 with rfl | ⟨out, rfl, h⟩
 ·exact .inl rfl
 ·exact .inr h
theorem Sn {n : Nat} (hn : n + 1 <= 1000000) {o out : aV} (h : Gd n o) (h2 : Gd (n + 1) out) (ok : Bool) : ∃ v : aV × (Bool × Unit), Gd (n + 1) v.1 /\ (v = (o, (false, ())) \/ ∃ out, v = (out, (true, ())) /\ Ev (fun k => fM k out) true) /\ Ev (fun k => lZ k o out ok) v := by
 obtain ⟨v, h1, h2, h3⟩ := Yg hn (lC h (Nat.le_succ n)) h2 ok
 refine ⟨v, h1, ?_, h3⟩
 rcases h2 with rfl | ⟨rfl, h⟩
 ·exact .inl rfl
 ·exact .inr ⟨_, rfl, h⟩
theorem VL {n : Nat} (hn : n + 1 <= 1000000) {o : aV} (h : Gd n o) (x : Int) : ZU n o (fun k => wU k o x) := by
 have b := yS h (by omega)
 by_cases c1 : 1 <= x /\ x <= 1000
 ·by_cases c2 : 0 <= (o.2.2.2.2.2.2.2.2.1 : Int) /\ (o.2.2.2.2.2.2.2.2.1 : Int) <= 100000
  ·exact ME (Sn hn h (out := (o.1, (o.2.1, (o.2.2.1, (o.2.2.2.1, (o.2.2.2.2.1, (o.2.2.2.2.2.1, (o.2.2.2.2.2.2.1, (o.2.2.2.2.2.2.2.1, (IntKind.wrap .i64 (o.2.2.2.2.2.2.2.2.1 + x), ())))))))))) (lC (show Gd n _ from h) (Nat.le_succ n)) true) fun v e =>
    Ev.eq (fun k => sw k o x) (Ev.bind (xg _ b) (Ev.bind (bT _ _ _) (Ev.neg (by simpa using c1) (Ev.bind (bT _ _ _) (Ev.neg (by simpa using c2) (Ev.bind e Ev.ret))))))
  ·exact ⟨(o, (false, ())), lC h (Nat.le_succ n), .inl rfl, Ev.eq (fun k => sw k o x) (Ev.bind (xg _ b) (Ev.bind (bT _ _ _) (Ev.neg (by simpa using c1) (Ev.bind (bT _ _ _) (Ev.pos (by simpa using c2) Ev.ret)))))⟩
 ·exact ⟨(o, (false, ())), lC h (Nat.le_succ n), .inl rfl, Ev.eq (fun k => sw k o x) (Ev.bind (xg _ b) (Ev.bind (bT _ _ _) (Ev.pos (by simpa using c1) Ev.ret)))⟩
theorem Jm {n : Nat} {o : aV} (h : Gd n o) {l : List aF} (hl : l.length <= n + 1) (e : Int) : Gd (n + 1) (l, (o.2.1, (o.2.2.1, (o.2.2.2.1, (o.2.2.2.2.1, (o.2.2.2.2.2.1, (o.2.2.2.2.2.2.1, (e, o.2.2.2.2.2.2.2.2)))))))) :=
 have h := lC h (Nat.le_succ n); ⟨hl, h.2⟩
theorem TL {n : Nat} (hn : n + 1 <= 1000000) {o : aV} (h : Gd n o) (e : aF) : ZU n o (fun k => vP k o e) := by
 have b := yS h (by omega)
 obtain ⟨p, hp, ep⟩ := MB o.1 e (by have := h.1; omega)
 exact ME (Sn hn h (Jm h (by have := h.1; omega) _) (decide (p.2.1 = true))) fun v e1 =>
  Ev.eq (fun k => Dl k o e) (Ev.bind (xg _ b) (Ev.bind ep (Ev.bind (Zv _ _) (Ev.bind e1 Ev.ret))))
theorem VN {n : Nat} (hn : n + 1 <= 1000000) {o : aV} (h : Gd n o) (x y z w : Int) : ZU n o (fun k => wV k o x y z w) := by
 have b := yS h (by omega)
 obtain ⟨p, hp, ep⟩ := Jj o.2.2.2.2.2.1 (x, (y, (z, (o.2.2.2.2.2.2.2.2.1, (w, ()))))) (by have := h.2.2.2.2.1; omega)
 obtain ⟨r, er, _⟩ := XY p o.2.2.2.2.2.1 (by have := h.2.2.2.2.1; omega)
 have h' := lC h (Nat.le_succ n)
 have hg : Gd (n + 1) (o.1, (o.2.1, (o.2.2.1, (o.2.2.2.1, (o.2.2.2.2.1, (p, o.2.2.2.2.2.2)))))) := ⟨h'.1, h'.2.1, h'.2.2.1, h'.2.2.2.1, by have := h.2.2.2.2.1; show p.length <= _; omega, h'.2.2.2.2.2⟩
 exact ME (Sn hn h hg (decide (¬ (r = true)))) fun v e1 =>
  Ev.eq (fun k => EC k o x y z w) (Ev.bind (xg _ b) (Ev.bind ep (Ev.bind er (Ev.bind e1 Ev.ret))))
theorem VO (l : List bn) (sc : List aF) (n N : Nat) (hn : n <= 4) (hN : N <= 1000000) (hl : og N l) (hs : sc.length <= 1048576) : ∀ (d : Nat) (t : List Int), t.length + d = n -> ∃ r : List Int × (Bool × Unit), r.1.length <= 4 /\ Ev (fun k => cK k l sc (n : Int) t) r := by
 intro d
 induction d with
 | zero =>
  intro t ht
  exact ⟨([] ++ t, (true, ())), by simp; omega, Ev.eq (fun k => pz k l sc _ t) (Ev.pos (by omega) (Ev.pos (by rw [List.length_nil]; omega) Ev.ret))⟩
 | succ d ih =>
  intro t ht
  have key : ∀ (e i : Nat), i + e = l.length -> ∃ r : List Int × (Bool × Unit), r.1.length <= 4 /\ E2 (fun k m => cK.l0 k m l sc (n : Int) t (i : Int)) r := by
   intro e
   induction e with
   | zero => intro i hi; exact ⟨([], (false, ())), by simp, E2.eq (fun k m => cK.aA k m l sc _ t _) (E2.neg (by omega) E2.ret)⟩
   | succ e ihe =>
    intro i hi
    have hll := hl.1
    obtain ⟨r, hr, er⟩ := ihe (i + 1) (by omega)
    have i0 : (0 : Int) <= (i : Int) := by omega
    have i1 : (i : Int) < ((List.length l : Nat) : Int) := by omega
    have h1 := Ck t (rd bV l (i : Int)).1 (by omega)
    by_cases q : decide (((rd bV l (i : Int)).1 : Int) ∈ t) = true
    ·refine ⟨r, hr, E2.eq (fun k m => cK.aA k m l sc _ t _) (E2.pos i1 (E2.pos i0 (E2.pos i1 (E2.bind h1 (E2.pos q ?_)))))⟩
     simp only [cZ (show i < 9223372036854775807 by omega)]
     exact er
    ·have hv : (rd bV l (i : Int)).2.2.2.1.length <= 1048576 := by
      rw [fT (show i < l.length by omega)]
      exact Nat.le_trans (hl.2 _ (List.getElem_mem _)) (by omega)
     obtain ⟨b, eb, _⟩ := Cm (rd bV l (i : Int)) sc (IntKind.wrap .i64 (((List.length t : Nat) : Int) + 1)) hv hs
     by_cases qb : b = true
     ·obtain ⟨r2, hr2, er2⟩ := ih (([] ++ t) ++ [(rd bV l (i : Int)).1]) (by simp; omega)
      by_cases q2 : r2.2.1 = true
      ·exact ⟨(r2.1, (true, ())), hr2, E2.eq (fun k m => cK.aA k m l sc _ t _) (E2.pos i1 (E2.pos i0 (E2.pos i1 (E2.bind h1 (E2.neg q (E2.pos i0 (E2.pos i1 (E2.bind eb (E2.neg (fun h => h qb) (E2.pos (by rw [List.length_nil]; omega) (E2.pos i0 (E2.pos i1 (E2.pos (by rw [List.length_append, List.length_nil, List.length_singleton]; omega) (E2.bind er2 (E2.pos q2 E2.ret)))))))))))))))⟩
      ·refine ⟨r, hr, E2.eq (fun k m => cK.aA k m l sc _ t _) (E2.pos i1 (E2.pos i0 (E2.pos i1 (E2.bind h1 (E2.neg q (E2.pos i0 (E2.pos i1 (E2.bind eb (E2.neg (fun h => h qb) (E2.pos (by rw [List.length_nil]; omega) (E2.pos i0 (E2.pos i1 (E2.pos (by rw [List.length_append, List.length_nil, List.length_singleton]; omega) (E2.bind er2 (E2.neg q2 ?_)))))))))))))))⟩
       simp only [cZ (show i < 9223372036854775807 by omega)]
       exact er
     ·refine ⟨r, hr, E2.eq (fun k m => cK.aA k m l sc _ t _) (E2.pos i1 (E2.pos i0 (E2.pos i1 (E2.bind h1 (E2.neg q (E2.pos i0 (E2.pos i1 (E2.bind eb (E2.pos qb ?_)))))))))⟩
      simp only [cZ (show i < 9223372036854775807 by omega)]
      exact er
  obtain ⟨r, hr, er⟩ := key l.length 0 (by omega)
  exact ⟨r, hr, Ev.eq (fun k => pz k l sc _ t) (Ev.neg (by omega) (Ev.loop (f := fun k m => cK.l0 k m l sc (n : Int) t 0) er))⟩
theorem VP (l : List bn) (sc : List aF) (v : Int) {N : Nat} (hN : N <= 1000000) (hl : og N l) (hs : sc.length <= 1048576) : ∃ r : List Int × (Bool × Unit), r.1.length <= 4 /\ Ev (fun k => lM k l sc v) r := by
 obtain ⟨a, ea, _⟩ := vW l (MC hl (by omega))
 by_cases qa : a = true
 ·have eb := dB sc hs
  by_cases qb : gD sc
  ·by_cases qc : 1 <= v /\ v <= 4
   ·obtain ⟨m, rfl⟩ := Int.eq_ofNat_of_zero_le (show 0 <= v by omega)
    obtain ⟨r, hr, er⟩ := VO l sc m N (by omega) hN hl hs m [] (by simp)
    exact ⟨(r.1, (decide (r.2.1 = true), ())), hr, Ev.eq (fun k => gY k l sc _) (Ev.bind ea (Ev.neg (fun h => h qa) (Ev.bind eb (Ev.neg (by simpa using qb) (Ev.bind (bT _ _ _) (Ev.neg (by simpa using qc) (Ev.bind er Ev.ret)))))))⟩
   ·exact ⟨([], (false, ())), by simp, Ev.eq (fun k => gY k l sc v) (Ev.bind ea (Ev.neg (fun h => h qa) (Ev.bind eb (Ev.neg (by simpa using qb) (Ev.bind (bT _ _ _) (Ev.pos (by simpa using qc) Ev.ret))))))⟩
  ·exact ⟨([], (false, ())), by simp, Ev.eq (fun k => gY k l sc v) (Ev.bind ea (Ev.neg (fun h => h qa) (Ev.bind eb (Ev.pos (by simpa using qb) Ev.ret))))⟩
 ·exact ⟨([], (false, ())), by simp, Ev.eq (fun k => gY k l sc v) (Ev.bind ea (Ev.pos qa Ev.ret))⟩
theorem VQ {n : Nat} (h4 : 4 <= n) (hn : n + 1 <= 1000000) {o : aV} (h : Gd n o) (v : Int) : ZU n o (fun k => wW k o v) := by
 have b := yS h (by omega)
 obtain ⟨p, hp, ep⟩ := VP o.2.2.2.1 o.1 v (by omega) h.2.2.1 (by have := h.1; omega)
 have h' := lC h (Nat.le_succ n)
 have hg : Gd (n + 1) (o.1, (o.2.1, (o.2.2.1, (o.2.2.2.1, (p.1, o.2.2.2.2.2))))) := ⟨h'.1, h'.2.1, h'.2.2.1, by show p.1.length <= _; omega, h'.2.2.2.2⟩
 exact ME (Sn hn h hg (decide (p.2.1 = true))) fun v e1 =>
  Ev.eq (fun k => ED k o _) (Ev.bind (xg _ b) (Ev.bind ep (Ev.bind e1 Ev.ret)))
def Zz (p : bn) : Prop := p.2.2.2.1.length <= 3
theorem Jo {n m : Nat} {l l' : List bn} (h : og n l) (hl : l'.length <= m) (hm : ∀ p ∈ l', p ∈ l) : og m l' := ⟨hl, fun p hp => h.2 p (hm p hp)⟩
theorem OE {n m k : Nat} {l l' : List bn} (h : og n l) (h' : og m l') (hk : l.length + l'.length <= k) : og k (l ++ l') := ⟨by rw [List.length_append]; exact hk, fun p hp => (List.mem_append.1 hp).elim (h.2 p) (h'.2 p)⟩
theorem Cn {n : Nat} {o : aV} (h : Gd n o) {l : List bn} (hl : og (n + 1) l) {seats : List Int} (hs : seats.length <= n + 1) : Gd (n + 1) (o.1, (o.2.1, (o.2.2.1, (l, (seats, o.2.2.2.2.2))))) :=
 have h := lC h (Nat.le_succ n); ⟨h.1, h.2.1, hl, hs, h.2.2.2.2⟩
theorem Yh (m : bE) (ps : List bn) (h : og 10 ps) : ∃ v : aV × (Bool × Unit), Gd 10 v.1 /\ (v.1 = Br \/ v.1 = zf m ps /\ Ev (fun k => fM k v.1) true) /\ Ev (fun k => qR k m ps) v := by
 have b := Ya m ps (Sk h (by omega))
 obtain ⟨r, e1⟩ := Jf (zf m ps) (KY b)
 by_cases c : r = true
 ·exact ⟨(zf m ps, (true, ())), ⟨by simp [zf], by simp [zf], h, by simp [zf], by simp [zf], by simp [zf]⟩, .inr ⟨rfl, by rw [c] at e1; exact e1⟩, Ev.eq (fun k => tN k m ps) (Ev.bind (xg _ b) (Ev.bind e1 (Ev.neg (by simpa using c) Ev.ret)))⟩
 ·exact ⟨(Br, (false, ())), ⟨by simp [Br], by simp [Br], ⟨by simp [Br], by simp [Br]⟩, by simp [Br], by simp [Br], by simp [Br]⟩, .inl rfl, Ev.eq (fun k => tN k m ps) (Ev.bind (xg _ b) (Ev.bind e1 (Ev.pos c Ev.ret)))⟩
theorem TM {o : aV} (h : Ev (fun k => aZ k o) true) : Ev (fun k => eF k o.2.2.2.1 o.1 o.2.2.2.2.1) true := by
 obtain ⟨K, h⟩ := h
 refine ⟨K, fun k hk => ?_⟩
 have h := h (k + 1) (by omega)
 have h : aZ (k + 1) o = some true := h
 rw [eP] at h
 obtain ⟨r1, _, h⟩ := Option.bind_eq_some_iff.1 h
 split at h
 case isFalse => cases h
 obtain ⟨r2, _, h⟩ := Option.bind_eq_some_iff.1 h
 split at h
 case isFalse => cases h
 obtain ⟨r3, _, h⟩ := Option.bind_eq_some_iff.1 h
 split at h
 case isFalse => cases h
 obtain ⟨r4, _, h⟩ := Option.bind_eq_some_iff.1 h
 split at h
 case isFalse => cases h
 obtain ⟨r5, _, h⟩ := Option.bind_eq_some_iff.1 h
 split at h
 case isFalse => cases h
 obtain ⟨r6, h6, h⟩ := Option.bind_eq_some_iff.1 h
 split at h
 case isFalse => cases h
 rename_i hr
 rw [hr] at h6
 exact h6
theorem Ld {can : Nat -> Int -> Bool} {eY : Nat -> Int} {len : Nat} : ∀ (d : Nat) (t : List Int), (tC can eY len d t).1.length <= t.length + d
 | 0, t => Nat.le_refl _
 | d + 1, t => by
  have key : ∀ e, (kV (tC can eY len d) can eY len t e).1.length <= t.length + (d + 1) := by
   intro e
   induction e with
   | zero => exact Nat.le_add_right _ _
   | succ e ih =>
    unfold kV
    split
    ·exact ih
    ·split
     ·have := Ld (can := can) (eY := eY) (len := len) d (t ++ [eY (len - (e + 1))])
      rw [List.length_append, List.length_singleton] at this
      show (tC can eY len d (t ++ [eY (len - (e + 1))])).1.length <= _
      omega
     ·exact ih
  exact key len
theorem TN (l : List bn) (sc : List aF) (v : Int) : (oM Go.fZ.OO Go.fZ.OP Go.fZ.AJ l sc v).1.length <= 4 := by
 unfold oM
 split
 ·rename_i h
  refine Nat.le_trans (Ld _ _) ?_
  rw [List.length_nil]
  omega
 ·simp
theorem VR (l : List bn) (sc : List aF) (v : Int) (hok : zQ l sc) : Ev (fun k => sj k l sc v) ((oM Go.fZ.OO Go.fZ.OP Go.fZ.AJ l sc v).1, ((oM Go.fZ.OO Go.fZ.OP Go.fZ.AJ l sc v).2, ())) :=
 Ev.eq (fun k => Ba k l sc v) (by
  have := Oi Go.fZ.OO Go.fZ.OP Go.fZ.AJ (v := v) hok
  exact ⟨0, fun _ _ => this⟩)
theorem Jp {can : Nat -> Int -> Bool} {eY : Nat -> Int} {len : Nat} : ∀ (d : Nat) (t : List Int), (tC can eY len d t).2 = true -> (tC can eY len d t).1.length = t.length + d
 | 0, t, _ => rfl
 | d + 1, t, h => by
  have key : ∀ e, (kV (tC can eY len d) can eY len t e).2 = true -> (kV (tC can eY len d) can eY len t e).1.length = t.length + (d + 1) := by
   intro e
   induction e with
   | zero => intro h; simp [kV] at h
   | succ e ih =>
    intro h
    simp only [kV] at h ⊢
    split at h
    ·rename_i c
     rw [if_pos c]
     exact ih h
    ·rename_i c
     rw [if_neg c]
     split at h
     ·rename_i c2
      rw [if_pos c2]
      have := Jp (can := can) (eY := eY) (len := len) d (t ++ [eY (len - (e + 1))]) c2
      simp only [List.length_append, List.length_singleton] at this
      show (tC can eY len d (t ++ [eY (len - (e + 1))])).1.length = _
      omega
     ·rename_i c2
      rw [if_neg c2]
      exact ih h
  exact key len h
theorem Qr (l : List bn) (sc : List aF) (v : Int) (h : (oM Go.fZ.OO Go.fZ.OP Go.fZ.AJ l sc v).2 = true) : (((oM Go.fZ.OO Go.fZ.OP Go.fZ.AJ l sc v).1.length : Nat) : Int) = v := by
 unfold oM at h ⊢
 split at h
 ·rename_i c
  rw [if_pos c]
  have := Jp _ _ h
  simp only [List.length_nil] at this
  rw [this]
  omega
 ·cases h
def JZ (n : Nat) (o : aV) (P : aV -> Prop) (f : Nat -> Option (aV × (Bool × Unit))) : Prop := ∃ v : aV × (Bool × Unit), Gd (n + 1) v.1 /\ (v = (o, (false, ())) \/ v.2.1 = true /\ Ev (fun k => aZ k v.1) true /\ P v.1) /\ Ev f v
theorem Fj {n : Nat} (hn : n + 1 <= 1000000) {o out : aV} {P : aV -> Prop} {g : Nat -> aV -> Option (Bool × aV)} {ok : Bool} (h : Gd n o) (e : Ev (fun k => g k o) (ok, out)) (hg : ok = true -> Gd (n + 1) out) (hP : ok = true -> P out) :
  JZ n o P (fun k => (ay k o).bind fun r1 => (g k r1).bind fun r2 => if ¬ (r2.1 = true) then (ay k o).bind fun r3 => some (r3, (false, ())) else (aZ k r2.2).bind fun r4 => if ¬ (r4 = true) then (ay k o).bind fun r5 => some (r5, (false, ())) else some (r2.2, (true, ()))) := by
 have b := yS h (by omega)
 have h' := lC h (Nat.le_succ n)
 by_cases c : ok = true
 ·obtain ⟨r, _, i1⟩ := xQ out (KY (yS (hg c) (by omega)))
  by_cases d : r = true
  ·exact ⟨(out, (true, ())), hg c, .inr ⟨rfl, by rw [d] at i1; exact i1, hP c⟩, Ev.bind (xS _ b) (Ev.bind e (Ev.neg (by simpa using c) (Ev.bind i1 (Ev.neg (by simpa using d) Ev.ret))))⟩
  ·exact ⟨(o, (false, ())), h', .inl rfl, Ev.bind (xS _ b) (Ev.bind e (Ev.neg (by simpa using c) (Ev.bind i1 (Ev.pos d (Ev.bind (xS _ b) Ev.ret)))))⟩
 ·exact ⟨(o, (false, ())), h', .inl rfl, Ev.bind (xS _ b) (Ev.bind e (Ev.pos c (Ev.bind (xS _ b) Ev.ret)))⟩
theorem wH {n : Nat} {o : aV} {P : aV -> Prop} {f g : Nat -> Option (aV × (Bool × Unit))} (h : JZ n o P f) (hf : ∀ v, Ev f v -> Ev g (v.1, (decide (v.2.1 = true), ()))) : JZ n o P g := by
 obtain ⟨v, g1, g2, e1⟩ := h
 have hv : (v.1, (decide (v.2.1 = true), ())) = v := by simp
 exact ⟨v, g1, g2, (hf v e1).val hv⟩
theorem Ak {n : Nat} {o : aV} {P : aV -> Prop} {f F : Nat -> Option (aV × (Bool × Unit))} (hF : ∀ k, F (k + 1) = f k) (h : JZ n o P f) : JZ n o P F := by
 obtain ⟨v, g1, g2, e1⟩ := h
 exact ⟨v, g1, g2, Ev.eq hF e1⟩
theorem Yi (l : List aF) (e : aF) (hl : l.length <= 1048576) : ∃ p, p <= l.length /\ (∀ j, j < p -> zR (rd bR l (j : Int)) e) /\ (p < l.length -> ¬ zR (rd bR l (p : Int)) e) /\
  Ev (fun k => wX k l e) (if gD (l.take p ++ [e] ++ l.drop p) then (l.take p ++ [e] ++ l.drop p, (true, ())) else (l, (false, ()))) := by
 obtain ⟨p, hp, h1, h2⟩ := nY (fun i => zR (rd bR l (i : Int)) e) l.length
 have hm : (l.take p ++ [e] ++ l.drop p).length = l.length + 1 := by simp; omega
 refine ⟨p, hp, h1, h2, ?_⟩
 have hi : Ev (fun k => bg k l e) (if p < l.length then (p : Int) else -1) := by
  have key : ∀ d i : Nat, i + d = p -> E2 (fun k m => bg.l0 k m l e ((List.length l : Nat) : Int) (i : Int)) (if p < l.length then (p : Int) else -1) := by
   intro d
   induction d with
   | zero =>
    intro i hi
    have hi : i = p := by omega
    subst hi
    refine E2.eq (fun k m => bg.aA k m l e _ _) ?_
    by_cases c : i < l.length
    ·rw [if_pos c]
     exact E2.pos (by omega) (E2.pos (by omega) (E2.pos (by omega) (E2.bind (Sc _ _) (E2.pos (by simpa using h2 c) E2.ret))))
    ·rw [if_neg c]
     exact E2.neg (by omega) E2.ret
   | succ d ih =>
    intro i hi
    refine E2.eq (fun k m => bg.aA k m l e _ _) (E2.pos (by omega) (E2.pos (by omega) (E2.pos (by omega) (E2.bind (Sc _ _) (E2.neg (by simpa using h1 i (by omega)) ?_)))))
    simp only [cZ (show i < 9223372036854775807 by omega)]
    exact ih (i + 1) (by omega)
  exact Ev.eq (fun k => qg k l e) (Ev.loop (f := fun k m => bg.l0 k m l e ((List.length l : Nat) : Int) 0) (key p 0 (by omega)))
 have hins : Ev (fun k => jq k l (p : Int) [e]) (l.take p ++ [e] ++ l.drop p) := by
  refine Ev.eq (f := fun _ => some (l.take p ++ [e] ++ l.drop p)) (fun k => ?_) Ev.ret
  rw [uU]
  have := sJ (T := bR) (B := 32) (l := l) (i := (p : Int)) (x := e) (by omega) (by omega) (by omega)
  simpa using this
 have Wv := sM (l.take p ++ [e] ++ l.drop p) (by omega)
 by_cases c : gD (l.take p ++ [e] ++ l.drop p)
 ·rw [if_pos c]
  refine Ev.eq (fun k => xP k l e) (Ev.bind hi ?_)
  by_cases d : p < l.length
  ·rw [if_pos d]
   exact Ev.neg (by omega) (Ev.bind (jC _ hl) (Ev.bind hins (Ev.bind Wv (Ev.neg (by simpa using c) Ev.ret))))
  ·rw [if_neg d]
   have hpl : p = l.length := by omega
   rw [hpl] at hins Wv c ⊢
   exact Ev.pos (by omega) (Ev.bind (jC _ hl) (Ev.bind hins (Ev.bind Wv (Ev.neg (by simpa using c) Ev.ret))))
 ·rw [if_neg c]
  refine Ev.eq (fun k => xP k l e) (Ev.bind hi ?_)
  by_cases d : p < l.length
  ·rw [if_pos d]
   exact Ev.neg (by omega) (Ev.bind (jC _ hl) (Ev.bind hins (Ev.bind Wv (Ev.pos (by simpa using c) (Ev.bind (jC _ hl) Ev.ret)))))
  ·rw [if_neg d]
   have hpl : p = l.length := by omega
   rw [hpl] at hins Wv c
   exact Ev.pos (by omega) (Ev.bind (jC _ hl) (Ev.bind hins (Ev.bind Wv (Ev.pos (by simpa using c) (Ev.bind (jC _ hl) Ev.ret)))))
theorem Jq {n : Nat} (hn : n + 1 <= 1000000) {o out : aV} {P : aV -> Prop} {ok : Bool} {e : aF} (h : Gd n o) (ec : Ev (fun k => kg k o e) (ok, out)) (hg : ok = true -> Gd (n + 1) out) (hP : ok = true -> P out) : JZ n o P (fun k => qI k o e) :=
 wH (Ak (F := fun k => uh k o e) (fun k => Ca k o e) (Fj (g := fun k r => kg k r e) hn h ec hg hP)) fun v e1 => Ev.eq (fun k => Dh k o e) (Ev.bind e1 Ev.ret)
theorem Qs {n : Nat} (hn : n + 1 <= 1000000) {o out : aV} {P : aV -> Prop} {ok : Bool} {e : aF} (h : Gd n o) (ec : Ev (fun k => lJ k o e) (ok, out)) (hg : ok = true -> Gd (n + 1) out) (hP : ok = true -> P out) : JZ n o P (fun k => qJ k o e) :=
 wH (Ak (F := fun k => rT k o e) (fun k => AL k o e) (Fj (g := fun k r => lJ k r e) hn h ec hg hP)) fun v e1 => Ev.eq (fun k => Di k o e) (Ev.bind e1 Ev.ret)
theorem Qt {n : Nat} (hn : n + 1 <= 1000000) {o out : aV} {P : aV -> Prop} {ok : Bool} {x : bE} (h : Gd n o) (ec : Ev (fun k => lK k o x) (ok, out)) (hg : ok = true -> Gd (n + 1) out) (hP : ok = true -> P out) : JZ n o P (fun k => qK k o x) :=
 wH (Ak (F := fun k => rU k o x) (fun k => AO k o x) (Fj (g := fun k r => lK k r x) hn h ec hg hP)) fun v e1 => Ev.eq (fun k => Dj k o x) (Ev.bind e1 Ev.ret)
theorem TP {n : Nat} (hn : n + 1 <= 1000000) {o out : aV} {P : aV -> Prop} {ok : Bool} {v : Int} (h : Gd n o) (ec : Ev (fun k => mF k o v) (ok, out)) (hg : ok = true -> Gd (n + 1) out) (hP : ok = true -> P out) : JZ n o P (fun k => sN k o v) :=
 wH (Ak (F := fun k => rV k o v) (fun k => AP k o v) (Fj (g := fun k r => mF k r v) hn h ec hg hP)) fun w e1 => Ev.eq (fun k => Et k o v) (Ev.bind e1 Ev.ret)
theorem yJ {n : Nat} (hn : n + 1 <= 1000000) {o out : aV} {P : aV -> Prop} {ok : Bool} {id : Int} (h : Gd n o) (ec : Ev (fun k => ko k o id) (ok, out)) (hg : ok = true -> Gd (n + 1) out) (hP : ok = true -> P out) : JZ n o P (fun k => qN k o id) :=
 wH (Ak (F := fun k => rW k o id) (fun k => AQ k o id) (Fj (g := fun k r => ko k r id) hn h ec hg hP)) fun v e1 => Ev.eq (fun k => Dk k o id) (Ev.bind e1 Ev.ret)
theorem TQ {n : Nat} (hn : n + 1 <= 1000000) {o out : aV} {P : aV -> Prop} {ok : Bool} {p : bn} (h : Gd n o) (ec : Ev (fun k => dF k o p) (ok, out)) (hg : ok = true -> Gd (n + 1) out) (hP : ok = true -> P out) : JZ n o P (fun k => sO k o p) :=
 wH (Ak (F := fun k => rX k o p) (fun k => AR k o p) (Fj (g := fun k r => dF k r p) hn h ec hg hP)) fun v e1 => Ev.eq (fun k => Eu k o p) (Ev.bind e1 Ev.ret)
theorem EJ {n : Nat} (hn : n + 1 <= 1000000) {o out : aV} {P : aV -> Prop} {ok : Bool} {x : Int} (h : Gd n o) (ec : Ev (fun k => mH k o x) (ok, out)) (hg : ok = true -> Gd (n + 1) out) (hP : ok = true -> P out) : JZ n o P (fun k => sQ k o x) :=
 wH (Ak (F := fun k => rZ k o x) (fun k => AV k o x) (Fj (g := fun k r => mH k r x) hn h ec hg hP)) fun v e1 => Ev.eq (fun k => Ey k o x) (Ev.bind e1 Ev.ret)
theorem TR {n : Nat} (hn : n + 1 <= 1000000) {o out : aV} {P : aV -> Prop} {ok : Bool} {x1 x2 x3 x4 : Int} (h : Gd n o) (ec : Ev (fun k => mG k o x1 x2 x3 x4) (ok, out)) (hg : ok = true -> Gd (n + 1) out) (hP : ok = true -> P out) : JZ n o P (fun k => sP k o x1 x2 x3 x4) :=
 wH (Ak (F := fun k => rY k o x1 x2 x3 x4) (fun k => AU k o x1 x2 x3 x4) (Fj (g := fun k r => mG k r x1 x2 x3 x4) hn h ec hg hP)) fun v e1 => Ev.eq (fun k => Ew k o x1 x2 x3 x4) (Ev.bind e1 Ev.ret)
theorem ZA {n : Nat} (hn : n + 1 <= 1000000) {o : aV} (h : Gd n o) (e : aF) : JZ n o (fun b => e ∈ b.1 /\ Eq (α := Int) b.2.2.2.2.2.2.2.1 (IntKind.wrap .i64 (o.2.2.2.2.2.2.2.1 + 1))) (fun k => qI k o e) := by
 obtain ⟨p, hp, _, _, ep⟩ := Yi o.1 e (by have := h.1; omega)
 have hm : (o.1.take p ++ [e] ++ o.1.drop p).length = o.1.length + 1 := by simp; omega
 have hmem : e ∈ o.1.take p ++ [e] ++ o.1.drop p := by simp
 generalize o.1.take p ++ [e] ++ o.1.drop p = L at ep hm hmem
 by_cases c : gD L
 ·rw [if_pos c] at ep
  have ec : Ev (fun k => kg k o e) (true, (L, (o.2.1, (o.2.2.1, (o.2.2.2.1, (o.2.2.2.2.1, (o.2.2.2.2.2.1, (o.2.2.2.2.2.2.1, (IntKind.wrap .i64 (o.2.2.2.2.2.2.2.1 + 1), o.2.2.2.2.2.2.2.2))))))))) := Ev.eq (fun k => uI k o e) (Ev.bind ep Ev.ret)
  exact Jq hn h ec (fun _ => Jm h (by have := h.1; omega) _) fun _ => ⟨hmem, rfl⟩
 ·rw [if_neg c] at ep
  have ec : Ev (fun k => kg k o e) (false, (o.1, (o.2.1, (o.2.2.1, (o.2.2.2.1, (o.2.2.2.2.1, (o.2.2.2.2.2.1, (o.2.2.2.2.2.2.1, (IntKind.wrap .i64 (o.2.2.2.2.2.2.2.1 + 1), o.2.2.2.2.2.2.2.2))))))))) := Ev.eq (fun k => uI k o e) (Ev.bind ep Ev.ret)
  exact Jq hn h ec (fun hh => by cases hh) fun hh => by cases hh
theorem VT (l : List aF) (e : aF) (hl : l.length <= 1048576) : ∃ v : List aF × (Bool × Unit), (v.2.1 = true -> v.1.length <= l.length /\ e ∉ v.1) /\ Ev (fun k => vQ k l e) v := by
 obtain ⟨p, hp, h1, h2⟩ := nY (fun i => rd bR l (i : Int) ≠ e) l.length
 have hi : Ev (fun k => cu k l e) (if p < l.length then (p : Int) else -1) := by
  have key : ∀ d i : Nat, i + d = p -> E2 (fun k m => cu.l0 k m l ((List.length l : Nat) : Int) (i : Int) e.1 e.2.1 e.2.2.1 e.2.2.2.1) (if p < l.length then (p : Int) else -1) := by
   intro d
   induction d with
   | zero =>
    intro i hi
    have hi : i = p := by omega
    subst hi
    refine E2.eq (fun k m => cu.aA k m l _ _ _ _ _ _) ?_
    by_cases c : i < l.length
    ·rw [if_pos c]
     have he : rd bR l (i : Int) = e := Classical.not_not.1 (h2 c)
     exact E2.pos (by omega) (E2.pos (by omega) (E2.pos (by omega) (E2.pos ((Mw _ _).2 he.symm) E2.ret)))
    ·rw [if_neg c]
     exact E2.neg (by omega) E2.ret
   | succ d ih =>
    intro i hi
    refine E2.eq (fun k m => cu.aA k m l _ _ _ _ _ _) (E2.pos (by omega) (E2.pos (by omega) (E2.pos (by omega) (E2.neg (fun h => h1 i (by omega) ((Mw _ _).1 h).symm) ?_))))
    simp only [cZ (show i < 9223372036854775807 by omega)]
    exact ih (i + 1) (by omega)
  exact Ev.eq (fun k => vU k l e) (Ev.loop (f := fun k m => cu.l0 k m l ((List.length l : Nat) : Int) 0 e.1 e.2.1 e.2.2.1 e.2.2.2.1) (key p 0 (by omega)))
 have Wv := dN l hl
 by_cases d : p < l.length
 ·by_cases c : gD l
  ·have hk := OA c.1 d (Classical.not_not.1 (h2 d))
   have hdel : Ev (fun k => kX k l (p : Int) (IntKind.wrap .i64 ((p : Int) + 1))) (Jg l e l.length) := by
    refine Ev.eq (f := fun _ => some (Jg l e l.length)) (fun k => ?_) Ev.ret
    rw [uV, cZ (show p < 9223372036854775807 by omega)]
    have := Bl (T := bR) (l := l) (i := (p : Int)) (j := ((p + 1 : Nat) : Int)) (by omega) (by omega) (by omega) (by omega)
    rw [hk]
    simpa using this
   refine ⟨(Jg l e l.length, (true, ())), fun _ => ⟨TD, fun hm => ?_⟩, Ev.eq (fun k => qX k l e) (Ev.bind hi ?_)⟩
   ·have hm : e ∈ (l.take l.length).filter (fun x => decide (x ≠ e)) := hm
    simp at hm
   ·rw [if_pos d]
    exact Ev.bind Wv (Ev.neg (by simpa using c) (Ev.neg (by omega) (Ev.bind (jC _ hl) (Ev.bind hdel Ev.ret))))
  ·exact ⟨(l, (false, ())), fun h => (by cases h), Ev.eq (fun k => qX k l e) (Ev.bind hi (Ev.bind Wv (Ev.pos (by simpa using c) (Ev.bind (jC _ hl) Ev.ret))))⟩
 ·refine ⟨(l, (false, ())), fun h => (by cases h), Ev.eq (fun k => qX k l e) (Ev.bind hi (Ev.bind Wv ?_))⟩
  rw [if_neg d]
  by_cases c : gD l
  ·exact Ev.neg (by simpa using c) (Ev.pos (by omega) (Ev.bind (jC _ hl) Ev.ret))
  ·exact Ev.pos (by simpa using c) (Ev.bind (jC _ hl) Ev.ret)
theorem ZB {n : Nat} (hn : n + 1 <= 1000000) {o : aV} (h : Gd n o) (e : aF) : JZ n o (fun b => e ∉ b.1) (fun k => qJ k o e) := by
 obtain ⟨v, hv, ev⟩ := VT o.1 e (by have := h.1; omega)
 have ec : Ev (fun k => lJ k o e) (decide (v.2.1 = true), (v.1, (o.2.1, (o.2.2.1, (o.2.2.2.1, (o.2.2.2.2.1, (o.2.2.2.2.2.1, (o.2.2.2.2.2.2.1, (IntKind.wrap .i64 (o.2.2.2.2.2.2.2.1 + 1), o.2.2.2.2.2.2.2.2))))))))) := Ev.eq (fun k => AX k o e) (Ev.bind ev Ev.ret)
 exact Qs hn h ec (fun c => Jm h (by have := (hv (by simpa using c)).1; have := h.1; omega) _) fun c => (hv (by simpa using c)).2
theorem ZC {n : Nat} (hn : n + 1 <= 1000000) {o : aV} (h : Gd n o) (x : bE) : JZ n o (fun b => ∃ p, p <= o.2.2.1.length /\ (∀ j, j < p -> ((rd dn o.2.2.1 (j : Int)).1 : Int) < x.1) /\ (p < o.2.2.1.length -> ¬ ((rd dn o.2.2.1 (p : Int)).1 : Int) < x.1) /\ b.2.2.1 = Aj o.2.2.1 x p) (fun k => qK k o x) := by
 have hl : o.2.2.1.length <= 1048576 := by have := h.2.1; omega
 obtain ⟨p, hp, h1, h2⟩ := nY (fun i => ((rd dn o.2.2.1 (i : Int)).1 : Int) < x.1) o.2.2.1.length
 have hlen := VE o.2.2.1 x p hp
 have hi := Tz o.2.2.1 x hl p hp h1 h2
 have i1 : Ev (fun k => lK k o x) (true, (o.1, (o.2.1, (Aj o.2.2.1 x p, o.2.2.2)))) := by
  refine Ev.eq (fun k => AY k o x) (Ev.bind hi ?_)
  by_cases c : p < o.2.2.1.length
  ·rw [if_pos c]
   refine Ev.neg (by omega) (Ev.pos (by omega) (Ev.pos (by omega) ?_))
   by_cases q : ((rd dn o.2.2.1 (p : Int)).1 : Int) = x.1
   ·refine Ev.pos q (Ev.pos (by omega) (Ev.pos (by omega) (Ev.ret.val ?_)))
    have e : List.set o.2.2.1 (Int.toNat (p : Int)) x = Aj o.2.2.1 x p := by
     unfold Aj
     rw [if_pos ⟨c, q⟩, Int.toNat_natCast, List.set_eq_take_append_cons_drop, if_pos c]
     simp
    rw [e]
   ·have hins : Ev (fun k => kW k o.2.2.1 (p : Int) [x]) (Aj o.2.2.1 x p) := by
     refine Ev.eq (f := fun _ => some (Aj o.2.2.1 x p)) (fun k => ?_) Ev.ret
     rw [uT]
     have := sJ (T := dn) (B := 16) (l := o.2.2.1) (i := (p : Int)) (x := x) (by omega) (by omega) (by omega)
     unfold Aj
     rw [if_neg (fun h => q h.2)]
     simpa using this
    exact Ev.neg q (Ev.bind hins Ev.ret)
  ·rw [if_neg c]
   refine Ev.pos (by omega) (Ev.pos (by simp only [List.length_singleton]; omega) (Ev.ret.val ?_))
   have e : o.2.2.1 ++ [x] = Aj o.2.2.1 x p := by
    have : p = o.2.2.1.length := by omega
    subst this
    unfold Aj
    rw [if_neg (fun h => c h.1)]
    simp
   rw [e]
 have h' := lC h (Nat.le_succ n)
 exact Qt hn h i1 (fun _ => ⟨h'.1, by have := h.2.1; show (Aj o.2.2.1 x p).length <= _; omega, h'.2.2⟩) fun _ => ⟨p, hp, h1, h2, rfl⟩
theorem aa8 {n : Nat} (h4 : 4 <= n) (hn : n + 1 <= 1000000) {o : aV} (h : Gd n o) (v : Int) : JZ n o (fun b => ((b.2.2.2.2.1.length : Nat) : Int) = v) (fun k => sN k o v) := by
 have b := yS h (by omega)
 have hok : zQ o.2.2.2.1 o.1 := ⟨b.2.2.2.1.1, b.1.1, fun p hp => (b.2.2.2.1.2 p hp).2.2.2.1.1⟩
 have ei := VR o.2.2.2.1 o.1 v hok
 have hlen := TN o.2.2.2.1 o.1 v
 have htr := Qr o.2.2.2.1 o.1 v
 generalize oM Go.fZ.OO Go.fZ.OP Go.fZ.AJ o.2.2.2.1 o.1 v = R at ei hlen htr
 have ec : Ev (fun k => mF k o v) (decide (R.2 = true), (o.1, (o.2.1, (o.2.2.1, (o.2.2.2.1, (R.1, o.2.2.2.2.2)))))) := Ev.eq (fun k => Cc k o v) (Ev.bind ei Ev.ret)
 have h' := lC h (Nat.le_succ n)
 exact TP hn h ec (fun _ => ⟨h'.1, h'.2.1, h'.2.2.1, by show R.1.length <= _; omega, h'.2.2.2.2⟩) fun c => htr (by simpa using c)
theorem aa9 {n : Nat} (hn : n + 1 <= 1000000) {o : aV} (h : Gd n o) (x : Int) : JZ n o (fun b => Eq (α := Int) b.2.2.2.2.2.2.2.2.1 (IntKind.wrap .i64 (o.2.2.2.2.2.2.2.2.1 + x))) (fun k => sQ k o x) := by
 have h' := lC h (Nat.le_succ n)
 by_cases c1 : (1 : Int) <= x /\ x <= 1000
 ·by_cases c2 : (0 : Int) <= o.2.2.2.2.2.2.2.2.1 /\ o.2.2.2.2.2.2.2.2.1 <= 100000
  ·have ec : Ev (fun k => mH k o x) (true, (o.1, (o.2.1, (o.2.2.1, (o.2.2.2.1, (o.2.2.2.2.1, (o.2.2.2.2.2.1, (o.2.2.2.2.2.2.1, (o.2.2.2.2.2.2.2.1, (IntKind.wrap .i64 (o.2.2.2.2.2.2.2.2.1 + x), ())))))))))) := Ev.eq (fun k => pX k o x) (Ev.bind (aI _ _ _) (Ev.neg (by simpa using c1) (Ev.bind (aI _ _ _) (Ev.neg (by simpa using c2) Ev.ret))))
   exact EJ hn h ec (fun _ => h') fun _ => rfl
  ·exact EJ (out := o) (ok := false) hn h (Ev.eq (fun k => pX k o x) (Ev.bind (aI _ _ _) (Ev.neg (by simpa using c1) (Ev.bind (aI _ _ _) (Ev.pos (by simpa using c2) Ev.ret))))) (fun hh => by cases hh) fun hh => by cases hh
 ·exact EJ (out := o) (ok := false) hn h (Ev.eq (fun k => pX k o x) (Ev.bind (aI _ _ _) (Ev.pos (by simpa using c1) Ev.ret))) (fun hh => by cases hh) fun hh => by cases hh
theorem abb {n : Nat} (hn : n + 1 <= 1000000) {o : aV} (h : Gd n o) (x1 x2 x3 x4 : Int) : JZ n o (fun _ => True) (fun k => sP k o x1 x2 x3 x4) := by
 have hl : o.2.2.2.2.2.1.length <= 1048576 := by have := h.2.2.2.2.1; omega
 obtain ⟨u, hu, p1, p2⟩ := TK o.2.2.2.2.2.1 (x1, (x2, (x3, (o.2.2.2.2.2.2.2.2.1, (x4, ()))))) hl
 obtain ⟨u', hu', p1'⟩ := Jj o.2.2.2.2.2.1 (x1, (x2, (x3, (o.2.2.2.2.2.2.2.2.1, (x4, ()))))) hl
 have := Ev.uniq p1 p1'
 subst this
 obtain ⟨r, er, _⟩ := Si o.2.2.2.2.2.1 u hl
 have h' := lC h (Nat.le_succ n)
 have ec : Ev (fun k => mG k o x1 x2 x3 x4) (decide (¬ (r = true)), (o.1, (o.2.1, (o.2.2.1, (o.2.2.2.1, (o.2.2.2.2.1, (u, o.2.2.2.2.2.2))))))) := Ev.eq (fun k => Cg k o x1 x2 x3 x4) (Ev.bind p2 (Ev.bind er Ev.ret))
 exact TR hn h ec (fun _ => ⟨h'.1, h'.2.1, h'.2.2.1, h'.2.2.2.1, by have := h.2.2.2.2.1; show u.length <= _; omega, h'.2.2.2.2.2⟩) fun _ => trivial
theorem Yj (l : List bn) (id : Int) (hl : l.length <= 1048576) : ∃ p, p <= l.length /\ (∀ j, j < p -> ¬ ((rd bV l (j : Int)).1 : Int) = id) /\ (p < l.length -> ((rd bV l (p : Int)).1 : Int) = id) /\ Ev (fun k => aS k l id) (if p < l.length then (p : Int) else -1) := by
 obtain ⟨p, hp, h1, h2⟩ := nY (fun i => ¬ ((rd bV l (i : Int)).1 : Int) = id) l.length
 refine ⟨p, hp, h1, fun c => Classical.not_not.1 (h2 c), ?_⟩
 have key : ∀ d i : Nat, i + d = p -> E2 (fun k m => aS.l0 k m l id ((List.length l : Nat) : Int) (i : Int)) (if p < l.length then (p : Int) else -1) := by
  intro d
  induction d with
  | zero =>
   intro i hi
   have hi : i = p := by omega
   subst hi
   refine E2.eq (fun k m => aS.aA k m l id _ _) ?_
   by_cases c : i < l.length
   ·rw [if_pos c]
    exact E2.pos (by omega) (E2.pos (by omega) (E2.pos (by omega) (E2.bind (Ev.eq (fun k => rC k _ _) Ev.ret) (E2.pos (by simpa using Classical.not_not.1 (h2 c)) E2.ret))))
   ·rw [if_neg c]
    exact E2.neg (by omega) E2.ret
  | succ d ih =>
   intro i hi
   refine E2.eq (fun k m => aS.aA k m l id _ _) (E2.pos (by omega) (E2.pos (by omega) (E2.pos (by omega) (E2.bind (Ev.eq (fun k => rC k _ _) Ev.ret) (E2.neg (by simpa using h1 i (by omega)) ?_)))))
   simp only [cZ (show i < 9223372036854775807 by omega)]
   exact ih (i + 1) (by omega)
 exact Ev.eq (fun k => oN k l id) (Ev.loop (f := fun k m => aS.l0 k m l id ((List.length l : Nat) : Int) 0) (key p 0 (by omega)))
theorem Yk (l : List Int) (x : Int) (hl : l.length <= 1048576) : ∃ p, p <= l.length /\ Ev (fun k => aC k l x) (if p < l.length then (p : Int) else -1) := by
 obtain ⟨p, hp, h1, h2⟩ := nY (fun i => ¬ Eq (α := Int) x (rd (.int .i64) l (i : Int))) l.length
 refine ⟨p, hp, ?_⟩
 have key : ∀ d i : Nat, i + d = p -> E2 (fun k m => aC.l0 k m l x ((List.length l : Nat) : Int) (i : Int)) (if p < l.length then (p : Int) else -1) := by
  intro d
  induction d with
  | zero =>
   intro i hi
   have hi : i = p := by omega
   subst hi
   refine E2.eq (fun k m => aC.aA k m l x _ _) ?_
   by_cases c : i < l.length
   ·rw [if_pos c]
    exact E2.pos (by omega) (E2.pos (by omega) (E2.pos (by omega) (E2.pos (Classical.not_not.1 (h2 c)) E2.ret)))
   ·rw [if_neg c]
    exact E2.neg (by omega) E2.ret
  | succ d ih =>
   intro i hi
   refine E2.eq (fun k m => aC.aA k m l x _ _) (E2.pos (by omega) (E2.pos (by omega) (E2.pos (by omega) (E2.neg (h1 i (by omega)) ?_))))
   simp only [cZ (show i < 9223372036854775807 by omega)]
   exact ih (i + 1) (by omega)
 exact Ev.eq (fun k => jf k l x) (Ev.loop (f := fun k m => aC.l0 k m l x ((List.length l : Nat) : Int) 0) (key p 0 (by omega)))
theorem TS (l : List bn) (sc : List aF) (seats : List Int) (v : Int) {N : Nat} (hN : N <= 1000000) (hl : og N l) (hs : sc.length <= 1048576) (h2 : seats.length <= 1048576) : ∃ r : Int × (Bool × Unit), Ev (fun k => dR k l sc seats v) r := by
 obtain ⟨a, ea, _⟩ := vX l sc seats (MC hl (by omega)) hs h2
 by_cases qa : a = true
 ·by_cases qc : 1 <= v /\ v <= ((List.length seats : Nat) : Int)
  ·have hll := hl.1
   have key : ∀ (e i : Nat), i + e = l.length -> ∃ r : Int × (Bool × Unit), E2 (fun k m => dR.l0 k m sc seats v l ((List.length l : Nat) : Int) (i : Int)) r := by
    intro e
    induction e with
    | zero => intro i hi; exact ⟨_, E2.eq (fun k m => dR.aA k m sc seats v l _ _) (E2.neg (by omega) E2.ret)⟩
    | succ e ihe =>
     intro i hi
     obtain ⟨r, er⟩ := ihe (i + 1) (by omega)
     have h1 := jw seats (rd bV l (i : Int)).1 h2
     by_cases q : decide (((rd bV l (i : Int)).1 : Int) ∈ seats) = true
     ·refine ⟨r, E2.eq (fun k m => dR.aA k m sc seats v l _ _) (E2.pos (by omega) (E2.pos (by omega) (E2.pos (by omega) (E2.bind h1 (E2.neg (fun hh => hh q) ?_)))))⟩
      simp only [cZ (show i < 9223372036854775807 by omega)]
      exact er
     ·have hv : (rd bV l (i : Int)).2.2.2.1.length <= 1048576 := by
       rw [fT (show i < l.length by omega)]
       exact Nat.le_trans (hl.2 _ (List.getElem_mem _)) (by omega)
      obtain ⟨b, eb, _⟩ := yw (rd bV l (i : Int)) sc v hv hs
      by_cases qb : b = true
      ·exact ⟨_, E2.eq (fun k m => dR.aA k m sc seats v l _ _) (E2.pos (by omega) (E2.pos (by omega) (E2.pos (by omega) (E2.bind h1 (E2.pos q (E2.bind eb (E2.pos qb E2.ret)))))))⟩
      ·refine ⟨r, E2.eq (fun k m => dR.aA k m sc seats v l _ _) (E2.pos (by omega) (E2.pos (by omega) (E2.pos (by omega) (E2.bind h1 (E2.pos q (E2.bind eb (E2.neg qb ?_)))))))⟩
       simp only [cZ (show i < 9223372036854775807 by omega)]
       exact er
   obtain ⟨r, er⟩ := key l.length 0 (by omega)
   exact ⟨r, Ev.eq (fun k => qd k l sc seats v) (Ev.bind ea (Ev.neg (fun hh => hh qa) (Ev.bind (aI _ _ _) (Ev.neg (by simpa using qc) (Ev.loop (f := fun k m => dR.l0 k m sc seats v l ((List.length l : Nat) : Int) 0) er)))))⟩
  ·exact ⟨_, Ev.eq (fun k => qd k l sc seats v) (Ev.bind ea (Ev.neg (fun hh => hh qa) (Ev.bind (aI _ _ _) (Ev.pos (by simpa using qc) Ev.ret))))⟩
 ·exact ⟨_, Ev.eq (fun k => qd k l sc seats v) (Ev.bind ea (Ev.pos qa Ev.ret))⟩
theorem ZE {n : Nat} (hn : n + 1 <= 1000000) {o : aV} (h : Gd n o) (id : Int) : JZ n o (fun b => ∃ p, p < o.2.2.2.1.length /\ ((rd bV o.2.2.2.1 (p : Int)).1 : Int) = id /\ b.2.2.2.1 = o.2.2.2.1.take p ++ o.2.2.2.1.drop (p + 1)) (fun k => qN k o id) := by
 have hpl := h.2.2.1
 have hlen : o.2.2.2.1.length <= n := hpl.1
 have hsl : o.2.2.2.2.1.length <= n := h.2.2.2.1
 obtain ⟨p, hp, _, h2, ep⟩ := Yj o.2.2.2.1 id (by omega)
 obtain ⟨q, hq, eq⟩ := Yk o.2.2.2.2.1 id (by omega)
 by_cases c : p < o.2.2.2.1.length
 ·rw [if_pos c] at ep
  have hdel : Ev (fun k => jg k o.2.2.2.1 (p : Int) (IntKind.wrap .i64 ((p : Int) + 1))) (o.2.2.2.1.take p ++ o.2.2.2.1.drop (p + 1)) := by
   refine Ev.eq (f := fun _ => some (o.2.2.2.1.take p ++ o.2.2.2.1.drop (p + 1))) (fun k => ?_) Ev.ret
   rw [uw, cZ (show p < 9223372036854775807 by omega)]
   have := Bl (T := bV) (l := o.2.2.2.1) (i := (p : Int)) (j := ((p + 1 : Nat) : Int)) (by omega) (by omega) (by omega) (by omega)
   simpa using this
  have few : og (n + 1) (o.2.2.2.1.take p ++ o.2.2.2.1.drop (p + 1)) := Jo hpl (by simp; omega) fun x hx => (List.mem_append.1 hx).elim List.mem_of_mem_take List.mem_of_mem_drop
  by_cases d : q < o.2.2.2.2.1.length
  ·rw [if_pos d] at eq
   obtain ⟨r, er⟩ := TS o.2.2.2.1 o.1 o.2.2.2.2.1 (IntKind.wrap .i64 ((q : Int) + 1)) (by omega) hpl (by have := h.1; omega) (by omega)
   by_cases f : r.2.1 = true
   ·have ec : Ev (fun k => ko k o id) (true, (o.1, (o.2.1, (o.2.2.1, (o.2.2.2.1.take p ++ o.2.2.2.1.drop (p + 1), (List.set o.2.2.2.2.1 (Int.toNat (q : Int)) r.1, o.2.2.2.2.2)))))) :=
     Ev.eq (fun k => lu k o id) (Ev.bind ep (Ev.neg (by omega) (Ev.bind eq (Ev.pos (by omega) (Ev.bind er (Ev.neg (fun hh => hh f) (Ev.pos (by omega) (Ev.pos (by omega) (Ev.bind hdel Ev.ret)))))))))
    exact yJ hn h ec (fun _ => Cn h few (by rw [List.length_set]; omega)) fun _ => ⟨p, c, h2 c, rfl⟩
   ·exact yJ (out := o) (ok := false) hn h (Ev.eq (fun k => lu k o id) (Ev.bind ep (Ev.neg (by omega) (Ev.bind eq (Ev.pos (by omega) (Ev.bind er (Ev.pos f Ev.ret))))))) (fun hh => by cases hh) fun hh => by cases hh
  ·rw [if_neg d] at eq
   have ec : Ev (fun k => ko k o id) (true, (o.1, (o.2.1, (o.2.2.1, (o.2.2.2.1.take p ++ o.2.2.2.1.drop (p + 1), o.2.2.2.2))))) :=
    Ev.eq (fun k => lu k o id) (Ev.bind ep (Ev.neg (by omega) (Ev.bind eq (Ev.neg (by omega) (Ev.bind hdel Ev.ret)))))
   exact yJ hn h ec (fun _ => Cn (seats := o.2.2.2.2.1) h few (by omega)) fun _ => ⟨p, c, h2 c, rfl⟩
 ·rw [if_neg c] at ep
  exact yJ (out := o) (ok := false) hn h (Ev.eq (fun k => lu k o id) (Ev.bind ep (Ev.pos (by omega) Ev.ret))) (fun hh => by cases hh) fun hh => by cases hh
theorem abd {n : Nat} (hn : n + 1 <= 1000000) {o : aV} (h : Gd n o) (p : bn) (hp : Zz p) : JZ n o (fun b => b.2.2.2.1.length = o.2.2.2.1.length + 1) (fun k => sO k o p) := by
 have hpl := h.2.2.1
 have hlen : o.2.2.2.1.length <= n := hpl.1
 have bp : Bk bV p := ⟨trivial, trivial, trivial, ⟨Nat.le_trans hp (by omega), fun _ _ => trivial⟩, trivial⟩
 have hone : og 1 [p] := ⟨by simp, fun q hq => by simp at hq; subst hq; exact hp⟩
 have key : ∀ d i a : Nat, i + d = o.2.2.2.1.length -> a <= i -> ∃ (ok : Bool) (ps : List bn), (ok = true -> og (n + 1) ps /\ ps.length = o.2.2.2.1.length + 1) /\ E2 (fun k m => dF.l0 k m p (a : Int) ((List.length o.2.2.2.1 : Nat) : Int) (i : Int) o.2.1.1 o.2.1.2.1 o.2.2.2.2.2.2.2.1 o.2.2.2.2.2.2.2.2.1 o.2.2.2.1 o.1 o.2.2.1 o.2.2.2.2.1 o.2.2.2.2.2.1 o.2.2.2.2.2.2.1) (ok, (o.1, (o.2.1, (o.2.2.1, (ps, o.2.2.2.2))))) := by
  intro d
  induction d with
  | zero =>
   intro i a hi ha
   refine ⟨true, o.2.2.2.1.take a ++ [p] ++ o.2.2.2.1.drop a, fun _ => ⟨?_, by simp; omega⟩, ?_⟩
   ·exact OE (m := n) (OE (n := n) (m := 1) (k := n + 1) (Jo hpl (by simp; omega) fun x hx => List.mem_of_mem_take hx) hone (by simp; omega)) (Jo hpl (by simp; omega) fun x hx => List.mem_of_mem_drop hx) (by simp; omega)
   ·have hins : Ev (fun k => kG k o.2.2.2.1 (a : Int) [p]) (o.2.2.2.1.take a ++ [p] ++ o.2.2.2.1.drop a) := by
     refine Ev.eq (f := fun _ => some (o.2.2.2.1.take a ++ [p] ++ o.2.2.2.1.drop a)) (fun k => ?_) Ev.ret
     rw [uy]
     have := sJ (T := bV) (B := 48) (l := o.2.2.2.1) (i := (a : Int)) (x := p) (by omega) (by omega) (by omega)
     simpa using this
    exact E2.eq (fun k m => dF.aA k m _ _ _ _ _ _ _ _ _ _ _ _ _ _) (E2.neg (by omega) (E2.bind (La p bp) (E2.bind hins E2.ret)))
  | succ d ih =>
   intro i a hi ha
   by_cases c : Eq (α := Int) (rd bV o.2.2.2.1 (i : Int)).1 p.1
   ·exact ⟨false, o.2.2.2.1, fun hh => (by cases hh), E2.eq (fun k m => dF.aA k m _ _ _ _ _ _ _ _ _ _ _ _ _ _) (E2.pos (by omega) (E2.pos (by omega) (E2.pos (by omega) (E2.pos c E2.ret))))⟩
   ·by_cases f : LT.lt (α := Int) (rd bV o.2.2.2.1 (i : Int)).1 p.1
    ·obtain ⟨ok, ps, g1, e1⟩ := ih (i + 1) (a + 1) (by omega) (by omega)
     refine ⟨ok, ps, g1, E2.eq (fun k m => dF.aA k m _ _ _ _ _ _ _ _ _ _ _ _ _ _) (E2.pos (by omega) (E2.pos (by omega) (E2.pos (by omega) (E2.neg c (E2.pos f ?_)))))⟩
     simp only [cZ (show i < 9223372036854775807 by omega), cZ (show a < 9223372036854775807 by omega)]
     exact e1
    ·obtain ⟨ok, ps, g1, e1⟩ := ih (i + 1) a (by omega) (by omega)
     refine ⟨ok, ps, g1, E2.eq (fun k m => dF.aA k m _ _ _ _ _ _ _ _ _ _ _ _ _ _) (E2.pos (by omega) (E2.pos (by omega) (E2.pos (by omega) (E2.neg c (E2.neg f ?_)))))⟩
     simp only [cZ (show i < 9223372036854775807 by omega)]
     exact e1
 obtain ⟨ok, ps, g1, e1⟩ := key o.2.2.2.1.length 0 0 (by omega) (by omega)
 have ec : Ev (fun k => dF k o p) (ok, (o.1, (o.2.1, (o.2.2.1, (ps, o.2.2.2.2))))) := Ev.eq (fun k => Ce k o p) (Ev.loop (f := fun k m => dF.l0 k m p 0 ((List.length o.2.2.2.1 : Nat) : Int) 0 o.2.1.1 o.2.1.2.1 o.2.2.2.2.2.2.2.1 o.2.2.2.2.2.2.2.2.1 o.2.2.2.1 o.1 o.2.2.1 o.2.2.2.2.1 o.2.2.2.2.2.1 o.2.2.2.2.2.2.1) e1)
 exact TQ hn h ec (fun c => Cn (seats := o.2.2.2.2.1) h (g1 c).1 (by have := h.2.2.2.1; omega)) fun c => (g1 c).2
def isO (o : aV) : Prop := Ev (fun k => aZ k o) true
theorem YC {t : Ty} {s u : List t.den} {i : Nat} (h : i < s.length) : rd t (s ++ u) (i : Int) = rd t s (i : Int) := by
 rw [fT h, fT (by rw [List.length_append]; omega), List.getElem_append_left h]
theorem YD {t : Ty} {s : List t.den} {x : t.den} : rd t (s ++ [x]) (s.length : Int) = x := by
 rw [fT (by simp), List.getElem_concat_length]
 rfl
def vcP (l : List bn) : Prop := l.length <= 5 /\ ∀ j : Nat, j < l.length -> ZQ (rd bV l (j : Int)) /\ Eq (α := Int) (rd bV l (j : Int)).1 ((j : Int) + 1)
theorem Qu {l : List bn} (h : vcP l) : iC l := by
 have h5 := h.1
 refine ⟨fun i hi => ⟨(h.2 i hi).1, ?_, fun h0 => ?_⟩, by simp; omega⟩
 ·have q := (h.2 i hi).2
  exact ⟨show LE.le (α := Int) 1 (rd bV l (i : Int)).1 by omega, show LE.le (α := Int) (rd bV l (i : Int)).1 99 by omega⟩
 ·have q := (h.2 i hi).2
  have q' := (h.2 (i - 1) (by omega)).2
  omega
theorem ZF : Ml [1, 2, 3] 1 4 := by
 intro i hi
 have : i = 0 \/ i = 1 \/ i = 2 := by simp at hi; omega
 rcases this with rfl | rfl | rfl
 ·exact ⟨⟨by decide, by decide⟩, fun h => absurd h (by omega)⟩
 ·exact ⟨⟨by decide, by decide⟩, fun _ => by decide⟩
 ·exact ⟨⟨by decide, by decide⟩, fun _ => by decide⟩
theorem Ka : Dr (fun k c => fK k c) (fun r => og 10 r /\ vcP r) := by
 intro c h
 have key : ∀ (d i : Nat) (c : eH) (s : List bn), i + d = 6 -> 1 <= i -> oC c -> og i s -> s.length + 1 = i -> vcP s -> ∃ r c', oC c' /\ (og 10 r /\ vcP r) /\ E2 (fun k m => fK.l0 k m (i : Int) c.1 c.2.1 c.2.2.1 s) (r, c') := by
  intro d
  induction d with
  | zero =>
   intro i c s hi h1 h hs hl hv
   obtain ⟨x, c1, k1, ⟨k2, k3, _⟩, e1⟩ := bq 4 c h
   have := k3 (by omega)
   refine ⟨s, c1, k1, ⟨vv hs (by omega), hv⟩, E2.eq (fun k m => fK.aA k m _ _ _ _ s) (E2.bind e1 (E2.neg ?_ E2.ret))⟩
   rw [lS (by omega) (by omega)]; omega
  | succ d ih =>
   intro i c s hi h1 h hs hl hv
   obtain ⟨x, c1, k1, ⟨k2, k3, _⟩, e1⟩ := bq 4 c h
   have := k3 (by omega)
   by_cases q : (i : Int) <= IntKind.wrap .i64 (2 + x)
   ·obtain ⟨x2, c2, k2', hx2, e2⟩ := bq 18 c1 k1
    obtain ⟨x3, c3, k3', hx3, e3⟩ := bq 12 c2 k2'
    have b2 := hx2.2.1 (by omega)
    have b3 := hx3.2.1 (by omega)
    have w2 : IntKind.wrap .i64 (40 + x2) = 40 + x2 := lS (by omega) (by omega)
    have w3 : IntKind.wrap .i64 (76 + x3) = 76 + x3 := lS (by omega) (by omega)
    have hv' : vcP (s ++ [((i : Int), (IntKind.wrap .i64 (40 + x2), (IntKind.wrap .i64 (76 + x3), ([1, 2, 3], ()))))]) := by
     refine ⟨by rw [List.length_append, List.length_singleton]; omega, fun j hj => ?_⟩
     rw [List.length_append, List.length_singleton] at hj
     by_cases cj : j < s.length
     ·rw [YC cj]; exact hv.2 j cj
     ·obtain rfl : j = s.length := by omega
      rw [YD]
      refine ⟨⟨⟨?_, ?_⟩, ?_, ZF⟩, ?_⟩
      ·show 21 <= IntKind.wrap .i64 (40 + x2); omega
      ·show IntKind.wrap .i64 (40 + x2) <= IntKind.wrap .i64 (76 + x3); omega
      ·show IntKind.wrap .i64 (76 + x3) <= 108; omega
      ·show (i : Int) = (s.length : Int) + 1; omega
    obtain ⟨r, c', h', hr, e5⟩ := ih (i + 1) c3 (s ++ [((i : Int), (IntKind.wrap .i64 (40 + x2), (IntKind.wrap .i64 (76 + x3), ([1, 2, 3], ()))))]) (by omega) (by omega) k3' (Jk hs (by simp)) (by rw [List.length_append, List.length_singleton]; omega) hv'
    have := hs.1
    refine ⟨r, c', h', hr, E2.eq (fun k m => fK.aA k m _ _ _ _ s) (E2.bind e1 (E2.pos q (E2.bind e2 (E2.bind e3 (E2.pos (by rw [List.length_singleton]; omega) ?_)))))⟩
    simp only [cZ (show i < 9223372036854775807 by omega)]
    exact e5
   ·exact ⟨s, c1, k1, ⟨vv hs (by omega), hv⟩, E2.eq (fun k m => fK.aA k m _ _ _ _ s) (E2.bind e1 (E2.neg q E2.ret))⟩
 obtain ⟨r, c', h', hr, e⟩ := key 5 1 c [] (by omega) (by omega) h ⟨by simp, by simp⟩ (by simp) ⟨by simp, fun j hj => absurd hj (by simp)⟩
 exact ⟨r, c', h', hr, Ev.eq (fun k => Dp k c) (Ev.loop (f := fun k m => fK.l0 k m 1 c.1 c.2.1 c.2.2.1 []) e)⟩
theorem MF (l : List Int) (x : Int) (hl : l.length <= 1048576) : Ev (fun k => fQ k l x) (decide (x ∈ l)) := by
 refine yj ?_
 obtain ⟨r, er, hr⟩ := Ej (R := fun i v => E2 (fun k m => fQ.l0 k m l x i) v) (n := l.length) (fun i => Eq (α := Int) (rd (.int .i64) l (i : Int)) x) (E2.eq (fun k m => fQ.aA k m l x _) (E2.neg (by omega) E2.ret)) (fun i hi hq v e => by
  refine E2.eq (fun k m => fQ.aA k m l x _) (E2.pos (by omega) (E2.pos (by omega) (E2.pos (by omega) (E2.neg hq ?_))))
  simp only [cZ (show i < 9223372036854775807 by omega)]; exact e) (fun i hi hq => E2.eq (fun k m => fQ.aA k m l x _) (E2.pos (by omega) (E2.pos (by omega) (E2.pos (by omega) (E2.pos hq E2.ret)))))
 refine ⟨r, Ev.eq (fun k => EA k l x) (Ev.loop (f := fun k m => fQ.l0 k m l x 0) er), hr.trans ⟨fun ⟨i, hi, h⟩ => ?_, fun h => ?_⟩⟩
 ·rw [<- h, fT hi]; exact List.getElem_mem hi
 ·obtain ⟨i, hi, h⟩ := List.mem_iff_getElem.1 h
  exact ⟨i, hi, by rw [fT hi]; exact h⟩
theorem Qv {o : aV} (h : isO o) : Ev (fun k => eG k o.2.2.1) true := by
 obtain ⟨K, h⟩ := h
 refine ⟨K, fun k hk => ?_⟩
 have h := h (k + 1) (by omega)
 have h : aZ (k + 1) o = some true := h
 rw [eP] at h
 obtain ⟨r1, _, h⟩ := Option.bind_eq_some_iff.1 h
 split at h
 case isFalse => cases h
 obtain ⟨r2, _, h⟩ := Option.bind_eq_some_iff.1 h
 split at h
 case isFalse => cases h
 obtain ⟨r3, h3, h⟩ := Option.bind_eq_some_iff.1 h
 split at h
 case isFalse => cases h
 rename_i hr
 rw [hr] at h3
 exact h3
theorem Fp {o : aV} (h : isO o) (b : Sm o) : Ah o.2.2.2.1 o.1 o.2.2.2.2.1 := by
 obtain ⟨r, er, hr⟩ := vX o.2.2.2.1 o.1 o.2.2.2.2.1 b.Gx b.score b.seats
 exact hr.1 (Ev.uniq er (TM h))
theorem TT {o : aV} (h : isO o) (b : Sm o) : yH o.2.2.1 := of_decide_eq_true (Ev.uniq (jW _ b.qY) (Qv h))
theorem VU {o : aV} (h : Ev (fun k => fM k o) true) (b : Sm o) : isO o := by
 obtain ⟨r, i1, i2⟩ := xQ o b
 obtain rfl : r = true := Ev.uniq i1 h
 exact i2
theorem wI {n : Nat} {o : aV} {f : Nat -> Option (aV × (Bool × Unit))} (hn : n + 1 <= 1000000) (h : ZU n o f) (hp : iC o.2.2.2.1) : ∃ v : aV × (Bool × Unit), Gd (n + 1) v.1 /\ iC v.1.2.2.2.1 /\ Ev f v := by
 obtain ⟨v, g1, g2, e⟩ := h
 refine ⟨v, g1, ?_, e⟩
 rcases g2 with g2 | g2
 ·rw [g2]; exact hp
 ·have b := KY (yS g1 (by omega))
  exact (Fp (VU g2 b) b).2.1
theorem OG : Dr (fun k c => yB k c) (fun o => Gd 200 o /\ iC o.2.2.2.1) := by
 intro c h
 obtain ⟨m, c1, h1, _, e1⟩ := Ql c h
 obtain ⟨ps, c2, h2, ⟨hps, hvc⟩, e2⟩ := Ka c1 h1
 obtain ⟨v, gv, hz, e3⟩ := Yh m ps hps
 have hp : iC v.1.2.2.2.1 := by
  rcases hz with hz | hz
  ·rw [hz]; exact ⟨fun i hi => absurd hi (by simp [Br]), by decide⟩
  ·rw [hz.1]; exact Qu hvc
 obtain ⟨sc, c4, h4, hsc, e4⟩ := OD c2 h2
 obtain ⟨te, c5, h5, hte, e5⟩ := Qm c4 h4
 obtain ⟨ma, c6, h6, hma, e6⟩ := Qo c5 h5
 obtain ⟨le, c7, h7, hle, e7⟩ := Qp c6 h6
 have hsc : sc.length <= 200 := hsc
 have hte : te.length <= 4 := hte.2
 have hma : ma.length <= 9 := hma
 have hle : le.length <= 6 := hle
 have fv := gv.2.2.1
 obtain ⟨st, hst, e8⟩ := VI v.1.2.2.2.1 sc fv (by omega)
 have gd : ∀ seats : List Int, seats.length <= 200 -> Gd 200 (sc, (v.1.2.1, (te, (v.1.2.2.2.1, (seats, (ma, (le, v.1.2.2.2.2.2.2.2))))))) := fun seats hs => ⟨hsc, by show te.length <= _; omega, vv fv (by omega), hs, by show ma.length <= _; omega, by show le.length <= _; omega⟩
 have g5 : v.1.2.2.2.2.1.length <= 200 := Nat.le_trans gv.2.2.2.1 (by omega)
 by_cases q : st.2.1 = true
 ·obtain ⟨x, c9, h9, _, e9⟩ := nZ 5 c7 h7
  by_cases q2 : x = true
  ·exact ⟨_, c9, h9, ⟨gd _ g5, hp⟩, Ev.eq (fun k => uo k c) (Ev.bind e1 (Ev.bind e2 (Ev.bind e3 (Ev.bind e4 (Ev.bind e5 (Ev.bind e6 (Ev.bind e7 (Ev.bind e8 (Ev.pos q (Ev.bind e9 (Ev.neg (fun h => h q2) Ev.ret)))))))))))⟩
  ·exact ⟨_, c9, h9, ⟨gd _ (by omega), hp⟩, Ev.eq (fun k => uo k c) (Ev.bind e1 (Ev.bind e2 (Ev.bind e3 (Ev.bind e4 (Ev.bind e5 (Ev.bind e6 (Ev.bind e7 (Ev.bind e8 (Ev.pos q (Ev.bind e9 (Ev.pos q2 Ev.ret)))))))))))⟩
 ·exact ⟨_, c7, h7, ⟨gd _ g5, hp⟩, Ev.eq (fun k => uo k c) (Ev.bind e1 (Ev.bind e2 (Ev.bind e3 (Ev.bind e4 (Ev.bind e5 (Ev.bind e6 (Ev.bind e7 (Ev.bind e8 (Ev.neg q Ev.ret)))))))))⟩
theorem nR : Dr (fun k c => dx k c) (fun o => Gd 210 o /\ iC o.2.2.2.1) := by
 intro c h
 obtain ⟨o, c1, h1, ⟨ho, hp⟩, e1⟩ := OG c h
 obtain ⟨n, c2, h2, hn, e2⟩ := bq 6 c1 h1
 have hn1 := hn.2.1 (by omega)
 have key : ∀ (d : Nat) (c : eH) (o : aV), d <= 6 -> oC c -> Gd (206 - d) o -> iC o.2.2.2.1 -> ∃ (r : aV) (c' : eH), oC c' /\ (Gd 210 r /\ iC r.2.2.2.1) /\ E2 (fun k m => dx.l0 k m (d : Int) c.1 c.2.1 c.2.2.1 0 0 0 0 o.2.1.1 o.2.1.2.1 o.2.2.2.2.2.2.2.1 o.2.2.2.2.2.2.2.2.1 o.1 o.2.2.1 o.2.2.2.1 o.2.2.2.2.1 o.2.2.2.2.2.1 o.2.2.2.2.2.2.1) (r, c') := by
  intro d
  induction d with
  | zero =>
   intro c o hd hc ho hp
   exact ⟨o, c, hc, ⟨lC ho (by omega), hp⟩, E2.eq (fun k m => dx.aA k m _ _ _ _ _ _ _ _ _ _ _ _ _ _ _ _ _ _) (E2.neg (by omega) E2.ret)⟩
  | succ d ih =>
   intro c o hd hc ho hp
   have w : IntKind.wrap .i64 (((d + 1 : Nat) : Int) - 1) = (d : Int) := by rw [lS (by omega) (by omega)]; omega
   have hg : ∀ {v : aV}, Gd (206 - (d + 1) + 1) v -> Gd (206 - d) v := fun h => lC h (by omega)
   obtain ⟨x, c1, h1, _, e1⟩ := bq 5 c hc
   by_cases q0 : (x : Int) = 0
   ·obtain ⟨y, c2, h2, _, e2⟩ := bq 5 c1 h1
    obtain ⟨v, g1, gp, e3⟩ := wI (by omega) (VL (by omega) ho (IntKind.wrap .i64 (1 + y))) hp
    obtain ⟨r, c', hc', hr, e⟩ := ih c2 v.1 (by omega) h2 (hg g1) gp
    refine ⟨r, c', hc', hr, E2.eq (fun k m => dx.aA k m _ _ _ _ _ _ _ _ _ _ _ _ _ _ _ _ _ _) (E2.pos (by omega) (E2.bind e1 (E2.pos q0 (E2.bind e2 (E2.bind e3 ?_)))))⟩
    rw [w]; exact e
   by_cases q1 : (x : Int) = 1
   ·obtain ⟨y, c2, h2, _, e2⟩ := bq 5 c1 h1
    obtain ⟨y2, c3, h3, _, e3⟩ := bq 4 c2 h2
    obtain ⟨y3, c4, h4, _, e4⟩ := bq 4 c3 h3
    obtain ⟨y4, c5, h5, _, e5⟩ := bq 3 c4 h4
    obtain ⟨v, g1, gp, e6⟩ := wI (by omega) (VN (by omega) ho (IntKind.wrap .i64 (1 + y)) (IntKind.wrap .i64 (1 + y2)) y3 (IntKind.wrap .i64 (1 + y4))) hp
    obtain ⟨r, c', hc', hr, e⟩ := ih c5 v.1 (by omega) h5 (hg g1) gp
    refine ⟨r, c', hc', hr, E2.eq (fun k m => dx.aA k m _ _ _ _ _ _ _ _ _ _ _ _ _ _ _ _ _ _) (E2.pos (by omega) (E2.bind e1 (E2.neg q0 (E2.pos q1 (E2.bind e2 (E2.bind e3 (E2.bind e4 (E2.bind e5 (E2.bind e6 ?_)))))))))⟩
    rw [w]; exact e
   by_cases q2 : (x : Int) = 2
   ·obtain ⟨y, c2, h2, _, e2⟩ := bq 3 c1 h1
    obtain ⟨v, g1, gp, e3⟩ := wI (by omega) (VQ (by omega) (by omega) ho (IntKind.wrap .i64 (1 + y))) hp
    obtain ⟨r, c', hc', hr, e⟩ := ih c2 v.1 (by omega) h2 (hg g1) gp
    refine ⟨r, c', hc', hr, E2.eq (fun k m => dx.aA k m _ _ _ _ _ _ _ _ _ _ _ _ _ _ _ _ _ _) (E2.pos (by omega) (E2.bind e1 (E2.neg q0 (E2.neg q1 (E2.pos q2 (E2.bind e2 (E2.bind e3 ?_)))))))⟩
    rw [w]; exact e
   ·obtain ⟨y, c2, h2, _, e2⟩ := Ji c1 h1
    obtain ⟨v, g1, gp, e3⟩ := wI (by omega) (TL (by omega) ho y) hp
    obtain ⟨r, c', hc', hr, e⟩ := ih c2 v.1 (by omega) h2 (hg g1) gp
    refine ⟨r, c', hc', hr, E2.eq (fun k m => dx.aA k m _ _ _ _ _ _ _ _ _ _ _ _ _ _ _ _ _ _) (E2.pos (by omega) (E2.bind e1 (E2.neg q0 (E2.neg q1 (E2.neg q2 (E2.bind e2 (E2.bind e3 ?_)))))))⟩
    rw [w]; exact e
 obtain ⟨N, rfl⟩ := Int.eq_ofNat_of_zero_le hn.1
 obtain ⟨r, c', hc', hr, e⟩ := key N c2 o (by omega) h2 (lC ho (by omega)) hp
 exact ⟨r, c', hc', hr, Ev.eq (fun k => FC k c) (Ev.bind e1 (Ev.bind e2 (Ev.loop (f := fun k m => dx.l0 k m (N : Int) c2.1 c2.2.1 c2.2.2.1 0 0 0 0 o.2.1.1 o.2.1.2.1 o.2.2.2.2.2.2.2.1 o.2.2.2.2.2.2.2.2.1 o.1 o.2.2.1 o.2.2.2.1 o.2.2.2.2.1 o.2.2.2.2.2.1 o.2.2.2.2.2.2.1) e)))⟩
theorem Qw : Dr (fun k c => Aa k c) (fun r => og 10 r /\ 1 <= r.length) := by
 intro c h
 obtain ⟨l, c1, h1, hl, e1⟩ := Qq c h
 have hne : 1 <= l.length := hl.2
 have hl : og 10 l := hl.1
 obtain ⟨i, c2, h2, ⟨i1, i2, i3⟩, e2⟩ := bq ((List.length l : Nat) : Int) c1 h1
 obtain ⟨x, c3, h3, _, e3⟩ := bq 9 c2 h2
 have i2 := i2 (by omega)
 by_cases q1 : x = 0
 ·obtain ⟨y, c4, h4, _, e4⟩ := mJ [0, 2, 99, 100] (by simp) c3 h3
  exact ⟨_, c4, h4, ⟨Dy (f := fun p => (y, p.2)) hl i1 i2 (fun p hp => hp), by rw [vg]; exact hne⟩, Ev.eq (fun k => nN k c) (Ev.bind e1 (Ev.bind e2 (Ev.bind e3 (Ev.pos q1 (Ev.bind e4 (Ev.pos i1 (Ev.pos i2 Ev.ret)))))))⟩
 by_cases q2 : x = 1
 ·obtain ⟨y, c4, h4, _, e4⟩ := mJ [20, 21, 108] (by simp) c3 h3
  exact ⟨_, c4, h4, ⟨Dy (f := fun p => (p.1, (y, p.2.2))) hl i1 i2 (fun p hp => hp), by rw [vg]; exact hne⟩, Ev.eq (fun k => nN k c) (Ev.bind e1 (Ev.bind e2 (Ev.bind e3 (Ev.neg q1 (Ev.pos q2 (Ev.bind e4 (Ev.pos i1 (Ev.pos i2 Ev.ret))))))))⟩
 by_cases q3 : x = 2
 ·obtain ⟨y, c4, h4, _, e4⟩ := mJ [20, 108, 109] (by simp) c3 h3
  exact ⟨_, c4, h4, ⟨Dy (f := fun p => (p.1, (p.2.1, (y, p.2.2.2)))) hl i1 i2 (fun p hp => hp), by rw [vg]; exact hne⟩, Ev.eq (fun k => nN k c) (Ev.bind e1 (Ev.bind e2 (Ev.bind e3 (Ev.neg q1 (Ev.neg q2 (Ev.pos q3 (Ev.bind e4 (Ev.pos i1 (Ev.pos i2 Ev.ret)))))))))⟩
 by_cases q4 : x = 3
 ·refine ⟨_, c3, h3, ⟨?_, ?_⟩, Ev.eq (fun k => nN k c) (Ev.bind e1 (Ev.bind e2 (Ev.bind e3 (Ev.neg q1 (Ev.neg q2 (Ev.neg q3 (Ev.pos q4 (Ev.pos i1 (Ev.pos i2 Ev.ret)))))))))⟩
  ·exact Dy (f := fun p => (p.1, (p.2.1, (p.2.2.1, ([2, 1], p.2.2.2.2))))) hl i1 i2 (fun p _ => by simp)
  ·rw [vg]; exact hne
 exact ⟨l, c3, h3, ⟨hl, hne⟩, Ev.eq (fun k => nN k c) (Ev.bind e1 (Ev.bind e2 (Ev.bind e3 (Ev.neg q1 (Ev.neg q2 (Ev.neg q3 (Ev.neg q4 Ev.ret)))))))⟩
theorem Le (code : List Int) (hc : code.length <= 1048576) : ∃ (o : aV) (e : aF), Gd 210 o /\ Ev (fun k => lY k code) (o, (e, ())) := by
 obtain ⟨c, hc, e0⟩ := tO code hc
 obtain ⟨o, c1, h1, ⟨ho, _⟩, e1⟩ := nR c hc
 obtain ⟨e, c2, h2, _, e2⟩ := Ji c1 h1
 obtain ⟨x, c3, h3, _, e3⟩ := nZ 5 c2 h2
 by_cases q : x = true
 ·obtain ⟨y, c4, h4, _, e4⟩ := mJ [20, 21, 90, 108, 109] (by simp) c3 h3
  obtain ⟨z, c5, h5, _, e5⟩ := nZ 9 c4 h4
  by_cases q2 : z = true
  ·exact ⟨(o.1, (o.2.1, (o.2.2.1, (o.2.2.2.1, (o.2.2.2.2.1, (o.2.2.2.2.2.1, (o.2.2.2.2.2.2.1, (9999, o.2.2.2.2.2.2.2.2)))))))), _, ho, Ev.eq (fun k => kE k code) (Ev.bind e0 (Ev.bind e1 (Ev.bind e2 (Ev.bind e3 (Ev.pos q (Ev.bind e4 (Ev.bind e5 (Ev.pos q2 Ev.ret))))))))⟩
  ·exact ⟨o, _, ho, Ev.eq (fun k => kE k code) (Ev.bind e0 (Ev.bind e1 (Ev.bind e2 (Ev.bind e3 (Ev.pos q (Ev.bind e4 (Ev.bind e5 (Ev.neg q2 Ev.ret))))))))⟩
 ·obtain ⟨z, c5, h5, _, e5⟩ := nZ 9 c3 h3
  by_cases q2 : z = true
  ·exact ⟨(o.1, (o.2.1, (o.2.2.1, (o.2.2.2.1, (o.2.2.2.2.1, (o.2.2.2.2.2.1, (o.2.2.2.2.2.2.1, (9999, o.2.2.2.2.2.2.2.2)))))))), _, ho, Ev.eq (fun k => kE k code) (Ev.bind e0 (Ev.bind e1 (Ev.bind e2 (Ev.bind e3 (Ev.neg q (Ev.bind e5 (Ev.pos q2 Ev.ret)))))))⟩
  ·exact ⟨o, _, ho, Ev.eq (fun k => kE k code) (Ev.bind e0 (Ev.bind e1 (Ev.bind e2 (Ev.bind e3 (Ev.neg q (Ev.bind e5 (Ev.neg q2 Ev.ret)))))))⟩
theorem TU (code : List Int) (hc : code.length <= 1048576) : ∃ (o : aV) (e : aF), Gd 210 o /\ Ev (fun k => pU k code) (o, (e, ())) := by
 obtain ⟨o, e, ho, e1⟩ := Le code hc
 obtain ⟨c, hc, e0⟩ := tO code hc
 by_cases q : (0 : Int) < ((List.length o.1 : Nat) : Int)
 ·obtain ⟨x, c3, h3, _, e3⟩ := nZ 4 c hc
  by_cases q2 : x = true
  ·exact ⟨o, e, ho, Ev.eq (fun k => mR k code) (Ev.bind e1 (Ev.bind e0 (Ev.pos q (Ev.bind e3 (Ev.neg (fun h => h q2) Ev.ret)))))⟩
  ·obtain ⟨y, c4, h4, ⟨y1, y2, _⟩, e4⟩ := bq ((List.length o.1 : Nat) : Int) c3 h3
   exact ⟨o, _, ho, Ev.eq (fun k => mR k code) (Ev.bind e1 (Ev.bind e0 (Ev.pos q (Ev.bind e3 (Ev.pos q2 (Ev.bind e4 (Ev.pos y1 (Ev.pos (y2 q) Ev.ret))))))))⟩
 ·exact ⟨o, e, ho, Ev.eq (fun k => mR k code) (Ev.bind e1 (Ev.bind e0 (Ev.neg q Ev.ret)))⟩
theorem TV (code : List Int) (hc : code.length <= 1048576) : ∃ (o : aV) (x : bE), Gd 210 o /\ Ev (fun k => pV k code) (o, (x, ())) := by
 obtain ⟨c, hc, e0⟩ := tO code hc
 obtain ⟨o, c1, h1, ⟨ho, _⟩, e1⟩ := nR c hc
 obtain ⟨x, c2, h2, _, e2⟩ := mJ [0, 5, 20, 60, 2000, 2001, (-1)] (by simp) c1 h1
 obtain ⟨y, c3, h3, _, e3⟩ := mJ [60, 90, 20, 300, 19, 301] (by simp) c2 h2
 exact ⟨o, (x, (y, ())), ho, Ev.eq (fun k => yZ k code) (Ev.bind e0 (Ev.bind e1 (Ev.bind e2 (Ev.bind e3 Ev.ret))))⟩
theorem VW (code : List Int) (hc : code.length <= 1048576) : ∃ (o : aV) (x : Int), Gd 210 o /\ Ev (fun k => qL k code) (o, (x, ())) := by
 obtain ⟨c, hc, e0⟩ := tO code hc
 obtain ⟨o, c1, h1, ⟨ho, _⟩, e1⟩ := nR c hc
 obtain ⟨x, c2, h2, _, e2⟩ := bq 6 c1 h1
 exact ⟨o, x, ho, Ev.eq (fun k => Ac k code) (Ev.bind e0 (Ev.bind e1 (Ev.bind e2 Ev.ret)))⟩
theorem TW (code : List Int) (hc : code.length <= 1048576) : ∃ (o : aV) (x : Int), Gd 210 o /\ iC o.2.2.2.1 /\ Ev (fun k => pW k code) (o, (x, ())) := by
 obtain ⟨c, hc, e0⟩ := tO code hc
 obtain ⟨o, c1, h1, ⟨ho, hp⟩, e1⟩ := nR c hc
 obtain ⟨x, c2, h2, _, e2⟩ := bq 7 c1 h1
 exact ⟨o, x, ho, hp, Ev.eq (fun k => za k code) (Ev.bind e0 (Ev.bind e1 (Ev.bind e2 Ev.ret)))⟩
theorem VX (code : List Int) (hc : code.length <= 1048576) : ∃ (o : aV) (p : bn), Gd 210 o /\ Zz p /\ Ev (fun k => qO k code) (o, (p, ())) := by
 obtain ⟨c, hc, e0⟩ := tO code hc
 obtain ⟨o, c1, h1, ⟨ho, _⟩, e1⟩ := nR c hc
 obtain ⟨l, c2, h2, ⟨hl, hne⟩, e2⟩ := Qw c1 h1
 have hne : 1 <= l.length := hne
 refine ⟨o, rd bV l 0, ho, ?_, Ev.eq (fun k => Ad k code) (Ev.bind e0 (Ev.bind e1 (Ev.bind e2 (Ev.pos (Nat.le_refl 0) (Ev.pos (show (0 : Int) < ((List.length l : Nat) : Int) by omega) Ev.ret)))))⟩
 have : rd bV l ((0 : Nat) : Int) = l[0] := fT (show 0 < l.length by omega)
 show Zz (rd bV l ((0 : Nat) : Int))
 rw [this]
 exact hl.2 _ (List.getElem_mem _)
theorem VY (code : List Int) (hc : code.length <= 1048576) : ∃ (o : aV) (x y z w : Int), Gd 210 o /\ Ev (fun k => qP k code) (o, (x, (y, (z, (w, ()))))) := by
 obtain ⟨c, hc, e0⟩ := tO code hc
 obtain ⟨o, c1, h1, ⟨ho, _⟩, e1⟩ := nR c hc
 obtain ⟨x, c2, h2, _, e2⟩ := mJ [1, 2, 5, 100, 0, 101] (by simp) c1 h1
 obtain ⟨y, c3, h3, _, e3⟩ := bq 6 c2 h2
 obtain ⟨z, c4, h4, _, e4⟩ := bq 11 c3 h3
 obtain ⟨w, c5, h5, _, e5⟩ := mJ [1, 2, 99, 100] (by simp) c4 h4
 exact ⟨o, x, y, z, w, ho, Ev.eq (fun k => Ae k code) (Ev.bind e0 (Ev.bind e1 (Ev.bind e2 (Ev.bind e3 (Ev.bind e4 (Ev.bind e5 Ev.ret))))))⟩
theorem VZ (code : List Int) (hc : code.length <= 1048576) : ∃ (o : aV) (x : Int), Gd 210 o /\ Ev (fun k => qQ k code) (o, (x, ())) := by
 obtain ⟨c, hc, e0⟩ := tO code hc
 obtain ⟨o, c1, h1, ⟨ho, _⟩, e1⟩ := nR c hc
 obtain ⟨x, c2, h2, _, e2⟩ := nZ 9 c1 h1
 obtain ⟨y, c3, h3, _, e3⟩ := mJ [1, 5, 1000, 1001, 0] (by simp) c2 h2
 by_cases q : x = true
 ·exact ⟨(o.1, (o.2.1, (o.2.2.1, (o.2.2.2.1, (o.2.2.2.2.1, (o.2.2.2.2.2.1, (o.2.2.2.2.2.2.1, (o.2.2.2.2.2.2.2.1, (99999, ()))))))))), y, ho, Ev.eq (fun k => tL k code) (Ev.bind e0 (Ev.bind e1 (Ev.bind e2 (Ev.pos q (Ev.bind e3 Ev.ret)))))⟩
 ·exact ⟨o, y, ho, Ev.eq (fun k => tL k code) (Ev.bind e0 (Ev.bind e1 (Ev.bind e2 (Ev.neg q (Ev.bind e3 Ev.ret)))))⟩
theorem Dz (l : List aF) (e : aF) (hl : l.length <= 1048576) : ∃ r, Ev (fun k => eO k l e) r /\ (r = true ↔ e ∈ l) := by
 obtain ⟨r, er, hr⟩ := Ej (R := fun i v => E2 (fun k m => eO.l0 k m l i e.1 e.2.1 e.2.2.1 e.2.2.2.1) v) (n := l.length) (fun i => rd bR l (i : Int) = e) (E2.eq (fun k m => eO.aA k m l _ _ _ _ _) (E2.neg (by omega) E2.ret)) (fun i hi hq v ev => by
  refine E2.eq (fun k m => eO.aA k m l _ _ _ _ _) (E2.pos (by omega) (E2.pos (by omega) (E2.pos (by omega) (E2.neg (fun h => hq ((Mw _ _).1 h)) ?_))))
  simp only [cZ (show i < 9223372036854775807 by omega)]; exact ev) (fun i hi hq => E2.eq (fun k m => eO.aA k m l _ _ _ _ _) (E2.pos (by omega) (E2.pos (by omega) (E2.pos (by omega) (E2.pos ((Mw _ _).2 hq) E2.ret)))))
 refine ⟨r, Ev.eq (fun k => Ez k l e) (Ev.loop (f := fun k m => eO.l0 k m l 0 e.1 e.2.1 e.2.2.1 e.2.2.2.1) er), hr.trans ⟨fun ⟨i, hi, h⟩ => ?_, fun h => ?_⟩⟩
 ·rw [<- h, fT hi]; exact List.getElem_mem hi
 ·obtain ⟨i, hi, h⟩ := List.mem_iff_getElem.1 h
  exact ⟨i, hi, by rw [fT hi]; exact h⟩
theorem TY {l : List bE} (h : ∀ i, i < l.length -> QT l i) : ∀ d i : Nat, i + d + 1 < l.length -> LT.lt (α := Int) (rd dn l (i : Int)).1 (rd dn l ((i + d + 1 : Nat) : Int)).1 := by
 intro d
 induction d with
 | zero => intro i hi; exact (h (i + 1) (by omega)).2.2 (by omega)
 | succ d ih => intro i hi; exact Int.lt_trans (ih i (by omega)) ((h (i + (d + 1) + 1) (by omega)).2.2 (by omega))
theorem Ua {l : List bE} (hl : yH l) {p : Nat} (hp : p < l.length) : Ev (fun k => gM k l (rd dn l (p : Int)).1) (rd dn l (p : Int)).2.1 := by
 have hlen : l.length <= 8 := by have := (of_decide_eq_true hl.2).2; omega
 have key : ∀ (d i : Nat) (rate : Int), i + d = l.length -> (p < i -> rate = (rd dn l (p : Int)).2.1) -> E2 (fun k m => gM.l0 k m (rd dn l (p : Int)).1 rate l ((List.length l : Nat) : Int) (i : Int)) (rd dn l (p : Int)).2.1 := by
  intro d
  induction d with
  | zero =>
   intro i rate hi hr
   exact E2.eq (fun k m => gM.aA k m _ _ _ _ _) (E2.neg (by omega) (E2.ret.val (hr (by omega))))
  | succ d ih =>
   intro i rate hi hr
   by_cases c : LE.le (α := Int) (rd dn l (i : Int)).1 (rd dn l (p : Int)).1
   ·have e := ih (i + 1) (rd dn l (i : Int)).2.1 (by omega) (fun hpi => by
     by_cases hpe : p = i
     ·rw [hpe]
     ·exfalso
      have := TY hl.1 (i - p - 1) p (by omega)
      rw [show p + (i - p - 1) + 1 = i by omega] at this
      omega)
    refine E2.eq (fun k m => gM.aA k m _ _ _ _ _) (E2.pos (by omega) (E2.pos (by omega) (E2.pos (by omega) (E2.pos c ?_))))
    simp only [cZ (show i < 9223372036854775807 by omega)]
    exact e
   ·have e := ih (i + 1) rate (by omega) (fun hpi => by
     by_cases hpe : p = i
     ·exfalso; subst hpe; exact c (Int.le_refl _)
     ·exact hr (by omega))
    refine E2.eq (fun k m => gM.aA k m _ _ _ _ _) (E2.pos (by omega) (E2.pos (by omega) (E2.pos (by omega) (E2.neg c ?_))))
    simp only [cZ (show i < 9223372036854775807 by omega)]
    exact e
 exact Ev.eq (fun k => IZ k l _) (Ev.bind (jW l (by omega)) (Ev.pos (decide_eq_true hl) (Ev.loop (f := fun k m => gM.l0 k m (rd dn l (p : Int)).1 0 l ((List.length l : Nat) : Int) 0) (key l.length 0 0 (by omega) (by omega)))))
theorem Yl {l : List bE} {x : bE} {p : Nat} (hp : p <= l.length) : p < (Aj l x p).length /\ rd dn (Aj l x p) (p : Int) = x := by
 have ht : (l.take p).length = p := by rw [List.length_take]; omega
 have key : ∀ u : List bE, p < (l.take p ++ [x] ++ u).length /\ rd dn (l.take p ++ [x] ++ u) (p : Int) = x := fun u => by
  refine ⟨by simp; omega, ?_⟩
  rw [YC (by rw [List.length_append, ht, List.length_singleton]; omega)]
  have := YD (t := dn) (s := l.take p) (x := x)
  rwa [ht] at this
 unfold Aj
 by_cases c : p < l.length /\ ((rd dn l (p : Int)).1 : Int) = x.1
 ·rw [if_pos c]; exact key _
 ·rw [if_neg c]; exact key _
theorem Fq {l : List bn} (h : ∀ i, i < l.length -> QP l i) : ∀ d i : Nat, i + d + 1 < l.length -> LT.lt (α := Int) (rd bV l (i : Int)).1 (rd bV l ((i + d + 1 : Nat) : Int)).1 := by
 intro d
 induction d with
 | zero => intro i hi; exact (h (i + 1) (by omega)).2.2 (by omega)
 | succ d ih => intro i hi; exact Int.lt_trans (ih i (by omega)) ((h (i + (d + 1) + 1) (by omega)).2.2 (by omega))
theorem Qx {l : List bn} (h : iC l) {i j : Nat} (hi : i < l.length) (hj : j < l.length) (hij : i ≠ j) : ¬ Eq (α := Int) (rd bV l (i : Int)).1 (rd bV l (j : Int)).1 := by
 intro e
 rcases Nat.lt_or_gt_of_ne hij with c | c
 ·have := Fq h.1 (j - i - 1) i (by omega)
  rw [show i + (j - i - 1) + 1 = j by omega] at this
  omega
 ·have := Fq h.1 (i - j - 1) j (by omega)
  rw [show j + (i - j - 1) + 1 = i by omega] at this
  omega
theorem Qy {o b : aV} {id : Int} (hp : iC o.2.2.2.1) (hb : Ah b.2.2.2.1 b.1 b.2.2.2.2.1) {p : Nat} (hpl : p < o.2.2.2.1.length) (hid : ((rd bV o.2.2.2.1 (p : Int)).1 : Int) = id) (he : b.2.2.2.1 = o.2.2.2.1.take p ++ o.2.2.2.1.drop (p + 1)) : ¬ id ∈ b.2.2.2.2.1 := by
 intro hm
 obtain ⟨i, hi, hx⟩ := List.mem_iff_getElem.1 hm
 obtain ⟨⟨j, hj, hs, _⟩, _⟩ := hb.1 i hi
 have hs : Eq (α := Int) (rd bV b.2.2.2.1 (j : Int)).1 (rd (.int .i64) b.2.2.2.2.1 (i : Int)) := hs
 rw [fT (t := .int .i64) (l := b.2.2.2.2.1) hi, fT (t := bV) (l := b.2.2.2.1) hj] at hs
 have hmem : b.2.2.2.1[j] ∈ o.2.2.2.1.take p ++ o.2.2.2.1.drop (p + 1) := by rw [<- he]; exact List.getElem_mem hj
 have : ∃ q, q < o.2.2.2.1.length /\ q ≠ p /\ rd bV o.2.2.2.1 (q : Int) = b.2.2.2.1[j] := by
  rcases List.mem_append.1 hmem with hm | hm
  ·obtain ⟨q, hq, h⟩ := List.mem_iff_getElem.1 hm
   rw [List.length_take] at hq
   rw [List.getElem_take] at h
   exact ⟨q, by omega, by omega, by rw [fT (by omega)]; exact h⟩
  ·obtain ⟨q, hq, h⟩ := List.mem_iff_getElem.1 hm
   rw [List.length_drop] at hq
   rw [List.getElem_drop] at h
   exact ⟨p + 1 + q, by omega, by omega, by rw [fT (by omega)]; exact h⟩
 obtain ⟨q, hq, YQ, hv⟩ := this
 refine Qx hp hq hpl YQ ?_
 rw [hv, hid]
 exact hs.trans hx
def Dn (a : aV) (v : aV × (Bool × Unit)) : Prop := v = (a, (false, ())) \/ v.2.1 = true
theorem dl {a : aV} {v : aV × (Bool × Unit)} (b : Bk iF a) (h : Dn a v) {X : Nat -> Nat -> Option Bool} (hX : E2 X true) : E2 (fun k m => if decide (v.2.1 = true) = true then X k m else (dD k a v.1).bind fun q => if q = true then X k m else some false) true := by
 rcases h with rfl | h
 ·obtain ⟨r, e3, h3⟩ := Lc a a (VK b)
  exact E2.neg (by simp) (E2.bind e3 (E2.pos (h3.2 rfl) hX))
 ·exact E2.pos (decide_eq_true h) hX
theorem dl8 {a : aV} {v : aV × (Bool × Unit)} (b : Bk iF a) (h : Dn a v) : E2 (fun k m => if decide (v.2.1 = true) = true then some true else (dD k a v.1).bind fun q => some (decide (q = true))) true := by
 rcases h with rfl | h
 ·obtain ⟨r, e3, h3⟩ := Lc a a (VK b)
  exact E2.neg (by simp) (E2.bind e3 (E2.ret.val (decide_eq_true (h3.2 rfl))))
 ·exact E2.pos (decide_eq_true h) E2.ret
theorem leaf {a1 a2 a3 a4 a5 a6 a7 a8 : aV} {v1 v2 v3 v4 v5 v6 v7 v8 : aV × (Bool × Unit)} (b1 : Bk iF a1) (h1 : Dn a1 v1) (b2 : Bk iF a2) (h2 : Dn a2 v2) (b3 : Bk iF a3) (h3 : Dn a3 v3) (b4 : Bk iF a4) (h4 : Dn a4 v4) (b5 : Bk iF a5) (h5 : Dn a5 v5) (b6 : Bk iF a6) (h6 : Dn a6 v6) (b7 : Bk iF a7) (h7 : Dn a7 v7) (b8 : Bk iF a8) (h8 : Dn a8 v8) : Ev (fun k => jo.l0 k k (decide (v1.2.1 = true)) (decide (v2.2.1 = true)) (decide (v3.2.1 = true)) (decide (v4.2.1 = true)) (decide (v5.2.1 = true)) (decide (v6.2.1 = true)) (decide (v7.2.1 = true)) (decide (v8.2.1 = true)) a1.2.1.1 a1.2.1.2.1 a1.2.2.2.2.2.2.2.1 a1.2.2.2.2.2.2.2.2.1 v1.1.2.1.1 v1.1.2.1.2.1 v1.1.2.2.2.2.2.2.2.1 v1.1.2.2.2.2.2.2.2.2.1 a2.2.1.1 a2.2.1.2.1 a2.2.2.2.2.2.2.2.1 a2.2.2.2.2.2.2.2.2.1 v2.1.2.1.1 v2.1.2.1.2.1 v2.1.2.2.2.2.2.2.2.1 v2.1.2.2.2.2.2.2.2.2.1 a3.2.1.1 a3.2.1.2.1 a3.2.2.2.2.2.2.2.1 a3.2.2.2.2.2.2.2.2.1 v3.1.2.1.1 v3.1.2.1.2.1 v3.1.2.2.2.2.2.2.2.1 v3.1.2.2.2.2.2.2.2.2.1 a4.2.1.1 a4.2.1.2.1 a4.2.2.2.2.2.2.2.1 a4.2.2.2.2.2.2.2.2.1 v4.1.2.1.1 v4.1.2.1.2.1 v4.1.2.2.2.2.2.2.2.1 v4.1.2.2.2.2.2.2.2.2.1 a5.2.1.1 a5.2.1.2.1 a5.2.2.2.2.2.2.2.1 a5.2.2.2.2.2.2.2.2.1 v5.1.2.1.1 v5.1.2.1.2.1 v5.1.2.2.2.2.2.2.2.1 v5.1.2.2.2.2.2.2.2.2.1 a6.1 a6.2.1.1 a6.2.1.2.1 a6.2.2.1 a6.2.2.2.1 a6.2.2.2.2.1 a6.2.2.2.2.2.1 a6.2.2.2.2.2.2.1 a6.2.2.2.2.2.2.2.1 a6.2.2.2.2.2.2.2.2.1 v6.1.2.1.1 v6.1.2.1.2.1 v6.1.2.2.2.2.2.2.2.1 v6.1.2.2.2.2.2.2.2.2.1 a7.2.1.1 a7.2.1.2.1 a7.2.2.2.2.2.2.2.1 a7.2.2.2.2.2.2.2.2.1 v7.1.2.1.1 v7.1.2.1.2.1 v7.1.2.2.2.2.2.2.2.1 v7.1.2.2.2.2.2.2.2.2.1 a8.2.1.1 a8.2.1.2.1 a8.2.2.2.2.2.2.2.1 a8.2.2.2.2.2.2.2.2.1 v8.1.2.1.1 v8.1.2.1.2.1 v8.1.2.2.2.2.2.2.2.1 v8.1.2.2.2.2.2.2.2.2.1 a1.1 a1.2.2.1 a1.2.2.2.1 a1.2.2.2.2.1 a1.2.2.2.2.2.1 a1.2.2.2.2.2.2.1 v1.1.1 v1.1.2.2.1 v1.1.2.2.2.1 v1.1.2.2.2.2.1 v1.1.2.2.2.2.2.1 v1.1.2.2.2.2.2.2.1 a2.1 a2.2.2.1 a2.2.2.2.1 a2.2.2.2.2.1 a2.2.2.2.2.2.1 a2.2.2.2.2.2.2.1 v2.1.1 v2.1.2.2.1 v2.1.2.2.2.1 v2.1.2.2.2.2.1 v2.1.2.2.2.2.2.1 v2.1.2.2.2.2.2.2.1 a3.1 a3.2.2.1 a3.2.2.2.1 a3.2.2.2.2.1 a3.2.2.2.2.2.1 a3.2.2.2.2.2.2.1 v3.1.1 v3.1.2.2.1 v3.1.2.2.2.1 v3.1.2.2.2.2.1 v3.1.2.2.2.2.2.1 v3.1.2.2.2.2.2.2.1 a4.1 a4.2.2.1 a4.2.2.2.1 a4.2.2.2.2.1 a4.2.2.2.2.2.1 a4.2.2.2.2.2.2.1 v4.1.1 v4.1.2.2.1 v4.1.2.2.2.1 v4.1.2.2.2.2.1 v4.1.2.2.2.2.2.1 v4.1.2.2.2.2.2.2.1 a5.1 a5.2.2.1 a5.2.2.2.1 a5.2.2.2.2.1 a5.2.2.2.2.2.1 a5.2.2.2.2.2.2.1 v5.1.1 v5.1.2.2.1 v5.1.2.2.2.1 v5.1.2.2.2.2.1 v5.1.2.2.2.2.2.1 v5.1.2.2.2.2.2.2.1 v6.1.1 v6.1.2.2.1 v6.1.2.2.2.1 v6.1.2.2.2.2.1 v6.1.2.2.2.2.2.1 v6.1.2.2.2.2.2.2.1 a7.1 a7.2.2.1 a7.2.2.2.1 a7.2.2.2.2.1 a7.2.2.2.2.2.1 a7.2.2.2.2.2.2.1 v7.1.1 v7.1.2.2.1 v7.1.2.2.2.1 v7.1.2.2.2.2.1 v7.1.2.2.2.2.2.1 v7.1.2.2.2.2.2.2.1 a8.1 a8.2.2.1 a8.2.2.2.1 a8.2.2.2.2.1 a8.2.2.2.2.2.1 a8.2.2.2.2.2.2.1 v8.1.1 v8.1.2.2.1 v8.1.2.2.2.1 v8.1.2.2.2.2.1 v8.1.2.2.2.2.2.1 v8.1.2.2.2.2.2.2.1) true :=
 Ev.loop (f := fun k m => jo.l0 k m (decide (v1.2.1 = true)) (decide (v2.2.1 = true)) (decide (v3.2.1 = true)) (decide (v4.2.1 = true)) (decide (v5.2.1 = true)) (decide (v6.2.1 = true)) (decide (v7.2.1 = true)) (decide (v8.2.1 = true)) a1.2.1.1 a1.2.1.2.1 a1.2.2.2.2.2.2.2.1 a1.2.2.2.2.2.2.2.2.1 v1.1.2.1.1 v1.1.2.1.2.1 v1.1.2.2.2.2.2.2.2.1 v1.1.2.2.2.2.2.2.2.2.1 a2.2.1.1 a2.2.1.2.1 a2.2.2.2.2.2.2.2.1 a2.2.2.2.2.2.2.2.2.1 v2.1.2.1.1 v2.1.2.1.2.1 v2.1.2.2.2.2.2.2.2.1 v2.1.2.2.2.2.2.2.2.2.1 a3.2.1.1 a3.2.1.2.1 a3.2.2.2.2.2.2.2.1 a3.2.2.2.2.2.2.2.2.1 v3.1.2.1.1 v3.1.2.1.2.1 v3.1.2.2.2.2.2.2.2.1 v3.1.2.2.2.2.2.2.2.2.1 a4.2.1.1 a4.2.1.2.1 a4.2.2.2.2.2.2.2.1 a4.2.2.2.2.2.2.2.2.1 v4.1.2.1.1 v4.1.2.1.2.1 v4.1.2.2.2.2.2.2.2.1 v4.1.2.2.2.2.2.2.2.2.1 a5.2.1.1 a5.2.1.2.1 a5.2.2.2.2.2.2.2.1 a5.2.2.2.2.2.2.2.2.1 v5.1.2.1.1 v5.1.2.1.2.1 v5.1.2.2.2.2.2.2.2.1 v5.1.2.2.2.2.2.2.2.2.1 a6.1 a6.2.1.1 a6.2.1.2.1 a6.2.2.1 a6.2.2.2.1 a6.2.2.2.2.1 a6.2.2.2.2.2.1 a6.2.2.2.2.2.2.1 a6.2.2.2.2.2.2.2.1 a6.2.2.2.2.2.2.2.2.1 v6.1.2.1.1 v6.1.2.1.2.1 v6.1.2.2.2.2.2.2.2.1 v6.1.2.2.2.2.2.2.2.2.1 a7.2.1.1 a7.2.1.2.1 a7.2.2.2.2.2.2.2.1 a7.2.2.2.2.2.2.2.2.1 v7.1.2.1.1 v7.1.2.1.2.1 v7.1.2.2.2.2.2.2.2.1 v7.1.2.2.2.2.2.2.2.2.1 a8.2.1.1 a8.2.1.2.1 a8.2.2.2.2.2.2.2.1 a8.2.2.2.2.2.2.2.2.1 v8.1.2.1.1 v8.1.2.1.2.1 v8.1.2.2.2.2.2.2.2.1 v8.1.2.2.2.2.2.2.2.2.1 a1.1 a1.2.2.1 a1.2.2.2.1 a1.2.2.2.2.1 a1.2.2.2.2.2.1 a1.2.2.2.2.2.2.1 v1.1.1 v1.1.2.2.1 v1.1.2.2.2.1 v1.1.2.2.2.2.1 v1.1.2.2.2.2.2.1 v1.1.2.2.2.2.2.2.1 a2.1 a2.2.2.1 a2.2.2.2.1 a2.2.2.2.2.1 a2.2.2.2.2.2.1 a2.2.2.2.2.2.2.1 v2.1.1 v2.1.2.2.1 v2.1.2.2.2.1 v2.1.2.2.2.2.1 v2.1.2.2.2.2.2.1 v2.1.2.2.2.2.2.2.1 a3.1 a3.2.2.1 a3.2.2.2.1 a3.2.2.2.2.1 a3.2.2.2.2.2.1 a3.2.2.2.2.2.2.1 v3.1.1 v3.1.2.2.1 v3.1.2.2.2.1 v3.1.2.2.2.2.1 v3.1.2.2.2.2.2.1 v3.1.2.2.2.2.2.2.1 a4.1 a4.2.2.1 a4.2.2.2.1 a4.2.2.2.2.1 a4.2.2.2.2.2.1 a4.2.2.2.2.2.2.1 v4.1.1 v4.1.2.2.1 v4.1.2.2.2.1 v4.1.2.2.2.2.1 v4.1.2.2.2.2.2.1 v4.1.2.2.2.2.2.2.1 a5.1 a5.2.2.1 a5.2.2.2.1 a5.2.2.2.2.1 a5.2.2.2.2.2.1 a5.2.2.2.2.2.2.1 v5.1.1 v5.1.2.2.1 v5.1.2.2.2.1 v5.1.2.2.2.2.1 v5.1.2.2.2.2.2.1 v5.1.2.2.2.2.2.2.1 v6.1.1 v6.1.2.2.1 v6.1.2.2.2.1 v6.1.2.2.2.2.1 v6.1.2.2.2.2.2.1 v6.1.2.2.2.2.2.2.1 a7.1 a7.2.2.1 a7.2.2.2.1 a7.2.2.2.2.1 a7.2.2.2.2.2.1 a7.2.2.2.2.2.2.1 v7.1.1 v7.1.2.2.1 v7.1.2.2.2.1 v7.1.2.2.2.2.1 v7.1.2.2.2.2.2.1 v7.1.2.2.2.2.2.2.1 a8.1 a8.2.2.1 a8.2.2.2.1 a8.2.2.2.2.1 a8.2.2.2.2.2.1 a8.2.2.2.2.2.2.1 v8.1.1 v8.1.2.2.1 v8.1.2.2.2.1 v8.1.2.2.2.2.1 v8.1.2.2.2.2.2.1 v8.1.2.2.2.2.2.2.1) (E2.eq (fun k m => jo.aA k m _ _ _ _ _ _ _ _ _ _ _ _ _ _ _ _ _ _ _ _ _ _ _ _ _ _ _ _ _ _ _ _ _ _ _ _ _ _ _ _ _ _ _ _ _ _ _ _ _ _ _ _ _ _ _ _ _ _ _ _ _ _ _ _ _ _ _ _ _ _ _ _ _ _ _ _ _ _ _ _ _ _ _ _ _ _ _ _ _ _ _ _ _ _ _ _ _ _ _ _ _ _ _ _ _ _ _ _ _ _ _ _ _ _ _ _ _ _ _ _ _ _ _ _ _ _ _ _ _ _ _ _ _ _ _ _ _ _ _ _ _ _ _ _ _ _ _ _ _ _ _ _ _ _ _ _ _ _ _ _ _ _ _ _ _ _ _ _) (dl b1 h1 (dl b2 h2 (dl b3 h3 (dl b4 h4 (dl b5 h5 (dl b6 h6 (dl b7 h7 (dl8 b8 h8)))))))))
theorem cl {P : aV -> Prop} {a : aV} {v : aV × (Bool × Unit)} (h : v = (a, (false, ())) \/ v.2.1 = true /\ Ev (fun k => aZ k v.1) true /\ P v.1) {X Y : Nat -> Option Bool} (hX : Ev X true) (hY : isO v.1 -> P v.1 -> Ev Y true) : Ev (fun k => if v.2.1 = true then (aZ k v.1).bind fun q => if ¬ (q = true) then some false else Y k else X k) true := by
 rcases h with rfl | ⟨h1, h2, h3⟩
 ·exact Ev.neg (by simp) hX
 ·exact Ev.pos h1 (Ev.bind h2 (Ev.neg (by simp) (hY h2 h3)))
theorem clE {A B : Int} (h : A = B) {X : Nat -> Option Bool} (hX : Ev X true) : Ev (fun k => if A ≠ B then some false else X k) true := Ev.neg (fun hh => hh h) hX
theorem cl1 {a b : aV} {e : aF} (hb : b.1.length <= 1048576) (h : e ∈ b.1 /\ Eq (α := Int) b.2.2.2.2.2.2.2.1 (IntKind.wrap .i64 (a.2.2.2.2.2.2.2.1 + 1))) {X : Nat -> Option Bool} (hX : Ev X true) : Ev (fun k => if (b.2.2.2.2.2.2.2.1 : Int) ≠ (IntKind.wrap .i64 (a.2.2.2.2.2.2.2.1 + 1)) then some false else (eO k b.1 e).bind fun q => if ¬ (q = true) then some false else X k) true := by
 obtain ⟨r, er, hr⟩ := Dz b.1 e hb
 exact Ev.neg (fun hh => hh h.2) (Ev.bind er (Ev.neg (fun hh => hh (hr.2 h.1)) hX))
theorem cl2 {b : aV} {e : aF} (hb : b.1.length <= 1048576) (h : e ∉ b.1) {X : Nat -> Option Bool} (hX : Ev X true) : Ev (fun k => (eO k b.1 e).bind fun q => if q = true then some false else X k) true := by
 obtain ⟨r, er, hr⟩ := Dz b.1 e hb
 exact Ev.bind er (Ev.neg (fun hh => h (hr.1 hh)) hX)
theorem cl3 {a b : aV} {x : bE} (t : yH b.2.2.1) (h : ∃ p, p <= a.2.2.1.length /\ (∀ j, j < p -> ((rd dn a.2.2.1 (j : Int)).1 : Int) < x.1) /\ (p < a.2.2.1.length -> ¬ ((rd dn a.2.2.1 (p : Int)).1 : Int) < x.1) /\ b.2.2.1 = Aj a.2.2.1 x p) {X : Nat -> Option Bool} (hX : Ev X true) : Ev (fun k => (gM k b.2.2.1 x.1).bind fun q => if (q : Int) ≠ x.2.1 then some false else X k) true := by
 obtain ⟨p, hp, _, _, hb⟩ := h
 obtain ⟨h1, h2⟩ := Yl (x := x) hp
 rw [<- hb] at h1 h2
 have e := Ua t h1
 rw [h2] at e
 exact Ev.bind e (Ev.neg (fun hh => hh rfl) hX)
theorem cl5 {a b : aV} {id : Int} (ha : a.2.2.2.1.length <= 1048576) (hs : b.2.2.2.2.1.length <= 1048576) (hp : iC a.2.2.2.1) (t : Ah b.2.2.2.1 b.1 b.2.2.2.2.1) (h : ∃ p, p < a.2.2.2.1.length /\ ((rd bV a.2.2.2.1 (p : Int)).1 : Int) = id /\ b.2.2.2.1 = a.2.2.2.1.take p ++ a.2.2.2.1.drop (p + 1)) {X : Nat -> Option Bool} (hX : Ev X true) : Ev (fun k => (fQ k b.2.2.2.2.1 id).bind fun q => if q = true then some false else if (((List.length b.2.2.2.1 : Nat) : Int) : Int) ≠ (IntKind.wrap .i64 (((List.length a.2.2.2.1 : Nat) : Int) - 1)) then some false else X k) true := by
 obtain ⟨p, h1, h2, h3⟩ := h
 have hn := Qy hp t h1 h2 h3
 have hl : b.2.2.2.1.length = a.2.2.2.1.length - 1 := by rw [h3, List.length_append, List.length_take, List.length_drop]; omega
 refine Ev.bind (MF _ _ hs) (Ev.neg (by simpa using hn) (Ev.neg (fun hh => hh ?_) hX))
 rw [lS (by omega) (by omega)]
 omega
theorem cl6 {a b : aV} (ha : a.2.2.2.1.length <= 1048576) (h : b.2.2.2.1.length = a.2.2.2.1.length + 1) {X : Nat -> Option Bool} (hX : Ev X true) : Ev (fun k => if (((List.length b.2.2.2.1 : Nat) : Int) : Int) ≠ (IntKind.wrap .i64 (((List.length a.2.2.2.1 : Nat) : Int) + 1)) then some false else X k) true := by
 refine Ev.neg (fun hh => hh ?_) hX
 rw [lS (by omega) (by omega)]
 omega
theorem pure (a0 : List Int) (w0 : Wd (.list (.int .u8)) a0) : ∃ k, jo k a0 = some true := by
 refine Ev.at (f := fun k => jo k a0) ?_
 by_cases hb : (1048576 : Int) < ((List.length a0 : Nat) : Int)
 ·exact Ev.eq (fun k => yR k a0) (Ev.bind (Ev.eq (fun k => Fg k a0) Ev.ret) (Ev.pos (by simpa using hb) Ev.ret))
 have hc : a0.length <= 1048576 := by omega
 obtain ⟨a1, e, ga1, d1⟩ := Le a0 hc
 obtain ⟨v1, g1, h1, s1⟩ := ZA (by omega) ga1 e
 obtain ⟨a2, f, ga2, d2⟩ := TU a0 hc
 obtain ⟨v2, g2, h2, s2⟩ := ZB (by omega) ga2 f
 obtain ⟨a3, t, ga3, d3⟩ := TV a0 hc
 obtain ⟨v3, g3, h3, s3⟩ := ZC (by omega) ga3 t
 obtain ⟨a4, n4, ga4, d4⟩ := VW a0 hc
 obtain ⟨v4, g4, h4, s4⟩ := aa8 (by omega) (by omega) ga4 n4
 obtain ⟨a5, n5, ga5, pa5, d5⟩ := TW a0 hc
 obtain ⟨v5, g5, h5, s5⟩ := ZE (by omega) ga5 n5
 obtain ⟨a6, p6, ga6, fp6, d6⟩ := VX a0 hc
 obtain ⟨v6, g6, h6, s6⟩ := abd (by omega) ga6 p6 fp6
 obtain ⟨a7, x, y, z, w, ga7, d7⟩ := VY a0 hc
 obtain ⟨v7, g7, h7, s7⟩ := abb (by omega) ga7 x y z w
 obtain ⟨a8, n8, ga8, d8⟩ := VZ a0 hc
 obtain ⟨v8, g8, h8, s8⟩ := aa9 (by omega) ga8 n8
 have b : ∀ {o : aV}, Gd 210 o -> Bk iF o := fun h => yS h (by omega)
 have m : ∀ {o : aV}, Gd (210 + 1) o -> Bk iF o := fun h => yS h (by omega)
 have l := leaf (b ga1) (h1.imp id fun h => h.1) (b ga2) (h2.imp id fun h => h.1) (b ga3) (h3.imp id fun h => h.1) (b ga4) (h4.imp id fun h => h.1) (b ga5) (h5.imp id fun h => h.1) (b ga6) (h6.imp id fun h => h.1) (b ga7) (h7.imp id fun h => h.1) (b ga8) (h8.imp id fun h => h.1)
 refine Ev.eq (fun k => yR k a0) (Ev.bind (Ev.eq (fun k => Fg k a0) Ev.ret) (Ev.neg (by simpa using hb) (Ev.bind d1 (Ev.bind s1 (Ev.bind d2 (Ev.bind s2 (Ev.bind d3 (Ev.bind s3 (Ev.bind d4 (Ev.bind s4 (Ev.bind d5 (Ev.bind s5 (Ev.bind d6 (Ev.bind s6 (Ev.bind d7 (Ev.bind s7 (Ev.bind d8 (Ev.bind s8 ?_))))))))))))))))))
 have x8 := cl (P := fun b => Eq (α := Int) b.2.2.2.2.2.2.2.2.1 (IntKind.wrap .i64 (a8.2.2.2.2.2.2.2.2.1 + n8))) h8 l (fun _ h => clE h l)
 have x7 := cl (P := fun _ => True) h7 x8 (fun _ _ => x8)
 have x6 := cl (P := fun b => b.2.2.2.1.length = a6.2.2.2.1.length + 1) h6 x7 (fun _ h => cl6 (b ga6).2.2.2.1.1 h x7)
 have x5 := cl (P := fun b => ∃ p, p < a5.2.2.2.1.length /\ ((rd bV a5.2.2.2.1 (p : Int)).1 : Int) = n5 /\ b.2.2.2.1 = a5.2.2.2.1.take p ++ a5.2.2.2.1.drop (p + 1)) h5 x6 (fun i h => cl5 (b ga5).2.2.2.1.1 (m g5).2.2.2.2.1.1 pa5 (Fp i (KY (m g5))) h x6)
 have x4 := cl (P := fun b => ((b.2.2.2.2.1.length : Nat) : Int) = n4) h4 x5 (fun _ h => clE h x5)
 have x3 := cl (P := fun b => ∃ p, p <= a3.2.2.1.length /\ (∀ j, j < p -> ((rd dn a3.2.2.1 (j : Int)).1 : Int) < t.1) /\ (p < a3.2.2.1.length -> ¬ ((rd dn a3.2.2.1 (p : Int)).1 : Int) < t.1) /\ b.2.2.1 = Aj a3.2.2.1 t p) h3 x4 (fun i h => cl3 (TT i (KY (m g3))) h x4)
 have x2 := cl (P := fun b => f ∉ b.1) h2 x3 (fun _ h => cl2 (m g2).1.1 h x3)
 have x1 := cl (P := fun b => e ∈ b.1 /\ Eq (α := Int) b.2.2.2.2.2.2.2.1 (IntKind.wrap .i64 (a1.2.2.2.2.2.2.2.1 + 1))) h1 x2 (fun _ h => cl1 (m g1).1.1 h x2)
 exact x1
end Go.jy
