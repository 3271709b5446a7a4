/- The plain half of Seat. No condition. -/
import Derived.Test.YtmocpfgfjeaelaaGreatQSeat
import Derived.Test.YtmocpfgfjeaelaaGreatSeatF
import Derived.Test.YtmocpfgfjeaelaaGreatPur
set_option linter.unusedVariables false
set_option linter.unusedSimpArgs false
open Go Go.Flat
namespace Go.fZ
theorem aI (x lo hi : Int) : Ev (fun k => aT k x lo hi) (decide (lo <= x /\ x <= hi)) := by
 by_cases c : lo <= x
 ·exact Ev.eq (fun k => mQ k x lo hi) (Ev.pos c (Ev.ret.val (by simp [c])))
 ·exact Ev.eq (fun k => mQ k x lo hi) (Ev.neg c (Ev.ret.val (by simp [c])))
theorem rT (x : Int) : Ev (fun k => cmp_isNaN_int k x) false := Ev.eq (fun k => rR k x) (Ev.ret.val (by simp))
def zh (x y : Int) : Int := if x < y then -1 else if y < x then 1 else 0
theorem uj (x y : Int) : Ev (fun k => cmp_Compare_int k x y) (zh x y) := by
 unfold zh
 by_cases c : x < y
 ·exact Ev.eq (fun k => iK k x y) (Ev.bind (rT x) (Ev.bind (rT y) (Ev.neg (by simp) (Ev.neg (by simp) (Ev.pos c (Ev.ret.val (by rw [if_pos c])))))))
 ·by_cases c2 : y < x
  ·exact Ev.eq (fun k => iK k x y) (Ev.bind (rT x) (Ev.bind (rT y) (Ev.neg (by simp) (Ev.neg (by simp) (Ev.neg c (Ev.pos c2 (Ev.ret.val (by rw [if_neg c, if_pos c2]))))))))
  ·exact Ev.eq (fun k => iK k x y) (Ev.bind (rT x) (Ev.bind (rT y) (Ev.neg (by simp) (Ev.neg (by simp) (Ev.neg c (Ev.neg c2 (Ev.ret.val (by rw [if_neg c, if_neg c2]))))))))
theorem Ab {f : Nat -> Option Bool} {p : Prop} [d : Decidable p] (h : ∃ r, Ev f r /\ (r = true ↔ p)) : Ev f (decide p) := by
 obtain ⟨r, e, hr⟩ := h
 exact e.val (by rw [Bool.eq_iff_iff, hr]; simp)
theorem vB {F : Int -> Nat -> Nat -> Option Bool} {n : Nat} (Q : Nat -> Prop) (c : Bool) (hend : E2 (F (n : Int)) c)
  (hgo : ∀ i, i < n -> Q i -> ∀ v, E2 (F ((i + 1 : Nat) : Int)) v -> E2 (F (i : Int)) v) (hstop : ∀ i, i < n -> ¬ Q i -> E2 (F (i : Int)) false) :
  ∃ r, E2 (F 0) r /\ (r = true ↔ (∀ i, i < n -> Q i) /\ c = true) := by
 have key : ∀ d i, i + d = n -> ∃ r, E2 (F (i : Int)) r /\ (r = true ↔ (∀ j, i <= j -> j < n -> Q j) /\ c = true) := by
  intro d
  induction d with
  | zero =>
   intro i hi
   have hi : i = n := by omega
   subst hi
   exact ⟨c, hend, ⟨fun h => ⟨fun j _ _ => by omega, h⟩, fun h => h.2⟩⟩
  | succ d ih =>
   intro i hi
   obtain ⟨r, er, hr⟩ := ih (i + 1) (by omega)
   by_cases hq : Q i
   ·refine ⟨r, hgo i (by omega) hq r er, hr.trans ⟨fun h => ⟨fun j h1 h2 => ?_, h.2⟩, fun h => ⟨fun j h1 h2 => h.1 j (by omega) h2, h.2⟩⟩⟩
    by_cases hj : j = i
    ·subst hj; exact hq
    ·exact h.1 j (by omega) h2
   ·exact ⟨false, hstop i (by omega) hq, by simp only [Bool.false_eq_true, false_iff]; exact fun h => hq (h.1 i (Nat.le_refl _) (by omega))⟩
 obtain ⟨r, er, hr⟩ := key n 0 (by omega)
 exact ⟨r, er, hr.trans ⟨fun h => ⟨fun i hi => h.1 i (Nat.zero_le _) hi, h.2⟩, fun h => ⟨fun i _ hi => h.1 i hi, h.2⟩⟩⟩
theorem jE {i : Nat} (h : 0 < i) (h2 : i < 9223372036854775807) : IntKind.wrap .i64 ((i : Int) - 1) = ((i - 1 : Nat) : Int) := by
 rw [jD (by omega) (by omega)]; omega
def Vy (e : aF) : Prop := (0 <= (e.1 : Int) /\ (e.1 : Int) <= 2000) /\ (1 <= (e.2.1 : Int) /\ (e.2.1 : Int) <= 96) /\ (21 <= (e.2.2.1 : Int) /\ (e.2.2.1 : Int) <= 108) /\ 1 <= (e.2.2.2.1 : Int) /\ (e.2.2.2.1 : Int) <= 4
instance (e : aF) : Decidable (Vy e) := by unfold Vy; infer_instance
def Ac (a b : aF) : Prop := (a.1 : Int) < b.1 \/ (a.1 : Int) = b.1 /\ ((a.2.2.2.1 : Int) < b.2.2.2.1 \/ (a.2.2.2.1 : Int) = b.2.2.2.1 /\ (a.2.2.1 : Int) < b.2.2.1)
instance (a b : aF) : Decidable (Ac a b) := by unfold Ac; infer_instance
def Mj (x y : Int) : Int := if x ≠ 0 then x else y
theorem Rj (x y z : Int) : Ev (fun k => bP k [x, y, z]) (Mj x (Mj y z)) := by
 refine Ev.eq (fun k => sN k _) (Ev.loop (f := fun k m => bP.l0 k m 0 [x, y, z] ((List.length [x, y, z] : Nat) : Int) 0) ?_)
 have w0 : IntKind.wrap .i64 ((0 : Int) + 1) = 1 := jD (by omega) (by omega)
 have w1 : IntKind.wrap .i64 ((1 : Int) + 1) = 2 := jD (by omega) (by omega)
 have w2 : IntKind.wrap .i64 ((2 : Int) + 1) = 3 := jD (by omega) (by omega)
 have r0 : rd (.int .i64) [x, y, z] 0 = x := rfl
 have r1 : rd (.int .i64) [x, y, z] 1 = y := rfl
 have r2 : rd (.int .i64) [x, y, z] 2 = z := rfl
 have hl : ((List.length [x, y, z] : Nat) : Int) = 3 := rfl
 unfold Mj
 refine E2.eq (fun k m => bP.aA k m 0 [x, y, z] _ 0) (E2.pos (by rw [hl]; omega) (E2.pos (by omega) (E2.pos (by rw [hl]; omega) ?_)))
 simp only [r0, w0]
 by_cases c0 : x = 0
 ·refine E2.neg (fun h => h c0) ?_
  rw [if_neg (show ¬ x ≠ 0 by omega)]
  refine E2.eq (fun k m => bP.aA k m 0 [x, y, z] _ 1) (E2.pos (by rw [hl]; omega) (E2.pos (by omega) (E2.pos (by rw [hl]; omega) ?_)))
  simp only [r1, w1]
  by_cases c1 : y = 0
  ·refine E2.neg (fun h => h c1) ?_
   rw [if_neg (show ¬ y ≠ 0 by omega)]
   refine E2.eq (fun k m => bP.aA k m 0 [x, y, z] _ 2) (E2.pos (by rw [hl]; omega) (E2.pos (by omega) (E2.pos (by rw [hl]; omega) ?_)))
   simp only [r2, w2]
   by_cases c2 : z = 0
   ·exact E2.neg (fun h => h c2) (E2.eq (fun k m => bP.aA k m 0 [x, y, z] _ 3) (E2.neg (by rw [hl]; omega) (E2.ret.val c2.symm)))
   ·exact E2.pos c2 E2.ret
  ·rw [if_pos c1]; exact E2.pos c1 E2.ret
 ·rw [if_pos c0]; exact E2.pos c0 E2.ret
def Qo (a b : aF) : Int := Mj (zh a.1 b.1) (Mj (zh a.2.2.2.1 b.2.2.2.1) (zh a.2.2.1 b.2.2.1))
theorem xS (a b : aF) : Ev (fun k => iZ k a b) (Qo a b) :=
 Ev.eq (fun k => qg k a b) (Ev.bind (uj _ _) (Ev.bind (uj _ _) (Ev.bind (uj _ _) (Ev.bind (Rj _ _ _) Ev.ret))))
theorem Az (a b : aF) : Qo a b < 0 ↔ Ac a b := by
 unfold Qo Mj zh Ac
 repeat' split
 all_goals omega
def QS (l : List aF) (i : Nat) : Prop := Vy (rd bL l (i : Int)) /\ (0 < i -> Ac (rd bL l ((i - 1 : Nat) : Int)) (rd bL l (i : Int)))
instance (l : List aF) (i : Nat) : Decidable (QS l i) := by unfold QS; infer_instance
def eF (l : List aF) : Prop := (∀ i, i < l.length -> QS l i) /\ decide (((l.length : Nat) : Int) <= 40) = true
instance (l : List aF) : Decidable (eF l) := by unfold eF; infer_instance
theorem sO (l : List aF) (hl : l.length <= 33554432) : Ev (fun k => aO k l) (decide (eF l)) := by
 refine Ab ?_
 obtain ⟨r, er, hr⟩ := vB (F := fun i k m => aO.l0 k m l l ((List.length l : Nat) : Int) i) (n := l.length) (QS l) (decide (((l.length : Nat) : Int) <= 40)) (E2.eq (fun k m => aO.aA k m l l _ _) (E2.neg (by omega) E2.ret)) (fun i hi hq v e => by
  obtain ⟨⟨h1, h2, h3, h4⟩, h5⟩ := hq
  refine E2.eq (fun k m => aO.aA k m l l _ _) (E2.pos (by omega) (E2.pos (by omega) (E2.pos (by omega) (E2.bind (aI _ _ _) (E2.neg (by simpa using h1) (E2.bind (aI _ _ _) (E2.neg (by simpa using h2) (E2.bind (aI _ _ _) (E2.neg (by simpa using h3) (E2.bind (aI _ _ _) (E2.neg (by simpa using h4) ?_)))))))))))
  by_cases c : 0 < i
  ·refine E2.pos (by omega) ?_
   simp only [jE c (show i < 9223372036854775807 by omega), cO (show i < 9223372036854775807 by omega)]
   have := (Az _ _).2 (h5 c)
   exact E2.pos (by omega) (E2.pos (by omega) (E2.bind (xS _ _) (E2.neg (by omega) e)))
  ·refine E2.neg (by omega) ?_
   simp only [cO (show i < 9223372036854775807 by omega)]
   exact e) (fun i hi hq => by
  refine E2.eq (fun k m => aO.aA k m l l _ _) (E2.pos (by omega) (E2.pos (by omega) (E2.pos (by omega) (E2.bind (aI _ _ _) ?_))))
  by_cases h1 : 0 <= ((rd bL l (i : Int)).1 : Int) /\ ((rd bL l (i : Int)).1 : Int) <= 2000
  ·refine E2.neg (by simpa using h1) (E2.bind (aI _ _ _) ?_)
   by_cases h2 : 1 <= ((rd bL l (i : Int)).2.1 : Int) /\ ((rd bL l (i : Int)).2.1 : Int) <= 96
   ·refine E2.neg (by simpa using h2) (E2.bind (aI _ _ _) ?_)
    by_cases h3 : 21 <= ((rd bL l (i : Int)).2.2.1 : Int) /\ ((rd bL l (i : Int)).2.2.1 : Int) <= 108
    ·refine E2.neg (by simpa using h3) (E2.bind (aI _ _ _) ?_)
     by_cases h4 : 1 <= ((rd bL l (i : Int)).2.2.2.1 : Int) /\ ((rd bL l (i : Int)).2.2.2.1 : Int) <= 4
     ·refine E2.neg (by simpa using h4) ?_
      have c : 0 < i := by
       rcases Nat.eq_zero_or_pos i with h | h
       ·exact absurd ⟨⟨h1, h2, h3, h4⟩, fun h' => by omega⟩ hq
       ·exact h
      have c1 : ¬ Ac (rd bL l ((i - 1 : Nat) : Int)) (rd bL l (i : Int)) := fun h => hq ⟨⟨h1, h2, h3, h4⟩, fun _ => h⟩
      refine E2.pos (by omega) ?_
      simp only [jE c (show i < 9223372036854775807 by omega)]
      have := mt (Az _ _).1 c1
      exact E2.pos (by omega) (E2.pos (by omega) (E2.bind (xS _ _) (E2.pos (by omega) E2.ret)))
     ·exact E2.pos (by simpa using h4) E2.ret
    ·exact E2.pos (by simpa using h3) E2.ret
   ·exact E2.pos (by simpa using h2) E2.ret
  ·exact E2.pos (by simpa using h1) E2.ret)
 exact ⟨r, Ev.eq (fun k => ug k l) (Ev.loop (f := fun k m => aO.l0 k m l l ((List.length l : Nat) : Int) 0) er), hr⟩
theorem dD (l : List aF) (hl : l.length <= 1048576) : Ev (fun k => aO k l) (decide (eF l)) := sO l (by omega)
theorem IJ (l : List Int) (x : Int) (hl : l.length <= 1048576) : Ev (fun k => aC k l x) (wW (fun i => decide (Eq (α := Int) x (rd (.int .i64) l (i : Int)))) l.length) := by
 have er := tL (R := fun i v => E2 (fun k m => aC.l0 k m l x ((List.length l : Nat) : Int) i) v) (n := l.length) (fun i => decide (Eq (α := Int) x (rd (.int .i64) l (i : Int)))) (E2.eq (fun k m => aC.aA k m l x _ _) (E2.neg (by omega) E2.ret)) (fun i hi hq v e => by
  refine E2.eq (fun k m => aC.aA k m l x _ _) (E2.pos (by omega) (E2.pos (by omega) (E2.pos (by omega) (E2.neg (by simpa using hq) ?_))))
  simp only [cO (show i < 9223372036854775807 by omega)]; exact e) (fun i hi hq => E2.eq (fun k m => aC.aA k m l x _ _) (E2.pos (by omega) (E2.pos (by omega) (E2.pos (by omega) (E2.pos (by simpa using hq) E2.ret)))))
 exact Ev.eq (fun k => ji k l x) (Ev.loop (f := fun k m => aC.l0 k m l x ((List.length l : Nat) : Int) 0) er)
theorem jB (l : List Int) (x : Int) (hl : l.length <= 1048576) : Ev (fun k => cK k l x) (decide (x ∈ l)) := by
 refine Ev.eq (fun k => jI k l x) (Ev.bind (IJ l x hl) (Ev.ret.val ?_))
 rw [Bool.eq_iff_iff, decide_eq_true_eq, decide_eq_true_eq, wX]
 constructor
 ·rintro ⟨i, hi, h⟩
  have h : x = rd (.int .i64) l (i : Int) := by simpa using h
  rw [h, fK hi]; exact List.getElem_mem hi
 ·intro h
  obtain ⟨i, hi, h⟩ := List.mem_iff_getElem.1 h
  exact ⟨i, hi, by rw [decide_eq_true_eq, fK hi]; exact h.symm⟩
def iq (v : Int) (e : aF) : Bool := decide ((e.2.2.2.1 : Int) = v)
theorem yF (e : aF) (v : Int) : Ev (fun k => iX k e v) (! iq v e) := by
 refine Ev.eq (fun k => qK k e v) (Ev.ret.val ?_)
 unfold iq
 simp
theorem Ej (l : List aF) (v : Int) (hl : l.length <= 1048576) : Ev (fun k => aj k l v) (l.filter (iq v)) := by
 have ei : Ev (fun k => ay k l v) (wW (fun i => ! iq v (rd bL l (i : Int))) l.length) := by
  have er := tL (R := fun i r => E2 (fun k m => ay.l0 k m l v ((List.length l : Nat) : Int) i) r) (n := l.length) (fun i => ! iq v (rd bL l (i : Int))) (E2.eq (fun k m => ay.aA k m l v _ _) (E2.neg (by omega) E2.ret)) (fun i hi hq r e => by
   refine E2.eq (fun k m => ay.aA k m l v _ _) (E2.pos (by omega) (E2.pos (by omega) (E2.pos (by omega) (E2.bind (yF _ _) (E2.neg (by rw [hq]; simp) ?_)))))
   simp only [cO (show i < 9223372036854775807 by omega)]; exact e) (fun i hi hq => E2.eq (fun k m => ay.aA k m l v _ _) (E2.pos (by omega) (E2.pos (by omega) (E2.pos (by omega) (E2.bind (yF _ _) (E2.pos hq E2.ret))))))
  exact Ev.eq (fun k => iL k l v) (Ev.loop (f := fun k m => ay.l0 k m l v ((List.length l : Nat) : Int) 0) er)
 refine Ev.eq (fun k => iC k l v) (Ev.bind ei ?_)
 rcases tK (fun i => ! iq v (rd bL l (i : Int))) l.length with ⟨h, hall⟩ | ⟨r, h, hr, h1, h0⟩
 ·refine Ev.pos h (Ev.ret.val ?_)
  symm
  rw [List.filter_eq_self]
  intro x hx
  obtain ⟨i, hi, rfl⟩ := List.mem_iff_getElem.1 hx
  have := hall i hi
  rw [fK hi] at this
  simpa using this
 ·rw [h]
  refine Ev.neg (by omega) ?_
  rw [cO (by omega)]
  refine Ev.loop (f := fun k m => aj.l0 k m v (r : Int) ((r + 1 : Nat) : Int) l) ?_
  refine Df (t := bL) (l := l) (R := fun i j s w => E2 (fun k m => aj.l0 k m v i j s) w) (iq v) (fun i s hi hs => ?_) (fun i j s hij hj hs hq w e => ?_) (fun i j s hij hj hs hq w e => ?_) r hr (fun j hj => by simpa using h0 j hj) (by simpa using h1)
  ·refine E2.eq (fun k m => aj.aA k m v _ _ s) (E2.neg (by omega) (E2.pos (by omega) (E2.pos (by omega) (E2.pos (by omega) (E2.pos ?_ (E2.ret.val ?_))))))
   ·simp only [List.length_append, List.length_take, List.length_replicate, List.length_drop, Int.toNat_natCast]
    omega
   ·simp only [Int.toNat_natCast, show Int.toNat 0 = 0 from rfl, Nat.sub_zero, List.drop_zero]
    rw [List.append_assoc, List.take_append_of_le_length (by simp; omega), List.take_take, Nat.min_self]
  ·refine E2.eq (fun k m => aj.aA k m v _ _ s) (E2.pos (by omega) (E2.pos (by omega) (E2.pos (by omega) (E2.bind (yF _ _) (E2.pos (by rw [hq]; simp) (E2.pos (by omega) (E2.pos (by omega) ?_)))))))
   simp only [cO (show i < 9223372036854775807 by omega), cO (show j < 9223372036854775807 by omega), Int.toNat_natCast]; exact e
  ·refine E2.eq (fun k m => aj.aA k m v _ _ s) (E2.pos (by omega) (E2.pos (by omega) (E2.pos (by omega) (E2.bind (yF _ _) (E2.neg (by rw [hq]; simp) ?_)))))
   simp only [cO (show j < 9223372036854775807 by omega)]; exact e
theorem jF (l : List aF) (hl : l.length <= 1048576) : Ev (fun k => bH k l) l :=
 Ev.eq (fun k => kY k l) (Ev.pos (by simp only [List.length_nil]; omega) (Ev.ret.val (by simp)))
theorem yG (l : List aF) (v : Int) (hl : l.length <= 1048576) : Ev (fun k => mG k l v) (l.filter (iq v)) :=
 Ev.eq (fun k => uh k l v) (Ev.bind (jF l hl) (Ev.bind (Ej l v hl) Ev.ret))
def QF (lo hi : Int) (l : List aF) (i : Nat) : Prop := LE.le (α := Int) lo (rd bL l (i : Int)).2.2.1 /\ LE.le (α := Int) (rd bL l (i : Int)).2.2.1 hi
def KW (l : List aF) (lo hi : Int) : Prop := (∀ i, i < l.length -> QF lo hi l i) /\ decide (eF l) = true
theorem Ad (l : List aF) (lo hi : Int) (hl : l.length <= 1048576) : ∃ r, Ev (fun k => bA k l lo hi) r /\ (r = true ↔ KW l lo hi) := by
 obtain ⟨r, er, hr⟩ := gG (R := fun i v => E2 (fun k m => bA.l0 k m l lo hi l ((List.length l : Nat) : Int) i) v) (n := l.length) (QF lo hi l) (decide (eF l)) (E2.eq (fun k m => bA.aA k m l lo hi l _ _) (E2.neg (by omega) (E2.bind (dD l hl) (E2.ret.val (by simp))))) (fun i hi' hq v e => by
  refine E2.eq (fun k m => bA.aA k m l lo hi l _ _) (E2.pos (by omega) (E2.pos (by omega) (E2.pos (by omega) (E2.bind (aI _ _ _) (E2.neg (by simpa [QF] using hq) ?_)))))
  simp only [cO (show i < 9223372036854775807 by omega)]; exact e) (fun i hi' hq => E2.eq (fun k m => bA.aA k m l lo hi l _ _) (E2.pos (by omega) (E2.pos (by omega) (E2.pos (by omega) (E2.bind (aI _ _ _) (E2.pos (by simp only [decide_eq_true_eq]; exact hq) E2.ret))))))
 exact ⟨r, Ev.eq (fun k => qJ k l lo hi) (Ev.loop (f := fun k m => bA.l0 k m l lo hi l ((List.length l : Nat) : Int) 0) er), hr⟩
def Mk (p : bF) (l : List aF) (v : Int) : Prop := (v : Int) ∈ p.2.2.2.1 /\ eF l /\ KW (l.filter (iq v)) p.2.1 p.2.2.1
theorem filter_le (l : List aF) (v : Int) (hl : l.length <= 1048576) : (l.filter (iq v)).length <= 1048576 := Nat.le_trans (List.length_filter_le _ _) hl
theorem yH (p : bF) (l : List aF) (v : Int) (hp : p.2.2.2.1.length <= 1048576) (hl : l.length <= 1048576) : ∃ r, Ev (fun k => jT k p l v) r /\ (r = true ↔ Mk p l v) := by
 unfold Mk
 by_cases c1 : (v : Int) ∈ p.2.2.2.1
 ·by_cases c2 : eF l
  ·obtain ⟨r, er, hr⟩ := Ad (l.filter (iq v)) p.2.1 p.2.2.1 (filter_le l v hl)
   exact ⟨r, Ev.eq (fun k => jJ k p l v) (Ev.bind (jB _ _ hp) (Ev.pos (by simpa using c1) (Ev.bind (dD l hl) (Ev.pos (by simpa using c2) (Ev.bind (yG l v hl) (Ev.bind er (Ev.ret.val (by simp)))))))), by rw [hr]; exact ⟨fun h => ⟨c1, c2, h⟩, fun h => h.2.2⟩⟩
  ·exact ⟨false, Ev.eq (fun k => jJ k p l v) (Ev.bind (jB _ _ hp) (Ev.pos (by simpa using c1) (Ev.bind (dD l hl) (Ev.neg (by simpa using c2) Ev.ret)))), by simp only [Bool.false_eq_true, false_iff]; exact fun h => c2 h.2.1⟩
 ·exact ⟨false, Ev.eq (fun k => jJ k p l v) (Ev.bind (jB _ _ hp) (Ev.neg (by simpa using c1) Ev.ret)), by simp only [Bool.false_eq_true, false_iff]; exact fun h => c1 h.1⟩
def QA (lo hi : Int) (l : List Int) (i : Nat) : Prop := (LE.le (α := Int) lo (rd (.int .i64) l (i : Int)) /\ LE.le (α := Int) (rd (.int .i64) l (i : Int)) hi) /\ (0 < i -> LT.lt (α := Int) (rd (.int .i64) l ((i - 1 : Nat) : Int)) (rd (.int .i64) l (i : Int)))
def Ml (l : List Int) (lo hi : Int) : Prop := ∀ i, i < l.length -> QA lo hi l i
theorem Wu {lo hi : Int} {l : List Int} {i : Nat} (h : ¬ QA lo hi l i) (h1 : LE.le (α := Int) lo (rd (.int .i64) l (i : Int)) /\ LE.le (α := Int) (rd (.int .i64) l (i : Int)) hi) : 0 < i /\ ¬ LT.lt (α := Int) (rd (.int .i64) l ((i - 1 : Nat) : Int)) (rd (.int .i64) l (i : Int)) := by
 refine ⟨?_, fun c => h ⟨h1, fun _ => c⟩⟩
 rcases Nat.eq_zero_or_pos i with hi | hi
 ·exact absurd ⟨h1, fun h' => by omega⟩ h
 ·exact hi
theorem Cg (l : List Int) (lo hi : Int) (hl : l.length <= 1048576) : ∃ r, Ev (fun k => aW k l lo hi) r /\ (r = true ↔ Ml l lo hi) := by
 obtain ⟨r, er, hr⟩ := gG (R := fun i v => E2 (fun k m => aW.l0 k m l lo hi l ((List.length l : Nat) : Int) i) v) (n := l.length) (QA lo hi l) true (E2.eq (fun k m => aW.aA k m l lo hi l _ _) (E2.neg (by omega) E2.ret)) (fun i hi' hq v e => by
  obtain ⟨h1, h2⟩ := hq
  refine E2.eq (fun k m => aW.aA k m l lo hi l _ _) (E2.pos (by omega) (E2.pos (by omega) (E2.pos (by omega) (E2.bind (aI _ _ _) (E2.neg (by simpa using h1) ?_)))))
  simp only [cO (show i < 9223372036854775807 by omega)]
  by_cases c : 0 < i
  ·refine E2.pos (by omega) ?_
   simp only [jE c (show i < 9223372036854775807 by omega)]
   have := h2 c
   exact E2.pos (by omega) (E2.pos (by omega) (E2.neg (by omega) e))
  ·exact E2.neg (by omega) e) (fun i hi' hq => by
  refine E2.eq (fun k m => aW.aA k m l lo hi l _ _) (E2.pos (by omega) (E2.pos (by omega) (E2.pos (by omega) (E2.bind (aI _ _ _) ?_))))
  by_cases h1 : LE.le (α := Int) lo (rd (.int .i64) l (i : Int)) /\ LE.le (α := Int) (rd (.int .i64) l (i : Int)) hi
  ·obtain ⟨c, c1⟩ := Wu hq h1
   refine E2.neg (by simpa using h1) (E2.pos (by omega) ?_)
   simp only [jE c (show i < 9223372036854775807 by omega)]
   exact E2.pos (by omega) (E2.pos (by omega) (E2.pos (by omega) E2.ret))
  ·exact E2.pos (by simp only [decide_eq_true_eq]; exact h1) E2.ret)
 exact ⟨r, Ev.eq (fun k => qI k l lo hi) (Ev.loop (f := fun k m => aW.l0 k m l lo hi l ((List.length l : Nat) : Int) 0) er), hr.trans ⟨fun h => h.1, fun h => ⟨h, rfl⟩⟩⟩
def Yp (p : bF) : Prop := (21 <= (p.2.1 : Int) /\ (p.2.1 : Int) <= p.2.2.1) /\ (p.2.2.1 : Int) <= 108 /\ Ml p.2.2.2.1 1 4
def QP (l : List bF) (i : Nat) : Prop := Yp (rd dx l (i : Int)) /\ (1 <= ((rd dx l (i : Int)).1 : Int) /\ ((rd dx l (i : Int)).1 : Int) <= 99) /\ (0 < i -> LT.lt (α := Int) (rd dx l ((i - 1 : Nat) : Int)).1 (rd dx l (i : Int)).1)
def lU (l : List bF) : Prop := (∀ i, i < l.length -> QP l i) /\ decide (((l.length : Nat) : Int) <= 8) = true
def UG (l : List bF) : Prop := l.length <= 1048576 /\ ∀ i : Nat, i < l.length -> (rd dx l (i : Int)).2.2.2.1.length <= 1048576
def jK (l : List bF) : List Int := l.map fun p => p.1
theorem ko {l : List bF} {i : Nat} (h : i < l.length) : Eq (α := Int) (rd (.int .i64) (jK l) (i : Int)) (rd dx l (i : Int)).1 := by
 unfold jK
 rw [fK (by simpa using h), fK h]
 simp
theorem vN (l : List bF) (hs : UG l) : ∃ r, Ev (fun k => aQ k l) r /\ (r = true ↔ lU l) := by
 have hl := hs.1
 obtain ⟨a, ea, ha⟩ := Cg (jK l) 1 99 (by unfold jK; simpa using hl)
 obtain ⟨r, er, hr⟩ := gG (R := fun i v => E2 (fun k m => aQ.l0 k m l l ((List.length l : Nat) : Int) i (jK (l.take i.toNat))) v) (n := l.length) (fun i => Yp (rd dx l (i : Int))) (decide (((l.length : Nat) : Int) <= 8 /\ a = true)) (by
  refine E2.eq (fun k m => aQ.aA k m l l _ _ _) (E2.neg (by omega) ?_)
  rw [Int.toNat_natCast, List.take_length]
  by_cases c : ((l.length : Nat) : Int) <= 8
  ·exact E2.pos c (E2.bind ea (E2.ret.val (by simp [c])))
  ·exact E2.neg c (E2.ret.val (by simp [c]))) (fun i hi hq v e => by
  obtain ⟨h1, h2, h3⟩ := hq
  obtain ⟨b, eb, hb⟩ := Cg (rd dx l (i : Int)).2.2.2.1 1 4 (hs.2 i hi)
  have hlen : (jK (l.take ((i : Int)).toNat)).length = i := by unfold jK; simp; omega
  refine E2.eq (fun k m => aQ.aA k m l l _ _ _) (E2.pos (by omega) (E2.pos (by omega) (E2.pos (by omega) (E2.bind (aI _ _ _) (E2.neg (by simpa using h1) (E2.neg (Int.not_lt.2 h2) (E2.bind eb (E2.neg (by simpa using hb.2 h3) (E2.pos (by rw [hlen]; simp only [List.length_cons, List.length_nil]; omega) ?_)))))))))
  simp only [cO (show i < 9223372036854775807 by omega)]
  have he : jK (l.take ((i : Int)).toNat) ++ [(rd dx l (i : Int)).1] = jK (l.take (((i + 1 : Nat) : Int)).toNat) := by
   unfold jK
   rw [Int.toNat_natCast, Int.toNat_natCast, List.take_succ_eq_append_getElem hi, fK hi, List.map_append]
   rfl
  rw [he]
  exact e) (fun i hi hq => by
  obtain ⟨b, eb, hb⟩ := Cg (rd dx l (i : Int)).2.2.2.1 1 4 (hs.2 i hi)
  refine E2.eq (fun k m => aQ.aA k m l l _ _ _) (E2.pos (by omega) (E2.pos (by omega) (E2.pos (by omega) (E2.bind (aI _ _ _) ?_))))
  by_cases h1 : LE.le (α := Int) 21 (rd dx l (i : Int)).2.1 /\ LE.le (α := Int) (rd dx l (i : Int)).2.1 (rd dx l (i : Int)).2.2.1
  ·refine E2.neg (by simpa using h1) ?_
   by_cases h2 : LE.le (α := Int) (rd dx l (i : Int)).2.2.1 108
   ·exact E2.neg (by omega) (E2.bind eb (E2.pos (fun c => hq ⟨h1, h2, hb.1 c⟩) E2.ret))
   ·exact E2.pos (by omega) E2.ret
  ·exact E2.pos (by simp only [decide_eq_true_eq]; exact h1) E2.ret)
 have er' : E2 (fun k m => aQ.l0 k m l l ((List.length l : Nat) : Int) 0 []) r := er
 refine ⟨r, Ev.eq (fun k => qd k l) (Ev.loop (f := fun k m => aQ.l0 k m l l ((List.length l : Nat) : Int) 0 []) er'), hr.trans ?_⟩
 unfold lU
 rw [decide_eq_true_eq, decide_eq_true_eq, ha]
 unfold Ml
 have hlen : (jK l).length = l.length := by unfold jK; simp
 rw [hlen]
 constructor
 ·rintro ⟨h1, h2, h3⟩
  refine ⟨fun i hi => ?_, h2⟩
  obtain ⟨k1, k2⟩ := h3 i hi
  rw [ko hi] at k1
  refine ⟨h1 i hi, k1, fun c => ?_⟩
  have := k2 c
  rw [ko hi, ko (show i - 1 < l.length by omega)] at this
  exact this
 ·rintro ⟨h1, h2⟩
  refine ⟨fun i hi => (h1 i hi).1, h2, fun i hi => ?_⟩
  obtain ⟨k1, k2, k3⟩ := h1 i hi
  refine ⟨by rw [ko hi]; exact k2, fun c => ?_⟩
  rw [ko hi, ko (show i - 1 < l.length by omega)]
  exact k3 c
theorem Ev.uniq {α : Type} {f : Nat -> Option α} {a b : α} (h : Ev f a) (k : Ev f b) : a = b := by
 obtain ⟨K, h⟩ := h
 obtain ⟨M, k⟩ := k
 have h1 := h (max K M) (by omega)
 rw [k (max K M) (by omega)] at h1
 exact (Option.some.inj h1).symm
noncomputable def Zz (f : Nat -> Option Bool) : Bool := @decide (Ev f true) (Classical.propDecidable _)
theorem Qp {f : Nat -> Option Bool} {r : Bool} (h : Ev f r) : Zz f = r := by
 unfold Zz
 cases r with
 | true => exact @decide_eq_true _ (Classical.propDecidable _) h
 | false =>
  refine @decide_eq_false _ (Classical.propDecidable _) fun h2 => ?_
  obtain ⟨K, hK⟩ := h
  obtain ⟨M, hM⟩ := h2
  have e1 := hK (max K M) (by omega)
  have e2 := hM (max K M) (by omega)
  rw [e1] at e2
  cases e2
noncomputable def Pf (l : List bF) : Bool := Zz fun k => aQ k l
noncomputable def Pg (sc : List aF) : Bool := Zz fun k => aO k sc
noncomputable def AP (p : bF) (sc : List aF) (v : Int) : Bool := Zz fun k => jT k p sc v
theorem ZA (l : List bF) (h : UG l) : (∃ k, aQ k l = some (Pf l)) /\ (Pf l = true ↔ lU l) := by
 obtain ⟨r, e, hr⟩ := vN l h
 unfold Pf
 rw [Qp e]
 exact ⟨Ev.at e, hr⟩
theorem ZB (sc : List aF) (h : sc.length <= 1048576) : (∃ k, aO k sc = some (Pg sc)) /\ (Pg sc = true ↔ eF sc) := by
 have e := dD sc h
 unfold Pg
 rw [Qp e]
 exact ⟨Ev.at e, by rw [decide_eq_true_eq]⟩
theorem XL (p : bF) (sc : List aF) (v : Int) (hp : p.2.2.2.1.length <= 1048576) (h : sc.length <= 1048576) : (∃ k, jT k p sc v = some (AP p sc v)) /\ (AP p sc v = true ↔ Mk p sc v) := by
 obtain ⟨r, e, hr⟩ := yH p sc v hp h
 unfold AP
 rw [Qp e]
 exact ⟨Ev.at e, hr⟩
theorem ZC (v : Int) : ∃ k, aT k v 1 4 = some (decide (1 <= v /\ v <= 4)) := Ev.at (aI v 1 4)
theorem XM (t : List Int) (x : Int) (h : t.length <= 1048576) : ∃ k, cK k t x = some (decide (x ∈ t)) := Ev.at (jB t x h)
end Go.fZ
