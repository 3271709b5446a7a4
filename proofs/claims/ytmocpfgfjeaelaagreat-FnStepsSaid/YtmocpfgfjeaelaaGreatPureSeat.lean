/- The plain half of Seat. No condition. -/
import Derived.Test.YtmocpfgfjeaelaaGreatQSeat
import Derived.Test.YtmocpfgfjeaelaaGreatSeatF
import Derived.Test.YtmocpfgfjeaelaaGreatPur
set_option linter.unusedVariables false
set_option linter.unusedSimpArgs false
open Go Go.Flat
namespace Go.fZ
theorem aI (x lo hi : Int) : Ev (fun k => aY k x lo hi) (decide (lo <= x /\ x <= hi)) := by
 by_cases c : lo <= x
 ·exact Ev.eq (fun k => mE k x lo hi) (Ev.pos c (Ev.ret.val (by simp [c])))
 ·exact Ev.eq (fun k => mE k x lo hi) (Ev.neg c (Ev.ret.val (by simp [c])))
theorem rR (x : Int) : Ev (fun k => cmp_isNaN_int k x) false := Ev.eq (fun k => rQ k x) (Ev.ret.val (by simp))
def yV (x y : Int) : Int := if x < y then -1 else if y < x then 1 else 0
theorem ug (x y : Int) : Ev (fun k => cmp_Compare_int k x y) (yV x y) := by
 unfold yV
 by_cases c : x < y
 ·exact Ev.eq (fun k => iK k x y) (Ev.bind (rR x) (Ev.bind (rR y) (Ev.neg (by simp) (Ev.neg (by simp) (Ev.pos c (Ev.ret.val (by rw [if_pos c])))))))
 ·by_cases c2 : y < x
  ·exact Ev.eq (fun k => iK k x y) (Ev.bind (rR x) (Ev.bind (rR y) (Ev.neg (by simp) (Ev.neg (by simp) (Ev.neg c (Ev.pos c2 (Ev.ret.val (by rw [if_neg c, if_pos c2]))))))))
  ·exact Ev.eq (fun k => iK k x y) (Ev.bind (rR x) (Ev.bind (rR y) (Ev.neg (by simp) (Ev.neg (by simp) (Ev.neg c (Ev.neg c2 (Ev.ret.val (by rw [if_neg c, if_neg c2]))))))))
theorem yj {f : Nat -> Option Bool} {p : Prop} [d : Decidable p] (h : ∃ r, Ev f r /\ (r = true ↔ p)) : Ev f (decide p) := by
 obtain ⟨r, e, hr⟩ := h
 exact e.val (by rw [Bool.eq_iff_iff, hr]; simp)
theorem vk {F : Int -> Nat -> Nat -> Option Bool} {n : Nat} (Q : Nat -> Prop) (c : Bool) (hend : E2 (F (n : Int)) c)
  (hgo : ∀ i, i < n -> Q i -> ∀ v, E2 (F ((i + 1 : Nat) : Int)) v -> E2 (F (i : Int)) v) (hstop : ∀ i, i < n -> ¬ Q i -> E2 (F (i : Int)) false) :
  ∃ r, E2 (F 0) r /\ (r = true ↔ (∀ i, i < n -> Q i) /\ c = true) := by
 have key : ∀ d i, i + d = n -> ∃ r, E2 (F (i : Int)) r /\ (r = true ↔ (∀ j, i <= j -> j < n -> Q j) /\ c = true) := by
  intro d
  induction d with
  | zero =>
   intro i hi
   have hi : i = n := by omega
   subst hi
   exact ⟨c, hend, ⟨fun h => ⟨fun j _ _ => by omega, h⟩, fun h => h.2⟩⟩
  | succ d ih =>
   intro i hi
   obtain ⟨r, er, hr⟩ := ih (i + 1) (by omega)
   by_cases hq : Q i
   ·refine ⟨r, hgo i (by omega) hq r er, hr.trans ⟨fun h => ⟨fun j h1 h2 => ?_, h.2⟩, fun h => ⟨fun j h1 h2 => h.1 j (by omega) h2, h.2⟩⟩⟩
    by_cases hj : j = i
    ·subst hj; exact hq
    ·exact h.1 j (by omega) h2
   ·exact ⟨false, hstop i (by omega) hq, by simp only [Bool.false_eq_true, false_iff]; exact fun h => hq (h.1 i (Nat.le_refl _) (by omega))⟩
 obtain ⟨r, er, hr⟩ := key n 0 (by omega)
 exact ⟨r, er, hr.trans ⟨fun h => ⟨fun i hi => h.1 i (Nat.zero_le _) hi, h.2⟩, fun h => ⟨fun i _ hi => h.1 i hi, h.2⟩⟩⟩
theorem jL {i : Nat} (h : 0 < i) (h2 : i < 9223372036854775807) : IntKind.wrap .i64 ((i : Int) - 1) = ((i - 1 : Nat) : Int) := by
 rw [lS (by omega) (by omega)]; omega
def Wp (e : aF) : Prop := (0 <= (e.1 : Int) /\ (e.1 : Int) <= 2000) /\ (1 <= (e.2.1 : Int) /\ (e.2.1 : Int) <= 96) /\ (21 <= (e.2.2.1 : Int) /\ (e.2.2.1 : Int) <= 108) /\ 1 <= (e.2.2.2.1 : Int) /\ (e.2.2.2.1 : Int) <= 4
instance (e : aF) : Decidable (Wp e) := by unfold Wp; infer_instance
def zR (a b : aF) : Prop := (a.1 : Int) < b.1 \/ (a.1 : Int) = b.1 /\ ((a.2.2.2.1 : Int) < b.2.2.2.1 \/ (a.2.2.2.1 : Int) = b.2.2.2.1 /\ (a.2.2.1 : Int) < b.2.2.1)
instance (a b : aF) : Decidable (zR a b) := by unfold zR; infer_instance
def Mj (x y : Int) : Int := if x ≠ 0 then x else y
theorem Rc (x y z : Int) : Ev (fun k => bX k [x, y, z]) (Mj x (Mj y z)) := by
 refine Ev.eq (fun k => sK k _) (Ev.loop (f := fun k m => bX.l0 k m 0 [x, y, z] ((List.length [x, y, z] : Nat) : Int) 0) ?_)
 have w0 : IntKind.wrap .i64 ((0 : Int) + 1) = 1 := lS (by omega) (by omega)
 have w1 : IntKind.wrap .i64 ((1 : Int) + 1) = 2 := lS (by omega) (by omega)
 have w2 : IntKind.wrap .i64 ((2 : Int) + 1) = 3 := lS (by omega) (by omega)
 have r0 : rd (.int .i64) [x, y, z] 0 = x := rfl
 have r1 : rd (.int .i64) [x, y, z] 1 = y := rfl
 have r2 : rd (.int .i64) [x, y, z] 2 = z := rfl
 have hl : ((List.length [x, y, z] : Nat) : Int) = 3 := rfl
 unfold Mj
 refine E2.eq (fun k m => bX.aA k m 0 [x, y, z] _ 0) (E2.pos (by rw [hl]; omega) (E2.pos (by omega) (E2.pos (by rw [hl]; omega) ?_)))
 simp only [r0, w0]
 by_cases c0 : x = 0
 ·refine E2.neg (fun h => h c0) ?_
  rw [if_neg (show ¬ x ≠ 0 by omega)]
  refine E2.eq (fun k m => bX.aA k m 0 [x, y, z] _ 1) (E2.pos (by rw [hl]; omega) (E2.pos (by omega) (E2.pos (by rw [hl]; omega) ?_)))
  simp only [r1, w1]
  by_cases c1 : y = 0
  ·refine E2.neg (fun h => h c1) ?_
   rw [if_neg (show ¬ y ≠ 0 by omega)]
   refine E2.eq (fun k m => bX.aA k m 0 [x, y, z] _ 2) (E2.pos (by rw [hl]; omega) (E2.pos (by omega) (E2.pos (by rw [hl]; omega) ?_)))
   simp only [r2, w2]
   by_cases c2 : z = 0
   ·exact E2.neg (fun h => h c2) (E2.eq (fun k m => bX.aA k m 0 [x, y, z] _ 3) (E2.neg (by rw [hl]; omega) (E2.ret.val c2.symm)))
   ·exact E2.pos c2 E2.ret
  ·rw [if_pos c1]; exact E2.pos c1 E2.ret
 ·rw [if_pos c0]; exact E2.pos c0 E2.ret
def Qd (a b : aF) : Int := Mj (yV a.1 b.1) (Mj (yV a.2.2.2.1 b.2.2.2.1) (yV a.2.2.1 b.2.2.1))
theorem xL (a b : aF) : Ev (fun k => iW k a b) (Qd a b) :=
 Ev.eq (fun k => pR k a b) (Ev.bind (ug _ _) (Ev.bind (ug _ _) (Ev.bind (ug _ _) (Ev.bind (Rc _ _ _) Ev.ret))))
theorem Ay (a b : aF) : Qd a b < 0 ↔ zR a b := by
 unfold Qd Mj yV zR
 repeat' split
 all_goals omega
def QS (l : List aF) (i : Nat) : Prop := Wp (rd bR l (i : Int)) /\ (0 < i -> zR (rd bR l ((i - 1 : Nat) : Int)) (rd bR l (i : Int)))
instance (l : List aF) (i : Nat) : Decidable (QS l i) := by unfold QS; infer_instance
def gD (l : List aF) : Prop := (∀ i, i < l.length -> QS l i) /\ decide (((l.length : Nat) : Int) <= 40) = true
instance (l : List aF) : Decidable (gD l) := by unfold gD; infer_instance
theorem sM (l : List aF) (hl : l.length <= 33554432) : Ev (fun k => aP k l) (decide (gD l)) := by
 refine yj ?_
 obtain ⟨r, er, hr⟩ := vk (F := fun i k m => aP.l0 k m l l ((List.length l : Nat) : Int) i) (n := l.length) (QS l) (decide (((l.length : Nat) : Int) <= 40)) (E2.eq (fun k m => aP.aA k m l l _ _) (E2.neg (by omega) E2.ret)) (fun i hi hq v e => by
  obtain ⟨⟨h1, h2, h3, h4⟩, h5⟩ := hq
  refine E2.eq (fun k m => aP.aA k m l l _ _) (E2.pos (by omega) (E2.pos (by omega) (E2.pos (by omega) (E2.bind (aI _ _ _) (E2.neg (by simpa using h1) (E2.bind (aI _ _ _) (E2.neg (by simpa using h2) (E2.bind (aI _ _ _) (E2.neg (by simpa using h3) (E2.bind (aI _ _ _) (E2.neg (by simpa using h4) ?_)))))))))))
  by_cases c : 0 < i
  ·refine E2.pos (by omega) ?_
   simp only [jL c (show i < 9223372036854775807 by omega), cZ (show i < 9223372036854775807 by omega)]
   have := (Ay _ _).2 (h5 c)
   exact E2.pos (by omega) (E2.pos (by omega) (E2.bind (xL _ _) (E2.neg (by omega) e)))
  ·refine E2.neg (by omega) ?_
   simp only [cZ (show i < 9223372036854775807 by omega)]
   exact e) (fun i hi hq => by
  refine E2.eq (fun k m => aP.aA k m l l _ _) (E2.pos (by omega) (E2.pos (by omega) (E2.pos (by omega) (E2.bind (aI _ _ _) ?_))))
  by_cases h1 : 0 <= ((rd bR l (i : Int)).1 : Int) /\ ((rd bR l (i : Int)).1 : Int) <= 2000
  ·refine E2.neg (by simpa using h1) (E2.bind (aI _ _ _) ?_)
   by_cases h2 : 1 <= ((rd bR l (i : Int)).2.1 : Int) /\ ((rd bR l (i : Int)).2.1 : Int) <= 96
   ·refine E2.neg (by simpa using h2) (E2.bind (aI _ _ _) ?_)
    by_cases h3 : 21 <= ((rd bR l (i : Int)).2.2.1 : Int) /\ ((rd bR l (i : Int)).2.2.1 : Int) <= 108
    ·refine E2.neg (by simpa using h3) (E2.bind (aI _ _ _) ?_)
     by_cases h4 : 1 <= ((rd bR l (i : Int)).2.2.2.1 : Int) /\ ((rd bR l (i : Int)).2.2.2.1 : Int) <= 4
     ·refine E2.neg (by simpa using h4) ?_
      have c : 0 < i := by
       rcases Nat.eq_zero_or_pos i with h | h
       ·exact absurd ⟨⟨h1, h2, h3, h4⟩, fun h' => by omega⟩ hq
       ·exact h
      have c1 : ¬ zR (rd bR l ((i - 1 : Nat) : Int)) (rd bR l (i : Int)) := fun h => hq ⟨⟨h1, h2, h3, h4⟩, fun _ => h⟩
      refine E2.pos (by omega) ?_
      simp only [jL c (show i < 9223372036854775807 by omega)]
      have := mt (Ay _ _).1 c1
      exact E2.pos (by omega) (E2.pos (by omega) (E2.bind (xL _ _) (E2.pos (by omega) E2.ret)))
     ·exact E2.pos (by simpa using h4) E2.ret
    ·exact E2.pos (by simpa using h3) E2.ret
   ·exact E2.pos (by simpa using h2) E2.ret
  ·exact E2.pos (by simpa using h1) E2.ret)
 exact ⟨r, Ev.eq (fun k => tZ k l) (Ev.loop (f := fun k m => aP.l0 k m l l ((List.length l : Nat) : Int) 0) er), hr⟩
theorem dN (l : List aF) (hl : l.length <= 1048576) : Ev (fun k => aP k l) (decide (gD l)) := sM l (by omega)
theorem IJ (l : List Int) (x : Int) (hl : l.length <= 1048576) : Ev (fun k => aC k l x) (wS (fun i => decide (Eq (α := Int) x (rd (.int .i64) l (i : Int)))) l.length) := by
 have er := tJ (R := fun i v => E2 (fun k m => aC.l0 k m l x ((List.length l : Nat) : Int) i) v) (n := l.length) (fun i => decide (Eq (α := Int) x (rd (.int .i64) l (i : Int)))) (E2.eq (fun k m => aC.aA k m l x _ _) (E2.neg (by omega) E2.ret)) (fun i hi hq v e => by
  refine E2.eq (fun k m => aC.aA k m l x _ _) (E2.pos (by omega) (E2.pos (by omega) (E2.pos (by omega) (E2.neg (by simpa using hq) ?_))))
  simp only [cZ (show i < 9223372036854775807 by omega)]; exact e) (fun i hi hq => E2.eq (fun k m => aC.aA k m l x _ _) (E2.pos (by omega) (E2.pos (by omega) (E2.pos (by omega) (E2.pos (by simpa using hq) E2.ret)))))
 exact Ev.eq (fun k => jf k l x) (Ev.loop (f := fun k m => aC.l0 k m l x ((List.length l : Nat) : Int) 0) er)
theorem jw (l : List Int) (x : Int) (hl : l.length <= 1048576) : Ev (fun k => dw k l x) (decide (x ∈ l)) := by
 refine Ev.eq (fun k => jE k l x) (Ev.bind (IJ l x hl) (Ev.ret.val ?_))
 rw [Bool.eq_iff_iff, decide_eq_true_eq, decide_eq_true_eq, wT]
 constructor
 ·rintro ⟨i, hi, h⟩
  have h : x = rd (.int .i64) l (i : Int) := by simpa using h
  rw [h, fT hi]; exact List.getElem_mem hi
 ·intro h
  obtain ⟨i, hi, h⟩ := List.mem_iff_getElem.1 h
  exact ⟨i, hi, by rw [decide_eq_true_eq, fT hi]; exact h.symm⟩
def gZ (v : Int) (e : aF) : Bool := decide ((e.2.2.2.1 : Int) = v)
theorem yt (e : aF) (v : Int) : Ev (fun k => iV k e v) (! gZ v e) := by
 refine Ev.eq (fun k => qF k e v) (Ev.ret.val ?_)
 unfold gZ
 simp
theorem El (l : List aF) (v : Int) (hl : l.length <= 1048576) : Ev (fun k => aj k l v) (l.filter (gZ v)) := by
 have ei : Ev (fun k => au k l v) (wS (fun i => ! gZ v (rd bR l (i : Int))) l.length) := by
  have er := tJ (R := fun i r => E2 (fun k m => au.l0 k m l v ((List.length l : Nat) : Int) i) r) (n := l.length) (fun i => ! gZ v (rd bR l (i : Int))) (E2.eq (fun k m => au.aA k m l v _ _) (E2.neg (by omega) E2.ret)) (fun i hi hq r e => by
   refine E2.eq (fun k m => au.aA k m l v _ _) (E2.pos (by omega) (E2.pos (by omega) (E2.pos (by omega) (E2.bind (yt _ _) (E2.neg (by rw [hq]; simp) ?_)))))
   simp only [cZ (show i < 9223372036854775807 by omega)]; exact e) (fun i hi hq => E2.eq (fun k m => au.aA k m l v _ _) (E2.pos (by omega) (E2.pos (by omega) (E2.pos (by omega) (E2.bind (yt _ _) (E2.pos hq E2.ret))))))
  exact Ev.eq (fun k => iL k l v) (Ev.loop (f := fun k m => au.l0 k m l v ((List.length l : Nat) : Int) 0) er)
 refine Ev.eq (fun k => iB k l v) (Ev.bind ei ?_)
 rcases tH (fun i => ! gZ v (rd bR l (i : Int))) l.length with ⟨h, hall⟩ | ⟨r, h, hr, h1, h0⟩
 ·refine Ev.pos h (Ev.ret.val ?_)
  symm
  rw [List.filter_eq_self]
  intro x hx
  obtain ⟨i, hi, rfl⟩ := List.mem_iff_getElem.1 hx
  have := hall i hi
  rw [fT hi] at this
  simpa using this
 ·rw [h]
  refine Ev.neg (by omega) ?_
  rw [cZ (by omega)]
  refine Ev.loop (f := fun k m => aj.l0 k m v (r : Int) ((r + 1 : Nat) : Int) l) ?_
  refine CV (t := bR) (l := l) (R := fun i j s w => E2 (fun k m => aj.l0 k m v i j s) w) (gZ v) (fun i s hi hs => ?_) (fun i j s hij hj hs hq w e => ?_) (fun i j s hij hj hs hq w e => ?_) r hr (fun j hj => by simpa using h0 j hj) (by simpa using h1)
  ·refine E2.eq (fun k m => aj.aA k m v _ _ s) (E2.neg (by omega) (E2.pos (by omega) (E2.pos (by omega) (E2.pos (by omega) (E2.pos ?_ (E2.ret.val ?_))))))
   ·simp only [List.length_append, List.length_take, List.length_replicate, List.length_drop, Int.toNat_natCast]
    omega
   ·simp only [Int.toNat_natCast, show Int.toNat 0 = 0 from rfl, Nat.sub_zero, List.drop_zero]
    rw [List.append_assoc, List.take_append_of_le_length (by simp; omega), List.take_take, Nat.min_self]
  ·refine E2.eq (fun k m => aj.aA k m v _ _ s) (E2.pos (by omega) (E2.pos (by omega) (E2.pos (by omega) (E2.bind (yt _ _) (E2.pos (by rw [hq]; simp) (E2.pos (by omega) (E2.pos (by omega) ?_)))))))
   simp only [cZ (show i < 9223372036854775807 by omega), cZ (show j < 9223372036854775807 by omega), Int.toNat_natCast]; exact e
  ·refine E2.eq (fun k m => aj.aA k m v _ _ s) (E2.pos (by omega) (E2.pos (by omega) (E2.pos (by omega) (E2.bind (yt _ _) (E2.neg (by rw [hq]; simp) ?_)))))
   simp only [cZ (show j < 9223372036854775807 by omega)]; exact e
theorem jC (l : List aF) (hl : l.length <= 1048576) : Ev (fun k => bJ k l) l :=
 Ev.eq (fun k => kU k l) (Ev.pos (by simp only [List.length_nil]; omega) (Ev.ret.val (by simp)))
theorem yu (l : List aF) (v : Int) (hl : l.length <= 1048576) : Ev (fun k => lX k l v) (l.filter (gZ v)) :=
 Ev.eq (fun k => uf k l v) (Ev.bind (jC l hl) (Ev.bind (El l v hl) Ev.ret))
def QF (lo hi : Int) (l : List aF) (i : Nat) : Prop := LE.le (α := Int) lo (rd bR l (i : Int)).2.2.1 /\ LE.le (α := Int) (rd bR l (i : Int)).2.2.1 hi
def KW (l : List aF) (lo hi : Int) : Prop := (∀ i, i < l.length -> QF lo hi l i) /\ decide (gD l) = true
theorem zS (l : List aF) (lo hi : Int) (hl : l.length <= 1048576) : ∃ r, Ev (fun k => bC k l lo hi) r /\ (r = true ↔ KW l lo hi) := by
 obtain ⟨r, er, hr⟩ := gF (R := fun i v => E2 (fun k m => bC.l0 k m l lo hi l ((List.length l : Nat) : Int) i) v) (n := l.length) (QF lo hi l) (decide (gD l)) (E2.eq (fun k m => bC.aA k m l lo hi l _ _) (E2.neg (by omega) (E2.bind (dN l hl) (E2.ret.val (by simp))))) (fun i hi' hq v e => by
  refine E2.eq (fun k m => bC.aA k m l lo hi l _ _) (E2.pos (by omega) (E2.pos (by omega) (E2.pos (by omega) (E2.bind (aI _ _ _) (E2.neg (by simpa [QF] using hq) ?_)))))
  simp only [cZ (show i < 9223372036854775807 by omega)]; exact e) (fun i hi' hq => E2.eq (fun k m => bC.aA k m l lo hi l _ _) (E2.pos (by omega) (E2.pos (by omega) (E2.pos (by omega) (E2.bind (aI _ _ _) (E2.pos (by simp only [decide_eq_true_eq]; exact hq) E2.ret))))))
 exact ⟨r, Ev.eq (fun k => qE k l lo hi) (Ev.loop (f := fun k m => bC.l0 k m l lo hi l ((List.length l : Nat) : Int) 0) er), hr⟩
def Mk (p : bn) (l : List aF) (v : Int) : Prop := (v : Int) ∈ p.2.2.2.1 /\ gD l /\ KW (l.filter (gZ v)) p.2.1 p.2.2.1
theorem filter_le (l : List aF) (v : Int) (hl : l.length <= 1048576) : (l.filter (gZ v)).length <= 1048576 := Nat.le_trans (List.length_filter_le _ _) hl
theorem yw (p : bn) (l : List aF) (v : Int) (hp : p.2.2.2.1.length <= 1048576) (hl : l.length <= 1048576) : ∃ r, Ev (fun k => jR k p l v) r /\ (r = true ↔ Mk p l v) := by
 unfold Mk
 by_cases c1 : (v : Int) ∈ p.2.2.2.1
 ·by_cases c2 : gD l
  ·obtain ⟨r, er, hr⟩ := zS (l.filter (gZ v)) p.2.1 p.2.2.1 (filter_le l v hl)
   exact ⟨r, Ev.eq (fun k => jF k p l v) (Ev.bind (jw _ _ hp) (Ev.pos (by simpa using c1) (Ev.bind (dN l hl) (Ev.pos (by simpa using c2) (Ev.bind (yu l v hl) (Ev.bind er (Ev.ret.val (by simp)))))))), by rw [hr]; exact ⟨fun h => ⟨c1, c2, h⟩, fun h => h.2.2⟩⟩
  ·exact ⟨false, Ev.eq (fun k => jF k p l v) (Ev.bind (jw _ _ hp) (Ev.pos (by simpa using c1) (Ev.bind (dN l hl) (Ev.neg (by simpa using c2) Ev.ret)))), by simp only [Bool.false_eq_true, false_iff]; exact fun h => c2 h.2.1⟩
 ·exact ⟨false, Ev.eq (fun k => jF k p l v) (Ev.bind (jw _ _ hp) (Ev.neg (by simpa using c1) Ev.ret)), by simp only [Bool.false_eq_true, false_iff]; exact fun h => c1 h.1⟩
def QA (lo hi : Int) (l : List Int) (i : Nat) : Prop := (LE.le (α := Int) lo (rd (.int .i64) l (i : Int)) /\ LE.le (α := Int) (rd (.int .i64) l (i : Int)) hi) /\ (0 < i -> LT.lt (α := Int) (rd (.int .i64) l ((i - 1 : Nat) : Int)) (rd (.int .i64) l (i : Int)))
def Ml (l : List Int) (lo hi : Int) : Prop := ∀ i, i < l.length -> QA lo hi l i
theorem Xe {lo hi : Int} {l : List Int} {i : Nat} (h : ¬ QA lo hi l i) (h1 : LE.le (α := Int) lo (rd (.int .i64) l (i : Int)) /\ LE.le (α := Int) (rd (.int .i64) l (i : Int)) hi) : 0 < i /\ ¬ LT.lt (α := Int) (rd (.int .i64) l ((i - 1 : Nat) : Int)) (rd (.int .i64) l (i : Int)) := by
 refine ⟨?_, fun c => h ⟨h1, fun _ => c⟩⟩
 rcases Nat.eq_zero_or_pos i with hi | hi
 ·exact absurd ⟨h1, fun h' => by omega⟩ h
 ·exact hi
theorem BX (l : List Int) (lo hi : Int) (hl : l.length <= 1048576) : ∃ r, Ev (fun k => aW k l lo hi) r /\ (r = true ↔ Ml l lo hi) := by
 obtain ⟨r, er, hr⟩ := gF (R := fun i v => E2 (fun k m => aW.l0 k m l lo hi l ((List.length l : Nat) : Int) i) v) (n := l.length) (QA lo hi l) true (E2.eq (fun k m => aW.aA k m l lo hi l _ _) (E2.neg (by omega) E2.ret)) (fun i hi' hq v e => by
  obtain ⟨h1, h2⟩ := hq
  refine E2.eq (fun k m => aW.aA k m l lo hi l _ _) (E2.pos (by omega) (E2.pos (by omega) (E2.pos (by omega) (E2.bind (aI _ _ _) (E2.neg (by simpa using h1) ?_)))))
  simp only [cZ (show i < 9223372036854775807 by omega)]
  by_cases c : 0 < i
  ·refine E2.pos (by omega) ?_
   simp only [jL c (show i < 9223372036854775807 by omega)]
   have := h2 c
   exact E2.pos (by omega) (E2.pos (by omega) (E2.neg (by omega) e))
  ·exact E2.neg (by omega) e) (fun i hi' hq => by
  refine E2.eq (fun k m => aW.aA k m l lo hi l _ _) (E2.pos (by omega) (E2.pos (by omega) (E2.pos (by omega) (E2.bind (aI _ _ _) ?_))))
  by_cases h1 : LE.le (α := Int) lo (rd (.int .i64) l (i : Int)) /\ LE.le (α := Int) (rd (.int .i64) l (i : Int)) hi
  ·obtain ⟨c, c1⟩ := Xe hq h1
   refine E2.neg (by simpa using h1) (E2.pos (by omega) ?_)
   simp only [jL c (show i < 9223372036854775807 by omega)]
   exact E2.pos (by omega) (E2.pos (by omega) (E2.pos (by omega) E2.ret))
  ·exact E2.pos (by simp only [decide_eq_true_eq]; exact h1) E2.ret)
 exact ⟨r, Ev.eq (fun k => qD k l lo hi) (Ev.loop (f := fun k m => aW.l0 k m l lo hi l ((List.length l : Nat) : Int) 0) er), hr.trans ⟨fun h => h.1, fun h => ⟨h, rfl⟩⟩⟩
def ZQ (p : bn) : Prop := (21 <= (p.2.1 : Int) /\ (p.2.1 : Int) <= p.2.2.1) /\ (p.2.2.1 : Int) <= 108 /\ Ml p.2.2.2.1 1 4
def QP (l : List bn) (i : Nat) : Prop := ZQ (rd bV l (i : Int)) /\ (1 <= ((rd bV l (i : Int)).1 : Int) /\ ((rd bV l (i : Int)).1 : Int) <= 99) /\ (0 < i -> LT.lt (α := Int) (rd bV l ((i - 1 : Nat) : Int)).1 (rd bV l (i : Int)).1)
def iC (l : List bn) : Prop := (∀ i, i < l.length -> QP l i) /\ decide (((l.length : Nat) : Int) <= 8) = true
def Vu (l : List bn) : Prop := l.length <= 1048576 /\ ∀ i : Nat, i < l.length -> (rd bV l (i : Int)).2.2.2.1.length <= 1048576
def jG (l : List bn) : List Int := l.map fun p => p.1
theorem jZ {l : List bn} {i : Nat} (h : i < l.length) : Eq (α := Int) (rd (.int .i64) (jG l) (i : Int)) (rd bV l (i : Int)).1 := by
 unfold jG
 rw [fT (by simpa using h), fT h]
 simp
theorem vL (l : List bn) (hs : Vu l) : ∃ r, Ev (fun k => aQ k l) r /\ (r = true ↔ iC l) := by
 have hl := hs.1
 obtain ⟨a, ea, ha⟩ := BX (jG l) 1 99 (by unfold jG; simpa using hl)
 obtain ⟨r, er, hr⟩ := gF (R := fun i v => E2 (fun k m => aQ.l0 k m l l ((List.length l : Nat) : Int) i (jG (l.take i.toNat))) v) (n := l.length) (fun i => ZQ (rd bV l (i : Int))) (decide (((l.length : Nat) : Int) <= 8 /\ a = true)) (by
  refine E2.eq (fun k m => aQ.aA k m l l _ _ _) (E2.neg (by omega) ?_)
  rw [Int.toNat_natCast, List.take_length]
  by_cases c : ((l.length : Nat) : Int) <= 8
  ·exact E2.pos c (E2.bind ea (E2.ret.val (by simp [c])))
  ·exact E2.neg c (E2.ret.val (by simp [c]))) (fun i hi hq v e => by
  obtain ⟨h1, h2, h3⟩ := hq
  obtain ⟨b, eb, hb⟩ := BX (rd bV l (i : Int)).2.2.2.1 1 4 (hs.2 i hi)
  have hlen : (jG (l.take ((i : Int)).toNat)).length = i := by unfold jG; simp; omega
  refine E2.eq (fun k m => aQ.aA k m l l _ _ _) (E2.pos (by omega) (E2.pos (by omega) (E2.pos (by omega) (E2.bind (aI _ _ _) (E2.neg (by simpa using h1) (E2.neg (Int.not_lt.2 h2) (E2.bind eb (E2.neg (by simpa using hb.2 h3) (E2.pos (by rw [hlen]; simp only [List.length_cons, List.length_nil]; omega) ?_)))))))))
  simp only [cZ (show i < 9223372036854775807 by omega)]
  have he : jG (l.take ((i : Int)).toNat) ++ [(rd bV l (i : Int)).1] = jG (l.take (((i + 1 : Nat) : Int)).toNat) := by
   unfold jG
   rw [Int.toNat_natCast, Int.toNat_natCast, List.take_succ_eq_append_getElem hi, fT hi, List.map_append]
   rfl
  rw [he]
  exact e) (fun i hi hq => by
  obtain ⟨b, eb, hb⟩ := BX (rd bV l (i : Int)).2.2.2.1 1 4 (hs.2 i hi)
  refine E2.eq (fun k m => aQ.aA k m l l _ _ _) (E2.pos (by omega) (E2.pos (by omega) (E2.pos (by omega) (E2.bind (aI _ _ _) ?_))))
  by_cases h1 : LE.le (α := Int) 21 (rd bV l (i : Int)).2.1 /\ LE.le (α := Int) (rd bV l (i : Int)).2.1 (rd bV l (i : Int)).2.2.1
  ·refine E2.neg (by simpa using h1) ?_
   by_cases h2 : LE.le (α := Int) (rd bV l (i : Int)).2.2.1 108
   ·exact E2.neg (by omega) (E2.bind eb (E2.pos (fun c => hq ⟨h1, h2, hb.1 c⟩) E2.ret))
   ·exact E2.pos (by omega) E2.ret
  ·exact E2.pos (by simp only [decide_eq_true_eq]; exact h1) E2.ret)
 have er' : E2 (fun k m => aQ.l0 k m l l ((List.length l : Nat) : Int) 0 []) r := er
 refine ⟨r, Ev.eq (fun k => pQ k l) (Ev.loop (f := fun k m => aQ.l0 k m l l ((List.length l : Nat) : Int) 0 []) er'), hr.trans ?_⟩
 unfold iC
 rw [decide_eq_true_eq, decide_eq_true_eq, ha]
 unfold Ml
 have hlen : (jG l).length = l.length := by unfold jG; simp
 rw [hlen]
 constructor
 ·rintro ⟨h1, h2, h3⟩
  refine ⟨fun i hi => ?_, h2⟩
  obtain ⟨k1, k2⟩ := h3 i hi
  rw [jZ hi] at k1
  refine ⟨h1 i hi, k1, fun c => ?_⟩
  have := k2 c
  rw [jZ hi, jZ (show i - 1 < l.length by omega)] at this
  exact this
 ·rintro ⟨h1, h2⟩
  refine ⟨fun i hi => (h1 i hi).1, h2, fun i hi => ?_⟩
  obtain ⟨k1, k2, k3⟩ := h1 i hi
  refine ⟨by rw [jZ hi]; exact k2, fun c => ?_⟩
  rw [jZ hi, jZ (show i - 1 < l.length by omega)]
  exact k3 c
theorem Ev.uniq {α : Type} {f : Nat -> Option α} {a b : α} (h : Ev f a) (k : Ev f b) : a = b := by
 obtain ⟨K, h⟩ := h
 obtain ⟨M, k⟩ := k
 have h1 := h (max K M) (by omega)
 rw [k (max K M) (by omega)] at h1
 exact (Option.some.inj h1).symm
noncomputable def evB (f : Nat -> Option Bool) : Bool := @decide (Ev f true) (Classical.propDecidable _)
theorem Qe {f : Nat -> Option Bool} {r : Bool} (h : Ev f r) : evB f = r := by
 unfold evB
 cases r with
 | true => exact @decide_eq_true _ (Classical.propDecidable _) h
 | false =>
  refine @decide_eq_false _ (Classical.propDecidable _) fun h2 => ?_
  obtain ⟨K, hK⟩ := h
  obtain ⟨M, hM⟩ := h2
  have e1 := hK (max K M) (by omega)
  have e2 := hM (max K M) (by omega)
  rw [e1] at e2
  cases e2
noncomputable def OO (l : List bn) : Bool := evB fun k => aQ k l
noncomputable def OP (sc : List aF) : Bool := evB fun k => aP k sc
noncomputable def AJ (p : bn) (sc : List aF) (v : Int) : Bool := evB fun k => jR k p sc v
theorem aa0 (l : List bn) (h : Vu l) : (∃ k, aQ k l = some (OO l)) /\ (OO l = true ↔ iC l) := by
 obtain ⟨r, e, hr⟩ := vL l h
 unfold OO
 rw [Qe e]
 exact ⟨Ev.at e, hr⟩
theorem aa1 (sc : List aF) (h : sc.length <= 1048576) : (∃ k, aP k sc = some (OP sc)) /\ (OP sc = true ↔ gD sc) := by
 have e := dN sc h
 unfold OP
 rw [Qe e]
 exact ⟨Ev.at e, by rw [decide_eq_true_eq]⟩
theorem Zo (p : bn) (sc : List aF) (v : Int) (hp : p.2.2.2.1.length <= 1048576) (h : sc.length <= 1048576) : (∃ k, jR k p sc v = some (AJ p sc v)) /\ (AJ p sc v = true ↔ Mk p sc v) := by
 obtain ⟨r, e, hr⟩ := yw p sc v hp h
 unfold AJ
 rw [Qe e]
 exact ⟨Ev.at e, hr⟩
theorem aa2 (v : Int) : ∃ k, aY k v 1 4 = some (decide (1 <= v /\ v <= 4)) := Ev.at (aI v 1 4)
theorem Zp (t : List Int) (x : Int) (h : t.length <= 1048576) : ∃ k, dw k t x = some (decide (x ∈ t)) := Ev.at (jw t x h)
end Go.fZ
