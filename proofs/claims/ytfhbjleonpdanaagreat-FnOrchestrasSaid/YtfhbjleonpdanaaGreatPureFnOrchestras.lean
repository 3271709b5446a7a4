/- The plain half of FnOrchestras. No condition. -/
import Derived.Test.YtfhbjleonpdanaaGreatQFnOrchestras
import Derived.Test.YtfhbjleonpdanaaGreatPur
set_option linter.unusedVariables false
set_option linter.unusedSimpArgs false
open Go Go.Flat
namespace Go.QFnOrchestras
theorem l1In_ev (x lo hi : Int) : Ev (fun k => spec_l1In k x lo hi) (decide (lo ≤ x ∧ x ≤ hi)) := by
  by_cases c : lo ≤ x
  · exact Ev.eq (fun k => spec_l1In_eq k x lo hi) (Ev.pos c (Ev.ret.val (by simp [c])))
  · exact Ev.eq (fun k => spec_l1In_eq k x lo hi) (Ev.neg c (Ev.ret.val (by simp [c])))
theorem inRange_ev (x lo hi : Int) : Ev (fun k => impl_InRange k x lo hi) (decide (lo ≤ x ∧ x ≤ hi)) := by
  by_cases c : lo ≤ x
  · exact Ev.eq (fun k => impl_InRange_eq k x lo hi) (Ev.pos c (Ev.ret.val (by simp [c])))
  · exact Ev.eq (fun k => impl_InRange_eq k x lo hi) (Ev.neg c (Ev.ret.val (by simp [c])))
def gcdI (a b : Int) : Int := (Nat.gcd a.toNat b.toNat : Int)
theorem gcd_E2 {F : Int → Int → Nat → Nat → Option Int} (h0 : ∀ a, E2 (F a 0) a) (h1 : ∀ a b, b ≠ 0 → ∀ v, E2 (F b (Int.tmod a b)) v → E2 (F a b) v) : ∀ (n : Nat) (a b : Int), 0 ≤ a → 0 ≤ b → b.toNat ≤ n → E2 (F a b) (gcdI a b) := by
  intro n
  induction n with
  | zero =>
    intro a b ha hb hn
    have : b = 0 := by omega
    subst this
    refine (h0 a).val ?_
    unfold gcdI
    simp
    omega
  | succ n ih =>
    intro a b ha hb hn
    by_cases c : b = 0
    · subst c
      refine (h0 a).val ?_
      unfold gcdI
      simp
      omega
    · have hm : Int.tmod a b = ((a.toNat % b.toNat : Nat) : Int) := by
        obtain ⟨x, rfl⟩ := Int.eq_ofNat_of_zero_le ha
        obtain ⟨y, rfl⟩ := Int.eq_ofNat_of_zero_le hb
        rfl
      have hlt : a.toNat % b.toNat < b.toNat := Nat.mod_lt _ (by omega)
      refine (h1 a b c _ (ih b (Int.tmod a b) hb (by rw [hm]; omega) (by rw [hm]; omega))).val ?_
      unfold gcdI
      rw [hm, Int.toNat_natCast]
      congr 1
      rw [Nat.gcd_comm a.toNat b.toNat, Nat.gcd_rec b.toNat a.toNat, Nat.gcd_comm]
theorem implGcd_ev (a b : Int) (ha : 0 ≤ a) (hb : 0 ≤ b) : Ev (fun k => impl_divisor k a b) (gcdI a b) :=
  Ev.eq (fun k => impl_divisor_eq k a b) (Ev.loop (f := fun k m => impl_divisor.l0 k m a b) (gcd_E2 (F := fun a b k m => impl_divisor.l0 k m a b) (fun a => E2.eq (fun k m => impl_divisor.l0_eq k m a 0) (E2.neg (by simp) E2.ret)) (fun a b hb v e => E2.eq (fun k m => impl_divisor.l0_eq k m a b) (E2.pos hb (E2.neg hb e))) _ a b ha hb (Nat.le_refl _)))
def absI (n : Int) : Int := (n.natAbs : Int)
theorem implAbs (n : Int) (h1 : -4611686018427387904 ≤ n) (h2 : n ≤ 4611686018427387904) : (max n (IntKind.wrap .i64 (-n)) : Int) = absI n := by
  unfold absI
  rw [wrapI (by omega) (by omega)]
  omega
def isR (n d : Int) : Bool := decide ((1 ≤ d ∧ d ≤ 1000000) ∧ (-1000000000 ≤ n ∧ n ≤ 1000000000) ∧ gcdI (absI n) d = 1)
theorem implIsRatio_ev (r : DT25) : Ev (fun k => impl_IsRatio k r) (isR r.1 r.2.1) := by
  by_cases c1 : 1 ≤ r.2.1 ∧ r.2.1 ≤ 1000000
  · by_cases c2 : -1000000000 ≤ r.1 ∧ r.1 ≤ 1000000000
    · refine Ev.eq (fun k => impl_IsRatio_eq k r) (Ev.bind (inRange_ev _ _ _) (Ev.pos (by simp [c1]) (Ev.bind (inRange_ev _ _ _) (Ev.pos (by simp [c2]) ?_))))
      simp only [implAbs r.1 (by omega) (by omega)]
      exact Ev.bind (implGcd_ev _ _ (by unfold absI; omega) (by omega)) (Ev.ret.val (by unfold isR; simp [c1, c2]))
    · exact Ev.eq (fun k => impl_IsRatio_eq k r) (Ev.bind (inRange_ev _ _ _) (Ev.pos (by simp [c1]) (Ev.bind (inRange_ev _ _ _) (Ev.neg (by simpa using c2) (Ev.ret.val (by unfold isR; simp only [c2, false_and, and_false, decide_false]))))))
  · exact Ev.eq (fun k => impl_IsRatio_eq k r) (Ev.bind (inRange_ev _ _ _) (Ev.neg (by simpa using c1) (Ev.ret.val (by unfold isR; simp only [c1, false_and, decide_false]))))
theorem gcdI_pos (a b : Int) (hb : 0 < b) : 0 < gcdI a b := by
  unfold gcdI
  have : 0 < Nat.gcd a.toNat b.toNat := Nat.gcd_pos_of_pos_right _ (by omega)
  omega
theorem wrap_tdiv (n g : Int) (h1 : -4611686018427387904 ≤ n) (h2 : n ≤ 4611686018427387904) : IntKind.wrap .i64 (Int.tdiv n g) = Int.tdiv n g := by
  have := Int.natAbs_tdiv_le_natAbs n g
  exact wrapI (by omega) (by omega)
abbrev Res : Type := DT25 × (Bool × Unit)
def noR : Res := ((0, (0, ())), (false, ()))
def mk (n d : Int) : Res :=
  if isR (Int.tdiv n (gcdI (absI n) d)) (Int.tdiv d (gcdI (absI n) d)) = true then ((Int.tdiv n (gcdI (absI n) d), (Int.tdiv d (gcdI (absI n) d), ())), (true, ())) else noR
theorem lowest_ev (n d : Int) (h1 : -4611686018427387904 ≤ n) (h2 : n ≤ 4611686018427387904) (h3 : 1 ≤ d) (h4 : d ≤ 4611686018427387904) : Ev (fun k => impl_lowest k n d) (mk n d) := by
  have hg := gcdI_pos (absI n) d (by omega)
  refine Ev.eq (fun k => impl_lowest_eq k n d) (Ev.neg (by omega) (Ev.neg (by omega) ?_))
  simp only [implAbs n h1 h2]
  refine Ev.bind (implGcd_ev _ _ (by unfold absI; omega) (by omega)) (Ev.neg (by omega) (Ev.neg (by omega) ?_))
  simp only [wrap_tdiv n _ h1 h2, wrap_tdiv d _ (by omega) h4]
  refine Ev.bind (implIsRatio_ev _) ?_
  unfold mk
  by_cases c : isR (Int.tdiv n (gcdI (absI n) d)) (Int.tdiv d (gcdI (absI n) d)) = true
  · exact Ev.neg (by simp [c]) (Ev.ret.val (by rw [if_pos c]))
  · exact Ev.pos (by simpa using c) (Ev.ret.val (by rw [if_neg c]; rfl))
theorem implMake_ev (n d : Int) (h1 : -1000000000000000 ≤ n) (h2 : n ≤ 1000000000000000) (h3 : 1 ≤ d) (h4 : d ≤ 1000000000000000) : Ev (fun k => impl_MakeRatio k n d) (mk n d) := by
  refine Ev.eq (fun k => impl_MakeRatio_eq k n d) (Ev.bind (inRange_ev _ _ _) (Ev.neg (by simp; omega) (Ev.bind (inRange_ev _ _ _) (Ev.neg (by simp; omega) (Ev.bind (lowest_ev n d (by omega) (by omega) h3 (by omega)) (Ev.ret.val ?_))))))
  obtain ⟨a, b, _⟩ := mk n d
  simp
def addR (a b : DT25) : Res := if isR a.1 a.2.1 = true ∧ isR b.1 b.2.1 = true then mk (a.1 * b.2.1 + b.1 * a.2.1) (a.2.1 * b.2.1) else noR
theorem isR_spec {n d : Int} (h : isR n d = true) : (1 ≤ d ∧ d ≤ 1000000) ∧ (-1000000000 ≤ n ∧ n ≤ 1000000000) := by
  unfold isR at h
  have := of_decide_eq_true h
  exact ⟨this.1, this.2.1⟩
theorem mul_bd {x y A B : Int} (hx : -A ≤ x ∧ x ≤ A) (hy : 0 ≤ y ∧ y ≤ B) : -(A * B) ≤ x * y ∧ x * y ≤ A * B := by
  have hA : 0 ≤ A := by omega
  have h1 : A * y ≤ A * B := Int.mul_le_mul_of_nonneg_left hy.2 hA
  have h2 : x * y ≤ A * y := Int.mul_le_mul_of_nonneg_right hx.2 hy.1
  have h3 : -A * y ≤ x * y := Int.mul_le_mul_of_nonneg_right hx.1 hy.1
  rw [Int.neg_mul] at h3
  omega
theorem implAdd_ev (a b : DT25) : Ev (fun k => impl_AddRatio k a b) (addR a b) := by
  unfold addR
  by_cases ca : isR a.1 a.2.1 = true
  · by_cases cb : isR b.1 b.2.1 = true
    · obtain ⟨a1, a2⟩ := isR_spec ca
      obtain ⟨b1, b2⟩ := isR_spec cb
      have m1 := mul_bd (x := a.1) (y := b.2.1) (A := 1000000000) (B := 1000000) ⟨a2.1, a2.2⟩ ⟨by omega, b1.2⟩
      have m2 := mul_bd (x := b.1) (y := a.2.1) (A := 1000000000) (B := 1000000) ⟨b2.1, b2.2⟩ ⟨by omega, a1.2⟩
      have m3 := mul_bd (x := a.2.1) (y := b.2.1) (A := 1000000) (B := 1000000) ⟨by omega, a1.2⟩ ⟨by omega, b1.2⟩
      have m4 : 1 ≤ a.2.1 * b.2.1 := Int.mul_pos (by omega) (by omega)
      refine Ev.eq (fun k => impl_AddRatio_eq k a b) (Ev.bind (implIsRatio_ev a) (Ev.neg (by simp [ca]) (Ev.bind (implIsRatio_ev b) (Ev.neg (by simp [cb]) ?_))))
      rw [wrapI (n := a.1 * b.2.1) (by omega) (by omega), wrapI (n := b.1 * a.2.1) (by omega) (by omega), wrapI (n := a.1 * b.2.1 + b.1 * a.2.1) (by omega) (by omega), wrapI (n := a.2.1 * b.2.1) (by omega) (by omega)]
      refine Ev.bind (lowest_ev _ _ (by omega) (by omega) m4 (by omega)) (Ev.ret.val ?_)
      rw [if_pos ⟨ca, cb⟩]
      obtain ⟨r, o, _⟩ := mk (a.1 * b.2.1 + b.1 * a.2.1) (a.2.1 * b.2.1)
      simp
    · exact Ev.eq (fun k => impl_AddRatio_eq k a b) (Ev.bind (implIsRatio_ev a) (Ev.neg (by simp [ca]) (Ev.bind (implIsRatio_ev b) (Ev.pos (by simpa using cb) (Ev.ret.val (by rw [if_neg (fun h => cb h.2)]; rfl))))))
  · exact Ev.eq (fun k => impl_AddRatio_eq k a b) (Ev.bind (implIsRatio_ev a) (Ev.pos (by simpa using ca) (Ev.ret.val (by rw [if_neg (fun h => ca h.1)]; rfl))))
def modR (n m : Int) : Int := if 1 ≤ m ∧ m ≤ 1000000000000 then Int.tmod (IntKind.wrap .i64 ((Int.tmod n m) + m)) m else 0
theorem implMod_ev (n m : Int) : Ev (fun k => impl_Mod k n m) (modR n m) := by
  unfold modR
  by_cases c : 1 ≤ m ∧ m ≤ 1000000000000
  · exact Ev.eq (fun k => impl_Mod_eq k n m) (Ev.bind (inRange_ev _ _ _) (Ev.neg (by simp [c]) (Ev.neg (by omega) (Ev.neg (by omega) (Ev.ret.val (by rw [if_pos c]))))))
  · exact Ev.eq (fun k => impl_Mod_eq k n m) (Ev.bind (inRange_ev _ _ _) (Ev.pos (by simpa using c) (Ev.ret.val (by rw [if_neg c]))))
def floorR (r : DT25) : Int := if isR r.1 r.2.1 = true then IntKind.wrap .i64 (Int.tdiv (IntKind.wrap .i64 (r.1 - modR r.1 r.2.1)) r.2.1) else 0
theorem implFloor_ev (r : DT25) : Ev (fun k => impl_FloorRatio k r) (floorR r) := by
  unfold floorR
  by_cases c : isR r.1 r.2.1 = true
  · have := isR_spec c
    exact Ev.eq (fun k => impl_FloorRatio_eq k r) (Ev.bind (implIsRatio_ev r) (Ev.neg (by simp [c]) (Ev.bind (implMod_ev _ _) (Ev.neg (by omega) (Ev.ret.val (by rw [if_pos c]))))))
  · exact Ev.eq (fun k => impl_FloorRatio_eq k r) (Ev.bind (implIsRatio_ev r) (Ev.pos (by simpa using c) (Ev.ret.val (by rw [if_neg c]))))
theorem nan_ev (x : Int) : Ev (fun k => cmp_isNaN_int k x) false := Ev.eq (fun k => cmp_isNaN_int_eq k x) (Ev.ret.val (by simp))
def cmpI (x y : Int) : Int := if x < y then -1 else if y < x then 1 else 0
theorem cmp_ev (x y : Int) : Ev (fun k => cmp_Compare_int k x y) (cmpI x y) := by
  unfold cmpI
  by_cases c : x < y
  · exact Ev.eq (fun k => cmp_Compare_int_eq k x y) (Ev.bind (nan_ev x) (Ev.bind (nan_ev y) (Ev.neg (by simp) (Ev.neg (by simp) (Ev.pos c (Ev.ret.val (by rw [if_pos c])))))))
  · by_cases c2 : y < x
    · exact Ev.eq (fun k => cmp_Compare_int_eq k x y) (Ev.bind (nan_ev x) (Ev.bind (nan_ev y) (Ev.neg (by simp) (Ev.neg (by simp) (Ev.neg c (Ev.pos c2 (Ev.ret.val (by rw [if_neg c, if_pos c2]))))))))
    · exact Ev.eq (fun k => cmp_Compare_int_eq k x y) (Ev.bind (nan_ev x) (Ev.bind (nan_ev y) (Ev.neg (by simp) (Ev.neg (by simp) (Ev.neg c (Ev.neg c2 (Ev.ret.val (by rw [if_neg c, if_neg c2]))))))))
theorem dec_of {f : Nat → Option Bool} {p : Prop} [d : Decidable p] (h : ∃ r, Ev f r ∧ (r = true ↔ p)) : Ev f (decide p) := by
  obtain ⟨r, e, hr⟩ := h
  exact e.val (by rw [Bool.eq_iff_iff, hr]; simp)
theorem loop_allE {F : Int → Nat → Nat → Option Bool} {n : Nat} (Q : Nat → Prop) (c : Bool) (hend : E2 (F (n : Int)) c)
    (hgo : ∀ i, i < n → Q i → ∀ v, E2 (F ((i + 1 : Nat) : Int)) v → E2 (F (i : Int)) v) (hstop : ∀ i, i < n → ¬ Q i → E2 (F (i : Int)) false) :
    ∃ r, E2 (F 0) r ∧ (r = true ↔ (∀ i, i < n → Q i) ∧ c = true) := by
  have key : ∀ d i, i + d = n → ∃ r, E2 (F (i : Int)) r ∧ (r = true ↔ (∀ j, i ≤ j → j < n → Q j) ∧ c = true) := by
    intro d
    induction d with
    | zero =>
      intro i hi
      have hi : i = n := by omega
      subst hi
      exact ⟨c, hend, ⟨fun h => ⟨fun j _ _ => by omega, h⟩, fun h => h.2⟩⟩
    | succ d ih =>
      intro i hi
      obtain ⟨r, er, hr⟩ := ih (i + 1) (by omega)
      by_cases hq : Q i
      · refine ⟨r, hgo i (by omega) hq r er, hr.trans ⟨fun h => ⟨fun j h1 h2 => ?_, h.2⟩, fun h => ⟨fun j h1 h2 => h.1 j (by omega) h2, h.2⟩⟩⟩
        by_cases hj : j = i
        · subst hj; exact hq
        · exact h.1 j (by omega) h2
      · exact ⟨false, hstop i (by omega) hq, by simp only [Bool.false_eq_true, false_iff]; exact fun h => hq (h.1 i (Nat.le_refl _) (by omega))⟩
  obtain ⟨r, er, hr⟩ := key n 0 (by omega)
  exact ⟨r, er, hr.trans ⟨fun h => ⟨fun i hi => h.1 i (Nat.zero_le _) hi, h.2⟩, fun h => ⟨fun i _ hi => h.1 i hi, h.2⟩⟩⟩
theorem wrapP {i : Nat} (h : 0 < i) (h2 : i < 9223372036854775807) : IntKind.wrap .i64 ((i : Int) - 1) = ((i - 1 : Nat) : Int) := by
  rw [wrapI (by omega) (by omega)]; omega
def okE (e : DT60) : Prop := (0 ≤ (e.1 : Int) ∧ (e.1 : Int) ≤ 2000) ∧ (1 ≤ (e.2.1 : Int) ∧ (e.2.1 : Int) ≤ 96) ∧ (21 ≤ (e.2.2.1 : Int) ∧ (e.2.2.1 : Int) ≤ 108) ∧ 1 ≤ (e.2.2.2.1 : Int) ∧ (e.2.2.2.1 : Int) ≤ 4
instance (e : DT60) : Decidable (okE e) := by unfold okE; infer_instance
theorem l8Ok_ev (e : DT60) : Ev (fun k => spec_l8Ok k e) (decide (okE e)) := by
  refine Ev.eq (fun k => spec_l8Ok_eq k e) (Ev.bind (l1In_ev _ _ _) ?_)
  unfold okE
  by_cases c1 : 0 ≤ (e.1 : Int) ∧ (e.1 : Int) ≤ 2000
  · refine Ev.pos (by simp [c1]) (Ev.bind (l1In_ev _ _ _) ?_)
    by_cases c2 : 1 ≤ (e.2.1 : Int) ∧ (e.2.1 : Int) ≤ 96
    · refine Ev.pos (by simp [c2]) (Ev.bind (l1In_ev _ _ _) ?_)
      by_cases c3 : 21 ≤ (e.2.2.1 : Int) ∧ (e.2.2.1 : Int) ≤ 108
      · exact Ev.pos (by simp [c3]) (Ev.bind (l1In_ev _ _ _) (Ev.ret.val (by simp only [c1, c2, c3, true_and, and_self, decide_eq_true_eq])))
      · exact Ev.neg (by simpa using c3) (Ev.ret.val (by simp only [c3, false_and, and_false, decide_false]))
    · exact Ev.neg (by simpa using c2) (Ev.ret.val (by simp only [c2, false_and, and_false, decide_false]))
  · exact Ev.neg (by simpa using c1) (Ev.ret.val (by simp only [c1, false_and, decide_false]))
def bef (a b : DT60) : Prop := (a.1 : Int) < b.1 ∨ (a.1 : Int) = b.1 ∧ ((a.2.2.2.1 : Int) < b.2.2.2.1 ∨ (a.2.2.2.1 : Int) = b.2.2.2.1 ∧ (a.2.2.1 : Int) < b.2.2.1)
instance (a b : DT60) : Decidable (bef a b) := by unfold bef; infer_instance
theorem before_ev (a b : DT60) : Ev (fun k => spec_l8Before k a b) (decide (bef a b)) := by
  refine Ev.eq (fun k => spec_l8Before_eq k a b) ?_
  unfold bef
  by_cases c1 : (a.1 : Int) = b.1
  · refine Ev.neg (by omega) ?_
    by_cases c2 : (a.2.2.2.1 : Int) = b.2.2.2.1
    · exact Ev.neg (by omega) (Ev.ret.val (by congr 1; exact propext ⟨fun h => .inr ⟨c1, .inr ⟨c2, h⟩⟩, fun h => by omega⟩))
    · exact Ev.pos (by omega) (Ev.ret.val (by congr 1; exact propext ⟨fun h => .inr ⟨c1, .inl h⟩, fun h => by omega⟩))
  · exact Ev.pos (by omega) (Ev.ret.val (by congr 1; exact propext ⟨fun h => .inl h, fun h => by omega⟩))
def orI (x y : Int) : Int := if x ≠ 0 then x else y
theorem or_ev (x y z : Int) : Ev (fun k => cmp_Or_int k [x, y, z]) (orI x (orI y z)) := by
  refine Ev.eq (fun k => cmp_Or_int_eq k _) (Ev.loop (f := fun k m => cmp_Or_int.l0 k m 0 [x, y, z] ((List.length [x, y, z] : Nat) : Int) 0) ?_)
  have w0 : IntKind.wrap .i64 ((0 : Int) + 1) = 1 := wrapI (by omega) (by omega)
  have w1 : IntKind.wrap .i64 ((1 : Int) + 1) = 2 := wrapI (by omega) (by omega)
  have w2 : IntKind.wrap .i64 ((2 : Int) + 1) = 3 := wrapI (by omega) (by omega)
  have r0 : rd (.int .i64) [x, y, z] 0 = x := rfl
  have r1 : rd (.int .i64) [x, y, z] 1 = y := rfl
  have r2 : rd (.int .i64) [x, y, z] 2 = z := rfl
  have hl : ((List.length [x, y, z] : Nat) : Int) = 3 := rfl
  unfold orI
  refine E2.eq (fun k m => cmp_Or_int.l0_eq k m 0 [x, y, z] _ 0) (E2.pos (by rw [hl]; omega) (E2.pos (by omega) (E2.pos (by rw [hl]; omega) ?_)))
  simp only [r0, w0]
  by_cases c0 : x = 0
  · refine E2.neg (fun h => h c0) ?_
    rw [if_neg (show ¬ x ≠ 0 by omega)]
    refine E2.eq (fun k m => cmp_Or_int.l0_eq k m 0 [x, y, z] _ 1) (E2.pos (by rw [hl]; omega) (E2.pos (by omega) (E2.pos (by rw [hl]; omega) ?_)))
    simp only [r1, w1]
    by_cases c1 : y = 0
    · refine E2.neg (fun h => h c1) ?_
      rw [if_neg (show ¬ y ≠ 0 by omega)]
      refine E2.eq (fun k m => cmp_Or_int.l0_eq k m 0 [x, y, z] _ 2) (E2.pos (by rw [hl]; omega) (E2.pos (by omega) (E2.pos (by rw [hl]; omega) ?_)))
      simp only [r2, w2]
      by_cases c2 : z = 0
      · exact E2.neg (fun h => h c2) (E2.eq (fun k m => cmp_Or_int.l0_eq k m 0 [x, y, z] _ 3) (E2.neg (by rw [hl]; omega) (E2.ret.val c2.symm)))
      · exact E2.pos c2 E2.ret
    · rw [if_pos c1]; exact E2.pos c1 E2.ret
  · rw [if_pos c0]; exact E2.pos c0 E2.ret
def ordI (a b : DT60) : Int := orI (cmpI a.1 b.1) (orI (cmpI a.2.2.2.1 b.2.2.2.1) (cmpI a.2.2.1 b.2.2.1))
theorem order_ev (a b : DT60) : Ev (fun k => impl_eventOrder k a b) (ordI a b) :=
  Ev.eq (fun k => impl_eventOrder_eq k a b) (Ev.bind (cmp_ev _ _) (Ev.bind (cmp_ev _ _) (Ev.bind (cmp_ev _ _) (Ev.bind (or_ev _ _ _) Ev.ret))))
theorem ordI_lt (a b : DT60) : ordI a b < 0 ↔ bef a b := by
  unfold ordI orI cmpI bef
  repeat' split
  all_goals omega
def QS (l : List DT60) (i : Nat) : Prop := okE (rd T60 l (i : Int)) ∧ (0 < i → bef (rd T60 l ((i - 1 : Nat) : Int)) (rd T60 l (i : Int)))
instance (l : List DT60) (i : Nat) : Decidable (QS l i) := by unfold QS; infer_instance
def scoreP (l : List DT60) : Prop := (∀ i, i < l.length → QS l i) ∧ decide (((l.length : Nat) : Int) ≤ 40) = true
instance (l : List DT60) : Decidable (scoreP l) := by unfold scoreP; infer_instance
theorem specScoreB_ev (l : List DT60) (hl : l.length ≤ 33554432) : Ev (fun k => spec_IsScore k l) (decide (scoreP l)) := by
  refine dec_of ?_
  obtain ⟨r, er, hr⟩ := loop_allE (F := fun i k m => spec_IsScore.l0 k m l i) (n := l.length) (QS l) (decide (((l.length : Nat) : Int) ≤ 40)) (E2.eq (fun k m => spec_IsScore.l0_eq k m l _) (E2.neg (by omega) E2.ret)) (fun i hi hq v e => by
    refine E2.eq (fun k m => spec_IsScore.l0_eq k m l _) (E2.pos (by omega) (E2.pos (by omega) (E2.pos (by omega) (E2.bind (l8Ok_ev _) (E2.neg (by simpa using hq.1) ?_)))))
    by_cases c : 0 < i
    · refine E2.pos (by omega) ?_
      simp only [wrapP c (show i < 9223372036854775807 by omega), wrapS (show i < 9223372036854775807 by omega)]
      exact E2.pos (by omega) (E2.pos (by omega) (E2.pos (by omega) (E2.pos (by omega) (E2.bind (before_ev _ _) (E2.neg (by simpa using hq.2 c) e)))))
    · refine E2.neg (by omega) ?_
      simp only [wrapS (show i < 9223372036854775807 by omega)]
      exact e) (fun i hi hq => by
    refine E2.eq (fun k m => spec_IsScore.l0_eq k m l _) (E2.pos (by omega) (E2.pos (by omega) (E2.pos (by omega) (E2.bind (l8Ok_ev _) ?_))))
    by_cases c0 : okE (rd T60 l (i : Int))
    · refine E2.neg (by simpa using c0) ?_
      have c : 0 < i := by
        rcases Nat.eq_zero_or_pos i with h | h
        · exact absurd ⟨c0, fun h' => by omega⟩ hq
        · exact h
      have c1 : ¬ bef (rd T60 l ((i - 1 : Nat) : Int)) (rd T60 l (i : Int)) := fun h => hq ⟨c0, fun _ => h⟩
      refine E2.pos (by omega) ?_
      simp only [wrapP c (show i < 9223372036854775807 by omega)]
      exact E2.pos (by omega) (E2.pos (by omega) (E2.pos (by omega) (E2.pos (by omega) (E2.bind (before_ev _ _) (E2.pos (by simpa using c1) E2.ret)))))
    · exact E2.pos (by simpa using c0) E2.ret)
  exact ⟨r, Ev.eq (fun k => spec_IsScore_eq k l) (Ev.loop (f := fun k m => spec_IsScore.l0 k m l 0) er), hr⟩
theorem specScore_ev (l : List DT60) (hl : l.length ≤ 1048576) : Ev (fun k => spec_IsScore k l) (decide (scoreP l)) := specScoreB_ev l (by omega)
theorem implScoreB_ev (l : List DT60) (hl : l.length ≤ 33554432) : Ev (fun k => impl_IsScore k l) (decide (scoreP l)) := by
  refine dec_of ?_
  obtain ⟨r, er, hr⟩ := loop_allE (F := fun i k m => impl_IsScore.l0 k m l l ((List.length l : Nat) : Int) i) (n := l.length) (QS l) (decide (((l.length : Nat) : Int) ≤ 40)) (E2.eq (fun k m => impl_IsScore.l0_eq k m l l _ _) (E2.neg (by omega) E2.ret)) (fun i hi hq v e => by
    obtain ⟨⟨h1, h2, h3, h4⟩, h5⟩ := hq
    refine E2.eq (fun k m => impl_IsScore.l0_eq k m l l _ _) (E2.pos (by omega) (E2.pos (by omega) (E2.pos (by omega) (E2.bind (inRange_ev _ _ _) (E2.neg (by simpa using h1) (E2.bind (inRange_ev _ _ _) (E2.neg (by simpa using h2) (E2.bind (inRange_ev _ _ _) (E2.neg (by simpa using h3) (E2.bind (inRange_ev _ _ _) (E2.neg (by simpa using h4) ?_)))))))))))
    by_cases c : 0 < i
    · refine E2.pos (by omega) ?_
      simp only [wrapP c (show i < 9223372036854775807 by omega), wrapS (show i < 9223372036854775807 by omega)]
      have := (ordI_lt _ _).2 (h5 c)
      exact E2.pos (by omega) (E2.pos (by omega) (E2.bind (order_ev _ _) (E2.neg (by omega) e)))
    · refine E2.neg (by omega) ?_
      simp only [wrapS (show i < 9223372036854775807 by omega)]
      exact e) (fun i hi hq => by
    refine E2.eq (fun k m => impl_IsScore.l0_eq k m l l _ _) (E2.pos (by omega) (E2.pos (by omega) (E2.pos (by omega) (E2.bind (inRange_ev _ _ _) ?_))))
    by_cases h1 : 0 ≤ ((rd T60 l (i : Int)).1 : Int) ∧ ((rd T60 l (i : Int)).1 : Int) ≤ 2000
    · refine E2.neg (by simpa using h1) (E2.bind (inRange_ev _ _ _) ?_)
      by_cases h2 : 1 ≤ ((rd T60 l (i : Int)).2.1 : Int) ∧ ((rd T60 l (i : Int)).2.1 : Int) ≤ 96
      · refine E2.neg (by simpa using h2) (E2.bind (inRange_ev _ _ _) ?_)
        by_cases h3 : 21 ≤ ((rd T60 l (i : Int)).2.2.1 : Int) ∧ ((rd T60 l (i : Int)).2.2.1 : Int) ≤ 108
        · refine E2.neg (by simpa using h3) (E2.bind (inRange_ev _ _ _) ?_)
          by_cases h4 : 1 ≤ ((rd T60 l (i : Int)).2.2.2.1 : Int) ∧ ((rd T60 l (i : Int)).2.2.2.1 : Int) ≤ 4
          · refine E2.neg (by simpa using h4) ?_
            have c : 0 < i := by
              rcases Nat.eq_zero_or_pos i with h | h
              · exact absurd ⟨⟨h1, h2, h3, h4⟩, fun h' => by omega⟩ hq
              · exact h
            have c1 : ¬ bef (rd T60 l ((i - 1 : Nat) : Int)) (rd T60 l (i : Int)) := fun h => hq ⟨⟨h1, h2, h3, h4⟩, fun _ => h⟩
            refine E2.pos (by omega) ?_
            simp only [wrapP c (show i < 9223372036854775807 by omega)]
            have := mt (ordI_lt _ _).1 c1
            exact E2.pos (by omega) (E2.pos (by omega) (E2.bind (order_ev _ _) (E2.pos (by omega) E2.ret)))
          · exact E2.pos (by simpa using h4) E2.ret
        · exact E2.pos (by simpa using h3) E2.ret
      · exact E2.pos (by simpa using h2) E2.ret
    · exact E2.pos (by simpa using h1) E2.ret)
  exact ⟨r, Ev.eq (fun k => impl_IsScore_eq k l) (Ev.loop (f := fun k m => impl_IsScore.l0 k m l l ((List.length l : Nat) : Int) 0) er), hr⟩
theorem implScore_ev (l : List DT60) (hl : l.length ≤ 1048576) : Ev (fun k => impl_IsScore k l) (decide (scoreP l)) := implScoreB_ev l (by omega)
def okT (t : DT25) : Prop := (20 ≤ (t.2.1 : Int) ∧ (t.2.1 : Int) ≤ 300) ∧ (0 ≤ (t.1 : Int) ∧ (t.1 : Int) ≤ 2000)
instance (e : DT25) : Decidable (okT e) := by unfold okT; infer_instance
def QT (l : List DT25) (i : Nat) : Prop := okT (rd T25 l (i : Int)) ∧ (i = 0 → Eq (α := Int) (rd T25 l (i : Int)).1 0) ∧ (0 < i → LT.lt (α := Int) (rd T25 l ((i - 1 : Nat) : Int)).1 (rd T25 l (i : Int)).1)
instance (l : List DT25) (i : Nat) : Decidable (QT l i) := by unfold QT; infer_instance
def tempoP (l : List DT25) : Prop := (∀ i, i < l.length → QT l i) ∧ decide (1 ≤ ((l.length : Nat) : Int) ∧ ((l.length : Nat) : Int) ≤ 8) = true
instance (l : List DT25) : Decidable (tempoP l) := by unfold tempoP; infer_instance
theorem specTempoB_ev (l : List DT25) (hl : l.length ≤ 2097152) : Ev (fun k => spec_IsTempo k l) (decide (tempoP l)) := by
  refine dec_of ?_
  obtain ⟨r, er, hr⟩ := loop_allE (F := fun i k m => spec_IsTempo.l0 k m l i) (n := l.length) (QT l) (decide (1 ≤ ((l.length : Nat) : Int) ∧ ((l.length : Nat) : Int) ≤ 8)) (E2.eq (fun k m => spec_IsTempo.l0_eq k m l _) (E2.neg (by omega) (E2.bind (l1In_ev _ _ _) (E2.ret.val (by simp))))) (fun i hi hq v e => by
    obtain ⟨⟨h1, h2⟩, h3, h4⟩ := hq
    refine E2.eq (fun k m => spec_IsTempo.l0_eq k m l _) (E2.pos (by omega) (E2.pos (by omega) (E2.pos (by omega) (E2.bind (l1In_ev _ _ _) (E2.neg (by simpa using h1) (E2.pos (by omega) (E2.pos (by omega) (E2.bind (l1In_ev _ _ _) (E2.neg (by simpa using h2) ?_)))))))))
    simp only [wrapS (show i < 9223372036854775807 by omega)]
    by_cases c : 0 < i
    · refine E2.neg (by omega) (E2.pos (by omega) ?_)
      simp only [wrapP c (show i < 9223372036854775807 by omega)]
      have := h4 c
      exact E2.pos (by omega) (E2.pos (by omega) (E2.pos (by omega) (E2.pos (by omega) (E2.neg (by omega) e))))
    · refine E2.pos (by omega) (E2.pos (by omega) (E2.pos (by omega) (E2.neg (fun h => h (h3 (by omega))) (E2.neg (by omega) e))))) (fun i hi hq => by
    refine E2.eq (fun k m => spec_IsTempo.l0_eq k m l _) (E2.pos (by omega) (E2.pos (by omega) (E2.pos (by omega) (E2.bind (l1In_ev _ _ _) ?_))))
    by_cases h1 : LE.le (α := Int) 20 (rd T25 l (i : Int)).2.1 ∧ LE.le (α := Int) (rd T25 l (i : Int)).2.1 300
    · refine E2.neg (by simpa using h1) (E2.pos (by omega) (E2.pos (by omega) (E2.bind (l1In_ev _ _ _) ?_)))
      by_cases h2 : LE.le (α := Int) 0 (rd T25 l (i : Int)).1 ∧ LE.le (α := Int) (rd T25 l (i : Int)).1 2000
      · refine E2.neg (by simpa using h2) ?_
        by_cases c : 0 < i
        · refine E2.neg (by omega) (E2.pos (by omega) ?_)
          simp only [wrapP c (show i < 9223372036854775807 by omega)]
          have h4 : ¬ LT.lt (α := Int) (rd T25 l ((i - 1 : Nat) : Int)).1 (rd T25 l (i : Int)).1 := fun h => hq ⟨⟨h1, h2⟩, fun h' => by omega, fun _ => h⟩
          exact E2.pos (by omega) (E2.pos (by omega) (E2.pos (by omega) (E2.pos (by omega) (E2.pos (by omega) E2.ret))))
        · have h3 : ¬ Eq (α := Int) (rd T25 l (i : Int)).1 0 := fun h => hq ⟨⟨h1, h2⟩, fun _ => h, fun h' => absurd h' c⟩
          exact E2.pos (by omega) (E2.pos (by omega) (E2.pos (by omega) (E2.pos h3 E2.ret)))
      · exact E2.pos (by simpa using h2) E2.ret
    · exact E2.pos (by simpa using h1) E2.ret)
  exact ⟨r, Ev.eq (fun k => spec_IsTempo_eq k l) (Ev.loop (f := fun k m => spec_IsTempo.l0 k m l 0) er), hr⟩
/-- The program's own test of an element: it leaves out what follows from the one before. -/
def QT' (l : List DT25) (i : Nat) : Prop := (i = 0 → Eq (α := Int) (rd T25 l (i : Int)).1 0) ∧ (0 < i → LT.lt (α := Int) (rd T25 l ((i - 1 : Nat) : Int)).1 (rd T25 l (i : Int)).1) ∧ LE.le (α := Int) (rd T25 l (i : Int)).1 2000 ∧ (LE.le (α := Int) 20 (rd T25 l (i : Int)).2.1 ∧ LE.le (α := Int) (rd T25 l (i : Int)).2.1 300)
theorem QT_iff (l : List DT25) : (∀ i, i < l.length → QT' l i) ↔ (∀ i, i < l.length → QT l i) := by
  constructor
  · intro h
    have hp : ∀ i, i < l.length → LE.le (α := Int) 0 (rd T25 l (i : Int)).1 := by
      intro i
      induction i with
      | zero => intro hi; have := (h 0 hi).1 rfl; omega
      | succ i ih =>
        intro hi
        have h1 := ih (by omega)
        have h2 := (h (i + 1) hi).2.1 (by omega)
        simp only [Nat.add_sub_cancel] at h2
        omega
    intro i hi
    obtain ⟨h1, h2, h3, h4⟩ := h i hi
    exact ⟨⟨h4, hp i hi, h3⟩, h1, h2⟩
  · intro h i hi
    obtain ⟨⟨h1, h2, h3⟩, h4, h5⟩ := h i hi
    exact ⟨h4, h5, h3, h1⟩
theorem implTempoB_ev (l : List DT25) (hl : l.length ≤ 2097152) : Ev (fun k => impl_IsTempo k l) (decide (tempoP l)) := by
  refine dec_of ?_
  obtain ⟨r, er, hr⟩ := loop_allE (F := fun i k m => impl_IsTempo.l0 k m l l ((List.length l : Nat) : Int) i) (n := l.length) (QT' l) (decide (1 ≤ ((l.length : Nat) : Int) ∧ ((l.length : Nat) : Int) ≤ 8)) (E2.eq (fun k m => impl_IsTempo.l0_eq k m l l _ _) (E2.neg (by omega) (E2.bind (inRange_ev _ _ _) (E2.ret.val (by simp))))) (fun i hi hq v e => by
    obtain ⟨h3, h4, h5, h6⟩ := hq
    refine E2.eq (fun k m => impl_IsTempo.l0_eq k m l l _ _) (E2.pos (by omega) (E2.pos (by omega) (E2.pos (by omega) ?_)))
    simp only [wrapS (show i < 9223372036854775807 by omega)]
    by_cases c : 0 < i
    · refine E2.neg (by omega) (E2.pos (by omega) ?_)
      simp only [wrapP c (show i < 9223372036854775807 by omega)]
      have := h4 c
      exact E2.pos (by omega) (E2.pos (by omega) (E2.neg (by omega) (E2.neg (by omega) (E2.bind (inRange_ev _ _ _) (E2.neg (by simpa using h6) e)))))
    · exact E2.pos (by omega) (E2.neg (fun h => h (h3 (by omega))) (E2.neg (by omega) (E2.neg (by omega) (E2.bind (inRange_ev _ _ _) (E2.neg (by simpa using h6) e)))))) (fun i hi hq => by
    refine E2.eq (fun k m => impl_IsTempo.l0_eq k m l l _ _) (E2.pos (by omega) (E2.pos (by omega) (E2.pos (by omega) ?_)))
    by_cases c : 0 < i
    · refine E2.neg (by omega) (E2.pos (by omega) ?_)
      simp only [wrapP c (show i < 9223372036854775807 by omega)]
      refine E2.pos (by omega) (E2.pos (by omega) ?_)
      by_cases h4 : LT.lt (α := Int) (rd T25 l ((i - 1 : Nat) : Int)).1 (rd T25 l (i : Int)).1
      · refine E2.neg (by omega) ?_
        by_cases h5 : LE.le (α := Int) (rd T25 l (i : Int)).1 2000
        · exact E2.neg (by omega) (E2.bind (inRange_ev _ _ _) (E2.pos (by simp only [decide_eq_true_eq]; exact fun h6 => hq ⟨fun h => by omega, fun _ => h4, h5, h6⟩) E2.ret))
        · exact E2.pos (by omega) E2.ret
      · exact E2.pos (by omega) E2.ret
    · refine E2.pos (by omega) ?_
      by_cases h3 : Eq (α := Int) (rd T25 l (i : Int)).1 0
      · refine E2.neg (fun h => h h3) (E2.neg (by omega) (E2.neg (by omega) (E2.bind (inRange_ev _ _ _) (E2.pos (by simp only [decide_eq_true_eq]; exact fun h6 => hq ⟨fun _ => h3, fun h => absurd h c, by omega, h6⟩) E2.ret))))
      · exact E2.pos h3 E2.ret)
  exact ⟨r, Ev.eq (fun k => impl_IsTempo_eq k l) (Ev.loop (f := fun k m => impl_IsTempo.l0 k m l l ((List.length l : Nat) : Int) 0) er), hr.trans (and_congr (QT_iff l) Iff.rfl)⟩
theorem implTempo_ev (l : List DT25) (hl : l.length ≤ 1048576) : Ev (fun k => impl_IsTempo k l) (decide (tempoP l)) := implTempoB_ev l (by omega)
theorem specMeter_ev (m : DT25) : ∃ r, Ev (fun k => spec_IsMeter k m) r ∧ Ev (fun k => impl_IsMeter k m) r := by
  by_cases c1 : 1 ≤ (m.1 : Int) ∧ (m.1 : Int) ≤ 12
  · by_cases d1 : (m.2.1 : Int) = 1
    · exact ⟨true, Ev.eq (fun k => spec_IsMeter_eq k m) (Ev.bind (l1In_ev _ _ _) (Ev.pos (by simpa using c1) (Ev.pos d1 Ev.ret))), Ev.eq (fun k => impl_IsMeter_eq k m) (Ev.bind (inRange_ev _ _ _) (Ev.pos (by simpa using c1) (Ev.pos d1 Ev.ret)))⟩
    · by_cases d2 : (m.2.1 : Int) = 2
      · exact ⟨true, Ev.eq (fun k => spec_IsMeter_eq k m) (Ev.bind (l1In_ev _ _ _) (Ev.pos (by simpa using c1) (Ev.neg d1 (Ev.pos d2 Ev.ret)))), Ev.eq (fun k => impl_IsMeter_eq k m) (Ev.bind (inRange_ev _ _ _) (Ev.pos (by simpa using c1) (Ev.neg d1 (Ev.pos d2 Ev.ret))))⟩
      · by_cases d3 : (m.2.1 : Int) = 4
        · exact ⟨true, Ev.eq (fun k => spec_IsMeter_eq k m) (Ev.bind (l1In_ev _ _ _) (Ev.pos (by simpa using c1) (Ev.neg d1 (Ev.neg d2 (Ev.pos d3 Ev.ret))))), Ev.eq (fun k => impl_IsMeter_eq k m) (Ev.bind (inRange_ev _ _ _) (Ev.pos (by simpa using c1) (Ev.neg d1 (Ev.neg d2 (Ev.pos d3 Ev.ret)))))⟩
        · exact ⟨_, Ev.eq (fun k => spec_IsMeter_eq k m) (Ev.bind (l1In_ev _ _ _) (Ev.pos (by simpa using c1) (Ev.neg d1 (Ev.neg d2 (Ev.neg d3 Ev.ret))))), Ev.eq (fun k => impl_IsMeter_eq k m) (Ev.bind (inRange_ev _ _ _) (Ev.pos (by simpa using c1) (Ev.neg d1 (Ev.neg d2 (Ev.neg d3 Ev.ret)))))⟩
  · exact ⟨false, Ev.eq (fun k => spec_IsMeter_eq k m) (Ev.bind (l1In_ev _ _ _) (Ev.neg (by simpa using c1) Ev.ret)), Ev.eq (fun k => impl_IsMeter_eq k m) (Ev.bind (inRange_ev _ _ _) (Ev.neg (by simpa using c1) Ev.ret))⟩
def befM (a b : DT110) : Prop := (a.1 : Int) < b.1 ∨ (a.1 : Int) = b.1 ∧ (a.2.1 : Int) < b.2.1
instance (a b : DT110) : Decidable (befM a b) := by unfold befM; infer_instance
theorem beforeM_ev (a b : DT110) : Ev (fun k => spec_l25Before k a b) (decide (befM a b)) := by
  refine Ev.eq (fun k => spec_l25Before_eq k a b) ?_
  unfold befM
  by_cases c1 : (a.1 : Int) < b.1
  · exact Ev.pos c1 (Ev.ret.val (by simp [c1]))
  · refine Ev.neg c1 ?_
    by_cases c2 : (a.1 : Int) = b.1
    · exact Ev.pos c2 (Ev.ret.val (by congr 1; exact propext ⟨fun h => .inr ⟨c2, h⟩, fun h => by omega⟩))
    · exact Ev.neg c2 (Ev.ret.val (by simp [c1, c2]))
theorem or2_ev (x y : Int) : Ev (fun k => cmp_Or_int k [x, y]) (orI x y) := by
  refine Ev.eq (fun k => cmp_Or_int_eq k _) (Ev.loop (f := fun k m => cmp_Or_int.l0 k m 0 [x, y] ((List.length [x, y] : Nat) : Int) 0) ?_)
  have w0 : IntKind.wrap .i64 ((0 : Int) + 1) = 1 := wrapI (by omega) (by omega)
  have w1 : IntKind.wrap .i64 ((1 : Int) + 1) = 2 := wrapI (by omega) (by omega)
  have r0 : rd (.int .i64) [x, y] 0 = x := rfl
  have r1 : rd (.int .i64) [x, y] 1 = y := rfl
  have hl : ((List.length [x, y] : Nat) : Int) = 2 := rfl
  unfold orI
  refine E2.eq (fun k m => cmp_Or_int.l0_eq k m 0 [x, y] _ 0) (E2.pos (by rw [hl]; omega) (E2.pos (by omega) (E2.pos (by rw [hl]; omega) ?_)))
  simp only [r0, w0]
  by_cases c0 : x = 0
  · refine E2.neg (fun h => h c0) ?_
    rw [if_neg (show ¬ x ≠ 0 by omega)]
    refine E2.eq (fun k m => cmp_Or_int.l0_eq k m 0 [x, y] _ 1) (E2.pos (by rw [hl]; omega) (E2.pos (by omega) (E2.pos (by rw [hl]; omega) ?_)))
    simp only [r1, w1]
    by_cases c1 : y = 0
    · exact E2.neg (fun h => h c1) (E2.eq (fun k m => cmp_Or_int.l0_eq k m 0 [x, y] _ 2) (E2.neg (by rw [hl]; omega) (E2.ret.val c1.symm)))
    · exact E2.pos c1 E2.ret
  · rw [if_pos c0]; exact E2.pos c0 E2.ret
def ordM (a b : DT110) : Int := orI (cmpI a.1 b.1) (cmpI a.2.1 b.2.1)
theorem orderM_ev (a b : DT110) : Ev (fun k => impl_markOrder k a b) (ordM a b) :=
  Ev.eq (fun k => impl_markOrder_eq k a b) (Ev.bind (cmp_ev _ _) (Ev.bind (cmp_ev _ _) (Ev.bind (or2_ev _ _) Ev.ret)))
theorem ordM_lt (a b : DT110) : ordM a b < 0 ↔ befM a b := by
  unfold ordM orI cmpI befM
  repeat' split
  all_goals omega
def okM (e : DT110) : Prop := (1 ≤ (e.1 : Int) ∧ (e.1 : Int) ≤ 100) ∧ (1 ≤ (e.2.1 : Int) ∧ (e.2.1 : Int) ≤ 4) ∧ (0 ≤ (e.2.2.1 : Int) ∧ (e.2.2.1 : Int) ≤ 9) ∧ (0 ≤ (e.2.2.2.1 : Int) ∧ (e.2.2.2.1 : Int) ≤ 100000) ∧ (1 ≤ (e.2.2.2.2.1 : Int) ∧ (e.2.2.2.2.1 : Int) ≤ 99)
def QM (l : List DT110) (i : Nat) : Prop := okM (rd T110 l (i : Int)) ∧ (0 < i → befM (rd T110 l ((i - 1 : Nat) : Int)) (rd T110 l (i : Int)))
def marksP (l : List DT110) : Prop := (∀ i, i < l.length → QM l i) ∧ decide (((l.length : Nat) : Int) ≤ 30) = true
theorem notM (l : List DT110) (i : Nat) (h : ¬ QM l i) (h1 : okM (rd T110 l (i : Int))) : 0 < i ∧ ¬ befM (rd T110 l ((i - 1 : Nat) : Int)) (rd T110 l (i : Int)) := by
  refine ⟨?_, fun c => h ⟨h1, fun _ => c⟩⟩
  rcases Nat.eq_zero_or_pos i with hi | hi
  · exact absurd ⟨h1, fun h' => by omega⟩ h
  · exact hi
theorem specMarksB_ev (l : List DT110) (hl : l.length ≤ 2097152) : ∃ r, Ev (fun k => spec_AreMarks k l) r ∧ (r = true ↔ marksP l) := by
  obtain ⟨r, er, hr⟩ := loop_allR (R := fun i v => E2 (fun k m => spec_AreMarks.l0 k m l i) v) (n := l.length) (QM l) (decide (((l.length : Nat) : Int) ≤ 30)) (E2.eq (fun k m => spec_AreMarks.l0_eq k m l _) (E2.neg (by omega) E2.ret)) (fun i hi hq v e => by
    obtain ⟨⟨h1, h2, h3, h4, h5⟩, h6⟩ := hq
    refine E2.eq (fun k m => spec_AreMarks.l0_eq k m l _) (E2.pos (by omega) (E2.pos (by omega) (E2.pos (by omega) (E2.bind (l1In_ev _ _ _) (E2.neg (by simpa using h1) (E2.bind (l1In_ev _ _ _) (E2.neg (by simpa using h2) (E2.bind (l1In_ev _ _ _) (E2.neg (by simpa using h3) (E2.bind (l1In_ev _ _ _) (E2.neg (by simpa using h4) (E2.bind (l1In_ev _ _ _) (E2.neg (by simpa using h5) ?_)))))))))))))
    simp only [wrapS (show i < 9223372036854775807 by omega)]
    by_cases c : 0 < i
    · refine E2.pos (by omega) ?_
      simp only [wrapP c (show i < 9223372036854775807 by omega)]
      exact E2.pos (by omega) (E2.pos (by omega) (E2.bind (beforeM_ev _ _) (E2.neg (by simpa using h6 c) e)))
    · exact E2.neg (by omega) e) (fun i hi hq => by
    refine E2.eq (fun k m => spec_AreMarks.l0_eq k m l _) (E2.pos (by omega) (E2.pos (by omega) (E2.pos (by omega) (E2.bind (l1In_ev _ _ _) ?_))))
    by_cases h1 : 1 ≤ ((rd T110 l (i : Int)).1 : Int) ∧ ((rd T110 l (i : Int)).1 : Int) ≤ 100
    · refine E2.neg (by simpa using h1) (E2.bind (l1In_ev _ _ _) ?_)
      by_cases h2 : 1 ≤ ((rd T110 l (i : Int)).2.1 : Int) ∧ ((rd T110 l (i : Int)).2.1 : Int) ≤ 4
      · refine E2.neg (by simpa using h2) (E2.bind (l1In_ev _ _ _) ?_)
        by_cases h3 : 0 ≤ ((rd T110 l (i : Int)).2.2.1 : Int) ∧ ((rd T110 l (i : Int)).2.2.1 : Int) ≤ 9
        · refine E2.neg (by simpa using h3) (E2.bind (l1In_ev _ _ _) ?_)
          by_cases h4 : 0 ≤ ((rd T110 l (i : Int)).2.2.2.1 : Int) ∧ ((rd T110 l (i : Int)).2.2.2.1 : Int) ≤ 100000
          · refine E2.neg (by simpa using h4) (E2.bind (l1In_ev _ _ _) ?_)
            by_cases h5 : 1 ≤ ((rd T110 l (i : Int)).2.2.2.2.1 : Int) ∧ ((rd T110 l (i : Int)).2.2.2.2.1 : Int) ≤ 99
            · obtain ⟨c, c1⟩ := notM l i hq ⟨h1, h2, h3, h4, h5⟩
              refine E2.neg (by simpa using h5) (E2.pos (by omega) ?_)
              simp only [wrapP c (show i < 9223372036854775807 by omega)]
              exact E2.pos (by omega) (E2.pos (by omega) (E2.bind (beforeM_ev _ _) (E2.pos (by simpa using c1) E2.ret)))
            · exact E2.pos (by simpa using h5) E2.ret
          · exact E2.pos (by simpa using h4) E2.ret
        · exact E2.pos (by simpa using h3) E2.ret
      · exact E2.pos (by simpa using h2) E2.ret
    · exact E2.pos (by simpa using h1) E2.ret)
  exact ⟨r, Ev.eq (fun k => spec_AreMarks_eq k l) (Ev.loop (f := fun k m => spec_AreMarks.l0 k m l 0) er), hr⟩
theorem specMarks_ev (l : List DT110) (hl : l.length ≤ 1048576) : ∃ r, Ev (fun k => spec_AreMarks k l) r ∧ (r = true ↔ marksP l) := specMarksB_ev l (by omega)
theorem implMarksB_ev (l : List DT110) (hl : l.length ≤ 2097152) : ∃ r, Ev (fun k => impl_AreMarks k l) r ∧ (r = true ↔ marksP l) := by
  obtain ⟨r, er, hr⟩ := loop_allR (R := fun i v => E2 (fun k m => impl_AreMarks.l0 k m l l ((List.length l : Nat) : Int) i) v) (n := l.length) (QM l) (decide (((l.length : Nat) : Int) ≤ 30)) (E2.eq (fun k m => impl_AreMarks.l0_eq k m l l _ _) (E2.neg (by omega) E2.ret)) (fun i hi hq v e => by
    obtain ⟨⟨h1, h2, h3, h4, h5⟩, h6⟩ := hq
    refine E2.eq (fun k m => impl_AreMarks.l0_eq k m l l _ _) (E2.pos (by omega) (E2.pos (by omega) (E2.pos (by omega) (E2.bind (inRange_ev _ _ _) (E2.neg (by simpa using h1) (E2.bind (inRange_ev _ _ _) (E2.neg (by simpa using h2) (E2.bind (inRange_ev _ _ _) (E2.neg (by simpa using h3) (E2.bind (inRange_ev _ _ _) (E2.neg (by simpa using h4) (E2.bind (inRange_ev _ _ _) (E2.neg (by simpa using h5) ?_)))))))))))))
    simp only [wrapS (show i < 9223372036854775807 by omega)]
    by_cases c : 0 < i
    · refine E2.pos (by omega) ?_
      simp only [wrapP c (show i < 9223372036854775807 by omega)]
      have := (ordM_lt _ _).2 (h6 c)
      exact E2.pos (by omega) (E2.pos (by omega) (E2.bind (orderM_ev _ _) (E2.neg (by omega) e)))
    · exact E2.neg (by omega) e) (fun i hi hq => by
    refine E2.eq (fun k m => impl_AreMarks.l0_eq k m l l _ _) (E2.pos (by omega) (E2.pos (by omega) (E2.pos (by omega) (E2.bind (inRange_ev _ _ _) ?_))))
    by_cases h1 : 1 ≤ ((rd T110 l (i : Int)).1 : Int) ∧ ((rd T110 l (i : Int)).1 : Int) ≤ 100
    · refine E2.neg (by simpa using h1) (E2.bind (inRange_ev _ _ _) ?_)
      by_cases h2 : 1 ≤ ((rd T110 l (i : Int)).2.1 : Int) ∧ ((rd T110 l (i : Int)).2.1 : Int) ≤ 4
      · refine E2.neg (by simpa using h2) (E2.bind (inRange_ev _ _ _) ?_)
        by_cases h3 : 0 ≤ ((rd T110 l (i : Int)).2.2.1 : Int) ∧ ((rd T110 l (i : Int)).2.2.1 : Int) ≤ 9
        · refine E2.neg (by simpa using h3) (E2.bind (inRange_ev _ _ _) ?_)
          by_cases h4 : 0 ≤ ((rd T110 l (i : Int)).2.2.2.1 : Int) ∧ ((rd T110 l (i : Int)).2.2.2.1 : Int) ≤ 100000
          · refine E2.neg (by simpa using h4) (E2.bind (inRange_ev _ _ _) ?_)
            by_cases h5 : 1 ≤ ((rd T110 l (i : Int)).2.2.2.2.1 : Int) ∧ ((rd T110 l (i : Int)).2.2.2.2.1 : Int) ≤ 99
            · obtain ⟨c, c1⟩ := notM l i hq ⟨h1, h2, h3, h4, h5⟩
              refine E2.neg (by simpa using h5) (E2.pos (by omega) ?_)
              simp only [wrapP c (show i < 9223372036854775807 by omega)]
              have := mt (ordM_lt _ _).1 c1
              exact E2.pos (by omega) (E2.pos (by omega) (E2.bind (orderM_ev _ _) (E2.pos (by omega) E2.ret)))
            · exact E2.pos (by simpa using h5) E2.ret
          · exact E2.pos (by simpa using h4) E2.ret
        · exact E2.pos (by simpa using h3) E2.ret
      · exact E2.pos (by simpa using h2) E2.ret
    · exact E2.pos (by simpa using h1) E2.ret)
  exact ⟨r, Ev.eq (fun k => impl_AreMarks_eq k l) (Ev.loop (f := fun k m => impl_AreMarks.l0 k m l l ((List.length l : Nat) : Int) 0) er), hr⟩
theorem implMarks_ev (l : List DT110) (hl : l.length ≤ 1048576) : ∃ r, Ev (fun k => impl_AreMarks k l) r ∧ (r = true ↔ marksP l) := implMarksB_ev l (by omega)
def QL (l : List DT25) (i : Nat) : Prop := Eq (α := Int) (rd T25 l (i : Int)).1 (i : Int) ∧ (LE.le (α := Int) 1 (rd T25 l (i : Int)).2.1 ∧ LE.le (α := Int) (rd T25 l (i : Int)).2.1 500) ∧ (0 < i → LT.lt (α := Int) (rd T25 l ((i - 1 : Nat) : Int)).2.1 (rd T25 l (i : Int)).2.1)
def lettersP (l : List DT25) : Prop := (∀ i, i < l.length → QL l i) ∧ decide (((l.length : Nat) : Int) ≤ 26) = true
theorem specLetters_ev (l : List DT25) (hl : l.length ≤ 1048576) : ∃ r, Ev (fun k => spec_AreLetters k l) r ∧ (r = true ↔ lettersP l) := by
  obtain ⟨r, er, hr⟩ := loop_allR (R := fun i v => E2 (fun k m => spec_AreLetters.l0 k m l i) v) (n := l.length) (QL l) (decide (((l.length : Nat) : Int) ≤ 26)) (E2.eq (fun k m => spec_AreLetters.l0_eq k m l _) (E2.neg (by omega) E2.ret)) (fun i hi hq v e => by
    obtain ⟨h1, h2, h3⟩ := hq
    refine E2.eq (fun k m => spec_AreLetters.l0_eq k m l _) (E2.pos (by omega) (E2.pos (by omega) (E2.pos (by omega) (E2.neg (fun c => c h1) (E2.pos (by omega) (E2.pos (by omega) (E2.bind (l1In_ev _ _ _) (E2.neg (by simpa using h2) ?_))))))))
    simp only [wrapS (show i < 9223372036854775807 by omega)]
    by_cases c : 0 < i
    · refine E2.pos (by omega) ?_
      simp only [wrapP c (show i < 9223372036854775807 by omega)]
      have := h3 c
      exact E2.pos (by omega) (E2.pos (by omega) (E2.pos (by omega) (E2.pos (by omega) (E2.neg (by omega) e))))
    · exact E2.neg (by omega) e) (fun i hi hq => by
    refine E2.eq (fun k m => spec_AreLetters.l0_eq k m l _) (E2.pos (by omega) (E2.pos (by omega) (E2.pos (by omega) ?_)))
    by_cases h1 : Eq (α := Int) (rd T25 l (i : Int)).1 (i : Int)
    · refine E2.neg (fun c => c h1) (E2.pos (by omega) (E2.pos (by omega) (E2.bind (l1In_ev _ _ _) ?_)))
      by_cases h2 : LE.le (α := Int) 1 (rd T25 l (i : Int)).2.1 ∧ LE.le (α := Int) (rd T25 l (i : Int)).2.1 500
      · have c : 0 < i := by
          rcases Nat.eq_zero_or_pos i with h | h
          · exact absurd ⟨h1, h2, fun h' => by omega⟩ hq
          · exact h
        have h3 : ¬ LT.lt (α := Int) (rd T25 l ((i - 1 : Nat) : Int)).2.1 (rd T25 l (i : Int)).2.1 := fun h => hq ⟨h1, h2, fun _ => h⟩
        refine E2.neg (by simpa using h2) (E2.pos (by omega) ?_)
        simp only [wrapP c (show i < 9223372036854775807 by omega)]
        exact E2.pos (by omega) (E2.pos (by omega) (E2.pos (by omega) (E2.pos (by omega) (E2.pos (by omega) E2.ret))))
      · exact E2.pos (by simpa using h2) E2.ret
    · exact E2.pos h1 E2.ret)
  exact ⟨r, Ev.eq (fun k => spec_AreLetters_eq k l) (Ev.loop (f := fun k m => spec_AreLetters.l0 k m l 0) er), hr⟩
theorem implLetters_ev (l : List DT25) (hl : l.length ≤ 1048576) : ∃ r, Ev (fun k => impl_AreLetters k l) r ∧ (r = true ↔ lettersP l) := by
  obtain ⟨r, er, hr⟩ := loop_allR (R := fun i v => E2 (fun k m => impl_AreLetters.l0 k m l l ((List.length l : Nat) : Int) i) v) (n := l.length) (QL l) (decide (((l.length : Nat) : Int) ≤ 26)) (E2.eq (fun k m => impl_AreLetters.l0_eq k m l l _ _) (E2.neg (by omega) E2.ret)) (fun i hi hq v e => by
    obtain ⟨h1, h2, h3⟩ := hq
    refine E2.eq (fun k m => impl_AreLetters.l0_eq k m l l _ _) (E2.pos (by omega) (E2.pos (by omega) (E2.pos (by omega) (E2.neg (fun c => c h1) (E2.bind (inRange_ev _ _ _) (E2.neg (by simpa using h2) ?_))))))
    simp only [wrapS (show i < 9223372036854775807 by omega)]
    by_cases c : 0 < i
    · refine E2.pos (by omega) ?_
      simp only [wrapP c (show i < 9223372036854775807 by omega)]
      have := h3 c
      exact E2.pos (by omega) (E2.pos (by omega) (E2.neg (by omega) e))
    · exact E2.neg (by omega) e) (fun i hi hq => by
    refine E2.eq (fun k m => impl_AreLetters.l0_eq k m l l _ _) (E2.pos (by omega) (E2.pos (by omega) (E2.pos (by omega) ?_)))
    by_cases h1 : Eq (α := Int) (rd T25 l (i : Int)).1 (i : Int)
    · refine E2.neg (fun c => c h1) (E2.bind (inRange_ev _ _ _) ?_)
      by_cases h2 : LE.le (α := Int) 1 (rd T25 l (i : Int)).2.1 ∧ LE.le (α := Int) (rd T25 l (i : Int)).2.1 500
      · have c : 0 < i := by
          rcases Nat.eq_zero_or_pos i with h | h
          · exact absurd ⟨h1, h2, fun h' => by omega⟩ hq
          · exact h
        have h3 : ¬ LT.lt (α := Int) (rd T25 l ((i - 1 : Nat) : Int)).2.1 (rd T25 l (i : Int)).2.1 := fun h => hq ⟨h1, h2, fun _ => h⟩
        refine E2.neg (by simpa using h2) (E2.pos (by omega) ?_)
        simp only [wrapP c (show i < 9223372036854775807 by omega)]
        exact E2.pos (by omega) (E2.pos (by omega) (E2.pos (by omega) E2.ret))
      · exact E2.pos (by simpa using h2) E2.ret
    · exact E2.pos h1 E2.ret)
  exact ⟨r, Ev.eq (fun k => impl_AreLetters_eq k l) (Ev.loop (f := fun k m => impl_AreLetters.l0 k m l l ((List.length l : Nat) : Int) 0) er), hr⟩
theorem has_ev (l : List Int) (x : Int) (hl : l.length ≤ 1048576) : Ev (fun k => spec_l27Has k l x) (decide (x ∈ l)) := by
  refine dec_of ?_
  obtain ⟨r, er, hr⟩ := loop_anyR (R := fun i v => E2 (fun k m => spec_l27Has.l0 k m l x i) v) (n := l.length) (fun i => Eq (α := Int) (rd (.int .i64) l (i : Int)) x) (E2.eq (fun k m => spec_l27Has.l0_eq k m l x _) (E2.neg (by omega) E2.ret)) (fun i hi hq v e => by
    refine E2.eq (fun k m => spec_l27Has.l0_eq k m l x _) (E2.pos (by omega) (E2.pos (by omega) (E2.pos (by omega) (E2.neg hq ?_))))
    simp only [wrapS (show i < 9223372036854775807 by omega)]; exact e) (fun i hi hq => E2.eq (fun k m => spec_l27Has.l0_eq k m l x _) (E2.pos (by omega) (E2.pos (by omega) (E2.pos (by omega) (E2.pos hq E2.ret)))))
  refine ⟨r, Ev.eq (fun k => spec_l27Has_eq k l x) (Ev.loop (f := fun k m => spec_l27Has.l0 k m l x 0) er), hr.trans ⟨fun ⟨i, hi, h⟩ => ?_, fun h => ?_⟩⟩
  · rw [← h, rd_at hi]; exact List.getElem_mem hi
  · obtain ⟨i, hi, h⟩ := List.mem_iff_getElem.1 h
    exact ⟨i, hi, by rw [rd_at hi]; exact h⟩
theorem index_ev (l : List Int) (x : Int) (hl : l.length ≤ 1048576) : Ev (fun k => slices_Index___int_int k l x) (firstI (fun i => decide (Eq (α := Int) x (rd (.int .i64) l (i : Int)))) l.length) := by
  have er := loop_firstR (R := fun i v => E2 (fun k m => slices_Index___int_int.l0 k m l x ((List.length l : Nat) : Int) i) v) (n := l.length) (fun i => decide (Eq (α := Int) x (rd (.int .i64) l (i : Int)))) (E2.eq (fun k m => slices_Index___int_int.l0_eq k m l x _ _) (E2.neg (by omega) E2.ret)) (fun i hi hq v e => by
    refine E2.eq (fun k m => slices_Index___int_int.l0_eq k m l x _ _) (E2.pos (by omega) (E2.pos (by omega) (E2.pos (by omega) (E2.neg (by simpa using hq) ?_))))
    simp only [wrapS (show i < 9223372036854775807 by omega)]; exact e) (fun i hi hq => E2.eq (fun k m => slices_Index___int_int.l0_eq k m l x _ _) (E2.pos (by omega) (E2.pos (by omega) (E2.pos (by omega) (E2.pos (by simpa using hq) E2.ret)))))
  exact Ev.eq (fun k => slices_Index___int_int_eq k l x) (Ev.loop (f := fun k m => slices_Index___int_int.l0 k m l x ((List.length l : Nat) : Int) 0) er)
theorem contains_ev (l : List Int) (x : Int) (hl : l.length ≤ 1048576) : Ev (fun k => slices_Contains___int_int k l x) (decide (x ∈ l)) := by
  refine Ev.eq (fun k => slices_Contains___int_int_eq k l x) (Ev.bind (index_ev l x hl) (Ev.ret.val ?_))
  rw [Bool.eq_iff_iff, decide_eq_true_eq, decide_eq_true_eq, firstI_nonneg]
  constructor
  · rintro ⟨i, hi, h⟩
    have h : x = rd (.int .i64) l (i : Int) := by simpa using h
    rw [h, rd_at hi]; exact List.getElem_mem hi
  · intro h
    obtain ⟨i, hi, h⟩ := List.mem_iff_getElem.1 h
    exact ⟨i, hi, by rw [decide_eq_true_eq, rd_at hi]; exact h.symm⟩
def ofVoice (v : Int) (e : DT60) : Bool := decide ((e.2.2.2.1 : Int) = v)
theorem specVoice_ev (l : List DT60) (v : Int) (hl : l.length ≤ 1048576) : Ev (fun k => spec_VoiceOf k l v) (l.filter (ofVoice v)) := by
  have er := loop_filterR (t := T60) (l := l) (R := fun i s r => E2 (fun k m => spec_VoiceOf.l0 k m l v i s) r) (ofVoice v) (fun s => E2.eq (fun k m => spec_VoiceOf.l0_eq k m l v _ s) (E2.neg (by omega) E2.ret)) (fun i s hi hs hq r e => by
    refine E2.eq (fun k m => spec_VoiceOf.l0_eq k m l v _ s) (E2.pos (by omega) (E2.pos (by omega) (E2.pos (by omega) (E2.pos (of_decide_eq_true hq) (E2.pos (by omega) (E2.pos (by omega) (E2.pos (by simp only [List.length_cons, List.length_nil]; omega) ?_)))))))
    simp only [wrapS (show i < 9223372036854775807 by omega)]; exact e) (fun i s hi hs hq r e => by
    refine E2.eq (fun k m => spec_VoiceOf.l0_eq k m l v _ s) (E2.pos (by omega) (E2.pos (by omega) (E2.pos (by omega) (E2.neg (of_decide_eq_false hq) ?_))))
    simp only [wrapS (show i < 9223372036854775807 by omega)]; exact e)
  exact Ev.eq (fun k => spec_VoiceOf_eq k l v) (Ev.loop (f := fun k m => spec_VoiceOf.l0 k m l v 0 []) er)
theorem del_ev (e : DT60) (v : Int) : Ev (fun k => impl_VoiceOf_1 k e v) (! ofVoice v e) := by
  refine Ev.eq (fun k => impl_VoiceOf_1_eq k e v) (Ev.ret.val ?_)
  unfold ofVoice
  simp
theorem delete_ev (l : List DT60) (v : Int) (hl : l.length ≤ 1048576) : Ev (fun k => slices_DeleteFunc_impl_Event_81 k l v) (l.filter (ofVoice v)) := by
  have ei : Ev (fun k => slices_IndexFunc_impl_Event_81 k l v) (firstI (fun i => ! ofVoice v (rd T60 l (i : Int))) l.length) := by
    have er := loop_firstR (R := fun i r => E2 (fun k m => slices_IndexFunc_impl_Event_81.l0 k m l v ((List.length l : Nat) : Int) i) r) (n := l.length) (fun i => ! ofVoice v (rd T60 l (i : Int))) (E2.eq (fun k m => slices_IndexFunc_impl_Event_81.l0_eq k m l v _ _) (E2.neg (by omega) E2.ret)) (fun i hi hq r e => by
      refine E2.eq (fun k m => slices_IndexFunc_impl_Event_81.l0_eq k m l v _ _) (E2.pos (by omega) (E2.pos (by omega) (E2.pos (by omega) (E2.bind (del_ev _ _) (E2.neg (by rw [hq]; simp) ?_)))))
      simp only [wrapS (show i < 9223372036854775807 by omega)]; exact e) (fun i hi hq => E2.eq (fun k m => slices_IndexFunc_impl_Event_81.l0_eq k m l v _ _) (E2.pos (by omega) (E2.pos (by omega) (E2.pos (by omega) (E2.bind (del_ev _ _) (E2.pos hq E2.ret))))))
    exact Ev.eq (fun k => slices_IndexFunc_impl_Event_81_eq k l v) (Ev.loop (f := fun k m => slices_IndexFunc_impl_Event_81.l0 k m l v ((List.length l : Nat) : Int) 0) er)
  refine Ev.eq (fun k => slices_DeleteFunc_impl_Event_81_eq k l v) (Ev.bind ei ?_)
  rcases firstI_spec (fun i => ! ofVoice v (rd T60 l (i : Int))) l.length with ⟨h, hall⟩ | ⟨r, h, hr, h1, h0⟩
  · refine Ev.pos h (Ev.ret.val ?_)
    symm
    rw [List.filter_eq_self]
    intro x hx
    obtain ⟨i, hi, rfl⟩ := List.mem_iff_getElem.1 hx
    have := hall i hi
    rw [rd_at hi] at this
    simpa using this
  · rw [h]
    refine Ev.neg (by omega) ?_
    rw [wrapS (by omega)]
    refine Ev.loop (f := fun k m => slices_DeleteFunc_impl_Event_81.l0 k m v (r : Int) ((r + 1 : Nat) : Int) l) ?_
    refine loop_deleteR (t := T60) (l := l) (R := fun i j s w => E2 (fun k m => slices_DeleteFunc_impl_Event_81.l0 k m v i j s) w) (ofVoice v) (fun i s hi hs => ?_) (fun i j s hij hj hs hq w e => ?_) (fun i j s hij hj hs hq w e => ?_) r hr (fun j hj => by simpa using h0 j hj) (by simpa using h1)
    · refine E2.eq (fun k m => slices_DeleteFunc_impl_Event_81.l0_eq k m v _ _ s) (E2.neg (by omega) (E2.pos (by omega) (E2.pos (by omega) (E2.pos (by omega) (E2.pos ?_ (E2.ret.val ?_))))))
      · simp only [List.length_append, List.length_take, List.length_replicate, List.length_drop, Int.toNat_natCast]
        omega
      · simp only [Int.toNat_natCast, show Int.toNat 0 = 0 from rfl, Nat.sub_zero, List.drop_zero]
        rw [List.append_assoc, List.take_append_of_le_length (by simp; omega), List.take_take, Nat.min_self]
    · refine E2.eq (fun k m => slices_DeleteFunc_impl_Event_81.l0_eq k m v _ _ s) (E2.pos (by omega) (E2.pos (by omega) (E2.pos (by omega) (E2.bind (del_ev _ _) (E2.pos (by rw [hq]; simp) (E2.pos (by omega) (E2.pos (by omega) ?_)))))))
      simp only [wrapS (show i < 9223372036854775807 by omega), wrapS (show j < 9223372036854775807 by omega), Int.toNat_natCast]; exact e
    · refine E2.eq (fun k m => slices_DeleteFunc_impl_Event_81.l0_eq k m v _ _ s) (E2.pos (by omega) (E2.pos (by omega) (E2.pos (by omega) (E2.bind (del_ev _ _) (E2.neg (by rw [hq]; simp) ?_)))))
      simp only [wrapS (show j < 9223372036854775807 by omega)]; exact e
theorem cloneE_ev (l : List DT60) (hl : l.length ≤ 1048576) : Ev (fun k => impl_clone_impl_Event k l) l :=
  Ev.eq (fun k => impl_clone_impl_Event_eq k l) (Ev.pos (by simp only [List.length_nil]; omega) (Ev.ret.val (by simp)))
theorem implVoice_ev (l : List DT60) (v : Int) (hl : l.length ≤ 1048576) : Ev (fun k => impl_VoiceOf k l v) (l.filter (ofVoice v)) :=
  Ev.eq (fun k => impl_VoiceOf_eq k l v) (Ev.bind (cloneE_ev l hl) (Ev.bind (delete_ev l v hl) Ev.ret))
def QF (lo hi : Int) (l : List DT60) (i : Nat) : Prop := LE.le (α := Int) lo (rd T60 l (i : Int)).2.2.1 ∧ LE.le (α := Int) (rd T60 l (i : Int)).2.2.1 hi
def fitsP (l : List DT60) (lo hi : Int) : Prop := (∀ i, i < l.length → QF lo hi l i) ∧ decide (scoreP l) = true
theorem specFits_ev (l : List DT60) (lo hi : Int) (hl : l.length ≤ 1048576) : ∃ r, Ev (fun k => spec_FitsRange k l lo hi) r ∧ (r = true ↔ fitsP l lo hi) := by
  obtain ⟨r, er, hr⟩ := loop_allR (R := fun i v => E2 (fun k m => spec_FitsRange.l0 k m l lo hi i) v) (n := l.length) (QF lo hi l) (decide (scoreP l)) (E2.eq (fun k m => spec_FitsRange.l0_eq k m l lo hi _) (E2.neg (by omega) (E2.bind (specScore_ev l hl) (E2.ret.val (by simp))))) (fun i hi' hq v e => by
    refine E2.eq (fun k m => spec_FitsRange.l0_eq k m l lo hi _) (E2.pos (by omega) (E2.pos (by omega) (E2.pos (by omega) (E2.bind (l1In_ev _ _ _) (E2.neg (by simpa [QF] using hq) ?_)))))
    simp only [wrapS (show i < 9223372036854775807 by omega)]; exact e) (fun i hi' hq => E2.eq (fun k m => spec_FitsRange.l0_eq k m l lo hi _) (E2.pos (by omega) (E2.pos (by omega) (E2.pos (by omega) (E2.bind (l1In_ev _ _ _) (E2.pos (by simp only [decide_eq_true_eq]; exact hq) E2.ret))))))
  exact ⟨r, Ev.eq (fun k => spec_FitsRange_eq k l lo hi) (Ev.loop (f := fun k m => spec_FitsRange.l0 k m l lo hi 0) er), hr⟩
theorem implFits_ev (l : List DT60) (lo hi : Int) (hl : l.length ≤ 1048576) : ∃ r, Ev (fun k => impl_FitsRange k l lo hi) r ∧ (r = true ↔ fitsP l lo hi) := by
  obtain ⟨r, er, hr⟩ := loop_allR (R := fun i v => E2 (fun k m => impl_FitsRange.l0 k m l lo hi l ((List.length l : Nat) : Int) i) v) (n := l.length) (QF lo hi l) (decide (scoreP l)) (E2.eq (fun k m => impl_FitsRange.l0_eq k m l lo hi l _ _) (E2.neg (by omega) (E2.bind (implScore_ev l hl) (E2.ret.val (by simp))))) (fun i hi' hq v e => by
    refine E2.eq (fun k m => impl_FitsRange.l0_eq k m l lo hi l _ _) (E2.pos (by omega) (E2.pos (by omega) (E2.pos (by omega) (E2.bind (inRange_ev _ _ _) (E2.neg (by simpa [QF] using hq) ?_)))))
    simp only [wrapS (show i < 9223372036854775807 by omega)]; exact e) (fun i hi' hq => E2.eq (fun k m => impl_FitsRange.l0_eq k m l lo hi l _ _) (E2.pos (by omega) (E2.pos (by omega) (E2.pos (by omega) (E2.bind (inRange_ev _ _ _) (E2.pos (by simp only [decide_eq_true_eq]; exact hq) E2.ret))))))
  exact ⟨r, Ev.eq (fun k => impl_FitsRange_eq k l lo hi) (Ev.loop (f := fun k m => impl_FitsRange.l0 k m l lo hi l ((List.length l : Nat) : Int) 0) er), hr⟩
def canP (p : DT93) (l : List DT60) (v : Int) : Prop := (v : Int) ∈ p.2.2.2.1 ∧ scoreP l ∧ fitsP (l.filter (ofVoice v)) p.2.1 p.2.2.1
theorem filter_le (l : List DT60) (v : Int) (hl : l.length ≤ 1048576) : (l.filter (ofVoice v)).length ≤ 1048576 := Nat.le_trans (List.length_filter_le _ _) hl
theorem specCan_ev (p : DT93) (l : List DT60) (v : Int) (hp : p.2.2.2.1.length ≤ 1048576) (hl : l.length ≤ 1048576) : ∃ r, Ev (fun k => spec_CanPlay k p l v) r ∧ (r = true ↔ canP p l v) := by
  unfold canP
  by_cases c1 : (v : Int) ∈ p.2.2.2.1
  · by_cases c2 : scoreP l
    · obtain ⟨r, er, hr⟩ := specFits_ev (l.filter (ofVoice v)) p.2.1 p.2.2.1 (filter_le l v hl)
      exact ⟨r, Ev.eq (fun k => spec_CanPlay_eq k p l v) (Ev.bind (has_ev _ _ hp) (Ev.pos (by simpa using c1) (Ev.bind (specScore_ev l hl) (Ev.pos (by simpa using c2) (Ev.bind (specVoice_ev l v hl) (Ev.bind er (Ev.ret.val (by simp)))))))), by rw [hr]; exact ⟨fun h => ⟨c1, c2, h⟩, fun h => h.2.2⟩⟩
    · exact ⟨false, Ev.eq (fun k => spec_CanPlay_eq k p l v) (Ev.bind (has_ev _ _ hp) (Ev.pos (by simpa using c1) (Ev.bind (specScore_ev l hl) (Ev.neg (by simpa using c2) Ev.ret)))), by simp only [Bool.false_eq_true, false_iff]; exact fun h => c2 h.2.1⟩
  · exact ⟨false, Ev.eq (fun k => spec_CanPlay_eq k p l v) (Ev.bind (has_ev _ _ hp) (Ev.neg (by simpa using c1) Ev.ret)), by simp only [Bool.false_eq_true, false_iff]; exact fun h => c1 h.1⟩
theorem implCan_ev (p : DT93) (l : List DT60) (v : Int) (hp : p.2.2.2.1.length ≤ 1048576) (hl : l.length ≤ 1048576) : ∃ r, Ev (fun k => impl_CanPlay k p l v) r ∧ (r = true ↔ canP p l v) := by
  unfold canP
  by_cases c1 : (v : Int) ∈ p.2.2.2.1
  · by_cases c2 : scoreP l
    · obtain ⟨r, er, hr⟩ := implFits_ev (l.filter (ofVoice v)) p.2.1 p.2.2.1 (filter_le l v hl)
      exact ⟨r, Ev.eq (fun k => impl_CanPlay_eq k p l v) (Ev.bind (contains_ev _ _ hp) (Ev.pos (by simpa using c1) (Ev.bind (implScore_ev l hl) (Ev.pos (by simpa using c2) (Ev.bind (implVoice_ev l v hl) (Ev.bind er (Ev.ret.val (by simp)))))))), by rw [hr]; exact ⟨fun h => ⟨c1, c2, h⟩, fun h => h.2.2⟩⟩
    · exact ⟨false, Ev.eq (fun k => impl_CanPlay_eq k p l v) (Ev.bind (contains_ev _ _ hp) (Ev.pos (by simpa using c1) (Ev.bind (implScore_ev l hl) (Ev.neg (by simpa using c2) Ev.ret)))), by simp only [Bool.false_eq_true, false_iff]; exact fun h => c2 h.2.1⟩
  · exact ⟨false, Ev.eq (fun k => impl_CanPlay_eq k p l v) (Ev.bind (contains_ev _ _ hp) (Ev.neg (by simpa using c1) Ev.ret)), by simp only [Bool.false_eq_true, false_iff]; exact fun h => c1 h.1⟩
def QA (lo hi : Int) (l : List Int) (i : Nat) : Prop := (LE.le (α := Int) lo (rd (.int .i64) l (i : Int)) ∧ LE.le (α := Int) (rd (.int .i64) l (i : Int)) hi) ∧ (0 < i → LT.lt (α := Int) (rd (.int .i64) l ((i - 1 : Nat) : Int)) (rd (.int .i64) l (i : Int)))
def ascP (l : List Int) (lo hi : Int) : Prop := ∀ i, i < l.length → QA lo hi l i
theorem notA {lo hi : Int} {l : List Int} {i : Nat} (h : ¬ QA lo hi l i) (h1 : LE.le (α := Int) lo (rd (.int .i64) l (i : Int)) ∧ LE.le (α := Int) (rd (.int .i64) l (i : Int)) hi) : 0 < i ∧ ¬ LT.lt (α := Int) (rd (.int .i64) l ((i - 1 : Nat) : Int)) (rd (.int .i64) l (i : Int)) := by
  refine ⟨?_, fun c => h ⟨h1, fun _ => c⟩⟩
  rcases Nat.eq_zero_or_pos i with hi | hi
  · exact absurd ⟨h1, fun h' => by omega⟩ h
  · exact hi
theorem asc_ev (l : List Int) (lo hi : Int) (hl : l.length ≤ 1048576) : ∃ r, Ev (fun k => impl_ascending k l lo hi) r ∧ (r = true ↔ ascP l lo hi) := by
  obtain ⟨r, er, hr⟩ := loop_allR (R := fun i v => E2 (fun k m => impl_ascending.l0 k m l lo hi l ((List.length l : Nat) : Int) i) v) (n := l.length) (QA lo hi l) true (E2.eq (fun k m => impl_ascending.l0_eq k m l lo hi l _ _) (E2.neg (by omega) E2.ret)) (fun i hi' hq v e => by
    obtain ⟨h1, h2⟩ := hq
    refine E2.eq (fun k m => impl_ascending.l0_eq k m l lo hi l _ _) (E2.pos (by omega) (E2.pos (by omega) (E2.pos (by omega) (E2.bind (inRange_ev _ _ _) (E2.neg (by simpa using h1) ?_)))))
    simp only [wrapS (show i < 9223372036854775807 by omega)]
    by_cases c : 0 < i
    · refine E2.pos (by omega) ?_
      simp only [wrapP c (show i < 9223372036854775807 by omega)]
      have := h2 c
      exact E2.pos (by omega) (E2.pos (by omega) (E2.neg (by omega) e))
    · exact E2.neg (by omega) e) (fun i hi' hq => by
    refine E2.eq (fun k m => impl_ascending.l0_eq k m l lo hi l _ _) (E2.pos (by omega) (E2.pos (by omega) (E2.pos (by omega) (E2.bind (inRange_ev _ _ _) ?_))))
    by_cases h1 : LE.le (α := Int) lo (rd (.int .i64) l (i : Int)) ∧ LE.le (α := Int) (rd (.int .i64) l (i : Int)) hi
    · obtain ⟨c, c1⟩ := notA hq h1
      refine E2.neg (by simpa using h1) (E2.pos (by omega) ?_)
      simp only [wrapP c (show i < 9223372036854775807 by omega)]
      exact E2.pos (by omega) (E2.pos (by omega) (E2.pos (by omega) E2.ret))
    · exact E2.pos (by simp only [decide_eq_true_eq]; exact h1) E2.ret)
  exact ⟨r, Ev.eq (fun k => impl_ascending_eq k l lo hi) (Ev.loop (f := fun k m => impl_ascending.l0 k m l lo hi l ((List.length l : Nat) : Int) 0) er), hr.trans ⟨fun h => h.1, fun h => ⟨h, rfl⟩⟩⟩
/-- A player alone, as the program tests it ahead of the Ids. -/
def okP (p : DT93) : Prop := (21 ≤ (p.2.1 : Int) ∧ (p.2.1 : Int) ≤ p.2.2.1) ∧ (p.2.2.1 : Int) ≤ 108 ∧ ascP p.2.2.2.1 1 4
def QP (l : List DT93) (i : Nat) : Prop := okP (rd T93 l (i : Int)) ∧ (1 ≤ ((rd T93 l (i : Int)).1 : Int) ∧ ((rd T93 l (i : Int)).1 : Int) ≤ 99) ∧ (0 < i → LT.lt (α := Int) (rd T93 l ((i - 1 : Nat) : Int)).1 (rd T93 l (i : Int)).1)
def playersP (l : List DT93) : Prop := (∀ i, i < l.length → QP l i) ∧ decide (((l.length : Nat) : Int) ≤ 8) = true
/-- No row is longer than the law allows. -/
def SmP (l : List DT93) : Prop := l.length ≤ 1048576 ∧ ∀ i : Nat, i < l.length → (rd T93 l (i : Int)).2.2.2.1.length ≤ 1048576
theorem specPl_in (l : List DT93) (i : Nat) (a b c : Int) (vs : List Int) (hv : vs.length ≤ 1048576) (hi : i < l.length) (hl : l.length ≤ 1048576) (x : Bool) (e : E2 (fun k n => spec_ArePlayers.l0 k n l ((i + 1 : Nat) : Int)) x) :
    ∃ r, E2 (fun k n => spec_ArePlayers.l1 k k n l (i : Int) 0 a b c vs) r ∧ (r = true ↔ ascP vs 1 4 ∧ x = true) := by
  obtain ⟨r, er, hr⟩ := loop_allR (R := fun j v => E3 (fun k m n => spec_ArePlayers.l1 k m n l (i : Int) j a b c vs) v) (n := vs.length) (QA 1 4 vs) x (by
    refine E3.eq (fun k m n => spec_ArePlayers.l1_eq k m n l (i : Int) _ a b c vs) (E3.neg (by omega) ?_)
    simp only [wrapS (show i < 9223372036854775807 by omega)]
    exact E3.out e) (fun j hj hq v e => by
    obtain ⟨h1, h2⟩ := hq
    refine E3.eq (fun k m n => spec_ArePlayers.l1_eq k m n l (i : Int) _ a b c vs) (E3.pos (by omega) (E3.pos (by omega) (E3.pos (by omega) (E3.bind (l1In_ev _ _ _) (E3.neg (by simpa using h1) ?_)))))
    simp only [wrapS (show j < 9223372036854775807 by omega)]
    by_cases c : 0 < j
    · refine E3.pos (by omega) ?_
      simp only [wrapP c (show j < 9223372036854775807 by omega)]
      have := h2 c
      exact E3.pos (by omega) (E3.pos (by omega) (E3.pos (by omega) (E3.pos (by omega) (E3.neg (by omega) e))))
    · exact E3.neg (by omega) e) (fun j hj hq => by
    refine E3.eq (fun k m n => spec_ArePlayers.l1_eq k m n l (i : Int) _ a b c vs) (E3.pos (by omega) (E3.pos (by omega) (E3.pos (by omega) (E3.bind (l1In_ev _ _ _) ?_))))
    by_cases h1 : LE.le (α := Int) 1 (rd (.int .i64) vs (j : Int)) ∧ LE.le (α := Int) (rd (.int .i64) vs (j : Int)) 4
    · obtain ⟨c, c1⟩ := notA hq h1
      refine E3.neg (by simpa using h1) (E3.pos (by omega) ?_)
      simp only [wrapP c (show j < 9223372036854775807 by omega)]
      exact E3.pos (by omega) (E3.pos (by omega) (E3.pos (by omega) (E3.pos (by omega) (E3.pos (by omega) E3.ret))))
    · exact E3.pos (by simp only [decide_eq_true_eq]; exact h1) E3.ret)
  exact ⟨r, E3.loop (f := fun k m n => spec_ArePlayers.l1 k m n l (i : Int) 0 a b c vs) er, hr⟩
theorem specPlayers_ev (l : List DT93) (hs : SmP l) : ∃ r, Ev (fun k => spec_ArePlayers k l) r ∧ (r = true ↔ playersP l) := by
  have hl := hs.1
  have key : ∀ d i, i + d = l.length → ∃ r, E2 (fun k m => spec_ArePlayers.l0 k m l (i : Int)) r ∧ (r = true ↔ (∀ j, i ≤ j → j < l.length → QP l j) ∧ decide (((l.length : Nat) : Int) ≤ 8) = true) := by
    intro d
    induction d with
    | zero =>
      intro i hi
      exact ⟨_, E2.eq (fun k m => spec_ArePlayers.l0_eq k m l _) (E2.neg (by omega) E2.ret), ⟨fun h => ⟨fun j _ _ => by omega, h⟩, fun h => h.2⟩⟩
    | succ d ih =>
      intro i hi
      have hlt : i < l.length := by omega
      obtain ⟨x, ex, hx⟩ := ih (i + 1) (by omega)
      have stop : (∃ e : E2 (fun k m => spec_ArePlayers.l0 k m l (i : Int)) false, True) → ¬ QP l i → ∃ r, E2 (fun k m => spec_ArePlayers.l0 k m l (i : Int)) r ∧ (r = true ↔ (∀ j, i ≤ j → j < l.length → QP l j) ∧ decide (((l.length : Nat) : Int) ≤ 8) = true) := fun ⟨e, _⟩ h =>
        ⟨false, e, by simp only [Bool.false_eq_true, false_iff]; exact fun c => h (c.1 i (Nat.le_refl _) hlt)⟩
      have st : ∀ {f : Nat → Nat → Option Bool} {v : Bool}, (∀ k m, spec_ArePlayers.l0 k (m + 1) l (i : Int) = f k m) → E2 f v → E2 (fun k m => spec_ArePlayers.l0 k m l (i : Int)) v := fun h e => E2.eq h e
      by_cases h1 : LE.le (α := Int) 1 (rd T93 l (i : Int)).1 ∧ LE.le (α := Int) (rd T93 l (i : Int)).1 99
      · by_cases h2 : LE.le (α := Int) 21 (rd T93 l (i : Int)).2.1
        · by_cases h3 : LE.le (α := Int) (rd T93 l (i : Int)).2.1 (rd T93 l (i : Int)).2.2.1
          · by_cases h4 : LE.le (α := Int) (rd T93 l (i : Int)).2.2.1 108
            · obtain ⟨r, er, hr⟩ := specPl_in l i (rd T93 l (i : Int)).1 (rd T93 l (i : Int)).2.1 (rd T93 l (i : Int)).2.2.1 (rd T93 l (i : Int)).2.2.2.1 (hs.2 i hlt) hlt hl x ex
              by_cases c : 0 < i
              · by_cases h5 : LT.lt (α := Int) (rd T93 l ((i - 1 : Nat) : Int)).1 (rd T93 l (i : Int)).1
                · refine ⟨r, E2.eq (fun k m => spec_ArePlayers.l0_eq k m l _) (E2.pos (by omega) (E2.pos (by omega) (E2.pos (by omega) (E2.bind (l1In_ev _ _ _) (E2.neg (by simpa using h1) (E2.neg (by omega) (E2.neg (by omega) (E2.neg (by omega) (E2.pos (by omega) ?_))))))))), hr.trans ⟨fun ⟨h6, h7⟩ => ⟨fun j hj1 hj2 => ?_, (hx.1 h7).2⟩, fun h => ⟨(h.1 i (Nat.le_refl _) hlt).1.2.2, hx.2 ⟨fun j hj1 hj2 => h.1 j (by omega) hj2, h.2⟩⟩⟩⟩
                  · simp only [wrapP c (show i < 9223372036854775807 by omega)]
                    exact E2.pos (by omega) (E2.pos (by omega) (E2.neg (by omega) er))
                  · by_cases hji : j = i
                    · subst hji; exact ⟨⟨⟨h2, h3⟩, h4, h6⟩, h1, fun _ => h5⟩
                    · exact (hx.1 h7).1 j (by omega) hj2
                · refine stop ⟨E2.eq (fun k m => spec_ArePlayers.l0_eq k m l _) (E2.pos (by omega) (E2.pos (by omega) (E2.pos (by omega) (E2.bind (l1In_ev _ _ _) (E2.neg (by simpa using h1) (E2.neg (by omega) (E2.neg (by omega) (E2.neg (by omega) (E2.pos (by omega) ?_))))))))), trivial⟩ (fun h => h5 (h.2.2 c))
                  simp only [wrapP c (show i < 9223372036854775807 by omega)]
                  exact E2.pos (by omega) (E2.pos (by omega) (E2.pos (by omega) E2.ret))
              · refine ⟨r, E2.eq (fun k m => spec_ArePlayers.l0_eq k m l _) (E2.pos (by omega) (E2.pos (by omega) (E2.pos (by omega) (E2.bind (l1In_ev _ _ _) (E2.neg (by simpa using h1) (E2.neg (by omega) (E2.neg (by omega) (E2.neg (by omega) (E2.neg (by omega) er))))))))), hr.trans ⟨fun ⟨h6, h7⟩ => ⟨fun j hj1 hj2 => ?_, (hx.1 h7).2⟩, fun h => ⟨(h.1 i (Nat.le_refl _) hlt).1.2.2, hx.2 ⟨fun j hj1 hj2 => h.1 j (by omega) hj2, h.2⟩⟩⟩⟩
                by_cases hji : j = i
                · subst hji; exact ⟨⟨⟨h2, h3⟩, h4, h6⟩, h1, fun h => absurd h c⟩
                · exact (hx.1 h7).1 j (by omega) hj2
            · exact stop ⟨E2.eq (fun k m => spec_ArePlayers.l0_eq k m l _) (E2.pos (by omega) (E2.pos (by omega) (E2.pos (by omega) (E2.bind (l1In_ev _ _ _) (E2.neg (by simpa using h1) (E2.neg (by omega) (E2.neg (by omega) (E2.pos (by omega) E2.ret)))))))), trivial⟩ (fun h => h4 h.1.2.1)
          · exact stop ⟨E2.eq (fun k m => spec_ArePlayers.l0_eq k m l _) (E2.pos (by omega) (E2.pos (by omega) (E2.pos (by omega) (E2.bind (l1In_ev _ _ _) (E2.neg (by simpa using h1) (E2.neg (by omega) (E2.pos (by omega) E2.ret))))))), trivial⟩ (fun h => h3 h.1.1.2)
        · exact stop ⟨E2.eq (fun k m => spec_ArePlayers.l0_eq k m l _) (E2.pos (by omega) (E2.pos (by omega) (E2.pos (by omega) (E2.bind (l1In_ev _ _ _) (E2.neg (by simpa using h1) (E2.pos (by omega) E2.ret)))))), trivial⟩ (fun h => h2 h.1.1.1)
      · exact stop ⟨E2.eq (fun k m => spec_ArePlayers.l0_eq k m l _) (E2.pos (by omega) (E2.pos (by omega) (E2.pos (by omega) (E2.bind (l1In_ev _ _ _) (E2.pos (by simp only [decide_eq_true_eq]; exact h1) E2.ret))))), trivial⟩ (fun h => h1 h.2.1)
  obtain ⟨r, er, hr⟩ := key l.length 0 (by omega)
  exact ⟨r, Ev.eq (fun k => spec_ArePlayers_eq k l) (Ev.loop (f := fun k m => spec_ArePlayers.l0 k m l 0) er), hr.trans ⟨fun h => ⟨fun i hi => h.1 i (Nat.zero_le _) hi, h.2⟩, fun h => ⟨fun i _ hi => h.1 i hi, h.2⟩⟩⟩
def idsOfP (l : List DT93) : List Int := l.map fun p => p.1
theorem idsOfP_rd {l : List DT93} {i : Nat} (h : i < l.length) : Eq (α := Int) (rd (.int .i64) (idsOfP l) (i : Int)) (rd T93 l (i : Int)).1 := by
  unfold idsOfP
  rw [rd_at (by simpa using h), rd_at h]
  simp
theorem implPlayers_ev (l : List DT93) (hs : SmP l) : ∃ r, Ev (fun k => impl_ArePlayers k l) r ∧ (r = true ↔ playersP l) := by
  have hl := hs.1
  obtain ⟨a, ea, ha⟩ := asc_ev (idsOfP l) 1 99 (by unfold idsOfP; simpa using hl)
  obtain ⟨r, er, hr⟩ := loop_allR (R := fun i v => E2 (fun k m => impl_ArePlayers.l0 k m l l ((List.length l : Nat) : Int) i (idsOfP (l.take i.toNat))) v) (n := l.length) (fun i => okP (rd T93 l (i : Int))) (decide (((l.length : Nat) : Int) ≤ 8 ∧ a = true)) (by
    refine E2.eq (fun k m => impl_ArePlayers.l0_eq k m l l _ _ _) (E2.neg (by omega) ?_)
    rw [Int.toNat_natCast, List.take_length]
    by_cases c : ((l.length : Nat) : Int) ≤ 8
    · exact E2.pos c (E2.bind ea (E2.ret.val (by simp [c])))
    · exact E2.neg c (E2.ret.val (by simp [c]))) (fun i hi hq v e => by
    obtain ⟨h1, h2, h3⟩ := hq
    obtain ⟨b, eb, hb⟩ := asc_ev (rd T93 l (i : Int)).2.2.2.1 1 4 (hs.2 i hi)
    have hlen : (idsOfP (l.take ((i : Int)).toNat)).length = i := by unfold idsOfP; simp; omega
    refine E2.eq (fun k m => impl_ArePlayers.l0_eq k m l l _ _ _) (E2.pos (by omega) (E2.pos (by omega) (E2.pos (by omega) (E2.bind (inRange_ev _ _ _) (E2.neg (by simpa using h1) (E2.neg (Int.not_lt.2 h2) (E2.bind eb (E2.neg (by simpa using hb.2 h3) (E2.pos (by rw [hlen]; simp only [List.length_cons, List.length_nil]; omega) ?_)))))))))
    simp only [wrapS (show i < 9223372036854775807 by omega)]
    have he : idsOfP (l.take ((i : Int)).toNat) ++ [(rd T93 l (i : Int)).1] = idsOfP (l.take (((i + 1 : Nat) : Int)).toNat) := by
      unfold idsOfP
      rw [Int.toNat_natCast, Int.toNat_natCast, List.take_succ_eq_append_getElem hi, rd_at hi, List.map_append]
      rfl
    rw [he]
    exact e) (fun i hi hq => by
    obtain ⟨b, eb, hb⟩ := asc_ev (rd T93 l (i : Int)).2.2.2.1 1 4 (hs.2 i hi)
    refine E2.eq (fun k m => impl_ArePlayers.l0_eq k m l l _ _ _) (E2.pos (by omega) (E2.pos (by omega) (E2.pos (by omega) (E2.bind (inRange_ev _ _ _) ?_))))
    by_cases h1 : LE.le (α := Int) 21 (rd T93 l (i : Int)).2.1 ∧ LE.le (α := Int) (rd T93 l (i : Int)).2.1 (rd T93 l (i : Int)).2.2.1
    · refine E2.neg (by simpa using h1) ?_
      by_cases h2 : LE.le (α := Int) (rd T93 l (i : Int)).2.2.1 108
      · exact E2.neg (by omega) (E2.bind eb (E2.pos (fun c => hq ⟨h1, h2, hb.1 c⟩) E2.ret))
      · exact E2.pos (by omega) E2.ret
    · exact E2.pos (by simp only [decide_eq_true_eq]; exact h1) E2.ret)
  have er' : E2 (fun k m => impl_ArePlayers.l0 k m l l ((List.length l : Nat) : Int) 0 []) r := er
  refine ⟨r, Ev.eq (fun k => impl_ArePlayers_eq k l) (Ev.loop (f := fun k m => impl_ArePlayers.l0 k m l l ((List.length l : Nat) : Int) 0 []) er'), hr.trans ?_⟩
  unfold playersP
  rw [decide_eq_true_eq, decide_eq_true_eq, ha]
  unfold ascP
  have hlen : (idsOfP l).length = l.length := by unfold idsOfP; simp
  rw [hlen]
  constructor
  · rintro ⟨h1, h2, h3⟩
    refine ⟨fun i hi => ?_, h2⟩
    obtain ⟨k1, k2⟩ := h3 i hi
    rw [idsOfP_rd hi] at k1
    refine ⟨h1 i hi, k1, fun c => ?_⟩
    have := k2 c
    rw [idsOfP_rd hi, idsOfP_rd (show i - 1 < l.length by omega)] at this
    exact this
  · rintro ⟨h1, h2⟩
    refine ⟨fun i hi => (h1 i hi).1, h2, fun i hi => ?_⟩
    obtain ⟨k1, k2, k3⟩ := h1 i hi
    refine ⟨by rw [idsOfP_rd hi]; exact k2, fun c => ?_⟩
    rw [idsOfP_rd hi, idsOfP_rd (show i - 1 < l.length by omega)]
    exact k3 c
def sitsP (l : List DT93) (sc : List DT60) (x v : Int) (j : Nat) : Prop := Eq (α := Int) (rd T93 l (j : Int)).1 x ∧ canP (rd T93 l (j : Int)) sc v
def QI (l : List DT93) (sc : List DT60) (seats : List Int) (i : Nat) : Prop := (∃ j, j < l.length ∧ sitsP l sc (rd (.int .i64) seats (i : Int)) ((i + 1 : Nat) : Int) j) ∧ ¬ (rd (.int .i64) seats (i : Int)) ∈ seats.take i
def seatingP (l : List DT93) (sc : List DT60) (seats : List Int) : Prop := (∀ i, i < seats.length → QI l sc seats i) ∧ playersP l ∧ scoreP sc ∧ ((seats.length : Nat) : Int) ≤ 4
theorem takeNat (i : Nat) (s : List Int) : List.take (Int.toNat (i : Int) - Int.toNat 0) (List.drop (Int.toNat 0) s) = s.take i := by
  simp
theorem specSeat_in (l : List DT93) (sc : List DT60) (seats : List Int) (hs : SmP l) (h1 : sc.length ≤ 1048576) (h2 : seats.length ≤ 1048576) (i : Nat) (hi : i < seats.length) (x : Bool) (e : E2 (fun k n => spec_IsSeating.l0 k n l sc seats ((i + 1 : Nat) : Int)) x) :
    ∃ r, E2 (fun k n => spec_IsSeating.l1 k k n l sc seats (i : Int) false 0) r ∧ (r = true ↔ QI l sc seats i ∧ x = true) := by
  have hl := hs.1
  have key : ∀ d (j : Nat) (g : Bool), j + d = l.length → ∃ r, E3 (fun k m n => spec_IsSeating.l1 k m n l sc seats (i : Int) g (j : Int)) r ∧
      (r = true ↔ ((g = true ∨ ∃ q, j ≤ q ∧ q < l.length ∧ sitsP l sc (rd (.int .i64) seats (i : Int)) ((i + 1 : Nat) : Int) q) ∧ ¬ (rd (.int .i64) seats (i : Int)) ∈ seats.take i) ∧ x = true) := by
    intro d
    induction d with
    | zero =>
      intro j g hj
      have no : ¬ ∃ q, j ≤ q ∧ q < l.length ∧ sitsP l sc (rd (.int .i64) seats (i : Int)) ((i + 1 : Nat) : Int) q := by rintro ⟨q, h3, h4, _⟩; omega
      cases g with
      | false =>
        exact ⟨false, E3.eq (fun k m n => spec_IsSeating.l1_eq k m n l sc seats (i : Int) false _) (E3.neg (by omega) (E3.pos (by simp) E3.ret)), by simp only [Bool.false_eq_true, false_iff, false_or]; exact fun h => no h.1.1⟩
      | true =>
        by_cases hm : (rd (.int .i64) seats (i : Int)) ∈ seats.take i
        · refine ⟨false, E3.eq (fun k m n => spec_IsSeating.l1_eq k m n l sc seats (i : Int) true _) (E3.neg (by omega) (E3.neg (by simp) (E3.pos (by omega) (E3.pos (by omega) (E3.pos (by omega) (E3.pos (by omega) (E3.bind (has_ev _ _ ?_) (E3.pos ?_ E3.ret)))))))), by simp [hm]⟩
          · simp; omega
          · rw [takeNat]; simpa using hm
        · refine ⟨x, E3.eq (fun k m n => spec_IsSeating.l1_eq k m n l sc seats (i : Int) true _) (E3.neg (by omega) (E3.neg (by simp) (E3.pos (by omega) (E3.pos (by omega) (E3.pos (by omega) (E3.pos (by omega) (E3.bind (has_ev _ _ ?_) (E3.neg ?_ ?_)))))))), by simp [hm]⟩
          · simp; omega
          · rw [takeNat]; simpa using hm
          · simp only [wrapS (show i < 9223372036854775807 by omega)]
            exact E3.out e
    | succ d ih =>
      intro j g hj
      have hlt : j < l.length := by omega
      cases g with
      | true =>
        obtain ⟨r, er, hr⟩ := ih (j + 1) true (by omega)
        refine ⟨r, E3.eq (fun k m n => spec_IsSeating.l1_eq k m n l sc seats (i : Int) true _) (E3.pos (by omega) (E3.pos rfl ?_)), hr.trans (by simp)⟩
        simp only [wrapS (show j < 9223372036854775807 by omega)]
        exact er
      | false =>
        have wi : IntKind.wrap .i64 ((i : Int) + 1) = ((i + 1 : Nat) : Int) := wrapS (by omega)
        by_cases hid : Eq (α := Int) (rd T93 l (j : Int)).1 (rd (.int .i64) seats (i : Int))
        · obtain ⟨c, ec, hc⟩ := specCan_ev (rd T93 l (j : Int)) sc ((i + 1 : Nat) : Int) (hs.2 j hlt) h1
          obtain ⟨r, er, hr⟩ := ih (j + 1) c (by omega)
          refine ⟨r, E3.eq (fun k m n => spec_IsSeating.l1_eq k m n l sc seats (i : Int) false _) (E3.pos (by omega) (E3.neg (by simp) (E3.pos (by omega) (E3.pos (by omega) (E3.pos (by omega) (E3.pos (by omega) (E3.pos hid (E3.pos (by omega) (E3.pos (by omega) ?_))))))))), hr.trans ?_⟩
          · simp only [wrapS (show j < 9223372036854775807 by omega), wi]
            refine E3.bind ec ?_
            simpa using er
          · refine and_congr (and_congr ⟨fun h => .inr ?_, fun h => ?_⟩ Iff.rfl) Iff.rfl
            · rcases h with h | ⟨q, h3, h4, h5⟩
              · exact ⟨j, Nat.le_refl _, hlt, hid, hc.1 h⟩
              · exact ⟨q, by omega, h4, h5⟩
            · rcases h with h | ⟨q, h3, h4, h5⟩
              · cases h
              · by_cases hq : q = j
                · subst hq; exact .inl (hc.2 h5.2)
                · exact .inr ⟨q, by omega, h4, h5⟩
        · obtain ⟨r, er, hr⟩ := ih (j + 1) false (by omega)
          refine ⟨r, E3.eq (fun k m n => spec_IsSeating.l1_eq k m n l sc seats (i : Int) false _) (E3.pos (by omega) (E3.neg (by simp) (E3.pos (by omega) (E3.pos (by omega) (E3.pos (by omega) (E3.pos (by omega) (E3.neg hid ?_))))))), hr.trans ?_⟩
          · simp only [wrapS (show j < 9223372036854775807 by omega)]
            exact er
          · refine and_congr (and_congr (or_congr Iff.rfl ⟨fun ⟨q, h3, h4, h5⟩ => ⟨q, by omega, h4, h5⟩, fun ⟨q, h3, h4, h5⟩ => ?_⟩) Iff.rfl) Iff.rfl
            by_cases hq : q = j
            · subst hq; exact absurd h5.1 hid
            · exact ⟨q, by omega, h4, h5⟩
  obtain ⟨r, er, hr⟩ := key l.length 0 false (by omega)
  refine ⟨r, E3.loop (f := fun k m n => spec_IsSeating.l1 k m n l sc seats (i : Int) false 0) er, hr.trans ?_⟩
  unfold QI
  simp
theorem specSeating_ev (l : List DT93) (sc : List DT60) (seats : List Int) (hs : SmP l) (h1 : sc.length ≤ 1048576) (h2 : seats.length ≤ 1048576) : ∃ r, Ev (fun k => spec_IsSeating k l sc seats) r ∧ (r = true ↔ seatingP l sc seats) := by
  have key : ∀ d i, i + d = seats.length → ∃ r, E2 (fun k m => spec_IsSeating.l0 k m l sc seats (i : Int)) r ∧ (r = true ↔ (∀ j, i ≤ j → j < seats.length → QI l sc seats j) ∧ playersP l ∧ scoreP sc ∧ ((seats.length : Nat) : Int) ≤ 4) := by
    intro d
    induction d with
    | zero =>
      intro i hi
      have tr : ∀ {p : Prop}, (p ↔ (∀ j, i ≤ j → j < seats.length → QI l sc seats j) ∧ p) := ⟨fun h => ⟨fun j _ _ => by omega, h⟩, fun h => h.2⟩
      obtain ⟨a, ea, ha⟩ := specPlayers_ev l hs
      by_cases ca : a = true
      · by_cases cs : scoreP sc
        · exact ⟨_, E2.eq (fun k m => spec_IsSeating.l0_eq k m l sc seats _) (E2.neg (by omega) (E2.bind ea (E2.pos ca (E2.bind (specScore_ev sc h1) (E2.pos (by simpa using cs) E2.ret))))), Iff.trans (by rw [decide_eq_true_eq]; exact ⟨fun h => ⟨ha.1 ca, cs, h⟩, fun h => h.2.2⟩) tr⟩
        · exact ⟨_, E2.eq (fun k m => spec_IsSeating.l0_eq k m l sc seats _) (E2.neg (by omega) (E2.bind ea (E2.pos ca (E2.bind (specScore_ev sc h1) (E2.neg (by simpa using cs) E2.ret))))), by simp only [Bool.false_eq_true, false_iff]; exact fun h => cs h.2.2.1⟩
      · exact ⟨_, E2.eq (fun k m => spec_IsSeating.l0_eq k m l sc seats _) (E2.neg (by omega) (E2.bind ea (E2.neg ca E2.ret))), by simp only [Bool.false_eq_true, false_iff]; exact fun h => ca (ha.2 h.2.1)⟩
    | succ d ih =>
      intro i hi
      have hlt : i < seats.length := by omega
      obtain ⟨x, ex, hx⟩ := ih (i + 1) (by omega)
      obtain ⟨r, er, hr⟩ := specSeat_in l sc seats hs h1 h2 i hlt x ex
      refine ⟨r, E2.eq (fun k m => spec_IsSeating.l0_eq k m l sc seats _) (E2.pos (by omega) er), hr.trans ⟨fun ⟨h3, h4⟩ => ⟨fun j hj1 hj2 => ?_, (hx.1 h4).2⟩, fun ⟨h3, h4⟩ => ⟨h3 i (Nat.le_refl _) hlt, hx.2 ⟨fun j hj1 hj2 => h3 j (by omega) hj2, h4⟩⟩⟩⟩
      by_cases hj : j = i
      · subst hj; exact h3
      · exact (hx.1 h4).1 j (by omega) hj2
  obtain ⟨r, er, hr⟩ := key seats.length 0 (by omega)
  exact ⟨r, Ev.eq (fun k => spec_IsSeating_eq k l sc seats) (Ev.loop (f := fun k m => spec_IsSeating.l0 k m l sc seats 0) er), hr.trans ⟨fun h => ⟨fun i hi => h.1 i (Nat.zero_le _) hi, h.2⟩, fun h => ⟨fun i _ hi => h.1 i hi, h.2⟩⟩⟩
theorem sits_ev (l : List DT93) (sc : List DT60) (x : Int) (i : Nat) (hs : SmP l) (h1 : sc.length ≤ 1048576) (hi : i < 1048576) : ∃ r, Ev (fun k => slices_ContainsFunc_impl_Player_90 k l x sc (i : Int)) r ∧ (r = true ↔ ∃ j, j < l.length ∧ sitsP l sc x ((i + 1 : Nat) : Int) j) := by
  have hl := hs.1
  have wi : IntKind.wrap .i64 ((i : Int) + 1) = ((i + 1 : Nat) : Int) := wrapS (by omega)
  have one : ∀ j, j < l.length → ∃ r, Ev (fun k => impl_IsSeating_1 k (rd T93 l (j : Int)) x sc (i : Int)) r ∧ (r = true ↔ sitsP l sc x ((i + 1 : Nat) : Int) j) := by
    intro j hj
    by_cases hid : Eq (α := Int) (rd T93 l (j : Int)).1 x
    · obtain ⟨c, ec, hc⟩ := implCan_ev (rd T93 l (j : Int)) sc ((i + 1 : Nat) : Int) (hs.2 j hj) h1
      refine ⟨c, Ev.eq (fun k => impl_IsSeating_1_eq k _ x sc (i : Int)) (Ev.pos hid ?_), hc.trans ⟨fun h => ⟨hid, h⟩, fun h => h.2⟩⟩
      simp only [wi]
      exact Ev.bind ec (Ev.ret.val (by simp))
    · exact ⟨false, Ev.eq (fun k => impl_IsSeating_1_eq k _ x sc (i : Int)) (Ev.neg hid Ev.ret), by simp only [Bool.false_eq_true, false_iff]; exact fun h => hid h.1⟩
  have hdec : ∀ j, Decidable (sitsP l sc x ((i + 1 : Nat) : Int) j) := fun j => Classical.propDecidable _
  have er := loop_firstR (R := fun j v => E2 (fun k m => slices_IndexFunc_impl_Player_90.l0 k m l x sc (i : Int) ((List.length l : Nat) : Int) j) v) (n := l.length) (fun j => @decide _ (hdec j)) (E2.eq (fun k m => slices_IndexFunc_impl_Player_90.l0_eq k m l x sc _ _ _) (E2.neg (by omega) E2.ret)) (fun j hj hq v e => by
    obtain ⟨c, ec, hc⟩ := one j hj
    refine E2.eq (fun k m => slices_IndexFunc_impl_Player_90.l0_eq k m l x sc _ _ _) (E2.pos (by omega) (E2.pos (by omega) (E2.pos (by omega) (E2.bind ec (E2.neg (fun h => absurd (hc.1 h) (@of_decide_eq_false _ (hdec j) hq)) ?_)))))
    simp only [wrapS (show j < 9223372036854775807 by omega)]; exact e) (fun j hj hq => by
    obtain ⟨c, ec, hc⟩ := one j hj
    exact E2.eq (fun k m => slices_IndexFunc_impl_Player_90.l0_eq k m l x sc _ _ _) (E2.pos (by omega) (E2.pos (by omega) (E2.pos (by omega) (E2.bind ec (E2.pos (hc.2 (by simpa using hq)) E2.ret))))))
  refine ⟨_, Ev.eq (fun k => slices_ContainsFunc_impl_Player_90_eq k l x sc _) (Ev.bind (Ev.eq (fun k => slices_IndexFunc_impl_Player_90_eq k l x sc _) (Ev.loop (f := fun k m => slices_IndexFunc_impl_Player_90.l0 k m l x sc (i : Int) ((List.length l : Nat) : Int) 0) er)) Ev.ret), ?_⟩
  rw [decide_eq_true_eq, firstI_nonneg]
  simp only [decide_eq_true_eq]
theorem implSeating_ev (l : List DT93) (sc : List DT60) (seats : List Int) (hs : SmP l) (h1 : sc.length ≤ 1048576) (h2 : seats.length ≤ 1048576) : ∃ r, Ev (fun k => impl_IsSeating k l sc seats) r ∧ (r = true ↔ seatingP l sc seats) := by
  obtain ⟨a, ea, ha⟩ := implPlayers_ev l hs
  by_cases ca : a = true
  · by_cases cs : scoreP sc
    · by_cases c4 : ((seats.length : Nat) : Int) ≤ 4
      · obtain ⟨r, er, hr⟩ := loop_allR (R := fun i v => E2 (fun k m => impl_IsSeating.l0 k m l seats seats ((List.length seats : Nat) : Int) i sc) v) (n := seats.length) (QI l sc seats) true (E2.eq (fun k m => impl_IsSeating.l0_eq k m l seats seats _ _ sc) (E2.neg (by omega) E2.ret)) (fun i hi hq v e => by
          obtain ⟨c, ec, hc⟩ := sits_ev l sc (rd (.int .i64) seats (i : Int)) i hs h1 (by omega)
          refine E2.eq (fun k m => impl_IsSeating.l0_eq k m l seats seats _ _ sc) (E2.pos (by omega) (E2.pos (by omega) (E2.pos (by omega) (E2.pos (by omega) (E2.pos (by omega) (E2.bind (contains_ev _ _ ?_) (E2.neg ?_ (E2.bind ec (E2.neg (by simpa using hc.2 hq.1) ?_)))))))))
          · simp; omega
          · rw [takeNat]; simpa using hq.2
          · simp only [wrapS (show i < 9223372036854775807 by omega)]; exact e) (fun i hi hq => by
          obtain ⟨c, ec, hc⟩ := sits_ev l sc (rd (.int .i64) seats (i : Int)) i hs h1 (by omega)
          refine E2.eq (fun k m => impl_IsSeating.l0_eq k m l seats seats _ _ sc) (E2.pos (by omega) (E2.pos (by omega) (E2.pos (by omega) (E2.pos (by omega) (E2.pos (by omega) (E2.bind (contains_ev _ _ ?_) ?_))))))
          · simp; omega
          rw [takeNat]
          by_cases hm : (rd (.int .i64) seats (i : Int)) ∈ seats.take i
          · exact E2.pos (by simpa using hm) E2.ret
          · exact E2.neg (by simpa using hm) (E2.bind ec (E2.pos (fun h => hq ⟨hc.1 h, hm⟩) E2.ret)))
        exact ⟨r, Ev.eq (fun k => impl_IsSeating_eq k l sc seats) (Ev.bind ea (Ev.neg (by simpa using ca) (Ev.bind (implScore_ev sc h1) (Ev.neg (by simpa using cs) (Ev.neg (by omega) (Ev.loop (f := fun k m => impl_IsSeating.l0 k m l seats seats ((List.length seats : Nat) : Int) 0 sc) er)))))), hr.trans ⟨fun h => ⟨h.1, ha.1 ca, cs, c4⟩, fun h => ⟨h.1, rfl⟩⟩⟩
      · exact ⟨false, Ev.eq (fun k => impl_IsSeating_eq k l sc seats) (Ev.bind ea (Ev.neg (by simpa using ca) (Ev.bind (implScore_ev sc h1) (Ev.neg (by simpa using cs) (Ev.pos (by omega) Ev.ret))))), by simp only [Bool.false_eq_true, false_iff]; exact fun h => c4 h.2.2.2⟩
    · exact ⟨false, Ev.eq (fun k => impl_IsSeating_eq k l sc seats) (Ev.bind ea (Ev.neg (by simpa using ca) (Ev.bind (implScore_ev sc h1) (Ev.pos (by simpa using cs) Ev.ret)))), by simp only [Bool.false_eq_true, false_iff]; exact fun h => cs h.2.2.1⟩
  · exact ⟨false, Ev.eq (fun k => impl_IsSeating_eq k l sc seats) (Ev.bind ea (Ev.pos ca Ev.ret)), by simp only [Bool.false_eq_true, false_iff]; exact fun h => ca (ha.2 h.2.1)⟩
structure Sm (o : DT32) : Prop where
  score : o.1.length ≤ 1048576
  tempo : o.2.2.1.length ≤ 2097152
  players : SmP o.2.2.2.1
  seats : o.2.2.2.2.1.length ≤ 1048576
  marks : o.2.2.2.2.2.1.length ≤ 1048576
  letters : o.2.2.2.2.2.2.1.length ≤ 1048576
theorem sm_of {o : DT32} (h : Bk T32 o) : Sm o := by
  refine ⟨h.1.1, Nat.le_trans h.2.2.1.1 (by omega), ⟨h.2.2.2.1.1, fun i hi => ?_⟩, h.2.2.2.2.1.1, h.2.2.2.2.2.1.1, h.2.2.2.2.2.2.1.1⟩
  rw [rd_at hi]
  exact (h.2.2.2.1.2 _ (List.getElem_mem hi)).2.2.2.1.1
theorem isOrchestra_both (o : DT32) (h : Sm o) : ∃ r, Ev (fun k => spec_IsOrchestra k o) r ∧ Ev (fun k => impl_IsOrchestra k o) r := by
  obtain ⟨m, em1, em2⟩ := specMeter_ev o.2.1
  obtain ⟨a, ea, ha⟩ := specMarks_ev o.2.2.2.2.2.1 h.marks
  obtain ⟨a', ea', ha'⟩ := implMarks_ev o.2.2.2.2.2.1 h.marks
  obtain rfl : a' = a := by rw [Bool.eq_iff_iff]; exact ha'.trans ha.symm
  obtain ⟨b, eb, hb⟩ := specLetters_ev o.2.2.2.2.2.2.1 h.letters
  obtain ⟨b', eb', hb'⟩ := implLetters_ev o.2.2.2.2.2.2.1 h.letters
  obtain rfl : b' = b := by rw [Bool.eq_iff_iff]; exact hb'.trans hb.symm
  obtain ⟨c, ec, hc⟩ := specSeating_ev o.2.2.2.1 o.1 o.2.2.2.2.1 h.players h.score h.seats
  obtain ⟨c', ec', hc'⟩ := implSeating_ev o.2.2.2.1 o.1 o.2.2.2.2.1 h.players h.score h.seats
  obtain rfl : c' = c := by rw [Bool.eq_iff_iff]; exact hc'.trans hc.symm
  by_cases d1 : scoreP o.1
  · by_cases d2 : m = true
    · by_cases d3 : tempoP o.2.2.1
      · by_cases d4 : a' = true
        · by_cases d5 : b' = true
          · by_cases d6 : c' = true
            · by_cases d7 : 1 ≤ (o.2.2.2.2.2.2.2.1 : Int) ∧ (o.2.2.2.2.2.2.2.1 : Int) ≤ 9999
              · exact ⟨_, Ev.eq (fun k => spec_IsOrchestra_eq k o) (Ev.bind (specScore_ev _ h.score) (Ev.pos (by simpa using d1) (Ev.bind em1 (Ev.pos d2 (Ev.bind (specTempoB_ev _ h.tempo) (Ev.pos (by simpa using d3) (Ev.bind ea (Ev.pos d4 (Ev.bind eb (Ev.pos d5 (Ev.bind ec (Ev.pos d6 (Ev.bind (l1In_ev _ _ _) (Ev.pos (by simpa using d7) (Ev.bind (l1In_ev _ _ _) Ev.ret))))))))))))))),
                  Ev.eq (fun k => impl_IsOrchestra_eq k o) (Ev.bind (implScore_ev _ h.score) (Ev.pos (by simpa using d1) (Ev.bind em2 (Ev.pos d2 (Ev.bind (implTempoB_ev _ h.tempo) (Ev.pos (by simpa using d3) (Ev.bind ea' (Ev.pos d4 (Ev.bind eb' (Ev.pos d5 (Ev.bind ec' (Ev.pos d6 (Ev.bind (inRange_ev _ _ _) (Ev.pos (by simpa using d7) (Ev.bind (inRange_ev _ _ _) Ev.ret)))))))))))))))⟩
              · exact ⟨false, Ev.eq (fun k => spec_IsOrchestra_eq k o) (Ev.bind (specScore_ev _ h.score) (Ev.pos (by simpa using d1) (Ev.bind em1 (Ev.pos d2 (Ev.bind (specTempoB_ev _ h.tempo) (Ev.pos (by simpa using d3) (Ev.bind ea (Ev.pos d4 (Ev.bind eb (Ev.pos d5 (Ev.bind ec (Ev.pos d6 (Ev.bind (l1In_ev _ _ _) (Ev.neg (by simpa using d7) Ev.ret)))))))))))))),
                  Ev.eq (fun k => impl_IsOrchestra_eq k o) (Ev.bind (implScore_ev _ h.score) (Ev.pos (by simpa using d1) (Ev.bind em2 (Ev.pos d2 (Ev.bind (implTempoB_ev _ h.tempo) (Ev.pos (by simpa using d3) (Ev.bind ea' (Ev.pos d4 (Ev.bind eb' (Ev.pos d5 (Ev.bind ec' (Ev.pos d6 (Ev.bind (inRange_ev _ _ _) (Ev.neg (by simpa using d7) Ev.ret))))))))))))))⟩
            · exact ⟨false, Ev.eq (fun k => spec_IsOrchestra_eq k o) (Ev.bind (specScore_ev _ h.score) (Ev.pos (by simpa using d1) (Ev.bind em1 (Ev.pos d2 (Ev.bind (specTempoB_ev _ h.tempo) (Ev.pos (by simpa using d3) (Ev.bind ea (Ev.pos d4 (Ev.bind eb (Ev.pos d5 (Ev.bind ec (Ev.neg d6 Ev.ret)))))))))))),
                Ev.eq (fun k => impl_IsOrchestra_eq k o) (Ev.bind (implScore_ev _ h.score) (Ev.pos (by simpa using d1) (Ev.bind em2 (Ev.pos d2 (Ev.bind (implTempoB_ev _ h.tempo) (Ev.pos (by simpa using d3) (Ev.bind ea' (Ev.pos d4 (Ev.bind eb' (Ev.pos d5 (Ev.bind ec' (Ev.neg d6 Ev.ret))))))))))))⟩
          · exact ⟨false, Ev.eq (fun k => spec_IsOrchestra_eq k o) (Ev.bind (specScore_ev _ h.score) (Ev.pos (by simpa using d1) (Ev.bind em1 (Ev.pos d2 (Ev.bind (specTempoB_ev _ h.tempo) (Ev.pos (by simpa using d3) (Ev.bind ea (Ev.pos d4 (Ev.bind eb (Ev.neg d5 Ev.ret)))))))))),
              Ev.eq (fun k => impl_IsOrchestra_eq k o) (Ev.bind (implScore_ev _ h.score) (Ev.pos (by simpa using d1) (Ev.bind em2 (Ev.pos d2 (Ev.bind (implTempoB_ev _ h.tempo) (Ev.pos (by simpa using d3) (Ev.bind ea' (Ev.pos d4 (Ev.bind eb' (Ev.neg d5 Ev.ret))))))))))⟩
        · exact ⟨false, Ev.eq (fun k => spec_IsOrchestra_eq k o) (Ev.bind (specScore_ev _ h.score) (Ev.pos (by simpa using d1) (Ev.bind em1 (Ev.pos d2 (Ev.bind (specTempoB_ev _ h.tempo) (Ev.pos (by simpa using d3) (Ev.bind ea (Ev.neg d4 Ev.ret)))))))),
            Ev.eq (fun k => impl_IsOrchestra_eq k o) (Ev.bind (implScore_ev _ h.score) (Ev.pos (by simpa using d1) (Ev.bind em2 (Ev.pos d2 (Ev.bind (implTempoB_ev _ h.tempo) (Ev.pos (by simpa using d3) (Ev.bind ea' (Ev.neg d4 Ev.ret))))))))⟩
      · exact ⟨false, Ev.eq (fun k => spec_IsOrchestra_eq k o) (Ev.bind (specScore_ev _ h.score) (Ev.pos (by simpa using d1) (Ev.bind em1 (Ev.pos d2 (Ev.bind (specTempoB_ev _ h.tempo) (Ev.neg (by simpa using d3) Ev.ret)))))),
          Ev.eq (fun k => impl_IsOrchestra_eq k o) (Ev.bind (implScore_ev _ h.score) (Ev.pos (by simpa using d1) (Ev.bind em2 (Ev.pos d2 (Ev.bind (implTempoB_ev _ h.tempo) (Ev.neg (by simpa using d3) Ev.ret))))))⟩
    · exact ⟨false, Ev.eq (fun k => spec_IsOrchestra_eq k o) (Ev.bind (specScore_ev _ h.score) (Ev.pos (by simpa using d1) (Ev.bind em1 (Ev.neg d2 Ev.ret)))),
        Ev.eq (fun k => impl_IsOrchestra_eq k o) (Ev.bind (implScore_ev _ h.score) (Ev.pos (by simpa using d1) (Ev.bind em2 (Ev.neg d2 Ev.ret))))⟩
  · exact ⟨false, Ev.eq (fun k => spec_IsOrchestra_eq k o) (Ev.bind (specScore_ev _ h.score) (Ev.neg (by simpa using d1) Ev.ret)),
      Ev.eq (fun k => impl_IsOrchestra_eq k o) (Ev.bind (implScore_ev _ h.score) (Ev.neg (by simpa using d1) Ev.ret))⟩
theorem l29_ev (l : List DT93) (h : Bk (.list T93) l) : Ev (fun k => spec_l29Copy k l) l := by
  have hl : l.length ≤ 1048576 := h.1
  have key : ∀ d (i : Nat) (s : List DT93), i + d = l.length → s.length = i → s ++ l.drop i = l → E2 (fun k m => spec_l29Copy.l0 k m l (i : Int) s) l := by
    intro d
    induction d with
    | zero =>
      intro i s hi hs ht
      have hi : i = l.length := by omega
      subst hi
      have e : E2 (fun k m => spec_l29Copy.l0 k m l ((l.length : Nat) : Int) s) s := by
        refine E2.eq (fun k m => spec_l29Copy.l0_eq k m l _ s) ?_
        refine E2.neg (by omega) ?_
        exact E2.ret
      exact e.val (by rw [← ht]; simp)
    | succ d ih =>
      intro i s hi hs ht
      have hi' : i < l.length := by omega
      have hb := (bk_rd h hi').2.2.2.1.1
      refine E2.eq (fun k m => spec_l29Copy.l0_eq k m l _ s) ?_
      refine E2.pos (by omega) ?_
      refine E2.pos (by omega) ?_
      refine E2.pos (by omega) ?_
      refine E2.pos (by simp only [List.length_nil]; omega) ?_
      refine E2.pos (by simp only [List.length_cons, List.length_nil]; omega) ?_
      simp only [wrapS (show i < 9223372036854775807 by omega)]
      refine ih (i + 1) _ (by omega) (by simp; omega) ?_
      rw [List.append_assoc]
      refine Eq.trans ?_ ht
      congr 1
      exact (drop_rd (t := T93) hi').symm
  exact Ev.eq (fun k => spec_l29Copy_eq k l) (Ev.loop (f := fun k m => spec_l29Copy.l0 k m l 0 []) (key l.length 0 [] (by omega) rfl (by simp)))
theorem l33_ev (o : DT32) (h : Bk T32 o) : Ev (fun k => spec_l33Copy k o) o := by
  have h1 := h.1.1
  have h2 := h.2.2.1.1
  have h4 := h.2.2.2.2.1.1
  have h5 := h.2.2.2.2.2.1.1
  have h6 := h.2.2.2.2.2.2.1.1
  refine Ev.eq (fun k => spec_l33Copy_eq k o) ?_
  refine Ev.pos (by simp only [List.length_nil]; omega) ?_
  refine Ev.pos (by simp only [List.length_nil]; omega) ?_
  refine Ev.bind (l29_ev o.2.2.2.1 h.2.2.2.1) ?_
  refine Ev.pos (by simp only [List.length_nil]; omega) ?_
  refine Ev.pos (by simp only [List.length_nil]; omega) ?_
  refine Ev.pos (by simp only [List.length_nil]; omega) ?_
  exact Ev.ret
theorem cloneI_ev (l : List Int) (hl : l.length ≤ 1048576) : Ev (fun k => impl_clone_int k l) l :=
  Ev.eq (fun k => impl_clone_int_eq k l) (Ev.pos (by simp only [List.length_nil]; omega) Ev.ret)
theorem cloneT_ev (l : List DT25) (hl : l.length ≤ 1048576) : Ev (fun k => impl_clone_impl_Tempo k l) l :=
  Ev.eq (fun k => impl_clone_impl_Tempo_eq k l) (Ev.pos (by simp only [List.length_nil]; omega) Ev.ret)
theorem cloneM_ev (l : List DT110) (hl : l.length ≤ 1048576) : Ev (fun k => impl_clone_impl_Mark k l) l :=
  Ev.eq (fun k => impl_clone_impl_Mark_eq k l) (Ev.pos (by simp only [List.length_nil]; omega) Ev.ret)
theorem cloneL_ev (l : List DT25) (hl : l.length ≤ 1048576) : Ev (fun k => impl_clone_impl_Letter k l) l :=
  Ev.eq (fun k => impl_clone_impl_Letter_eq k l) (Ev.pos (by simp only [List.length_nil]; omega) Ev.ret)
theorem cloneP_ev (p : DT93) (h : Bk T93 p) : Ev (fun k => impl_clonePlayer k p) p :=
  Ev.eq (fun k => impl_clonePlayer_eq k p) (Ev.bind (cloneI_ev _ h.2.2.2.1.1) Ev.ret)
theorem copied_ev (o : DT32) (h : Bk T32 o) : Ev (fun k => impl_Orchestra__copied k o) o := by
  have hp : Bk (.list T93) o.2.2.2.1 := h.2.2.2.1
  have hl : o.2.2.2.1.length ≤ 1048576 := hp.1
  have key : ∀ d (i : Nat) (s : List DT93), i + d = o.2.2.2.1.length → s.length = i → s ++ o.2.2.2.1.drop i = o.2.2.2.1 → E2 (fun k m => impl_Orchestra__copied.l0 k m o.2.2.2.1 ((List.length o.2.2.2.1 : Nat) : Int) (i : Int) o.1 o.2.1.1 o.2.1.2.1 o.2.2.1 o.2.2.2.1 o.2.2.2.2.1 o.2.2.2.2.2.1 o.2.2.2.2.2.2.1 o.2.2.2.2.2.2.2.1 o.2.2.2.2.2.2.2.2.1 0 0 0 0 s) o := by
    intro d
    induction d with
    | zero =>
      intro i s hi hs ht
      have hi : i = o.2.2.2.1.length := by omega
      subst hi
      have hs' : s = o.2.2.2.1 := by rw [← ht]; simp
      subst hs'
      refine E2.eq (fun k m => impl_Orchestra__copied.l0_eq k m _ _ _ _ _ _ _ _ _ _ _ _ _ _ _ _ _ _) ?_
      refine E2.neg (by omega) ?_
      refine E2.bind (cloneE_ev _ h.1.1) ?_
      refine E2.bind (cloneT_ev _ h.2.2.1.1) ?_
      refine E2.bind (cloneI_ev _ h.2.2.2.2.1.1) ?_
      refine E2.bind (cloneM_ev _ h.2.2.2.2.2.1.1) ?_
      refine E2.bind (cloneL_ev _ h.2.2.2.2.2.2.1.1) ?_
      exact E2.ret
    | succ d ih =>
      intro i s hi hs ht
      have hi' : i < o.2.2.2.1.length := by omega
      refine E2.eq (fun k m => impl_Orchestra__copied.l0_eq k m _ _ _ _ _ _ _ _ _ _ _ _ _ _ _ _ _ _) ?_
      refine E2.pos (by omega) ?_
      refine E2.pos (by omega) ?_
      refine E2.pos (by omega) ?_
      refine E2.bind (cloneP_ev _ (bk_rd hp hi')) ?_
      refine E2.pos (by simp only [List.length_cons, List.length_nil]; omega) ?_
      simp only [wrapS (show i < 9223372036854775807 by omega)]
      refine ih (i + 1) _ (by omega) (by simp; omega) ?_
      rw [List.append_assoc]
      refine Eq.trans ?_ ht
      congr 1
      exact (drop_rd (t := T93) hi').symm
  exact Ev.eq (fun k => impl_Orchestra__copied_eq k o) (Ev.loop (f := fun k m => impl_Orchestra__copied.l0 k m o.2.2.2.1 ((List.length o.2.2.2.1 : Nat) : Int) 0 o.1 o.2.1.1 o.2.1.2.1 o.2.2.1 o.2.2.2.1 o.2.2.2.2.1 o.2.2.2.2.2.1 o.2.2.2.2.2.2.1 o.2.2.2.2.2.2.2.1 o.2.2.2.2.2.2.2.2.1 0 0 0 0 []) (key o.2.2.2.1.length 0 [] (by omega) rfl (by simp)))
theorem Ev.uniq {α : Type} {f : Nat → Option α} {a b : α} (h : Ev f a) (k : Ev f b) : a = b := by
  obtain ⟨K, h⟩ := h
  obtain ⟨M, k⟩ := k
  have h1 := h (max K M) (by omega)
  rw [k (max K M) (by omega)] at h1
  exact (Option.some.inj h1).symm
theorem first_idx (Q : Nat → Prop) : ∀ n, ∃ p, p ≤ n ∧ (∀ j, j < p → Q j) ∧ (p < n → ¬ Q p)
  | 0 => ⟨0, Nat.le_refl _, fun j hj => by omega, fun h => by omega⟩
  | n + 1 => by
    obtain ⟨p, h1, h2, h3⟩ := first_idx Q n
    by_cases hp : p < n
    · exact ⟨p, by omega, h2, fun _ => h3 hp⟩
    · have : p = n := by omega
      subst this
      by_cases hq : Q p
      · exact ⟨p + 1, Nat.le_refl _, fun j hj => by
          by_cases h : j = p
          · subst h; exact hq
          · exact h2 j (by omega), fun h => by omega⟩
      · exact ⟨p, by omega, h2, fun _ => hq⟩
def eqK (a b : DT110) : Prop := (a.1 : Int) = b.1 ∧ (a.2.1 : Int) = b.2.1
instance (a b : DT110) : Decidable (eqK a b) := by unfold eqK; infer_instance
def nwM (a b : DT110) : Prop := (b.2.2.2.1 : Int) < a.2.2.2.1 ∨ (b.2.2.2.1 : Int) = a.2.2.2.1 ∧ ((b.2.2.2.2.1 : Int) < a.2.2.2.2.1 ∨ (b.2.2.2.2.1 : Int) = a.2.2.2.2.1 ∧ (b.2.2.1 : Int) < a.2.2.1)
instance (a b : DT110) : Decidable (nwM a b) := by unfold nwM; infer_instance
theorem newerS_ev (a b : DT110) : Ev (fun k => spec_IsNewer k a b) (decide (nwM a b)) := by
  refine Ev.eq (fun k => spec_IsNewer_eq k a b) ?_
  unfold nwM
  by_cases c1 : (a.2.2.2.1 : Int) = b.2.2.2.1
  · refine Ev.neg (by omega) ?_
    by_cases c2 : (a.2.2.2.2.1 : Int) = b.2.2.2.2.1
    · exact Ev.neg (by omega) (Ev.ret.val (by congr 1; exact propext ⟨fun h => .inr ⟨c1.symm, .inr ⟨c2.symm, h⟩⟩, fun h => by omega⟩))
    · exact Ev.pos (by omega) (Ev.ret.val (by congr 1; exact propext ⟨fun h => .inr ⟨c1.symm, .inl h⟩, fun h => by omega⟩))
  · exact Ev.pos (by omega) (Ev.ret.val (by congr 1; exact propext ⟨fun h => .inl h, fun h => by omega⟩))
def setV (l : List DT110) (x : DT110) (p : Nat) : List DT110 :=
  if p < l.length ∧ eqK (rd T110 l (p : Int)) x then (if nwM x (rd T110 l (p : Int)) then l.take p ++ [x] ++ l.drop (p + 1) else l) else l.take p ++ [x] ++ l.drop p
theorem setV_len (l : List DT110) (x : DT110) (p : Nat) (hp : p ≤ l.length) : (setV l x p).length ≤ l.length + 1 := by
  unfold setV
  split
  · split
    · simp; omega
    · omega
  · simp; omega
theorem rd_drop0 {l : List DT110} {i : Nat} (hi : i < l.length) : rd T110 (l.drop i) (0 : Int) = rd T110 l (i : Int) := by
  show (l.drop i).getD (Int.toNat 0) _ = l.getD (Int.toNat (i : Int)) _
  simp [List.getD]
theorem setS_ev (l : List DT110) (x : DT110) (hl : l.length ≤ 1048576) (p : Nat) (hp : p ≤ l.length) (h1 : ∀ j, j < p → befM (rd T110 l (j : Int)) x) (h2 : p < l.length → ¬ befM (rd T110 l (p : Int)) x) : Ev (fun k => spec_l25Set k l x) (setV l x p) := by
  have key : ∀ d i : Nat, i + d = p → E2 (fun k m => spec_l25Set.l0 k m l (i : Int) x.1 x.2.1 x.2.2.1 x.2.2.2.1 x.2.2.2.2.1) (setV l x p) := by
    intro d
    induction d with
    | zero =>
      intro i hi
      have hi : i = p := by omega
      subst hi
      have hrest : List.take ((Int.toNat ((List.length l : Nat) : Int)) - (Int.toNat (i : Int))) (List.drop (Int.toNat (i : Int)) l) = l.drop i := by
        simp only [Int.toNat_natCast]
        rw [List.take_of_length_le (by simp)]
      have htake : List.take ((Int.toNat (i : Int)) - (Int.toNat 0)) (List.drop (Int.toNat 0) l) = l.take i := by simp
      have hrest1 : List.take ((Int.toNat ((List.length (l.drop i) : Nat) : Int)) - (Int.toNat 1)) (List.drop (Int.toNat 1) (l.drop i)) = l.drop (i + 1) := by
        have : Int.toNat 1 = 1 := rfl
        rw [this, Int.toNat_natCast, List.drop_drop, List.take_of_length_le (by simp; omega)]
      have hdl : (l.drop i).length = l.length - i := by simp
      have htl : (l.take i).length = i := by simp; omega
      have hx : (x.1, (x.2.1, (x.2.2.1, (x.2.2.2.1, (x.2.2.2.2.1, ()))))) = x := rfl
      refine E2.eq (fun k m => spec_l25Set.l0_eq k m l _ _ _ _ _ _) ?_
      simp only [hrest, htake, hrest1, hx]
      by_cases c : i < l.length
      · refine E2.pos (by omega) (E2.pos (by omega) (E2.pos (by omega) (E2.bind (beforeM_ev _ _) (E2.neg (by simpa using h2 c) ?_))))
        refine E2.pos (by omega) (E2.pos (by omega) (E2.pos (by rw [hdl]; omega) (E2.pos (by omega) (E2.pos (by rw [hdl]; omega) ?_))))
        simp only [rd_drop0 c]
        have last : ¬ (i < l.length ∧ eqK (rd T110 l (i : Int)) x) → setV l x i = ([] ++ l.take i) ++ [x] ++ l.drop i := fun h => by unfold setV; rw [if_neg h]; rfl
        by_cases q1 : ((rd T110 l (i : Int)).1 : Int) = x.1
        · refine E2.pos q1 (E2.pos (by omega) (E2.pos (by rw [hdl]; omega) ?_))
          by_cases q2 : ((rd T110 l (i : Int)).2.1 : Int) = x.2.1
          · refine E2.pos q2 (E2.pos (by omega) (E2.pos (by rw [hdl]; omega) (E2.bind (newerS_ev _ _) ?_)))
            have hk : i < l.length ∧ eqK (rd T110 l (i : Int)) x := ⟨c, q1, q2⟩
            by_cases q3 : nwM x (rd T110 l (i : Int))
            · refine E2.neg (by simpa using q3) (E2.pos (by omega) (E2.pos (by rw [hdl]; omega) (E2.pos (by omega) (E2.pos (by omega) (E2.pos (by simp only [List.length_nil, htl]; omega) (E2.pos (by simp only [List.length_append, List.length_nil, List.length_singleton, htl]; omega) (E2.pos (by simp only [List.length_append, List.length_nil, List.length_singleton, List.length_drop, htl]; omega) ?_)))))))
              exact E2.ret.val (by unfold setV; rw [if_pos hk, if_pos q3]; rfl)
            · exact E2.pos (by simpa using q3) (E2.pos (by simp only [List.length_nil]; omega) (E2.ret.val (by unfold setV; rw [if_pos hk, if_neg q3]; rfl)))
          · refine E2.neg q2 (E2.pos (by omega) (E2.pos (by omega) (E2.pos (by simp only [List.length_nil, htl]; omega) (E2.pos (by simp only [List.length_append, List.length_nil, List.length_singleton, htl]; omega) (E2.pos (by simp only [List.length_append, List.length_nil, List.length_singleton, List.length_drop, htl]; omega) ?_)))))
            exact E2.ret.val (last fun h => q2 h.2.2).symm
        · refine E2.neg q1 (E2.pos (by omega) (E2.pos (by omega) (E2.pos (by simp only [List.length_nil, htl]; omega) (E2.pos (by simp only [List.length_append, List.length_nil, List.length_singleton, htl]; omega) (E2.pos (by simp only [List.length_append, List.length_nil, List.length_singleton, List.length_drop, htl]; omega) ?_)))))
          exact E2.ret.val (last fun h => q1 h.2.1).symm
      · refine E2.neg (by omega) (E2.pos (by omega) (E2.pos (by omega) (E2.neg (by rw [hdl]; omega) ?_)))
        refine E2.pos (by omega) (E2.pos (by omega) (E2.pos (by simp only [List.length_nil, htl]; omega) (E2.pos (by simp only [List.length_append, List.length_nil, List.length_singleton, htl]; omega) (E2.pos (by simp only [List.length_append, List.length_nil, List.length_singleton, List.length_drop, htl]; omega) ?_))))
        exact E2.ret.val (by unfold setV; rw [if_neg (fun h => c h.1)]; rfl)
    | succ d ih =>
      intro i hi
      refine E2.eq (fun k m => spec_l25Set.l0_eq k m l _ _ _ _ _ _) (E2.pos (by omega) (E2.pos (by omega) (E2.pos (by omega) (E2.bind (beforeM_ev _ _) (E2.pos (by simpa using h1 i (by omega)) ?_)))))
      simp only [wrapS (show i < 9223372036854775807 by omega)]
      exact ih (i + 1) (by omega)
  exact Ev.eq (fun k => spec_l25Set_eq k l x) (Ev.loop (f := fun k m => spec_l25Set.l0 k m l 0 x.1 x.2.1 x.2.2.1 x.2.2.2.1 x.2.2.2.2.1) (key p 0 (by omega)))
theorem mk_eta (a b : DT110) : ((a.1 : Int) = b.1 ∧ ((a.2.1 : Int) = b.2.1 ∧ ((a.2.2.1 : Int) = b.2.2.1 ∧ ((a.2.2.2.1 : Int) = b.2.2.2.1 ∧ (a.2.2.2.2.1 : Int) = b.2.2.2.2.1)))) ↔ a = b := by
  obtain ⟨a1, a2, a3, a4, a5, ⟨⟩⟩ := a
  obtain ⟨b1, b2, b3, b4, b5, ⟨⟩⟩ := b
  constructor
  · rintro ⟨h1, h2, h3, h4, h5⟩
    simp only at h1 h2 h3 h4 h5
    rw [h1, h2, h3, h4, h5]
  · intro h
    injection h with h1 h
    injection h with h2 h
    injection h with h3 h
    injection h with h4 h
    injection h with h5 h
    exact ⟨h1, h2, h3, h4, h5⟩
theorem eq_rd {a b : List DT110} (h : a.length = b.length) : (∀ i, i < a.length → rd T110 a (i : Int) = rd T110 b (i : Int)) ↔ a = b := by
  constructor
  · intro H
    refine List.ext_getElem h fun i h1 h2 => ?_
    have := H i h1
    rwa [rd_at (t := T110) h1, rd_at (t := T110) h2] at this
  · rintro rfl i _
    rfl
theorem eqMI_ev (a b : List DT110) (ha : a.length ≤ 1048576) : ∃ r, Ev (fun k => slices_Equal_impl_Mark k a b) r ∧ (r = true ↔ a = b) := by
  by_cases c : a.length = b.length
  · obtain ⟨r, er, hr⟩ := loop_allR (R := fun i v => E2 (fun k m => slices_Equal_impl_Mark.l0 k m a b ((List.length a : Nat) : Int) i) v) (n := a.length) (fun i => rd T110 a (i : Int) = rd T110 b (i : Int)) true (E2.eq (fun k m => slices_Equal_impl_Mark.l0_eq k m a b _ _) (E2.neg (by omega) E2.ret)) (fun i hi hq v e => by
      refine E2.eq (fun k m => slices_Equal_impl_Mark.l0_eq k m a b _ _) (E2.pos (by omega) (E2.pos (by omega) (E2.pos (by omega) (E2.pos (by omega) (E2.pos (by omega) (E2.neg (fun h => h ((mk_eta _ _).2 hq)) ?_))))))
      simp only [wrapS (show i < 9223372036854775807 by omega)]
      exact e) (fun i hi hq => E2.eq (fun k m => slices_Equal_impl_Mark.l0_eq k m a b _ _) (E2.pos (by omega) (E2.pos (by omega) (E2.pos (by omega) (E2.pos (by omega) (E2.pos (by omega) (E2.pos (fun h => hq ((mk_eta _ _).1 h)) E2.ret)))))))
    refine ⟨r, Ev.eq (fun k => slices_Equal_impl_Mark_eq k a b) (Ev.neg (by omega) (Ev.loop (f := fun k m => slices_Equal_impl_Mark.l0 k m a b ((List.length a : Nat) : Int) 0) er)), hr.trans ⟨fun h => (eq_rd c).1 h.1, fun h => ⟨(eq_rd c).2 h, rfl⟩⟩⟩
  · exact ⟨false, Ev.eq (fun k => slices_Equal_impl_Mark_eq k a b) (Ev.pos (by omega) Ev.ret), by simp only [Bool.false_eq_true, false_iff]; exact fun h => c (h ▸ rfl)⟩
def failP : List DT100 × (Bool × Unit) := ([], (false, ()))
/-- Sorted, as far as the order tells. -/
def wkE (l : List DT60) : Prop := l.Pairwise fun a b => ¬ bef b a
theorem putW_ev (l : List DT60) (e : DT60) (hl : l.length ≤ 33554432) : ∃ v : List DT60, v.Perm (e :: l) ∧ (wkE l → wkE v) ∧ Ev (fun k => spec_l8Put k l e) v := by
  obtain ⟨p, hp, h1, h2⟩ := first_idx (fun i => bef (rd T60 l (i : Int)) e) l.length
  refine ⟨l.take p ++ [e] ++ l.drop p, ?_, fun hw => ?_, ?_⟩
  · have : (l.take p ++ [e] ++ l.drop p).Perm (e :: (l.take p ++ l.drop p)) := by
      rw [List.append_assoc]
      exact List.perm_middle
    rwa [List.take_append_drop] at this
  · have hd : ∀ b ∈ l.drop p, ¬ bef b e := fun b hb hbe => by
      obtain ⟨j, hj, rfl⟩ := List.getElem_of_mem hb
      rw [List.length_drop] at hj
      have hpl : p < l.length := by omega
      have hnp := h2 hpl
      rw [List.getElem_drop] at hbe
      rcases Nat.eq_zero_or_pos j with h0 | h0
      · subst h0
        rw [rd_at hpl] at hnp
        exact hnp hbe
      · have := List.pairwise_iff_getElem.1 hw p (p + j) hpl (by omega) (by omega)
        rw [rd_at hpl] at hnp
        unfold bef at *
        omega
    have ht : ∀ a ∈ l.take p, bef a e := fun a ha => by
      obtain ⟨j, hj, rfl⟩ := List.getElem_of_mem ha
      rw [List.length_take] at hj
      have := h1 j (by omega)
      rw [rd_at (by omega)] at this
      rw [List.getElem_take]
      exact this
    unfold wkE at *
    rw [List.append_assoc, List.pairwise_append]
    have hs : (l.take p ++ l.drop p).Pairwise fun a b => ¬ bef b a := by rw [List.take_append_drop]; exact hw
    rw [List.pairwise_append] at hs
    refine ⟨hs.1, ?_, fun a ha b hb => ?_⟩
    · rw [List.singleton_append, List.pairwise_cons]
      exact ⟨fun b hb => hd b hb, hs.2.1⟩
    · rw [List.singleton_append, List.mem_cons] at hb
      rcases hb with rfl | hb
      · have := ht a ha
        unfold bef at *
        omega
      · exact hs.2.2 a ha b hb
  · have key : ∀ d i : Nat, i + d = p → E2 (fun k m => spec_l8Put.l0 k m l (i : Int) e.1 e.2.1 e.2.2.1 e.2.2.2.1) (l.take p ++ [e] ++ l.drop p) := by
      intro d
      induction d with
      | zero =>
        intro i hi
        have hi : i = p := by omega
        subst hi
        have hfin : ((([] : List DT60) ++ (List.take ((Int.toNat (i : Int)) - (Int.toNat 0)) (List.drop (Int.toNat 0) l))) ++ ([(e.1, (e.2.1, (e.2.2.1, (e.2.2.2.1, ()))))] : (List DT60))) ++ (List.take ((Int.toNat ((List.length l : Nat) : Int)) - (Int.toNat (i : Int))) (List.drop (Int.toNat (i : Int)) l)) = l.take i ++ [e] ++ l.drop i := by
          simp only [Int.toNat_natCast, Int.toNat_zero, Nat.sub_zero, List.drop_zero, List.nil_append]
          rw [List.take_of_length_le (l := l.drop i) (by simp)]
        have hsz : (List.take ((Int.toNat (i : Int)) - (Int.toNat 0)) (List.drop (Int.toNat 0) l)).length ≤ l.length := by simp; omega
        have hsz2 : (List.take ((Int.toNat ((List.length l : Nat) : Int)) - (Int.toNat (i : Int))) (List.drop (Int.toNat (i : Int)) l)).length ≤ l.length := by simp
        refine E2.eq (fun k m => spec_l8Put.l0_eq k m l _ _ _ _ _) ?_
        by_cases c : i < l.length
        · refine E2.pos (by omega) (E2.pos (by omega) (E2.pos (by omega) (E2.bind (before_ev _ _) (E2.neg (by simpa using h2 c) ?_))))
          refine E2.pos (by omega) (E2.pos (by omega) (E2.pos (by rw [List.length_nil]; omega) (E2.pos (by simp only [List.length_append, List.length_nil, List.length_singleton]; omega) (E2.pos (by omega) (E2.pos (by omega) (E2.pos (by simp only [List.length_append, List.length_nil, List.length_singleton]; omega) ?_))))))
          exact E2.ret.val hfin
        · refine E2.neg (by omega) ?_
          refine E2.pos (by omega) (E2.pos (by omega) (E2.pos (by rw [List.length_nil]; omega) (E2.pos (by simp only [List.length_append, List.length_nil, List.length_singleton]; omega) (E2.pos (by omega) (E2.pos (by omega) (E2.pos (by simp only [List.length_append, List.length_nil, List.length_singleton]; omega) ?_))))))
          exact E2.ret.val hfin
      | succ d ih =>
        intro i hi
        refine E2.eq (fun k m => spec_l8Put.l0_eq k m l _ _ _ _ _) (E2.pos (by omega) (E2.pos (by omega) (E2.pos (by omega) (E2.bind (before_ev _ _) (E2.pos (by simpa using h1 i (by omega)) ?_)))))
        simp only [wrapS (show i < 9223372036854775807 by omega)]
        exact ih (i + 1) (by omega)
    exact Ev.eq (fun k => spec_l8Put_eq k l e) (Ev.loop (f := fun k m => spec_l8Put.l0 k m l 0 e.1 e.2.1 e.2.2.1 e.2.2.2.1) (key p 0 (by omega)))
def newO (m : DT25) (ps : List DT93) : DT32 := ([], (m, ([(0, (100, ()))], (ps, ([], ([], ([], (1, (0, ())))))))))
def zeroO : DT32 := ([], ((0, (0, ())), ([], ([], ([], ([], ([], (0, (0, ())))))))))
theorem newO_bk (m : DT25) (ps : List DT93) (h : Bk (.list T93) ps) : Bk T32 (newO m ps) :=
  ⟨⟨by simp [newO], by simp [newO]⟩, bk_flat _ rfl, ⟨by simp [newO], fun x _ => bk_flat x rfl⟩, h, ⟨by simp [newO], by simp [newO]⟩, ⟨by simp [newO], by simp [newO]⟩, ⟨by simp [newO], by simp [newO]⟩, trivial, trivial, trivial⟩
theorem zeroO_bk : Bk T32 zeroO :=
  ⟨⟨by simp [zeroO], by simp [zeroO]⟩, bk_flat _ rfl, ⟨by simp [zeroO], by simp [zeroO]⟩, ⟨by simp [zeroO], by simp [zeroO]⟩, ⟨by simp [zeroO], by simp [zeroO]⟩, ⟨by simp [zeroO], by simp [zeroO]⟩, ⟨by simp [zeroO], by simp [zeroO]⟩, trivial, trivial, trivial⟩
theorem ev_eta2 (a b : DT60) : ((a.1 : Int) = b.1 ∧ ((a.2.1 : Int) = b.2.1 ∧ ((a.2.2.1 : Int) = b.2.2.1 ∧ (a.2.2.2.1 : Int) = b.2.2.2.1))) ↔ a = b := by
  obtain ⟨a1, a2, a3, a4, ⟨⟩⟩ := a
  obtain ⟨b1, b2, b3, b4, ⟨⟩⟩ := b
  constructor
  · rintro ⟨h1, h2, h3, h4⟩
    simp only at h1 h2 h3 h4
    rw [h1, h2, h3, h4]
  · intro h
    injection h with h1 h
    injection h with h2 h
    injection h with h3 h
    injection h with h4 h
    exact ⟨h1, h2, h3, h4⟩
theorem eq_rdE {a b : List DT60} (h : a.length = b.length) : (∀ i, i < a.length → rd T60 a (i : Int) = rd T60 b (i : Int)) ↔ a = b := by
  constructor
  · intro H
    refine List.ext_getElem h fun i h1 h2 => ?_
    have := H i h1
    rwa [rd_at (t := T60) h1, rd_at (t := T60) h2] at this
  · rintro rfl i _
    rfl
theorem eqEI_ev (a b : List DT60) (ha : a.length ≤ 33554432) : ∃ r, Ev (fun k => slices_Equal_impl_Event k a b) r ∧ (r = true ↔ a = b) := by
  by_cases c : a.length = b.length
  · obtain ⟨r, er, hr⟩ := loop_allR (R := fun i v => E2 (fun k m => slices_Equal_impl_Event.l0 k m a b ((List.length a : Nat) : Int) i) v) (n := a.length) (fun i => rd T60 a (i : Int) = rd T60 b (i : Int)) true (E2.eq (fun k m => slices_Equal_impl_Event.l0_eq k m a b _ _) (E2.neg (by omega) E2.ret)) (fun i hi hq v e => by
      refine E2.eq (fun k m => slices_Equal_impl_Event.l0_eq k m a b _ _) (E2.pos (by omega) (E2.pos (by omega) (E2.pos (by omega) (E2.pos (by omega) (E2.pos (by omega) (E2.neg (fun h => h ((ev_eta2 _ _).2 hq)) ?_))))))
      simp only [wrapS (show i < 9223372036854775807 by omega)]
      exact e) (fun i hi hq => E2.eq (fun k m => slices_Equal_impl_Event.l0_eq k m a b _ _) (E2.pos (by omega) (E2.pos (by omega) (E2.pos (by omega) (E2.pos (by omega) (E2.pos (by omega) (E2.pos (fun h => hq ((ev_eta2 _ _).1 h)) E2.ret)))))))
    refine ⟨r, Ev.eq (fun k => slices_Equal_impl_Event_eq k a b) (Ev.neg (by omega) (Ev.loop (f := fun k m => slices_Equal_impl_Event.l0 k m a b ((List.length a : Nat) : Int) 0) er)), hr.trans ⟨fun h => (eq_rdE c).1 h.1, fun h => ⟨(eq_rdE c).2 h, rfl⟩⟩⟩
  · exact ⟨false, Ev.eq (fun k => slices_Equal_impl_Event_eq k a b) (Ev.pos (by omega) Ev.ret), by simp only [Bool.false_eq_true, false_iff]; exact fun h => c (h ▸ rfl)⟩
/-- A cursor over bytes. -/
def CurOk (c : DT134) : Prop := c.1.length ≤ 1048576 ∧ (0 : Int) ≤ c.2.1 ∧ (c.2.1 : Int) ≤ ((c.1.length : Nat) : Int)
/-- What is drawn. -/
def Dr {α : Type} (f : Nat → DT134 → Option (α × DT134)) (P : α → Prop) : Prop := ∀ c, CurOk c → ∃ x c', CurOk c' ∧ P x ∧ Ev (fun k => f k c) (x, c')
theorem and255 (a : BitVec (IntKind.bits .i64)) : 0 ≤ IntKind.wrap .i64 (((a &&& BitVec.ofInt (IntKind.bits .i64) 255).toNat : Nat)) ∧ IntKind.wrap .i64 (((a &&& BitVec.ofInt (IntKind.bits .i64) 255).toNat : Nat)) ≤ 255 := by
  have h : (a &&& BitVec.ofInt (IntKind.bits .i64) 255).toNat ≤ 255 := by
    rw [BitVec.toNat_and]
    exact Nat.le_trans Nat.and_le_right (by decide)
  rw [IntKind.wrap_i64]
  omega
theorem l1Byte_dr : Dr (fun k c => spec_l1Byte k c) (fun x => 0 ≤ x ∧ x ≤ 255) := by
  intro c h
  obtain ⟨h1, h2, h3⟩ := h
  by_cases q : (c.2.1 : Int) < ((List.length c.1 : Nat) : Int)
  · refine ⟨_, (c.1, (IntKind.wrap .i64 (c.2.1 + 1), (IntKind.wrap .i64 ((IntKind.wrap .i64 (c.2.2.1 * 6364136223846793005)) + 1442695040888963407), ()))), ⟨h1, ?_, ?_⟩, and255 _, Ev.eq (fun k => spec_l1Byte_eq k c) (Ev.neg (by omega) (Ev.neg (by omega) (Ev.pos q (Ev.pos h2 (Ev.pos q Ev.ret)))))⟩
    · show (0 : Int) ≤ IntKind.wrap .i64 (c.2.1 + 1)
      rw [wrapI (by omega) (by omega)]
      omega
    · show IntKind.wrap .i64 (c.2.1 + 1) ≤ ((List.length c.1 : Nat) : Int)
      rw [wrapI (by omega) (by omega)]
      omega
  · exact ⟨_, (c.1, (c.2.1, (IntKind.wrap .i64 ((IntKind.wrap .i64 (c.2.2.1 * 6364136223846793005)) + 1442695040888963407), ()))), ⟨h1, h2, h3⟩, and255 _, Ev.eq (fun k => spec_l1Byte_eq k c) (Ev.neg (by omega) (Ev.neg (by omega) (Ev.neg q Ev.ret)))⟩
theorem l1Below_dr (n : Int) : Dr (fun k c => spec_l1Below k c n) (fun x => 0 ≤ x ∧ (0 < n → x < n) ∧ (n ≤ 0 → x = 0)) := by
  intro c h
  by_cases q : n ≤ 0
  · exact ⟨0, c, h, ⟨by omega, fun h => by omega, fun _ => rfl⟩, Ev.eq (fun k => spec_l1Below_eq k c n) (Ev.pos q Ev.ret)⟩
  · obtain ⟨x, c1, h1, hx, e1⟩ := l1Byte_dr c h
    have hm : ∀ y : Int, 0 ≤ y → 0 ≤ Int.tmod y n ∧ (0 < n → Int.tmod y n < n) ∧ (n ≤ 0 → Int.tmod y n = 0) := fun y hy => ⟨Int.tmod_nonneg _ hy, fun hn => Int.tmod_lt_of_pos _ hn, fun h => absurd h q⟩
    by_cases q2 : n ≤ 256
    · exact ⟨Int.tmod x n, c1, h1, hm x hx.1, Ev.eq (fun k => spec_l1Below_eq k c n) (Ev.neg q (Ev.pos q2 (Ev.bind e1 (Ev.neg (by omega) Ev.ret))))⟩
    · obtain ⟨y, c2, h2, hy, e2⟩ := l1Byte_dr c1 h1
      obtain ⟨z, c3, h3, hz, e3⟩ := l1Byte_dr c2 h2
      refine ⟨_, c3, h3, hm _ ?_, Ev.eq (fun k => spec_l1Below_eq k c n) (Ev.neg q (Ev.neg q2 (Ev.bind e1 (Ev.bind e2 (Ev.bind e3 (Ev.neg (by omega) Ev.ret))))))⟩
      rw [wrapI (n := x * 65536) (by omega) (by omega), wrapI (n := y * 256) (by omega) (by omega), wrapI (n := x * 65536 + y * 256) (by omega) (by omega), wrapI (by omega) (by omega)]
      omega
theorem l1Once_dr (n : Int) : Dr (fun k c => spec_l1Once k c n) (fun _ => True) := by
  intro c h
  obtain ⟨x, c1, h1, _, e1⟩ := l1Below_dr n c h
  exact ⟨_, c1, h1, trivial, Ev.eq (fun k => spec_l1Once_eq k c n) (Ev.bind e1 Ev.ret)⟩
theorem l1Int_dr (l : List Int) (hl : 0 < l.length) : Dr (fun k c => spec_l1Int k c l) (fun _ => True) := by
  intro c h
  obtain ⟨x, c1, h1, ⟨h2, h3, _⟩, e1⟩ := l1Below_dr ((List.length l : Nat) : Int) c h
  exact ⟨_, c1, h1, trivial, Ev.eq (fun k => spec_l1Int_eq k c l) (Ev.bind e1 (Ev.pos h2 (Ev.pos (h3 (by omega)) Ev.ret)))⟩
theorem l8Event_dr : Dr (fun k c => spec_l8Event k c) (fun _ => True) := by
  intro c h
  obtain ⟨x1, c1, h1, _, e1⟩ := l1Below_dr 20 c h
  obtain ⟨x2, c2, h2, _, e2⟩ := l1Below_dr 10 c1 h1
  obtain ⟨x3, c3, h3, _, e3⟩ := l1Below_dr 18 c2 h2
  obtain ⟨x4, c4, h4, _, e4⟩ := l1Below_dr 3 c3 h3
  exact ⟨_, c4, h4, trivial, Ev.eq (fun k => spec_l8Event_eq k c) (Ev.bind e1 (Ev.bind e2 (Ev.bind e3 (Ev.bind e4 Ev.ret))))⟩
theorem putS_ev (l : List DT60) (e : DT60) (hl : l.length ≤ 1048576) : ∃ v : List DT60 × (Bool × Unit), v.1.length ≤ l.length + 1 ∧ Ev (fun k => spec_PutEvent k l e) v := by
  obtain ⟨r, hp, _, e1⟩ := putW_ev l e (by omega)
  have hr : r.length = l.length + 1 := by rw [hp.length_eq]; simp
  have e2 := specScoreB_ev r (by omega)
  by_cases c : scoreP r
  · exact ⟨(r, (true, ())), by show r.length ≤ _; omega, Ev.eq (fun k => spec_PutEvent_eq k l e) (Ev.bind e1 (Ev.bind e2 (Ev.neg (by simpa using c) Ev.ret)))⟩
  · exact ⟨([] ++ l, (false, ())), by simp, Ev.eq (fun k => spec_PutEvent_eq k l e) (Ev.bind e1 (Ev.bind e2 (Ev.pos (by simpa using c) (Ev.pos (by rw [List.length_nil]; omega) Ev.ret))))⟩
theorem l8Draw_dr : Dr (fun k c => spec_l8Draw k c) (fun r => r.length ≤ 13) := by
  intro c h
  have key : ∀ (d : Nat) (c : DT134) (s : List DT60), CurOk c → s.length + d ≤ 1000 → ∃ r c', CurOk c' ∧ r.length ≤ s.length + d ∧ E2 (fun k m => spec_l8Draw.l0 k m (d : Int) c.1 c.2.1 c.2.2.1 s) (r, c') := by
    intro d
    induction d with
    | zero => intro c s h hs; exact ⟨s, c, h, by omega, E2.eq (fun k m => spec_l8Draw.l0_eq k m _ _ _ _ s) (E2.neg (by omega) E2.ret)⟩
    | succ d ih =>
      intro c s h hs
      obtain ⟨x, c1, h1, _, e1⟩ := l8Event_dr c h
      obtain ⟨v, hv, e2⟩ := putS_ev s x (by omega)
      obtain ⟨r, c', h', hr, e3⟩ := ih c1 v.1 h1 (by omega)
      refine ⟨r, c', h', by omega, E2.eq (fun k m => spec_l8Draw.l0_eq k m _ _ _ _ s) (E2.pos (by omega) (E2.bind e1 (E2.bind e2 ?_)))⟩
      simp only [wrapP (show 0 < d + 1 by omega) (show d + 1 < 9223372036854775807 by omega), Nat.add_sub_cancel]
      exact e3
  obtain ⟨x, c1, h1, ⟨h2, h3, _⟩, e1⟩ := l1Below_dr 13 c h
  obtain ⟨n, rfl⟩ := Int.eq_ofNat_of_zero_le h2
  have := h3 (by omega)
  obtain ⟨r, c', h', hr, e3⟩ := key n c1 [] h1 (by simp; omega)
  exact ⟨r, c', h', by simp at hr; omega, Ev.eq (fun k => spec_l8Draw_eq k c) (Ev.bind e1 (Ev.loop (f := fun k m => spec_l8Draw.l0 k m (n : Int) c1.1 c1.2.1 c1.2.2.1 []) e3))⟩
theorem l8Tune_dr (voice most : Int) (hm : most ≤ 100) : Dr (fun k c => spec_l8Tune k c voice most) (fun r => r.length ≤ 100) := by
  intro c h
  have key : ∀ (d : Nat) (t : Int) (c : DT134) (s : List DT60), CurOk c → s.length + d ≤ 1000 → ∃ r c', CurOk c' ∧ r.length ≤ s.length + d ∧ E2 (fun k m => spec_l8Tune.l0 k m voice t (d : Int) c.1 c.2.1 c.2.2.1 s) (r, c') := by
    intro d
    induction d with
    | zero => intro t c s h hs; exact ⟨s, c, h, by omega, E2.eq (fun k m => spec_l8Tune.l0_eq k m _ _ _ _ _ _ s) (E2.neg (by omega) E2.ret)⟩
    | succ d ih =>
      intro t c s h hs
      obtain ⟨x1, c1, h1, _, e1⟩ := l1Below_dr 3 c h
      obtain ⟨x2, c2, h2, _, e2⟩ := l1Below_dr 8 c1 h1
      obtain ⟨x3, c3, h3, _, e3⟩ := l1Once_dr 5 c2 h2
      obtain ⟨v, hv, e4⟩ := putS_ev s (t, (IntKind.wrap .i64 (6 * (IntKind.wrap .i64 (1 + x1))), (IntKind.wrap .i64 (60 + x2), (voice, ())))) (by omega)
      by_cases q : x3 = true
      · obtain ⟨r, c', h', hr, e5⟩ := ih (IntKind.wrap .i64 ((IntKind.wrap .i64 (t + (IntKind.wrap .i64 (6 * (IntKind.wrap .i64 (1 + x1)))))) + 12)) c3 v.1 h3 (by omega)
        refine ⟨r, c', h', by omega, E2.eq (fun k m => spec_l8Tune.l0_eq k m _ _ _ _ _ _ s) (E2.pos (by omega) (E2.bind e1 (E2.bind e2 (E2.bind e3 (E2.pos q (E2.bind e4 ?_))))))⟩
        simp only [wrapP (show 0 < d + 1 by omega) (show d + 1 < 9223372036854775807 by omega), Nat.add_sub_cancel]
        exact e5
      · obtain ⟨r, c', h', hr, e5⟩ := ih (IntKind.wrap .i64 (t + (IntKind.wrap .i64 (6 * (IntKind.wrap .i64 (1 + x1)))))) c3 v.1 h3 (by omega)
        refine ⟨r, c', h', by omega, E2.eq (fun k m => spec_l8Tune.l0_eq k m _ _ _ _ _ _ s) (E2.pos (by omega) (E2.bind e1 (E2.bind e2 (E2.bind e3 (E2.neg q (E2.bind e4 ?_))))))⟩
        simp only [wrapP (show 0 < d + 1 by omega) (show d + 1 < 9223372036854775807 by omega), Nat.add_sub_cancel]
        exact e5
  obtain ⟨x, c1, h1, ⟨h2, h3, h4⟩, e1⟩ := l1Below_dr most c h
  obtain ⟨n, rfl⟩ := Int.eq_ofNat_of_zero_le h2
  have hn : n ≤ 100 := by
    rcases Int.lt_or_le 0 most with q | q
    · have := h3 q; omega
    · have := h4 q; omega
  obtain ⟨r, c', h', hr, e3⟩ := key n 0 c1 [] h1 (by simp; omega)
  exact ⟨r, c', h', by simp at hr; omega, Ev.eq (fun k => spec_l8Tune_eq k c voice most) (Ev.bind e1 (Ev.loop (f := fun k m => spec_l8Tune.l0 k m voice 0 (n : Int) c1.1 c1.2.1 c1.2.2.1 []) e3))⟩
theorem setAt_len {t : Ty} {l : List t.den} {i : Int} {f : t.den → t.den} : (setAt t l i f).length = l.length := by unfold setAt; simp
theorem l8Any_dr : Dr (fun k c => spec_l8Any k c) (fun r => r.length ≤ 14) := by
  intro c h
  obtain ⟨l, c1, h1, hl, e1⟩ := l8Draw_dr c h
  by_cases q0 : (((List.length l : Nat) : Int) : Int) = 0
  · exact ⟨l, c1, h1, by omega, Ev.eq (fun k => spec_l8Any_eq k c) (Ev.bind e1 (Ev.pos q0 Ev.ret))⟩
  obtain ⟨i, c2, h2, ⟨i1, i2, _⟩, e2⟩ := l1Below_dr ((List.length l : Nat) : Int) c1 h1
  have i2 := i2 (by omega)
  obtain ⟨x, c3, h3, _, e3⟩ := l1Below_dr 9 c2 h2
  by_cases q1 : x = 0
  · obtain ⟨y, c4, h4, _, e4⟩ := l1Int_dr [(-1), 2000, 2001] (by simp) c3 h3
    exact ⟨_, c4, h4, by show (setAt _ _ _ _).length ≤ _; rw [setAt_len]; exact Nat.le_trans hl (by omega), Ev.eq (fun k => spec_l8Any_eq k c) (Ev.bind e1 (Ev.neg q0 (Ev.bind e2 (Ev.bind e3 (Ev.pos q1 (Ev.bind e4 (Ev.pos i1 (Ev.pos i2 Ev.ret))))))))⟩
  by_cases q2 : x = 1
  · obtain ⟨y, c4, h4, _, e4⟩ := l1Int_dr [0, 96, 97] (by simp) c3 h3
    exact ⟨_, c4, h4, by show (setAt _ _ _ _).length ≤ _; rw [setAt_len]; exact Nat.le_trans hl (by omega), Ev.eq (fun k => spec_l8Any_eq k c) (Ev.bind e1 (Ev.neg q0 (Ev.bind e2 (Ev.bind e3 (Ev.neg q1 (Ev.pos q2 (Ev.bind e4 (Ev.pos i1 (Ev.pos i2 Ev.ret)))))))))⟩
  by_cases q3 : x = 2
  · obtain ⟨y, c4, h4, _, e4⟩ := l1Int_dr [20, 108, 109] (by simp) c3 h3
    exact ⟨_, c4, h4, by show (setAt _ _ _ _).length ≤ _; rw [setAt_len]; exact Nat.le_trans hl (by omega), Ev.eq (fun k => spec_l8Any_eq k c) (Ev.bind e1 (Ev.neg q0 (Ev.bind e2 (Ev.bind e3 (Ev.neg q1 (Ev.neg q2 (Ev.pos q3 (Ev.bind e4 (Ev.pos i1 (Ev.pos i2 Ev.ret))))))))))⟩
  by_cases q4 : x = 3
  · obtain ⟨y, c4, h4, _, e4⟩ := l1Int_dr [0, 4, 5] (by simp) c3 h3
    exact ⟨_, c4, h4, by show (setAt _ _ _ _).length ≤ _; rw [setAt_len]; exact Nat.le_trans hl (by omega), Ev.eq (fun k => spec_l8Any_eq k c) (Ev.bind e1 (Ev.neg q0 (Ev.bind e2 (Ev.bind e3 (Ev.neg q1 (Ev.neg q2 (Ev.neg q3 (Ev.pos q4 (Ev.bind e4 (Ev.pos i1 (Ev.pos i2 Ev.ret)))))))))))⟩
  by_cases q5 : x = 4
  · exact ⟨_, c3, h3, by show (_ ++ [_]).length ≤ _; rw [List.length_append, List.length_singleton]; exact Nat.succ_le_succ hl, Ev.eq (fun k => spec_l8Any_eq k c) (Ev.bind e1 (Ev.neg q0 (Ev.bind e2 (Ev.bind e3 (Ev.neg q1 (Ev.neg q2 (Ev.neg q3 (Ev.neg q4 (Ev.pos q5 (Ev.pos (Nat.le_refl 0) (Ev.pos (show (0 : Int) < ((List.length l : Nat) : Int) by omega) (Ev.pos (show (l.length + 1) * 32 ≤ 211106232532992 by omega) Ev.ret))))))))))))⟩
  exact ⟨l, c3, h3, by omega, Ev.eq (fun k => spec_l8Any_eq k c) (Ev.bind e1 (Ev.neg q0 (Ev.bind e2 (Ev.bind e3 (Ev.neg q1 (Ev.neg q2 (Ev.neg q3 (Ev.neg q4 (Ev.neg q5 Ev.ret)))))))))⟩
theorem l10Draw_dr : Dr (fun k c => spec_l10Draw k c) (fun _ => True) := by
  intro c h
  obtain ⟨x1, c1, h1, _, e1⟩ := l1Below_dr 4 c h
  obtain ⟨x2, c2, h2, _, e2⟩ := l1Int_dr [4, 4, 4, 8, 2] (by simp) c1 h1
  exact ⟨_, c2, h2, trivial, Ev.eq (fun k => spec_l10Draw_eq k c) (Ev.bind e1 (Ev.bind e2 Ev.ret))⟩
theorem l10Any_dr : Dr (fun k c => spec_l10Any k c) (fun _ => True) := by
  intro c h
  obtain ⟨m, c1, h1, _, e1⟩ := l10Draw_dr c h
  obtain ⟨x, c2, h2, _, e2⟩ := l1Below_dr 9 c1 h1
  by_cases q1 : x = 0
  · obtain ⟨y, c4, h4, _, e4⟩ := l1Int_dr [0, 12, 13] (by simp) c2 h2
    exact ⟨_, c4, h4, trivial, Ev.eq (fun k => spec_l10Any_eq k c) (Ev.bind e1 (Ev.bind e2 (Ev.pos q1 (Ev.bind e4 Ev.ret))))⟩
  by_cases q2 : x = 1
  · obtain ⟨y, c4, h4, _, e4⟩ := l1Int_dr [0, 1, 3, 16] (by simp) c2 h2
    exact ⟨_, c4, h4, trivial, Ev.eq (fun k => spec_l10Any_eq k c) (Ev.bind e1 (Ev.bind e2 (Ev.neg q1 (Ev.pos q2 (Ev.bind e4 Ev.ret)))))⟩
  exact ⟨m, c2, h2, trivial, Ev.eq (fun k => spec_l10Any_eq k c) (Ev.bind e1 (Ev.bind e2 (Ev.neg q1 (Ev.neg q2 Ev.ret))))⟩
theorem l11Draw_dr : Dr (fun k c => spec_l11Draw k c) (fun r => 1 ≤ r.length ∧ r.length ≤ 4) := by
  intro c h
  have key : ∀ (d : Nat) (t : Int) (c : DT134) (s : List DT25), CurOk c → s.length + d ≤ 1000 → ∃ r c', CurOk c' ∧ s.length ≤ r.length ∧ r.length ≤ s.length + d ∧ E2 (fun k m => spec_l11Draw.l0 k m t (d : Int) c.1 c.2.1 c.2.2.1 s) (r, c') := by
    intro d
    induction d with
    | zero => intro t c s h hs; exact ⟨s, c, h, by omega, by omega, E2.eq (fun k m => spec_l11Draw.l0_eq k m _ _ _ _ _ s) (E2.neg (by omega) E2.ret)⟩
    | succ d ih =>
      intro t c s h hs
      obtain ⟨x1, c1, h1, _, e1⟩ := l1Below_dr 50 c h
      obtain ⟨x2, c2, h2, _, e2⟩ := l1Int_dr [40, 60, 72, 100, 120, 200, 77] (by simp) c1 h1
      obtain ⟨r, c', h', hr, hr', e5⟩ := ih (IntKind.wrap .i64 ((IntKind.wrap .i64 (t + 1)) + x1)) c2 (s ++ [(IntKind.wrap .i64 ((IntKind.wrap .i64 (t + 1)) + x1), (x2, ()))]) h2 (by simp; omega)
      simp only [List.length_append, List.length_singleton] at hr hr'
      refine ⟨r, c', h', by omega, by omega, E2.eq (fun k m => spec_l11Draw.l0_eq k m _ _ _ _ _ s) (E2.pos (by omega) (E2.bind e1 (E2.bind e2 (E2.pos (by rw [List.length_singleton]; omega) ?_))))⟩
      simp only [wrapP (show 0 < d + 1 by omega) (show d + 1 < 9223372036854775807 by omega), Nat.add_sub_cancel]
      exact e5
  obtain ⟨x1, c1, h1, _, e1⟩ := l1Int_dr [60, 90, 120, 50, 144] (by simp) c h
  obtain ⟨x, c2, h2, ⟨i1, i2, _⟩, e2⟩ := l1Below_dr 4 c1 h1
  obtain ⟨n, rfl⟩ := Int.eq_ofNat_of_zero_le i1
  have := i2 (by omega)
  obtain ⟨r, c', h', hr, hr', e3⟩ := key n 0 c2 [(0, (x1, ()))] h2 (by simp; omega)
  simp only [List.length_singleton] at hr hr'
  exact ⟨r, c', h', by omega, Ev.eq (fun k => spec_l11Draw_eq k c) (Ev.bind e1 (Ev.bind e2 (Ev.loop (f := fun k m => spec_l11Draw.l0 k m 0 (n : Int) c2.1 c2.2.1 c2.2.2.1 [(0, (x1, ()))]) e3)))⟩
theorem l11Any_dr : Dr (fun k c => spec_l11Any k c) (fun r => r.length ≤ 4) := by
  intro c h
  obtain ⟨l, c1, h1, hl, e1⟩ := l11Draw_dr c h
  obtain ⟨i, c2, h2, ⟨i1, i2, _⟩, e2⟩ := l1Below_dr ((List.length l : Nat) : Int) c1 h1
  have i2 := i2 (by omega)
  obtain ⟨x, c3, h3, _, e3⟩ := l1Below_dr 9 c2 h2
  by_cases q1 : x = 0
  · obtain ⟨y, c4, h4, _, e4⟩ := l1Int_dr [(-1), 0, 2000, 2001] (by simp) c3 h3
    exact ⟨_, c4, h4, by show (setAt _ _ _ _).length ≤ _; rw [setAt_len]; exact hl.2, Ev.eq (fun k => spec_l11Any_eq k c) (Ev.bind e1 (Ev.bind e2 (Ev.bind e3 (Ev.pos q1 (Ev.bind e4 (Ev.pos i1 (Ev.pos i2 Ev.ret)))))))⟩
  by_cases q2 : x = 1
  · obtain ⟨y, c4, h4, _, e4⟩ := l1Int_dr [19, 20, 300, 301] (by simp) c3 h3
    exact ⟨_, c4, h4, by show (setAt _ _ _ _).length ≤ _; rw [setAt_len]; exact hl.2, Ev.eq (fun k => spec_l11Any_eq k c) (Ev.bind e1 (Ev.bind e2 (Ev.bind e3 (Ev.neg q1 (Ev.pos q2 (Ev.bind e4 (Ev.pos i1 (Ev.pos i2 Ev.ret))))))))⟩
  by_cases q3 : x = 2
  · exact ⟨[], c3, h3, by simp, Ev.eq (fun k => spec_l11Any_eq k c) (Ev.bind e1 (Ev.bind e2 (Ev.bind e3 (Ev.neg q1 (Ev.neg q2 (Ev.pos q3 Ev.ret))))))⟩
  exact ⟨l, c3, h3, by omega, Ev.eq (fun k => spec_l11Any_eq k c) (Ev.bind e1 (Ev.bind e2 (Ev.bind e3 (Ev.neg q1 (Ev.neg q2 (Ev.neg q3 Ev.ret))))))⟩
theorem l13Score_dr : Dr (fun k c => spec_l13Score k c) (fun r => r.length ≤ 200) := by
  intro c h
  obtain ⟨a, c1, h1, ha, e1⟩ := l8Tune_dr 1 9 (by omega) c h
  obtain ⟨b, c2, h2, hb, e2⟩ := l8Tune_dr 2 9 (by omega) c1 h1
  have key : ∀ (d i : Nat) (s : List DT60), i + d = b.length → s.length + d ≤ 1000 → ∃ r, r.length ≤ s.length + d ∧ E2 (fun k m => spec_l13Score.l0 k m (i : Int) c2.1 c2.2.1 c2.2.2.1 s b) (r, c2) := by
    intro d
    induction d with
    | zero => intro i s hi hs; exact ⟨s, by omega, E2.eq (fun k m => spec_l13Score.l0_eq k m _ _ _ _ s b) (E2.neg (by omega) E2.ret)⟩
    | succ d ih =>
      intro i s hi hs
      obtain ⟨v, hv, e4⟩ := putS_ev s (rd T60 b (i : Int)) (by omega)
      obtain ⟨r, hr, e5⟩ := ih (i + 1) v.1 (by omega) (by omega)
      refine ⟨r, by omega, E2.eq (fun k m => spec_l13Score.l0_eq k m _ _ _ _ s b) (E2.pos (by omega) (E2.pos (by omega) (E2.pos (by omega) (E2.bind e4 ?_))))⟩
      simp only [wrapS (show i < 9223372036854775807 by omega)]
      exact e5
  have ha : a.length ≤ 100 := ha
  have hb : b.length ≤ 100 := hb
  obtain ⟨r, hr, e3⟩ := key b.length 0 a (by omega) (by omega)
  exact ⟨r, c2, h2, by show r.length ≤ 200; omega, Ev.eq (fun k => spec_l13Score_eq k c) (Ev.bind e1 (Ev.bind e2 (Ev.loop (f := fun k m => spec_l13Score.l0 k m 0 c2.1 c2.2.1 c2.2.2.1 a b) e3)))⟩
theorem l25Mark_dr : Dr (fun k c => spec_l25Mark k c) (fun _ => True) := by
  intro c h
  obtain ⟨x1, c1, h1, _, e1⟩ := l1Below_dr 5 c h
  obtain ⟨x2, c2, h2, _, e2⟩ := l1Below_dr 4 c1 h1
  obtain ⟨x3, c3, h3, _, e3⟩ := l1Below_dr 4 c2 h2
  obtain ⟨x4, c4, h4, _, e4⟩ := l1Below_dr 5 c3 h3
  obtain ⟨x5, c5, h5, _, e5⟩ := l1Below_dr 3 c4 h4
  exact ⟨_, c5, h5, trivial, Ev.eq (fun k => spec_l25Mark_eq k c) (Ev.bind e1 (Ev.bind e2 (Ev.bind e3 (Ev.bind e4 (Ev.bind e5 Ev.ret)))))⟩
theorem setMS_ev (l : List DT110) (x : DT110) (hl : l.length ≤ 1048576) : ∃ v : List DT110, v.length ≤ l.length + 1 ∧ Ev (fun k => spec_SetMark k l x) v := by
  obtain ⟨p, hp, h1, h2⟩ := first_idx (fun i => befM (rd T110 l (i : Int)) x) l.length
  have hs := setS_ev l x hl p hp h1 h2
  have hvl := setV_len l x p hp
  obtain ⟨a, ea, _⟩ := specMarks_ev l hl
  obtain ⟨b, eb, _⟩ := specMarksB_ev (setV l x p) (by omega)
  have sz : (List.length ([] : (List DT110)) + List.length l) * 40 ≤ 211106232532992 := by rw [List.length_nil]; omega
  by_cases c : a = true
  · by_cases d : b = true
    · exact ⟨setV l x p, hvl, Ev.eq (fun k => spec_SetMark_eq k l x) (Ev.bind hs (Ev.bind ea (Ev.neg (by simpa using c) (Ev.bind eb (Ev.neg (by simpa using d) Ev.ret)))))⟩
    · exact ⟨[] ++ l, by simp, Ev.eq (fun k => spec_SetMark_eq k l x) (Ev.bind hs (Ev.bind ea (Ev.neg (by simpa using c) (Ev.bind eb (Ev.pos d (Ev.pos sz Ev.ret))))))⟩
  · exact ⟨[] ++ l, by simp, Ev.eq (fun k => spec_SetMark_eq k l x) (Ev.bind hs (Ev.bind ea (Ev.pos c (Ev.pos sz Ev.ret))))⟩
theorem l25Draw_dr : Dr (fun k c => spec_l25Draw k c) (fun r => r.length ≤ 9) := by
  intro c h
  have key : ∀ (d : Nat) (c : DT134) (s : List DT110), CurOk c → s.length + d ≤ 1000 → ∃ r c', CurOk c' ∧ r.length ≤ s.length + d ∧ E2 (fun k m => spec_l25Draw.l0 k m (d : Int) c.1 c.2.1 c.2.2.1 s) (r, c') := by
    intro d
    induction d with
    | zero => intro c s h hs; exact ⟨s, c, h, by omega, E2.eq (fun k m => spec_l25Draw.l0_eq k m _ _ _ _ s) (E2.neg (by omega) E2.ret)⟩
    | succ d ih =>
      intro c s h hs
      obtain ⟨x, c1, h1, _, e1⟩ := l25Mark_dr c h
      obtain ⟨v, hv, e2⟩ := setMS_ev s x (by omega)
      obtain ⟨r, c', h', hr, e3⟩ := ih c1 v h1 (by omega)
      refine ⟨r, c', h', by omega, E2.eq (fun k m => spec_l25Draw.l0_eq k m _ _ _ _ s) (E2.pos (by omega) (E2.bind e1 (E2.bind e2 ?_)))⟩
      simp only [wrapP (show 0 < d + 1 by omega) (show d + 1 < 9223372036854775807 by omega), Nat.add_sub_cancel]
      exact e3
  obtain ⟨x, c1, h1, ⟨h2, h3, _⟩, e1⟩ := l1Below_dr 9 c h
  obtain ⟨n, rfl⟩ := Int.eq_ofNat_of_zero_le h2
  have := h3 (by omega)
  obtain ⟨r, c', h', hr, e3⟩ := key n c1 [] h1 (by simp; omega)
  exact ⟨r, c', h', by show r.length ≤ 9; simp at hr; omega, Ev.eq (fun k => spec_l25Draw_eq k c) (Ev.bind e1 (Ev.loop (f := fun k m => spec_l25Draw.l0 k m (n : Int) c1.1 c1.2.1 c1.2.2.1 []) e3))⟩
theorem l25Any_dr : Dr (fun k c => spec_l25Any k c) (fun r => r.length ≤ 9) := by
  intro c h
  obtain ⟨l, c1, h1, hl, e1⟩ := l25Draw_dr c h
  by_cases q0 : (((List.length l : Nat) : Int) : Int) = 0
  · exact ⟨l, c1, h1, hl, Ev.eq (fun k => spec_l25Any_eq k c) (Ev.bind e1 (Ev.pos q0 Ev.ret))⟩
  obtain ⟨i, c2, h2, ⟨i1, i2, _⟩, e2⟩ := l1Below_dr ((List.length l : Nat) : Int) c1 h1
  have i2 := i2 (by omega)
  obtain ⟨x, c3, h3, _, e3⟩ := l1Below_dr 9 c2 h2
  by_cases q1 : x = 0
  · obtain ⟨y, c4, h4, _, e4⟩ := l1Int_dr [0, 100, 101] (by simp) c3 h3
    exact ⟨_, c4, h4, by show (setAt _ _ _ _).length ≤ _; rw [setAt_len]; exact hl, Ev.eq (fun k => spec_l25Any_eq k c) (Ev.bind e1 (Ev.neg q0 (Ev.bind e2 (Ev.bind e3 (Ev.pos q1 (Ev.bind e4 (Ev.pos i1 (Ev.pos i2 Ev.ret))))))))⟩
  by_cases q2 : x = 1
  · obtain ⟨y, c4, h4, _, e4⟩ := l1Int_dr [0, 4, 5] (by simp) c3 h3
    exact ⟨_, c4, h4, by show (setAt _ _ _ _).length ≤ _; rw [setAt_len]; exact hl, Ev.eq (fun k => spec_l25Any_eq k c) (Ev.bind e1 (Ev.neg q0 (Ev.bind e2 (Ev.bind e3 (Ev.neg q1 (Ev.pos q2 (Ev.bind e4 (Ev.pos i1 (Ev.pos i2 Ev.ret)))))))))⟩
  by_cases q3 : x = 2
  · obtain ⟨y, c4, h4, _, e4⟩ := l1Int_dr [(-1), 9, 10] (by simp) c3 h3
    exact ⟨_, c4, h4, by show (setAt _ _ _ _).length ≤ _; rw [setAt_len]; exact hl, Ev.eq (fun k => spec_l25Any_eq k c) (Ev.bind e1 (Ev.neg q0 (Ev.bind e2 (Ev.bind e3 (Ev.neg q1 (Ev.neg q2 (Ev.pos q3 (Ev.bind e4 (Ev.pos i1 (Ev.pos i2 Ev.ret))))))))))⟩
  by_cases q4 : x = 3
  · obtain ⟨y, c4, h4, _, e4⟩ := l1Int_dr [(-1), 100000, 100001] (by simp) c3 h3
    exact ⟨_, c4, h4, by show (setAt _ _ _ _).length ≤ _; rw [setAt_len]; exact hl, Ev.eq (fun k => spec_l25Any_eq k c) (Ev.bind e1 (Ev.neg q0 (Ev.bind e2 (Ev.bind e3 (Ev.neg q1 (Ev.neg q2 (Ev.neg q3 (Ev.pos q4 (Ev.bind e4 (Ev.pos i1 (Ev.pos i2 Ev.ret)))))))))))⟩
  by_cases q5 : x = 4
  · obtain ⟨y, c4, h4, _, e4⟩ := l1Int_dr [0, 99, 100] (by simp) c3 h3
    exact ⟨_, c4, h4, by show (setAt _ _ _ _).length ≤ _; rw [setAt_len]; exact hl, Ev.eq (fun k => spec_l25Any_eq k c) (Ev.bind e1 (Ev.neg q0 (Ev.bind e2 (Ev.bind e3 (Ev.neg q1 (Ev.neg q2 (Ev.neg q3 (Ev.neg q4 (Ev.pos q5 (Ev.bind e4 (Ev.pos i1 (Ev.pos i2 Ev.ret))))))))))))⟩
  exact ⟨l, c3, h3, hl, Ev.eq (fun k => spec_l25Any_eq k c) (Ev.bind e1 (Ev.neg q0 (Ev.bind e2 (Ev.bind e3 (Ev.neg q1 (Ev.neg q2 (Ev.neg q3 (Ev.neg q4 (Ev.neg q5 Ev.ret)))))))))⟩
theorem l26Draw_dr : Dr (fun k c => spec_l26Draw k c) (fun r => r.length ≤ 6) := by
  intro c h
  have key : ∀ (d : Nat) (t : Int) (c : DT134) (s : List DT25), CurOk c → s.length + d ≤ 1000 → ∃ r c', CurOk c' ∧ r.length ≤ s.length + d ∧ E2 (fun k m => spec_l26Draw.l0 k m t (d : Int) c.1 c.2.1 c.2.2.1 s) (r, c') := by
    intro d
    induction d with
    | zero => intro t c s h hs; exact ⟨s, c, h, by omega, E2.eq (fun k m => spec_l26Draw.l0_eq k m _ _ _ _ _ s) (E2.neg (by omega) E2.ret)⟩
    | succ d ih =>
      intro t c s h hs
      obtain ⟨x1, c1, h1, _, e1⟩ := l1Below_dr 9 c h
      obtain ⟨r, c', h', hr, e5⟩ := ih (IntKind.wrap .i64 ((IntKind.wrap .i64 (t + 1)) + x1)) c1 (s ++ [(((List.length s : Nat) : Int), (IntKind.wrap .i64 ((IntKind.wrap .i64 (t + 1)) + x1), ()))]) h1 (by simp; omega)
      simp only [List.length_append, List.length_singleton] at hr
      refine ⟨r, c', h', by omega, E2.eq (fun k m => spec_l26Draw.l0_eq k m _ _ _ _ _ s) (E2.pos (by omega) (E2.bind e1 (E2.pos (by rw [List.length_singleton]; omega) ?_)))⟩
      simp only [wrapP (show 0 < d + 1 by omega) (show d + 1 < 9223372036854775807 by omega), Nat.add_sub_cancel]
      exact e5
  obtain ⟨x, c1, h1, ⟨i1, i2, _⟩, e1⟩ := l1Below_dr 6 c h
  obtain ⟨n, rfl⟩ := Int.eq_ofNat_of_zero_le i1
  have := i2 (by omega)
  obtain ⟨r, c', h', hr, e3⟩ := key n 0 c1 [] h1 (by simp; omega)
  exact ⟨r, c', h', by show r.length ≤ 6; simp at hr; omega, Ev.eq (fun k => spec_l26Draw_eq k c) (Ev.bind e1 (Ev.loop (f := fun k m => spec_l26Draw.l0 k m 0 (n : Int) c1.1 c1.2.1 c1.2.2.1 []) e3))⟩
theorem l26Any_dr : Dr (fun k c => spec_l26Any k c) (fun r => r.length ≤ 6) := by
  intro c h
  obtain ⟨l, c1, h1, hl, e1⟩ := l26Draw_dr c h
  by_cases q0 : (((List.length l : Nat) : Int) : Int) = 0
  · exact ⟨l, c1, h1, hl, Ev.eq (fun k => spec_l26Any_eq k c) (Ev.bind e1 (Ev.pos q0 Ev.ret))⟩
  obtain ⟨i, c2, h2, ⟨i1, i2, _⟩, e2⟩ := l1Below_dr ((List.length l : Nat) : Int) c1 h1
  have i2 := i2 (by omega)
  obtain ⟨x, c3, h3, _, e3⟩ := l1Below_dr 9 c2 h2
  by_cases q1 : x = 0
  · obtain ⟨y, c4, h4, _, e4⟩ := l1Int_dr [0, 1, 9] (by simp) c3 h3
    exact ⟨_, c4, h4, by show (setAt _ _ _ _).length ≤ _; rw [setAt_len]; exact hl, Ev.eq (fun k => spec_l26Any_eq k c) (Ev.bind e1 (Ev.neg q0 (Ev.bind e2 (Ev.bind e3 (Ev.pos q1 (Ev.bind e4 (Ev.pos i1 (Ev.pos i2 Ev.ret))))))))⟩
  by_cases q2 : x = 1
  · obtain ⟨y, c4, h4, _, e4⟩ := l1Int_dr [0, 1, 500, 501] (by simp) c3 h3
    exact ⟨_, c4, h4, by show (setAt _ _ _ _).length ≤ _; rw [setAt_len]; exact hl, Ev.eq (fun k => spec_l26Any_eq k c) (Ev.bind e1 (Ev.neg q0 (Ev.bind e2 (Ev.bind e3 (Ev.neg q1 (Ev.pos q2 (Ev.bind e4 (Ev.pos i1 (Ev.pos i2 Ev.ret)))))))))⟩
  exact ⟨l, c3, h3, hl, Ev.eq (fun k => spec_l26Any_eq k c) (Ev.bind e1 (Ev.neg q0 (Ev.bind e2 (Ev.bind e3 (Ev.neg q1 (Ev.neg q2 Ev.ret))))))⟩
/-- Some players, of few voices. -/
def fewP (n : Nat) (l : List DT93) : Prop := l.length ≤ n ∧ ∀ p ∈ l, p.2.2.2.1.length ≤ 3
theorem fewP_add {n : Nat} {l : List DT93} {a b c : Int} {v : List Int} (h : fewP n l) (hv : v.length ≤ 3) : fewP (n + 1) (l ++ [(a, (b, (c, (v, ()))))]) :=
  ⟨by rw [List.length_append, List.length_singleton]; have := h.1; omega, fun p hp => by
    rcases List.mem_append.1 hp with h1 | h1
    · exact h.2 p h1
    · rw [List.mem_singleton.1 h1]; exact hv⟩
theorem fewP_mono {n m : Nat} {l : List DT93} (h : fewP n l) (hm : n ≤ m) : fewP m l := ⟨Nat.le_trans h.1 hm, h.2⟩
theorem l33Voices_dr : Dr (fun k c => spec_l33Voices k c) (fun r => fewP 10 r) := by
  intro c h
  have key : ∀ (d i : Nat) (c : DT134) (s : List DT93), i + d = 7 → 1 ≤ i → CurOk c → fewP i s → ∃ r c', CurOk c' ∧ fewP 10 r ∧ E2 (fun k m => spec_l33Voices.l0 k m (i : Int) c.1 c.2.1 c.2.2.1 s) (r, c') := by
    intro d
    induction d with
    | zero =>
      intro i c s hi h1 h hs
      obtain ⟨x, c1, k1, ⟨k2, k3, _⟩, e1⟩ := l1Below_dr 4 c h
      have := k3 (by omega)
      refine ⟨s, c1, k1, fewP_mono hs (by omega), E2.eq (fun k m => spec_l33Voices.l0_eq k m _ _ _ _ s) (E2.bind e1 (E2.neg ?_ E2.ret))⟩
      rw [wrapI (by omega) (by omega)]; omega
    | succ d ih =>
      intro i c s hi h1 h hs
      obtain ⟨x, c1, k1, ⟨k2, k3, _⟩, e1⟩ := l1Below_dr 4 c h
      have := k3 (by omega)
      by_cases q : (i : Int) ≤ IntKind.wrap .i64 (2 + x)
      · obtain ⟨x2, c2, k2', _, e2⟩ := l1Below_dr 18 c1 k1
        obtain ⟨x3, c3, k3', _, e3⟩ := l1Below_dr 12 c2 k2'
        obtain ⟨r, c', h', hr, e5⟩ := ih (i + 1) c3 (s ++ [((i : Int), (IntKind.wrap .i64 (40 + x2), (IntKind.wrap .i64 (76 + x3), ([1, 2, 3], ()))))]) (by omega) (by omega) k3' (fewP_add hs (by simp))
        have := hs.1
        refine ⟨r, c', h', hr, E2.eq (fun k m => spec_l33Voices.l0_eq k m _ _ _ _ s) (E2.bind e1 (E2.pos q (E2.bind e2 (E2.bind e3 (E2.pos (by rw [List.length_singleton]; omega) ?_)))))⟩
        simp only [wrapS (show i < 9223372036854775807 by omega)]
        exact e5
      · exact ⟨s, c1, k1, fewP_mono hs (by omega), E2.eq (fun k m => spec_l33Voices.l0_eq k m _ _ _ _ s) (E2.bind e1 (E2.neg q E2.ret))⟩
  obtain ⟨r, c', h', hr, e⟩ := key 6 1 c [] (by omega) (by omega) h ⟨by simp, by simp⟩
  exact ⟨r, c', h', hr, Ev.eq (fun k => spec_l33Voices_eq k c) (Ev.loop (f := fun k m => spec_l33Voices.l0 k m 1 c.1 c.2.1 c.2.2.1 []) e)⟩
theorem l29Draw_dr : Dr (fun k c => spec_l29Draw k c) (fun r => fewP 10 r ∧ 1 ≤ r.length) := by
  intro c h
  have key : ∀ (d i : Nat) (c : DT134) (s : List DT93), i + d = 7 → 1 ≤ i → CurOk c → fewP i s → ∃ r c', CurOk c' ∧ (fewP 10 r ∧ s.length ≤ r.length ∧ (i = 1 → 1 ≤ r.length)) ∧ E2 (fun k m => spec_l29Draw.l0 k m (i : Int) c.1 c.2.1 c.2.2.1 s) (r, c') := by
    intro d
    induction d with
    | zero =>
      intro i c s hi h1 h hs
      obtain ⟨x, c1, k1, ⟨k2, k3, _⟩, e1⟩ := l1Below_dr 5 c h
      have := k3 (by omega)
      refine ⟨s, c1, k1, ⟨fewP_mono hs (by omega), by omega, fun h => by omega⟩, E2.eq (fun k m => spec_l29Draw.l0_eq k m _ _ _ _ s) (E2.bind e1 (E2.neg ?_ E2.ret))⟩
      rw [wrapI (by omega) (by omega)]; omega
    | succ d ih =>
      intro i c s hi h1 h hs
      obtain ⟨x, c1, k1, ⟨k2, k3, _⟩, e1⟩ := l1Below_dr 5 c h
      have := k3 (by omega)
      by_cases q : (i : Int) ≤ IntKind.wrap .i64 (1 + x)
      · obtain ⟨x2, c2, k2', _, e2⟩ := l1Below_dr 12 c1 k1
        obtain ⟨x3, c3, k3', _, e3⟩ := l1Below_dr 12 c2 k2'
        have hsl := hs.1
        have in2 : ∀ (n v : Nat) (c : DT134) (a b e : Int) (w : List Int), v + n = 4 → w.length + n ≤ 3 → CurOk c → ∃ r c', CurOk c' ∧ (fewP 10 r ∧ s.length + 1 ≤ r.length) ∧ E3 (fun k m m1 => spec_l29Draw.l2 k m m1 (i : Int) (v : Int) c.1 c.2.1 c.2.2.1 s a b e w) (r, c') := by
          intro n
          induction n with
          | zero =>
            intro v c a b e w hv hw hc
            obtain ⟨r, c', h', hr, e5⟩ := ih (i + 1) c (s ++ [(a, (b, (e, (w, ()))))]) (by omega) (by omega) hc (fewP_add hs (by omega))
            rw [List.length_append, List.length_singleton] at hr
            refine ⟨r, c', h', ⟨hr.1, hr.2.1⟩, E3.eq (fun k m m1 => spec_l29Draw.l2_eq k m m1 _ _ _ _ _ s _ _ _ w) (E3.neg (by omega) (E3.pos (by rw [List.length_singleton]; omega) ?_))⟩
            simp only [wrapS (show i < 9223372036854775807 by omega)]
            exact E3.out e5
          | succ n ihn =>
            intro v c a b e w hv hw hc
            obtain ⟨y, c4, k4, _, e4⟩ := l1Once_dr 3 c hc
            by_cases qy : y = true
            · obtain ⟨r, c', h', hr, e5⟩ := ihn (v + 1) c4 a b e w (by omega) (by omega) k4
              refine ⟨r, c', h', hr, E3.eq (fun k m m1 => spec_l29Draw.l2_eq k m m1 _ _ _ _ _ s _ _ _ w) (E3.pos (by omega) (E3.bind e4 (E3.neg (fun h => h qy) ?_)))⟩
              simp only [wrapS (show v < 9223372036854775807 by omega)]
              exact e5
            · obtain ⟨r, c', h', hr, e5⟩ := ihn (v + 1) c4 a b e (w ++ [(v : Int)]) (by omega) (by rw [List.length_append, List.length_singleton]; omega) k4
              refine ⟨r, c', h', hr, E3.eq (fun k m m1 => spec_l29Draw.l2_eq k m m1 _ _ _ _ _ s _ _ _ w) (E3.pos (by omega) (E3.bind e4 (E3.pos qy (E3.pos (by rw [List.length_singleton]; omega) ?_))))⟩
              simp only [wrapS (show v < 9223372036854775807 by omega)]
              exact e5
        have in1 : ∀ (n v : Nat) (c : DT134) (a b e : Int), v + n = 4 → n ≤ 3 → CurOk c → ∃ r c', CurOk c' ∧ (fewP 10 r ∧ s.length + 1 ≤ r.length) ∧ E3 (fun k m m1 => spec_l29Draw.l1 k m m1 (i : Int) (v : Int) c.1 c.2.1 c.2.2.1 s a b e) (r, c') := by
          intro n
          induction n with
          | zero =>
            intro v c a b e hv hw hc
            obtain ⟨r, c', h', hr, e5⟩ := ih (i + 1) c (s ++ [(a, (b, (e, ([], ()))))]) (by omega) (by omega) hc (fewP_add hs (by simp))
            rw [List.length_append, List.length_singleton] at hr
            refine ⟨r, c', h', ⟨hr.1, hr.2.1⟩, E3.eq (fun k m m1 => spec_l29Draw.l1_eq k m m1 _ _ _ _ _ s _ _ _) (E3.neg (by omega) (E3.pos (by rw [List.length_singleton]; omega) ?_))⟩
            simp only [wrapS (show i < 9223372036854775807 by omega)]
            exact E3.out e5
          | succ n ihn =>
            intro v c a b e hv hw hc
            obtain ⟨y, c4, k4, _, e4⟩ := l1Once_dr 3 c hc
            by_cases qy : y = true
            · obtain ⟨r, c', h', hr, e5⟩ := ihn (v + 1) c4 a b e (by omega) (by omega) k4
              refine ⟨r, c', h', hr, E3.eq (fun k m m1 => spec_l29Draw.l1_eq k m m1 _ _ _ _ _ s _ _ _) (E3.pos (by omega) (E3.bind e4 (E3.neg (fun h => h qy) ?_)))⟩
              simp only [wrapS (show v < 9223372036854775807 by omega)]
              exact e5
            · obtain ⟨r, c', h', hr, e5⟩ := in2 n (v + 1) c4 a b e [(v : Int)] (by omega) (by rw [List.length_singleton]; omega) k4
              refine ⟨r, c', h', hr, E3.eq (fun k m m1 => spec_l29Draw.l1_eq k m m1 _ _ _ _ _ s _ _ _) (E3.pos (by omega) (E3.bind e4 (E3.pos qy (E3.pos (by rw [List.length_singleton]; omega) ?_))))⟩
              simp only [wrapS (show v < 9223372036854775807 by omega)]
              exact e5
        obtain ⟨r, c', h', hr, e5⟩ := in1 3 1 c3 (IntKind.wrap .i64 (2 * (i : Int))) (IntKind.wrap .i64 (50 + x2)) (IntKind.wrap .i64 (66 + x3)) (by omega) (by omega) k3'
        refine ⟨r, c', h', ⟨hr.1, by omega, fun _ => by omega⟩, E2.eq (fun k m => spec_l29Draw.l0_eq k m _ _ _ _ s) (E2.bind e1 (E2.pos q (E2.bind e2 (E2.bind e3 ?_))))⟩
        exact E3.loop (f := fun k m m1 => spec_l29Draw.l1 k m m1 (i : Int) 1 c3.1 c3.2.1 c3.2.2.1 s (IntKind.wrap .i64 (2 * (i : Int))) (IntKind.wrap .i64 (50 + x2)) (IntKind.wrap .i64 (66 + x3))) e5
      · exact ⟨s, c1, k1, ⟨fewP_mono hs (by omega), by omega, fun h => by rw [wrapI (by omega) (by omega)] at q; omega⟩, E2.eq (fun k m => spec_l29Draw.l0_eq k m _ _ _ _ s) (E2.bind e1 (E2.neg q E2.ret))⟩
  obtain ⟨r, c', h', hr, e⟩ := key 6 1 c [] (by omega) (by omega) h ⟨by simp, by simp⟩
  exact ⟨r, c', h', ⟨hr.1, hr.2.2 rfl⟩, Ev.eq (fun k => spec_l29Draw_eq k c) (Ev.loop (f := fun k m => spec_l29Draw.l0 k m 1 c.1 c.2.1 c.2.2.1 []) e)⟩
theorem fewP_set {n : Nat} {l : List DT93} {i : Int} {f : DT93 → DT93} (h : fewP n l) (h0 : 0 ≤ i) (h1 : i < ((List.length l : Nat) : Int)) (hf : ∀ p : DT93, p.2.2.2.1.length ≤ 3 → (f p).2.2.2.1.length ≤ 3) : fewP n (setAt T93 l i f) := by
  obtain ⟨j, rfl⟩ := Int.eq_ofNat_of_zero_le h0
  have hj : j < l.length := by omega
  refine ⟨by rw [setAt_len]; exact h.1, fun p hp => ?_⟩
  unfold setAt at hp
  rcases List.mem_or_eq_of_mem_set hp with h2 | h2
  · exact h.2 p h2
  · rw [h2]
    refine hf _ ?_
    rw [rd_at hj]
    exact h.2 _ (List.getElem_mem hj)
theorem l29Any_dr : Dr (fun k c => spec_l29Any k c) (fun r => fewP 10 r) := by
  intro c h
  obtain ⟨l, c1, h1, hl, e1⟩ := l29Draw_dr c h
  have hne : 1 ≤ l.length := hl.2
  have hl : fewP 10 l := hl.1
  obtain ⟨i, c2, h2, ⟨i1, i2, i3⟩, e2⟩ := l1Below_dr ((List.length l : Nat) : Int) c1 h1
  obtain ⟨x, c3, h3, _, e3⟩ := l1Below_dr 9 c2 h2
  by_cases q0 : (0 : Int) < ((List.length l : Nat) : Int)
  · have i2 := i2 q0
    by_cases q1 : x = 0
    · obtain ⟨y, c4, h4, _, e4⟩ := l1Int_dr [0, 2, 99, 100] (by simp) c3 h3
      exact ⟨_, c4, h4, fewP_set (f := fun p => (y, p.2)) hl i1 i2 (fun p hp => hp), Ev.eq (fun k => spec_l29Any_eq k c) (Ev.bind e1 (Ev.bind e2 (Ev.bind e3 (Ev.pos q1 (Ev.bind e4 (Ev.pos i1 (Ev.pos i2 Ev.ret)))))))⟩
    by_cases q2 : x = 1
    · obtain ⟨y, c4, h4, _, e4⟩ := l1Int_dr [20, 21, 108] (by simp) c3 h3
      exact ⟨_, c4, h4, fewP_set (f := fun p => (p.1, (y, p.2.2))) hl i1 i2 (fun p hp => hp), Ev.eq (fun k => spec_l29Any_eq k c) (Ev.bind e1 (Ev.bind e2 (Ev.bind e3 (Ev.neg q1 (Ev.pos q2 (Ev.bind e4 (Ev.pos i1 (Ev.pos i2 Ev.ret))))))))⟩
    by_cases q3 : x = 2
    · obtain ⟨y, c4, h4, _, e4⟩ := l1Int_dr [20, 108, 109] (by simp) c3 h3
      exact ⟨_, c4, h4, fewP_set (f := fun p => (p.1, (p.2.1, (y, p.2.2.2)))) hl i1 i2 (fun p hp => hp), Ev.eq (fun k => spec_l29Any_eq k c) (Ev.bind e1 (Ev.bind e2 (Ev.bind e3 (Ev.neg q1 (Ev.neg q2 (Ev.pos q3 (Ev.bind e4 (Ev.pos i1 (Ev.pos i2 Ev.ret)))))))))⟩
    by_cases q4 : x = 3
    · refine ⟨_, c3, h3, ?_, Ev.eq (fun k => spec_l29Any_eq k c) (Ev.bind e1 (Ev.bind e2 (Ev.bind e3 (Ev.neg q1 (Ev.neg q2 (Ev.neg q3 (Ev.pos q4 (Ev.pos i1 (Ev.pos i2 Ev.ret)))))))))⟩
      exact fewP_set (f := fun p => (p.1, (p.2.1, (p.2.2.1, ([2, 1], p.2.2.2.2))))) hl i1 i2 (fun p _ => by simp)
    exact ⟨l, c3, h3, hl, Ev.eq (fun k => spec_l29Any_eq k c) (Ev.bind e1 (Ev.bind e2 (Ev.bind e3 (Ev.neg q1 (Ev.neg q2 (Ev.neg q3 (Ev.neg q4 Ev.ret)))))))⟩
  · exfalso
    omega
/-- The seats that are found, if any. -/
theorem seat_ev (l : List DT93) (sc : List DT60) (n : Nat) (hn : n ≤ 4) (hl : fewP 10 l) (hs : sc.length ≤ 1048576) : ∀ (d : Nat) (t : List Int), t.length + d = n → ∃ r : List Int × (Bool × Unit), r.1.length ≤ 4 ∧ Ev (fun k => spec_l29Seat k l sc (n : Int) t) r := by
  intro d
  induction d with
  | zero =>
    intro t ht
    exact ⟨([] ++ t, (true, ())), by simp; omega, Ev.eq (fun k => spec_l29Seat_eq k l sc _ t) (Ev.pos (by omega) (Ev.pos (by rw [List.length_nil]; omega) Ev.ret))⟩
  | succ d ih =>
    intro t ht
    have key : ∀ (e i : Nat), i + e = l.length → ∃ r : List Int × (Bool × Unit), r.1.length ≤ 4 ∧ E2 (fun k m => spec_l29Seat.l0 k m l sc (n : Int) t (i : Int)) r := by
      intro e
      induction e with
      | zero => intro i hi; exact ⟨([], (false, ())), by simp, E2.eq (fun k m => spec_l29Seat.l0_eq k m l sc _ t _) (E2.neg (by omega) E2.ret)⟩
      | succ e ihe =>
        intro i hi
        have hll := hl.1
        obtain ⟨r, hr, er⟩ := ihe (i + 1) (by omega)
        have i0 : (0 : Int) ≤ (i : Int) := by omega
        have i1 : (i : Int) < ((List.length l : Nat) : Int) := by omega
        have h1 := has_ev t (rd T93 l (i : Int)).1 (by omega)
        by_cases q : decide (((rd T93 l (i : Int)).1 : Int) ∈ t) = true
        · refine ⟨r, hr, E2.eq (fun k m => spec_l29Seat.l0_eq k m l sc _ t _) (E2.pos i1 (E2.pos i0 (E2.pos i1 (E2.bind h1 (E2.pos q ?_)))))⟩
          simp only [wrapS (show i < 9223372036854775807 by omega)]
          exact er
        · have hv : (rd T93 l (i : Int)).2.2.2.1.length ≤ 1048576 := by
            rw [rd_at (show i < l.length by omega)]
            exact Nat.le_trans (hl.2 _ (List.getElem_mem _)) (by omega)
          obtain ⟨b, eb, _⟩ := specCan_ev (rd T93 l (i : Int)) sc (IntKind.wrap .i64 (((List.length t : Nat) : Int) + 1)) hv hs
          by_cases qb : b = true
          · obtain ⟨r2, hr2, er2⟩ := ih (([] ++ t) ++ [(rd T93 l (i : Int)).1]) (by simp; omega)
            by_cases q2 : r2.2.1 = true
            · exact ⟨(r2.1, (true, ())), hr2, E2.eq (fun k m => spec_l29Seat.l0_eq k m l sc _ t _) (E2.pos i1 (E2.pos i0 (E2.pos i1 (E2.bind h1 (E2.neg q (E2.pos i0 (E2.pos i1 (E2.bind eb (E2.neg (fun h => h qb) (E2.pos (by rw [List.length_nil]; omega) (E2.pos i0 (E2.pos i1 (E2.pos (by rw [List.length_append, List.length_nil, List.length_singleton]; omega) (E2.bind er2 (E2.pos q2 E2.ret)))))))))))))))⟩
            · refine ⟨r, hr, E2.eq (fun k m => spec_l29Seat.l0_eq k m l sc _ t _) (E2.pos i1 (E2.pos i0 (E2.pos i1 (E2.bind h1 (E2.neg q (E2.pos i0 (E2.pos i1 (E2.bind eb (E2.neg (fun h => h qb) (E2.pos (by rw [List.length_nil]; omega) (E2.pos i0 (E2.pos i1 (E2.pos (by rw [List.length_append, List.length_nil, List.length_singleton]; omega) (E2.bind er2 (E2.neg q2 ?_)))))))))))))))⟩
              simp only [wrapS (show i < 9223372036854775807 by omega)]
              exact er
          · refine ⟨r, hr, E2.eq (fun k m => spec_l29Seat.l0_eq k m l sc _ t _) (E2.pos i1 (E2.pos i0 (E2.pos i1 (E2.bind h1 (E2.neg q (E2.pos i0 (E2.pos i1 (E2.bind eb (E2.pos qb ?_)))))))))⟩
            simp only [wrapS (show i < 9223372036854775807 by omega)]
            exact er
    obtain ⟨r, hr, er⟩ := key l.length 0 (by omega)
    exact ⟨r, hr, Ev.eq (fun k => spec_l29Seat_eq k l sc _ t) (Ev.neg (by omega) (Ev.loop (f := fun k m => spec_l29Seat.l0 k m l sc (n : Int) t 0) er))⟩
theorem smP_few {n : Nat} {l : List DT93} (h : fewP n l) (hn : n ≤ 1048576) : SmP l := ⟨Nat.le_trans h.1 hn, fun i hi => by
  rw [rd_at hi]
  exact Nat.le_trans (h.2 _ (List.getElem_mem hi)) (by omega)⟩
theorem seatP_ev (l : List DT93) (sc : List DT60) (hl : fewP 10 l) (hs : sc.length ≤ 1048576) : ∃ r : List Int × (Bool × Unit), r.1.length ≤ 4 ∧ Ev (fun k => spec_SeatPlayers k l sc 2) r := by
  obtain ⟨a, ea, _⟩ := specPlayers_ev l (smP_few hl (by omega))
  by_cases qa : a = true
  · have eb := specScore_ev sc hs
    by_cases qb : scoreP sc
    · obtain ⟨r, hr, er⟩ := seat_ev l sc 2 (by omega) hl hs 2 [] (by simp)
      exact ⟨(r.1, (decide (r.2.1 = true), ())), hr, Ev.eq (fun k => spec_SeatPlayers_eq k l sc 2) (Ev.bind ea (Ev.neg (fun h => h qa) (Ev.bind eb (Ev.neg (by simpa using qb) (Ev.bind (l1In_ev _ _ _) (Ev.neg (by simp) (Ev.bind er Ev.ret)))))))⟩
    · exact ⟨([], (false, ())), by simp, Ev.eq (fun k => spec_SeatPlayers_eq k l sc 2) (Ev.bind ea (Ev.neg (fun h => h qa) (Ev.bind eb (Ev.pos (by simpa using qb) Ev.ret))))⟩
  · exact ⟨([], (false, ())), by simp, Ev.eq (fun k => spec_SeatPlayers_eq k l sc 2) (Ev.bind ea (Ev.pos qa Ev.ret))⟩
theorem bkP_few {n : Nat} {l : List DT93} (h : fewP n l) (hn : n ≤ 1048576) : Bk (.list T93) l :=
  ⟨Nat.le_trans h.1 hn, fun x hx => ⟨trivial, trivial, trivial, ⟨Nat.le_trans (h.2 x hx) (by omega), fun _ _ => trivial⟩, trivial⟩⟩
theorem newS_ev (m : DT25) (ps : List DT93) (h : fewP 10 ps) : ∃ v : DT32 × (Bool × Unit), Bk T32 v.1 ∧ fewP 10 v.1.2.2.2.1 ∧ Ev (fun k => spec_NewOrchestra k m ps) v := by
  have b := newO_bk m ps (bkP_few h (by omega))
  obtain ⟨r, e1, e2⟩ := isOrchestra_both (newO m ps) (sm_of b)
  by_cases c : r = true
  · exact ⟨(newO m ps, (true, ())), b, h, Ev.eq (fun k => spec_NewOrchestra_eq k m ps) (Ev.bind (l33_ev _ b) (Ev.bind e1 (Ev.neg (by simpa using c) Ev.ret)))⟩
  · exact ⟨(zeroO, (false, ())), zeroO_bk, ⟨by simp [zeroO], by simp [zeroO]⟩, Ev.eq (fun k => spec_NewOrchestra_eq k m ps) (Ev.bind (l33_ev _ b) (Ev.bind e1 (Ev.pos c Ev.ret)))⟩
theorem bk_ev {l : List DT60} (h : l.length ≤ 1048576) : Bk (.list T60) l := ⟨h, fun x _ => bk_flat x rfl⟩
theorem bk_te {l : List DT25} (h : l.length ≤ 1048576) : Bk (.list T25) l := ⟨h, fun x _ => bk_flat x rfl⟩
theorem bk_ma {l : List DT110} (h : l.length ≤ 1048576) : Bk (.list T110) l := ⟨h, fun x _ => bk_flat x rfl⟩
theorem bk_in {l : List Int} (h : l.length ≤ 1048576) : Bk (.list (.int .i64)) l := ⟨h, fun x _ => trivial⟩
theorem l33Draw_dr : Dr (fun k c => spec_l33Draw k c) (fun o => Bk T32 o ∧ fewP 10 o.2.2.2.1) := by
  intro c h
  obtain ⟨m, c1, h1, _, e1⟩ := l10Draw_dr c h
  obtain ⟨ps, c2, h2, hps, e2⟩ := l33Voices_dr c1 h1
  obtain ⟨v, bv, fv, e3⟩ := newS_ev m ps hps
  obtain ⟨sc, c4, h4, hsc, e4⟩ := l13Score_dr c2 h2
  obtain ⟨te, c5, h5, hte, e5⟩ := l11Draw_dr c4 h4
  obtain ⟨ma, c6, h6, hma, e6⟩ := l25Draw_dr c5 h5
  obtain ⟨le, c7, h7, hle, e7⟩ := l26Draw_dr c6 h6
  have hsc : sc.length ≤ 200 := hsc
  have hma : ma.length ≤ 9 := hma
  have hle : le.length ≤ 6 := hle
  obtain ⟨st, hst, e8⟩ := seatP_ev v.1.2.2.2.1 sc fv (by omega)
  have b1 : Bk (.list T60) sc := bk_ev (by omega)
  have b2 : Bk (.list T25) te := bk_te (by omega)
  have b3 : Bk (.list T110) ma := bk_ma (by omega)
  have b4 : Bk (.list T25) le := bk_te (by omega)
  have bk : ∀ seats : List Int, Bk (.list (.int .i64)) seats → Bk T32 (sc, (v.1.2.1, (te, (v.1.2.2.2.1, (seats, (ma, (le, v.1.2.2.2.2.2.2.2))))))) := fun seats hs => ⟨b1, bv.2.1, b2, bv.2.2.2.1, hs, b3, b4, bv.2.2.2.2.2.2.2⟩
  by_cases q : st.2.1 = true
  · obtain ⟨x, c9, h9, _, e9⟩ := l1Once_dr 5 c7 h7
    by_cases q2 : x = true
    · exact ⟨_, c9, h9, ⟨bk _ bv.2.2.2.2.1, fv⟩, Ev.eq (fun k => spec_l33Draw_eq k c) (Ev.bind e1 (Ev.bind e2 (Ev.bind e3 (Ev.bind e4 (Ev.bind e5 (Ev.bind e6 (Ev.bind e7 (Ev.bind e8 (Ev.pos q (Ev.bind e9 (Ev.neg (fun h => h q2) Ev.ret)))))))))))⟩
    · exact ⟨_, c9, h9, ⟨bk _ (bk_in (by omega)), fv⟩, Ev.eq (fun k => spec_l33Draw_eq k c) (Ev.bind e1 (Ev.bind e2 (Ev.bind e3 (Ev.bind e4 (Ev.bind e5 (Ev.bind e6 (Ev.bind e7 (Ev.bind e8 (Ev.pos q (Ev.bind e9 (Ev.pos q2 Ev.ret)))))))))))⟩
  · exact ⟨_, c7, h7, ⟨bk _ bv.2.2.2.2.1, fv⟩, Ev.eq (fun k => spec_l33Draw_eq k c) (Ev.bind e1 (Ev.bind e2 (Ev.bind e3 (Ev.bind e4 (Ev.bind e5 (Ev.bind e6 (Ev.bind e7 (Ev.bind e8 (Ev.neg q Ev.ret)))))))))⟩
theorem l33Any_dr : Dr (fun k c => spec_l33Any k c) (fun o => Bk T32 o) := by
  intro c h
  obtain ⟨o, c1, h1, ⟨bo, fo⟩, e1⟩ := l33Draw_dr c h
  obtain ⟨x, c2, h2, _, e2⟩ := l1Below_dr 14 c1 h1
  by_cases q0 : x = 0
  · obtain ⟨y, c3, h3, hy, e3⟩ := l8Any_dr c2 h2
    have hy : y.length ≤ 14 := hy
    exact ⟨(y, o.2), c3, h3, ⟨bk_ev (by show y.length ≤ _; omega), bo.2⟩, Ev.eq (fun k => spec_l33Any_eq k c) (Ev.bind e1 (Ev.bind e2 (Ev.pos q0 (Ev.bind e3 Ev.ret))))⟩
  by_cases q1 : x = 1
  · obtain ⟨y, c3, h3, hy, e3⟩ := l10Any_dr c2 h2
    exact ⟨(o.1, (y, o.2.2)), c3, h3, ⟨bo.1, bk_flat _ rfl, bo.2.2⟩, Ev.eq (fun k => spec_l33Any_eq k c) (Ev.bind e1 (Ev.bind e2 (Ev.neg q0 (Ev.pos q1 (Ev.bind e3 Ev.ret)))))⟩
  by_cases q2 : x = 2
  · obtain ⟨y, c3, h3, hy, e3⟩ := l11Any_dr c2 h2
    have hy : y.length ≤ 4 := hy
    exact ⟨(o.1, (o.2.1, (y, o.2.2.2))), c3, h3, ⟨bo.1, bo.2.1, bk_te (by show y.length ≤ _; omega), bo.2.2.2⟩, Ev.eq (fun k => spec_l33Any_eq k c) (Ev.bind e1 (Ev.bind e2 (Ev.neg q0 (Ev.neg q1 (Ev.pos q2 (Ev.bind e3 Ev.ret))))))⟩
  by_cases q3 : x = 3
  · obtain ⟨y, c3, h3, hy, e3⟩ := l29Any_dr c2 h2
    exact ⟨(o.1, (o.2.1, (o.2.2.1, (y, o.2.2.2.2)))), c3, h3, ⟨bo.1, bo.2.1, bo.2.2.1, bkP_few hy (by omega), bo.2.2.2.2⟩, Ev.eq (fun k => spec_l33Any_eq k c) (Ev.bind e1 (Ev.bind e2 (Ev.neg q0 (Ev.neg q1 (Ev.neg q2 (Ev.pos q3 (Ev.bind e3 Ev.ret)))))))⟩
  by_cases q4 : x = 4
  · exact ⟨(o.1, (o.2.1, (o.2.2.1, (o.2.2.2.1, ([1, 1], o.2.2.2.2.2))))), c2, h2, ⟨bo.1, bo.2.1, bo.2.2.1, bo.2.2.2.1, bk_in (by simp), bo.2.2.2.2.2⟩, Ev.eq (fun k => spec_l33Any_eq k c) (Ev.bind e1 (Ev.bind e2 (Ev.neg q0 (Ev.neg q1 (Ev.neg q2 (Ev.neg q3 (Ev.pos q4 Ev.ret)))))))⟩
  by_cases q5 : x = 5
  · obtain ⟨y, c3, h3, hy, e3⟩ := l25Any_dr c2 h2
    have hy : y.length ≤ 9 := hy
    exact ⟨(o.1, (o.2.1, (o.2.2.1, (o.2.2.2.1, (o.2.2.2.2.1, (y, o.2.2.2.2.2.2)))))), c3, h3, ⟨bo.1, bo.2.1, bo.2.2.1, bo.2.2.2.1, bo.2.2.2.2.1, bk_ma (by show y.length ≤ _; omega), bo.2.2.2.2.2.2⟩, Ev.eq (fun k => spec_l33Any_eq k c) (Ev.bind e1 (Ev.bind e2 (Ev.neg q0 (Ev.neg q1 (Ev.neg q2 (Ev.neg q3 (Ev.neg q4 (Ev.pos q5 (Ev.bind e3 Ev.ret)))))))))⟩
  by_cases q6 : x = 6
  · obtain ⟨y, c3, h3, hy, e3⟩ := l26Any_dr c2 h2
    have hy : y.length ≤ 6 := hy
    exact ⟨(o.1, (o.2.1, (o.2.2.1, (o.2.2.2.1, (o.2.2.2.2.1, (o.2.2.2.2.2.1, (y, o.2.2.2.2.2.2.2))))))), c3, h3, ⟨bo.1, bo.2.1, bo.2.2.1, bo.2.2.2.1, bo.2.2.2.2.1, bo.2.2.2.2.2.1, bk_te (by show y.length ≤ _; omega), bo.2.2.2.2.2.2.2⟩, Ev.eq (fun k => spec_l33Any_eq k c) (Ev.bind e1 (Ev.bind e2 (Ev.neg q0 (Ev.neg q1 (Ev.neg q2 (Ev.neg q3 (Ev.neg q4 (Ev.neg q5 (Ev.pos q6 (Ev.bind e3 Ev.ret))))))))))⟩
  by_cases q7 : x = 7
  · obtain ⟨y, c3, h3, hy, e3⟩ := l1Int_dr [0, 9999, 10000] (by simp) c2 h2
    exact ⟨(o.1, (o.2.1, (o.2.2.1, (o.2.2.2.1, (o.2.2.2.2.1, (o.2.2.2.2.2.1, (o.2.2.2.2.2.2.1, (y, o.2.2.2.2.2.2.2.2)))))))), c3, h3, ⟨bo.1, bo.2.1, bo.2.2.1, bo.2.2.2.1, bo.2.2.2.2.1, bo.2.2.2.2.2.1, bo.2.2.2.2.2.2.1, trivial, bo.2.2.2.2.2.2.2.2⟩, Ev.eq (fun k => spec_l33Any_eq k c) (Ev.bind e1 (Ev.bind e2 (Ev.neg q0 (Ev.neg q1 (Ev.neg q2 (Ev.neg q3 (Ev.neg q4 (Ev.neg q5 (Ev.neg q6 (Ev.pos q7 (Ev.bind e3 Ev.ret)))))))))))⟩
  by_cases q8 : x = 8
  · obtain ⟨y, c3, h3, hy, e3⟩ := l1Int_dr [(-1), 100000, 100001] (by simp) c2 h2
    exact ⟨(o.1, (o.2.1, (o.2.2.1, (o.2.2.2.1, (o.2.2.2.2.1, (o.2.2.2.2.2.1, (o.2.2.2.2.2.2.1, (o.2.2.2.2.2.2.2.1, (y, ()))))))))), c3, h3, ⟨bo.1, bo.2.1, bo.2.2.1, bo.2.2.2.1, bo.2.2.2.2.1, bo.2.2.2.2.2.1, bo.2.2.2.2.2.2.1, bo.2.2.2.2.2.2.2.1, trivial, trivial⟩, Ev.eq (fun k => spec_l33Any_eq k c) (Ev.bind e1 (Ev.bind e2 (Ev.neg q0 (Ev.neg q1 (Ev.neg q2 (Ev.neg q3 (Ev.neg q4 (Ev.neg q5 (Ev.neg q6 (Ev.neg q7 (Ev.pos q8 (Ev.bind e3 Ev.ret))))))))))))⟩
  exact ⟨o, c2, h2, bo, Ev.eq (fun k => spec_l33Any_eq k c) (Ev.bind e1 (Ev.bind e2 (Ev.neg q0 (Ev.neg q1 (Ev.neg q2 (Ev.neg q3 (Ev.neg q4 (Ev.neg q5 (Ev.neg q6 (Ev.neg q7 (Ev.neg q8 Ev.ret)))))))))))⟩
theorem l1New_ev (code : List Int) (hc : code.length ≤ 1048576) : ∃ c : DT134, CurOk c ∧ Ev (fun k => spec_l1New k code) c := by
  have key : ∀ (d i : Nat) (h : Int), i + d = code.length → ∃ c : DT134, CurOk c ∧ E2 (fun k m => spec_l1New.l0 k m code h (i : Int)) c := by
    intro d
    induction d with
    | zero => intro i h hi; exact ⟨(code, (0, (h, ()))), ⟨hc, Int.le_refl 0, by show (0 : Int) ≤ ((List.length code : Nat) : Int); omega⟩, E2.eq (fun k m => spec_l1New.l0_eq k m code _ _) (E2.neg (by omega) E2.ret)⟩
    | succ d ih =>
      intro i h hi
      by_cases q : (i : Int) < 4000
      · obtain ⟨c, hc', e⟩ := ih (i + 1) _ (by omega)
        refine ⟨c, hc', E2.eq (fun k m => spec_l1New.l0_eq k m code _ _) (E2.pos (by omega) (E2.pos q (E2.pos (by omega) (E2.pos (by omega) ?_))))⟩
        simp only [wrapS (show i < 9223372036854775807 by omega)]
        exact e
      · exact ⟨(code, (0, (h, ()))), ⟨hc, Int.le_refl 0, by show (0 : Int) ≤ ((List.length code : Nat) : Int); omega⟩, E2.eq (fun k m => spec_l1New.l0_eq k m code _ _) (E2.pos (by omega) (E2.neg q E2.ret))⟩
  obtain ⟨c, hc', e⟩ := key code.length 0 (IntKind.wrap .i64 (193017 + ((List.length code : Nat) : Int))) (by omega)
  exact ⟨c, hc', Ev.eq (fun k => spec_l1New_eq k code) (Ev.loop (f := fun k m => spec_l1New.l0 k m code (IntKind.wrap .i64 (193017 + ((List.length code : Nat) : Int))) 0) e)⟩
theorem eqAll {t : Ty} {a b : List t.den} (h : a.length = b.length) : (∀ i, i < a.length → rd t a (i : Int) = rd t b (i : Int)) ↔ a = b := by
  constructor
  · intro H
    refine List.ext_getElem h fun i h1 h2 => ?_
    have := H i h1
    rwa [rd_at (t := t) h1, rd_at (t := t) h2] at this
  · rintro rfl i _
    rfl
theorem te_eta (a b : DT25) : ((a.1 : Int) = b.1 ∧ (a.2.1 : Int) = b.2.1) ↔ a = b := by
  obtain ⟨a1, a2, ⟨⟩⟩ := a
  obtain ⟨b1, b2, ⟨⟩⟩ := b
  constructor
  · rintro ⟨h1, h2⟩
    simp only at h1 h2
    rw [h1, h2]
  · intro h
    injection h with h1 h
    injection h with h2 h
    exact ⟨h1, h2⟩
theorem eqTe_ev (a b : List DT25) (ha : a.length ≤ 33554432) : ∃ r, Ev (fun k => slices_Equal_impl_Tempo k a b) r ∧ (r = true ↔ a = b) := by
  by_cases c : a.length = b.length
  · obtain ⟨r, er, hr⟩ := loop_allR (R := fun i v => E2 (fun k m => slices_Equal_impl_Tempo.l0 k m a b ((List.length a : Nat) : Int) i) v) (n := a.length) (fun i => rd T25 a (i : Int) = rd T25 b (i : Int)) true (E2.eq (fun k m => slices_Equal_impl_Tempo.l0_eq k m a b _ _) (E2.neg (by omega) E2.ret)) (fun i hi hq v e => by
      refine E2.eq (fun k m => slices_Equal_impl_Tempo.l0_eq k m a b _ _) (E2.pos (by omega) (E2.pos (by omega) (E2.pos (by omega) (E2.pos (by omega) (E2.pos (by omega) (E2.neg (fun h => h ((te_eta _ _).2 hq)) ?_))))))
      simp only [wrapS (show i < 9223372036854775807 by omega)]
      exact e) (fun i hi hq => E2.eq (fun k m => slices_Equal_impl_Tempo.l0_eq k m a b _ _) (E2.pos (by omega) (E2.pos (by omega) (E2.pos (by omega) (E2.pos (by omega) (E2.pos (by omega) (E2.pos (fun h => hq ((te_eta _ _).1 h)) E2.ret)))))))
    refine ⟨r, Ev.eq (fun k => slices_Equal_impl_Tempo_eq k a b) (Ev.neg (by omega) (Ev.loop (f := fun k m => slices_Equal_impl_Tempo.l0 k m a b ((List.length a : Nat) : Int) 0) er)), hr.trans ⟨fun h => (eqAll (t := T25) c).1 h.1, fun h => ⟨(eqAll (t := T25) c).2 h, rfl⟩⟩⟩
  · exact ⟨false, Ev.eq (fun k => slices_Equal_impl_Tempo_eq k a b) (Ev.pos (by omega) Ev.ret), by simp only [Bool.false_eq_true, false_iff]; exact fun h => c (h ▸ rfl)⟩
theorem eqLe_ev (a b : List DT25) (ha : a.length ≤ 33554432) : ∃ r, Ev (fun k => slices_Equal_impl_Letter k a b) r ∧ (r = true ↔ a = b) := by
  by_cases c : a.length = b.length
  · obtain ⟨r, er, hr⟩ := loop_allR (R := fun i v => E2 (fun k m => slices_Equal_impl_Letter.l0 k m a b ((List.length a : Nat) : Int) i) v) (n := a.length) (fun i => rd T25 a (i : Int) = rd T25 b (i : Int)) true (E2.eq (fun k m => slices_Equal_impl_Letter.l0_eq k m a b _ _) (E2.neg (by omega) E2.ret)) (fun i hi hq v e => by
      refine E2.eq (fun k m => slices_Equal_impl_Letter.l0_eq k m a b _ _) (E2.pos (by omega) (E2.pos (by omega) (E2.pos (by omega) (E2.pos (by omega) (E2.pos (by omega) (E2.neg (fun h => h ((te_eta _ _).2 hq)) ?_))))))
      simp only [wrapS (show i < 9223372036854775807 by omega)]
      exact e) (fun i hi hq => E2.eq (fun k m => slices_Equal_impl_Letter.l0_eq k m a b _ _) (E2.pos (by omega) (E2.pos (by omega) (E2.pos (by omega) (E2.pos (by omega) (E2.pos (by omega) (E2.pos (fun h => hq ((te_eta _ _).1 h)) E2.ret)))))))
    refine ⟨r, Ev.eq (fun k => slices_Equal_impl_Letter_eq k a b) (Ev.neg (by omega) (Ev.loop (f := fun k m => slices_Equal_impl_Letter.l0 k m a b ((List.length a : Nat) : Int) 0) er)), hr.trans ⟨fun h => (eqAll (t := T25) c).1 h.1, fun h => ⟨(eqAll (t := T25) c).2 h, rfl⟩⟩⟩
  · exact ⟨false, Ev.eq (fun k => slices_Equal_impl_Letter_eq k a b) (Ev.pos (by omega) Ev.ret), by simp only [Bool.false_eq_true, false_iff]; exact fun h => c (h ▸ rfl)⟩
theorem eqIn_ev (a b : List Int) (ha : a.length ≤ 33554432) : ∃ r, Ev (fun k => slices_Equal___int_int k a b) r ∧ (r = true ↔ a = b) := by
  by_cases c : a.length = b.length
  · obtain ⟨r, er, hr⟩ := loop_allR (R := fun i v => E2 (fun k m => slices_Equal___int_int.l0 k m a b ((List.length a : Nat) : Int) i) v) (n := a.length) (fun i => rd (.int .i64) a (i : Int) = rd (.int .i64) b (i : Int)) true (E2.eq (fun k m => slices_Equal___int_int.l0_eq k m a b _ _) (E2.neg (by omega) E2.ret)) (fun i hi hq v e => by
      refine E2.eq (fun k m => slices_Equal___int_int.l0_eq k m a b _ _) (E2.pos (by omega) (E2.pos (by omega) (E2.pos (by omega) (E2.pos (by omega) (E2.pos (by omega) (E2.neg (fun h => h hq) ?_))))))
      simp only [wrapS (show i < 9223372036854775807 by omega)]
      exact e) (fun i hi hq => E2.eq (fun k m => slices_Equal___int_int.l0_eq k m a b _ _) (E2.pos (by omega) (E2.pos (by omega) (E2.pos (by omega) (E2.pos (by omega) (E2.pos (by omega) (E2.pos hq E2.ret)))))))
    refine ⟨r, Ev.eq (fun k => slices_Equal___int_int_eq k a b) (Ev.neg (by omega) (Ev.loop (f := fun k m => slices_Equal___int_int.l0 k m a b ((List.length a : Nat) : Int) 0) er)), hr.trans ⟨fun h => (eqAll (t := .int .i64) c).1 h.1, fun h => ⟨(eqAll (t := .int .i64) c).2 h, rfl⟩⟩⟩
  · exact ⟨false, Ev.eq (fun k => slices_Equal___int_int_eq k a b) (Ev.pos (by omega) Ev.ret), by simp only [Bool.false_eq_true, false_iff]; exact fun h => c (h ▸ rfl)⟩
theorem pl_ext {a b : DT93} (h1 : (a.1 : Int) = b.1) (h2 : (a.2.1 : Int) = b.2.1) (h3 : (a.2.2.1 : Int) = b.2.2.1) (h4 : a.2.2.2.1 = b.2.2.2.1) : a = b := by
  obtain ⟨a1, a2, a3, a4, ⟨⟩⟩ := a
  obtain ⟨b1, b2, b3, b4, ⟨⟩⟩ := b
  simp only at h1 h2 h3 h4
  rw [h1, h2, h3, h4]
theorem eqPl1_ev (a b : DT93) (ha : a.2.2.2.1.length ≤ 33554432) : ∃ r, Ev (fun k => impl_equalPlayers k a b) r ∧ (r = true ↔ a = b) := by
  by_cases c1 : (a.1 : Int) = b.1
  · by_cases c2 : (a.2.1 : Int) = b.2.1
    · by_cases c3 : (a.2.2.1 : Int) = b.2.2.1
      · obtain ⟨r, er, hr⟩ := eqIn_ev a.2.2.2.1 b.2.2.2.1 ha
        refine ⟨_, Ev.eq (fun k => impl_equalPlayers_eq k a b) (Ev.pos c1 (Ev.pos c2 (Ev.pos c3 (Ev.bind er Ev.ret)))), ?_⟩
        rw [decide_eq_true_eq]
        exact hr.trans ⟨fun h => pl_ext c1 c2 c3 h, fun h => by rw [h]⟩
      · exact ⟨false, Ev.eq (fun k => impl_equalPlayers_eq k a b) (Ev.pos c1 (Ev.pos c2 (Ev.neg c3 Ev.ret))), by simp only [Bool.false_eq_true, false_iff]; exact fun h => c3 (by rw [h])⟩
    · exact ⟨false, Ev.eq (fun k => impl_equalPlayers_eq k a b) (Ev.pos c1 (Ev.neg c2 Ev.ret)), by simp only [Bool.false_eq_true, false_iff]; exact fun h => c2 (by rw [h])⟩
  · exact ⟨false, Ev.eq (fun k => impl_equalPlayers_eq k a b) (Ev.neg c1 Ev.ret), by simp only [Bool.false_eq_true, false_iff]; exact fun h => c1 (by rw [h])⟩
theorem eqPl_ev (a b : List DT93) (ha : Bk (.list T93) a) : ∃ r, Ev (fun k => slices_EqualFunc_impl_Player_68 k a b) r ∧ (r = true ↔ a = b) := by
  have hal := ha.1
  by_cases c : a.length = b.length
  · have one : ∀ i, i < a.length → ∃ r, Ev (fun k => impl_equalPlayers k (rd T93 a (i : Int)) (rd T93 b (i : Int))) r ∧ (r = true ↔ rd T93 a (i : Int) = rd T93 b (i : Int)) := fun i hi => eqPl1_ev _ _ (by
      rw [rd_at hi]
      exact Nat.le_trans (ha.2 _ (List.getElem_mem hi)).2.2.2.1.1 (by omega))
    obtain ⟨r, er, hr⟩ := loop_allR (R := fun i v => E2 (fun k m => slices_EqualFunc_impl_Player_68.l0 k m b a ((List.length a : Nat) : Int) i) v) (n := a.length) (fun i => rd T93 a (i : Int) = rd T93 b (i : Int)) true (E2.eq (fun k m => slices_EqualFunc_impl_Player_68.l0_eq k m b a _ _) (E2.neg (by omega) E2.ret)) (fun i hi hq v e => by
      obtain ⟨q, eq, hqq⟩ := one i hi
      refine E2.eq (fun k m => slices_EqualFunc_impl_Player_68.l0_eq k m b a _ _) (E2.pos (by omega) (E2.pos (by omega) (E2.pos (by omega) (E2.pos (by omega) (E2.pos (by omega) (E2.bind eq (E2.neg (fun h => h (hqq.2 hq)) ?_)))))))
      simp only [wrapS (show i < 9223372036854775807 by omega)]
      exact e) (fun i hi hq => by
      obtain ⟨q, eq, hqq⟩ := one i hi
      exact E2.eq (fun k m => slices_EqualFunc_impl_Player_68.l0_eq k m b a _ _) (E2.pos (by omega) (E2.pos (by omega) (E2.pos (by omega) (E2.pos (by omega) (E2.pos (by omega) (E2.bind eq (E2.pos (fun h => hq (hqq.1 h)) E2.ret))))))))
    refine ⟨r, Ev.eq (fun k => slices_EqualFunc_impl_Player_68_eq k a b) (Ev.neg (by omega) (Ev.loop (f := fun k m => slices_EqualFunc_impl_Player_68.l0 k m b a ((List.length a : Nat) : Int) 0) er)), hr.trans ⟨fun h => (eqAll (t := T93) c).1 h.1, fun h => ⟨(eqAll (t := T93) c).2 h, rfl⟩⟩⟩
  · exact ⟨false, Ev.eq (fun k => slices_EqualFunc_impl_Player_68_eq k a b) (Ev.pos (by omega) Ev.ret), by simp only [Bool.false_eq_true, false_iff]; exact fun h => c (h ▸ rfl)⟩
def BkS (a : DT32) : Prop := Bk (.list T60) a.1 ∧ Bk (.list T25) a.2.2.1 ∧ Bk (.list T93) a.2.2.2.1 ∧ a.2.2.2.2.1.length ≤ 33554432 ∧ Bk (.list T110) a.2.2.2.2.2.1 ∧ Bk (.list T25) a.2.2.2.2.2.2.1
theorem bkS_of {a : DT32} (h : Bk T32 a) : BkS a := ⟨h.1, h.2.2.1, h.2.2.2.1, Nat.le_trans h.2.2.2.2.1.1 (by omega), h.2.2.2.2.2.1, h.2.2.2.2.2.2.1⟩
theorem eqOrch_ev (a b : DT32) (h : BkS a) : ∃ r, Ev (fun k => impl_EqualOrchestras k a b) r ∧ (r = true ↔ a = b) := by
  obtain ⟨r1, e1, h1⟩ := eqEI_ev a.1 b.1 (by have := h.1.1; omega)
  obtain ⟨r2, e2, h2⟩ := eqTe_ev a.2.2.1 b.2.2.1 (by have := h.2.1.1; omega)
  obtain ⟨r3, e3, h3⟩ := eqPl_ev a.2.2.2.1 b.2.2.2.1 h.2.2.1
  obtain ⟨r4, e4, h4⟩ := eqIn_ev a.2.2.2.2.1 b.2.2.2.2.1 h.2.2.2.1
  obtain ⟨r5, e5, h5⟩ := eqMI_ev a.2.2.2.2.2.1 b.2.2.2.2.2.1 h.2.2.2.2.1.1
  obtain ⟨r6, e6, h6⟩ := eqLe_ev a.2.2.2.2.2.2.1 b.2.2.2.2.2.2.1 (by have := h.2.2.2.2.2.1; omega)
  by_cases c1 : r1 = true
  · by_cases cm : ((a.2.1.1 : Int) = b.2.1.1) ∧ ((a.2.1.2.1 : Int) = b.2.1.2.1)
    · by_cases c2 : r2 = true
      · by_cases c3 : r3 = true
        · by_cases c4 : r4 = true
          · by_cases c5 : r5 = true
            · by_cases c6 : r6 = true
              · by_cases c7 : (a.2.2.2.2.2.2.2.1 : Int) = b.2.2.2.2.2.2.2.1
                · refine ⟨_, Ev.eq (fun k => impl_EqualOrchestras_eq k a b) (Ev.bind e1 (Ev.pos c1 (Ev.pos cm (Ev.bind e2 (Ev.pos c2 (Ev.bind e3 (Ev.pos c3 (Ev.bind e4 (Ev.pos c4 (Ev.bind e5 (Ev.pos c5 (Ev.bind e6 (Ev.pos c6 (Ev.pos c7 Ev.ret)))))))))))))), ?_⟩
                  rw [decide_eq_true_eq]
                  have hm := (te_eta a.2.1 b.2.1).1 cm
                  have g1 := h1.1 c1; have g2 := h2.1 c2; have g3 := h3.1 c3; have g4 := h4.1 c4; have g5 := h5.1 c5; have g6 := h6.1 c6
                  refine ⟨fun hh => ?_, fun hh => by rw [hh]⟩
                  obtain ⟨a1, a2, a3, a4, a5, a6, a7, a8, a9, ⟨⟩⟩ := a
                  obtain ⟨b1, b2, b3, b4, b5, b6, b7, b8, b9, ⟨⟩⟩ := b
                  simp only at g1 hm g2 g3 g4 g5 g6 c7 hh
                  rw [g1, hm, g2, g3, g4, g5, g6, c7, hh]
                · exact ⟨false, Ev.eq (fun k => impl_EqualOrchestras_eq k a b) (Ev.bind e1 (Ev.pos c1 (Ev.pos cm (Ev.bind e2 (Ev.pos c2 (Ev.bind e3 (Ev.pos c3 (Ev.bind e4 (Ev.pos c4 (Ev.bind e5 (Ev.pos c5 (Ev.bind e6 (Ev.pos c6 (Ev.neg c7 Ev.ret)))))))))))))), by simp only [Bool.false_eq_true, false_iff]; exact fun hh => c7 (by rw [hh])⟩
              · exact ⟨false, Ev.eq (fun k => impl_EqualOrchestras_eq k a b) (Ev.bind e1 (Ev.pos c1 (Ev.pos cm (Ev.bind e2 (Ev.pos c2 (Ev.bind e3 (Ev.pos c3 (Ev.bind e4 (Ev.pos c4 (Ev.bind e5 (Ev.pos c5 (Ev.bind e6 (Ev.neg c6 Ev.ret))))))))))))), by simp only [Bool.false_eq_true, false_iff]; exact fun hh => c6 (h6.2 (by rw [hh]))⟩
            · exact ⟨false, Ev.eq (fun k => impl_EqualOrchestras_eq k a b) (Ev.bind e1 (Ev.pos c1 (Ev.pos cm (Ev.bind e2 (Ev.pos c2 (Ev.bind e3 (Ev.pos c3 (Ev.bind e4 (Ev.pos c4 (Ev.bind e5 (Ev.neg c5 Ev.ret))))))))))), by simp only [Bool.false_eq_true, false_iff]; exact fun hh => c5 (h5.2 (by rw [hh]))⟩
          · exact ⟨false, Ev.eq (fun k => impl_EqualOrchestras_eq k a b) (Ev.bind e1 (Ev.pos c1 (Ev.pos cm (Ev.bind e2 (Ev.pos c2 (Ev.bind e3 (Ev.pos c3 (Ev.bind e4 (Ev.neg c4 Ev.ret))))))))), by simp only [Bool.false_eq_true, false_iff]; exact fun hh => c4 (h4.2 (by rw [hh]))⟩
        · exact ⟨false, Ev.eq (fun k => impl_EqualOrchestras_eq k a b) (Ev.bind e1 (Ev.pos c1 (Ev.pos cm (Ev.bind e2 (Ev.pos c2 (Ev.bind e3 (Ev.neg c3 Ev.ret))))))), by simp only [Bool.false_eq_true, false_iff]; exact fun hh => c3 (h3.2 (by rw [hh]))⟩
      · exact ⟨false, Ev.eq (fun k => impl_EqualOrchestras_eq k a b) (Ev.bind e1 (Ev.pos c1 (Ev.pos cm (Ev.bind e2 (Ev.neg c2 Ev.ret))))), by simp only [Bool.false_eq_true, false_iff]; exact fun hh => c2 (h2.2 (by rw [hh]))⟩
    · exact ⟨false, Ev.eq (fun k => impl_EqualOrchestras_eq k a b) (Ev.bind e1 (Ev.pos c1 (Ev.neg cm Ev.ret))), by simp only [Bool.false_eq_true, false_iff]; exact fun hh => cm (by rw [hh]; exact ⟨rfl, rfl⟩)⟩
  · exact ⟨false, Ev.eq (fun k => impl_EqualOrchestras_eq k a b) (Ev.bind e1 (Ev.neg c1 Ev.ret)), by simp only [Bool.false_eq_true, false_iff]; exact fun hh => c1 (h1.2 (by rw [hh]))⟩
theorem endOfI_ev (l : List DT60) (hl : l.length ≤ 1048576) : ∃ v, Ev (fun k => impl_EndOf k l) v := by
  by_cases hp : scoreP l
  · have key : ∀ d (i : Nat) (n : Int), i + d = l.length → ∃ v, E2 (fun k m => impl_EndOf.l0 k m n l ((List.length l : Nat) : Int) (i : Int)) v := by
      intro d
      induction d with
      | zero =>
        intro i n hi
        exact ⟨n, E2.eq (fun k m => impl_EndOf.l0_eq k m n l _ _) (E2.neg (by omega) E2.ret)⟩
      | succ d ih =>
        intro i n hi
        obtain ⟨v, e2⟩ := ih (i + 1) (max n (IntKind.wrap .i64 ((rd T60 l (i : Int)).1 + (rd T60 l (i : Int)).2.1))) (by omega)
        refine ⟨v, E2.eq (fun k m => impl_EndOf.l0_eq k m n l _ _) (E2.pos (by omega) (E2.pos (by omega) (E2.pos (by omega) ?_)))⟩
        simp only [wrapS (show i < 9223372036854775807 by omega)]; exact e2
    obtain ⟨v, e2⟩ := key l.length 0 0 (by omega)
    exact ⟨v, Ev.eq (fun k => impl_EndOf_eq k l) (Ev.bind (implScore_ev l hl) (Ev.pos (by simpa using hp) (Ev.loop (f := fun k m => impl_EndOf.l0 k m 0 l ((List.length l : Nat) : Int) 0) e2)))⟩
  · exact ⟨0, Ev.eq (fun k => impl_EndOf_eq k l) (Ev.bind (implScore_ev l hl) (Ev.neg (by simpa using hp) Ev.ret))⟩
theorem mk_nn {n d : Int} (h : 0 ≤ n) (hd : 1 ≤ d) : 0 ≤ ((mk n d).1.1 : Int) := by
  have hg := gcdI_pos (absI n) d (by omega)
  unfold mk
  split
  · exact Int.tdiv_nonneg h (by omega)
  · exact Int.le_refl 0
theorem addR_nn {x y : Int} {p : DT25} (hx : 0 ≤ x) (hp : 0 ≤ (p.1 : Int)) : 0 ≤ ((addR (x, (y, ())) p).1.1 : Int) := by
  unfold addR
  split
  · rename_i c
    have h1 : (1 ≤ y ∧ y ≤ 1000000) ∧ _ := isR_spec c.1
    have h2 := isR_spec c.2
    have g1 : 0 ≤ x * (p.2.1 : Int) := Int.mul_nonneg hx (by omega)
    have g2 : 0 ≤ (p.1 : Int) * y := Int.mul_nonneg hp (by omega)
    have g3 : 0 < y * (p.2.1 : Int) := Int.mul_pos (by omega) (by omega)
    exact mk_nn (show 0 ≤ x * (p.2.1 : Int) + (p.1 : Int) * y by omega) (show 1 ≤ y * (p.2.1 : Int) by omega)
  · exact Int.le_refl 0
theorem floorR_nn {r : DT25} (h : 0 ≤ (r.1 : Int)) : 0 ≤ floorR r := by
  unfold floorR
  split
  · rename_i c
    obtain ⟨⟨d1, d2⟩, n1, n2⟩ := isR_spec c
    have hm : 0 ≤ modR r.1 r.2.1 ∧ modR r.1 r.2.1 ≤ (r.1 : Int) := by
      unfold modR
      rw [if_pos (by omega)]
      have e1 : Int.tmod (r.1 : Int) r.2.1 = (r.1 : Int) % r.2.1 := Int.tmod_eq_emod_of_nonneg h
      have e2 := Int.emod_nonneg (r.1 : Int) (show (r.2.1 : Int) ≠ 0 by omega)
      have e3 := Int.emod_lt_of_pos (r.1 : Int) (show (0 : Int) < r.2.1 by omega)
      rw [e1, wrapI (by omega) (by omega), Int.tmod_eq_emod_of_nonneg (by omega), Int.add_emod_right, Int.emod_emod_of_dvd _ (Int.dvd_refl _)]
      have e4 := Int.ediv_nonneg h (show (0 : Int) ≤ r.2.1 by omega)
      have e5 := Int.mul_ediv_add_emod (r.1 : Int) r.2.1
      have e6 : 0 ≤ (r.2.1 : Int) * ((r.1 : Int) / r.2.1) := Int.mul_nonneg (by omega) e4
      omega
    have hd : 0 ≤ Int.tdiv ((r.1 : Int) - modR r.1 r.2.1) r.2.1 := Int.tdiv_nonneg (by omega) (by omega)
    have hw : IntKind.wrap .i64 ((r.1 : Int) - modR r.1 r.2.1) = (r.1 : Int) - modR r.1 r.2.1 := wrapI (by omega) (by omega)
    rw [hw, wrap_tdiv _ _ (by omega) (by omega)]
    exact hd
  · exact Int.le_refl 0
theorem timeOfI_ev (l : List DT25) (tick : Int) (hl : l.length ≤ 1048576) : ∃ v : Res, Ev (fun k => impl_TimeOf k l tick) v ∧ 0 ≤ (v.1.1 : Int) := by
  by_cases hp : tempoP l
  · by_cases ht : 0 ≤ tick ∧ tick ≤ 2000
    · have key : ∀ d (i : Nat) (a b x y : Int), i + d = l.length → 0 ≤ x → ∃ v : Res, E2 (fun k m => impl_TimeOf.l0 k m l tick l ((List.length l : Nat) : Int) (i : Int) a b x y) v ∧ 0 ≤ (v.1.1 : Int) := by
        intro d
        induction d with
        | zero =>
          intro i a b x y hi hx
          exact ⟨((x, (y, ())), (true, ())), E2.eq (fun k m => impl_TimeOf.l0_eq k m l tick l _ _ a b x y) (E2.neg (by omega) E2.ret), hx⟩
        | succ d ih =>
          intro i a b x y hi hx
          obtain ⟨⟨⟨q1, q2⟩, q3, q4⟩, q5, q6⟩ := hp.1 i (by omega)
          by_cases hend : LT.lt (α := Int) (rd T25 l (i : Int)).1 tick
          · have fin : ∀ (en : Int), LT.lt (α := Int) (rd T25 l (i : Int)).1 en → en ≤ 2000 →
                ∃ p q : Res, (∀ {g : Nat → Nat → Res → Option Res} {u : Res}, E2 (fun k m => g k m p) u → E2 (fun k m => (impl_MakeRatio k (IntKind.wrap .i64 ((IntKind.wrap .i64 (en - (rd T25 l (i : Int)).1)) * 5000)) (rd T25 l (i : Int)).2.1).bind fun r => g k m r) u) ∧ q = addR (x, (y, ())) p.1 ∧ 0 ≤ (q.1.1 : Int) := by
              intro en h1 h2
              have w1 : IntKind.wrap .i64 (en - (rd T25 l (i : Int)).1) = en - (rd T25 l (i : Int)).1 := wrapI (by omega) (by omega)
              have w2 : IntKind.wrap .i64 ((en - (rd T25 l (i : Int)).1) * 5000) = (en - (rd T25 l (i : Int)).1) * 5000 := wrapI (by omega) (by omega)
              rw [w1, w2]
              exact ⟨mk ((en - (rd T25 l (i : Int)).1) * 5000) (rd T25 l (i : Int)).2.1, _, fun e => E2.bind (implMake_ev _ _ (by omega) (by omega) (by omega) (by omega)) e, rfl, addR_nn hx (mk_nn (by omega) (by omega))⟩
            have tail : ∀ (p q : Res), q = addR (x, (y, ())) p.1 → 0 ≤ (q.1.1 : Int) → ∃ v : Res, 0 ≤ (v.1.1 : Int) ∧
                E2 (fun k m => (impl_AddRatio k (x, (y, ())) p.1).bind fun r4 => if ¬ (p.2.1 = true) then some ((0, (0, ())), (false, ())) else if ¬ (r4.2.1 = true) then some ((0, (0, ())), (false, ())) else impl_TimeOf.l0 k m l tick l ((List.length l : Nat) : Int) ((i + 1 : Nat) : Int) a b r4.1.1 r4.1.2.1) v := by
              intro p q hq hnn
              by_cases hp1 : p.2.1 = true
              · by_cases hok : q.2.1 = true
                · obtain ⟨v, e2, e4⟩ := ih (i + 1) a b q.1.1 q.1.2.1 (by omega) hnn
                  refine ⟨v, e4, E2.bind (implAdd_ev _ _) ?_⟩
                  rw [← hq]; exact E2.neg (by simpa using hp1) (E2.neg (by simpa using hok) e2)
                · refine ⟨noR, Int.le_refl 0, E2.bind (implAdd_ev _ _) ?_⟩
                  rw [← hq]
                  exact E2.neg (by simpa using hp1) (E2.pos hok E2.ret)
              · exact ⟨noR, Int.le_refl 0, E2.bind (implAdd_ev _ _) (E2.pos hp1 E2.ret)⟩
            by_cases hn : i + 1 < l.length
            · obtain ⟨⟨⟨s1, s2⟩, s3, s4⟩, s5, s6⟩ := hp.1 (i + 1) hn
              have s6 := s6 (by omega)
              rw [Nat.add_sub_cancel] at s6
              obtain ⟨p, q, f2, f3, f5⟩ := fin (min tick (rd T25 l ((i + 1 : Nat) : Int)).1) (by omega) (by omega)
              obtain ⟨v, t0, t2⟩ := tail p q f3 f5
              refine ⟨v, E2.eq (fun k m => impl_TimeOf.l0_eq k m l tick l _ _ a b x y) (E2.pos (by omega) (E2.pos (by omega) (E2.pos (by omega) ?_))), t0⟩
              simp only [wrapS (show i < 9223372036854775807 by omega)]
              exact E2.pos (by omega) (E2.pos (by omega) (E2.pos (by omega) (E2.neg (by omega) (f2 t2))))
            · obtain ⟨p, q, f2, f3, f5⟩ := fin tick hend ht.2
              obtain ⟨v, t0, t2⟩ := tail p q f3 f5
              refine ⟨v, E2.eq (fun k m => impl_TimeOf.l0_eq k m l tick l _ _ a b x y) (E2.pos (by omega) (E2.pos (by omega) (E2.pos (by omega) ?_))), t0⟩
              simp only [wrapS (show i < 9223372036854775807 by omega)]
              exact E2.neg (by omega) (E2.neg (by omega) (f2 t2))
          · refine ⟨((x, (y, ())), (true, ())), E2.eq (fun k m => impl_TimeOf.l0_eq k m l tick l _ _ a b x y) (E2.pos (by omega) (E2.pos (by omega) (E2.pos (by omega) ?_))), hx⟩
            simp only [wrapS (show i < 9223372036854775807 by omega)]
            by_cases hn : i + 1 < l.length
            · exact E2.pos (by omega) (E2.pos (by omega) (E2.pos (by omega) (E2.pos (by omega) E2.ret)))
            · exact E2.neg (by omega) (E2.pos (by omega) E2.ret)
      obtain ⟨v, e2, e4⟩ := key l.length 0 0 0 0 1 (by omega) (Int.le_refl 0)
      exact ⟨v, Ev.eq (fun k => impl_TimeOf_eq k l tick) (Ev.bind (implTempo_ev l hl) (Ev.neg (by simpa using hp) (Ev.bind (inRange_ev _ _ _) (Ev.neg (by simpa using ht) (Ev.loop (f := fun k m => impl_TimeOf.l0 k m l tick l ((List.length l : Nat) : Int) 0 0 0 0 1) e2))))), e4⟩
    · exact ⟨noR, Ev.eq (fun k => impl_TimeOf_eq k l tick) (Ev.bind (implTempo_ev l hl) (Ev.neg (by simpa using hp) (Ev.bind (inRange_ev _ _ _) (Ev.pos (by simpa using ht) Ev.ret)))), Int.le_refl 0⟩
  · exact ⟨noR, Ev.eq (fun k => impl_TimeOf_eq k l tick) (Ev.bind (implTempo_ev l hl) (Ev.pos (by simpa using hp) Ev.ret)), Int.le_refl 0⟩
def chP : Int → Bool → List DT100 → Prop
  | _, _, [] => True
  | t, r, x :: l => Eq (α := Int) x.1 t ∧ (1 ≤ (x.2.1 : Int) ∧ (x.2.1 : Int) ≤ 3000) ∧ (Eq (α := Int) x.2.2.1 0 → r = false) ∧ (¬ Eq (α := Int) x.2.2.1 0 → (21 ≤ (x.2.2.1 : Int) ∧ (x.2.2.1 : Int) ≤ 108) ∧ (x.2.1 : Int) ≤ 96) ∧ t + x.2.1 ≤ 2096 ∧ chP (t + x.2.1) (decide (Eq (α := Int) x.2.2.1 0)) l
theorem isPart_true (p : List DT100) (hl : p.length ≤ 4194304) (hp : chP 0 false p) : Ev (fun k => impl_IsPart k p) true := by
  have key : ∀ d i : Nat, ∀ (t : Int) (r : Bool), i + d = p.length → 0 ≤ t → (r = true ↔ 0 < i ∧ Eq (α := Int) (rd T100 p ((i - 1 : Nat) : Int)).2.2.1 0) → chP t r (p.drop i) → E2 (fun k m => impl_IsPart.l0 k m p t p ((List.length p : Nat) : Int) (i : Int)) true := by
    intro d
    induction d with
    | zero =>
      intro i t r hi _ _ _
      exact E2.eq (fun k m => impl_IsPart.l0_eq k m p _ p _ _) (E2.neg (by omega) E2.ret)
    | succ d ih =>
      intro i t r hi ht hr hc
      have hlt : i < p.length := by omega
      rw [List.drop_eq_getElem_cons hlt] at hc
      obtain ⟨c1, c2, c3, c4, c5, c6⟩ := hc
      rw [← rd_at (t := T100) hlt] at c1 c2 c3 c4 c5 c6
      have e1 := ih (i + 1) (t + (rd T100 p (i : Int)).2.1) _ (by omega) (by omega) (by rw [Nat.add_sub_cancel, decide_eq_true_eq]; exact ⟨fun h => ⟨by omega, h⟩, fun h => h.2⟩) c6
      refine E2.eq (fun k m => impl_IsPart.l0_eq k m p _ p _ _) ?_
      have w1 : IntKind.wrap .i64 (t + (rd T100 p (i : Int)).2.1) = t + (rd T100 p (i : Int)).2.1 := wrapI (by omega) (by omega)
      refine E2.pos (by omega) (E2.pos (by omega) (E2.pos (by omega) (E2.neg (fun h => h c1) (E2.bind (inRange_ev _ _ _) (E2.neg (by simpa using c2) ?_)))))
      by_cases z : Eq (α := Int) (rd T100 p (i : Int)).2.2.1 0
      · refine E2.neg (fun h => h z) (E2.pos z ?_)
        have hr0 := c3 z
        by_cases c7 : 0 < i
        · have c8 : ¬ Eq (α := Int) (rd T100 p ((i - 1 : Nat) : Int)).2.2.1 0 := fun h => by rw [hr.2 ⟨c7, h⟩] at hr0; cases hr0
          refine E2.pos (by omega) ?_
          simp only [wrapP c7 (show i < 9223372036854775807 by omega), wrapS (show i < 9223372036854775807 by omega), w1]
          exact E2.pos (by omega) (E2.pos (by omega) (E2.neg c8 e1))
        · refine E2.neg (by omega) ?_
          simp only [wrapS (show i < 9223372036854775807 by omega), w1]
          exact e1
      · obtain ⟨c9, c10⟩ := c4 z
        refine E2.pos z (E2.bind (inRange_ev _ _ _) (E2.neg (by simpa using c9) (E2.neg (by omega) (E2.neg z ?_))))
        simp only [wrapS (show i < 9223372036854775807 by omega), w1]
        exact e1
  exact Ev.eq (fun k => impl_IsPart_eq k p) (Ev.loop (f := fun k m => impl_IsPart.l0 k m p 0 p ((List.length p : Nat) : Int) 0) (key p.length 0 0 false (by omega) (Int.le_refl 0) (by simp) (by simpa using hp)))
theorem partGoodL (l : List DT60) (e : Int) (hl : l.length ≤ 1048576) (he : e ≤ 2096) (hk : ∀ i, i < l.length → okE (rd T60 l (i : Int))) : ∀ (d i : Nat) (a : Int) (s : List DT100), i + d = l.length → 0 ≤ a → a ≤ 2096 → s.length ≤ 2 * i →
    ∃ v : List DT100 × (Bool × Unit), E2 (fun k m => impl_PartFrom.l0 k m e a ((List.length l : Nat) : Int) (i : Int) s l) v ∧ v.1.length ≤ 2 * l.length + 1 ∧ (v.2.1 = true → ∃ t, v.1 = s ++ t ∧ chP a false t) := by
  intro d
  induction d with
  | zero =>
    intro i a s hi h0 h1 hs
    have hi : i = l.length := by omega
    subst hi
    by_cases c1 : e < a
    · exact ⟨failP, E2.eq (fun k m => impl_PartFrom.l0_eq k m e a _ _ s l) (E2.neg (by omega) (E2.pos c1 E2.ret)), by simp [failP], fun h => by cases h⟩
    by_cases c3 : a < e
    · refine ⟨((s ++ ([(a, (IntKind.wrap .i64 (e - a), (0, ())))] : (List DT100))), (true, ())), E2.eq (fun k m => impl_PartFrom.l0_eq k m e a _ _ s l) (E2.neg (by omega) (E2.neg c1 (E2.pos c3 (E2.pos (by simp only [List.length_cons, List.length_nil]; omega) E2.ret)))), by simp; omega, fun _ => ⟨_, rfl, ?_⟩⟩
      rw [wrapI (show -9223372036854775808 ≤ e - a by omega) (by omega)]
      exact ⟨rfl, ⟨by show 1 ≤ e - a; omega, by show e - a ≤ 3000; omega⟩, fun _ => rfl, fun h => absurd rfl h, by show a + (e - a) ≤ 2096; omega, trivial⟩
    · exact ⟨(s, (true, ())), E2.eq (fun k m => impl_PartFrom.l0_eq k m e a _ _ s l) (E2.neg (by omega) (E2.neg c1 (E2.neg c3 E2.ret))), by show s.length ≤ _; omega, fun _ => ⟨[], by simp, trivial⟩⟩
  | succ d ih =>
    intro i a s hi h0 h1 hs
    have hlt : i < l.length := by omega
    have i0 : (0 : Int) ≤ (i : Int) := by omega
    have i1 : (i : Int) < ((List.length l : Nat) : Int) := by omega
    obtain ⟨⟨k1, k2⟩, ⟨k3, k4⟩, ⟨k5, k6⟩, k7⟩ := hk i hlt
    have w1 : IntKind.wrap .i64 ((rd T60 l (i : Int)).1 + (rd T60 l (i : Int)).2.1) = (rd T60 l (i : Int)).1 + (rd T60 l (i : Int)).2.1 := wrapI (by omega) (by omega)
    have note : ∀ t, chP ((rd T60 l (i : Int)).1 + (rd T60 l (i : Int)).2.1) false t → ∀ r, chP (rd T60 l (i : Int)).1 r (((rd T60 l (i : Int)).1, ((rd T60 l (i : Int)).2.1, ((rd T60 l (i : Int)).2.2.1, ()))) :: t) := by
      intro t ht r
      have hz : ¬ Eq (α := Int) (rd T60 l (i : Int)).2.2.1 0 := by omega
      refine ⟨rfl, ⟨k3, by show LE.le (α := Int) (rd T60 l (i : Int)).2.1 3000; omega⟩, fun h => absurd h hz, fun _ => ⟨⟨k5, k6⟩, k4⟩, by show LE.le (α := Int) ((rd T60 l (i : Int)).1 + (rd T60 l (i : Int)).2.1) 2096; omega, ?_⟩
      show chP _ (decide (Eq (α := Int) (rd T60 l (i : Int)).2.2.1 0)) t
      rw [decide_eq_false hz]
      exact ht
    by_cases c1 : LT.lt (α := Int) (rd T60 l (i : Int)).1 a
    · exact ⟨failP, E2.eq (fun k m => impl_PartFrom.l0_eq k m e a _ _ s l) (E2.pos i1 (E2.pos i0 (E2.pos i1 (E2.pos c1 E2.ret)))), by simp [failP], fun h => by cases h⟩
    by_cases c2 : LT.lt (α := Int) a (rd T60 l (i : Int)).1
    · obtain ⟨v, e1, e2, e3⟩ := ih (i + 1) (IntKind.wrap .i64 ((rd T60 l (i : Int)).1 + (rd T60 l (i : Int)).2.1)) ((s ++ ([(a, (IntKind.wrap .i64 ((rd T60 l (i : Int)).1 - a), (0, ())))] : (List DT100))) ++ ([((rd T60 l (i : Int)).1, ((rd T60 l (i : Int)).2.1, ((rd T60 l (i : Int)).2.2.1, ())))] : (List DT100))) (by omega) (by rw [w1]; omega) (by rw [w1]; omega) (by simp; omega)
      refine ⟨v, E2.eq (fun k m => impl_PartFrom.l0_eq k m e a _ _ s l) (E2.pos i1 (E2.pos i0 (E2.pos i1 (E2.neg c1 (E2.pos c2 (E2.pos (by simp only [List.length_cons, List.length_nil]; omega) (E2.pos (by simp only [List.length_append, List.length_cons, List.length_nil]; omega) ?_))))))), e2, fun h => ?_⟩
      · simp only [wrapS (show i < 9223372036854775807 by omega)]
        exact e1
      · obtain ⟨t, h2, h3⟩ := e3 h
        rw [w1] at h3
        refine ⟨_, by rw [h2, List.append_assoc, List.append_assoc], ?_⟩
        have hw : IntKind.wrap .i64 ((rd T60 l (i : Int)).1 - a) = (rd T60 l (i : Int)).1 - a := wrapI (by omega) (by omega)
        rw [hw]
        have ha : chP (a + ((rd T60 l (i : Int)).1 - a)) true (((rd T60 l (i : Int)).1, ((rd T60 l (i : Int)).2.1, ((rd T60 l (i : Int)).2.2.1, ()))) :: t) := by
          rw [show a + ((rd T60 l (i : Int)).1 - a) = (rd T60 l (i : Int)).1 by omega]
          exact note t h3 true
        exact ⟨rfl, ⟨by show LE.le (α := Int) 1 ((rd T60 l (i : Int)).1 - a); omega, by show LE.le (α := Int) ((rd T60 l (i : Int)).1 - a) 3000; omega⟩, fun _ => rfl, fun h => absurd rfl h, by show LE.le (α := Int) (a + ((rd T60 l (i : Int)).1 - a)) 2096; omega, ha⟩
    · obtain ⟨v, e1, e2, e3⟩ := ih (i + 1) (IntKind.wrap .i64 ((rd T60 l (i : Int)).1 + (rd T60 l (i : Int)).2.1)) (s ++ ([((rd T60 l (i : Int)).1, ((rd T60 l (i : Int)).2.1, ((rd T60 l (i : Int)).2.2.1, ())))] : (List DT100))) (by omega) (by rw [w1]; omega) (by rw [w1]; omega) (by simp; omega)
      refine ⟨v, E2.eq (fun k m => impl_PartFrom.l0_eq k m e a _ _ s l) (E2.pos i1 (E2.pos i0 (E2.pos i1 (E2.neg c1 (E2.neg c2 (E2.pos (by simp only [List.length_cons, List.length_nil]; omega) ?_)))))), e2, fun h => ?_⟩
      · simp only [wrapS (show i < 9223372036854775807 by omega)]
        exact e1
      · obtain ⟨t, h2, h3⟩ := e3 h
        rw [w1] at h3
        refine ⟨_, by rw [h2, List.append_assoc], ?_⟩
        have ea : (a : Int) = (rd T60 l (i : Int)).1 := by omega
        rw [ea]
        exact note t h3 false
theorem partGood (l : List DT60) (v e : Int) (hl : l.length ≤ 1048576) : ∃ r : List DT100 × (Bool × Unit), r.1.length ≤ 4194304 ∧ Ev (fun k => impl_PartFrom k l v e) r ∧ (r.2.1 = true → chP 0 false r.1) := by
  have hf : (l.filter (ofVoice v)).length ≤ 1048576 := Nat.le_trans (List.length_filter_le _ _) hl
  by_cases hp : scoreP l
  · by_cases ce : 2096 < e
    · exact ⟨failP, by simp [failP], Ev.eq (fun k => impl_PartFrom_eq k l v e) (Ev.bind (implScore_ev l hl) (Ev.neg (by simpa using hp) (Ev.pos ce Ev.ret))), fun h => by cases h⟩
    · have hk : ∀ i, i < (l.filter (ofVoice v)).length → okE (rd T60 (l.filter (ofVoice v)) (i : Int)) := fun i hi => by
        rw [rd_at (t := T60) hi]
        obtain ⟨j, hj, e⟩ := List.getElem_of_mem (List.mem_filter.1 (List.getElem_mem hi)).1
        rw [← e, ← rd_at (t := T60) hj]
        exact (hp.1 j hj).1
      obtain ⟨r, e2, h1, h3⟩ := partGoodL (l.filter (ofVoice v)) e hf (by omega) hk (l.filter (ofVoice v)).length 0 0 [] (by omega) (by omega) (by omega) (by simp)
      refine ⟨r, by omega, ?_, fun h => ?_⟩
      · exact Ev.eq (fun k => impl_PartFrom_eq k l v e) (Ev.bind (implScore_ev l hl) (Ev.neg (by simpa using hp) (Ev.neg ce (Ev.bind (implVoice_ev l v hl) (Ev.loop (f := fun k m => impl_PartFrom.l0 k m e 0 ((List.length (l.filter (ofVoice v)) : Nat) : Int) 0 [] (l.filter (ofVoice v))) e2)))))
      · obtain ⟨t, h2, h4⟩ := h3 h
        rw [h2]
        simpa using h4
  · exact ⟨failP, by simp [failP], Ev.eq (fun k => impl_PartFrom_eq k l v e) (Ev.bind (implScore_ev l hl) (Ev.pos (by simpa using hp) Ev.ret)), fun h => by cases h⟩
theorem partForGood (o : DT32) (x : Int) (h1 : o.1.length ≤ 1048576) (h5 : o.2.2.2.2.1.length ≤ 1048576) : ∃ r : List DT100 × (Bool × Unit), r.1.length ≤ 4194304 ∧ Ev (fun k => impl_PartFor k o x) r ∧ (r.2.1 = true → (x : Int) ∈ o.2.2.2.2.1 ∧ chP 0 false r.1) := by
  have ix := index_ev o.2.2.2.2.1 x h5
  rcases firstI_spec (fun i => decide (Eq (α := Int) x (rd (.int .i64) o.2.2.2.2.1 (i : Int)))) o.2.2.2.2.1.length with ⟨hi, hall⟩ | ⟨r, hi, hr, hq, hb⟩
  · rw [hi] at ix
    exact ⟨failP, by simp [failP], Ev.eq (fun k => impl_PartFor_eq k o x) (Ev.bind ix (Ev.pos (by omega) Ev.ret)), fun h => by cases h⟩
  · rw [hi] at ix
    obtain ⟨ve, en2⟩ := endOfI_ev o.1 h1
    obtain ⟨w, hw, p2, p3⟩ := partGood o.1 (IntKind.wrap .i64 ((r : Int) + 1)) ve h1
    refine ⟨(w.1, (decide (w.2.1 = true), ())), hw, Ev.eq (fun k => impl_PartFor_eq k o x) (Ev.bind ix (Ev.neg (by omega) (Ev.bind en2 (Ev.bind p2 Ev.ret)))), fun h => ⟨?_, p3 (of_decide_eq_true h)⟩⟩
    have hq : Eq (α := Int) x (rd (.int .i64) o.2.2.2.2.1 (r : Int)) := of_decide_eq_true hq
    rw [rd_at (t := .int .i64) hr] at hq
    rw [hq]
    exact List.getElem_mem hr
theorem newO_is (m : DT25) (ps : List DT93) (h : Bk (.list T93) ps) : ∃ rm rp, Ev (fun k => impl_IsMeter k m) rm ∧ Ev (fun k => impl_ArePlayers k ps) rp ∧ Ev (fun k => impl_IsOrchestra k (newO m ps)) (rm && rp) := by
  have s := sm_of (newO_bk m ps h)
  obtain ⟨rm, _, em⟩ := specMeter_ev m
  obtain ⟨rp, ep, hp⟩ := implPlayers_ev ps s.players
  obtain ⟨a', ea', ha'⟩ := implMarks_ev [] (by simp)
  obtain ⟨b', eb', hb'⟩ := implLetters_ev [] (by simp)
  obtain ⟨c', ec', hc'⟩ := implSeating_ev ps [] [] s.players (by simp) (by simp)
  have d1 : scoreP [] := ⟨fun i hi => absurd hi (by simp), by decide⟩
  have d3 : tempoP [(0, (100, ()))] := ⟨fun i hi => by
    obtain rfl : i = 0 := by simpa using hi
    exact ⟨⟨⟨by decide, by decide⟩, by decide, by decide⟩, fun _ => rfl, fun h => absurd h (by omega)⟩, by decide⟩
  have d4 : a' = true := ha'.2 ⟨fun i hi => absurd hi (by simp), by decide⟩
  have d5 : b' = true := hb'.2 ⟨fun i hi => absurd hi (by simp), by decide⟩
  have d6 : c' = true ↔ rp = true := hc'.trans ⟨fun q => hp.2 q.2.1, fun q => ⟨fun i hi => absurd hi (by simp), hp.1 q, d1, by decide⟩⟩
  refine ⟨rm, rp, em, ep, ?_⟩
  refine Ev.eq (fun k => impl_IsOrchestra_eq k (newO m ps)) (Ev.bind (implScore_ev _ s.score) (Ev.pos (decide_eq_true (show scoreP (newO m ps).1 from d1)) (Ev.bind em ?_)))
  by_cases d2 : rm = true
  · refine Ev.pos d2 (Ev.bind (implTempoB_ev _ s.tempo) (Ev.pos (decide_eq_true (show tempoP (newO m ps).2.2.1 from d3)) (Ev.bind ea' (Ev.pos d4 (Ev.bind eb' (Ev.pos d5 (Ev.bind ec' ?_)))))))
    by_cases d7 : rp = true
    · exact Ev.pos (d6.2 d7) (Ev.bind (inRange_ev _ _ _) (Ev.pos (by simp [newO]) (Ev.bind (inRange_ev _ _ _) (Ev.ret.val (by rw [d2, d7]; simp [newO])))))
    · exact Ev.neg (fun h => d7 (d6.1 h)) (Ev.ret.val (by simp at d7; simp [d7]))
  · exact Ev.neg d2 (Ev.ret.val (by simp at d2; simp [d2]))
theorem newGood (m : DT25) (ps : List DT93) (h : Bk (.list T93) ps) : ∃ (rm rp : Bool) (v : DT32 × (Bool × Unit)), Ev (fun k => impl_IsMeter k m) rm ∧ Ev (fun k => impl_ArePlayers k ps) rp ∧ Ev (fun k => impl_NewOrchestra k m ps) v ∧ v.2.1 = (rm && rp) ∧ ((rm && rp) = true → v.1 = newO m ps ∧ Ev (fun k => impl_IsOrchestra k (newO m ps)) true) := by
  have b := newO_bk m ps h
  obtain ⟨rm, rp, em, ep, e2⟩ := newO_is m ps h
  by_cases c : (rm && rp) = true
  · exact ⟨rm, rp, (newO m ps, (true, ())), em, ep, Ev.eq (fun k => impl_NewOrchestra_eq k m ps) (Ev.bind e2 (Ev.neg (by rw [c]; simp) (Ev.bind (copied_ev _ b) Ev.ret))), c.symm, fun _ => ⟨rfl, c ▸ e2⟩⟩
  · exact ⟨rm, rp, (zeroO, (false, ())), em, ep, Ev.eq (fun k => impl_NewOrchestra_eq k m ps) (Ev.bind e2 (Ev.pos c Ev.ret)), by simpa using c, fun h => absurd h c⟩
theorem longMsGood (o : DT32) (h1 : o.1.length ≤ 1048576) (h2 : o.2.2.1.length ≤ 1048576) : ∃ v : Int × (Bool × Unit), Ev (fun k => impl_LongMs k o) v ∧ 0 ≤ v.1 := by
  obtain ⟨n, e2⟩ := endOfI_ev o.1 h1
  obtain ⟨v, e4, e6⟩ := timeOfI_ev o.2.2.1 n h2
  cases hv : v.2.1 with
  | true => exact ⟨(floorR v.1, (true, ())), Ev.eq (fun k => impl_LongMs_eq k o) (Ev.bind e2 (Ev.bind e4 (Ev.neg (by simp [hv]) (Ev.bind (implFloor_ev _) Ev.ret)))), floorR_nn e6⟩
  | false => exact ⟨(0, (false, ())), Ev.eq (fun k => impl_LongMs_eq k o) (Ev.bind e2 (Ev.bind e4 (Ev.pos (by simp [hv]) Ev.ret))), Int.le_refl 0⟩
theorem contains_law (l : List Int) (x : Int) (hl : l.length ≤ 1048576) : Ev (fun k => laws_contains k l x) (decide (x ∈ l)) := by
  refine dec_of ?_
  obtain ⟨r, er, hr⟩ := loop_anyR (R := fun i v => E2 (fun k m => laws_contains.l0 k m l x i) v) (n := l.length) (fun i => Eq (α := Int) (rd (.int .i64) l (i : Int)) x) (E2.eq (fun k m => laws_contains.l0_eq k m l x _) (E2.neg (by omega) E2.ret)) (fun i hi hq v e => by
    refine E2.eq (fun k m => laws_contains.l0_eq k m l x _) (E2.pos (by omega) (E2.pos (by omega) (E2.pos (by omega) (E2.neg hq ?_))))
    simp only [wrapS (show i < 9223372036854775807 by omega)]; exact e) (fun i hi hq => E2.eq (fun k m => laws_contains.l0_eq k m l x _) (E2.pos (by omega) (E2.pos (by omega) (E2.pos (by omega) (E2.pos hq E2.ret)))))
  refine ⟨r, Ev.eq (fun k => laws_contains_eq k l x) (Ev.loop (f := fun k m => laws_contains.l0 k m l x 0) er), hr.trans ⟨fun ⟨i, hi, h⟩ => ?_, fun h => ?_⟩⟩
  · rw [← h, rd_at hi]; exact List.getElem_mem hi
  · obtain ⟨i, hi, h⟩ := List.mem_iff_getElem.1 h
    exact ⟨i, hi, by rw [rd_at hi]; exact h⟩
theorem drawNew_ev (code : List Int) (hc : code.length ≤ 1048576) : ∃ (m : DT25) (ps : List DT93), fewP 10 ps ∧ Ev (fun k => spec_DrawNewOrchestra k code) (m, (ps, ())) := by
  obtain ⟨c, hc, e0⟩ := l1New_ev code hc
  obtain ⟨m, c1, h1, _, e1⟩ := l10Any_dr c hc
  obtain ⟨ps, c2, _, hp, e2⟩ := l29Any_dr c1 h1
  exact ⟨m, ps, hp, Ev.eq (fun k => spec_DrawNewOrchestra_eq k code) (Ev.bind e0 (Ev.bind e1 (Ev.bind e2 Ev.ret)))⟩
theorem drawPartFor_ev (code : List Int) (hc : code.length ≤ 1048576) : ∃ (o : DT32) (x : Int), Bk T32 o ∧ Ev (fun k => spec_DrawPartFor k code) (o, (x, ())) := by
  obtain ⟨c, hc, e0⟩ := l1New_ev code hc
  obtain ⟨o, c1, h1, ho, e1⟩ := l33Any_dr c hc
  obtain ⟨x, c2, _, _, e2⟩ := l1Below_dr 5 c1 h1
  exact ⟨o, x, ho, Ev.eq (fun k => spec_DrawPartFor_eq k code) (Ev.bind e0 (Ev.bind e1 (Ev.bind e2 Ev.ret)))⟩
theorem drawIs_ev (code : List Int) (hc : code.length ≤ 1048576) : ∃ (o : DT32), Bk T32 o ∧ Ev (fun k => spec_DrawIsOrchestra k code) o := by
  obtain ⟨c, hc, e0⟩ := l1New_ev code hc
  obtain ⟨o, c1, h1, ho, e1⟩ := l33Any_dr c hc
  exact ⟨o, ho, Ev.eq (fun k => spec_DrawIsOrchestra_eq k code) (Ev.bind e0 (Ev.bind e1 Ev.ret))⟩
theorem drawLong_ev (code : List Int) (hc : code.length ≤ 1048576) : ∃ (o : DT32), Bk T32 o ∧ Ev (fun k => spec_DrawLongMs k code) o := by
  obtain ⟨o, ho, e⟩ := drawIs_ev code hc
  exact ⟨o, ho, Ev.eq (fun k => spec_DrawLongMs_eq k code) (Ev.bind e Ev.ret)⟩
theorem drawEq_ev (code : List Int) (hc : code.length ≤ 1048576) : ∃ (a b : DT32), Bk T32 a ∧ BkS b ∧ Ev (fun k => spec_DrawEqualOrchestras k code) (a, (b, ())) := by
  obtain ⟨c, hc, e0⟩ := l1New_ev code hc
  obtain ⟨o, c1, h1, ho, e1⟩ := l33Any_dr c hc
  have e3 := l33_ev o ho
  have hb := bkS_of ho
  obtain ⟨x, c2, h2, _, e2⟩ := l1Below_dr 6 c1 h1
  obtain ⟨q, c3, _, hq, e4⟩ := l33Any_dr c2 h2
  by_cases d0 : x = 0
  · exact ⟨o, q, ho, bkS_of hq, Ev.eq (fun k => spec_DrawEqualOrchestras_eq k code) (Ev.bind e0 (Ev.bind e1 (Ev.bind e3 (Ev.bind e2 (Ev.pos d0 (Ev.bind e4 Ev.ret))))))⟩
  by_cases d1 : x = 1
  · exact ⟨o, (o.1, (o.2.1, (o.2.2.1, (o.2.2.2.1, (o.2.2.2.2.1, (o.2.2.2.2.2.1, (o.2.2.2.2.2.2.1, (IntKind.wrap .i64 (o.2.2.2.2.2.2.2.1 + 1), o.2.2.2.2.2.2.2.2)))))))), ho, ⟨hb.1, hb.2.1, hb.2.2.1, hb.2.2.2.1, hb.2.2.2.2.1, hb.2.2.2.2.2⟩, Ev.eq (fun k => spec_DrawEqualOrchestras_eq k code) (Ev.bind e0 (Ev.bind e1 (Ev.bind e3 (Ev.bind e2 (Ev.neg d0 (Ev.pos d1 Ev.ret))))))⟩
  by_cases d2 : x = 2
  · exact ⟨o, (o.1, (o.2.1, (o.2.2.1, (o.2.2.2.1, (o.2.2.2.2.1, (o.2.2.2.2.2.1, ([], o.2.2.2.2.2.2.2))))))), ho, ⟨hb.1, hb.2.1, hb.2.2.1, hb.2.2.2.1, hb.2.2.2.2.1, bk_te (l := []) (by simp)⟩, Ev.eq (fun k => spec_DrawEqualOrchestras_eq k code) (Ev.bind e0 (Ev.bind e1 (Ev.bind e3 (Ev.bind e2 (Ev.neg d0 (Ev.neg d1 (Ev.pos d2 Ev.ret)))))))⟩
  by_cases d3 : x = 3
  · have hs := ho.2.2.2.2.1.1
    exact ⟨o, (o.1, (o.2.1, (o.2.2.1, (o.2.2.2.1, ((o.2.2.2.2.1 ++ ([9] : (List Int))), o.2.2.2.2.2))))), ho, ⟨hb.1, hb.2.1, hb.2.2.1, (by show (o.2.2.2.2.1 ++ ([9] : List Int)).length ≤ 33554432; rw [List.length_append]; show _ + 1 ≤ _; omega), hb.2.2.2.2.1, hb.2.2.2.2.2⟩, Ev.eq (fun k => spec_DrawEqualOrchestras_eq k code) (Ev.bind e0 (Ev.bind e1 (Ev.bind e3 (Ev.bind e2 (Ev.neg d0 (Ev.neg d1 (Ev.neg d2 (Ev.pos d3 (Ev.pos (by show (_ + 1) * 8 ≤ _; omega) Ev.ret)))))))))⟩
  · exact ⟨o, _, ho, hb, Ev.eq (fun k => spec_DrawEqualOrchestras_eq k code) (Ev.bind e0 (Ev.bind e1 (Ev.bind e3 (Ev.bind e2 (Ev.neg d0 (Ev.neg d1 (Ev.neg d2 (Ev.neg d3 Ev.ret))))))))⟩
theorem tailE (code : List Int) (hc : code.length ≤ 1048576) : Ev (fun k =>
   (spec_DrawEqualOrchestras k code).bind fun r12 =>
    (spec_DrawLongMs k code).bind fun r13 =>
    (impl_LongMs k r13).bind fun r14 =>
    (impl_EqualOrchestras k r12.1 r12.2.1).bind fun r15 =>
    (impl_EqualOrchestras k r12.2.1 r12.1).bind fun r16 =>
    if (decide (r15 = true)) = (decide (r16 = true)) then
    (impl_EqualOrchestras k r12.1 r12.1).bind fun r17 =>
    if r17 = true then
    if ¬ (r14.2.1 = true) then
    some true
    else some (decide ((0 : Int) ≤ r14.1))
    else some false
    else some false) true := by
  obtain ⟨a, b, ha, hb, e1⟩ := drawEq_ev code hc
  obtain ⟨o, ho, e2⟩ := drawLong_ev code hc
  obtain ⟨v, e3, hv⟩ := longMsGood o ho.1.1 ho.2.2.1.1
  obtain ⟨q1, f1, g1⟩ := eqOrch_ev a b (bkS_of ha)
  obtain ⟨q2, f2, g2⟩ := eqOrch_ev b a hb
  obtain ⟨q3, f3, g3⟩ := eqOrch_ev a a (bkS_of ha)
  have hq : q1 = q2 := by rw [Bool.eq_iff_iff]; exact g1.trans (eq_comm.trans g2.symm)
  refine Ev.bind e1 (Ev.bind e2 (Ev.bind e3 (Ev.bind f1 (Ev.bind f2 (Ev.pos (by rw [hq]) (Ev.bind f3 (Ev.pos (g3.2 rfl) ?_)))))))
  by_cases c : v.2.1 = true
  · exact Ev.neg (fun h => h c) (Ev.ret.val (by simpa using hv))
  · exact Ev.pos c Ev.ret
theorem tailP (code : List Int) (hc : code.length ≤ 1048576) : Ev (fun k =>
   (spec_DrawPartFor k code).bind fun r8 =>
    (impl_PartFor k r8.1 r8.2.1).bind fun r9 =>
    if r9.2.1 = true then
    (laws_contains k r8.1.2.2.2.2.1 r8.2.1).bind fun r10 =>
    if ¬ (r10 = true) then
    some false
    else (impl_IsPart k r9.1).bind fun r11 =>
    if ¬ (r11 = true) then
    some false
    else (spec_DrawEqualOrchestras k code).bind fun r12 =>
    (spec_DrawLongMs k code).bind fun r13 =>
    (impl_LongMs k r13).bind fun r14 =>
    (impl_EqualOrchestras k r12.1 r12.2.1).bind fun r15 =>
    (impl_EqualOrchestras k r12.2.1 r12.1).bind fun r16 =>
    if (decide (r15 = true)) = (decide (r16 = true)) then
    (impl_EqualOrchestras k r12.1 r12.1).bind fun r17 =>
    if r17 = true then
    if ¬ (r14.2.1 = true) then
    some true
    else some (decide ((0 : Int) ≤ r14.1))
    else some false
    else some false
    else (spec_DrawEqualOrchestras k code).bind fun r12 =>
    (spec_DrawLongMs k code).bind fun r13 =>
    (impl_LongMs k r13).bind fun r14 =>
    (impl_EqualOrchestras k r12.1 r12.2.1).bind fun r15 =>
    (impl_EqualOrchestras k r12.2.1 r12.1).bind fun r16 =>
    if (decide (r15 = true)) = (decide (r16 = true)) then
    (impl_EqualOrchestras k r12.1 r12.1).bind fun r17 =>
    if r17 = true then
    if ¬ (r14.2.1 = true) then
    some true
    else some (decide ((0 : Int) ≤ r14.1))
    else some false
    else some false) true := by
  obtain ⟨o, x, ho, e1⟩ := drawPartFor_ev code hc
  obtain ⟨r, hr, e2, hg⟩ := partForGood o x ho.1.1 ho.2.2.2.2.1.1
  refine Ev.bind e1 (Ev.bind e2 ?_)
  by_cases c : r.2.1 = true
  · obtain ⟨h1, h2⟩ := hg c
    exact Ev.pos c (Ev.bind (contains_law _ _ ho.2.2.2.2.1.1) (Ev.neg (by simpa using h1) (Ev.bind (isPart_true r.1 hr h2) (Ev.neg (by simp) (tailE code hc)))))
  · exact Ev.neg c (tailE code hc)
theorem leader_ev (m : DT25) (ps : List DT93) : Ev (fun k => impl_LeaderOf k (newO m ps)) 0 := Ev.eq (fun k => impl_LeaderOf_eq k (newO m ps)) (Ev.pos (by simp [newO]) Ev.ret)
theorem pure (a0 : List Int) (w0 : Wd (.list (.int .u8)) a0) : ∃ k, laws_FnOrchestras k a0 = some true := by
  refine Ev.at (f := fun k => laws_FnOrchestras k a0) ?_
  by_cases hb : (1048576 : Int) < ((List.length a0 : Nat) : Int)
  · exact Ev.eq (fun k => laws_FnOrchestras_eq k a0) (Ev.bind (Ev.eq (fun k => laws_big_eq k a0) Ev.ret) (Ev.pos (by simpa using hb) Ev.ret))
  have hc : a0.length ≤ 1048576 := by omega
  obtain ⟨m, ps, hp, e1⟩ := drawNew_ev a0 hc
  obtain ⟨rm, rp, v, em, ep, e2, hv, hok⟩ := newGood m ps (bkP_few hp (by omega))
  refine Ev.eq (fun k => laws_FnOrchestras_eq k a0) (Ev.bind (Ev.eq (fun k => laws_big_eq k a0) Ev.ret) (Ev.neg (by simpa using hb) (Ev.bind e1 (Ev.bind e2 (Ev.bind em ?_)))))
  by_cases cm : rm = true
  · refine Ev.pos cm (Ev.bind ep (Ev.neg (by rw [hv, cm]; simp) ?_))
    by_cases cv : v.2.1 = true
    · obtain ⟨h1, h2⟩ := hok (hv ▸ cv)
      rw [h1]
      exact Ev.pos cv (Ev.bind h2 (Ev.neg (by simp) (Ev.bind (leader_ev m ps) (Ev.neg (by simp) (tailP a0 hc)))))
    · exact Ev.neg cv (tailP a0 hc)
  · have cv : ¬ (v.2.1 = true) := by rw [hv]; simp only [Bool.not_eq_true] at cm; rw [cm]; simp
    exact Ev.neg cm (Ev.neg (by simpa using cv) (Ev.neg cv (tailP a0 hc)))
end Go.QFnOrchestras
