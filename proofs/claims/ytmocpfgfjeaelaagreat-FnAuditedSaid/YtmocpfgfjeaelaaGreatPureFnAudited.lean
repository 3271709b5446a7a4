/- The plain half of FnAudited. No condition. -/
import Derived.Test.YtmocpfgfjeaelaaGreatHFnAudited
set_option linter.unusedVariables false
set_option linter.unusedSimpArgs false
open Go Go.Flat
namespace Go.QFnAudited
theorem l1In_ev (x lo hi : Int) : Ev (fun k => spec_l1In k x lo hi) (decide (lo ≤ x ∧ x ≤ hi)) := by
  by_cases c : lo ≤ x
  · exact Ev.eq (fun k => spec_l1In_eq k x lo hi) (Ev.pos c (Ev.ret.val (by simp [c])))
  · exact Ev.eq (fun k => spec_l1In_eq k x lo hi) (Ev.neg c (Ev.ret.val (by simp [c])))
theorem inRange_ev (x lo hi : Int) : Ev (fun k => impl_InRange k x lo hi) (decide (lo ≤ x ∧ x ≤ hi)) := by
  by_cases c : lo ≤ x
  · exact Ev.eq (fun k => impl_InRange_eq k x lo hi) (Ev.pos c (Ev.ret.val (by simp [c])))
  · exact Ev.eq (fun k => impl_InRange_eq k x lo hi) (Ev.neg c (Ev.ret.val (by simp [c])))
def gcdI (a b : Int) : Int := (Nat.gcd a.toNat b.toNat : Int)
theorem gcd_E2 {F : Int → Int → Nat → Nat → Option Int} (h0 : ∀ a, E2 (F a 0) a) (h1 : ∀ a b, b ≠ 0 → ∀ v, E2 (F b (Int.tmod a b)) v → E2 (F a b) v) : ∀ (n : Nat) (a b : Int), 0 ≤ a → 0 ≤ b → b.toNat ≤ n → E2 (F a b) (gcdI a b) := by
  intro n
  induction n with
  | zero =>
    intro a b ha hb hn
    have : b = 0 := by omega
    subst this
    refine (h0 a).val ?_
    unfold gcdI
    simp
    omega
  | succ n ih =>
    intro a b ha hb hn
    by_cases c : b = 0
    · subst c
      refine (h0 a).val ?_
      unfold gcdI
      simp
      omega
    · have hm : Int.tmod a b = ((a.toNat % b.toNat : Nat) : Int) := by
        obtain ⟨x, rfl⟩ := Int.eq_ofNat_of_zero_le ha
        obtain ⟨y, rfl⟩ := Int.eq_ofNat_of_zero_le hb
        rfl
      have hlt : a.toNat % b.toNat < b.toNat := Nat.mod_lt _ (by omega)
      refine (h1 a b c _ (ih b (Int.tmod a b) hb (by rw [hm]; omega) (by rw [hm]; omega))).val ?_
      unfold gcdI
      rw [hm, Int.toNat_natCast]
      congr 1
      rw [Nat.gcd_comm a.toNat b.toNat, Nat.gcd_rec b.toNat a.toNat, Nat.gcd_comm]
theorem implGcd_ev (a b : Int) (ha : 0 ≤ a) (hb : 0 ≤ b) : Ev (fun k => impl_divisor k a b) (gcdI a b) :=
  Ev.eq (fun k => impl_divisor_eq k a b) (Ev.loop (f := fun k m => impl_divisor.l0 k m a b) (gcd_E2 (F := fun a b k m => impl_divisor.l0 k m a b) (fun a => E2.eq (fun k m => impl_divisor.l0_eq k m a 0) (E2.neg (by simp) E2.ret)) (fun a b hb v e => E2.eq (fun k m => impl_divisor.l0_eq k m a b) (E2.pos hb (E2.neg hb e))) _ a b ha hb (Nat.le_refl _)))
def absI (n : Int) : Int := (n.natAbs : Int)
theorem implAbs (n : Int) (h1 : -4611686018427387904 ≤ n) (h2 : n ≤ 4611686018427387904) : (max n (IntKind.wrap .i64 (-n)) : Int) = absI n := by
  unfold absI
  rw [wrapI (by omega) (by omega)]
  omega
def isR (n d : Int) : Bool := decide ((1 ≤ d ∧ d ≤ 1000000) ∧ (-1000000000 ≤ n ∧ n ≤ 1000000000) ∧ gcdI (absI n) d = 1)
theorem implIsRatio_ev (r : DT25) : Ev (fun k => impl_IsRatio k r) (isR r.1 r.2.1) := by
  by_cases c1 : 1 ≤ r.2.1 ∧ r.2.1 ≤ 1000000
  · by_cases c2 : -1000000000 ≤ r.1 ∧ r.1 ≤ 1000000000
    · refine Ev.eq (fun k => impl_IsRatio_eq k r) (Ev.bind (inRange_ev _ _ _) (Ev.pos (by simp [c1]) (Ev.bind (inRange_ev _ _ _) (Ev.pos (by simp [c2]) ?_))))
      simp only [implAbs r.1 (by omega) (by omega)]
      exact Ev.bind (implGcd_ev _ _ (by unfold absI; omega) (by omega)) (Ev.ret.val (by unfold isR; simp [c1, c2]))
    · exact Ev.eq (fun k => impl_IsRatio_eq k r) (Ev.bind (inRange_ev _ _ _) (Ev.pos (by simp [c1]) (Ev.bind (inRange_ev _ _ _) (Ev.neg (by simpa using c2) (Ev.ret.val (by unfold isR; simp only [c2, false_and, and_false, decide_false]))))))
  · exact Ev.eq (fun k => impl_IsRatio_eq k r) (Ev.bind (inRange_ev _ _ _) (Ev.neg (by simpa using c1) (Ev.ret.val (by unfold isR; simp only [c1, false_and, decide_false]))))
theorem gcdI_pos (a b : Int) (hb : 0 < b) : 0 < gcdI a b := by
  unfold gcdI
  have : 0 < Nat.gcd a.toNat b.toNat := Nat.gcd_pos_of_pos_right _ (by omega)
  omega
theorem wrap_tdiv (n g : Int) (h1 : -4611686018427387904 ≤ n) (h2 : n ≤ 4611686018427387904) : IntKind.wrap .i64 (Int.tdiv n g) = Int.tdiv n g := by
  have := Int.natAbs_tdiv_le_natAbs n g
  exact wrapI (by omega) (by omega)
abbrev Res : Type := DT25 × (Bool × Unit)
def noR : Res := ((0, (0, ())), (false, ()))
def mk (n d : Int) : Res :=
  if isR (Int.tdiv n (gcdI (absI n) d)) (Int.tdiv d (gcdI (absI n) d)) = true then ((Int.tdiv n (gcdI (absI n) d), (Int.tdiv d (gcdI (absI n) d), ())), (true, ())) else noR
theorem lowest_ev (n d : Int) (h1 : -4611686018427387904 ≤ n) (h2 : n ≤ 4611686018427387904) (h3 : 1 ≤ d) (h4 : d ≤ 4611686018427387904) : Ev (fun k => impl_lowest k n d) (mk n d) := by
  have hg := gcdI_pos (absI n) d (by omega)
  refine Ev.eq (fun k => impl_lowest_eq k n d) (Ev.neg (by omega) (Ev.neg (by omega) ?_))
  simp only [implAbs n h1 h2]
  refine Ev.bind (implGcd_ev _ _ (by unfold absI; omega) (by omega)) (Ev.neg (by omega) (Ev.neg (by omega) ?_))
  simp only [wrap_tdiv n _ h1 h2, wrap_tdiv d _ (by omega) h4]
  refine Ev.bind (implIsRatio_ev _) ?_
  unfold mk
  by_cases c : isR (Int.tdiv n (gcdI (absI n) d)) (Int.tdiv d (gcdI (absI n) d)) = true
  · exact Ev.neg (by simp [c]) (Ev.ret.val (by rw [if_pos c]))
  · exact Ev.pos (by simpa using c) (Ev.ret.val (by rw [if_neg c]; rfl))
theorem implMake_ev (n d : Int) (h1 : -1000000000000000 ≤ n) (h2 : n ≤ 1000000000000000) (h3 : 1 ≤ d) (h4 : d ≤ 1000000000000000) : Ev (fun k => impl_MakeRatio k n d) (mk n d) := by
  refine Ev.eq (fun k => impl_MakeRatio_eq k n d) (Ev.bind (inRange_ev _ _ _) (Ev.neg (by simp; omega) (Ev.bind (inRange_ev _ _ _) (Ev.neg (by simp; omega) (Ev.bind (lowest_ev n d (by omega) (by omega) h3 (by omega)) (Ev.ret.val ?_))))))
  obtain ⟨a, b, _⟩ := mk n d
  simp
def addR (a b : DT25) : Res := if isR a.1 a.2.1 = true ∧ isR b.1 b.2.1 = true then mk (a.1 * b.2.1 + b.1 * a.2.1) (a.2.1 * b.2.1) else noR
theorem isR_spec {n d : Int} (h : isR n d = true) : (1 ≤ d ∧ d ≤ 1000000) ∧ (-1000000000 ≤ n ∧ n ≤ 1000000000) := by
  unfold isR at h
  have := of_decide_eq_true h
  exact ⟨this.1, this.2.1⟩
theorem mul_bd {x y A B : Int} (hx : -A ≤ x ∧ x ≤ A) (hy : 0 ≤ y ∧ y ≤ B) : -(A * B) ≤ x * y ∧ x * y ≤ A * B := by
  have hA : 0 ≤ A := by omega
  have h1 : A * y ≤ A * B := Int.mul_le_mul_of_nonneg_left hy.2 hA
  have h2 : x * y ≤ A * y := Int.mul_le_mul_of_nonneg_right hx.2 hy.1
  have h3 : -A * y ≤ x * y := Int.mul_le_mul_of_nonneg_right hx.1 hy.1
  rw [Int.neg_mul] at h3
  omega
theorem implAdd_ev (a b : DT25) : Ev (fun k => impl_AddRatio k a b) (addR a b) := by
  unfold addR
  by_cases ca : isR a.1 a.2.1 = true
  · by_cases cb : isR b.1 b.2.1 = true
    · obtain ⟨a1, a2⟩ := isR_spec ca
      obtain ⟨b1, b2⟩ := isR_spec cb
      have m1 := mul_bd (x := a.1) (y := b.2.1) (A := 1000000000) (B := 1000000) ⟨a2.1, a2.2⟩ ⟨by omega, b1.2⟩
      have m2 := mul_bd (x := b.1) (y := a.2.1) (A := 1000000000) (B := 1000000) ⟨b2.1, b2.2⟩ ⟨by omega, a1.2⟩
      have m3 := mul_bd (x := a.2.1) (y := b.2.1) (A := 1000000) (B := 1000000) ⟨by omega, a1.2⟩ ⟨by omega, b1.2⟩
      have m4 : 1 ≤ a.2.1 * b.2.1 := Int.mul_pos (by omega) (by omega)
      refine Ev.eq (fun k => impl_AddRatio_eq k a b) (Ev.bind (implIsRatio_ev a) (Ev.neg (by simp [ca]) (Ev.bind (implIsRatio_ev b) (Ev.neg (by simp [cb]) ?_))))
      rw [wrapI (n := a.1 * b.2.1) (by omega) (by omega), wrapI (n := b.1 * a.2.1) (by omega) (by omega), wrapI (n := a.1 * b.2.1 + b.1 * a.2.1) (by omega) (by omega), wrapI (n := a.2.1 * b.2.1) (by omega) (by omega)]
      refine Ev.bind (lowest_ev _ _ (by omega) (by omega) m4 (by omega)) (Ev.ret.val ?_)
      rw [if_pos ⟨ca, cb⟩]
      obtain ⟨r, o, _⟩ := mk (a.1 * b.2.1 + b.1 * a.2.1) (a.2.1 * b.2.1)
      simp
    · exact Ev.eq (fun k => impl_AddRatio_eq k a b) (Ev.bind (implIsRatio_ev a) (Ev.neg (by simp [ca]) (Ev.bind (implIsRatio_ev b) (Ev.pos (by simpa using cb) (Ev.ret.val (by rw [if_neg (fun h => cb h.2)]; rfl))))))
  · exact Ev.eq (fun k => impl_AddRatio_eq k a b) (Ev.bind (implIsRatio_ev a) (Ev.pos (by simpa using ca) (Ev.ret.val (by rw [if_neg (fun h => ca h.1)]; rfl))))
def modR (n m : Int) : Int := if 1 ≤ m ∧ m ≤ 1000000000000 then Int.tmod (IntKind.wrap .i64 ((Int.tmod n m) + m)) m else 0
theorem nan_ev (x : Int) : Ev (fun k => cmp_isNaN_int k x) false := Ev.eq (fun k => cmp_isNaN_int_eq k x) (Ev.ret.val (by simp))
def cmpI (x y : Int) : Int := if x < y then -1 else if y < x then 1 else 0
theorem cmp_ev (x y : Int) : Ev (fun k => cmp_Compare_int k x y) (cmpI x y) := by
  unfold cmpI
  by_cases c : x < y
  · exact Ev.eq (fun k => cmp_Compare_int_eq k x y) (Ev.bind (nan_ev x) (Ev.bind (nan_ev y) (Ev.neg (by simp) (Ev.neg (by simp) (Ev.pos c (Ev.ret.val (by rw [if_pos c])))))))
  · by_cases c2 : y < x
    · exact Ev.eq (fun k => cmp_Compare_int_eq k x y) (Ev.bind (nan_ev x) (Ev.bind (nan_ev y) (Ev.neg (by simp) (Ev.neg (by simp) (Ev.neg c (Ev.pos c2 (Ev.ret.val (by rw [if_neg c, if_pos c2]))))))))
    · exact Ev.eq (fun k => cmp_Compare_int_eq k x y) (Ev.bind (nan_ev x) (Ev.bind (nan_ev y) (Ev.neg (by simp) (Ev.neg (by simp) (Ev.neg c (Ev.neg c2 (Ev.ret.val (by rw [if_neg c, if_neg c2]))))))))
theorem dec_of {f : Nat → Option Bool} {p : Prop} [d : Decidable p] (h : ∃ r, Ev f r ∧ (r = true ↔ p)) : Ev f (decide p) := by
  obtain ⟨r, e, hr⟩ := h
  exact e.val (by rw [Bool.eq_iff_iff, hr]; simp)
theorem loop_allE {F : Int → Nat → Nat → Option Bool} {n : Nat} (Q : Nat → Prop) (c : Bool) (hend : E2 (F (n : Int)) c)
    (hgo : ∀ i, i < n → Q i → ∀ v, E2 (F ((i + 1 : Nat) : Int)) v → E2 (F (i : Int)) v) (hstop : ∀ i, i < n → ¬ Q i → E2 (F (i : Int)) false) :
    ∃ r, E2 (F 0) r ∧ (r = true ↔ (∀ i, i < n → Q i) ∧ c = true) := by
  have key : ∀ d i, i + d = n → ∃ r, E2 (F (i : Int)) r ∧ (r = true ↔ (∀ j, i ≤ j → j < n → Q j) ∧ c = true) := by
    intro d
    induction d with
    | zero =>
      intro i hi
      have hi : i = n := by omega
      subst hi
      exact ⟨c, hend, ⟨fun h => ⟨fun j _ _ => by omega, h⟩, fun h => h.2⟩⟩
    | succ d ih =>
      intro i hi
      obtain ⟨r, er, hr⟩ := ih (i + 1) (by omega)
      by_cases hq : Q i
      · refine ⟨r, hgo i (by omega) hq r er, hr.trans ⟨fun h => ⟨fun j h1 h2 => ?_, h.2⟩, fun h => ⟨fun j h1 h2 => h.1 j (by omega) h2, h.2⟩⟩⟩
        by_cases hj : j = i
        · subst hj; exact hq
        · exact h.1 j (by omega) h2
      · exact ⟨false, hstop i (by omega) hq, by simp only [Bool.false_eq_true, false_iff]; exact fun h => hq (h.1 i (Nat.le_refl _) (by omega))⟩
  obtain ⟨r, er, hr⟩ := key n 0 (by omega)
  exact ⟨r, er, hr.trans ⟨fun h => ⟨fun i hi => h.1 i (Nat.zero_le _) hi, h.2⟩, fun h => ⟨fun i _ hi => h.1 i hi, h.2⟩⟩⟩
theorem wrapP {i : Nat} (h : 0 < i) (h2 : i < 9223372036854775807) : IntKind.wrap .i64 ((i : Int) - 1) = ((i - 1 : Nat) : Int) := by
  rw [wrapI (by omega) (by omega)]; omega
def okE (e : DT39) : Prop := (0 ≤ (e.1 : Int) ∧ (e.1 : Int) ≤ 2000) ∧ (1 ≤ (e.2.1 : Int) ∧ (e.2.1 : Int) ≤ 96) ∧ (21 ≤ (e.2.2.1 : Int) ∧ (e.2.2.1 : Int) ≤ 108) ∧ 1 ≤ (e.2.2.2.1 : Int) ∧ (e.2.2.2.1 : Int) ≤ 4
instance (e : DT39) : Decidable (okE e) := by unfold okE; infer_instance
theorem l8Ok_ev (e : DT39) : Ev (fun k => spec_l8Ok k e) (decide (okE e)) := by
  refine Ev.eq (fun k => spec_l8Ok_eq k e) (Ev.bind (l1In_ev _ _ _) ?_)
  unfold okE
  by_cases c1 : 0 ≤ (e.1 : Int) ∧ (e.1 : Int) ≤ 2000
  · refine Ev.pos (by simp [c1]) (Ev.bind (l1In_ev _ _ _) ?_)
    by_cases c2 : 1 ≤ (e.2.1 : Int) ∧ (e.2.1 : Int) ≤ 96
    · refine Ev.pos (by simp [c2]) (Ev.bind (l1In_ev _ _ _) ?_)
      by_cases c3 : 21 ≤ (e.2.2.1 : Int) ∧ (e.2.2.1 : Int) ≤ 108
      · exact Ev.pos (by simp [c3]) (Ev.bind (l1In_ev _ _ _) (Ev.ret.val (by simp only [c1, c2, c3, true_and, and_self, decide_eq_true_eq])))
      · exact Ev.neg (by simpa using c3) (Ev.ret.val (by simp only [c3, false_and, and_false, decide_false]))
    · exact Ev.neg (by simpa using c2) (Ev.ret.val (by simp only [c2, false_and, and_false, decide_false]))
  · exact Ev.neg (by simpa using c1) (Ev.ret.val (by simp only [c1, false_and, decide_false]))
def bef (a b : DT39) : Prop := (a.1 : Int) < b.1 ∨ (a.1 : Int) = b.1 ∧ ((a.2.2.2.1 : Int) < b.2.2.2.1 ∨ (a.2.2.2.1 : Int) = b.2.2.2.1 ∧ (a.2.2.1 : Int) < b.2.2.1)
instance (a b : DT39) : Decidable (bef a b) := by unfold bef; infer_instance
theorem before_ev (a b : DT39) : Ev (fun k => spec_l8Before k a b) (decide (bef a b)) := by
  refine Ev.eq (fun k => spec_l8Before_eq k a b) ?_
  unfold bef
  by_cases c1 : (a.1 : Int) = b.1
  · refine Ev.neg (by omega) ?_
    by_cases c2 : (a.2.2.2.1 : Int) = b.2.2.2.1
    · exact Ev.neg (by omega) (Ev.ret.val (by congr 1; exact propext ⟨fun h => .inr ⟨c1, .inr ⟨c2, h⟩⟩, fun h => by omega⟩))
    · exact Ev.pos (by omega) (Ev.ret.val (by congr 1; exact propext ⟨fun h => .inr ⟨c1, .inl h⟩, fun h => by omega⟩))
  · exact Ev.pos (by omega) (Ev.ret.val (by congr 1; exact propext ⟨fun h => .inl h, fun h => by omega⟩))
def orI (x y : Int) : Int := if x ≠ 0 then x else y
theorem or_ev (x y z : Int) : Ev (fun k => cmp_Or_int k [x, y, z]) (orI x (orI y z)) := by
  refine Ev.eq (fun k => cmp_Or_int_eq k _) (Ev.loop (f := fun k m => cmp_Or_int.l0 k m 0 [x, y, z] ((List.length [x, y, z] : Nat) : Int) 0) ?_)
  have w0 : IntKind.wrap .i64 ((0 : Int) + 1) = 1 := wrapI (by omega) (by omega)
  have w1 : IntKind.wrap .i64 ((1 : Int) + 1) = 2 := wrapI (by omega) (by omega)
  have w2 : IntKind.wrap .i64 ((2 : Int) + 1) = 3 := wrapI (by omega) (by omega)
  have r0 : rd (.int .i64) [x, y, z] 0 = x := rfl
  have r1 : rd (.int .i64) [x, y, z] 1 = y := rfl
  have r2 : rd (.int .i64) [x, y, z] 2 = z := rfl
  have hl : ((List.length [x, y, z] : Nat) : Int) = 3 := rfl
  unfold orI
  refine E2.eq (fun k m => cmp_Or_int.l0_eq k m 0 [x, y, z] _ 0) (E2.pos (by rw [hl]; omega) (E2.pos (by omega) (E2.pos (by rw [hl]; omega) ?_)))
  simp only [r0, w0]
  by_cases c0 : x = 0
  · refine E2.neg (fun h => h c0) ?_
    rw [if_neg (show ¬ x ≠ 0 by omega)]
    refine E2.eq (fun k m => cmp_Or_int.l0_eq k m 0 [x, y, z] _ 1) (E2.pos (by rw [hl]; omega) (E2.pos (by omega) (E2.pos (by rw [hl]; omega) ?_)))
    simp only [r1, w1]
    by_cases c1 : y = 0
    · refine E2.neg (fun h => h c1) ?_
      rw [if_neg (show ¬ y ≠ 0 by omega)]
      refine E2.eq (fun k m => cmp_Or_int.l0_eq k m 0 [x, y, z] _ 2) (E2.pos (by rw [hl]; omega) (E2.pos (by omega) (E2.pos (by rw [hl]; omega) ?_)))
      simp only [r2, w2]
      by_cases c2 : z = 0
      · exact E2.neg (fun h => h c2) (E2.eq (fun k m => cmp_Or_int.l0_eq k m 0 [x, y, z] _ 3) (E2.neg (by rw [hl]; omega) (E2.ret.val c2.symm)))
      · exact E2.pos c2 E2.ret
    · rw [if_pos c1]; exact E2.pos c1 E2.ret
  · rw [if_pos c0]; exact E2.pos c0 E2.ret
def ordI (a b : DT39) : Int := orI (cmpI a.1 b.1) (orI (cmpI a.2.2.2.1 b.2.2.2.1) (cmpI a.2.2.1 b.2.2.1))
theorem order_ev (a b : DT39) : Ev (fun k => impl_eventOrder k a b) (ordI a b) :=
  Ev.eq (fun k => impl_eventOrder_eq k a b) (Ev.bind (cmp_ev _ _) (Ev.bind (cmp_ev _ _) (Ev.bind (cmp_ev _ _) (Ev.bind (or_ev _ _ _) Ev.ret))))
theorem ordI_lt (a b : DT39) : ordI a b < 0 ↔ bef a b := by
  unfold ordI orI cmpI bef
  repeat' split
  all_goals omega
def QS (l : List DT39) (i : Nat) : Prop := okE (rd T39 l (i : Int)) ∧ (0 < i → bef (rd T39 l ((i - 1 : Nat) : Int)) (rd T39 l (i : Int)))
instance (l : List DT39) (i : Nat) : Decidable (QS l i) := by unfold QS; infer_instance
def scoreP (l : List DT39) : Prop := (∀ i, i < l.length → QS l i) ∧ decide (((l.length : Nat) : Int) ≤ 40) = true
instance (l : List DT39) : Decidable (scoreP l) := by unfold scoreP; infer_instance
theorem specScoreB_ev (l : List DT39) (hl : l.length ≤ 33554432) : Ev (fun k => spec_IsScore k l) (decide (scoreP l)) := by
  refine dec_of ?_
  obtain ⟨r, er, hr⟩ := loop_allE (F := fun i k m => spec_IsScore.l0 k m l i) (n := l.length) (QS l) (decide (((l.length : Nat) : Int) ≤ 40)) (E2.eq (fun k m => spec_IsScore.l0_eq k m l _) (E2.neg (by omega) E2.ret)) (fun i hi hq v e => by
    refine E2.eq (fun k m => spec_IsScore.l0_eq k m l _) (E2.pos (by omega) (E2.pos (by omega) (E2.pos (by omega) (E2.bind (l8Ok_ev _) (E2.neg (by simpa using hq.1) ?_)))))
    by_cases c : 0 < i
    · refine E2.pos (by omega) ?_
      simp only [wrapP c (show i < 9223372036854775807 by omega), wrapS (show i < 9223372036854775807 by omega)]
      exact E2.pos (by omega) (E2.pos (by omega) (E2.pos (by omega) (E2.pos (by omega) (E2.bind (before_ev _ _) (E2.neg (by simpa using hq.2 c) e)))))
    · refine E2.neg (by omega) ?_
      simp only [wrapS (show i < 9223372036854775807 by omega)]
      exact e) (fun i hi hq => by
    refine E2.eq (fun k m => spec_IsScore.l0_eq k m l _) (E2.pos (by omega) (E2.pos (by omega) (E2.pos (by omega) (E2.bind (l8Ok_ev _) ?_))))
    by_cases c0 : okE (rd T39 l (i : Int))
    · refine E2.neg (by simpa using c0) ?_
      have c : 0 < i := by
        rcases Nat.eq_zero_or_pos i with h | h
        · exact absurd ⟨c0, fun h' => by omega⟩ hq
        · exact h
      have c1 : ¬ bef (rd T39 l ((i - 1 : Nat) : Int)) (rd T39 l (i : Int)) := fun h => hq ⟨c0, fun _ => h⟩
      refine E2.pos (by omega) ?_
      simp only [wrapP c (show i < 9223372036854775807 by omega)]
      exact E2.pos (by omega) (E2.pos (by omega) (E2.pos (by omega) (E2.pos (by omega) (E2.bind (before_ev _ _) (E2.pos (by simpa using c1) E2.ret)))))
    · exact E2.pos (by simpa using c0) E2.ret)
  exact ⟨r, Ev.eq (fun k => spec_IsScore_eq k l) (Ev.loop (f := fun k m => spec_IsScore.l0 k m l 0) er), hr⟩
theorem specScore_ev (l : List DT39) (hl : l.length ≤ 1048576) : Ev (fun k => spec_IsScore k l) (decide (scoreP l)) := specScoreB_ev l (by omega)
theorem implScoreB_ev (l : List DT39) (hl : l.length ≤ 33554432) : Ev (fun k => impl_IsScore k l) (decide (scoreP l)) := by
  refine dec_of ?_
  obtain ⟨r, er, hr⟩ := loop_allE (F := fun i k m => impl_IsScore.l0 k m l l ((List.length l : Nat) : Int) i) (n := l.length) (QS l) (decide (((l.length : Nat) : Int) ≤ 40)) (E2.eq (fun k m => impl_IsScore.l0_eq k m l l _ _) (E2.neg (by omega) E2.ret)) (fun i hi hq v e => by
    obtain ⟨⟨h1, h2, h3, h4⟩, h5⟩ := hq
    refine E2.eq (fun k m => impl_IsScore.l0_eq k m l l _ _) (E2.pos (by omega) (E2.pos (by omega) (E2.pos (by omega) (E2.bind (inRange_ev _ _ _) (E2.neg (by simpa using h1) (E2.bind (inRange_ev _ _ _) (E2.neg (by simpa using h2) (E2.bind (inRange_ev _ _ _) (E2.neg (by simpa using h3) (E2.bind (inRange_ev _ _ _) (E2.neg (by simpa using h4) ?_)))))))))))
    by_cases c : 0 < i
    · refine E2.pos (by omega) ?_
      simp only [wrapP c (show i < 9223372036854775807 by omega), wrapS (show i < 9223372036854775807 by omega)]
      have := (ordI_lt _ _).2 (h5 c)
      exact E2.pos (by omega) (E2.pos (by omega) (E2.bind (order_ev _ _) (E2.neg (by omega) e)))
    · refine E2.neg (by omega) ?_
      simp only [wrapS (show i < 9223372036854775807 by omega)]
      exact e) (fun i hi hq => by
    refine E2.eq (fun k m => impl_IsScore.l0_eq k m l l _ _) (E2.pos (by omega) (E2.pos (by omega) (E2.pos (by omega) (E2.bind (inRange_ev _ _ _) ?_))))
    by_cases h1 : 0 ≤ ((rd T39 l (i : Int)).1 : Int) ∧ ((rd T39 l (i : Int)).1 : Int) ≤ 2000
    · refine E2.neg (by simpa using h1) (E2.bind (inRange_ev _ _ _) ?_)
      by_cases h2 : 1 ≤ ((rd T39 l (i : Int)).2.1 : Int) ∧ ((rd T39 l (i : Int)).2.1 : Int) ≤ 96
      · refine E2.neg (by simpa using h2) (E2.bind (inRange_ev _ _ _) ?_)
        by_cases h3 : 21 ≤ ((rd T39 l (i : Int)).2.2.1 : Int) ∧ ((rd T39 l (i : Int)).2.2.1 : Int) ≤ 108
        · refine E2.neg (by simpa using h3) (E2.bind (inRange_ev _ _ _) ?_)
          by_cases h4 : 1 ≤ ((rd T39 l (i : Int)).2.2.2.1 : Int) ∧ ((rd T39 l (i : Int)).2.2.2.1 : Int) ≤ 4
          · refine E2.neg (by simpa using h4) ?_
            have c : 0 < i := by
              rcases Nat.eq_zero_or_pos i with h | h
              · exact absurd ⟨⟨h1, h2, h3, h4⟩, fun h' => by omega⟩ hq
              · exact h
            have c1 : ¬ bef (rd T39 l ((i - 1 : Nat) : Int)) (rd T39 l (i : Int)) := fun h => hq ⟨⟨h1, h2, h3, h4⟩, fun _ => h⟩
            refine E2.pos (by omega) ?_
            simp only [wrapP c (show i < 9223372036854775807 by omega)]
            have := mt (ordI_lt _ _).1 c1
            exact E2.pos (by omega) (E2.pos (by omega) (E2.bind (order_ev _ _) (E2.pos (by omega) E2.ret)))
          · exact E2.pos (by simpa using h4) E2.ret
        · exact E2.pos (by simpa using h3) E2.ret
      · exact E2.pos (by simpa using h2) E2.ret
    · exact E2.pos (by simpa using h1) E2.ret)
  exact ⟨r, Ev.eq (fun k => impl_IsScore_eq k l) (Ev.loop (f := fun k m => impl_IsScore.l0 k m l l ((List.length l : Nat) : Int) 0) er), hr⟩
theorem implScore_ev (l : List DT39) (hl : l.length ≤ 1048576) : Ev (fun k => impl_IsScore k l) (decide (scoreP l)) := implScoreB_ev l (by omega)
def okT (t : DT25) : Prop := (20 ≤ (t.2.1 : Int) ∧ (t.2.1 : Int) ≤ 300) ∧ (0 ≤ (t.1 : Int) ∧ (t.1 : Int) ≤ 2000)
instance (e : DT25) : Decidable (okT e) := by unfold okT; infer_instance
def QT (l : List DT25) (i : Nat) : Prop := okT (rd T25 l (i : Int)) ∧ (i = 0 → Eq (α := Int) (rd T25 l (i : Int)).1 0) ∧ (0 < i → LT.lt (α := Int) (rd T25 l ((i - 1 : Nat) : Int)).1 (rd T25 l (i : Int)).1)
instance (l : List DT25) (i : Nat) : Decidable (QT l i) := by unfold QT; infer_instance
def tempoP (l : List DT25) : Prop := (∀ i, i < l.length → QT l i) ∧ decide (1 ≤ ((l.length : Nat) : Int) ∧ ((l.length : Nat) : Int) ≤ 8) = true
instance (l : List DT25) : Decidable (tempoP l) := by unfold tempoP; infer_instance
theorem specTempoB_ev (l : List DT25) (hl : l.length ≤ 2097152) : Ev (fun k => spec_IsTempo k l) (decide (tempoP l)) := by
  refine dec_of ?_
  obtain ⟨r, er, hr⟩ := loop_allE (F := fun i k m => spec_IsTempo.l0 k m l i) (n := l.length) (QT l) (decide (1 ≤ ((l.length : Nat) : Int) ∧ ((l.length : Nat) : Int) ≤ 8)) (E2.eq (fun k m => spec_IsTempo.l0_eq k m l _) (E2.neg (by omega) (E2.bind (l1In_ev _ _ _) (E2.ret.val (by simp))))) (fun i hi hq v e => by
    obtain ⟨⟨h1, h2⟩, h3, h4⟩ := hq
    refine E2.eq (fun k m => spec_IsTempo.l0_eq k m l _) (E2.pos (by omega) (E2.pos (by omega) (E2.pos (by omega) (E2.bind (l1In_ev _ _ _) (E2.neg (by simpa using h1) (E2.pos (by omega) (E2.pos (by omega) (E2.bind (l1In_ev _ _ _) (E2.neg (by simpa using h2) ?_)))))))))
    simp only [wrapS (show i < 9223372036854775807 by omega)]
    by_cases c : 0 < i
    · refine E2.neg (by omega) (E2.pos (by omega) ?_)
      simp only [wrapP c (show i < 9223372036854775807 by omega)]
      have := h4 c
      exact E2.pos (by omega) (E2.pos (by omega) (E2.pos (by omega) (E2.pos (by omega) (E2.neg (by omega) e))))
    · refine E2.pos (by omega) (E2.pos (by omega) (E2.pos (by omega) (E2.neg (fun h => h (h3 (by omega))) (E2.neg (by omega) e))))) (fun i hi hq => by
    refine E2.eq (fun k m => spec_IsTempo.l0_eq k m l _) (E2.pos (by omega) (E2.pos (by omega) (E2.pos (by omega) (E2.bind (l1In_ev _ _ _) ?_))))
    by_cases h1 : LE.le (α := Int) 20 (rd T25 l (i : Int)).2.1 ∧ LE.le (α := Int) (rd T25 l (i : Int)).2.1 300
    · refine E2.neg (by simpa using h1) (E2.pos (by omega) (E2.pos (by omega) (E2.bind (l1In_ev _ _ _) ?_)))
      by_cases h2 : LE.le (α := Int) 0 (rd T25 l (i : Int)).1 ∧ LE.le (α := Int) (rd T25 l (i : Int)).1 2000
      · refine E2.neg (by simpa using h2) ?_
        by_cases c : 0 < i
        · refine E2.neg (by omega) (E2.pos (by omega) ?_)
          simp only [wrapP c (show i < 9223372036854775807 by omega)]
          have h4 : ¬ LT.lt (α := Int) (rd T25 l ((i - 1 : Nat) : Int)).1 (rd T25 l (i : Int)).1 := fun h => hq ⟨⟨h1, h2⟩, fun h' => by omega, fun _ => h⟩
          exact E2.pos (by omega) (E2.pos (by omega) (E2.pos (by omega) (E2.pos (by omega) (E2.pos (by omega) E2.ret))))
        · have h3 : ¬ Eq (α := Int) (rd T25 l (i : Int)).1 0 := fun h => hq ⟨⟨h1, h2⟩, fun _ => h, fun h' => absurd h' c⟩
          exact E2.pos (by omega) (E2.pos (by omega) (E2.pos (by omega) (E2.pos h3 E2.ret)))
      · exact E2.pos (by simpa using h2) E2.ret
    · exact E2.pos (by simpa using h1) E2.ret)
  exact ⟨r, Ev.eq (fun k => spec_IsTempo_eq k l) (Ev.loop (f := fun k m => spec_IsTempo.l0 k m l 0) er), hr⟩
/-- The program's own test of an element: it leaves out what follows from the one before. -/
def QT' (l : List DT25) (i : Nat) : Prop := (i = 0 → Eq (α := Int) (rd T25 l (i : Int)).1 0) ∧ (0 < i → LT.lt (α := Int) (rd T25 l ((i - 1 : Nat) : Int)).1 (rd T25 l (i : Int)).1) ∧ LE.le (α := Int) (rd T25 l (i : Int)).1 2000 ∧ (LE.le (α := Int) 20 (rd T25 l (i : Int)).2.1 ∧ LE.le (α := Int) (rd T25 l (i : Int)).2.1 300)
theorem QT_iff (l : List DT25) : (∀ i, i < l.length → QT' l i) ↔ (∀ i, i < l.length → QT l i) := by
  constructor
  · intro h
    have hp : ∀ i, i < l.length → LE.le (α := Int) 0 (rd T25 l (i : Int)).1 := by
      intro i
      induction i with
      | zero => intro hi; have := (h 0 hi).1 rfl; omega
      | succ i ih =>
        intro hi
        have h1 := ih (by omega)
        have h2 := (h (i + 1) hi).2.1 (by omega)
        simp only [Nat.add_sub_cancel] at h2
        omega
    intro i hi
    obtain ⟨h1, h2, h3, h4⟩ := h i hi
    exact ⟨⟨h4, hp i hi, h3⟩, h1, h2⟩
  · intro h i hi
    obtain ⟨⟨h1, h2, h3⟩, h4, h5⟩ := h i hi
    exact ⟨h4, h5, h3, h1⟩
theorem implTempoB_ev (l : List DT25) (hl : l.length ≤ 2097152) : Ev (fun k => impl_IsTempo k l) (decide (tempoP l)) := by
  refine dec_of ?_
  obtain ⟨r, er, hr⟩ := loop_allE (F := fun i k m => impl_IsTempo.l0 k m l l ((List.length l : Nat) : Int) i) (n := l.length) (QT' l) (decide (1 ≤ ((l.length : Nat) : Int) ∧ ((l.length : Nat) : Int) ≤ 8)) (E2.eq (fun k m => impl_IsTempo.l0_eq k m l l _ _) (E2.neg (by omega) (E2.bind (inRange_ev _ _ _) (E2.ret.val (by simp))))) (fun i hi hq v e => by
    obtain ⟨h3, h4, h5, h6⟩ := hq
    refine E2.eq (fun k m => impl_IsTempo.l0_eq k m l l _ _) (E2.pos (by omega) (E2.pos (by omega) (E2.pos (by omega) ?_)))
    simp only [wrapS (show i < 9223372036854775807 by omega)]
    by_cases c : 0 < i
    · refine E2.neg (by omega) (E2.pos (by omega) ?_)
      simp only [wrapP c (show i < 9223372036854775807 by omega)]
      have := h4 c
      exact E2.pos (by omega) (E2.pos (by omega) (E2.neg (by omega) (E2.neg (by omega) (E2.bind (inRange_ev _ _ _) (E2.neg (by simpa using h6) e)))))
    · exact E2.pos (by omega) (E2.neg (fun h => h (h3 (by omega))) (E2.neg (by omega) (E2.neg (by omega) (E2.bind (inRange_ev _ _ _) (E2.neg (by simpa using h6) e)))))) (fun i hi hq => by
    refine E2.eq (fun k m => impl_IsTempo.l0_eq k m l l _ _) (E2.pos (by omega) (E2.pos (by omega) (E2.pos (by omega) ?_)))
    by_cases c : 0 < i
    · refine E2.neg (by omega) (E2.pos (by omega) ?_)
      simp only [wrapP c (show i < 9223372036854775807 by omega)]
      refine E2.pos (by omega) (E2.pos (by omega) ?_)
      by_cases h4 : LT.lt (α := Int) (rd T25 l ((i - 1 : Nat) : Int)).1 (rd T25 l (i : Int)).1
      · refine E2.neg (by omega) ?_
        by_cases h5 : LE.le (α := Int) (rd T25 l (i : Int)).1 2000
        · exact E2.neg (by omega) (E2.bind (inRange_ev _ _ _) (E2.pos (by simp only [decide_eq_true_eq]; exact fun h6 => hq ⟨fun h => by omega, fun _ => h4, h5, h6⟩) E2.ret))
        · exact E2.pos (by omega) E2.ret
      · exact E2.pos (by omega) E2.ret
    · refine E2.pos (by omega) ?_
      by_cases h3 : Eq (α := Int) (rd T25 l (i : Int)).1 0
      · refine E2.neg (fun h => h h3) (E2.neg (by omega) (E2.neg (by omega) (E2.bind (inRange_ev _ _ _) (E2.pos (by simp only [decide_eq_true_eq]; exact fun h6 => hq ⟨fun _ => h3, fun h => absurd h c, by omega, h6⟩) E2.ret))))
      · exact E2.pos h3 E2.ret)
  exact ⟨r, Ev.eq (fun k => impl_IsTempo_eq k l) (Ev.loop (f := fun k m => impl_IsTempo.l0 k m l l ((List.length l : Nat) : Int) 0) er), hr.trans (and_congr (QT_iff l) Iff.rfl)⟩
theorem implTempo_ev (l : List DT25) (hl : l.length ≤ 1048576) : Ev (fun k => impl_IsTempo k l) (decide (tempoP l)) := implTempoB_ev l (by omega)
theorem isR_00 : isR 0 0 = false := by unfold isR; simp
theorem mk_no {n d : Int} (h : (mk n d).2.1 = false) : mk n d = noR := by
  unfold mk at h ⊢
  split
  · rename_i c; rw [if_pos c] at h; cases h
  · rfl
theorem specMeter_ev (m : DT25) : ∃ r, Ev (fun k => spec_IsMeter k m) r ∧ Ev (fun k => impl_IsMeter k m) r := by
  by_cases c1 : 1 ≤ (m.1 : Int) ∧ (m.1 : Int) ≤ 12
  · by_cases d1 : (m.2.1 : Int) = 1
    · exact ⟨true, Ev.eq (fun k => spec_IsMeter_eq k m) (Ev.bind (l1In_ev _ _ _) (Ev.pos (by simpa using c1) (Ev.pos d1 Ev.ret))), Ev.eq (fun k => impl_IsMeter_eq k m) (Ev.bind (inRange_ev _ _ _) (Ev.pos (by simpa using c1) (Ev.pos d1 Ev.ret)))⟩
    · by_cases d2 : (m.2.1 : Int) = 2
      · exact ⟨true, Ev.eq (fun k => spec_IsMeter_eq k m) (Ev.bind (l1In_ev _ _ _) (Ev.pos (by simpa using c1) (Ev.neg d1 (Ev.pos d2 Ev.ret)))), Ev.eq (fun k => impl_IsMeter_eq k m) (Ev.bind (inRange_ev _ _ _) (Ev.pos (by simpa using c1) (Ev.neg d1 (Ev.pos d2 Ev.ret))))⟩
      · by_cases d3 : (m.2.1 : Int) = 4
        · exact ⟨true, Ev.eq (fun k => spec_IsMeter_eq k m) (Ev.bind (l1In_ev _ _ _) (Ev.pos (by simpa using c1) (Ev.neg d1 (Ev.neg d2 (Ev.pos d3 Ev.ret))))), Ev.eq (fun k => impl_IsMeter_eq k m) (Ev.bind (inRange_ev _ _ _) (Ev.pos (by simpa using c1) (Ev.neg d1 (Ev.neg d2 (Ev.pos d3 Ev.ret)))))⟩
        · exact ⟨_, Ev.eq (fun k => spec_IsMeter_eq k m) (Ev.bind (l1In_ev _ _ _) (Ev.pos (by simpa using c1) (Ev.neg d1 (Ev.neg d2 (Ev.neg d3 Ev.ret))))), Ev.eq (fun k => impl_IsMeter_eq k m) (Ev.bind (inRange_ev _ _ _) (Ev.pos (by simpa using c1) (Ev.neg d1 (Ev.neg d2 (Ev.neg d3 Ev.ret)))))⟩
  · exact ⟨false, Ev.eq (fun k => spec_IsMeter_eq k m) (Ev.bind (l1In_ev _ _ _) (Ev.neg (by simpa using c1) Ev.ret)), Ev.eq (fun k => impl_IsMeter_eq k m) (Ev.bind (inRange_ev _ _ _) (Ev.neg (by simpa using c1) Ev.ret))⟩
def befM (a b : DT45) : Prop := (a.1 : Int) < b.1 ∨ (a.1 : Int) = b.1 ∧ (a.2.1 : Int) < b.2.1
instance (a b : DT45) : Decidable (befM a b) := by unfold befM; infer_instance
theorem beforeM_ev (a b : DT45) : Ev (fun k => spec_l25Before k a b) (decide (befM a b)) := by
  refine Ev.eq (fun k => spec_l25Before_eq k a b) ?_
  unfold befM
  by_cases c1 : (a.1 : Int) < b.1
  · exact Ev.pos c1 (Ev.ret.val (by simp [c1]))
  · refine Ev.neg c1 ?_
    by_cases c2 : (a.1 : Int) = b.1
    · exact Ev.pos c2 (Ev.ret.val (by congr 1; exact propext ⟨fun h => .inr ⟨c2, h⟩, fun h => by omega⟩))
    · exact Ev.neg c2 (Ev.ret.val (by simp [c1, c2]))
theorem or2_ev (x y : Int) : Ev (fun k => cmp_Or_int k [x, y]) (orI x y) := by
  refine Ev.eq (fun k => cmp_Or_int_eq k _) (Ev.loop (f := fun k m => cmp_Or_int.l0 k m 0 [x, y] ((List.length [x, y] : Nat) : Int) 0) ?_)
  have w0 : IntKind.wrap .i64 ((0 : Int) + 1) = 1 := wrapI (by omega) (by omega)
  have w1 : IntKind.wrap .i64 ((1 : Int) + 1) = 2 := wrapI (by omega) (by omega)
  have r0 : rd (.int .i64) [x, y] 0 = x := rfl
  have r1 : rd (.int .i64) [x, y] 1 = y := rfl
  have hl : ((List.length [x, y] : Nat) : Int) = 2 := rfl
  unfold orI
  refine E2.eq (fun k m => cmp_Or_int.l0_eq k m 0 [x, y] _ 0) (E2.pos (by rw [hl]; omega) (E2.pos (by omega) (E2.pos (by rw [hl]; omega) ?_)))
  simp only [r0, w0]
  by_cases c0 : x = 0
  · refine E2.neg (fun h => h c0) ?_
    rw [if_neg (show ¬ x ≠ 0 by omega)]
    refine E2.eq (fun k m => cmp_Or_int.l0_eq k m 0 [x, y] _ 1) (E2.pos (by rw [hl]; omega) (E2.pos (by omega) (E2.pos (by rw [hl]; omega) ?_)))
    simp only [r1, w1]
    by_cases c1 : y = 0
    · exact E2.neg (fun h => h c1) (E2.eq (fun k m => cmp_Or_int.l0_eq k m 0 [x, y] _ 2) (E2.neg (by rw [hl]; omega) (E2.ret.val c1.symm)))
    · exact E2.pos c1 E2.ret
  · rw [if_pos c0]; exact E2.pos c0 E2.ret
def ordM (a b : DT45) : Int := orI (cmpI a.1 b.1) (cmpI a.2.1 b.2.1)
theorem orderM_ev (a b : DT45) : Ev (fun k => impl_markOrder k a b) (ordM a b) :=
  Ev.eq (fun k => impl_markOrder_eq k a b) (Ev.bind (cmp_ev _ _) (Ev.bind (cmp_ev _ _) (Ev.bind (or2_ev _ _) Ev.ret)))
theorem ordM_lt (a b : DT45) : ordM a b < 0 ↔ befM a b := by
  unfold ordM orI cmpI befM
  repeat' split
  all_goals omega
def okM (e : DT45) : Prop := (1 ≤ (e.1 : Int) ∧ (e.1 : Int) ≤ 100) ∧ (1 ≤ (e.2.1 : Int) ∧ (e.2.1 : Int) ≤ 4) ∧ (0 ≤ (e.2.2.1 : Int) ∧ (e.2.2.1 : Int) ≤ 9) ∧ (0 ≤ (e.2.2.2.1 : Int) ∧ (e.2.2.2.1 : Int) ≤ 100000) ∧ (1 ≤ (e.2.2.2.2.1 : Int) ∧ (e.2.2.2.2.1 : Int) ≤ 99)
def QM (l : List DT45) (i : Nat) : Prop := okM (rd T45 l (i : Int)) ∧ (0 < i → befM (rd T45 l ((i - 1 : Nat) : Int)) (rd T45 l (i : Int)))
def marksP (l : List DT45) : Prop := (∀ i, i < l.length → QM l i) ∧ decide (((l.length : Nat) : Int) ≤ 30) = true
theorem notM (l : List DT45) (i : Nat) (h : ¬ QM l i) (h1 : okM (rd T45 l (i : Int))) : 0 < i ∧ ¬ befM (rd T45 l ((i - 1 : Nat) : Int)) (rd T45 l (i : Int)) := by
  refine ⟨?_, fun c => h ⟨h1, fun _ => c⟩⟩
  rcases Nat.eq_zero_or_pos i with hi | hi
  · exact absurd ⟨h1, fun h' => by omega⟩ h
  · exact hi
theorem specMarksB_ev (l : List DT45) (hl : l.length ≤ 2097152) : ∃ r, Ev (fun k => spec_AreMarks k l) r ∧ (r = true ↔ marksP l) := by
  obtain ⟨r, er, hr⟩ := loop_allR (R := fun i v => E2 (fun k m => spec_AreMarks.l0 k m l i) v) (n := l.length) (QM l) (decide (((l.length : Nat) : Int) ≤ 30)) (E2.eq (fun k m => spec_AreMarks.l0_eq k m l _) (E2.neg (by omega) E2.ret)) (fun i hi hq v e => by
    obtain ⟨⟨h1, h2, h3, h4, h5⟩, h6⟩ := hq
    refine E2.eq (fun k m => spec_AreMarks.l0_eq k m l _) (E2.pos (by omega) (E2.pos (by omega) (E2.pos (by omega) (E2.bind (l1In_ev _ _ _) (E2.neg (by simpa using h1) (E2.bind (l1In_ev _ _ _) (E2.neg (by simpa using h2) (E2.bind (l1In_ev _ _ _) (E2.neg (by simpa using h3) (E2.bind (l1In_ev _ _ _) (E2.neg (by simpa using h4) (E2.bind (l1In_ev _ _ _) (E2.neg (by simpa using h5) ?_)))))))))))))
    simp only [wrapS (show i < 9223372036854775807 by omega)]
    by_cases c : 0 < i
    · refine E2.pos (by omega) ?_
      simp only [wrapP c (show i < 9223372036854775807 by omega)]
      exact E2.pos (by omega) (E2.pos (by omega) (E2.bind (beforeM_ev _ _) (E2.neg (by simpa using h6 c) e)))
    · exact E2.neg (by omega) e) (fun i hi hq => by
    refine E2.eq (fun k m => spec_AreMarks.l0_eq k m l _) (E2.pos (by omega) (E2.pos (by omega) (E2.pos (by omega) (E2.bind (l1In_ev _ _ _) ?_))))
    by_cases h1 : 1 ≤ ((rd T45 l (i : Int)).1 : Int) ∧ ((rd T45 l (i : Int)).1 : Int) ≤ 100
    · refine E2.neg (by simpa using h1) (E2.bind (l1In_ev _ _ _) ?_)
      by_cases h2 : 1 ≤ ((rd T45 l (i : Int)).2.1 : Int) ∧ ((rd T45 l (i : Int)).2.1 : Int) ≤ 4
      · refine E2.neg (by simpa using h2) (E2.bind (l1In_ev _ _ _) ?_)
        by_cases h3 : 0 ≤ ((rd T45 l (i : Int)).2.2.1 : Int) ∧ ((rd T45 l (i : Int)).2.2.1 : Int) ≤ 9
        · refine E2.neg (by simpa using h3) (E2.bind (l1In_ev _ _ _) ?_)
          by_cases h4 : 0 ≤ ((rd T45 l (i : Int)).2.2.2.1 : Int) ∧ ((rd T45 l (i : Int)).2.2.2.1 : Int) ≤ 100000
          · refine E2.neg (by simpa using h4) (E2.bind (l1In_ev _ _ _) ?_)
            by_cases h5 : 1 ≤ ((rd T45 l (i : Int)).2.2.2.2.1 : Int) ∧ ((rd T45 l (i : Int)).2.2.2.2.1 : Int) ≤ 99
            · obtain ⟨c, c1⟩ := notM l i hq ⟨h1, h2, h3, h4, h5⟩
              refine E2.neg (by simpa using h5) (E2.pos (by omega) ?_)
              simp only [wrapP c (show i < 9223372036854775807 by omega)]
              exact E2.pos (by omega) (E2.pos (by omega) (E2.bind (beforeM_ev _ _) (E2.pos (by simpa using c1) E2.ret)))
            · exact E2.pos (by simpa using h5) E2.ret
          · exact E2.pos (by simpa using h4) E2.ret
        · exact E2.pos (by simpa using h3) E2.ret
      · exact E2.pos (by simpa using h2) E2.ret
    · exact E2.pos (by simpa using h1) E2.ret)
  exact ⟨r, Ev.eq (fun k => spec_AreMarks_eq k l) (Ev.loop (f := fun k m => spec_AreMarks.l0 k m l 0) er), hr⟩
theorem specMarks_ev (l : List DT45) (hl : l.length ≤ 1048576) : ∃ r, Ev (fun k => spec_AreMarks k l) r ∧ (r = true ↔ marksP l) := specMarksB_ev l (by omega)
theorem implMarksB_ev (l : List DT45) (hl : l.length ≤ 2097152) : ∃ r, Ev (fun k => impl_AreMarks k l) r ∧ (r = true ↔ marksP l) := by
  obtain ⟨r, er, hr⟩ := loop_allR (R := fun i v => E2 (fun k m => impl_AreMarks.l0 k m l l ((List.length l : Nat) : Int) i) v) (n := l.length) (QM l) (decide (((l.length : Nat) : Int) ≤ 30)) (E2.eq (fun k m => impl_AreMarks.l0_eq k m l l _ _) (E2.neg (by omega) E2.ret)) (fun i hi hq v e => by
    obtain ⟨⟨h1, h2, h3, h4, h5⟩, h6⟩ := hq
    refine E2.eq (fun k m => impl_AreMarks.l0_eq k m l l _ _) (E2.pos (by omega) (E2.pos (by omega) (E2.pos (by omega) (E2.bind (inRange_ev _ _ _) (E2.neg (by simpa using h1) (E2.bind (inRange_ev _ _ _) (E2.neg (by simpa using h2) (E2.bind (inRange_ev _ _ _) (E2.neg (by simpa using h3) (E2.bind (inRange_ev _ _ _) (E2.neg (by simpa using h4) (E2.bind (inRange_ev _ _ _) (E2.neg (by simpa using h5) ?_)))))))))))))
    simp only [wrapS (show i < 9223372036854775807 by omega)]
    by_cases c : 0 < i
    · refine E2.pos (by omega) ?_
      simp only [wrapP c (show i < 9223372036854775807 by omega)]
      have := (ordM_lt _ _).2 (h6 c)
      exact E2.pos (by omega) (E2.pos (by omega) (E2.bind (orderM_ev _ _) (E2.neg (by omega) e)))
    · exact E2.neg (by omega) e) (fun i hi hq => by
    refine E2.eq (fun k m => impl_AreMarks.l0_eq k m l l _ _) (E2.pos (by omega) (E2.pos (by omega) (E2.pos (by omega) (E2.bind (inRange_ev _ _ _) ?_))))
    by_cases h1 : 1 ≤ ((rd T45 l (i : Int)).1 : Int) ∧ ((rd T45 l (i : Int)).1 : Int) ≤ 100
    · refine E2.neg (by simpa using h1) (E2.bind (inRange_ev _ _ _) ?_)
      by_cases h2 : 1 ≤ ((rd T45 l (i : Int)).2.1 : Int) ∧ ((rd T45 l (i : Int)).2.1 : Int) ≤ 4
      · refine E2.neg (by simpa using h2) (E2.bind (inRange_ev _ _ _) ?_)
        by_cases h3 : 0 ≤ ((rd T45 l (i : Int)).2.2.1 : Int) ∧ ((rd T45 l (i : Int)).2.2.1 : Int) ≤ 9
        · refine E2.neg (by simpa using h3) (E2.bind (inRange_ev _ _ _) ?_)
          by_cases h4 : 0 ≤ ((rd T45 l (i : Int)).2.2.2.1 : Int) ∧ ((rd T45 l (i : Int)).2.2.2.1 : Int) ≤ 100000
          · refine E2.neg (by simpa using h4) (E2.bind (inRange_ev _ _ _) ?_)
            by_cases h5 : 1 ≤ ((rd T45 l (i : Int)).2.2.2.2.1 : Int) ∧ ((rd T45 l (i : Int)).2.2.2.2.1 : Int) ≤ 99
            · obtain ⟨c, c1⟩ := notM l i hq ⟨h1, h2, h3, h4, h5⟩
              refine E2.neg (by simpa using h5) (E2.pos (by omega) ?_)
              simp only [wrapP c (show i < 9223372036854775807 by omega)]
              have := mt (ordM_lt _ _).1 c1
              exact E2.pos (by omega) (E2.pos (by omega) (E2.bind (orderM_ev _ _) (E2.pos (by omega) E2.ret)))
            · exact E2.pos (by simpa using h5) E2.ret
          · exact E2.pos (by simpa using h4) E2.ret
        · exact E2.pos (by simpa using h3) E2.ret
      · exact E2.pos (by simpa using h2) E2.ret
    · exact E2.pos (by simpa using h1) E2.ret)
  exact ⟨r, Ev.eq (fun k => impl_AreMarks_eq k l) (Ev.loop (f := fun k m => impl_AreMarks.l0 k m l l ((List.length l : Nat) : Int) 0) er), hr⟩
theorem implMarks_ev (l : List DT45) (hl : l.length ≤ 1048576) : ∃ r, Ev (fun k => impl_AreMarks k l) r ∧ (r = true ↔ marksP l) := implMarksB_ev l (by omega)
def QL (l : List DT25) (i : Nat) : Prop := Eq (α := Int) (rd T25 l (i : Int)).1 (i : Int) ∧ (LE.le (α := Int) 1 (rd T25 l (i : Int)).2.1 ∧ LE.le (α := Int) (rd T25 l (i : Int)).2.1 500) ∧ (0 < i → LT.lt (α := Int) (rd T25 l ((i - 1 : Nat) : Int)).2.1 (rd T25 l (i : Int)).2.1)
def lettersP (l : List DT25) : Prop := (∀ i, i < l.length → QL l i) ∧ decide (((l.length : Nat) : Int) ≤ 26) = true
theorem specLetters_ev (l : List DT25) (hl : l.length ≤ 1048576) : ∃ r, Ev (fun k => spec_AreLetters k l) r ∧ (r = true ↔ lettersP l) := by
  obtain ⟨r, er, hr⟩ := loop_allR (R := fun i v => E2 (fun k m => spec_AreLetters.l0 k m l i) v) (n := l.length) (QL l) (decide (((l.length : Nat) : Int) ≤ 26)) (E2.eq (fun k m => spec_AreLetters.l0_eq k m l _) (E2.neg (by omega) E2.ret)) (fun i hi hq v e => by
    obtain ⟨h1, h2, h3⟩ := hq
    refine E2.eq (fun k m => spec_AreLetters.l0_eq k m l _) (E2.pos (by omega) (E2.pos (by omega) (E2.pos (by omega) (E2.neg (fun c => c h1) (E2.pos (by omega) (E2.pos (by omega) (E2.bind (l1In_ev _ _ _) (E2.neg (by simpa using h2) ?_))))))))
    simp only [wrapS (show i < 9223372036854775807 by omega)]
    by_cases c : 0 < i
    · refine E2.pos (by omega) ?_
      simp only [wrapP c (show i < 9223372036854775807 by omega)]
      have := h3 c
      exact E2.pos (by omega) (E2.pos (by omega) (E2.pos (by omega) (E2.pos (by omega) (E2.neg (by omega) e))))
    · exact E2.neg (by omega) e) (fun i hi hq => by
    refine E2.eq (fun k m => spec_AreLetters.l0_eq k m l _) (E2.pos (by omega) (E2.pos (by omega) (E2.pos (by omega) ?_)))
    by_cases h1 : Eq (α := Int) (rd T25 l (i : Int)).1 (i : Int)
    · refine E2.neg (fun c => c h1) (E2.pos (by omega) (E2.pos (by omega) (E2.bind (l1In_ev _ _ _) ?_)))
      by_cases h2 : LE.le (α := Int) 1 (rd T25 l (i : Int)).2.1 ∧ LE.le (α := Int) (rd T25 l (i : Int)).2.1 500
      · have c : 0 < i := by
          rcases Nat.eq_zero_or_pos i with h | h
          · exact absurd ⟨h1, h2, fun h' => by omega⟩ hq
          · exact h
        have h3 : ¬ LT.lt (α := Int) (rd T25 l ((i - 1 : Nat) : Int)).2.1 (rd T25 l (i : Int)).2.1 := fun h => hq ⟨h1, h2, fun _ => h⟩
        refine E2.neg (by simpa using h2) (E2.pos (by omega) ?_)
        simp only [wrapP c (show i < 9223372036854775807 by omega)]
        exact E2.pos (by omega) (E2.pos (by omega) (E2.pos (by omega) (E2.pos (by omega) (E2.pos (by omega) E2.ret))))
      · exact E2.pos (by simpa using h2) E2.ret
    · exact E2.pos h1 E2.ret)
  exact ⟨r, Ev.eq (fun k => spec_AreLetters_eq k l) (Ev.loop (f := fun k m => spec_AreLetters.l0 k m l 0) er), hr⟩
theorem implLetters_ev (l : List DT25) (hl : l.length ≤ 1048576) : ∃ r, Ev (fun k => impl_AreLetters k l) r ∧ (r = true ↔ lettersP l) := by
  obtain ⟨r, er, hr⟩ := loop_allR (R := fun i v => E2 (fun k m => impl_AreLetters.l0 k m l l ((List.length l : Nat) : Int) i) v) (n := l.length) (QL l) (decide (((l.length : Nat) : Int) ≤ 26)) (E2.eq (fun k m => impl_AreLetters.l0_eq k m l l _ _) (E2.neg (by omega) E2.ret)) (fun i hi hq v e => by
    obtain ⟨h1, h2, h3⟩ := hq
    refine E2.eq (fun k m => impl_AreLetters.l0_eq k m l l _ _) (E2.pos (by omega) (E2.pos (by omega) (E2.pos (by omega) (E2.neg (fun c => c h1) (E2.bind (inRange_ev _ _ _) (E2.neg (by simpa using h2) ?_))))))
    simp only [wrapS (show i < 9223372036854775807 by omega)]
    by_cases c : 0 < i
    · refine E2.pos (by omega) ?_
      simp only [wrapP c (show i < 9223372036854775807 by omega)]
      have := h3 c
      exact E2.pos (by omega) (E2.pos (by omega) (E2.neg (by omega) e))
    · exact E2.neg (by omega) e) (fun i hi hq => by
    refine E2.eq (fun k m => impl_AreLetters.l0_eq k m l l _ _) (E2.pos (by omega) (E2.pos (by omega) (E2.pos (by omega) ?_)))
    by_cases h1 : Eq (α := Int) (rd T25 l (i : Int)).1 (i : Int)
    · refine E2.neg (fun c => c h1) (E2.bind (inRange_ev _ _ _) ?_)
      by_cases h2 : LE.le (α := Int) 1 (rd T25 l (i : Int)).2.1 ∧ LE.le (α := Int) (rd T25 l (i : Int)).2.1 500
      · have c : 0 < i := by
          rcases Nat.eq_zero_or_pos i with h | h
          · exact absurd ⟨h1, h2, fun h' => by omega⟩ hq
          · exact h
        have h3 : ¬ LT.lt (α := Int) (rd T25 l ((i - 1 : Nat) : Int)).2.1 (rd T25 l (i : Int)).2.1 := fun h => hq ⟨h1, h2, fun _ => h⟩
        refine E2.neg (by simpa using h2) (E2.pos (by omega) ?_)
        simp only [wrapP c (show i < 9223372036854775807 by omega)]
        exact E2.pos (by omega) (E2.pos (by omega) (E2.pos (by omega) E2.ret))
      · exact E2.pos (by simpa using h2) E2.ret
    · exact E2.pos h1 E2.ret)
  exact ⟨r, Ev.eq (fun k => impl_AreLetters_eq k l) (Ev.loop (f := fun k m => impl_AreLetters.l0 k m l l ((List.length l : Nat) : Int) 0) er), hr⟩
theorem has_ev (l : List Int) (x : Int) (hl : l.length ≤ 1048576) : Ev (fun k => spec_l27Has k l x) (decide (x ∈ l)) := by
  refine dec_of ?_
  obtain ⟨r, er, hr⟩ := loop_anyR (R := fun i v => E2 (fun k m => spec_l27Has.l0 k m l x i) v) (n := l.length) (fun i => Eq (α := Int) (rd (.int .i64) l (i : Int)) x) (E2.eq (fun k m => spec_l27Has.l0_eq k m l x _) (E2.neg (by omega) E2.ret)) (fun i hi hq v e => by
    refine E2.eq (fun k m => spec_l27Has.l0_eq k m l x _) (E2.pos (by omega) (E2.pos (by omega) (E2.pos (by omega) (E2.neg hq ?_))))
    simp only [wrapS (show i < 9223372036854775807 by omega)]; exact e) (fun i hi hq => E2.eq (fun k m => spec_l27Has.l0_eq k m l x _) (E2.pos (by omega) (E2.pos (by omega) (E2.pos (by omega) (E2.pos hq E2.ret)))))
  refine ⟨r, Ev.eq (fun k => spec_l27Has_eq k l x) (Ev.loop (f := fun k m => spec_l27Has.l0 k m l x 0) er), hr.trans ⟨fun ⟨i, hi, h⟩ => ?_, fun h => ?_⟩⟩
  · rw [← h, rd_at hi]; exact List.getElem_mem hi
  · obtain ⟨i, hi, h⟩ := List.mem_iff_getElem.1 h
    exact ⟨i, hi, by rw [rd_at hi]; exact h⟩
theorem index_ev (l : List Int) (x : Int) (hl : l.length ≤ 1048576) : Ev (fun k => slices_Index___int_int k l x) (firstI (fun i => decide (Eq (α := Int) x (rd (.int .i64) l (i : Int)))) l.length) := by
  have er := loop_firstR (R := fun i v => E2 (fun k m => slices_Index___int_int.l0 k m l x ((List.length l : Nat) : Int) i) v) (n := l.length) (fun i => decide (Eq (α := Int) x (rd (.int .i64) l (i : Int)))) (E2.eq (fun k m => slices_Index___int_int.l0_eq k m l x _ _) (E2.neg (by omega) E2.ret)) (fun i hi hq v e => by
    refine E2.eq (fun k m => slices_Index___int_int.l0_eq k m l x _ _) (E2.pos (by omega) (E2.pos (by omega) (E2.pos (by omega) (E2.neg (by simpa using hq) ?_))))
    simp only [wrapS (show i < 9223372036854775807 by omega)]; exact e) (fun i hi hq => E2.eq (fun k m => slices_Index___int_int.l0_eq k m l x _ _) (E2.pos (by omega) (E2.pos (by omega) (E2.pos (by omega) (E2.pos (by simpa using hq) E2.ret)))))
  exact Ev.eq (fun k => slices_Index___int_int_eq k l x) (Ev.loop (f := fun k m => slices_Index___int_int.l0 k m l x ((List.length l : Nat) : Int) 0) er)
theorem contains_ev (l : List Int) (x : Int) (hl : l.length ≤ 1048576) : Ev (fun k => slices_Contains___int_int k l x) (decide (x ∈ l)) := by
  refine Ev.eq (fun k => slices_Contains___int_int_eq k l x) (Ev.bind (index_ev l x hl) (Ev.ret.val ?_))
  rw [Bool.eq_iff_iff, decide_eq_true_eq, decide_eq_true_eq, firstI_nonneg]
  constructor
  · rintro ⟨i, hi, h⟩
    have h : x = rd (.int .i64) l (i : Int) := by simpa using h
    rw [h, rd_at hi]; exact List.getElem_mem hi
  · intro h
    obtain ⟨i, hi, h⟩ := List.mem_iff_getElem.1 h
    exact ⟨i, hi, by rw [decide_eq_true_eq, rd_at hi]; exact h.symm⟩
def ofVoice (v : Int) (e : DT39) : Bool := decide ((e.2.2.2.1 : Int) = v)
theorem specVoice_ev (l : List DT39) (v : Int) (hl : l.length ≤ 1048576) : Ev (fun k => spec_VoiceOf k l v) (l.filter (ofVoice v)) := by
  have er := loop_filterR (t := T39) (l := l) (R := fun i s r => E2 (fun k m => spec_VoiceOf.l0 k m l v i s) r) (ofVoice v) (fun s => E2.eq (fun k m => spec_VoiceOf.l0_eq k m l v _ s) (E2.neg (by omega) E2.ret)) (fun i s hi hs hq r e => by
    refine E2.eq (fun k m => spec_VoiceOf.l0_eq k m l v _ s) (E2.pos (by omega) (E2.pos (by omega) (E2.pos (by omega) (E2.pos (of_decide_eq_true hq) (E2.pos (by omega) (E2.pos (by omega) (E2.pos (by simp only [List.length_cons, List.length_nil]; omega) ?_)))))))
    simp only [wrapS (show i < 9223372036854775807 by omega)]; exact e) (fun i s hi hs hq r e => by
    refine E2.eq (fun k m => spec_VoiceOf.l0_eq k m l v _ s) (E2.pos (by omega) (E2.pos (by omega) (E2.pos (by omega) (E2.neg (of_decide_eq_false hq) ?_))))
    simp only [wrapS (show i < 9223372036854775807 by omega)]; exact e)
  exact Ev.eq (fun k => spec_VoiceOf_eq k l v) (Ev.loop (f := fun k m => spec_VoiceOf.l0 k m l v 0 []) er)
theorem del_ev (e : DT39) (v : Int) : Ev (fun k => impl_VoiceOf_1 k e v) (! ofVoice v e) := by
  refine Ev.eq (fun k => impl_VoiceOf_1_eq k e v) (Ev.ret.val ?_)
  unfold ofVoice
  simp
theorem delete_ev (l : List DT39) (v : Int) (hl : l.length ≤ 1048576) : Ev (fun k => slices_DeleteFunc_impl_Event_189 k l v) (l.filter (ofVoice v)) := by
  have ei : Ev (fun k => slices_IndexFunc_impl_Event_189 k l v) (firstI (fun i => ! ofVoice v (rd T39 l (i : Int))) l.length) := by
    have er := loop_firstR (R := fun i r => E2 (fun k m => slices_IndexFunc_impl_Event_189.l0 k m l v ((List.length l : Nat) : Int) i) r) (n := l.length) (fun i => ! ofVoice v (rd T39 l (i : Int))) (E2.eq (fun k m => slices_IndexFunc_impl_Event_189.l0_eq k m l v _ _) (E2.neg (by omega) E2.ret)) (fun i hi hq r e => by
      refine E2.eq (fun k m => slices_IndexFunc_impl_Event_189.l0_eq k m l v _ _) (E2.pos (by omega) (E2.pos (by omega) (E2.pos (by omega) (E2.bind (del_ev _ _) (E2.neg (by rw [hq]; simp) ?_)))))
      simp only [wrapS (show i < 9223372036854775807 by omega)]; exact e) (fun i hi hq => E2.eq (fun k m => slices_IndexFunc_impl_Event_189.l0_eq k m l v _ _) (E2.pos (by omega) (E2.pos (by omega) (E2.pos (by omega) (E2.bind (del_ev _ _) (E2.pos hq E2.ret))))))
    exact Ev.eq (fun k => slices_IndexFunc_impl_Event_189_eq k l v) (Ev.loop (f := fun k m => slices_IndexFunc_impl_Event_189.l0 k m l v ((List.length l : Nat) : Int) 0) er)
  refine Ev.eq (fun k => slices_DeleteFunc_impl_Event_189_eq k l v) (Ev.bind ei ?_)
  rcases firstI_spec (fun i => ! ofVoice v (rd T39 l (i : Int))) l.length with ⟨h, hall⟩ | ⟨r, h, hr, h1, h0⟩
  · refine Ev.pos h (Ev.ret.val ?_)
    symm
    rw [List.filter_eq_self]
    intro x hx
    obtain ⟨i, hi, rfl⟩ := List.mem_iff_getElem.1 hx
    have := hall i hi
    rw [rd_at hi] at this
    simpa using this
  · rw [h]
    refine Ev.neg (by omega) ?_
    rw [wrapS (by omega)]
    refine Ev.loop (f := fun k m => slices_DeleteFunc_impl_Event_189.l0 k m v (r : Int) ((r + 1 : Nat) : Int) l) ?_
    refine loop_deleteR (t := T39) (l := l) (R := fun i j s w => E2 (fun k m => slices_DeleteFunc_impl_Event_189.l0 k m v i j s) w) (ofVoice v) (fun i s hi hs => ?_) (fun i j s hij hj hs hq w e => ?_) (fun i j s hij hj hs hq w e => ?_) r hr (fun j hj => by simpa using h0 j hj) (by simpa using h1)
    · refine E2.eq (fun k m => slices_DeleteFunc_impl_Event_189.l0_eq k m v _ _ s) (E2.neg (by omega) (E2.pos (by omega) (E2.pos (by omega) (E2.pos (by omega) (E2.pos ?_ (E2.ret.val ?_))))))
      · simp only [List.length_append, List.length_take, List.length_replicate, List.length_drop, Int.toNat_natCast]
        omega
      · simp only [Int.toNat_natCast, show Int.toNat 0 = 0 from rfl, Nat.sub_zero, List.drop_zero]
        rw [List.append_assoc, List.take_append_of_le_length (by simp; omega), List.take_take, Nat.min_self]
    · refine E2.eq (fun k m => slices_DeleteFunc_impl_Event_189.l0_eq k m v _ _ s) (E2.pos (by omega) (E2.pos (by omega) (E2.pos (by omega) (E2.bind (del_ev _ _) (E2.pos (by rw [hq]; simp) (E2.pos (by omega) (E2.pos (by omega) ?_)))))))
      simp only [wrapS (show i < 9223372036854775807 by omega), wrapS (show j < 9223372036854775807 by omega), Int.toNat_natCast]; exact e
    · refine E2.eq (fun k m => slices_DeleteFunc_impl_Event_189.l0_eq k m v _ _ s) (E2.pos (by omega) (E2.pos (by omega) (E2.pos (by omega) (E2.bind (del_ev _ _) (E2.neg (by rw [hq]; simp) ?_)))))
      simp only [wrapS (show j < 9223372036854775807 by omega)]; exact e
theorem cloneE_ev (l : List DT39) (hl : l.length ≤ 1048576) : Ev (fun k => impl_clone_impl_Event k l) l :=
  Ev.eq (fun k => impl_clone_impl_Event_eq k l) (Ev.pos (by simp only [List.length_nil]; omega) (Ev.ret.val (by simp)))
theorem implVoice_ev (l : List DT39) (v : Int) (hl : l.length ≤ 1048576) : Ev (fun k => impl_VoiceOf k l v) (l.filter (ofVoice v)) :=
  Ev.eq (fun k => impl_VoiceOf_eq k l v) (Ev.bind (cloneE_ev l hl) (Ev.bind (delete_ev l v hl) Ev.ret))
def QF (lo hi : Int) (l : List DT39) (i : Nat) : Prop := LE.le (α := Int) lo (rd T39 l (i : Int)).2.2.1 ∧ LE.le (α := Int) (rd T39 l (i : Int)).2.2.1 hi
def fitsP (l : List DT39) (lo hi : Int) : Prop := (∀ i, i < l.length → QF lo hi l i) ∧ decide (scoreP l) = true
theorem specFits_ev (l : List DT39) (lo hi : Int) (hl : l.length ≤ 1048576) : ∃ r, Ev (fun k => spec_FitsRange k l lo hi) r ∧ (r = true ↔ fitsP l lo hi) := by
  obtain ⟨r, er, hr⟩ := loop_allR (R := fun i v => E2 (fun k m => spec_FitsRange.l0 k m l lo hi i) v) (n := l.length) (QF lo hi l) (decide (scoreP l)) (E2.eq (fun k m => spec_FitsRange.l0_eq k m l lo hi _) (E2.neg (by omega) (E2.bind (specScore_ev l hl) (E2.ret.val (by simp))))) (fun i hi' hq v e => by
    refine E2.eq (fun k m => spec_FitsRange.l0_eq k m l lo hi _) (E2.pos (by omega) (E2.pos (by omega) (E2.pos (by omega) (E2.bind (l1In_ev _ _ _) (E2.neg (by simpa [QF] using hq) ?_)))))
    simp only [wrapS (show i < 9223372036854775807 by omega)]; exact e) (fun i hi' hq => E2.eq (fun k m => spec_FitsRange.l0_eq k m l lo hi _) (E2.pos (by omega) (E2.pos (by omega) (E2.pos (by omega) (E2.bind (l1In_ev _ _ _) (E2.pos (by simp only [decide_eq_true_eq]; exact hq) E2.ret))))))
  exact ⟨r, Ev.eq (fun k => spec_FitsRange_eq k l lo hi) (Ev.loop (f := fun k m => spec_FitsRange.l0 k m l lo hi 0) er), hr⟩
theorem implFits_ev (l : List DT39) (lo hi : Int) (hl : l.length ≤ 1048576) : ∃ r, Ev (fun k => impl_FitsRange k l lo hi) r ∧ (r = true ↔ fitsP l lo hi) := by
  obtain ⟨r, er, hr⟩ := loop_allR (R := fun i v => E2 (fun k m => impl_FitsRange.l0 k m l lo hi l ((List.length l : Nat) : Int) i) v) (n := l.length) (QF lo hi l) (decide (scoreP l)) (E2.eq (fun k m => impl_FitsRange.l0_eq k m l lo hi l _ _) (E2.neg (by omega) (E2.bind (implScore_ev l hl) (E2.ret.val (by simp))))) (fun i hi' hq v e => by
    refine E2.eq (fun k m => impl_FitsRange.l0_eq k m l lo hi l _ _) (E2.pos (by omega) (E2.pos (by omega) (E2.pos (by omega) (E2.bind (inRange_ev _ _ _) (E2.neg (by simpa [QF] using hq) ?_)))))
    simp only [wrapS (show i < 9223372036854775807 by omega)]; exact e) (fun i hi' hq => E2.eq (fun k m => impl_FitsRange.l0_eq k m l lo hi l _ _) (E2.pos (by omega) (E2.pos (by omega) (E2.pos (by omega) (E2.bind (inRange_ev _ _ _) (E2.pos (by simp only [decide_eq_true_eq]; exact hq) E2.ret))))))
  exact ⟨r, Ev.eq (fun k => impl_FitsRange_eq k l lo hi) (Ev.loop (f := fun k m => impl_FitsRange.l0 k m l lo hi l ((List.length l : Nat) : Int) 0) er), hr⟩
def canP (p : DT43) (l : List DT39) (v : Int) : Prop := (v : Int) ∈ p.2.2.2.1 ∧ scoreP l ∧ fitsP (l.filter (ofVoice v)) p.2.1 p.2.2.1
theorem filter_le (l : List DT39) (v : Int) (hl : l.length ≤ 1048576) : (l.filter (ofVoice v)).length ≤ 1048576 := Nat.le_trans (List.length_filter_le _ _) hl
theorem specCan_ev (p : DT43) (l : List DT39) (v : Int) (hp : p.2.2.2.1.length ≤ 1048576) (hl : l.length ≤ 1048576) : ∃ r, Ev (fun k => spec_CanPlay k p l v) r ∧ (r = true ↔ canP p l v) := by
  unfold canP
  by_cases c1 : (v : Int) ∈ p.2.2.2.1
  · by_cases c2 : scoreP l
    · obtain ⟨r, er, hr⟩ := specFits_ev (l.filter (ofVoice v)) p.2.1 p.2.2.1 (filter_le l v hl)
      exact ⟨r, Ev.eq (fun k => spec_CanPlay_eq k p l v) (Ev.bind (has_ev _ _ hp) (Ev.pos (by simpa using c1) (Ev.bind (specScore_ev l hl) (Ev.pos (by simpa using c2) (Ev.bind (specVoice_ev l v hl) (Ev.bind er (Ev.ret.val (by simp)))))))), by rw [hr]; exact ⟨fun h => ⟨c1, c2, h⟩, fun h => h.2.2⟩⟩
    · exact ⟨false, Ev.eq (fun k => spec_CanPlay_eq k p l v) (Ev.bind (has_ev _ _ hp) (Ev.pos (by simpa using c1) (Ev.bind (specScore_ev l hl) (Ev.neg (by simpa using c2) Ev.ret)))), by simp only [Bool.false_eq_true, false_iff]; exact fun h => c2 h.2.1⟩
  · exact ⟨false, Ev.eq (fun k => spec_CanPlay_eq k p l v) (Ev.bind (has_ev _ _ hp) (Ev.neg (by simpa using c1) Ev.ret)), by simp only [Bool.false_eq_true, false_iff]; exact fun h => c1 h.1⟩
theorem implCan_ev (p : DT43) (l : List DT39) (v : Int) (hp : p.2.2.2.1.length ≤ 1048576) (hl : l.length ≤ 1048576) : ∃ r, Ev (fun k => impl_CanPlay k p l v) r ∧ (r = true ↔ canP p l v) := by
  unfold canP
  by_cases c1 : (v : Int) ∈ p.2.2.2.1
  · by_cases c2 : scoreP l
    · obtain ⟨r, er, hr⟩ := implFits_ev (l.filter (ofVoice v)) p.2.1 p.2.2.1 (filter_le l v hl)
      exact ⟨r, Ev.eq (fun k => impl_CanPlay_eq k p l v) (Ev.bind (contains_ev _ _ hp) (Ev.pos (by simpa using c1) (Ev.bind (implScore_ev l hl) (Ev.pos (by simpa using c2) (Ev.bind (implVoice_ev l v hl) (Ev.bind er (Ev.ret.val (by simp)))))))), by rw [hr]; exact ⟨fun h => ⟨c1, c2, h⟩, fun h => h.2.2⟩⟩
    · exact ⟨false, Ev.eq (fun k => impl_CanPlay_eq k p l v) (Ev.bind (contains_ev _ _ hp) (Ev.pos (by simpa using c1) (Ev.bind (implScore_ev l hl) (Ev.neg (by simpa using c2) Ev.ret)))), by simp only [Bool.false_eq_true, false_iff]; exact fun h => c2 h.2.1⟩
  · exact ⟨false, Ev.eq (fun k => impl_CanPlay_eq k p l v) (Ev.bind (contains_ev _ _ hp) (Ev.neg (by simpa using c1) Ev.ret)), by simp only [Bool.false_eq_true, false_iff]; exact fun h => c1 h.1⟩
def QA (lo hi : Int) (l : List Int) (i : Nat) : Prop := (LE.le (α := Int) lo (rd (.int .i64) l (i : Int)) ∧ LE.le (α := Int) (rd (.int .i64) l (i : Int)) hi) ∧ (0 < i → LT.lt (α := Int) (rd (.int .i64) l ((i - 1 : Nat) : Int)) (rd (.int .i64) l (i : Int)))
def ascP (l : List Int) (lo hi : Int) : Prop := ∀ i, i < l.length → QA lo hi l i
theorem notA {lo hi : Int} {l : List Int} {i : Nat} (h : ¬ QA lo hi l i) (h1 : LE.le (α := Int) lo (rd (.int .i64) l (i : Int)) ∧ LE.le (α := Int) (rd (.int .i64) l (i : Int)) hi) : 0 < i ∧ ¬ LT.lt (α := Int) (rd (.int .i64) l ((i - 1 : Nat) : Int)) (rd (.int .i64) l (i : Int)) := by
  refine ⟨?_, fun c => h ⟨h1, fun _ => c⟩⟩
  rcases Nat.eq_zero_or_pos i with hi | hi
  · exact absurd ⟨h1, fun h' => by omega⟩ h
  · exact hi
theorem asc_ev (l : List Int) (lo hi : Int) (hl : l.length ≤ 1048576) : ∃ r, Ev (fun k => impl_ascending k l lo hi) r ∧ (r = true ↔ ascP l lo hi) := by
  obtain ⟨r, er, hr⟩ := loop_allR (R := fun i v => E2 (fun k m => impl_ascending.l0 k m l lo hi l ((List.length l : Nat) : Int) i) v) (n := l.length) (QA lo hi l) true (E2.eq (fun k m => impl_ascending.l0_eq k m l lo hi l _ _) (E2.neg (by omega) E2.ret)) (fun i hi' hq v e => by
    obtain ⟨h1, h2⟩ := hq
    refine E2.eq (fun k m => impl_ascending.l0_eq k m l lo hi l _ _) (E2.pos (by omega) (E2.pos (by omega) (E2.pos (by omega) (E2.bind (inRange_ev _ _ _) (E2.neg (by simpa using h1) ?_)))))
    simp only [wrapS (show i < 9223372036854775807 by omega)]
    by_cases c : 0 < i
    · refine E2.pos (by omega) ?_
      simp only [wrapP c (show i < 9223372036854775807 by omega)]
      have := h2 c
      exact E2.pos (by omega) (E2.pos (by omega) (E2.neg (by omega) e))
    · exact E2.neg (by omega) e) (fun i hi' hq => by
    refine E2.eq (fun k m => impl_ascending.l0_eq k m l lo hi l _ _) (E2.pos (by omega) (E2.pos (by omega) (E2.pos (by omega) (E2.bind (inRange_ev _ _ _) ?_))))
    by_cases h1 : LE.le (α := Int) lo (rd (.int .i64) l (i : Int)) ∧ LE.le (α := Int) (rd (.int .i64) l (i : Int)) hi
    · obtain ⟨c, c1⟩ := notA hq h1
      refine E2.neg (by simpa using h1) (E2.pos (by omega) ?_)
      simp only [wrapP c (show i < 9223372036854775807 by omega)]
      exact E2.pos (by omega) (E2.pos (by omega) (E2.pos (by omega) E2.ret))
    · exact E2.pos (by simp only [decide_eq_true_eq]; exact h1) E2.ret)
  exact ⟨r, Ev.eq (fun k => impl_ascending_eq k l lo hi) (Ev.loop (f := fun k m => impl_ascending.l0 k m l lo hi l ((List.length l : Nat) : Int) 0) er), hr.trans ⟨fun h => h.1, fun h => ⟨h, rfl⟩⟩⟩
/-- A player alone, as the program tests it ahead of the Ids. -/
def okP (p : DT43) : Prop := (21 ≤ (p.2.1 : Int) ∧ (p.2.1 : Int) ≤ p.2.2.1) ∧ (p.2.2.1 : Int) ≤ 108 ∧ ascP p.2.2.2.1 1 4
def QP (l : List DT43) (i : Nat) : Prop := okP (rd T43 l (i : Int)) ∧ (1 ≤ ((rd T43 l (i : Int)).1 : Int) ∧ ((rd T43 l (i : Int)).1 : Int) ≤ 99) ∧ (0 < i → LT.lt (α := Int) (rd T43 l ((i - 1 : Nat) : Int)).1 (rd T43 l (i : Int)).1)
def playersP (l : List DT43) : Prop := (∀ i, i < l.length → QP l i) ∧ decide (((l.length : Nat) : Int) ≤ 8) = true
/-- No row is longer than the law allows. -/
def SmP (l : List DT43) : Prop := l.length ≤ 1048576 ∧ ∀ i : Nat, i < l.length → (rd T43 l (i : Int)).2.2.2.1.length ≤ 1048576
theorem specPl_in (l : List DT43) (i : Nat) (a b c : Int) (vs : List Int) (hv : vs.length ≤ 1048576) (hi : i < l.length) (hl : l.length ≤ 1048576) (x : Bool) (e : E2 (fun k n => spec_ArePlayers.l0 k n l ((i + 1 : Nat) : Int)) x) :
    ∃ r, E2 (fun k n => spec_ArePlayers.l1 k k n l (i : Int) 0 a b c vs) r ∧ (r = true ↔ ascP vs 1 4 ∧ x = true) := by
  obtain ⟨r, er, hr⟩ := loop_allR (R := fun j v => E3 (fun k m n => spec_ArePlayers.l1 k m n l (i : Int) j a b c vs) v) (n := vs.length) (QA 1 4 vs) x (by
    refine E3.eq (fun k m n => spec_ArePlayers.l1_eq k m n l (i : Int) _ a b c vs) (E3.neg (by omega) ?_)
    simp only [wrapS (show i < 9223372036854775807 by omega)]
    exact E3.out e) (fun j hj hq v e => by
    obtain ⟨h1, h2⟩ := hq
    refine E3.eq (fun k m n => spec_ArePlayers.l1_eq k m n l (i : Int) _ a b c vs) (E3.pos (by omega) (E3.pos (by omega) (E3.pos (by omega) (E3.bind (l1In_ev _ _ _) (E3.neg (by simpa using h1) ?_)))))
    simp only [wrapS (show j < 9223372036854775807 by omega)]
    by_cases c : 0 < j
    · refine E3.pos (by omega) ?_
      simp only [wrapP c (show j < 9223372036854775807 by omega)]
      have := h2 c
      exact E3.pos (by omega) (E3.pos (by omega) (E3.pos (by omega) (E3.pos (by omega) (E3.neg (by omega) e))))
    · exact E3.neg (by omega) e) (fun j hj hq => by
    refine E3.eq (fun k m n => spec_ArePlayers.l1_eq k m n l (i : Int) _ a b c vs) (E3.pos (by omega) (E3.pos (by omega) (E3.pos (by omega) (E3.bind (l1In_ev _ _ _) ?_))))
    by_cases h1 : LE.le (α := Int) 1 (rd (.int .i64) vs (j : Int)) ∧ LE.le (α := Int) (rd (.int .i64) vs (j : Int)) 4
    · obtain ⟨c, c1⟩ := notA hq h1
      refine E3.neg (by simpa using h1) (E3.pos (by omega) ?_)
      simp only [wrapP c (show j < 9223372036854775807 by omega)]
      exact E3.pos (by omega) (E3.pos (by omega) (E3.pos (by omega) (E3.pos (by omega) (E3.pos (by omega) E3.ret))))
    · exact E3.pos (by simp only [decide_eq_true_eq]; exact h1) E3.ret)
  exact ⟨r, E3.loop (f := fun k m n => spec_ArePlayers.l1 k m n l (i : Int) 0 a b c vs) er, hr⟩
theorem specPlayers_ev (l : List DT43) (hs : SmP l) : ∃ r, Ev (fun k => spec_ArePlayers k l) r ∧ (r = true ↔ playersP l) := by
  have hl := hs.1
  have key : ∀ d i, i + d = l.length → ∃ r, E2 (fun k m => spec_ArePlayers.l0 k m l (i : Int)) r ∧ (r = true ↔ (∀ j, i ≤ j → j < l.length → QP l j) ∧ decide (((l.length : Nat) : Int) ≤ 8) = true) := by
    intro d
    induction d with
    | zero =>
      intro i hi
      exact ⟨_, E2.eq (fun k m => spec_ArePlayers.l0_eq k m l _) (E2.neg (by omega) E2.ret), ⟨fun h => ⟨fun j _ _ => by omega, h⟩, fun h => h.2⟩⟩
    | succ d ih =>
      intro i hi
      have hlt : i < l.length := by omega
      obtain ⟨x, ex, hx⟩ := ih (i + 1) (by omega)
      have stop : (∃ e : E2 (fun k m => spec_ArePlayers.l0 k m l (i : Int)) false, True) → ¬ QP l i → ∃ r, E2 (fun k m => spec_ArePlayers.l0 k m l (i : Int)) r ∧ (r = true ↔ (∀ j, i ≤ j → j < l.length → QP l j) ∧ decide (((l.length : Nat) : Int) ≤ 8) = true) := fun ⟨e, _⟩ h =>
        ⟨false, e, by simp only [Bool.false_eq_true, false_iff]; exact fun c => h (c.1 i (Nat.le_refl _) hlt)⟩
      have st : ∀ {f : Nat → Nat → Option Bool} {v : Bool}, (∀ k m, spec_ArePlayers.l0 k (m + 1) l (i : Int) = f k m) → E2 f v → E2 (fun k m => spec_ArePlayers.l0 k m l (i : Int)) v := fun h e => E2.eq h e
      by_cases h1 : LE.le (α := Int) 1 (rd T43 l (i : Int)).1 ∧ LE.le (α := Int) (rd T43 l (i : Int)).1 99
      · by_cases h2 : LE.le (α := Int) 21 (rd T43 l (i : Int)).2.1
        · by_cases h3 : LE.le (α := Int) (rd T43 l (i : Int)).2.1 (rd T43 l (i : Int)).2.2.1
          · by_cases h4 : LE.le (α := Int) (rd T43 l (i : Int)).2.2.1 108
            · obtain ⟨r, er, hr⟩ := specPl_in l i (rd T43 l (i : Int)).1 (rd T43 l (i : Int)).2.1 (rd T43 l (i : Int)).2.2.1 (rd T43 l (i : Int)).2.2.2.1 (hs.2 i hlt) hlt hl x ex
              by_cases c : 0 < i
              · by_cases h5 : LT.lt (α := Int) (rd T43 l ((i - 1 : Nat) : Int)).1 (rd T43 l (i : Int)).1
                · refine ⟨r, E2.eq (fun k m => spec_ArePlayers.l0_eq k m l _) (E2.pos (by omega) (E2.pos (by omega) (E2.pos (by omega) (E2.bind (l1In_ev _ _ _) (E2.neg (by simpa using h1) (E2.neg (by omega) (E2.neg (by omega) (E2.neg (by omega) (E2.pos (by omega) ?_))))))))), hr.trans ⟨fun ⟨h6, h7⟩ => ⟨fun j hj1 hj2 => ?_, (hx.1 h7).2⟩, fun h => ⟨(h.1 i (Nat.le_refl _) hlt).1.2.2, hx.2 ⟨fun j hj1 hj2 => h.1 j (by omega) hj2, h.2⟩⟩⟩⟩
                  · simp only [wrapP c (show i < 9223372036854775807 by omega)]
                    exact E2.pos (by omega) (E2.pos (by omega) (E2.neg (by omega) er))
                  · by_cases hji : j = i
                    · subst hji; exact ⟨⟨⟨h2, h3⟩, h4, h6⟩, h1, fun _ => h5⟩
                    · exact (hx.1 h7).1 j (by omega) hj2
                · refine stop ⟨E2.eq (fun k m => spec_ArePlayers.l0_eq k m l _) (E2.pos (by omega) (E2.pos (by omega) (E2.pos (by omega) (E2.bind (l1In_ev _ _ _) (E2.neg (by simpa using h1) (E2.neg (by omega) (E2.neg (by omega) (E2.neg (by omega) (E2.pos (by omega) ?_))))))))), trivial⟩ (fun h => h5 (h.2.2 c))
                  simp only [wrapP c (show i < 9223372036854775807 by omega)]
                  exact E2.pos (by omega) (E2.pos (by omega) (E2.pos (by omega) E2.ret))
              · refine ⟨r, E2.eq (fun k m => spec_ArePlayers.l0_eq k m l _) (E2.pos (by omega) (E2.pos (by omega) (E2.pos (by omega) (E2.bind (l1In_ev _ _ _) (E2.neg (by simpa using h1) (E2.neg (by omega) (E2.neg (by omega) (E2.neg (by omega) (E2.neg (by omega) er))))))))), hr.trans ⟨fun ⟨h6, h7⟩ => ⟨fun j hj1 hj2 => ?_, (hx.1 h7).2⟩, fun h => ⟨(h.1 i (Nat.le_refl _) hlt).1.2.2, hx.2 ⟨fun j hj1 hj2 => h.1 j (by omega) hj2, h.2⟩⟩⟩⟩
                by_cases hji : j = i
                · subst hji; exact ⟨⟨⟨h2, h3⟩, h4, h6⟩, h1, fun h => absurd h c⟩
                · exact (hx.1 h7).1 j (by omega) hj2
            · exact stop ⟨E2.eq (fun k m => spec_ArePlayers.l0_eq k m l _) (E2.pos (by omega) (E2.pos (by omega) (E2.pos (by omega) (E2.bind (l1In_ev _ _ _) (E2.neg (by simpa using h1) (E2.neg (by omega) (E2.neg (by omega) (E2.pos (by omega) E2.ret)))))))), trivial⟩ (fun h => h4 h.1.2.1)
          · exact stop ⟨E2.eq (fun k m => spec_ArePlayers.l0_eq k m l _) (E2.pos (by omega) (E2.pos (by omega) (E2.pos (by omega) (E2.bind (l1In_ev _ _ _) (E2.neg (by simpa using h1) (E2.neg (by omega) (E2.pos (by omega) E2.ret))))))), trivial⟩ (fun h => h3 h.1.1.2)
        · exact stop ⟨E2.eq (fun k m => spec_ArePlayers.l0_eq k m l _) (E2.pos (by omega) (E2.pos (by omega) (E2.pos (by omega) (E2.bind (l1In_ev _ _ _) (E2.neg (by simpa using h1) (E2.pos (by omega) E2.ret)))))), trivial⟩ (fun h => h2 h.1.1.1)
      · exact stop ⟨E2.eq (fun k m => spec_ArePlayers.l0_eq k m l _) (E2.pos (by omega) (E2.pos (by omega) (E2.pos (by omega) (E2.bind (l1In_ev _ _ _) (E2.pos (by simp only [decide_eq_true_eq]; exact h1) E2.ret))))), trivial⟩ (fun h => h1 h.2.1)
  obtain ⟨r, er, hr⟩ := key l.length 0 (by omega)
  exact ⟨r, Ev.eq (fun k => spec_ArePlayers_eq k l) (Ev.loop (f := fun k m => spec_ArePlayers.l0 k m l 0) er), hr.trans ⟨fun h => ⟨fun i hi => h.1 i (Nat.zero_le _) hi, h.2⟩, fun h => ⟨fun i _ hi => h.1 i hi, h.2⟩⟩⟩
def idsOfP (l : List DT43) : List Int := l.map fun p => p.1
theorem idsOfP_rd {l : List DT43} {i : Nat} (h : i < l.length) : Eq (α := Int) (rd (.int .i64) (idsOfP l) (i : Int)) (rd T43 l (i : Int)).1 := by
  unfold idsOfP
  rw [rd_at (by simpa using h), rd_at h]
  simp
theorem implPlayers_ev (l : List DT43) (hs : SmP l) : ∃ r, Ev (fun k => impl_ArePlayers k l) r ∧ (r = true ↔ playersP l) := by
  have hl := hs.1
  obtain ⟨a, ea, ha⟩ := asc_ev (idsOfP l) 1 99 (by unfold idsOfP; simpa using hl)
  obtain ⟨r, er, hr⟩ := loop_allR (R := fun i v => E2 (fun k m => impl_ArePlayers.l0 k m l l ((List.length l : Nat) : Int) i (idsOfP (l.take i.toNat))) v) (n := l.length) (fun i => okP (rd T43 l (i : Int))) (decide (((l.length : Nat) : Int) ≤ 8 ∧ a = true)) (by
    refine E2.eq (fun k m => impl_ArePlayers.l0_eq k m l l _ _ _) (E2.neg (by omega) ?_)
    rw [Int.toNat_natCast, List.take_length]
    by_cases c : ((l.length : Nat) : Int) ≤ 8
    · exact E2.pos c (E2.bind ea (E2.ret.val (by simp [c])))
    · exact E2.neg c (E2.ret.val (by simp [c]))) (fun i hi hq v e => by
    obtain ⟨h1, h2, h3⟩ := hq
    obtain ⟨b, eb, hb⟩ := asc_ev (rd T43 l (i : Int)).2.2.2.1 1 4 (hs.2 i hi)
    have hlen : (idsOfP (l.take ((i : Int)).toNat)).length = i := by unfold idsOfP; simp; omega
    refine E2.eq (fun k m => impl_ArePlayers.l0_eq k m l l _ _ _) (E2.pos (by omega) (E2.pos (by omega) (E2.pos (by omega) (E2.bind (inRange_ev _ _ _) (E2.neg (by simpa using h1) (E2.neg (Int.not_lt.2 h2) (E2.bind eb (E2.neg (by simpa using hb.2 h3) (E2.pos (by rw [hlen]; simp only [List.length_cons, List.length_nil]; omega) ?_)))))))))
    simp only [wrapS (show i < 9223372036854775807 by omega)]
    have he : idsOfP (l.take ((i : Int)).toNat) ++ [(rd T43 l (i : Int)).1] = idsOfP (l.take (((i + 1 : Nat) : Int)).toNat) := by
      unfold idsOfP
      rw [Int.toNat_natCast, Int.toNat_natCast, List.take_succ_eq_append_getElem hi, rd_at hi, List.map_append]
      rfl
    rw [he]
    exact e) (fun i hi hq => by
    obtain ⟨b, eb, hb⟩ := asc_ev (rd T43 l (i : Int)).2.2.2.1 1 4 (hs.2 i hi)
    refine E2.eq (fun k m => impl_ArePlayers.l0_eq k m l l _ _ _) (E2.pos (by omega) (E2.pos (by omega) (E2.pos (by omega) (E2.bind (inRange_ev _ _ _) ?_))))
    by_cases h1 : LE.le (α := Int) 21 (rd T43 l (i : Int)).2.1 ∧ LE.le (α := Int) (rd T43 l (i : Int)).2.1 (rd T43 l (i : Int)).2.2.1
    · refine E2.neg (by simpa using h1) ?_
      by_cases h2 : LE.le (α := Int) (rd T43 l (i : Int)).2.2.1 108
      · exact E2.neg (by omega) (E2.bind eb (E2.pos (fun c => hq ⟨h1, h2, hb.1 c⟩) E2.ret))
      · exact E2.pos (by omega) E2.ret
    · exact E2.pos (by simp only [decide_eq_true_eq]; exact h1) E2.ret)
  have er' : E2 (fun k m => impl_ArePlayers.l0 k m l l ((List.length l : Nat) : Int) 0 []) r := er
  refine ⟨r, Ev.eq (fun k => impl_ArePlayers_eq k l) (Ev.loop (f := fun k m => impl_ArePlayers.l0 k m l l ((List.length l : Nat) : Int) 0 []) er'), hr.trans ?_⟩
  unfold playersP
  rw [decide_eq_true_eq, decide_eq_true_eq, ha]
  unfold ascP
  have hlen : (idsOfP l).length = l.length := by unfold idsOfP; simp
  rw [hlen]
  constructor
  · rintro ⟨h1, h2, h3⟩
    refine ⟨fun i hi => ?_, h2⟩
    obtain ⟨k1, k2⟩ := h3 i hi
    rw [idsOfP_rd hi] at k1
    refine ⟨h1 i hi, k1, fun c => ?_⟩
    have := k2 c
    rw [idsOfP_rd hi, idsOfP_rd (show i - 1 < l.length by omega)] at this
    exact this
  · rintro ⟨h1, h2⟩
    refine ⟨fun i hi => (h1 i hi).1, h2, fun i hi => ?_⟩
    obtain ⟨k1, k2, k3⟩ := h1 i hi
    refine ⟨by rw [idsOfP_rd hi]; exact k2, fun c => ?_⟩
    rw [idsOfP_rd hi, idsOfP_rd (show i - 1 < l.length by omega)]
    exact k3 c
def sitsP (l : List DT43) (sc : List DT39) (x v : Int) (j : Nat) : Prop := Eq (α := Int) (rd T43 l (j : Int)).1 x ∧ canP (rd T43 l (j : Int)) sc v
def QI (l : List DT43) (sc : List DT39) (seats : List Int) (i : Nat) : Prop := (∃ j, j < l.length ∧ sitsP l sc (rd (.int .i64) seats (i : Int)) ((i + 1 : Nat) : Int) j) ∧ ¬ (rd (.int .i64) seats (i : Int)) ∈ seats.take i
def seatingP (l : List DT43) (sc : List DT39) (seats : List Int) : Prop := (∀ i, i < seats.length → QI l sc seats i) ∧ playersP l ∧ scoreP sc ∧ ((seats.length : Nat) : Int) ≤ 4
theorem takeNat (i : Nat) (s : List Int) : List.take (Int.toNat (i : Int) - Int.toNat 0) (List.drop (Int.toNat 0) s) = s.take i := by
  simp
theorem specSeat_in (l : List DT43) (sc : List DT39) (seats : List Int) (hs : SmP l) (h1 : sc.length ≤ 1048576) (h2 : seats.length ≤ 1048576) (i : Nat) (hi : i < seats.length) (x : Bool) (e : E2 (fun k n => spec_IsSeating.l0 k n l sc seats ((i + 1 : Nat) : Int)) x) :
    ∃ r, E2 (fun k n => spec_IsSeating.l1 k k n l sc seats (i : Int) false 0) r ∧ (r = true ↔ QI l sc seats i ∧ x = true) := by
  have hl := hs.1
  have key : ∀ d (j : Nat) (g : Bool), j + d = l.length → ∃ r, E3 (fun k m n => spec_IsSeating.l1 k m n l sc seats (i : Int) g (j : Int)) r ∧
      (r = true ↔ ((g = true ∨ ∃ q, j ≤ q ∧ q < l.length ∧ sitsP l sc (rd (.int .i64) seats (i : Int)) ((i + 1 : Nat) : Int) q) ∧ ¬ (rd (.int .i64) seats (i : Int)) ∈ seats.take i) ∧ x = true) := by
    intro d
    induction d with
    | zero =>
      intro j g hj
      have no : ¬ ∃ q, j ≤ q ∧ q < l.length ∧ sitsP l sc (rd (.int .i64) seats (i : Int)) ((i + 1 : Nat) : Int) q := by rintro ⟨q, h3, h4, _⟩; omega
      cases g with
      | false =>
        exact ⟨false, E3.eq (fun k m n => spec_IsSeating.l1_eq k m n l sc seats (i : Int) false _) (E3.neg (by omega) (E3.pos (by simp) E3.ret)), by simp only [Bool.false_eq_true, false_iff, false_or]; exact fun h => no h.1.1⟩
      | true =>
        by_cases hm : (rd (.int .i64) seats (i : Int)) ∈ seats.take i
        · refine ⟨false, E3.eq (fun k m n => spec_IsSeating.l1_eq k m n l sc seats (i : Int) true _) (E3.neg (by omega) (E3.neg (by simp) (E3.pos (by omega) (E3.pos (by omega) (E3.pos (by omega) (E3.pos (by omega) (E3.bind (has_ev _ _ ?_) (E3.pos ?_ E3.ret)))))))), by simp [hm]⟩
          · simp; omega
          · rw [takeNat]; simpa using hm
        · refine ⟨x, E3.eq (fun k m n => spec_IsSeating.l1_eq k m n l sc seats (i : Int) true _) (E3.neg (by omega) (E3.neg (by simp) (E3.pos (by omega) (E3.pos (by omega) (E3.pos (by omega) (E3.pos (by omega) (E3.bind (has_ev _ _ ?_) (E3.neg ?_ ?_)))))))), by simp [hm]⟩
          · simp; omega
          · rw [takeNat]; simpa using hm
          · simp only [wrapS (show i < 9223372036854775807 by omega)]
            exact E3.out e
    | succ d ih =>
      intro j g hj
      have hlt : j < l.length := by omega
      cases g with
      | true =>
        obtain ⟨r, er, hr⟩ := ih (j + 1) true (by omega)
        refine ⟨r, E3.eq (fun k m n => spec_IsSeating.l1_eq k m n l sc seats (i : Int) true _) (E3.pos (by omega) (E3.pos rfl ?_)), hr.trans (by simp)⟩
        simp only [wrapS (show j < 9223372036854775807 by omega)]
        exact er
      | false =>
        have wi : IntKind.wrap .i64 ((i : Int) + 1) = ((i + 1 : Nat) : Int) := wrapS (by omega)
        by_cases hid : Eq (α := Int) (rd T43 l (j : Int)).1 (rd (.int .i64) seats (i : Int))
        · obtain ⟨c, ec, hc⟩ := specCan_ev (rd T43 l (j : Int)) sc ((i + 1 : Nat) : Int) (hs.2 j hlt) h1
          obtain ⟨r, er, hr⟩ := ih (j + 1) c (by omega)
          refine ⟨r, E3.eq (fun k m n => spec_IsSeating.l1_eq k m n l sc seats (i : Int) false _) (E3.pos (by omega) (E3.neg (by simp) (E3.pos (by omega) (E3.pos (by omega) (E3.pos (by omega) (E3.pos (by omega) (E3.pos hid (E3.pos (by omega) (E3.pos (by omega) ?_))))))))), hr.trans ?_⟩
          · simp only [wrapS (show j < 9223372036854775807 by omega), wi]
            refine E3.bind ec ?_
            simpa using er
          · refine and_congr (and_congr ⟨fun h => .inr ?_, fun h => ?_⟩ Iff.rfl) Iff.rfl
            · rcases h with h | ⟨q, h3, h4, h5⟩
              · exact ⟨j, Nat.le_refl _, hlt, hid, hc.1 h⟩
              · exact ⟨q, by omega, h4, h5⟩
            · rcases h with h | ⟨q, h3, h4, h5⟩
              · cases h
              · by_cases hq : q = j
                · subst hq; exact .inl (hc.2 h5.2)
                · exact .inr ⟨q, by omega, h4, h5⟩
        · obtain ⟨r, er, hr⟩ := ih (j + 1) false (by omega)
          refine ⟨r, E3.eq (fun k m n => spec_IsSeating.l1_eq k m n l sc seats (i : Int) false _) (E3.pos (by omega) (E3.neg (by simp) (E3.pos (by omega) (E3.pos (by omega) (E3.pos (by omega) (E3.pos (by omega) (E3.neg hid ?_))))))), hr.trans ?_⟩
          · simp only [wrapS (show j < 9223372036854775807 by omega)]
            exact er
          · refine and_congr (and_congr (or_congr Iff.rfl ⟨fun ⟨q, h3, h4, h5⟩ => ⟨q, by omega, h4, h5⟩, fun ⟨q, h3, h4, h5⟩ => ?_⟩) Iff.rfl) Iff.rfl
            by_cases hq : q = j
            · subst hq; exact absurd h5.1 hid
            · exact ⟨q, by omega, h4, h5⟩
  obtain ⟨r, er, hr⟩ := key l.length 0 false (by omega)
  refine ⟨r, E3.loop (f := fun k m n => spec_IsSeating.l1 k m n l sc seats (i : Int) false 0) er, hr.trans ?_⟩
  unfold QI
  simp
theorem specSeating_ev (l : List DT43) (sc : List DT39) (seats : List Int) (hs : SmP l) (h1 : sc.length ≤ 1048576) (h2 : seats.length ≤ 1048576) : ∃ r, Ev (fun k => spec_IsSeating k l sc seats) r ∧ (r = true ↔ seatingP l sc seats) := by
  have key : ∀ d i, i + d = seats.length → ∃ r, E2 (fun k m => spec_IsSeating.l0 k m l sc seats (i : Int)) r ∧ (r = true ↔ (∀ j, i ≤ j → j < seats.length → QI l sc seats j) ∧ playersP l ∧ scoreP sc ∧ ((seats.length : Nat) : Int) ≤ 4) := by
    intro d
    induction d with
    | zero =>
      intro i hi
      have tr : ∀ {p : Prop}, (p ↔ (∀ j, i ≤ j → j < seats.length → QI l sc seats j) ∧ p) := ⟨fun h => ⟨fun j _ _ => by omega, h⟩, fun h => h.2⟩
      obtain ⟨a, ea, ha⟩ := specPlayers_ev l hs
      by_cases ca : a = true
      · by_cases cs : scoreP sc
        · exact ⟨_, E2.eq (fun k m => spec_IsSeating.l0_eq k m l sc seats _) (E2.neg (by omega) (E2.bind ea (E2.pos ca (E2.bind (specScore_ev sc h1) (E2.pos (by simpa using cs) E2.ret))))), Iff.trans (by rw [decide_eq_true_eq]; exact ⟨fun h => ⟨ha.1 ca, cs, h⟩, fun h => h.2.2⟩) tr⟩
        · exact ⟨_, E2.eq (fun k m => spec_IsSeating.l0_eq k m l sc seats _) (E2.neg (by omega) (E2.bind ea (E2.pos ca (E2.bind (specScore_ev sc h1) (E2.neg (by simpa using cs) E2.ret))))), by simp only [Bool.false_eq_true, false_iff]; exact fun h => cs h.2.2.1⟩
      · exact ⟨_, E2.eq (fun k m => spec_IsSeating.l0_eq k m l sc seats _) (E2.neg (by omega) (E2.bind ea (E2.neg ca E2.ret))), by simp only [Bool.false_eq_true, false_iff]; exact fun h => ca (ha.2 h.2.1)⟩
    | succ d ih =>
      intro i hi
      have hlt : i < seats.length := by omega
      obtain ⟨x, ex, hx⟩ := ih (i + 1) (by omega)
      obtain ⟨r, er, hr⟩ := specSeat_in l sc seats hs h1 h2 i hlt x ex
      refine ⟨r, E2.eq (fun k m => spec_IsSeating.l0_eq k m l sc seats _) (E2.pos (by omega) er), hr.trans ⟨fun ⟨h3, h4⟩ => ⟨fun j hj1 hj2 => ?_, (hx.1 h4).2⟩, fun ⟨h3, h4⟩ => ⟨h3 i (Nat.le_refl _) hlt, hx.2 ⟨fun j hj1 hj2 => h3 j (by omega) hj2, h4⟩⟩⟩⟩
      by_cases hj : j = i
      · subst hj; exact h3
      · exact (hx.1 h4).1 j (by omega) hj2
  obtain ⟨r, er, hr⟩ := key seats.length 0 (by omega)
  exact ⟨r, Ev.eq (fun k => spec_IsSeating_eq k l sc seats) (Ev.loop (f := fun k m => spec_IsSeating.l0 k m l sc seats 0) er), hr.trans ⟨fun h => ⟨fun i hi => h.1 i (Nat.zero_le _) hi, h.2⟩, fun h => ⟨fun i _ hi => h.1 i hi, h.2⟩⟩⟩
theorem sits_ev (l : List DT43) (sc : List DT39) (x : Int) (i : Nat) (hs : SmP l) (h1 : sc.length ≤ 1048576) (hi : i < 1048576) : ∃ r, Ev (fun k => slices_ContainsFunc_impl_Player_180 k l x sc (i : Int)) r ∧ (r = true ↔ ∃ j, j < l.length ∧ sitsP l sc x ((i + 1 : Nat) : Int) j) := by
  have hl := hs.1
  have wi : IntKind.wrap .i64 ((i : Int) + 1) = ((i + 1 : Nat) : Int) := wrapS (by omega)
  have one : ∀ j, j < l.length → ∃ r, Ev (fun k => impl_IsSeating_1 k (rd T43 l (j : Int)) x sc (i : Int)) r ∧ (r = true ↔ sitsP l sc x ((i + 1 : Nat) : Int) j) := by
    intro j hj
    by_cases hid : Eq (α := Int) (rd T43 l (j : Int)).1 x
    · obtain ⟨c, ec, hc⟩ := implCan_ev (rd T43 l (j : Int)) sc ((i + 1 : Nat) : Int) (hs.2 j hj) h1
      refine ⟨c, Ev.eq (fun k => impl_IsSeating_1_eq k _ x sc (i : Int)) (Ev.pos hid ?_), hc.trans ⟨fun h => ⟨hid, h⟩, fun h => h.2⟩⟩
      simp only [wi]
      exact Ev.bind ec (Ev.ret.val (by simp))
    · exact ⟨false, Ev.eq (fun k => impl_IsSeating_1_eq k _ x sc (i : Int)) (Ev.neg hid Ev.ret), by simp only [Bool.false_eq_true, false_iff]; exact fun h => hid h.1⟩
  have hdec : ∀ j, Decidable (sitsP l sc x ((i + 1 : Nat) : Int) j) := fun j => Classical.propDecidable _
  have er := loop_firstR (R := fun j v => E2 (fun k m => slices_IndexFunc_impl_Player_180.l0 k m l x sc (i : Int) ((List.length l : Nat) : Int) j) v) (n := l.length) (fun j => @decide _ (hdec j)) (E2.eq (fun k m => slices_IndexFunc_impl_Player_180.l0_eq k m l x sc _ _ _) (E2.neg (by omega) E2.ret)) (fun j hj hq v e => by
    obtain ⟨c, ec, hc⟩ := one j hj
    refine E2.eq (fun k m => slices_IndexFunc_impl_Player_180.l0_eq k m l x sc _ _ _) (E2.pos (by omega) (E2.pos (by omega) (E2.pos (by omega) (E2.bind ec (E2.neg (fun h => absurd (hc.1 h) (@of_decide_eq_false _ (hdec j) hq)) ?_)))))
    simp only [wrapS (show j < 9223372036854775807 by omega)]; exact e) (fun j hj hq => by
    obtain ⟨c, ec, hc⟩ := one j hj
    exact E2.eq (fun k m => slices_IndexFunc_impl_Player_180.l0_eq k m l x sc _ _ _) (E2.pos (by omega) (E2.pos (by omega) (E2.pos (by omega) (E2.bind ec (E2.pos (hc.2 (by simpa using hq)) E2.ret))))))
  refine ⟨_, Ev.eq (fun k => slices_ContainsFunc_impl_Player_180_eq k l x sc _) (Ev.bind (Ev.eq (fun k => slices_IndexFunc_impl_Player_180_eq k l x sc _) (Ev.loop (f := fun k m => slices_IndexFunc_impl_Player_180.l0 k m l x sc (i : Int) ((List.length l : Nat) : Int) 0) er)) Ev.ret), ?_⟩
  rw [decide_eq_true_eq, firstI_nonneg]
  simp only [decide_eq_true_eq]
theorem implSeating_ev (l : List DT43) (sc : List DT39) (seats : List Int) (hs : SmP l) (h1 : sc.length ≤ 1048576) (h2 : seats.length ≤ 1048576) : ∃ r, Ev (fun k => impl_IsSeating k l sc seats) r ∧ (r = true ↔ seatingP l sc seats) := by
  obtain ⟨a, ea, ha⟩ := implPlayers_ev l hs
  by_cases ca : a = true
  · by_cases cs : scoreP sc
    · by_cases c4 : ((seats.length : Nat) : Int) ≤ 4
      · obtain ⟨r, er, hr⟩ := loop_allR (R := fun i v => E2 (fun k m => impl_IsSeating.l0 k m l seats seats ((List.length seats : Nat) : Int) i sc) v) (n := seats.length) (QI l sc seats) true (E2.eq (fun k m => impl_IsSeating.l0_eq k m l seats seats _ _ sc) (E2.neg (by omega) E2.ret)) (fun i hi hq v e => by
          obtain ⟨c, ec, hc⟩ := sits_ev l sc (rd (.int .i64) seats (i : Int)) i hs h1 (by omega)
          refine E2.eq (fun k m => impl_IsSeating.l0_eq k m l seats seats _ _ sc) (E2.pos (by omega) (E2.pos (by omega) (E2.pos (by omega) (E2.pos (by omega) (E2.pos (by omega) (E2.bind (contains_ev _ _ ?_) (E2.neg ?_ (E2.bind ec (E2.neg (by simpa using hc.2 hq.1) ?_)))))))))
          · simp; omega
          · rw [takeNat]; simpa using hq.2
          · simp only [wrapS (show i < 9223372036854775807 by omega)]; exact e) (fun i hi hq => by
          obtain ⟨c, ec, hc⟩ := sits_ev l sc (rd (.int .i64) seats (i : Int)) i hs h1 (by omega)
          refine E2.eq (fun k m => impl_IsSeating.l0_eq k m l seats seats _ _ sc) (E2.pos (by omega) (E2.pos (by omega) (E2.pos (by omega) (E2.pos (by omega) (E2.pos (by omega) (E2.bind (contains_ev _ _ ?_) ?_))))))
          · simp; omega
          rw [takeNat]
          by_cases hm : (rd (.int .i64) seats (i : Int)) ∈ seats.take i
          · exact E2.pos (by simpa using hm) E2.ret
          · exact E2.neg (by simpa using hm) (E2.bind ec (E2.pos (fun h => hq ⟨hc.1 h, hm⟩) E2.ret)))
        exact ⟨r, Ev.eq (fun k => impl_IsSeating_eq k l sc seats) (Ev.bind ea (Ev.neg (by simpa using ca) (Ev.bind (implScore_ev sc h1) (Ev.neg (by simpa using cs) (Ev.neg (by omega) (Ev.loop (f := fun k m => impl_IsSeating.l0 k m l seats seats ((List.length seats : Nat) : Int) 0 sc) er)))))), hr.trans ⟨fun h => ⟨h.1, ha.1 ca, cs, c4⟩, fun h => ⟨h.1, rfl⟩⟩⟩
      · exact ⟨false, Ev.eq (fun k => impl_IsSeating_eq k l sc seats) (Ev.bind ea (Ev.neg (by simpa using ca) (Ev.bind (implScore_ev sc h1) (Ev.neg (by simpa using cs) (Ev.pos (by omega) Ev.ret))))), by simp only [Bool.false_eq_true, false_iff]; exact fun h => c4 h.2.2.2⟩
    · exact ⟨false, Ev.eq (fun k => impl_IsSeating_eq k l sc seats) (Ev.bind ea (Ev.neg (by simpa using ca) (Ev.bind (implScore_ev sc h1) (Ev.pos (by simpa using cs) Ev.ret)))), by simp only [Bool.false_eq_true, false_iff]; exact fun h => cs h.2.2.1⟩
  · exact ⟨false, Ev.eq (fun k => impl_IsSeating_eq k l sc seats) (Ev.bind ea (Ev.pos ca Ev.ret)), by simp only [Bool.false_eq_true, false_iff]; exact fun h => ca (ha.2 h.2.1)⟩
structure Sm (o : DT32) : Prop where
  score : o.1.length ≤ 1048576
  tempo : o.2.2.1.length ≤ 2097152
  players : SmP o.2.2.2.1
  seats : o.2.2.2.2.1.length ≤ 1048576
  marks : o.2.2.2.2.2.1.length ≤ 1048576
  letters : o.2.2.2.2.2.2.1.length ≤ 1048576
theorem sm_of {o : DT32} (h : Bk T32 o) : Sm o := by
  refine ⟨h.1.1, Nat.le_trans h.2.2.1.1 (by omega), ⟨h.2.2.2.1.1, fun i hi => ?_⟩, h.2.2.2.2.1.1, h.2.2.2.2.2.1.1, h.2.2.2.2.2.2.1.1⟩
  rw [rd_at hi]
  exact (h.2.2.2.1.2 _ (List.getElem_mem hi)).2.2.2.1.1
theorem isOrchestra_both (o : DT32) (h : Sm o) : ∃ r, Ev (fun k => spec_IsOrchestra k o) r ∧ Ev (fun k => impl_IsOrchestra k o) r := by
  obtain ⟨m, em1, em2⟩ := specMeter_ev o.2.1
  obtain ⟨a, ea, ha⟩ := specMarks_ev o.2.2.2.2.2.1 h.marks
  obtain ⟨a', ea', ha'⟩ := implMarks_ev o.2.2.2.2.2.1 h.marks
  obtain rfl : a' = a := by rw [Bool.eq_iff_iff]; exact ha'.trans ha.symm
  obtain ⟨b, eb, hb⟩ := specLetters_ev o.2.2.2.2.2.2.1 h.letters
  obtain ⟨b', eb', hb'⟩ := implLetters_ev o.2.2.2.2.2.2.1 h.letters
  obtain rfl : b' = b := by rw [Bool.eq_iff_iff]; exact hb'.trans hb.symm
  obtain ⟨c, ec, hc⟩ := specSeating_ev o.2.2.2.1 o.1 o.2.2.2.2.1 h.players h.score h.seats
  obtain ⟨c', ec', hc'⟩ := implSeating_ev o.2.2.2.1 o.1 o.2.2.2.2.1 h.players h.score h.seats
  obtain rfl : c' = c := by rw [Bool.eq_iff_iff]; exact hc'.trans hc.symm
  by_cases d1 : scoreP o.1
  · by_cases d2 : m = true
    · by_cases d3 : tempoP o.2.2.1
      · by_cases d4 : a' = true
        · by_cases d5 : b' = true
          · by_cases d6 : c' = true
            · by_cases d7 : 1 ≤ (o.2.2.2.2.2.2.2.1 : Int) ∧ (o.2.2.2.2.2.2.2.1 : Int) ≤ 9999
              · exact ⟨_, Ev.eq (fun k => spec_IsOrchestra_eq k o) (Ev.bind (specScore_ev _ h.score) (Ev.pos (by simpa using d1) (Ev.bind em1 (Ev.pos d2 (Ev.bind (specTempoB_ev _ h.tempo) (Ev.pos (by simpa using d3) (Ev.bind ea (Ev.pos d4 (Ev.bind eb (Ev.pos d5 (Ev.bind ec (Ev.pos d6 (Ev.bind (l1In_ev _ _ _) (Ev.pos (by simpa using d7) (Ev.bind (l1In_ev _ _ _) Ev.ret))))))))))))))),
                  Ev.eq (fun k => impl_IsOrchestra_eq k o) (Ev.bind (implScore_ev _ h.score) (Ev.pos (by simpa using d1) (Ev.bind em2 (Ev.pos d2 (Ev.bind (implTempoB_ev _ h.tempo) (Ev.pos (by simpa using d3) (Ev.bind ea' (Ev.pos d4 (Ev.bind eb' (Ev.pos d5 (Ev.bind ec' (Ev.pos d6 (Ev.bind (inRange_ev _ _ _) (Ev.pos (by simpa using d7) (Ev.bind (inRange_ev _ _ _) Ev.ret)))))))))))))))⟩
              · exact ⟨false, Ev.eq (fun k => spec_IsOrchestra_eq k o) (Ev.bind (specScore_ev _ h.score) (Ev.pos (by simpa using d1) (Ev.bind em1 (Ev.pos d2 (Ev.bind (specTempoB_ev _ h.tempo) (Ev.pos (by simpa using d3) (Ev.bind ea (Ev.pos d4 (Ev.bind eb (Ev.pos d5 (Ev.bind ec (Ev.pos d6 (Ev.bind (l1In_ev _ _ _) (Ev.neg (by simpa using d7) Ev.ret)))))))))))))),
                  Ev.eq (fun k => impl_IsOrchestra_eq k o) (Ev.bind (implScore_ev _ h.score) (Ev.pos (by simpa using d1) (Ev.bind em2 (Ev.pos d2 (Ev.bind (implTempoB_ev _ h.tempo) (Ev.pos (by simpa using d3) (Ev.bind ea' (Ev.pos d4 (Ev.bind eb' (Ev.pos d5 (Ev.bind ec' (Ev.pos d6 (Ev.bind (inRange_ev _ _ _) (Ev.neg (by simpa using d7) Ev.ret))))))))))))))⟩
            · exact ⟨false, Ev.eq (fun k => spec_IsOrchestra_eq k o) (Ev.bind (specScore_ev _ h.score) (Ev.pos (by simpa using d1) (Ev.bind em1 (Ev.pos d2 (Ev.bind (specTempoB_ev _ h.tempo) (Ev.pos (by simpa using d3) (Ev.bind ea (Ev.pos d4 (Ev.bind eb (Ev.pos d5 (Ev.bind ec (Ev.neg d6 Ev.ret)))))))))))),
                Ev.eq (fun k => impl_IsOrchestra_eq k o) (Ev.bind (implScore_ev _ h.score) (Ev.pos (by simpa using d1) (Ev.bind em2 (Ev.pos d2 (Ev.bind (implTempoB_ev _ h.tempo) (Ev.pos (by simpa using d3) (Ev.bind ea' (Ev.pos d4 (Ev.bind eb' (Ev.pos d5 (Ev.bind ec' (Ev.neg d6 Ev.ret))))))))))))⟩
          · exact ⟨false, Ev.eq (fun k => spec_IsOrchestra_eq k o) (Ev.bind (specScore_ev _ h.score) (Ev.pos (by simpa using d1) (Ev.bind em1 (Ev.pos d2 (Ev.bind (specTempoB_ev _ h.tempo) (Ev.pos (by simpa using d3) (Ev.bind ea (Ev.pos d4 (Ev.bind eb (Ev.neg d5 Ev.ret)))))))))),
              Ev.eq (fun k => impl_IsOrchestra_eq k o) (Ev.bind (implScore_ev _ h.score) (Ev.pos (by simpa using d1) (Ev.bind em2 (Ev.pos d2 (Ev.bind (implTempoB_ev _ h.tempo) (Ev.pos (by simpa using d3) (Ev.bind ea' (Ev.pos d4 (Ev.bind eb' (Ev.neg d5 Ev.ret))))))))))⟩
        · exact ⟨false, Ev.eq (fun k => spec_IsOrchestra_eq k o) (Ev.bind (specScore_ev _ h.score) (Ev.pos (by simpa using d1) (Ev.bind em1 (Ev.pos d2 (Ev.bind (specTempoB_ev _ h.tempo) (Ev.pos (by simpa using d3) (Ev.bind ea (Ev.neg d4 Ev.ret)))))))),
            Ev.eq (fun k => impl_IsOrchestra_eq k o) (Ev.bind (implScore_ev _ h.score) (Ev.pos (by simpa using d1) (Ev.bind em2 (Ev.pos d2 (Ev.bind (implTempoB_ev _ h.tempo) (Ev.pos (by simpa using d3) (Ev.bind ea' (Ev.neg d4 Ev.ret))))))))⟩
      · exact ⟨false, Ev.eq (fun k => spec_IsOrchestra_eq k o) (Ev.bind (specScore_ev _ h.score) (Ev.pos (by simpa using d1) (Ev.bind em1 (Ev.pos d2 (Ev.bind (specTempoB_ev _ h.tempo) (Ev.neg (by simpa using d3) Ev.ret)))))),
          Ev.eq (fun k => impl_IsOrchestra_eq k o) (Ev.bind (implScore_ev _ h.score) (Ev.pos (by simpa using d1) (Ev.bind em2 (Ev.pos d2 (Ev.bind (implTempoB_ev _ h.tempo) (Ev.neg (by simpa using d3) Ev.ret))))))⟩
    · exact ⟨false, Ev.eq (fun k => spec_IsOrchestra_eq k o) (Ev.bind (specScore_ev _ h.score) (Ev.pos (by simpa using d1) (Ev.bind em1 (Ev.neg d2 Ev.ret)))),
        Ev.eq (fun k => impl_IsOrchestra_eq k o) (Ev.bind (implScore_ev _ h.score) (Ev.pos (by simpa using d1) (Ev.bind em2 (Ev.neg d2 Ev.ret))))⟩
  · exact ⟨false, Ev.eq (fun k => spec_IsOrchestra_eq k o) (Ev.bind (specScore_ev _ h.score) (Ev.neg (by simpa using d1) Ev.ret)),
      Ev.eq (fun k => impl_IsOrchestra_eq k o) (Ev.bind (implScore_ev _ h.score) (Ev.neg (by simpa using d1) Ev.ret))⟩
theorem specMeterS_ev (m : DT25) : ∃ r, Ev (fun k => spec_IsMeter k m) r := by
  by_cases c1 : 1 ≤ (m.1 : Int) ∧ (m.1 : Int) ≤ 12
  · by_cases d1 : (m.2.1 : Int) = 1
    · exact ⟨true, Ev.eq (fun k => spec_IsMeter_eq k m) (Ev.bind (l1In_ev _ _ _) (Ev.pos (by simpa using c1) (Ev.pos d1 Ev.ret)))⟩
    · by_cases d2 : (m.2.1 : Int) = 2
      · exact ⟨true, Ev.eq (fun k => spec_IsMeter_eq k m) (Ev.bind (l1In_ev _ _ _) (Ev.pos (by simpa using c1) (Ev.neg d1 (Ev.pos d2 Ev.ret))))⟩
      · by_cases d3 : (m.2.1 : Int) = 4
        · exact ⟨true, Ev.eq (fun k => spec_IsMeter_eq k m) (Ev.bind (l1In_ev _ _ _) (Ev.pos (by simpa using c1) (Ev.neg d1 (Ev.neg d2 (Ev.pos d3 Ev.ret)))))⟩
        · exact ⟨_, Ev.eq (fun k => spec_IsMeter_eq k m) (Ev.bind (l1In_ev _ _ _) (Ev.pos (by simpa using c1) (Ev.neg d1 (Ev.neg d2 (Ev.neg d3 Ev.ret)))))⟩
  · exact ⟨false, Ev.eq (fun k => spec_IsMeter_eq k m) (Ev.bind (l1In_ev _ _ _) (Ev.neg (by simpa using c1) Ev.ret))⟩
theorem specIsO_ev (o : DT32) (h : Sm o) : ∃ r, Ev (fun k => spec_IsOrchestra k o) r := by
  obtain ⟨m, em1⟩ := specMeterS_ev o.2.1
  obtain ⟨a', ea, ha⟩ := specMarks_ev o.2.2.2.2.2.1 h.marks
  obtain ⟨b', eb, hb⟩ := specLetters_ev o.2.2.2.2.2.2.1 h.letters
  obtain ⟨c', ec, hc⟩ := specSeating_ev o.2.2.2.1 o.1 o.2.2.2.2.1 h.players h.score h.seats
  by_cases d1 : scoreP o.1
  · by_cases d2 : m = true
    · by_cases d3 : tempoP o.2.2.1
      · by_cases d4 : a' = true
        · by_cases d5 : b' = true
          · by_cases d6 : c' = true
            · by_cases d7 : 1 ≤ (o.2.2.2.2.2.2.2.1 : Int) ∧ (o.2.2.2.2.2.2.2.1 : Int) ≤ 9999
              · exact ⟨_, Ev.eq (fun k => spec_IsOrchestra_eq k o) (Ev.bind (specScore_ev _ h.score) (Ev.pos (by simpa using d1) (Ev.bind em1 (Ev.pos d2 (Ev.bind (specTempoB_ev _ h.tempo) (Ev.pos (by simpa using d3) (Ev.bind ea (Ev.pos d4 (Ev.bind eb (Ev.pos d5 (Ev.bind ec (Ev.pos d6 (Ev.bind (l1In_ev _ _ _) (Ev.pos (by simpa using d7) (Ev.bind (l1In_ev _ _ _) Ev.ret)))))))))))))))⟩
              · exact ⟨false, Ev.eq (fun k => spec_IsOrchestra_eq k o) (Ev.bind (specScore_ev _ h.score) (Ev.pos (by simpa using d1) (Ev.bind em1 (Ev.pos d2 (Ev.bind (specTempoB_ev _ h.tempo) (Ev.pos (by simpa using d3) (Ev.bind ea (Ev.pos d4 (Ev.bind eb (Ev.pos d5 (Ev.bind ec (Ev.pos d6 (Ev.bind (l1In_ev _ _ _) (Ev.neg (by simpa using d7) Ev.ret))))))))))))))⟩
            · exact ⟨false, Ev.eq (fun k => spec_IsOrchestra_eq k o) (Ev.bind (specScore_ev _ h.score) (Ev.pos (by simpa using d1) (Ev.bind em1 (Ev.pos d2 (Ev.bind (specTempoB_ev _ h.tempo) (Ev.pos (by simpa using d3) (Ev.bind ea (Ev.pos d4 (Ev.bind eb (Ev.pos d5 (Ev.bind ec (Ev.neg d6 Ev.ret))))))))))))⟩
          · exact ⟨false, Ev.eq (fun k => spec_IsOrchestra_eq k o) (Ev.bind (specScore_ev _ h.score) (Ev.pos (by simpa using d1) (Ev.bind em1 (Ev.pos d2 (Ev.bind (specTempoB_ev _ h.tempo) (Ev.pos (by simpa using d3) (Ev.bind ea (Ev.pos d4 (Ev.bind eb (Ev.neg d5 Ev.ret))))))))))⟩
        · exact ⟨false, Ev.eq (fun k => spec_IsOrchestra_eq k o) (Ev.bind (specScore_ev _ h.score) (Ev.pos (by simpa using d1) (Ev.bind em1 (Ev.pos d2 (Ev.bind (specTempoB_ev _ h.tempo) (Ev.pos (by simpa using d3) (Ev.bind ea (Ev.neg d4 Ev.ret))))))))⟩
      · exact ⟨false, Ev.eq (fun k => spec_IsOrchestra_eq k o) (Ev.bind (specScore_ev _ h.score) (Ev.pos (by simpa using d1) (Ev.bind em1 (Ev.pos d2 (Ev.bind (specTempoB_ev _ h.tempo) (Ev.neg (by simpa using d3) Ev.ret))))))⟩
    · exact ⟨false, Ev.eq (fun k => spec_IsOrchestra_eq k o) (Ev.bind (specScore_ev _ h.score) (Ev.pos (by simpa using d1) (Ev.bind em1 (Ev.neg d2 Ev.ret))))⟩
  · exact ⟨false, Ev.eq (fun k => spec_IsOrchestra_eq k o) (Ev.bind (specScore_ev _ h.score) (Ev.neg (by simpa using d1) Ev.ret))⟩
def mulR (a b : DT25) : Res := if isR a.1 a.2.1 = true ∧ isR b.1 b.2.1 = true then mk (a.1 * b.1) (a.2.1 * b.2.1) else noR
theorem implMul_ev (a b : DT25) : Ev (fun k => impl_MulRatio k a b) (mulR a b) := by
  unfold mulR
  by_cases ca : isR a.1 a.2.1 = true
  · by_cases cb : isR b.1 b.2.1 = true
    · obtain ⟨a1, a2⟩ := isR_spec ca
      obtain ⟨b1, b2⟩ := isR_spec cb
      have m3 := mul_bd (x := a.2.1) (y := b.2.1) (A := 1000000) (B := 1000000) ⟨by omega, a1.2⟩ ⟨by omega, b1.2⟩
      have m4 : 1 ≤ a.2.1 * b.2.1 := Int.mul_pos (by omega) (by omega)
      have m1 : -1000000000000000000 ≤ a.1 * b.1 ∧ a.1 * b.1 ≤ 1000000000000000000 := by
        rcases Int.le_total 0 b.1 with h | h
        · have := mul_bd (x := a.1) (y := b.1) (A := 1000000000) (B := 1000000000) ⟨a2.1, a2.2⟩ ⟨h, b2.2⟩
          omega
        · have := mul_bd (x := a.1) (y := -b.1) (A := 1000000000) (B := 1000000000) ⟨a2.1, a2.2⟩ ⟨by omega, by omega⟩
          rw [Int.mul_neg] at this
          omega
      refine Ev.eq (fun k => impl_MulRatio_eq k a b) (Ev.bind (implIsRatio_ev a) (Ev.neg (by simp [ca]) (Ev.bind (implIsRatio_ev b) (Ev.neg (by simp [cb]) ?_))))
      rw [wrapI (n := a.1 * b.1) (by omega) (by omega), wrapI (n := a.2.1 * b.2.1) (by omega) (by omega)]
      refine Ev.bind (lowest_ev _ _ (by omega) (by omega) m4 (by omega)) (Ev.ret.val ?_)
      rw [if_pos ⟨ca, cb⟩]
      obtain ⟨r, o, _⟩ := mk (a.1 * b.1) (a.2.1 * b.2.1)
      simp
    · exact Ev.eq (fun k => impl_MulRatio_eq k a b) (Ev.bind (implIsRatio_ev a) (Ev.neg (by simp [ca]) (Ev.bind (implIsRatio_ev b) (Ev.pos (by simpa using cb) (Ev.ret.val (by rw [if_neg (fun h => cb h.2)]; rfl))))))
  · exact Ev.eq (fun k => impl_MulRatio_eq k a b) (Ev.bind (implIsRatio_ev a) (Ev.pos (by simpa using ca) (Ev.ret.val (by rw [if_neg (fun h => ca h.1)]; rfl))))
def lessB (a b : DT25) : Bool := if isR a.1 a.2.1 = true then (if isR b.1 b.2.1 = true then decide (((IntKind.wrap .i64 (a.1 * b.2.1)) : Int) < (IntKind.wrap .i64 (b.1 * a.2.1))) else false) else false
theorem implLess_ev (a b : DT25) : Ev (fun k => impl_LessRatio k a b) (lessB a b) := by
  unfold lessB
  by_cases ca : isR a.1 a.2.1 = true
  · rw [if_pos ca]
    by_cases cb : isR b.1 b.2.1 = true
    · rw [if_pos cb]; exact Ev.eq (fun k => impl_LessRatio_eq k a b) (Ev.bind (implIsRatio_ev a) (Ev.pos ca (Ev.bind (implIsRatio_ev b) (Ev.pos cb Ev.ret))))
    · rw [if_neg cb]; exact Ev.eq (fun k => impl_LessRatio_eq k a b) (Ev.bind (implIsRatio_ev a) (Ev.pos ca (Ev.bind (implIsRatio_ev b) (Ev.neg cb Ev.ret))))
  · rw [if_neg ca]; exact Ev.eq (fun k => impl_LessRatio_eq k a b) (Ev.bind (implIsRatio_ev a) (Ev.neg ca Ev.ret))
theorem add_comm' (a b : DT25) : addR a b = addR b a := by
  unfold addR
  by_cases c : isR a.1 a.2.1 = true ∧ isR b.1 b.2.1 = true
  · rw [if_pos c, if_pos ⟨c.2, c.1⟩, Int.add_comm, Int.mul_comm a.2.1]
  · rw [if_neg c, if_neg (fun h => c ⟨h.2, h.1⟩)]
theorem mul_noR (a : DT25) : mulR a noR.1 = noR := by
  unfold mulR noR
  rw [if_neg (by rw [isR_00]; simp)]
/-- The end of TickAt: the rest, by the rate, behind the mark. -/
def tickR (ms st : DT25) (at_ rate : Int) : Res :=
  if (addR ms (IntKind.wrap .i64 (-st.1), (st.2.1, ()))).2.1 = true then
    (if (mulR (addR ms (IntKind.wrap .i64 (-st.1), (st.2.1, ()))).1 (mk rate 5000).1).2.1 = true then
      (if (addR (mulR (addR ms (IntKind.wrap .i64 (-st.1), (st.2.1, ()))).1 (mk rate 5000).1).1 (at_, (1, ()))).2.1 = true then
        ((addR (mulR (addR ms (IntKind.wrap .i64 (-st.1), (st.2.1, ()))).1 (mk rate 5000).1).1 (at_, (1, ()))).1, (true, ())) else noR) else noR) else noR
theorem tick_fin4 (a d b c : Res) (hd : d.2.1 = false → b.2.1 = false) : E2 (fun _ _ => if ¬ (a.2.1 = true) then some ((0, (0, ())), (false, ())) else if ¬ (d.2.1 = true) then some ((0, (0, ())), (false, ())) else if ¬ (b.2.1 = true) then some ((0, (0, ())), (false, ())) else if ¬ (c.2.1 = true) then some ((0, (0, ())), (false, ())) else some (c.1, (true, ())))
    (if a.2.1 = true then (if b.2.1 = true then (if c.2.1 = true then (c.1, (true, ())) else noR) else noR) else noR : Res) := by
  by_cases h0 : d.2.1 = true
  · by_cases h1 : a.2.1 = true
    · rw [if_pos h1]
      by_cases h2 : b.2.1 = true
      · rw [if_pos h2]
        by_cases h3 : c.2.1 = true
        · rw [if_pos h3]; exact E2.neg (by simpa using h1) (E2.neg (by simpa using h0) (E2.neg (by simpa using h2) (E2.neg (by simpa using h3) E2.ret)))
        · rw [if_neg h3]; exact E2.neg (by simpa using h1) (E2.neg (by simpa using h0) (E2.neg (by simpa using h2) (E2.pos h3 E2.ret)))
      · rw [if_neg h2]; exact E2.neg (by simpa using h1) (E2.neg (by simpa using h0) (E2.pos h2 E2.ret))
    · rw [if_neg h1]; exact E2.pos h1 E2.ret
  · have hb := hd (by simpa using h0)
    by_cases h1 : a.2.1 = true
    · rw [if_pos h1, if_neg (show ¬ b.2.1 = true by rw [hb]; simp)]; exact E2.neg (by simpa using h1) (E2.pos h0 E2.ret)
    · rw [if_neg h1]; exact E2.pos h1 E2.ret
theorem mk_noR_mul {n d : Int} (x : DT25) (h : (mk n d).2.1 = false) : (mulR x (mk n d).1).2.1 = false := by
  rw [mk_no h, mul_noR]; rfl
def num8 : List Int → Int → List Int
  | [], n => [n]
  | a :: t, n => if a < n then a :: num8 t n else if a = n then a :: t else n :: a :: t
def cls (l : List Int) : List Int := (l.map fun x => modR x 12).foldl num8 []
theorem l29_ev (l : List DT43) (h : Bk (.list T43) l) : Ev (fun k => spec_l29Copy k l) l := by
  have hl : l.length ≤ 1048576 := h.1
  have key : ∀ d (i : Nat) (s : List DT43), i + d = l.length → s.length = i → s ++ l.drop i = l → E2 (fun k m => spec_l29Copy.l0 k m l (i : Int) s) l := by
    intro d
    induction d with
    | zero =>
      intro i s hi hs ht
      have hi : i = l.length := by omega
      subst hi
      have e : E2 (fun k m => spec_l29Copy.l0 k m l ((l.length : Nat) : Int) s) s := by
        refine E2.eq (fun k m => spec_l29Copy.l0_eq k m l _ s) ?_
        refine E2.neg (by omega) ?_
        exact E2.ret
      exact e.val (by rw [← ht]; simp)
    | succ d ih =>
      intro i s hi hs ht
      have hi' : i < l.length := by omega
      have hb := (bk_rd h hi').2.2.2.1.1
      refine E2.eq (fun k m => spec_l29Copy.l0_eq k m l _ s) ?_
      refine E2.pos (by omega) ?_
      refine E2.pos (by omega) ?_
      refine E2.pos (by omega) ?_
      refine E2.pos (by simp only [List.length_nil]; omega) ?_
      refine E2.pos (by simp only [List.length_cons, List.length_nil]; omega) ?_
      simp only [wrapS (show i < 9223372036854775807 by omega)]
      refine ih (i + 1) _ (by omega) (by simp; omega) ?_
      rw [List.append_assoc]
      refine Eq.trans ?_ ht
      congr 1
      exact (drop_rd (t := T43) hi').symm
  exact Ev.eq (fun k => spec_l29Copy_eq k l) (Ev.loop (f := fun k m => spec_l29Copy.l0 k m l 0 []) (key l.length 0 [] (by omega) rfl (by simp)))
theorem l33_ev (o : DT32) (h : Bk T32 o) : Ev (fun k => spec_l33Copy k o) o := by
  have h1 := h.1.1
  have h2 := h.2.2.1.1
  have h4 := h.2.2.2.2.1.1
  have h5 := h.2.2.2.2.2.1.1
  have h6 := h.2.2.2.2.2.2.1.1
  refine Ev.eq (fun k => spec_l33Copy_eq k o) ?_
  refine Ev.pos (by simp only [List.length_nil]; omega) ?_
  refine Ev.pos (by simp only [List.length_nil]; omega) ?_
  refine Ev.bind (l29_ev o.2.2.2.1 h.2.2.2.1) ?_
  refine Ev.pos (by simp only [List.length_nil]; omega) ?_
  refine Ev.pos (by simp only [List.length_nil]; omega) ?_
  refine Ev.pos (by simp only [List.length_nil]; omega) ?_
  exact Ev.ret
def setT (l : List DT25) (x : DT25) (p : Nat) : List DT25 := if p < l.length ∧ ((rd T25 l (p : Int)).1 : Int) = x.1 then l.take p ++ [x] ++ l.drop (p + 1) else l.take p ++ [x] ++ l.drop p
theorem setT_len (l : List DT25) (x : DT25) (p : Nat) (hp : p ≤ l.length) : (setT l x p).length ≤ l.length + 1 := by
  unfold setT
  split
  · simp; omega
  · simp; omega
theorem rd_dropT {l : List DT25} {i : Nat} (hi : i < l.length) : rd T25 (l.drop i) (0 : Int) = rd T25 l (i : Int) := by
  show (l.drop i).getD (Int.toNat 0) _ = l.getD (Int.toNat (i : Int)) _
  simp [List.getD]
theorem specT_loop (o : DT32) (x : DT25) (v : DT32 × (Bool × Unit)) (hl : o.2.2.1.length ≤ 1048576) (p : Nat) (hp : p ≤ o.2.2.1.length) (h1 : ∀ j, j < p → ((rd T25 o.2.2.1 (j : Int)).1 : Int) < x.1) (h2 : p < o.2.2.1.length → ¬ ((rd T25 o.2.2.1 (p : Int)).1 : Int) < x.1)
    (hv : Ev (fun k => spec_l34Done k o (o.1, (o.2.1, (setT o.2.2.1 x p, o.2.2.2))) true) v) : ∀ d i : Nat, i + d = p → E2 (fun k m => spec_StepTempo.l0 k m (i : Int) o.1 o.2.1.1 o.2.1.2.1 o.2.2.1 o.2.2.2.1 o.2.2.2.2.1 o.2.2.2.2.2.1 o.2.2.2.2.2.2.1 o.2.2.2.2.2.2.2.1 o.2.2.2.2.2.2.2.2.1 x.1 x.2.1 0 0 0 0 o.2.1.1 o.2.1.2.1 o.2.2.2.2.2.2.2.1 o.2.2.2.2.2.2.2.2.1 o.1 o.2.2.1 o.2.2.2.1 o.2.2.2.2.1 o.2.2.2.2.2.1 o.2.2.2.2.2.2.1) v := by
  intro d
  induction d with
  | zero =>
    intro i hi
    have hi : i = p := by omega
    subst hi
    have hrest : List.take ((Int.toNat ((List.length o.2.2.1 : Nat) : Int)) - (Int.toNat (i : Int))) (List.drop (Int.toNat (i : Int)) o.2.2.1) = o.2.2.1.drop i := by
      simp only [Int.toNat_natCast]
      rw [List.take_of_length_le (by simp)]
    have htake : List.take ((Int.toNat (i : Int)) - (Int.toNat 0)) (List.drop (Int.toNat 0) o.2.2.1) = o.2.2.1.take i := by simp
    have hrest1 : List.take ((Int.toNat ((List.length (o.2.2.1.drop i) : Nat) : Int)) - (Int.toNat 1)) (List.drop (Int.toNat 1) (o.2.2.1.drop i)) = o.2.2.1.drop (i + 1) := by
      have : Int.toNat 1 = 1 := rfl
      rw [this, Int.toNat_natCast, List.drop_drop, List.take_of_length_le (by simp; omega)]
    have hdl : (o.2.2.1.drop i).length = o.2.2.1.length - i := by simp
    have htl : (o.2.2.1.take i).length = i := by simp; omega
    have hx : (x.1, (x.2.1, ())) = x := rfl
    have ho : (o.1, ((o.2.1.1, (o.2.1.2.1, ())), (o.2.2.1, (o.2.2.2.1, (o.2.2.2.2.1, (o.2.2.2.2.2.1, (o.2.2.2.2.2.2.1, (o.2.2.2.2.2.2.2.1, (o.2.2.2.2.2.2.2.2.1, ()))))))))) = o := rfl
    have fin : ∀ l : List DT25, l = setT o.2.2.1 x i → Ev (fun k => spec_l34Done k o (o.1, ((o.2.1.1, (o.2.1.2.1, ())), (l, (o.2.2.2.1, (o.2.2.2.2.1, (o.2.2.2.2.2.1, (o.2.2.2.2.2.2.1, (o.2.2.2.2.2.2.2.1, (o.2.2.2.2.2.2.2.2.1, ()))))))))) true) v := fun l h => by subst h; exact hv
    refine E2.eq (fun k m => spec_StepTempo.l0_eq k m ..) ?_
    simp only [hrest, htake, hrest1, hx, ho]
    by_cases c : i < o.2.2.1.length
    · refine E2.pos (by omega) (E2.pos (by omega) (E2.pos (by omega) (E2.neg (h2 c) ?_)))
      refine E2.pos (by omega) (E2.pos (by omega) (E2.pos (by rw [hdl]; omega) (E2.pos (by omega) (E2.pos (by rw [hdl]; omega) ?_))))
      simp only [rd_dropT c]
      by_cases q : ((rd T25 o.2.2.1 (i : Int)).1 : Int) = x.1
      · refine E2.pos q (E2.pos (by omega) (E2.pos (by rw [hdl]; omega) (E2.pos (by omega) (E2.pos (by omega) (E2.pos (by simp only [List.length_nil, htl]; omega) (E2.pos (by simp only [List.length_append, List.length_nil, List.length_singleton, htl]; omega) (E2.pos (by simp only [List.length_append, List.length_nil, List.length_singleton, List.length_drop, htl]; omega) ?_)))))))
        exact E2.bind (fin _ (by unfold setT; rw [if_pos ⟨c, q⟩]; rfl)) (E2.ret.val (by simp))
      · refine E2.neg q (E2.pos (by omega) (E2.pos (by omega) (E2.pos (by simp only [List.length_nil, htl]; omega) (E2.pos (by simp only [List.length_append, List.length_nil, List.length_singleton, htl]; omega) (E2.pos (by simp only [List.length_append, List.length_nil, List.length_singleton, List.length_drop, htl]; omega) ?_)))))
        exact E2.bind (fin _ (by unfold setT; rw [if_neg (fun h => q h.2)]; rfl)) (E2.ret.val (by simp))
    · refine E2.neg (by omega) (E2.pos (by omega) (E2.pos (by omega) (E2.neg (by rw [hdl]; omega) ?_)))
      refine E2.pos (by omega) (E2.pos (by omega) (E2.pos (by simp only [List.length_nil, htl]; omega) (E2.pos (by simp only [List.length_append, List.length_nil, List.length_singleton, htl]; omega) (E2.pos (by simp only [List.length_append, List.length_nil, List.length_singleton, List.length_drop, htl]; omega) ?_))))
      exact E2.bind (fin _ (by unfold setT; rw [if_neg (fun h => c h.1)]; rfl)) (E2.ret.val (by simp))
  | succ d ih =>
    intro i hi
    refine E2.eq (fun k m => spec_StepTempo.l0_eq k m ..) (E2.pos (by omega) (E2.pos (by omega) (E2.pos (by omega) (E2.pos (h1 i (by omega)) ?_))))
    simp only [wrapS (show i < 9223372036854775807 by omega)]
    exact ih (i + 1) (by omega)
theorem Ev.uniq {α : Type} {f : Nat → Option α} {a b : α} (h : Ev f a) (k : Ev f b) : a = b := by
  obtain ⟨K, h⟩ := h
  obtain ⟨M, k⟩ := k
  have h1 := h (max K M) (by omega)
  rw [k (max K M) (by omega)] at h1
  exact (Option.some.inj h1).symm
theorem first_idx (Q : Nat → Prop) : ∀ n, ∃ p, p ≤ n ∧ (∀ j, j < p → Q j) ∧ (p < n → ¬ Q p)
  | 0 => ⟨0, Nat.le_refl _, fun j hj => by omega, fun h => by omega⟩
  | n + 1 => by
    obtain ⟨p, h1, h2, h3⟩ := first_idx Q n
    by_cases hp : p < n
    · exact ⟨p, by omega, h2, fun _ => h3 hp⟩
    · have : p = n := by omega
      subst this
      by_cases hq : Q p
      · exact ⟨p + 1, Nat.le_refl _, fun j hj => by
          by_cases h : j = p
          · subst h; exact hq
          · exact h2 j (by omega), fun h => by omega⟩
      · exact ⟨p, by omega, h2, fun _ => hq⟩
theorem min_ev (x y : Int) : Ev (fun k => spec_Min k x y) (if y < x then y else x) := by
  refine Ev.eq (fun k => spec_Min_eq k x y) ?_
  by_cases c : y < x
  · exact (Ev.pos c Ev.ret).val (by rw [if_pos c])
  · exact (Ev.neg c Ev.ret).val (by rw [if_neg c])
def eqK (a b : DT45) : Prop := (a.1 : Int) = b.1 ∧ (a.2.1 : Int) = b.2.1
instance (a b : DT45) : Decidable (eqK a b) := by unfold eqK; infer_instance
def nwM (a b : DT45) : Prop := (b.2.2.2.1 : Int) < a.2.2.2.1 ∨ (b.2.2.2.1 : Int) = a.2.2.2.1 ∧ ((b.2.2.2.2.1 : Int) < a.2.2.2.2.1 ∨ (b.2.2.2.2.1 : Int) = a.2.2.2.2.1 ∧ (b.2.2.1 : Int) < a.2.2.1)
instance (a b : DT45) : Decidable (nwM a b) := by unfold nwM; infer_instance
theorem newerS_ev (a b : DT45) : Ev (fun k => spec_IsNewer k a b) (decide (nwM a b)) := by
  refine Ev.eq (fun k => spec_IsNewer_eq k a b) ?_
  unfold nwM
  by_cases c1 : (a.2.2.2.1 : Int) = b.2.2.2.1
  · refine Ev.neg (by omega) ?_
    by_cases c2 : (a.2.2.2.2.1 : Int) = b.2.2.2.2.1
    · exact Ev.neg (by omega) (Ev.ret.val (by congr 1; exact propext ⟨fun h => .inr ⟨c1.symm, .inr ⟨c2.symm, h⟩⟩, fun h => by omega⟩))
    · exact Ev.pos (by omega) (Ev.ret.val (by congr 1; exact propext ⟨fun h => .inr ⟨c1.symm, .inl h⟩, fun h => by omega⟩))
  · exact Ev.pos (by omega) (Ev.ret.val (by congr 1; exact propext ⟨fun h => .inl h, fun h => by omega⟩))
def setV (l : List DT45) (x : DT45) (p : Nat) : List DT45 :=
  if p < l.length ∧ eqK (rd T45 l (p : Int)) x then (if nwM x (rd T45 l (p : Int)) then l.take p ++ [x] ++ l.drop (p + 1) else l) else l.take p ++ [x] ++ l.drop p
theorem setV_len (l : List DT45) (x : DT45) (p : Nat) (hp : p ≤ l.length) : (setV l x p).length ≤ l.length + 1 := by
  unfold setV
  split
  · split
    · simp; omega
    · omega
  · simp; omega
theorem rd_drop0 {l : List DT45} {i : Nat} (hi : i < l.length) : rd T45 (l.drop i) (0 : Int) = rd T45 l (i : Int) := by
  show (l.drop i).getD (Int.toNat 0) _ = l.getD (Int.toNat (i : Int)) _
  simp [List.getD]
theorem setS_ev (l : List DT45) (x : DT45) (hl : l.length ≤ 1048576) (p : Nat) (hp : p ≤ l.length) (h1 : ∀ j, j < p → befM (rd T45 l (j : Int)) x) (h2 : p < l.length → ¬ befM (rd T45 l (p : Int)) x) : Ev (fun k => spec_l25Set k l x) (setV l x p) := by
  have key : ∀ d i : Nat, i + d = p → E2 (fun k m => spec_l25Set.l0 k m l (i : Int) x.1 x.2.1 x.2.2.1 x.2.2.2.1 x.2.2.2.2.1) (setV l x p) := by
    intro d
    induction d with
    | zero =>
      intro i hi
      have hi : i = p := by omega
      subst hi
      have hrest : List.take ((Int.toNat ((List.length l : Nat) : Int)) - (Int.toNat (i : Int))) (List.drop (Int.toNat (i : Int)) l) = l.drop i := by
        simp only [Int.toNat_natCast]
        rw [List.take_of_length_le (by simp)]
      have htake : List.take ((Int.toNat (i : Int)) - (Int.toNat 0)) (List.drop (Int.toNat 0) l) = l.take i := by simp
      have hrest1 : List.take ((Int.toNat ((List.length (l.drop i) : Nat) : Int)) - (Int.toNat 1)) (List.drop (Int.toNat 1) (l.drop i)) = l.drop (i + 1) := by
        have : Int.toNat 1 = 1 := rfl
        rw [this, Int.toNat_natCast, List.drop_drop, List.take_of_length_le (by simp; omega)]
      have hdl : (l.drop i).length = l.length - i := by simp
      have htl : (l.take i).length = i := by simp; omega
      have hx : (x.1, (x.2.1, (x.2.2.1, (x.2.2.2.1, (x.2.2.2.2.1, ()))))) = x := rfl
      refine E2.eq (fun k m => spec_l25Set.l0_eq k m l _ _ _ _ _ _) ?_
      simp only [hrest, htake, hrest1, hx]
      by_cases c : i < l.length
      · refine E2.pos (by omega) (E2.pos (by omega) (E2.pos (by omega) (E2.bind (beforeM_ev _ _) (E2.neg (by simpa using h2 c) ?_))))
        refine E2.pos (by omega) (E2.pos (by omega) (E2.pos (by rw [hdl]; omega) (E2.pos (by omega) (E2.pos (by rw [hdl]; omega) ?_))))
        simp only [rd_drop0 c]
        have last : ¬ (i < l.length ∧ eqK (rd T45 l (i : Int)) x) → setV l x i = ([] ++ l.take i) ++ [x] ++ l.drop i := fun h => by unfold setV; rw [if_neg h]; rfl
        by_cases q1 : ((rd T45 l (i : Int)).1 : Int) = x.1
        · refine E2.pos q1 (E2.pos (by omega) (E2.pos (by rw [hdl]; omega) ?_))
          by_cases q2 : ((rd T45 l (i : Int)).2.1 : Int) = x.2.1
          · refine E2.pos q2 (E2.pos (by omega) (E2.pos (by rw [hdl]; omega) (E2.bind (newerS_ev _ _) ?_)))
            have hk : i < l.length ∧ eqK (rd T45 l (i : Int)) x := ⟨c, q1, q2⟩
            by_cases q3 : nwM x (rd T45 l (i : Int))
            · refine E2.neg (by simpa using q3) (E2.pos (by omega) (E2.pos (by rw [hdl]; omega) (E2.pos (by omega) (E2.pos (by omega) (E2.pos (by simp only [List.length_nil, htl]; omega) (E2.pos (by simp only [List.length_append, List.length_nil, List.length_singleton, htl]; omega) (E2.pos (by simp only [List.length_append, List.length_nil, List.length_singleton, List.length_drop, htl]; omega) ?_)))))))
              exact E2.ret.val (by unfold setV; rw [if_pos hk, if_pos q3]; rfl)
            · exact E2.pos (by simpa using q3) (E2.pos (by simp only [List.length_nil]; omega) (E2.ret.val (by unfold setV; rw [if_pos hk, if_neg q3]; rfl)))
          · refine E2.neg q2 (E2.pos (by omega) (E2.pos (by omega) (E2.pos (by simp only [List.length_nil, htl]; omega) (E2.pos (by simp only [List.length_append, List.length_nil, List.length_singleton, htl]; omega) (E2.pos (by simp only [List.length_append, List.length_nil, List.length_singleton, List.length_drop, htl]; omega) ?_)))))
            exact E2.ret.val (last fun h => q2 h.2.2).symm
        · refine E2.neg q1 (E2.pos (by omega) (E2.pos (by omega) (E2.pos (by simp only [List.length_nil, htl]; omega) (E2.pos (by simp only [List.length_append, List.length_nil, List.length_singleton, htl]; omega) (E2.pos (by simp only [List.length_append, List.length_nil, List.length_singleton, List.length_drop, htl]; omega) ?_)))))
          exact E2.ret.val (last fun h => q1 h.2.1).symm
      · refine E2.neg (by omega) (E2.pos (by omega) (E2.pos (by omega) (E2.neg (by rw [hdl]; omega) ?_)))
        refine E2.pos (by omega) (E2.pos (by omega) (E2.pos (by simp only [List.length_nil, htl]; omega) (E2.pos (by simp only [List.length_append, List.length_nil, List.length_singleton, htl]; omega) (E2.pos (by simp only [List.length_append, List.length_nil, List.length_singleton, List.length_drop, htl]; omega) ?_))))
        exact E2.ret.val (by unfold setV; rw [if_neg (fun h => c h.1)]; rfl)
    | succ d ih =>
      intro i hi
      refine E2.eq (fun k m => spec_l25Set.l0_eq k m l _ _ _ _ _ _) (E2.pos (by omega) (E2.pos (by omega) (E2.pos (by omega) (E2.bind (beforeM_ev _ _) (E2.pos (by simpa using h1 i (by omega)) ?_)))))
      simp only [wrapS (show i < 9223372036854775807 by omega)]
      exact ih (i + 1) (by omega)
  exact Ev.eq (fun k => spec_l25Set_eq k l x) (Ev.loop (f := fun k m => spec_l25Set.l0 k m l 0 x.1 x.2.1 x.2.2.1 x.2.2.2.1 x.2.2.2.2.1) (key p 0 (by omega)))
theorem mk_eta (a b : DT45) : ((a.1 : Int) = b.1 ∧ ((a.2.1 : Int) = b.2.1 ∧ ((a.2.2.1 : Int) = b.2.2.1 ∧ ((a.2.2.2.1 : Int) = b.2.2.2.1 ∧ (a.2.2.2.2.1 : Int) = b.2.2.2.2.1)))) ↔ a = b := by
  obtain ⟨a1, a2, a3, a4, a5, ⟨⟩⟩ := a
  obtain ⟨b1, b2, b3, b4, b5, ⟨⟩⟩ := b
  constructor
  · rintro ⟨h1, h2, h3, h4, h5⟩
    simp only at h1 h2 h3 h4 h5
    rw [h1, h2, h3, h4, h5]
  · intro h
    injection h with h1 h
    injection h with h2 h
    injection h with h3 h
    injection h with h4 h
    injection h with h5 h
    exact ⟨h1, h2, h3, h4, h5⟩
theorem eq_rd {a b : List DT45} (h : a.length = b.length) : (∀ i, i < a.length → rd T45 a (i : Int) = rd T45 b (i : Int)) ↔ a = b := by
  constructor
  · intro H
    refine List.ext_getElem h fun i h1 h2 => ?_
    have := H i h1
    rwa [rd_at (t := T45) h1, rd_at (t := T45) h2] at this
  · rintro rfl i _
    rfl
theorem eqMS_ev (a b : List DT45) (ha : a.length ≤ 1048576) : ∃ r, Ev (fun k => spec_EqualMarks k a b) r ∧ (r = true ↔ a = b) := by
  by_cases c : a.length = b.length
  · obtain ⟨r, er, hr⟩ := loop_allR (R := fun i v => E2 (fun k m => spec_EqualMarks.l0 k m a b i) v) (n := a.length) (fun i => rd T45 a (i : Int) = rd T45 b (i : Int)) true (E2.eq (fun k m => spec_EqualMarks.l0_eq k m a b _) (E2.neg (by omega) E2.ret)) (fun i hi hq v e => by
      refine E2.eq (fun k m => spec_EqualMarks.l0_eq k m a b _) (E2.pos (by omega) (E2.pos (by omega) (E2.pos (by omega) (E2.pos (by omega) (E2.pos (by omega) (E2.neg (fun h => h ((mk_eta _ _).2 hq)) ?_))))))
      simp only [wrapS (show i < 9223372036854775807 by omega)]
      exact e) (fun i hi hq => E2.eq (fun k m => spec_EqualMarks.l0_eq k m a b _) (E2.pos (by omega) (E2.pos (by omega) (E2.pos (by omega) (E2.pos (by omega) (E2.pos (by omega) (E2.pos (fun h => hq ((mk_eta _ _).1 h)) E2.ret)))))))
    refine ⟨r, Ev.eq (fun k => spec_EqualMarks_eq k a b) (Ev.neg (by omega) (Ev.loop (f := fun k m => spec_EqualMarks.l0 k m a b 0) er)), hr.trans ⟨fun h => (eq_rd c).1 h.1, fun h => ⟨(eq_rd c).2 h, rfl⟩⟩⟩
  · exact ⟨false, Ev.eq (fun k => spec_EqualMarks_eq k a b) (Ev.pos (by omega) Ev.ret), by simp only [Bool.false_eq_true, false_iff]; exact fun h => c (h ▸ rfl)⟩
/-- Sorted, as far as the order tells. -/
def wkE (l : List DT39) : Prop := l.Pairwise fun a b => ¬ bef b a
theorem putW_ev (l : List DT39) (e : DT39) (hl : l.length ≤ 33554432) : ∃ v : List DT39, v.Perm (e :: l) ∧ (wkE l → wkE v) ∧ Ev (fun k => spec_l8Put k l e) v := by
  obtain ⟨p, hp, h1, h2⟩ := first_idx (fun i => bef (rd T39 l (i : Int)) e) l.length
  refine ⟨l.take p ++ [e] ++ l.drop p, ?_, fun hw => ?_, ?_⟩
  · have : (l.take p ++ [e] ++ l.drop p).Perm (e :: (l.take p ++ l.drop p)) := by
      rw [List.append_assoc]
      exact List.perm_middle
    rwa [List.take_append_drop] at this
  · have hd : ∀ b ∈ l.drop p, ¬ bef b e := fun b hb hbe => by
      obtain ⟨j, hj, rfl⟩ := List.getElem_of_mem hb
      rw [List.length_drop] at hj
      have hpl : p < l.length := by omega
      have hnp := h2 hpl
      rw [List.getElem_drop] at hbe
      rcases Nat.eq_zero_or_pos j with h0 | h0
      · subst h0
        rw [rd_at hpl] at hnp
        exact hnp hbe
      · have := List.pairwise_iff_getElem.1 hw p (p + j) hpl (by omega) (by omega)
        rw [rd_at hpl] at hnp
        unfold bef at *
        omega
    have ht : ∀ a ∈ l.take p, bef a e := fun a ha => by
      obtain ⟨j, hj, rfl⟩ := List.getElem_of_mem ha
      rw [List.length_take] at hj
      have := h1 j (by omega)
      rw [rd_at (by omega)] at this
      rw [List.getElem_take]
      exact this
    unfold wkE at *
    rw [List.append_assoc, List.pairwise_append]
    have hs : (l.take p ++ l.drop p).Pairwise fun a b => ¬ bef b a := by rw [List.take_append_drop]; exact hw
    rw [List.pairwise_append] at hs
    refine ⟨hs.1, ?_, fun a ha b hb => ?_⟩
    · rw [List.singleton_append, List.pairwise_cons]
      exact ⟨fun b hb => hd b hb, hs.2.1⟩
    · rw [List.singleton_append, List.mem_cons] at hb
      rcases hb with rfl | hb
      · have := ht a ha
        unfold bef at *
        omega
      · exact hs.2.2 a ha b hb
  · have key : ∀ d i : Nat, i + d = p → E2 (fun k m => spec_l8Put.l0 k m l (i : Int) e.1 e.2.1 e.2.2.1 e.2.2.2.1) (l.take p ++ [e] ++ l.drop p) := by
      intro d
      induction d with
      | zero =>
        intro i hi
        have hi : i = p := by omega
        subst hi
        have hfin : ((([] : List DT39) ++ (List.take ((Int.toNat (i : Int)) - (Int.toNat 0)) (List.drop (Int.toNat 0) l))) ++ ([(e.1, (e.2.1, (e.2.2.1, (e.2.2.2.1, ()))))] : (List DT39))) ++ (List.take ((Int.toNat ((List.length l : Nat) : Int)) - (Int.toNat (i : Int))) (List.drop (Int.toNat (i : Int)) l)) = l.take i ++ [e] ++ l.drop i := by
          simp only [Int.toNat_natCast, Int.toNat_zero, Nat.sub_zero, List.drop_zero, List.nil_append]
          rw [List.take_of_length_le (l := l.drop i) (by simp)]
        have hsz : (List.take ((Int.toNat (i : Int)) - (Int.toNat 0)) (List.drop (Int.toNat 0) l)).length ≤ l.length := by simp; omega
        have hsz2 : (List.take ((Int.toNat ((List.length l : Nat) : Int)) - (Int.toNat (i : Int))) (List.drop (Int.toNat (i : Int)) l)).length ≤ l.length := by simp
        refine E2.eq (fun k m => spec_l8Put.l0_eq k m l _ _ _ _ _) ?_
        by_cases c : i < l.length
        · refine E2.pos (by omega) (E2.pos (by omega) (E2.pos (by omega) (E2.bind (before_ev _ _) (E2.neg (by simpa using h2 c) ?_))))
          refine E2.pos (by omega) (E2.pos (by omega) (E2.pos (by rw [List.length_nil]; omega) (E2.pos (by simp only [List.length_append, List.length_nil, List.length_singleton]; omega) (E2.pos (by omega) (E2.pos (by omega) (E2.pos (by simp only [List.length_append, List.length_nil, List.length_singleton]; omega) ?_))))))
          exact E2.ret.val hfin
        · refine E2.neg (by omega) ?_
          refine E2.pos (by omega) (E2.pos (by omega) (E2.pos (by rw [List.length_nil]; omega) (E2.pos (by simp only [List.length_append, List.length_nil, List.length_singleton]; omega) (E2.pos (by omega) (E2.pos (by omega) (E2.pos (by simp only [List.length_append, List.length_nil, List.length_singleton]; omega) ?_))))))
          exact E2.ret.val hfin
      | succ d ih =>
        intro i hi
        refine E2.eq (fun k m => spec_l8Put.l0_eq k m l _ _ _ _ _) (E2.pos (by omega) (E2.pos (by omega) (E2.pos (by omega) (E2.bind (before_ev _ _) (E2.pos (by simpa using h1 i (by omega)) ?_)))))
        simp only [wrapS (show i < 9223372036854775807 by omega)]
        exact ih (i + 1) (by omega)
    exact Ev.eq (fun k => spec_l8Put_eq k l e) (Ev.loop (f := fun k m => spec_l8Put.l0 k m l 0 e.1 e.2.1 e.2.2.1 e.2.2.2.1) (key p 0 (by omega)))
def newO (m : DT25) (ps : List DT43) : DT32 := ([], (m, ([(0, (100, ()))], (ps, ([], ([], ([], (1, (0, ())))))))))
def zeroO : DT32 := ([], ((0, (0, ())), ([], ([], ([], ([], ([], (0, (0, ())))))))))
theorem newO_bk (m : DT25) (ps : List DT43) (h : Bk (.list T43) ps) : Bk T32 (newO m ps) :=
  ⟨⟨by simp [newO], by simp [newO]⟩, bk_flat _ rfl, ⟨by simp [newO], fun x _ => bk_flat x rfl⟩, h, ⟨by simp [newO], by simp [newO]⟩, ⟨by simp [newO], by simp [newO]⟩, ⟨by simp [newO], by simp [newO]⟩, trivial, trivial, trivial⟩
/-- A cursor over bytes. -/
def CurOk (c : DT199) : Prop := c.1.length ≤ 1048576 ∧ (0 : Int) ≤ c.2.1 ∧ (c.2.1 : Int) ≤ ((c.1.length : Nat) : Int)
/-- What is drawn. -/
def Dr {α : Type} (f : Nat → DT199 → Option (α × DT199)) (P : α → Prop) : Prop := ∀ c, CurOk c → ∃ x c', CurOk c' ∧ P x ∧ Ev (fun k => f k c) (x, c')
theorem and255 (a : BitVec (IntKind.bits .i64)) : 0 ≤ IntKind.wrap .i64 (((a &&& BitVec.ofInt (IntKind.bits .i64) 255).toNat : Nat)) ∧ IntKind.wrap .i64 (((a &&& BitVec.ofInt (IntKind.bits .i64) 255).toNat : Nat)) ≤ 255 := by
  have h : (a &&& BitVec.ofInt (IntKind.bits .i64) 255).toNat ≤ 255 := by
    rw [BitVec.toNat_and]
    exact Nat.le_trans Nat.and_le_right (by decide)
  rw [IntKind.wrap_i64]
  omega
theorem l1Byte_dr : Dr (fun k c => spec_l1Byte k c) (fun x => 0 ≤ x ∧ x ≤ 255) := by
  intro c h
  obtain ⟨h1, h2, h3⟩ := h
  by_cases q : (c.2.1 : Int) < ((List.length c.1 : Nat) : Int)
  · refine ⟨_, (c.1, (IntKind.wrap .i64 (c.2.1 + 1), (IntKind.wrap .i64 ((IntKind.wrap .i64 (c.2.2.1 * 6364136223846793005)) + 1442695040888963407), ()))), ⟨h1, ?_, ?_⟩, and255 _, Ev.eq (fun k => spec_l1Byte_eq k c) (Ev.neg (by omega) (Ev.neg (by omega) (Ev.pos q (Ev.pos h2 (Ev.pos q Ev.ret)))))⟩
    · show (0 : Int) ≤ IntKind.wrap .i64 (c.2.1 + 1)
      rw [wrapI (by omega) (by omega)]
      omega
    · show IntKind.wrap .i64 (c.2.1 + 1) ≤ ((List.length c.1 : Nat) : Int)
      rw [wrapI (by omega) (by omega)]
      omega
  · exact ⟨_, (c.1, (c.2.1, (IntKind.wrap .i64 ((IntKind.wrap .i64 (c.2.2.1 * 6364136223846793005)) + 1442695040888963407), ()))), ⟨h1, h2, h3⟩, and255 _, Ev.eq (fun k => spec_l1Byte_eq k c) (Ev.neg (by omega) (Ev.neg (by omega) (Ev.neg q Ev.ret)))⟩
theorem l1Below_dr (n : Int) : Dr (fun k c => spec_l1Below k c n) (fun x => 0 ≤ x ∧ (0 < n → x < n) ∧ (n ≤ 0 → x = 0)) := by
  intro c h
  by_cases q : n ≤ 0
  · exact ⟨0, c, h, ⟨by omega, fun h => by omega, fun _ => rfl⟩, Ev.eq (fun k => spec_l1Below_eq k c n) (Ev.pos q Ev.ret)⟩
  · obtain ⟨x, c1, h1, hx, e1⟩ := l1Byte_dr c h
    have hm : ∀ y : Int, 0 ≤ y → 0 ≤ Int.tmod y n ∧ (0 < n → Int.tmod y n < n) ∧ (n ≤ 0 → Int.tmod y n = 0) := fun y hy => ⟨Int.tmod_nonneg _ hy, fun hn => Int.tmod_lt_of_pos _ hn, fun h => absurd h q⟩
    by_cases q2 : n ≤ 256
    · exact ⟨Int.tmod x n, c1, h1, hm x hx.1, Ev.eq (fun k => spec_l1Below_eq k c n) (Ev.neg q (Ev.pos q2 (Ev.bind e1 (Ev.neg (by omega) Ev.ret))))⟩
    · obtain ⟨y, c2, h2, hy, e2⟩ := l1Byte_dr c1 h1
      obtain ⟨z, c3, h3, hz, e3⟩ := l1Byte_dr c2 h2
      refine ⟨_, c3, h3, hm _ ?_, Ev.eq (fun k => spec_l1Below_eq k c n) (Ev.neg q (Ev.neg q2 (Ev.bind e1 (Ev.bind e2 (Ev.bind e3 (Ev.neg (by omega) Ev.ret))))))⟩
      rw [wrapI (n := x * 65536) (by omega) (by omega), wrapI (n := y * 256) (by omega) (by omega), wrapI (n := x * 65536 + y * 256) (by omega) (by omega), wrapI (by omega) (by omega)]
      omega
theorem l1Once_dr (n : Int) : Dr (fun k c => spec_l1Once k c n) (fun _ => True) := by
  intro c h
  obtain ⟨x, c1, h1, _, e1⟩ := l1Below_dr n c h
  exact ⟨_, c1, h1, trivial, Ev.eq (fun k => spec_l1Once_eq k c n) (Ev.bind e1 Ev.ret)⟩
theorem l1Int_dr (l : List Int) (hl : 0 < l.length) : Dr (fun k c => spec_l1Int k c l) (fun _ => True) := by
  intro c h
  obtain ⟨x, c1, h1, ⟨h2, h3, _⟩, e1⟩ := l1Below_dr ((List.length l : Nat) : Int) c h
  exact ⟨_, c1, h1, trivial, Ev.eq (fun k => spec_l1Int_eq k c l) (Ev.bind e1 (Ev.pos h2 (Ev.pos (h3 (by omega)) Ev.ret)))⟩
theorem l8Event_dr : Dr (fun k c => spec_l8Event k c) (fun _ => True) := by
  intro c h
  obtain ⟨x1, c1, h1, _, e1⟩ := l1Below_dr 20 c h
  obtain ⟨x2, c2, h2, _, e2⟩ := l1Below_dr 10 c1 h1
  obtain ⟨x3, c3, h3, _, e3⟩ := l1Below_dr 18 c2 h2
  obtain ⟨x4, c4, h4, _, e4⟩ := l1Below_dr 3 c3 h3
  exact ⟨_, c4, h4, trivial, Ev.eq (fun k => spec_l8Event_eq k c) (Ev.bind e1 (Ev.bind e2 (Ev.bind e3 (Ev.bind e4 Ev.ret))))⟩
theorem putS_ev (l : List DT39) (e : DT39) (hl : l.length ≤ 1048576) : ∃ v : List DT39 × (Bool × Unit), v.1.length ≤ l.length + 1 ∧ Ev (fun k => spec_PutEvent k l e) v := by
  obtain ⟨r, hp, _, e1⟩ := putW_ev l e (by omega)
  have hr : r.length = l.length + 1 := by rw [hp.length_eq]; simp
  have e2 := specScoreB_ev r (by omega)
  by_cases c : scoreP r
  · exact ⟨(r, (true, ())), by show r.length ≤ _; omega, Ev.eq (fun k => spec_PutEvent_eq k l e) (Ev.bind e1 (Ev.bind e2 (Ev.neg (by simpa using c) Ev.ret)))⟩
  · exact ⟨([] ++ l, (false, ())), by simp, Ev.eq (fun k => spec_PutEvent_eq k l e) (Ev.bind e1 (Ev.bind e2 (Ev.pos (by simpa using c) (Ev.pos (by rw [List.length_nil]; omega) Ev.ret))))⟩
theorem l8Tune_dr (voice most : Int) (hm : most ≤ 100) : Dr (fun k c => spec_l8Tune k c voice most) (fun r => r.length ≤ 100) := by
  intro c h
  have key : ∀ (d : Nat) (t : Int) (c : DT199) (s : List DT39), CurOk c → s.length + d ≤ 1000 → ∃ r c', CurOk c' ∧ r.length ≤ s.length + d ∧ E2 (fun k m => spec_l8Tune.l0 k m voice t (d : Int) c.1 c.2.1 c.2.2.1 s) (r, c') := by
    intro d
    induction d with
    | zero => intro t c s h hs; exact ⟨s, c, h, by omega, E2.eq (fun k m => spec_l8Tune.l0_eq k m _ _ _ _ _ _ s) (E2.neg (by omega) E2.ret)⟩
    | succ d ih =>
      intro t c s h hs
      obtain ⟨x1, c1, h1, _, e1⟩ := l1Below_dr 3 c h
      obtain ⟨x2, c2, h2, _, e2⟩ := l1Below_dr 8 c1 h1
      obtain ⟨x3, c3, h3, _, e3⟩ := l1Once_dr 5 c2 h2
      obtain ⟨v, hv, e4⟩ := putS_ev s (t, (IntKind.wrap .i64 (6 * (IntKind.wrap .i64 (1 + x1))), (IntKind.wrap .i64 (60 + x2), (voice, ())))) (by omega)
      by_cases q : x3 = true
      · obtain ⟨r, c', h', hr, e5⟩ := ih (IntKind.wrap .i64 ((IntKind.wrap .i64 (t + (IntKind.wrap .i64 (6 * (IntKind.wrap .i64 (1 + x1)))))) + 12)) c3 v.1 h3 (by omega)
        refine ⟨r, c', h', by omega, E2.eq (fun k m => spec_l8Tune.l0_eq k m _ _ _ _ _ _ s) (E2.pos (by omega) (E2.bind e1 (E2.bind e2 (E2.bind e3 (E2.pos q (E2.bind e4 ?_))))))⟩
        simp only [wrapP (show 0 < d + 1 by omega) (show d + 1 < 9223372036854775807 by omega), Nat.add_sub_cancel]
        exact e5
      · obtain ⟨r, c', h', hr, e5⟩ := ih (IntKind.wrap .i64 (t + (IntKind.wrap .i64 (6 * (IntKind.wrap .i64 (1 + x1)))))) c3 v.1 h3 (by omega)
        refine ⟨r, c', h', by omega, E2.eq (fun k m => spec_l8Tune.l0_eq k m _ _ _ _ _ _ s) (E2.pos (by omega) (E2.bind e1 (E2.bind e2 (E2.bind e3 (E2.neg q (E2.bind e4 ?_))))))⟩
        simp only [wrapP (show 0 < d + 1 by omega) (show d + 1 < 9223372036854775807 by omega), Nat.add_sub_cancel]
        exact e5
  obtain ⟨x, c1, h1, ⟨h2, h3, h4⟩, e1⟩ := l1Below_dr most c h
  obtain ⟨n, rfl⟩ := Int.eq_ofNat_of_zero_le h2
  have hn : n ≤ 100 := by
    rcases Int.lt_or_le 0 most with q | q
    · have := h3 q; omega
    · have := h4 q; omega
  obtain ⟨r, c', h', hr, e3⟩ := key n 0 c1 [] h1 (by simp; omega)
  exact ⟨r, c', h', by simp at hr; omega, Ev.eq (fun k => spec_l8Tune_eq k c voice most) (Ev.bind e1 (Ev.loop (f := fun k m => spec_l8Tune.l0 k m voice 0 (n : Int) c1.1 c1.2.1 c1.2.2.1 []) e3))⟩
theorem l10Draw_dr : Dr (fun k c => spec_l10Draw k c) (fun _ => True) := by
  intro c h
  obtain ⟨x1, c1, h1, _, e1⟩ := l1Below_dr 4 c h
  obtain ⟨x2, c2, h2, _, e2⟩ := l1Int_dr [4, 4, 4, 8, 2] (by simp) c1 h1
  exact ⟨_, c2, h2, trivial, Ev.eq (fun k => spec_l10Draw_eq k c) (Ev.bind e1 (Ev.bind e2 Ev.ret))⟩
theorem l13Score_dr : Dr (fun k c => spec_l13Score k c) (fun r => r.length ≤ 200) := by
  intro c h
  obtain ⟨a, c1, h1, ha, e1⟩ := l8Tune_dr 1 9 (by omega) c h
  obtain ⟨b, c2, h2, hb, e2⟩ := l8Tune_dr 2 9 (by omega) c1 h1
  have key : ∀ (d i : Nat) (s : List DT39), i + d = b.length → s.length + d ≤ 1000 → ∃ r, r.length ≤ s.length + d ∧ E2 (fun k m => spec_l13Score.l0 k m (i : Int) c2.1 c2.2.1 c2.2.2.1 s b) (r, c2) := by
    intro d
    induction d with
    | zero => intro i s hi hs; exact ⟨s, by omega, E2.eq (fun k m => spec_l13Score.l0_eq k m _ _ _ _ s b) (E2.neg (by omega) E2.ret)⟩
    | succ d ih =>
      intro i s hi hs
      obtain ⟨v, hv, e4⟩ := putS_ev s (rd T39 b (i : Int)) (by omega)
      obtain ⟨r, hr, e5⟩ := ih (i + 1) v.1 (by omega) (by omega)
      refine ⟨r, by omega, E2.eq (fun k m => spec_l13Score.l0_eq k m _ _ _ _ s b) (E2.pos (by omega) (E2.pos (by omega) (E2.pos (by omega) (E2.bind e4 ?_))))⟩
      simp only [wrapS (show i < 9223372036854775807 by omega)]
      exact e5
  have ha : a.length ≤ 100 := ha
  have hb : b.length ≤ 100 := hb
  obtain ⟨r, hr, e3⟩ := key b.length 0 a (by omega) (by omega)
  exact ⟨r, c2, h2, by show r.length ≤ 200; omega, Ev.eq (fun k => spec_l13Score_eq k c) (Ev.bind e1 (Ev.bind e2 (Ev.loop (f := fun k m => spec_l13Score.l0 k m 0 c2.1 c2.2.1 c2.2.2.1 a b) e3)))⟩
theorem l25Mark_dr : Dr (fun k c => spec_l25Mark k c) (fun _ => True) := by
  intro c h
  obtain ⟨x1, c1, h1, _, e1⟩ := l1Below_dr 5 c h
  obtain ⟨x2, c2, h2, _, e2⟩ := l1Below_dr 4 c1 h1
  obtain ⟨x3, c3, h3, _, e3⟩ := l1Below_dr 4 c2 h2
  obtain ⟨x4, c4, h4, _, e4⟩ := l1Below_dr 5 c3 h3
  obtain ⟨x5, c5, h5, _, e5⟩ := l1Below_dr 3 c4 h4
  exact ⟨_, c5, h5, trivial, Ev.eq (fun k => spec_l25Mark_eq k c) (Ev.bind e1 (Ev.bind e2 (Ev.bind e3 (Ev.bind e4 (Ev.bind e5 Ev.ret)))))⟩
theorem setMS_ev (l : List DT45) (x : DT45) (hl : l.length ≤ 1048576) : ∃ v : List DT45, v.length ≤ l.length + 1 ∧ Ev (fun k => spec_SetMark k l x) v := by
  obtain ⟨p, hp, h1, h2⟩ := first_idx (fun i => befM (rd T45 l (i : Int)) x) l.length
  have hs := setS_ev l x hl p hp h1 h2
  have hvl := setV_len l x p hp
  obtain ⟨a, ea, _⟩ := specMarks_ev l hl
  obtain ⟨b, eb, _⟩ := specMarksB_ev (setV l x p) (by omega)
  have sz : (List.length ([] : (List DT45)) + List.length l) * 40 ≤ 211106232532992 := by rw [List.length_nil]; omega
  by_cases c : a = true
  · by_cases d : b = true
    · exact ⟨setV l x p, hvl, Ev.eq (fun k => spec_SetMark_eq k l x) (Ev.bind hs (Ev.bind ea (Ev.neg (by simpa using c) (Ev.bind eb (Ev.neg (by simpa using d) Ev.ret)))))⟩
    · exact ⟨[] ++ l, by simp, Ev.eq (fun k => spec_SetMark_eq k l x) (Ev.bind hs (Ev.bind ea (Ev.neg (by simpa using c) (Ev.bind eb (Ev.pos d (Ev.pos sz Ev.ret))))))⟩
  · exact ⟨[] ++ l, by simp, Ev.eq (fun k => spec_SetMark_eq k l x) (Ev.bind hs (Ev.bind ea (Ev.pos c (Ev.pos sz Ev.ret))))⟩
/-- Some players, of few voices. -/
def fewP (n : Nat) (l : List DT43) : Prop := l.length ≤ n ∧ ∀ p ∈ l, p.2.2.2.1.length ≤ 3
theorem fewP_add {n : Nat} {l : List DT43} {a b c : Int} {v : List Int} (h : fewP n l) (hv : v.length ≤ 3) : fewP (n + 1) (l ++ [(a, (b, (c, (v, ()))))]) :=
  ⟨by rw [List.length_append, List.length_singleton]; have := h.1; omega, fun p hp => by
    rcases List.mem_append.1 hp with h1 | h1
    · exact h.2 p h1
    · rw [List.mem_singleton.1 h1]; exact hv⟩
theorem fewP_mono {n m : Nat} {l : List DT43} (h : fewP n l) (hm : n ≤ m) : fewP m l := ⟨Nat.le_trans h.1 hm, h.2⟩
theorem l33Voices_dr : Dr (fun k c => spec_l33Voices k c) (fun r => fewP 10 r) := by
  intro c h
  have key : ∀ (d i : Nat) (c : DT199) (s : List DT43), i + d = 7 → 1 ≤ i → CurOk c → fewP i s → ∃ r c', CurOk c' ∧ fewP 10 r ∧ E2 (fun k m => spec_l33Voices.l0 k m (i : Int) c.1 c.2.1 c.2.2.1 s) (r, c') := by
    intro d
    induction d with
    | zero =>
      intro i c s hi h1 h hs
      obtain ⟨x, c1, k1, ⟨k2, k3, _⟩, e1⟩ := l1Below_dr 4 c h
      have := k3 (by omega)
      refine ⟨s, c1, k1, fewP_mono hs (by omega), E2.eq (fun k m => spec_l33Voices.l0_eq k m _ _ _ _ s) (E2.bind e1 (E2.neg ?_ E2.ret))⟩
      rw [wrapI (by omega) (by omega)]; omega
    | succ d ih =>
      intro i c s hi h1 h hs
      obtain ⟨x, c1, k1, ⟨k2, k3, _⟩, e1⟩ := l1Below_dr 4 c h
      have := k3 (by omega)
      by_cases q : (i : Int) ≤ IntKind.wrap .i64 (2 + x)
      · obtain ⟨x2, c2, k2', _, e2⟩ := l1Below_dr 18 c1 k1
        obtain ⟨x3, c3, k3', _, e3⟩ := l1Below_dr 12 c2 k2'
        obtain ⟨r, c', h', hr, e5⟩ := ih (i + 1) c3 (s ++ [((i : Int), (IntKind.wrap .i64 (40 + x2), (IntKind.wrap .i64 (76 + x3), ([1, 2, 3], ()))))]) (by omega) (by omega) k3' (fewP_add hs (by simp))
        have := hs.1
        refine ⟨r, c', h', hr, E2.eq (fun k m => spec_l33Voices.l0_eq k m _ _ _ _ s) (E2.bind e1 (E2.pos q (E2.bind e2 (E2.bind e3 (E2.pos (by rw [List.length_singleton]; omega) ?_)))))⟩
        simp only [wrapS (show i < 9223372036854775807 by omega)]
        exact e5
      · exact ⟨s, c1, k1, fewP_mono hs (by omega), E2.eq (fun k m => spec_l33Voices.l0_eq k m _ _ _ _ s) (E2.bind e1 (E2.neg q E2.ret))⟩
  obtain ⟨r, c', h', hr, e⟩ := key 6 1 c [] (by omega) (by omega) h ⟨by simp, by simp⟩
  exact ⟨r, c', h', hr, Ev.eq (fun k => spec_l33Voices_eq k c) (Ev.loop (f := fun k m => spec_l33Voices.l0 k m 1 c.1 c.2.1 c.2.2.1 []) e)⟩
theorem smP_few {n : Nat} {l : List DT43} (h : fewP n l) (hn : n ≤ 1048576) : SmP l := ⟨Nat.le_trans h.1 hn, fun i hi => by
  rw [rd_at hi]
  exact Nat.le_trans (h.2 _ (List.getElem_mem hi)) (by omega)⟩
theorem bkP_few {n : Nat} {l : List DT43} (h : fewP n l) (hn : n ≤ 1048576) : Bk (.list T43) l :=
  ⟨Nat.le_trans h.1 hn, fun x hx => ⟨trivial, trivial, trivial, ⟨Nat.le_trans (h.2 x hx) (by omega), fun _ _ => trivial⟩, trivial⟩⟩
theorem bk_ev {l : List DT39} (h : l.length ≤ 1048576) : Bk (.list T39) l := ⟨h, fun x _ => bk_flat x rfl⟩
theorem bk_te {l : List DT25} (h : l.length ≤ 1048576) : Bk (.list T25) l := ⟨h, fun x _ => bk_flat x rfl⟩
theorem bk_ma {l : List DT45} (h : l.length ≤ 1048576) : Bk (.list T45) l := ⟨h, fun x _ => bk_flat x rfl⟩
theorem bk_in {l : List Int} (h : l.length ≤ 1048576) : Bk (.list (.int .i64)) l := ⟨h, fun x _ => trivial⟩
theorem l1New_ev (code : List Int) (hc : code.length ≤ 1048576) : ∃ c : DT199, CurOk c ∧ Ev (fun k => spec_l1New k code) c := by
  have key : ∀ (d i : Nat) (h : Int), i + d = code.length → ∃ c : DT199, CurOk c ∧ E2 (fun k m => spec_l1New.l0 k m code h (i : Int)) c := by
    intro d
    induction d with
    | zero => intro i h hi; exact ⟨(code, (0, (h, ()))), ⟨hc, Int.le_refl 0, by show (0 : Int) ≤ ((List.length code : Nat) : Int); omega⟩, E2.eq (fun k m => spec_l1New.l0_eq k m code _ _) (E2.neg (by omega) E2.ret)⟩
    | succ d ih =>
      intro i h hi
      by_cases q : (i : Int) < 4000
      · obtain ⟨c, hc', e⟩ := ih (i + 1) _ (by omega)
        refine ⟨c, hc', E2.eq (fun k m => spec_l1New.l0_eq k m code _ _) (E2.pos (by omega) (E2.pos q (E2.pos (by omega) (E2.pos (by omega) ?_))))⟩
        simp only [wrapS (show i < 9223372036854775807 by omega)]
        exact e
      · exact ⟨(code, (0, (h, ()))), ⟨hc, Int.le_refl 0, by show (0 : Int) ≤ ((List.length code : Nat) : Int); omega⟩, E2.eq (fun k m => spec_l1New.l0_eq k m code _ _) (E2.pos (by omega) (E2.neg q E2.ret))⟩
  obtain ⟨c, hc', e⟩ := key code.length 0 (IntKind.wrap .i64 (193017 + ((List.length code : Nat) : Int))) (by omega)
  exact ⟨c, hc', Ev.eq (fun k => spec_l1New_eq k code) (Ev.loop (f := fun k m => spec_l1New.l0 k m code (IntKind.wrap .i64 (193017 + ((List.length code : Nat) : Int))) 0) e)⟩
theorem mk_nn {n d : Int} (h : 0 ≤ n) (hd : 1 ≤ d) : 0 ≤ ((mk n d).1.1 : Int) := by
  have hg := gcdI_pos (absI n) d (by omega)
  unfold mk
  split
  · exact Int.tdiv_nonneg h (by omega)
  · exact Int.le_refl 0
theorem addR_nn {x y : Int} {p : DT25} (hx : 0 ≤ x) (hp : 0 ≤ (p.1 : Int)) : 0 ≤ ((addR (x, (y, ())) p).1.1 : Int) := by
  unfold addR
  split
  · rename_i c
    have h1 : (1 ≤ y ∧ y ≤ 1000000) ∧ _ := isR_spec c.1
    have h2 := isR_spec c.2
    have g1 : 0 ≤ x * (p.2.1 : Int) := Int.mul_nonneg hx (by omega)
    have g2 : 0 ≤ (p.1 : Int) * y := Int.mul_nonneg hp (by omega)
    have g3 : 0 < y * (p.2.1 : Int) := Int.mul_pos (by omega) (by omega)
    exact mk_nn (show 0 ≤ x * (p.2.1 : Int) + (p.1 : Int) * y by omega) (show 1 ≤ y * (p.2.1 : Int) by omega)
  · exact Int.le_refl 0
theorem timeOfI_ev (l : List DT25) (tick : Int) (hl : l.length ≤ 1048576) : ∃ v : Res, Ev (fun k => impl_TimeOf k l tick) v ∧ 0 ≤ (v.1.1 : Int) := by
  by_cases hp : tempoP l
  · by_cases ht : 0 ≤ tick ∧ tick ≤ 2000
    · have key : ∀ d (i : Nat) (a b x y : Int), i + d = l.length → 0 ≤ x → ∃ v : Res, E2 (fun k m => impl_TimeOf.l0 k m l tick l ((List.length l : Nat) : Int) (i : Int) a b x y) v ∧ 0 ≤ (v.1.1 : Int) := by
        intro d
        induction d with
        | zero =>
          intro i a b x y hi hx
          exact ⟨((x, (y, ())), (true, ())), E2.eq (fun k m => impl_TimeOf.l0_eq k m l tick l _ _ a b x y) (E2.neg (by omega) E2.ret), hx⟩
        | succ d ih =>
          intro i a b x y hi hx
          obtain ⟨⟨⟨q1, q2⟩, q3, q4⟩, q5, q6⟩ := hp.1 i (by omega)
          by_cases hend : LT.lt (α := Int) (rd T25 l (i : Int)).1 tick
          · have fin : ∀ (en : Int), LT.lt (α := Int) (rd T25 l (i : Int)).1 en → en ≤ 2000 →
                ∃ p q : Res, (∀ {g : Nat → Nat → Res → Option Res} {u : Res}, E2 (fun k m => g k m p) u → E2 (fun k m => (impl_MakeRatio k (IntKind.wrap .i64 ((IntKind.wrap .i64 (en - (rd T25 l (i : Int)).1)) * 5000)) (rd T25 l (i : Int)).2.1).bind fun r => g k m r) u) ∧ q = addR (x, (y, ())) p.1 ∧ 0 ≤ (q.1.1 : Int) := by
              intro en h1 h2
              have w1 : IntKind.wrap .i64 (en - (rd T25 l (i : Int)).1) = en - (rd T25 l (i : Int)).1 := wrapI (by omega) (by omega)
              have w2 : IntKind.wrap .i64 ((en - (rd T25 l (i : Int)).1) * 5000) = (en - (rd T25 l (i : Int)).1) * 5000 := wrapI (by omega) (by omega)
              rw [w1, w2]
              exact ⟨mk ((en - (rd T25 l (i : Int)).1) * 5000) (rd T25 l (i : Int)).2.1, _, fun e => E2.bind (implMake_ev _ _ (by omega) (by omega) (by omega) (by omega)) e, rfl, addR_nn hx (mk_nn (by omega) (by omega))⟩
            have tail : ∀ (p q : Res), q = addR (x, (y, ())) p.1 → 0 ≤ (q.1.1 : Int) → ∃ v : Res, 0 ≤ (v.1.1 : Int) ∧
                E2 (fun k m => (impl_AddRatio k (x, (y, ())) p.1).bind fun r4 => if ¬ (p.2.1 = true) then some ((0, (0, ())), (false, ())) else if ¬ (r4.2.1 = true) then some ((0, (0, ())), (false, ())) else impl_TimeOf.l0 k m l tick l ((List.length l : Nat) : Int) ((i + 1 : Nat) : Int) a b r4.1.1 r4.1.2.1) v := by
              intro p q hq hnn
              by_cases hp1 : p.2.1 = true
              · by_cases hok : q.2.1 = true
                · obtain ⟨v, e2, e4⟩ := ih (i + 1) a b q.1.1 q.1.2.1 (by omega) hnn
                  refine ⟨v, e4, E2.bind (implAdd_ev _ _) ?_⟩
                  rw [← hq]; exact E2.neg (by simpa using hp1) (E2.neg (by simpa using hok) e2)
                · refine ⟨noR, Int.le_refl 0, E2.bind (implAdd_ev _ _) ?_⟩
                  rw [← hq]
                  exact E2.neg (by simpa using hp1) (E2.pos hok E2.ret)
              · exact ⟨noR, Int.le_refl 0, E2.bind (implAdd_ev _ _) (E2.pos hp1 E2.ret)⟩
            by_cases hn : i + 1 < l.length
            · obtain ⟨⟨⟨s1, s2⟩, s3, s4⟩, s5, s6⟩ := hp.1 (i + 1) hn
              have s6 := s6 (by omega)
              rw [Nat.add_sub_cancel] at s6
              obtain ⟨p, q, f2, f3, f5⟩ := fin (min tick (rd T25 l ((i + 1 : Nat) : Int)).1) (by omega) (by omega)
              obtain ⟨v, t0, t2⟩ := tail p q f3 f5
              refine ⟨v, E2.eq (fun k m => impl_TimeOf.l0_eq k m l tick l _ _ a b x y) (E2.pos (by omega) (E2.pos (by omega) (E2.pos (by omega) ?_))), t0⟩
              simp only [wrapS (show i < 9223372036854775807 by omega)]
              exact E2.pos (by omega) (E2.pos (by omega) (E2.pos (by omega) (E2.neg (by omega) (f2 t2))))
            · obtain ⟨p, q, f2, f3, f5⟩ := fin tick hend ht.2
              obtain ⟨v, t0, t2⟩ := tail p q f3 f5
              refine ⟨v, E2.eq (fun k m => impl_TimeOf.l0_eq k m l tick l _ _ a b x y) (E2.pos (by omega) (E2.pos (by omega) (E2.pos (by omega) ?_))), t0⟩
              simp only [wrapS (show i < 9223372036854775807 by omega)]
              exact E2.neg (by omega) (E2.neg (by omega) (f2 t2))
          · refine ⟨((x, (y, ())), (true, ())), E2.eq (fun k m => impl_TimeOf.l0_eq k m l tick l _ _ a b x y) (E2.pos (by omega) (E2.pos (by omega) (E2.pos (by omega) ?_))), hx⟩
            simp only [wrapS (show i < 9223372036854775807 by omega)]
            by_cases hn : i + 1 < l.length
            · exact E2.pos (by omega) (E2.pos (by omega) (E2.pos (by omega) (E2.pos (by omega) E2.ret)))
            · exact E2.neg (by omega) (E2.pos (by omega) E2.ret)
      obtain ⟨v, e2, e4⟩ := key l.length 0 0 0 0 1 (by omega) (Int.le_refl 0)
      exact ⟨v, Ev.eq (fun k => impl_TimeOf_eq k l tick) (Ev.bind (implTempo_ev l hl) (Ev.neg (by simpa using hp) (Ev.bind (inRange_ev _ _ _) (Ev.neg (by simpa using ht) (Ev.loop (f := fun k m => impl_TimeOf.l0 k m l tick l ((List.length l : Nat) : Int) 0 0 0 0 1) e2))))), e4⟩
    · exact ⟨noR, Ev.eq (fun k => impl_TimeOf_eq k l tick) (Ev.bind (implTempo_ev l hl) (Ev.neg (by simpa using hp) (Ev.bind (inRange_ev _ _ _) (Ev.pos (by simpa using ht) Ev.ret)))), Int.le_refl 0⟩
  · exact ⟨noR, Ev.eq (fun k => impl_TimeOf_eq k l tick) (Ev.bind (implTempo_ev l hl) (Ev.pos (by simpa using hp) Ev.ret)), Int.le_refl 0⟩
/-- An orchestra whose lists are short. -/
def Gd (n : Nat) (o : DT32) : Prop := o.1.length ≤ n ∧ o.2.2.1.length ≤ n ∧ fewP n o.2.2.2.1 ∧ o.2.2.2.2.1.length ≤ n ∧ o.2.2.2.2.2.1.length ≤ n ∧ o.2.2.2.2.2.2.1.length ≤ n
theorem gd_mono {n m : Nat} {o : DT32} (h : Gd n o) (hm : n ≤ m) : Gd m o :=
  ⟨Nat.le_trans h.1 hm, Nat.le_trans h.2.1 hm, fewP_mono h.2.2.1 hm, Nat.le_trans h.2.2.2.1 hm, Nat.le_trans h.2.2.2.2.1 hm, Nat.le_trans h.2.2.2.2.2 hm⟩
theorem gd_bk {n : Nat} {o : DT32} (h : Gd n o) (hn : n ≤ 1048576) : Bk T32 o :=
  ⟨bk_ev (Nat.le_trans h.1 hn), bk_flat (t := T25) _ rfl, bk_te (Nat.le_trans h.2.1 hn), bkP_few h.2.2.1 hn, bk_in (Nat.le_trans h.2.2.2.1 hn), bk_ma (Nat.le_trans h.2.2.2.2.1 hn), bk_te (Nat.le_trans h.2.2.2.2.2 hn), trivial, trivial, trivial⟩
theorem done_gd {n : Nat} (hn : n ≤ 1000000) {o out : DT32} (h : Gd n o) (h2 : Gd n out) (ok : Bool) : ∃ v : DT32 × (Bool × Unit), Gd n v.1 ∧ (v = (o, (false, ())) ∨ v = (out, (true, ())) ∧ Ev (fun k => spec_IsOrchestra k out) true) ∧ Ev (fun k => spec_l34Done k o out ok) v := by
  have b := gd_bk h (by omega)
  by_cases c : ok = true
  · obtain ⟨r, e1⟩ := specIsO_ev out (sm_of (gd_bk h2 (by omega)))
    by_cases d : r = true
    · exact ⟨(out, (true, ())), h2, .inr ⟨rfl, by rw [d] at e1; exact e1⟩, Ev.eq (fun k => spec_l34Done_eq k o out ok) (Ev.neg (by simpa using c) (Ev.bind e1 (Ev.neg (by simpa using d) Ev.ret)))⟩
    · exact ⟨(o, (false, ())), h, .inl rfl, Ev.eq (fun k => spec_l34Done_eq k o out ok) (Ev.neg (by simpa using c) (Ev.bind e1 (Ev.pos d (Ev.bind (l33_ev _ b) Ev.ret))))⟩
  · exact ⟨(o, (false, ())), h, .inl rfl, Ev.eq (fun k => spec_l34Done_eq k o out ok) (Ev.pos c (Ev.bind (l33_ev _ b) Ev.ret))⟩
/-- A step of the reference: it answers, and the lists grow by one at the most; the answer is the old one, or a valid one. -/
def St1 (n : Nat) (o : DT32) (f : Nat → Option (DT32 × (Bool × Unit))) : Prop := ∃ v : DT32 × (Bool × Unit), Gd (n + 1) v.1 ∧ (v.1 = o ∨ Ev (fun k => spec_IsOrchestra k v.1) true) ∧ Ev f v
theorem st1_of {n : Nat} {o : DT32} {f : Nat → Option (DT32 × (Bool × Unit))} {g : Nat → Option (DT32 × (Bool × Unit))} (h : ∃ v : DT32 × (Bool × Unit), Gd (n + 1) v.1 ∧ (v = (o, (false, ())) ∨ ∃ out, v = (out, (true, ())) ∧ Ev (fun k => spec_IsOrchestra k out) true) ∧ Ev g v) (hf : ∀ v, Ev g v → Ev f (v.1, (decide (v.2.1 = true), ()))) : St1 n o f := by
  obtain ⟨v, h1, h2, h3⟩ := h
  refine ⟨(v.1, (decide (v.2.1 = true), ())), h1, ?_, hf v h3⟩
  rcases h2 with rfl | ⟨out, rfl, h⟩
  · exact .inl rfl
  · exact .inr h
theorem done1 {n : Nat} (hn : n + 1 ≤ 1000000) {o out : DT32} (h : Gd n o) (h2 : Gd (n + 1) out) (ok : Bool) : ∃ v : DT32 × (Bool × Unit), Gd (n + 1) v.1 ∧ (v = (o, (false, ())) ∨ ∃ out, v = (out, (true, ())) ∧ Ev (fun k => spec_IsOrchestra k out) true) ∧ Ev (fun k => spec_l34Done k o out ok) v := by
  obtain ⟨v, h1, h2, h3⟩ := done_gd hn (gd_mono h (Nat.le_succ n)) h2 ok
  refine ⟨v, h1, ?_, h3⟩
  rcases h2 with rfl | ⟨rfl, h⟩
  · exact .inl rfl
  · exact .inr ⟨_, rfl, h⟩
theorem tickS_gd {n : Nat} (hn : n + 1 ≤ 1000000) {o : DT32} (h : Gd n o) (x : Int) : St1 n o (fun k => spec_StepTick k o x) := by
  have b := gd_bk h (by omega)
  by_cases c1 : 1 ≤ x ∧ x ≤ 1000
  · by_cases c2 : 0 ≤ (o.2.2.2.2.2.2.2.2.1 : Int) ∧ (o.2.2.2.2.2.2.2.2.1 : Int) ≤ 100000
    · exact st1_of (done1 hn h (out := (o.1, (o.2.1, (o.2.2.1, (o.2.2.2.1, (o.2.2.2.2.1, (o.2.2.2.2.2.1, (o.2.2.2.2.2.2.1, (o.2.2.2.2.2.2.2.1, (IntKind.wrap .i64 (o.2.2.2.2.2.2.2.2.1 + x), ())))))))))) (gd_mono (show Gd n _ from h) (Nat.le_succ n)) true) fun v e =>
        Ev.eq (fun k => spec_StepTick_eq k o x) (Ev.bind (l33_ev _ b) (Ev.bind (l1In_ev _ _ _) (Ev.neg (by simpa using c1) (Ev.bind (l1In_ev _ _ _) (Ev.neg (by simpa using c2) (Ev.bind e Ev.ret))))))
    · exact ⟨(o, (false, ())), gd_mono h (Nat.le_succ n), .inl rfl, Ev.eq (fun k => spec_StepTick_eq k o x) (Ev.bind (l33_ev _ b) (Ev.bind (l1In_ev _ _ _) (Ev.neg (by simpa using c1) (Ev.bind (l1In_ev _ _ _) (Ev.pos (by simpa using c2) Ev.ret)))))⟩
  · exact ⟨(o, (false, ())), gd_mono h (Nat.le_succ n), .inl rfl, Ev.eq (fun k => spec_StepTick_eq k o x) (Ev.bind (l33_ev _ b) (Ev.bind (l1In_ev _ _ _) (Ev.pos (by simpa using c1) Ev.ret)))⟩
theorem gd_score {n : Nat} {o : DT32} (h : Gd n o) {l : List DT39} (hl : l.length ≤ n + 1) (e : Int) : Gd (n + 1) (l, (o.2.1, (o.2.2.1, (o.2.2.2.1, (o.2.2.2.2.1, (o.2.2.2.2.2.1, (o.2.2.2.2.2.2.1, (e, o.2.2.2.2.2.2.2.2)))))))) :=
  have h := gd_mono h (Nat.le_succ n); ⟨hl, h.2⟩
theorem writeS_gd {n : Nat} (hn : n + 1 ≤ 1000000) {o : DT32} (h : Gd n o) (e : DT39) : St1 n o (fun k => spec_StepWrite k o e) := by
  have b := gd_bk h (by omega)
  obtain ⟨p, hp, ep⟩ := putS_ev o.1 e (by have := h.1; omega)
  exact st1_of (done1 hn h (gd_score h (by have := h.1; omega) _) (decide (p.2.1 = true))) fun v e1 =>
    Ev.eq (fun k => spec_StepWrite_eq k o e) (Ev.bind (l33_ev _ b) (Ev.bind ep (Ev.bind (min_ev _ _) (Ev.bind e1 Ev.ret))))
theorem takeE_ev (l : List DT39) (e : DT39) (hl : l.length ≤ 1048576) : ∃ v : List DT39 × (Bool × Unit), v.1.length ≤ l.length ∧ Ev (fun k => spec_TakeEvent k l e) v := by
  have key : ∀ d i : Nat, ∀ (f : Bool) (s : List DT39), i + d = l.length → s.length ≤ i → ∃ v : List DT39 × (Bool × Unit), v.1.length ≤ l.length ∧ E2 (fun k m => spec_TakeEvent.l0 k m l f (i : Int) e.1 e.2.1 e.2.2.1 e.2.2.2.1 s) v := by
    intro d
    induction d with
    | zero =>
      intro i f s hi hs
      by_cases c : f = true
      · by_cases q : scoreP l
        · exact ⟨(s, (true, ())), by show s.length ≤ _; omega, E2.eq (fun k m => spec_TakeEvent.l0_eq k m l _ _ _ _ _ _ _) (E2.neg (by omega) (E2.neg (fun hh => hh c) (E2.bind (specScore_ev l hl) (E2.neg (by simpa using q) E2.ret))))⟩
        · exact ⟨([] ++ l, (false, ())), by simp, E2.eq (fun k m => spec_TakeEvent.l0_eq k m l _ _ _ _ _ _ _) (E2.neg (by omega) (E2.neg (fun hh => hh c) (E2.bind (specScore_ev l hl) (E2.pos (by simpa using q) (E2.pos (by simp only [List.length_nil]; omega) E2.ret)))))⟩
      · exact ⟨([] ++ l, (false, ())), by simp, E2.eq (fun k m => spec_TakeEvent.l0_eq k m l _ _ _ _ _ _ _) (E2.neg (by omega) (E2.pos c (E2.pos (by simp only [List.length_nil]; omega) E2.ret)))⟩
    | succ d ih =>
      intro i f s hi hs
      by_cases c : (((rd T39 l (i : Int)).1 : Int) = e.1) ∧ ((((rd T39 l (i : Int)).2.1 : Int) = e.2.1) ∧ ((((rd T39 l (i : Int)).2.2.1 : Int) = e.2.2.1) ∧ (((rd T39 l (i : Int)).2.2.2.1 : Int) = e.2.2.2.1)))
      · obtain ⟨v, hv, ev⟩ := ih (i + 1) true s (by omega) (by omega)
        refine ⟨v, hv, E2.eq (fun k m => spec_TakeEvent.l0_eq k m l _ _ _ _ _ _ _) (E2.pos (by omega) (E2.pos (by omega) (E2.pos (by omega) (E2.pos c ?_))))⟩
        simp only [wrapS (show i < 9223372036854775807 by omega)]
        exact ev
      · obtain ⟨v, hv, ev⟩ := ih (i + 1) (decide (f = true)) (s ++ [rd T39 l (i : Int)]) (by omega) (by simp; omega)
        refine ⟨v, hv, E2.eq (fun k m => spec_TakeEvent.l0_eq k m l _ _ _ _ _ _ _) (E2.pos (by omega) (E2.pos (by omega) (E2.pos (by omega) (E2.neg c (E2.pos (by omega) (E2.pos (by omega) (E2.pos (by simp only [List.length_singleton]; omega) ?_)))))))⟩
        simp only [wrapS (show i < 9223372036854775807 by omega)]
        exact ev
  obtain ⟨v, hv, e1⟩ := key l.length 0 false [] (by omega) (by simp)
  exact ⟨v, hv, Ev.eq (fun k => spec_TakeEvent_eq k l e) (Ev.loop (f := fun k m => spec_TakeEvent.l0 k m l false 0 e.1 e.2.1 e.2.2.1 e.2.2.2.1 []) e1)⟩
theorem eraseS_gd {n : Nat} (hn : n + 1 ≤ 1000000) {o : DT32} (h : Gd n o) (e : DT39) : St1 n o (fun k => spec_StepErase k o e) := by
  have b := gd_bk h (by omega)
  obtain ⟨p, hp, ep⟩ := takeE_ev o.1 e (by have := h.1; omega)
  exact st1_of (done1 hn h (gd_score h (by have := h.1; omega) _) (decide (p.2.1 = true))) fun v e1 =>
    Ev.eq (fun k => spec_StepErase_eq k o e) (Ev.bind (l33_ev _ b) (Ev.bind ep (Ev.bind (min_ev _ _) (Ev.bind e1 Ev.ret))))
theorem markS_gd {n : Nat} (hn : n + 1 ≤ 1000000) {o : DT32} (h : Gd n o) (x y z w : Int) : St1 n o (fun k => spec_StepMark k o x y z w) := by
  have b := gd_bk h (by omega)
  obtain ⟨p, hp, ep⟩ := setMS_ev o.2.2.2.2.2.1 (x, (y, (z, (o.2.2.2.2.2.2.2.2.1, (w, ()))))) (by have := h.2.2.2.2.1; omega)
  obtain ⟨r, er, _⟩ := eqMS_ev p o.2.2.2.2.2.1 (by have := h.2.2.2.2.1; omega)
  have h' := gd_mono h (Nat.le_succ n)
  have hg : Gd (n + 1) (o.1, (o.2.1, (o.2.2.1, (o.2.2.2.1, (o.2.2.2.2.1, (p, o.2.2.2.2.2.2)))))) := ⟨h'.1, h'.2.1, h'.2.2.1, h'.2.2.2.1, by have := h.2.2.2.2.1; show p.length ≤ _; omega, h'.2.2.2.2.2⟩
  exact st1_of (done1 hn h hg (decide (¬ (r = true)))) fun v e1 =>
    Ev.eq (fun k => spec_StepMark_eq k o x y z w) (Ev.bind (l33_ev _ b) (Ev.bind ep (Ev.bind er (Ev.bind e1 Ev.ret))))
theorem seatN_ev (l : List DT43) (sc : List DT39) (n N : Nat) (hn : n ≤ 4) (hN : N ≤ 1000000) (hl : fewP N l) (hs : sc.length ≤ 1048576) : ∀ (d : Nat) (t : List Int), t.length + d = n → ∃ r : List Int × (Bool × Unit), r.1.length ≤ 4 ∧ Ev (fun k => spec_l29Seat k l sc (n : Int) t) r := by
  intro d
  induction d with
  | zero =>
    intro t ht
    exact ⟨([] ++ t, (true, ())), by simp; omega, Ev.eq (fun k => spec_l29Seat_eq k l sc _ t) (Ev.pos (by omega) (Ev.pos (by rw [List.length_nil]; omega) Ev.ret))⟩
  | succ d ih =>
    intro t ht
    have key : ∀ (e i : Nat), i + e = l.length → ∃ r : List Int × (Bool × Unit), r.1.length ≤ 4 ∧ E2 (fun k m => spec_l29Seat.l0 k m l sc (n : Int) t (i : Int)) r := by
      intro e
      induction e with
      | zero => intro i hi; exact ⟨([], (false, ())), by simp, E2.eq (fun k m => spec_l29Seat.l0_eq k m l sc _ t _) (E2.neg (by omega) E2.ret)⟩
      | succ e ihe =>
        intro i hi
        have hll := hl.1
        obtain ⟨r, hr, er⟩ := ihe (i + 1) (by omega)
        have i0 : (0 : Int) ≤ (i : Int) := by omega
        have i1 : (i : Int) < ((List.length l : Nat) : Int) := by omega
        have h1 := has_ev t (rd T43 l (i : Int)).1 (by omega)
        by_cases q : decide (((rd T43 l (i : Int)).1 : Int) ∈ t) = true
        · refine ⟨r, hr, E2.eq (fun k m => spec_l29Seat.l0_eq k m l sc _ t _) (E2.pos i1 (E2.pos i0 (E2.pos i1 (E2.bind h1 (E2.pos q ?_)))))⟩
          simp only [wrapS (show i < 9223372036854775807 by omega)]
          exact er
        · have hv : (rd T43 l (i : Int)).2.2.2.1.length ≤ 1048576 := by
            rw [rd_at (show i < l.length by omega)]
            exact Nat.le_trans (hl.2 _ (List.getElem_mem _)) (by omega)
          obtain ⟨b, eb, _⟩ := specCan_ev (rd T43 l (i : Int)) sc (IntKind.wrap .i64 (((List.length t : Nat) : Int) + 1)) hv hs
          by_cases qb : b = true
          · obtain ⟨r2, hr2, er2⟩ := ih (([] ++ t) ++ [(rd T43 l (i : Int)).1]) (by simp; omega)
            by_cases q2 : r2.2.1 = true
            · exact ⟨(r2.1, (true, ())), hr2, E2.eq (fun k m => spec_l29Seat.l0_eq k m l sc _ t _) (E2.pos i1 (E2.pos i0 (E2.pos i1 (E2.bind h1 (E2.neg q (E2.pos i0 (E2.pos i1 (E2.bind eb (E2.neg (fun h => h qb) (E2.pos (by rw [List.length_nil]; omega) (E2.pos i0 (E2.pos i1 (E2.pos (by rw [List.length_append, List.length_nil, List.length_singleton]; omega) (E2.bind er2 (E2.pos q2 E2.ret)))))))))))))))⟩
            · refine ⟨r, hr, E2.eq (fun k m => spec_l29Seat.l0_eq k m l sc _ t _) (E2.pos i1 (E2.pos i0 (E2.pos i1 (E2.bind h1 (E2.neg q (E2.pos i0 (E2.pos i1 (E2.bind eb (E2.neg (fun h => h qb) (E2.pos (by rw [List.length_nil]; omega) (E2.pos i0 (E2.pos i1 (E2.pos (by rw [List.length_append, List.length_nil, List.length_singleton]; omega) (E2.bind er2 (E2.neg q2 ?_)))))))))))))))⟩
              simp only [wrapS (show i < 9223372036854775807 by omega)]
              exact er
          · refine ⟨r, hr, E2.eq (fun k m => spec_l29Seat.l0_eq k m l sc _ t _) (E2.pos i1 (E2.pos i0 (E2.pos i1 (E2.bind h1 (E2.neg q (E2.pos i0 (E2.pos i1 (E2.bind eb (E2.pos qb ?_)))))))))⟩
            simp only [wrapS (show i < 9223372036854775807 by omega)]
            exact er
    obtain ⟨r, hr, er⟩ := key l.length 0 (by omega)
    exact ⟨r, hr, Ev.eq (fun k => spec_l29Seat_eq k l sc _ t) (Ev.neg (by omega) (Ev.loop (f := fun k m => spec_l29Seat.l0 k m l sc (n : Int) t 0) er))⟩
theorem seatV_ev (l : List DT43) (sc : List DT39) (v : Int) {N : Nat} (hN : N ≤ 1000000) (hl : fewP N l) (hs : sc.length ≤ 1048576) : ∃ r : List Int × (Bool × Unit), r.1.length ≤ 4 ∧ Ev (fun k => spec_SeatPlayers k l sc v) r := by
  obtain ⟨a, ea, _⟩ := specPlayers_ev l (smP_few hl (by omega))
  by_cases qa : a = true
  · have eb := specScore_ev sc hs
    by_cases qb : scoreP sc
    · by_cases qc : 1 ≤ v ∧ v ≤ 4
      · obtain ⟨m, rfl⟩ := Int.eq_ofNat_of_zero_le (show 0 ≤ v by omega)
        obtain ⟨r, hr, er⟩ := seatN_ev l sc m N (by omega) hN hl hs m [] (by simp)
        exact ⟨(r.1, (decide (r.2.1 = true), ())), hr, Ev.eq (fun k => spec_SeatPlayers_eq k l sc _) (Ev.bind ea (Ev.neg (fun h => h qa) (Ev.bind eb (Ev.neg (by simpa using qb) (Ev.bind (l1In_ev _ _ _) (Ev.neg (by simpa using qc) (Ev.bind er Ev.ret)))))))⟩
      · exact ⟨([], (false, ())), by simp, Ev.eq (fun k => spec_SeatPlayers_eq k l sc v) (Ev.bind ea (Ev.neg (fun h => h qa) (Ev.bind eb (Ev.neg (by simpa using qb) (Ev.bind (l1In_ev _ _ _) (Ev.pos (by simpa using qc) Ev.ret))))))⟩
    · exact ⟨([], (false, ())), by simp, Ev.eq (fun k => spec_SeatPlayers_eq k l sc v) (Ev.bind ea (Ev.neg (fun h => h qa) (Ev.bind eb (Ev.pos (by simpa using qb) Ev.ret))))⟩
  · exact ⟨([], (false, ())), by simp, Ev.eq (fun k => spec_SeatPlayers_eq k l sc v) (Ev.bind ea (Ev.pos qa Ev.ret))⟩
theorem seatS_gd {n : Nat} (h4 : 4 ≤ n) (hn : n + 1 ≤ 1000000) {o : DT32} (h : Gd n o) (v : Int) : St1 n o (fun k => spec_StepSeat k o v) := by
  have b := gd_bk h (by omega)
  obtain ⟨p, hp, ep⟩ := seatV_ev o.2.2.2.1 o.1 v (by omega) h.2.2.1 (by have := h.1; omega)
  have h' := gd_mono h (Nat.le_succ n)
  have hg : Gd (n + 1) (o.1, (o.2.1, (o.2.2.1, (o.2.2.2.1, (p.1, o.2.2.2.2.2))))) := ⟨h'.1, h'.2.1, h'.2.2.1, by show p.1.length ≤ _; omega, h'.2.2.2.2⟩
  exact st1_of (done1 hn h hg (decide (p.2.1 = true))) fun v e1 =>
    Ev.eq (fun k => spec_StepSeat_eq k o _) (Ev.bind (l33_ev _ b) (Ev.bind ep (Ev.bind e1 Ev.ret)))
/-- A player of few voices. -/
def few1 (p : DT43) : Prop := p.2.2.2.1.length ≤ 3
theorem fewP_sub {n m : Nat} {l l' : List DT43} (h : fewP n l) (hl : l'.length ≤ m) (hm : ∀ p ∈ l', p ∈ l) : fewP m l' := ⟨hl, fun p hp => h.2 p (hm p hp)⟩
theorem fewP_app {n m k : Nat} {l l' : List DT43} (h : fewP n l) (h' : fewP m l') (hk : l.length + l'.length ≤ k) : fewP k (l ++ l') := ⟨by rw [List.length_append]; exact hk, fun p hp => (List.mem_append.1 hp).elim (h.2 p) (h'.2 p)⟩
theorem gd_players {n : Nat} {o : DT32} (h : Gd n o) {l : List DT43} (hl : fewP (n + 1) l) {seats : List Int} (hs : seats.length ≤ n + 1) : Gd (n + 1) (o.1, (o.2.1, (o.2.2.1, (l, (seats, o.2.2.2.2.2))))) :=
  have h := gd_mono h (Nat.le_succ n); ⟨h.1, h.2.1, hl, hs, h.2.2.2.2⟩
/-- How a step ends. -/
theorem fin1 {n : Nat} (hn : n + 1 ≤ 1000000) {o out : DT32} (h : Gd n o) (h2 : Gd (n + 1) out) (ok : Bool) : St1 n o (fun k => (spec_l34Done k o out ok).bind fun r => some (r.1, (decide (r.2.1 = true), ()))) :=
  st1_of (done1 hn h h2 ok) fun v e => Ev.bind e Ev.ret
theorem tempoS_gd {n : Nat} (hn : n + 1 ≤ 1000000) {o : DT32} (h : Gd n o) (x : DT25) : St1 n o (fun k => spec_StepTempo k o x) := by
  have b := gd_bk h (by omega)
  have hl : o.2.2.1.length ≤ 1048576 := by have := h.2.1; omega
  obtain ⟨p, hp, h1, h2⟩ := first_idx (fun i => ((rd T25 o.2.2.1 (i : Int)).1 : Int) < x.1) o.2.2.1.length
  have hlen := setT_len o.2.2.1 x p hp
  have h' := gd_mono h (Nat.le_succ n)
  have hg : Gd (n + 1) (o.1, (o.2.1, (setT o.2.2.1 x p, o.2.2.2))) := ⟨h'.1, by have := h.2.1; show (setT o.2.2.1 x p).length ≤ _; omega, h'.2.2⟩
  obtain ⟨v, g1, g2, e1⟩ := done1 hn h hg true
  have hd : ∀ w : DT32 × (Bool × Unit), (w.1, (decide (w.2.1 = true), ())) = w := fun w => by simp
  refine ⟨v, g1, ?_, Ev.eq (fun k => spec_StepTempo_eq k o x) (Ev.bind (l33_ev _ b) (Ev.loop (f := fun k m => spec_StepTempo.l0 k m 0 o.1 o.2.1.1 o.2.1.2.1 o.2.2.1 o.2.2.2.1 o.2.2.2.2.1 o.2.2.2.2.2.1 o.2.2.2.2.2.2.1 o.2.2.2.2.2.2.2.1 o.2.2.2.2.2.2.2.2.1 x.1 x.2.1 0 0 0 0 o.2.1.1 o.2.1.2.1 o.2.2.2.2.2.2.2.1 o.2.2.2.2.2.2.2.2.1 o.1 o.2.2.1 o.2.2.2.1 o.2.2.2.2.1 o.2.2.2.2.2.1 o.2.2.2.2.2.2.1) (specT_loop o x v hl p hp h1 h2 e1 p 0 (by omega))))⟩
  rcases g2 with rfl | ⟨out, rfl, g2⟩
  · exact .inl rfl
  · exact .inr g2
theorem joinS_gd {n : Nat} (hn : n + 1 ≤ 1000000) {o : DT32} (h : Gd n o) (p : DT43) (hp : few1 p) : St1 n o (fun k => spec_StepJoin k o p) := by
  have b := gd_bk h (by omega)
  have hpl := h.2.2.1
  have hlen : o.2.2.2.1.length ≤ n := hpl.1
  have hone : fewP 1 [p] := ⟨by simp, fun q hq => by simp at hq; subst hq; exact hp⟩
  have put : ∀ i : Nat, i ≤ o.2.2.2.1.length → St1 n o (fun k => (spec_l29Copy k (List.take ((Int.toNat (i : Int)) - (Int.toNat 0)) (List.drop (Int.toNat 0) o.2.2.2.1))).bind fun r2 => (spec_l29Copy k ([p])).bind fun r3 =>
      if (List.length r2 + List.length r3) * 48 ≤ 211106232532992 then if 0 ≤ (i : Int) then if (i : Int) ≤ ((List.length o.2.2.2.1 : Nat) : Int) then
      (spec_l29Copy k (List.take ((Int.toNat ((List.length o.2.2.2.1 : Nat) : Int)) - (Int.toNat (i : Int))) (List.drop (Int.toNat (i : Int)) o.2.2.2.1))).bind fun r4 =>
      if (List.length (r2 ++ r3) + List.length r4) * 48 ≤ 211106232532992 then
      (spec_l34Done k o (o.1, (o.2.1, (o.2.2.1, (((r2 ++ r3) ++ r4), o.2.2.2.2)))) true).bind fun r5 => some (r5.1, (decide (r5.2.1 = true), ())) else none else none else none else none) := by
    intro i hi
    have la : (List.take ((Int.toNat (i : Int)) - (Int.toNat 0)) (List.drop (Int.toNat 0) o.2.2.2.1)).length = i := by simp; omega
    have lb : (List.take ((Int.toNat ((List.length o.2.2.2.1 : Nat) : Int)) - (Int.toNat (i : Int))) (List.drop (Int.toNat (i : Int)) o.2.2.2.1)).length = o.2.2.2.1.length - i := by simp
    have fa : fewP n (List.take ((Int.toNat (i : Int)) - (Int.toNat 0)) (List.drop (Int.toNat 0) o.2.2.2.1)) := fewP_sub hpl (by omega) fun q hq => List.mem_of_mem_drop (List.mem_of_mem_take hq)
    have fb : fewP n (List.take ((Int.toNat ((List.length o.2.2.2.1 : Nat) : Int)) - (Int.toNat (i : Int))) (List.drop (Int.toNat (i : Int)) o.2.2.2.1)) := fewP_sub hpl (by omega) fun q hq => List.mem_of_mem_drop (List.mem_of_mem_take hq)
    generalize List.take ((Int.toNat (i : Int)) - (Int.toNat 0)) (List.drop (Int.toNat 0) o.2.2.2.1) = A at la fa ⊢
    generalize List.take ((Int.toNat ((List.length o.2.2.2.1 : Nat) : Int)) - (Int.toNat (i : Int))) (List.drop (Int.toNat (i : Int)) o.2.2.2.1) = B at lb fb ⊢
    have hgg := gd_players h (l := (A ++ [p]) ++ B) (fewP_app (fewP_app (k := n + 1) fa hone (by simp; omega)) fb (by simp; omega)) (seats := o.2.2.2.2.1) (by have := h.2.2.2.1; omega)
    obtain ⟨v, g1, g2, e1⟩ := fin1 hn h hgg true
    exact ⟨v, g1, g2, Ev.bind (l29_ev _ (bkP_few fa (by omega))) (Ev.bind (l29_ev _ (bkP_few hone (by omega))) (Ev.pos (by simp only [List.length_singleton]; omega) (Ev.pos (by omega) (Ev.pos (by omega) (Ev.bind (l29_ev _ (bkP_few fb (by omega))) (Ev.pos (by simp only [List.length_append, List.length_singleton]; omega) e1))))))⟩
  have key : ∀ d i : Nat, i + d = o.2.2.2.1.length → ∃ v : DT32 × (Bool × Unit), Gd (n + 1) v.1 ∧ (v.1 = o ∨ Ev (fun k => spec_IsOrchestra k v.1) true) ∧ E2 (fun k m => spec_StepJoin.l0 k m (i : Int) o.1 o.2.1.1 o.2.1.2.1 o.2.2.1 o.2.2.2.1 o.2.2.2.2.1 o.2.2.2.2.2.1 o.2.2.2.2.2.2.1 o.2.2.2.2.2.2.2.1 o.2.2.2.2.2.2.2.2.1 p.1 p.2.1 p.2.2.1 p.2.2.2.1 0 0 0 0 o.2.1.1 o.2.1.2.1 o.2.2.2.2.2.2.2.1 o.2.2.2.2.2.2.2.2.1 o.1 o.2.2.1 o.2.2.2.1 o.2.2.2.2.1 o.2.2.2.2.2.1 o.2.2.2.2.2.2.1) v := by
    intro d
    induction d with
    | zero =>
      intro i hi
      obtain ⟨v, g1, g2, e1⟩ := put i (by omega)
      exact ⟨v, g1, g2, E2.eq (fun k m => spec_StepJoin.l0_eq k m _ _ _ _ _ _ _ _ _ _ _ _ _ _ _ _ _ _ _ _ _ _ _ _ _ _ _ _ _) (E2.neg (by omega) (E2.pos (by omega) (E2.pos (by omega) (E2.of e1))))⟩
    | succ d ih =>
      intro i hi
      by_cases c : LT.lt (α := Int) (rd T43 o.2.2.2.1 (i : Int)).1 p.1
      · obtain ⟨v, g1, g2, e1⟩ := ih (i + 1) (by omega)
        refine ⟨v, g1, g2, E2.eq (fun k m => spec_StepJoin.l0_eq k m _ _ _ _ _ _ _ _ _ _ _ _ _ _ _ _ _ _ _ _ _ _ _ _ _ _ _ _ _) (E2.pos (by omega) (E2.pos (by omega) (E2.pos (by omega) (E2.pos c ?_))))⟩
        simp only [wrapS (show i < 9223372036854775807 by omega)]
        exact e1
      · obtain ⟨v, g1, g2, e1⟩ := put i (by omega)
        exact ⟨v, g1, g2, E2.eq (fun k m => spec_StepJoin.l0_eq k m _ _ _ _ _ _ _ _ _ _ _ _ _ _ _ _ _ _ _ _ _ _ _ _ _ _ _ _ _) (E2.pos (by omega) (E2.pos (by omega) (E2.pos (by omega) (E2.neg c (E2.pos (by omega) (E2.pos (by omega) (E2.of e1)))))))⟩
  obtain ⟨v, g1, g2, e1⟩ := key o.2.2.2.1.length 0 (by omega)
  exact ⟨v, g1, g2, Ev.eq (fun k => spec_StepJoin_eq k o p) (Ev.bind (l33_ev _ b) (Ev.loop (f := fun k m => spec_StepJoin.l0 k m 0 o.1 o.2.1.1 o.2.1.2.1 o.2.2.1 o.2.2.2.1 o.2.2.2.2.1 o.2.2.2.2.2.1 o.2.2.2.2.2.2.1 o.2.2.2.2.2.2.2.1 o.2.2.2.2.2.2.2.2.1 p.1 p.2.1 p.2.2.1 p.2.2.2.1 0 0 0 0 o.2.1.1 o.2.1.2.1 o.2.2.2.2.2.2.2.1 o.2.2.2.2.2.2.2.2.1 o.1 o.2.2.1 o.2.2.2.1 o.2.2.2.2.1 o.2.2.2.2.2.1 o.2.2.2.2.2.2.1) e1))⟩
theorem substS_ev (l : List DT43) (sc : List DT39) (seats : List Int) (v : Int) {N : Nat} (hN : N ≤ 1000000) (hl : fewP N l) (hs : sc.length ≤ 1048576) (h2 : seats.length ≤ 1048576) : ∃ r : Int × (Bool × Unit), Ev (fun k => spec_Substitute k l sc seats v) r := by
  obtain ⟨a, ea, _⟩ := specSeating_ev l sc seats (smP_few hl (by omega)) hs h2
  by_cases qa : a = true
  · by_cases qc : 1 ≤ v ∧ v ≤ ((List.length seats : Nat) : Int)
    · have hll := hl.1
      have key : ∀ (e i : Nat), i + e = l.length → ∃ r : Int × (Bool × Unit), E2 (fun k m => spec_Substitute.l0 k m l sc seats v (i : Int)) r := by
        intro e
        induction e with
        | zero => intro i hi; exact ⟨_, E2.eq (fun k m => spec_Substitute.l0_eq k m l sc seats v _) (E2.neg (by omega) E2.ret)⟩
        | succ e ihe =>
          intro i hi
          obtain ⟨r, er⟩ := ihe (i + 1) (by omega)
          have h1 := has_ev seats (rd T43 l (i : Int)).1 h2
          by_cases q : decide (((rd T43 l (i : Int)).1 : Int) ∈ seats) = true
          · refine ⟨r, E2.eq (fun k m => spec_Substitute.l0_eq k m l sc seats v _) (E2.pos (by omega) (E2.pos (by omega) (E2.pos (by omega) (E2.bind h1 (E2.neg (fun hh => hh q) ?_)))))⟩
            simp only [wrapS (show i < 9223372036854775807 by omega)]
            exact er
          · have hv : (rd T43 l (i : Int)).2.2.2.1.length ≤ 1048576 := by
              rw [rd_at (show i < l.length by omega)]
              exact Nat.le_trans (hl.2 _ (List.getElem_mem _)) (by omega)
            obtain ⟨b, eb, _⟩ := specCan_ev (rd T43 l (i : Int)) sc v hv hs
            by_cases qb : b = true
            · exact ⟨_, E2.eq (fun k m => spec_Substitute.l0_eq k m l sc seats v _) (E2.pos (by omega) (E2.pos (by omega) (E2.pos (by omega) (E2.bind h1 (E2.pos q (E2.pos (by omega) (E2.pos (by omega) (E2.bind eb (E2.pos qb (E2.pos (by omega) (E2.pos (by omega) E2.ret)))))))))))⟩
            · refine ⟨r, E2.eq (fun k m => spec_Substitute.l0_eq k m l sc seats v _) (E2.pos (by omega) (E2.pos (by omega) (E2.pos (by omega) (E2.bind h1 (E2.pos q (E2.pos (by omega) (E2.pos (by omega) (E2.bind eb (E2.neg qb ?_)))))))))⟩
              simp only [wrapS (show i < 9223372036854775807 by omega)]
              exact er
      obtain ⟨r, er⟩ := key l.length 0 (by omega)
      exact ⟨r, Ev.eq (fun k => spec_Substitute_eq k l sc seats v) (Ev.bind ea (Ev.neg (fun hh => hh qa) (Ev.bind (l1In_ev _ _ _) (Ev.neg (by simpa using qc) (Ev.loop (f := fun k m => spec_Substitute.l0 k m l sc seats v 0) er)))))⟩
    · exact ⟨_, Ev.eq (fun k => spec_Substitute_eq k l sc seats v) (Ev.bind ea (Ev.neg (fun hh => hh qa) (Ev.bind (l1In_ev _ _ _) (Ev.pos (by simpa using qc) Ev.ret))))⟩
  · exact ⟨_, Ev.eq (fun k => spec_Substitute_eq k l sc seats v) (Ev.bind ea (Ev.pos qa Ev.ret))⟩
theorem leaveS_gd {n : Nat} (hn : n + 1 ≤ 1000000) {o : DT32} (h : Gd n o) (id : Int) : St1 n o (fun k => spec_StepLeave k o id) := by
  have b := gd_bk h (by omega)
  have hpl := h.2.2.1
  have hlen : o.2.2.2.1.length ≤ n := hpl.1
  have hsl : o.2.2.2.2.1.length ≤ n := h.2.2.2.1
  have fin : ∀ (ok : Bool) (ps : List DT43) (seats : List Int), fewP (n + 1) ps → seats.length ≤ n + 1 → St1 n o (fun k => (spec_l34Done k o (o.1, (o.2.1, (o.2.2.1, (ps, (seats, o.2.2.2.2.2))))) ok).bind fun r => some (r.1, (decide (r.2.1 = true), ()))) := fun ok ps seats h1 h2 => fin1 hn h (gd_players h h1 h2) ok
  have key1 : ∀ (ps : List DT43) (iv : Int), fewP (n + 1) ps → ∀ (d i : Nat) (ok : Bool) (seats : List Int), i + d = o.2.2.2.2.1.length → seats.length = o.2.2.2.2.1.length → ∃ v : DT32 × (Bool × Unit), Gd (n + 1) v.1 ∧ (v.1 = o ∨ Ev (fun k => spec_IsOrchestra k v.1) true) ∧ E2 (fun k m => spec_StepLeave.l1 k m id ok iv (i : Int) o.1 o.2.1.1 o.2.1.2.1 o.2.2.1 o.2.2.2.1 o.2.2.2.2.1 o.2.2.2.2.2.1 o.2.2.2.2.2.2.1 o.2.2.2.2.2.2.2.1 o.2.2.2.2.2.2.2.2.1 0 0 0 0 o.2.1.1 o.2.1.2.1 o.2.2.2.2.2.2.2.1 o.2.2.2.2.2.2.2.2.1 o.1 o.2.2.1 ps seats o.2.2.2.2.2.1 o.2.2.2.2.2.2.1) v := by
    intro ps iv hps d
    induction d with
    | zero =>
      intro i ok seats hi hs
      obtain ⟨v, g1, g2, e1⟩ := fin (decide (ok = true)) ps seats hps (by omega)
      exact ⟨v, g1, g2, E2.eq (fun k m => spec_StepLeave.l1_eq k m _ _ _ _ _ _ _ _ _ _ _ _ _ _ _ _ _ _ _ _ _ _ _ _ _ _ _ _) (E2.neg (by omega) (E2.of e1))⟩
    | succ d ih =>
      intro i ok seats hi hs
      by_cases c : ok = true
      · by_cases q : Eq (α := Int) (rd (.int .i64) o.2.2.2.2.1 (i : Int)) id
        · obtain ⟨r, er⟩ := substS_ev o.2.2.2.1 o.1 o.2.2.2.2.1 (IntKind.wrap .i64 ((i : Int) + 1)) (by omega) hpl (by have := h.1; omega) (by omega)
          obtain ⟨v, g1, g2, e1⟩ := ih (i + 1) (decide (r.2.1 = true)) (List.set seats (Int.toNat (i : Int)) r.1) (by omega) (by rw [List.length_set]; exact hs)
          refine ⟨v, g1, g2, E2.eq (fun k m => spec_StepLeave.l1_eq k m _ _ _ _ _ _ _ _ _ _ _ _ _ _ _ _ _ _ _ _ _ _ _ _ _ _ _ _) (E2.pos (by omega) (E2.pos c (E2.pos (by omega) (E2.pos (by omega) (E2.pos q (E2.bind er (E2.pos (by omega) (E2.pos (by omega) ?_))))))))⟩
          simp only [wrapS (show i < 9223372036854775807 by omega)]
          exact e1
        · obtain ⟨v, g1, g2, e1⟩ := ih (i + 1) (decide (ok = true)) seats (by omega) hs
          refine ⟨v, g1, g2, E2.eq (fun k m => spec_StepLeave.l1_eq k m _ _ _ _ _ _ _ _ _ _ _ _ _ _ _ _ _ _ _ _ _ _ _ _ _ _ _ _) (E2.pos (by omega) (E2.pos c (E2.pos (by omega) (E2.pos (by omega) (E2.neg q ?_)))))⟩
          simp only [wrapS (show i < 9223372036854775807 by omega)]
          exact e1
      · obtain ⟨v, g1, g2, e1⟩ := fin (decide (ok = true)) ps seats hps (by omega)
        exact ⟨v, g1, g2, E2.eq (fun k m => spec_StepLeave.l1_eq k m _ _ _ _ _ _ _ _ _ _ _ _ _ _ _ _ _ _ _ _ _ _ _ _ _ _ _ _) (E2.pos (by omega) (E2.neg c (E2.of e1)))⟩
  have key0 : ∀ (d i : Nat) (ok : Bool) (ps : List DT43), i + d = o.2.2.2.1.length → fewP i ps → ∃ v : DT32 × (Bool × Unit), Gd (n + 1) v.1 ∧ (v.1 = o ∨ Ev (fun k => spec_IsOrchestra k v.1) true) ∧ E2 (fun k m => spec_StepLeave.l0 k m id ok (i : Int) o.1 o.2.1.1 o.2.1.2.1 o.2.2.1 o.2.2.2.1 o.2.2.2.2.1 o.2.2.2.2.2.1 o.2.2.2.2.2.2.1 o.2.2.2.2.2.2.2.1 o.2.2.2.2.2.2.2.2.1 0 0 0 0 o.2.1.1 o.2.1.2.1 o.2.2.2.2.2.2.2.1 o.2.2.2.2.2.2.2.2.1 o.1 o.2.2.1 ps o.2.2.2.2.1 o.2.2.2.2.2.1 o.2.2.2.2.2.2.1) v := by
    intro d
    induction d with
    | zero =>
      intro i ok ps hi hps
      obtain ⟨v, g1, g2, e1⟩ := key1 ps (i : Int) (fewP_mono hps (by omega)) o.2.2.2.2.1.length 0 (decide (ok = true)) o.2.2.2.2.1 (by omega) rfl
      exact ⟨v, g1, g2, E2.eq (fun k m => spec_StepLeave.l0_eq k m _ _ _ _ _ _ _ _ _ _ _ _ _ _ _ _ _ _ _ _ _ _ _ _ _ _ _) (E2.neg (by omega) (E2.of (Ev.loop (f := fun k m => spec_StepLeave.l1 k m id (decide (ok = true)) (i : Int) 0 o.1 o.2.1.1 o.2.1.2.1 o.2.2.1 o.2.2.2.1 o.2.2.2.2.1 o.2.2.2.2.2.1 o.2.2.2.2.2.2.1 o.2.2.2.2.2.2.2.1 o.2.2.2.2.2.2.2.2.1 0 0 0 0 o.2.1.1 o.2.1.2.1 o.2.2.2.2.2.2.2.1 o.2.2.2.2.2.2.2.2.1 o.1 o.2.2.1 ps o.2.2.2.2.1 o.2.2.2.2.2.1 o.2.2.2.2.2.2.1) e1)))⟩
    | succ d ih =>
      intro i ok ps hi hps
      have hpsl := hps.1
      by_cases c : Eq (α := Int) (rd T43 o.2.2.2.1 (i : Int)).1 id
      · obtain ⟨v, g1, g2, e1⟩ := ih (i + 1) true ps (by omega) (fewP_mono hps (by omega))
        refine ⟨v, g1, g2, E2.eq (fun k m => spec_StepLeave.l0_eq k m _ _ _ _ _ _ _ _ _ _ _ _ _ _ _ _ _ _ _ _ _ _ _ _ _ _ _) (E2.pos (by omega) (E2.pos (by omega) (E2.pos (by omega) (E2.pos c ?_))))⟩
        simp only [wrapS (show i < 9223372036854775807 by omega)]
        exact e1
      · have sl : (List.take ((Int.toNat ((i + 1 : Nat) : Int)) - (Int.toNat (i : Int))) (List.drop (Int.toNat (i : Int)) o.2.2.2.1)).length = 1 := by simp; omega
        have sf : fewP 1 (List.take ((Int.toNat ((i + 1 : Nat) : Int)) - (Int.toNat (i : Int))) (List.drop (Int.toNat (i : Int)) o.2.2.2.1)) := fewP_sub hpl (by omega) fun q hq => List.mem_of_mem_drop (List.mem_of_mem_take hq)
        refine (fun go => ?_ : (∀ A : List DT43, A.length = 1 → fewP 1 A → ∃ v : DT32 × (Bool × Unit), Gd (n + 1) v.1 ∧ (v.1 = o ∨ Ev (fun k => spec_IsOrchestra k v.1) true) ∧ E2 (fun k m => if (List.length ps + List.length ([(rd T43 A 0)] : (List DT43))) * 48 ≤ 211106232532992 then spec_StepLeave.l0 k m id (decide (ok = true)) ((i + 1 : Nat) : Int) o.1 o.2.1.1 o.2.1.2.1 o.2.2.1 o.2.2.2.1 o.2.2.2.2.1 o.2.2.2.2.2.1 o.2.2.2.2.2.2.1 o.2.2.2.2.2.2.2.1 o.2.2.2.2.2.2.2.2.1 0 0 0 0 o.2.1.1 o.2.1.2.1 o.2.2.2.2.2.2.2.1 o.2.2.2.2.2.2.2.2.1 o.1 o.2.2.1 (ps ++ ([(rd T43 A 0)] : (List DT43))) o.2.2.2.2.1 o.2.2.2.2.2.1 o.2.2.2.2.2.2.1 else none) v) → _) ?_
        · obtain ⟨v, g1, g2, e1⟩ := go _ sl sf
          refine ⟨v, g1, g2, E2.eq (fun k m => spec_StepLeave.l0_eq k m _ _ _ _ _ _ _ _ _ _ _ _ _ _ _ _ _ _ _ _ _ _ _ _ _ _ _) (E2.pos (by omega) (E2.pos (by omega) (E2.pos (by omega) (E2.neg c ?_))))⟩
          simp only [wrapS (show i < 9223372036854775807 by omega)]
          exact E2.pos (by omega) (E2.pos (by omega) (E2.pos (by omega) (E2.pos (by omega) (E2.bind (l29_ev _ (bkP_few sf (by omega))) (E2.pos (by omega) (E2.pos (by omega) e1))))))
        · intro A hA fA
          obtain ⟨v, g1, g2, e1⟩ := ih (i + 1) (decide (ok = true)) (ps ++ [rd T43 A 0]) (by omega) (fewP_app hps (m := 1) ⟨by simp, fun q hq => by
            simp at hq
            subst hq
            have : rd T43 A ((0 : Nat) : Int) = A[0]'(by omega) := rd_at (by omega)
            have h0 : rd T43 A (0 : Int) = A[0]'(by omega) := this
            rw [h0]
            exact fA.2 _ (List.getElem_mem _)⟩ (by simp; omega))
          exact ⟨v, g1, g2, E2.pos (by simp only [List.length_singleton]; omega) e1⟩
  obtain ⟨v, g1, g2, e1⟩ := key0 o.2.2.2.1.length 0 false [] (by omega) ⟨by simp, by simp⟩
  exact ⟨v, g1, g2, Ev.eq (fun k => spec_StepLeave_eq k o id) (Ev.bind (l33_ev _ b) (Ev.loop (f := fun k m => spec_StepLeave.l0 k m id false 0 o.1 o.2.1.1 o.2.1.2.1 o.2.2.1 o.2.2.2.1 o.2.2.2.2.1 o.2.2.2.2.2.1 o.2.2.2.2.2.2.1 o.2.2.2.2.2.2.2.1 o.2.2.2.2.2.2.2.2.1 0 0 0 0 o.2.1.1 o.2.1.2.1 o.2.2.2.2.2.2.2.1 o.2.2.2.2.2.2.2.2.1 o.1 o.2.2.1 [] o.2.2.2.2.1 o.2.2.2.2.2.1 o.2.2.2.2.2.2.1) e1))⟩
/-- A happening whose player has few voices. -/
def HpOk (x : DT47) : Prop := few1 x.2.2.2.2.1
theorem st1_dec {n : Nat} {o : DT32} {f g : Nat → Option (DT32 × (Bool × Unit))} (h : St1 n o f) (hf : ∀ v, Ev f v → Ev g (v.1, (decide (v.2.1 = true), ()))) : St1 n o g := by
  obtain ⟨v, g1, g2, e1⟩ := h
  exact ⟨(v.1, (decide (v.2.1 = true), ())), g1, g2, hf v e1⟩
theorem applyS_gd {n : Nat} (h4 : 4 ≤ n) (hn : n + 1 ≤ 1000000) {o : DT32} (h : Gd n o) (x : DT47) (hx : HpOk x) : St1 n o (fun k => spec_Apply k o x) := by
  by_cases c1 : (x.1 : Int) = 1
  · exact st1_dec (writeS_gd hn h x.2.2.1) fun v e => Ev.eq (fun k => spec_Apply_eq k o x) (Ev.pos c1 (Ev.bind e Ev.ret))
  by_cases c2 : (x.1 : Int) = 2
  · exact st1_dec (eraseS_gd hn h x.2.2.1) fun v e => Ev.eq (fun k => spec_Apply_eq k o x) (Ev.neg c1 (Ev.pos c2 (Ev.bind e Ev.ret)))
  by_cases c3 : (x.1 : Int) = 3
  · exact st1_dec (tempoS_gd hn h x.2.2.2.1) fun v e => Ev.eq (fun k => spec_Apply_eq k o x) (Ev.neg c1 (Ev.neg c2 (Ev.pos c3 (Ev.bind e Ev.ret))))
  by_cases c4 : (x.1 : Int) = 4
  · exact st1_dec (seatS_gd h4 hn h x.2.1) fun v e => Ev.eq (fun k => spec_Apply_eq k o x) (Ev.neg c1 (Ev.neg c2 (Ev.neg c3 (Ev.pos c4 (Ev.bind e Ev.ret)))))
  by_cases c5 : (x.1 : Int) = 5
  · exact st1_dec (leaveS_gd hn h x.2.1) fun v e => Ev.eq (fun k => spec_Apply_eq k o x) (Ev.neg c1 (Ev.neg c2 (Ev.neg c3 (Ev.neg c4 (Ev.pos c5 (Ev.bind e Ev.ret))))))
  by_cases c6 : (x.1 : Int) = 6
  · exact st1_dec (joinS_gd hn h x.2.2.2.2.1 hx) fun v e => Ev.eq (fun k => spec_Apply_eq k o x) (Ev.neg c1 (Ev.neg c2 (Ev.neg c3 (Ev.neg c4 (Ev.neg c5 (Ev.pos c6 (Ev.bind e Ev.ret)))))))
  by_cases c7 : (x.1 : Int) = 7
  · exact st1_dec (markS_gd hn h _ _ _ _) fun v e => Ev.eq (fun k => spec_Apply_eq k o x) (Ev.neg c1 (Ev.neg c2 (Ev.neg c3 (Ev.neg c4 (Ev.neg c5 (Ev.neg c6 (Ev.pos c7 (Ev.bind e Ev.ret))))))))
  by_cases c8 : (x.1 : Int) = 8
  · exact st1_dec (tickS_gd hn h x.2.1) fun v e => Ev.eq (fun k => spec_Apply_eq k o x) (Ev.neg c1 (Ev.neg c2 (Ev.neg c3 (Ev.neg c4 (Ev.neg c5 (Ev.neg c6 (Ev.neg c7 (Ev.pos c8 (Ev.bind e Ev.ret)))))))))
  · exact ⟨(o, (false, ())), gd_mono h (Nat.le_succ n), .inl rfl, Ev.eq (fun k => spec_Apply_eq k o x) (Ev.neg c1 (Ev.neg c2 (Ev.neg c3 (Ev.neg c4 (Ev.neg c5 (Ev.neg c6 (Ev.neg c7 (Ev.neg c8 (Ev.bind (l33_ev _ (gd_bk h (by omega))) Ev.ret)))))))))⟩
theorem runS_gd {n : Nat} (h4 : 4 ≤ n) {o : DT32} (h : Gd n o) (l : List DT47) (hl : ∀ x ∈ l, HpOk x) (hn : n + l.length ≤ 100000) : ∃ v : DT32, Gd (n + l.length) v ∧ Ev (fun k => spec_RunAll k o l) v := by
  have key : ∀ (d i : Nat) (p : DT32), i + d = l.length → Gd (n + i) p → ∃ v : DT32, Gd (n + l.length) v ∧ E2 (fun k m => spec_RunAll.l0 k m l (i : Int) 0 0 0 0 p.2.1.1 p.2.1.2.1 p.2.2.2.2.2.2.2.1 p.2.2.2.2.2.2.2.2.1 p.1 p.2.2.1 p.2.2.2.1 p.2.2.2.2.1 p.2.2.2.2.2.1 p.2.2.2.2.2.2.1) v := by
    intro d
    induction d with
    | zero =>
      intro i p hi hp
      have hi : i = l.length := by omega
      subst hi
      exact ⟨p, hp, E2.eq (fun k m => spec_RunAll.l0_eq k m _ _ _ _ _ _ _ _ _ _ _ _ _ _ _ _) (E2.neg (by omega) E2.ret)⟩
    | succ d ih =>
      intro i p hi hp
      obtain ⟨r, g1, _, e1⟩ := applyS_gd (n := n + i) (by omega) (by omega) hp (rd T47 l (i : Int)) (by
        rw [rd_at (show i < l.length by omega)]
        exact hl _ (List.getElem_mem _))
      obtain ⟨v, g2, e2⟩ := ih (i + 1) r.1 (by omega) g1
      refine ⟨v, g2, E2.eq (fun k m => spec_RunAll.l0_eq k m _ _ _ _ _ _ _ _ _ _ _ _ _ _ _ _) (E2.pos (by omega) (E2.pos (by omega) (E2.pos (by omega) (E2.bind e1 ?_))))⟩
      simp only [wrapS (show i < 9223372036854775807 by omega)]
      exact e2
  obtain ⟨v, g1, e1⟩ := key l.length 0 o (by omega) h
  exact ⟨v, g1, Ev.eq (fun k => spec_RunAll_eq k o l) (Ev.bind (l33_ev _ (gd_bk h (by omega))) (Ev.loop (f := fun k m => spec_RunAll.l0 k m l 0 0 0 0 0 o.2.1.1 o.2.1.2.1 o.2.2.2.2.2.2.2.1 o.2.2.2.2.2.2.2.2.1 o.1 o.2.2.1 o.2.2.2.1 o.2.2.2.2.1 o.2.2.2.2.2.1 o.2.2.2.2.2.2.1) e1))⟩
theorem l35One_dr : Dr (fun k c => spec_l35One k c) (fun x => HpOk x) := by
  intro c h
  obtain ⟨a, c1, h1, ha, e1⟩ := l1Below_dr 8 c h
  obtain ⟨b, c2, h2, hb, e2⟩ := l1Below_dr 4 c1 h1
  have w : IntKind.wrap .i64 (1 + a) = 1 + a := wrapI (by omega) (by omega)
  by_cases d1 : IntKind.wrap .i64 (1 + a) = 1
  · obtain ⟨x, c3, h3, _, e3⟩ := l8Event_dr c2 h2
    refine ⟨_, c3, h3, ?_, Ev.eq (fun k => spec_l35One_eq k c) (Ev.bind e1 (Ev.bind e2 (Ev.pos d1 (Ev.pos d1 (Ev.bind e3 Ev.ret)))))⟩
    show ([] : List Int).length ≤ 3
    simp
  by_cases d2 : IntKind.wrap .i64 (1 + a) = 2
  · obtain ⟨x, c3, h3, _, e3⟩ := l8Event_dr c2 h2
    refine ⟨_, c3, h3, ?_, Ev.eq (fun k => spec_l35One_eq k c) (Ev.bind e1 (Ev.bind e2 (Ev.neg d1 (Ev.pos d2 (Ev.bind e3 Ev.ret)))))⟩
    show ([] : List Int).length ≤ 3
    simp
  by_cases d3 : IntKind.wrap .i64 (1 + a) = 3
  · obtain ⟨x, c3, h3, _, e3⟩ := l1Below_dr 9 c2 h2
    obtain ⟨y, c4, h4, _, e4⟩ := l1Below_dr 90 c3 h3
    refine ⟨_, c4, h4, ?_, Ev.eq (fun k => spec_l35One_eq k c) (Ev.bind e1 (Ev.bind e2 (Ev.neg d1 (Ev.neg d2 (Ev.pos d3 (Ev.bind e3 (Ev.bind e4 Ev.ret)))))))⟩
    show ([] : List Int).length ≤ 3
    simp
  by_cases d6 : IntKind.wrap .i64 (1 + a) = 6
  · obtain ⟨x, c3, h3, _, e3⟩ := l1Below_dr 9 c2 h2
    refine ⟨_, c3, h3, ?_, Ev.eq (fun k => spec_l35One_eq k c) (Ev.bind e1 (Ev.bind e2 (Ev.neg d1 (Ev.neg d2 (Ev.neg d3 (Ev.pos d6 (Ev.bind e3 Ev.ret)))))))⟩
    show ([1, 2] : List Int).length ≤ 3
    simp
  by_cases d7 : IntKind.wrap .i64 (1 + a) = 7
  · obtain ⟨x, c3, h3, _, e3⟩ := l25Mark_dr c2 h2
    refine ⟨_, c3, h3, ?_, Ev.eq (fun k => spec_l35One_eq k c) (Ev.bind e1 (Ev.bind e2 (Ev.neg d1 (Ev.neg d2 (Ev.neg d3 (Ev.neg d6 (Ev.pos d7 (Ev.bind e3 Ev.ret))))))))⟩
    show ([] : List Int).length ≤ 3
    simp
  · refine ⟨_, c2, h2, ?_, Ev.eq (fun k => spec_l35One_eq k c) (Ev.bind e1 (Ev.bind e2 (Ev.neg d1 (Ev.neg d2 (Ev.neg d3 (Ev.neg d6 (Ev.neg d7 Ev.ret)))))))⟩
    show ([] : List Int).length ≤ 3
    simp
/-- The happenings that write a score. -/
def wrAll (l : List DT39) : List DT47 := l.map fun e => (1, (0, (e, ((0, (0, ())), ((0, (0, (0, ([], ())))), ((0, (0, (0, (0, (0, ()))))), ()))))))
theorem wrAllS_ev (l : List DT39) (hl : l.length ≤ 1048576) : Ev (fun k => spec_WriteAll k l) (wrAll l) := by
  have key : ∀ (d i : Nat), i + d = l.length → E2 (fun k m => spec_WriteAll.l0 k m l (i : Int) (wrAll (l.take i))) (wrAll l) := by
    intro d
    induction d with
    | zero =>
      intro i hi
      rw [List.take_of_length_le (by omega)]
      exact E2.eq (fun k m => spec_WriteAll.l0_eq k m _ _ _) (E2.neg (by omega) E2.ret)
    | succ d ih =>
      intro i hi
      have e := ih (i + 1) (by omega)
      have hlt : i < l.length := by omega
      have hlen : (wrAll (l.take i)).length = i := by simp [wrAll]; omega
      refine E2.eq (fun k m => spec_WriteAll.l0_eq k m _ _ _) (E2.pos (by omega) (E2.pos (by omega) (E2.pos (by omega) (E2.pos (by simp only [List.length_singleton]; omega) ?_))))
      simp only [wrapS (show i < 9223372036854775807 by omega)]
      have : wrAll (l.take (i + 1)) = wrAll (l.take i) ++ [((1, (0, ((rd T39 l (i : Int)), ((0, (0, ())), ((0, (0, (0, ([], ())))), ((0, (0, (0, (0, (0, ()))))), ())))))) : DT47)] := by
        rw [rd_at hlt]
        unfold wrAll
        rw [List.take_succ_eq_append_getElem hlt, List.map_append]
        rfl
      rw [← this]
      exact e
  exact Ev.eq (fun k => spec_WriteAll_eq k l) (Ev.loop (f := fun k m => spec_WriteAll.l0 k m l 0 []) (key l.length 0 (by omega)))
theorem l35List_dr (most : Int) (hm : most ≤ 100) : Dr (fun k c => spec_l35List k c most) (fun l => l.length ≤ 301 ∧ ∀ x ∈ l, HpOk x) := by
  intro c h
  obtain ⟨sc, c1, h1, hsc, e1⟩ := l13Score_dr c h
  have hsc : sc.length ≤ 200 := hsc
  have e2 := wrAllS_ev sc (by omega)
  have hwl : (wrAll sc).length = sc.length := by simp [wrAll]
  have hwo : ∀ x ∈ wrAll sc, HpOk x := fun x hx => by
    obtain ⟨e, _, rfl⟩ := List.mem_map.1 hx
    show ([] : List Int).length ≤ 3
    simp
  obtain ⟨n, c2, h2, hn, e3⟩ := l1Below_dr most c1 h1
  have key : ∀ (d : Nat) (c : DT199) (s : List DT47), CurOk c → s.length + d ≤ 301 → (∀ x ∈ s, HpOk x) → ∃ (l : List DT47) (c' : DT199), CurOk c' ∧ (l.length ≤ 301 ∧ ∀ x ∈ l, HpOk x) ∧ E2 (fun k m => spec_l35List.l0 k m (d : Int) c.1 c.2.1 c.2.2.1 s) (l, c') := by
    intro d
    induction d with
    | zero =>
      intro c s hc hs ho
      exact ⟨s, c, hc, ⟨by omega, ho⟩, E2.eq (fun k m => spec_l35List.l0_eq k m _ _ _ _ _) (E2.neg (by omega) E2.ret)⟩
    | succ d ih =>
      intro c s hc hs ho
      obtain ⟨x, c', hc', hx, e⟩ := l35One_dr c hc
      obtain ⟨l, c'', h3, h4, e'⟩ := ih c' (s ++ [x]) hc' (by simp; omega) (fun y hy => (List.mem_append.1 hy).elim (ho y) (fun hy => by simp at hy; rw [hy]; exact hx))
      refine ⟨l, c'', h3, h4, E2.eq (fun k m => spec_l35List.l0_eq k m _ _ _ _ _) (E2.pos (by omega) (E2.bind e (E2.pos (by simp only [List.length_singleton]; omega) ?_)))⟩
      have w : IntKind.wrap .i64 (((d + 1 : Nat) : Int) - 1) = (d : Int) := by rw [wrapI (by omega) (by omega)]; omega
      rw [w]
      exact e'
  obtain ⟨N, rfl⟩ := Int.eq_ofNat_of_zero_le hn.1
  have hN : N ≤ 100 := by
    by_cases hm0 : 0 < most
    · have := hn.2.1 hm0; omega
    · have := hn.2.2 (by omega); omega
  obtain ⟨l, c', h3, h4, e4⟩ := key N c2 (wrAll sc ++ [((4, (2, ((0, (0, (0, (0, ())))), ((0, (0, ())), ((0, (0, (0, ([], ())))), ((0, (0, (0, (0, (0, ()))))), ())))))) : DT47)]) h2 (by simp; omega) (fun y hy => (List.mem_append.1 hy).elim (hwo y) (fun hy => by
    simp at hy
    subst hy
    show ([] : List Int).length ≤ 3
    simp))
  exact ⟨l, c', h3, h4, Ev.eq (fun k => spec_l35List_eq k c most) (Ev.bind e1 (Ev.bind e2 (Ev.pos (by simp only [List.length_singleton]; omega) (Ev.bind e3 (Ev.loop (f := fun k m => spec_l35List.l0 k m (N : Int) c2.1 c2.2.1 c2.2.2.1 (wrAll sc ++ [((4, (2, ((0, (0, (0, (0, ())))), ((0, (0, ())), ((0, (0, (0, ([], ())))), ((0, (0, (0, (0, (0, ()))))), ())))))) : DT47)])) e4)))))⟩
theorem newS_gd (m : DT25) (ps : List DT43) (h : fewP 10 ps) : ∃ v : DT32 × (Bool × Unit), Gd 10 v.1 ∧ (v.1 = zeroO ∨ v.1 = newO m ps ∧ Ev (fun k => spec_IsOrchestra k v.1) true) ∧ Ev (fun k => spec_NewOrchestra k m ps) v := by
  have b := newO_bk m ps (bkP_few h (by omega))
  obtain ⟨r, e1⟩ := specIsO_ev (newO m ps) (sm_of b)
  by_cases c : r = true
  · exact ⟨(newO m ps, (true, ())), ⟨by simp [newO], by simp [newO], h, by simp [newO], by simp [newO], by simp [newO]⟩, .inr ⟨rfl, by rw [c] at e1; exact e1⟩, Ev.eq (fun k => spec_NewOrchestra_eq k m ps) (Ev.bind (l33_ev _ b) (Ev.bind e1 (Ev.neg (by simpa using c) Ev.ret)))⟩
  · exact ⟨(zeroO, (false, ())), ⟨by simp [zeroO], by simp [zeroO], ⟨by simp [zeroO], by simp [zeroO]⟩, by simp [zeroO], by simp [zeroO], by simp [zeroO]⟩, .inl rfl, Ev.eq (fun k => spec_NewOrchestra_eq k m ps) (Ev.bind (l33_ev _ b) (Ev.bind e1 (Ev.pos c Ev.ret)))⟩
theorem l35Start_dr : Dr (fun k c => spec_l35Start k c) (fun o => Gd 10 o) := by
  intro c h
  obtain ⟨m, c1, h1, _, e1⟩ := l10Draw_dr c h
  obtain ⟨ps, c2, h2, hps, e2⟩ := l33Voices_dr c1 h1
  obtain ⟨v, gv, _, e3⟩ := newS_gd m ps hps
  exact ⟨v.1, c2, h2, gv, Ev.eq (fun k => spec_l35Start_eq k c) (Ev.bind e1 (Ev.bind e2 (Ev.bind e3 Ev.ret)))⟩
/-- The program's TickAt alone. -/
theorem tickAtI_ev (l : List DT25) (ms : DT25) (hl : l.length ≤ 1048576) : ∃ v : Res, Ev (fun k => impl_TickAt k l ms) v := by
  by_cases hp : tempoP l
  · by_cases hm : isR ms.1 ms.2.1 = true
    · by_cases hn : (ms.1 : Int) < 0
      · exact ⟨noR, Ev.eq (fun k => impl_TickAt_eq k l ms) (Ev.bind (implTempo_ev l hl) (Ev.neg (by simpa using hp) (Ev.bind (implIsRatio_ev ms) (Ev.neg (by simpa using hm) (Ev.pos hn Ev.ret)))))⟩
      · have h1 : 1 ≤ l.length := by have := hp.2; simp at this; omega
        have ht : List.take (Int.toNat ((List.length l : Nat) : Int) - Int.toNat 1) (List.drop (Int.toNat 1) l) = l.drop 1 := by
          rw [Int.toNat_natCast]
          show List.take (l.length - 1) (l.drop 1) = l.drop 1
          rw [List.take_of_length_le (by simp)]
        have hlt : ((l.drop 1).length : Int) = ((l.length - 1 : Nat) : Int) := by simp
        have rate : ∀ i : Nat, i < l.length → LE.le (α := Int) 20 (rd T25 l (i : Int)).2.1 ∧ LE.le (α := Int) (rd T25 l (i : Int)).2.1 300 := fun i hi => (hp.1 i hi).1.1
        have key : ∀ d (i c : Nat) (x y : Int) (w1 w2 : Int), i + d = l.length → 1 ≤ i → c < l.length → ∃ v : Res,
            E2 (fun k m => impl_TickAt.l0 k m l (l.drop 1) ((List.length (l.drop 1) : Nat) : Int) ((i - 1 : Nat) : Int) ms.1 ms.2.1 w1 w2 (rd T25 l (c : Int)).1 (rd T25 l (c : Int)).2.1 x y) v := by
          intro d
          induction d with
          | zero =>
            intro i c x y w1 w2 hi hi1 hc
            have hr := rate c hc
            refine ⟨tickR ms (x, (y, ())) (rd T25 l (c : Int)).1 (rd T25 l (c : Int)).2.1,
              E2.eq (fun k m => impl_TickAt.l0_eq k m l _ _ _ _ _ _ _ _ _ _ _) (E2.neg (by omega) (E2.bind (implAdd_ev _ _) (E2.bind (implMake_ev _ _ (by omega) (by omega) (by omega) (by omega)) (E2.bind (implMul_ev _ _) (E2.bind (implAdd_ev _ _) ?_)))))⟩
            rw [add_comm' ((rd T25 l (c : Int)).1, (1, ()))]
            exact tick_fin4 _ _ _ _ (mk_noR_mul _)
          | succ d ih =>
            intro i c x y w1 w2 hi hi1 hc
            have hr := rate c hc
            have hlt' : i < l.length := by omega
            have hrd : rd T25 (l.drop 1) ((i - 1 : Nat) : Int) = rd T25 l (i : Int) := by
              rw [rd_at (by simp; omega), rd_at hlt', List.getElem_drop]
              congr 1
              omega
            obtain ⟨t, et2, _⟩ := timeOfI_ev l (rd T25 l (i : Int)).1 hl
            have hw : IntKind.wrap .i64 (((i - 1 : Nat) : Int) + 1) = ((i + 1 - 1 : Nat) : Int) := by rw [wrapS (by omega)]; congr 1; omega
            by_cases cok : t.2.1 = true
            · by_cases cls : lessB (ms.1, (ms.2.1, ())) t.1 = true
              · refine ⟨tickR ms (x, (y, ())) (rd T25 l (c : Int)).1 (rd T25 l (c : Int)).2.1,
                  E2.eq (fun k m => impl_TickAt.l0_eq k m l _ _ _ _ _ _ _ _ _ _ _) (E2.pos (by omega) (E2.pos (by omega) (E2.pos (by omega) ?_)))⟩
                rw [hrd]
                refine E2.bind et2 (E2.neg (by simpa using cok) (E2.bind (implLess_ev _ _) (E2.pos cls (E2.bind (implAdd_ev _ _) (E2.bind (implMake_ev _ _ (by omega) (by omega) (by omega) (by omega)) (E2.bind (implMul_ev _ _) (E2.bind (implAdd_ev _ _) ?_)))))))
                rw [add_comm' ((rd T25 l (c : Int)).1, (1, ()))]
                exact tick_fin4 _ _ _ _ (mk_noR_mul _)
              · obtain ⟨v, e2⟩ := ih (i + 1) i t.1.1 t.1.2.1 w1 w2 (by omega) (by omega) hlt'
                refine ⟨v, E2.eq (fun k m => impl_TickAt.l0_eq k m l _ _ _ _ _ _ _ _ _ _ _) (E2.pos (by omega) (E2.pos (by omega) (E2.pos (by omega) ?_)))⟩
                rw [hrd]
                refine E2.bind et2 (E2.neg (by simpa using cok) (E2.bind (implLess_ev _ _) (E2.neg cls ?_)))
                rw [hw]; exact e2
            · refine ⟨noR, E2.eq (fun k m => impl_TickAt.l0_eq k m l _ _ _ _ _ _ _ _ _ _ _) (E2.pos (by omega) (E2.pos (by omega) (E2.pos (by omega) ?_)))⟩
              rw [hrd]
              exact E2.bind et2 (E2.pos cok E2.ret)
        obtain ⟨v, e2⟩ := key (l.length - 1) 1 0 0 1 0 0 (by omega) (by omega) (by omega)
        refine ⟨v, Ev.eq (fun k => impl_TickAt_eq k l ms) (Ev.bind (implTempo_ev l hl) (Ev.neg (by simpa using hp) (Ev.bind (implIsRatio_ev ms) (Ev.neg (by simpa using hm) (Ev.neg hn (Ev.pos (by omega) (Ev.pos (by omega) (Ev.pos (by omega) (Ev.pos (by omega) ?_)))))))))⟩
        rw [ht]
        exact Ev.loop (f := fun k m => impl_TickAt.l0 k m l (l.drop 1) ((List.length (l.drop 1) : Nat) : Int) 0 ms.1 ms.2.1 0 0 (rd T25 l 0).1 (rd T25 l 0).2.1 0 1) e2
    · exact ⟨noR, Ev.eq (fun k => impl_TickAt_eq k l ms) (Ev.bind (implTempo_ev l hl) (Ev.neg (by simpa using hp) (Ev.bind (implIsRatio_ev ms) (Ev.pos (by simpa using hm) Ev.ret))))⟩
  · exact ⟨noR, Ev.eq (fun k => impl_TickAt_eq k l ms) (Ev.bind (implTempo_ev l hl) (Ev.pos (by simpa using hp) Ev.ret))⟩
theorem isExactI_ev (o : DT32) (h1 : o.1.length ≤ 1048576) (h2 : o.2.2.1.length ≤ 1048576) : ∃ r, Ev (fun k => impl_IsExact k o) r := by
  have one : ∀ e : DT39, ∃ b, Ev (fun k => impl_IsExact_1 k e o) b := by
    intro e
    obtain ⟨t, et, _⟩ := timeOfI_ev o.2.2.1 e.1 h2
    obtain ⟨q, eq⟩ := tickAtI_ev o.2.2.1 t.1 h2
    by_cases q1 : t.2.1 = true
    · by_cases q2 : q.2.1 = true
      · exact ⟨_, Ev.eq (fun k => impl_IsExact_1_eq k _ o) (Ev.bind et (Ev.bind eq (Ev.neg (by simpa using q1) (Ev.neg (by simpa using q2) Ev.ret))))⟩
      · exact ⟨true, Ev.eq (fun k => impl_IsExact_1_eq k _ o) (Ev.bind et (Ev.bind eq (Ev.neg (by simpa using q1) (Ev.pos q2 Ev.ret))))⟩
    · exact ⟨true, Ev.eq (fun k => impl_IsExact_1_eq k _ o) (Ev.bind et (Ev.bind eq (Ev.pos q1 Ev.ret)))⟩
  have bv := fun i : Nat => Classical.choose_spec (one (rd T39 o.1 (i : Int)))
  have ef := loop_firstR (R := fun i v => E2 (fun k m => slices_IndexFunc_impl_Event_91.l0 k m o.1 o ((List.length o.1 : Nat) : Int) i) v) (n := o.1.length) (fun i => Classical.choose (one (rd T39 o.1 (i : Int)))) (E2.eq (fun k m => slices_IndexFunc_impl_Event_91.l0_eq k m _ _ _ _) (E2.neg (by omega) E2.ret)) (fun i hi hq v e => by
    refine E2.eq (fun k m => slices_IndexFunc_impl_Event_91.l0_eq k m _ _ _ _) (E2.pos (by omega) (E2.pos (by omega) (E2.pos (by omega) (E2.bind (bv i) (E2.neg (by rw [hq]; simp) ?_)))))
    simp only [wrapS (show i < 9223372036854775807 by omega)]; exact e) (fun i hi hq => E2.eq (fun k m => slices_IndexFunc_impl_Event_91.l0_eq k m _ _ _ _) (E2.pos (by omega) (E2.pos (by omega) (E2.pos (by omega) (E2.bind (bv i) (E2.pos hq E2.ret))))))
  exact ⟨_, Ev.eq (fun k => impl_IsExact_eq k o) (Ev.bind (Ev.eq (fun k => slices_ContainsFunc_impl_Event_91_eq k o.1 o) (Ev.bind (Ev.eq (fun k => slices_IndexFunc_impl_Event_91_eq k o.1 o) (Ev.loop (f := fun k m => slices_IndexFunc_impl_Event_91.l0 k m o.1 o ((List.length o.1 : Nat) : Int) 0) ef)) Ev.ret)) Ev.ret)⟩
theorem areSeatedI_ev (o : DT32) (h1 : o.1.length ≤ 1048576) : ∃ r, Ev (fun k => impl_AreSeated k o) r := by
  have one : ∀ i : Nat, Ev (fun k => impl_AreSeated_1 k (rd T39 o.1 (i : Int)) o) (decide (LT.lt (α := Int) ((List.length o.2.2.2.2.1 : Nat) : Int) (rd T39 o.1 (i : Int)).2.2.2.1)) := fun i => Ev.eq (fun k => impl_AreSeated_1_eq k _ o) Ev.ret
  have ef := loop_firstR (R := fun i v => E2 (fun k m => slices_IndexFunc_impl_Event_92.l0 k m o.1 o ((List.length o.1 : Nat) : Int) i) v) (n := o.1.length) (fun i => decide (LT.lt (α := Int) ((List.length o.2.2.2.2.1 : Nat) : Int) (rd T39 o.1 (i : Int)).2.2.2.1)) (E2.eq (fun k m => slices_IndexFunc_impl_Event_92.l0_eq k m _ _ _ _) (E2.neg (by omega) E2.ret)) (fun i hi hq v e => by
    refine E2.eq (fun k m => slices_IndexFunc_impl_Event_92.l0_eq k m _ _ _ _) (E2.pos (by omega) (E2.pos (by omega) (E2.pos (by omega) (E2.bind (one i) (E2.neg (by rw [hq]; simp) ?_)))))
    simp only [wrapS (show i < 9223372036854775807 by omega)]; exact e) (fun i hi hq => E2.eq (fun k m => slices_IndexFunc_impl_Event_92.l0_eq k m _ _ _ _) (E2.pos (by omega) (E2.pos (by omega) (E2.pos (by omega) (E2.bind (one i) (E2.pos hq E2.ret))))))
  exact ⟨_, Ev.eq (fun k => impl_AreSeated_eq k o) (Ev.bind (Ev.eq (fun k => slices_ContainsFunc_impl_Event_92_eq k o.1 o) (Ev.bind (Ev.eq (fun k => slices_IndexFunc_impl_Event_92_eq k o.1 o) (Ev.loop (f := fun k m => slices_IndexFunc_impl_Event_92.l0 k m o.1 o ((List.length o.1 : Nat) : Int) 0) ef)) Ev.ret)) Ev.ret)⟩
/-- A valid orchestra is seated. -/
theorem isOI_seat {o : DT32} (h : Ev (fun k => impl_IsOrchestra k o) true) : Ev (fun k => impl_IsSeating k o.2.2.2.1 o.1 o.2.2.2.2.1) true := by
  obtain ⟨K, h⟩ := h
  refine ⟨K, fun k hk => ?_⟩
  have h := h (k + 1) (by omega)
  have h : impl_IsOrchestra (k + 1) o = some true := h
  rw [impl_IsOrchestra_eq] at h
  obtain ⟨r1, _, h⟩ := Option.bind_eq_some_iff.1 h
  split at h
  case isFalse => cases h
  obtain ⟨r2, _, h⟩ := Option.bind_eq_some_iff.1 h
  split at h
  case isFalse => cases h
  obtain ⟨r3, _, h⟩ := Option.bind_eq_some_iff.1 h
  split at h
  case isFalse => cases h
  obtain ⟨r4, _, h⟩ := Option.bind_eq_some_iff.1 h
  split at h
  case isFalse => cases h
  obtain ⟨r5, _, h⟩ := Option.bind_eq_some_iff.1 h
  split at h
  case isFalse => cases h
  obtain ⟨r6, h6, h⟩ := Option.bind_eq_some_iff.1 h
  split at h
  case isFalse => cases h
  rename_i hr
  rw [hr] at h6
  exact h6
theorem drawFault_ev (code : List Int) (hc : code.length ≤ 1048576) : ∃ o : DT32, Gd 400 o ∧ Ev (fun k => spec_DrawFaultOf k code) o := by
  obtain ⟨c, hc, e0⟩ := l1New_ev code hc
  obtain ⟨o, c1, h1, ho, e1⟩ := l35Start_dr c hc
  obtain ⟨l, c2, h2, hl, e2⟩ := l35List_dr 7 (by omega) c1 h1
  obtain ⟨v, gv, e3⟩ := runS_gd (n := 10) (by omega) ho l hl.2 (by have := hl.1; omega)
  have gv := gd_mono gv (show 10 + l.length ≤ 400 by have := hl.1; omega)
  obtain ⟨x, c3, h3, _, e4⟩ := l1Below_dr 9 c2 h2
  have fin : ∀ w : DT32, Ev (fun k => spec_l36Draw k c) (w, c3) → Ev (fun k => spec_DrawFaultOf k code) w := fun w e =>
    Ev.eq (fun k => spec_DrawFaultOf_eq k code) (Ev.bind (Ev.eq (fun k => spec_DrawAreSeated_eq k code) (Ev.bind e0 (Ev.bind e Ev.ret))) Ev.ret)
  by_cases d0 : (x : Int) = 0
  · exact ⟨_, show Gd 400 (v.1, (v.2.1, (v.2.2.1, (v.2.2.2.1, (v.2.2.2.2.1, (v.2.2.2.2.2.1, (v.2.2.2.2.2.2.1, (v.2.2.2.2.2.2.2.1, ((-1), ()))))))))) from gv, fin _ (Ev.eq (fun k => spec_l36Draw_eq k c) (Ev.bind e1 (Ev.bind e2 (Ev.bind e3 (Ev.bind e4 (Ev.pos d0 Ev.ret))))))⟩
  by_cases d1 : (x : Int) = 1
  · exact ⟨_, show Gd 400 (v.1, (v.2.1, (v.2.2.1, (v.2.2.2.1, ([], v.2.2.2.2.2))))) from ⟨gv.1, gv.2.1, gv.2.2.1, by simp, gv.2.2.2.2⟩, fin _ (Ev.eq (fun k => spec_l36Draw_eq k c) (Ev.bind e1 (Ev.bind e2 (Ev.bind e3 (Ev.bind e4 (Ev.neg d0 (Ev.pos d1 Ev.ret)))))))⟩
  by_cases d2 : (x : Int) = 2
  · exact ⟨_, show Gd 400 (v.1, (v.2.1, (v.2.2.1, (v.2.2.2.1, ([1, 1], v.2.2.2.2.2))))) from ⟨gv.1, gv.2.1, gv.2.2.1, by simp, gv.2.2.2.2⟩, fin _ (Ev.eq (fun k => spec_l36Draw_eq k c) (Ev.bind e1 (Ev.bind e2 (Ev.bind e3 (Ev.bind e4 (Ev.neg d0 (Ev.neg d1 (Ev.pos d2 Ev.ret))))))))⟩
  by_cases d3 : (x : Int) = 3
  · exact ⟨_, show Gd 400 (v.1, (v.2.1, ([(0, (101, ())), (1, (103, ())), (2, (107, ())), (3, (109, ())), (4, (113, ()))], v.2.2.2))) from ⟨gv.1, by simp, gv.2.2⟩, fin _ (Ev.eq (fun k => spec_l36Draw_eq k c) (Ev.bind e1 (Ev.bind e2 (Ev.bind e3 (Ev.bind e4 (Ev.neg d0 (Ev.neg d1 (Ev.neg d2 (Ev.pos d3 Ev.ret)))))))))⟩
  · exact ⟨v, gv, fin _ (Ev.eq (fun k => spec_l36Draw_eq k c) (Ev.bind e1 (Ev.bind e2 (Ev.bind e3 (Ev.bind e4 (Ev.neg d0 (Ev.neg d1 (Ev.neg d2 (Ev.neg d3 Ev.ret)))))))))⟩
theorem pure (a0 : List Int) (w0 : Wd (.list (.int .u8)) a0) : ∃ k, laws_FnAudited k a0 = some true := by
  refine Ev.at (f := fun k => laws_FnAudited k a0) ?_
  by_cases hb : (1048576 : Int) < ((List.length a0 : Nat) : Int)
  · exact Ev.eq (fun k => laws_FnAudited_eq k a0) (Ev.bind (Ev.eq (fun k => laws_big_eq k a0) Ev.ret) (Ev.pos (by simpa using hb) Ev.ret))
  obtain ⟨o, ho, e1⟩ := drawFault_ev a0 (by omega)
  have b := gd_bk ho (by omega)
  obtain ⟨r1, _, i1⟩ := isOrchestra_both o (sm_of b)
  obtain ⟨r2, i2⟩ := isExactI_ev o b.1.1 b.2.2.1.1
  obtain ⟨r3, i3⟩ := areSeatedI_ev o b.1.1
  refine Ev.eq (fun k => laws_FnAudited_eq k a0) (Ev.bind (Ev.eq (fun k => laws_big_eq k a0) Ev.ret) (Ev.neg (by simpa using hb) (Ev.bind e1 ?_)))
  by_cases c1 : r1 = true
  · subst c1
    have pl : Ev (fun k => impl_IsPlayable k o) true := Ev.eq (fun k => impl_IsPlayable_eq k o) (Ev.bind (isOI_seat i1) (Ev.ret.val (by simp)))
    by_cases c2 : r2 = true
    · subst c2
      by_cases c3 : r3 = true
      · subst c3
        exact Ev.bind (Ev.eq (fun k => impl_FaultOf_eq k o) (Ev.bind i1 (Ev.neg (by simp) (Ev.bind i2 (Ev.neg (by simp) (Ev.bind i3 (Ev.neg (by simp) Ev.ret))))))) (Ev.bind i1 (Ev.pos rfl (Ev.bind i2 (Ev.pos rfl (Ev.bind i3 (Ev.neg (by simp) (Ev.bind i1 (Ev.neg (by decide) (Ev.bind i1 (Ev.neg (by simp) (Ev.bind pl (Ev.ret.val (by simp)))))))))))))
      · exact Ev.bind (Ev.eq (fun k => impl_FaultOf_eq k o) (Ev.bind i1 (Ev.neg (by simp) (Ev.bind i2 (Ev.neg (by simp) (Ev.bind i3 (Ev.pos c3 Ev.ret))))))) (Ev.bind i1 (Ev.pos rfl (Ev.bind i2 (Ev.pos rfl (Ev.bind i3 (Ev.neg (by simp only [Bool.not_eq_true] at c3; subst c3; decide) (Ev.bind i1 (Ev.neg (by decide) (Ev.bind i1 (Ev.neg (by simp) (Ev.bind pl (Ev.ret.val (by simp)))))))))))))
    · exact Ev.bind (Ev.eq (fun k => impl_FaultOf_eq k o) (Ev.bind i1 (Ev.neg (by simp) (Ev.bind i2 (Ev.pos c2 Ev.ret))))) (Ev.bind i1 (Ev.pos rfl (Ev.bind i2 (Ev.neg c2 (Ev.neg (by decide) (Ev.bind i1 (Ev.neg (by decide) (Ev.bind i1 (Ev.neg (by simp) (Ev.bind pl (Ev.ret.val (by simp))))))))))))
  · have f1 : r1 = false := by simpa using c1
    subst f1
    exact Ev.bind (Ev.eq (fun k => impl_FaultOf_eq k o) (Ev.bind i1 (Ev.pos c1 Ev.ret))) (Ev.bind i1 (Ev.neg c1 (Ev.neg (by decide) (Ev.bind i1 (Ev.neg (by decide) (Ev.bind i1 (Ev.pos (by simp) Ev.ret)))))))
end Go.QFnAudited
