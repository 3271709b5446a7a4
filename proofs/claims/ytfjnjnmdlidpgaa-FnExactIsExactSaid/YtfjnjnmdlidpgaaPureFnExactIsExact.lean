/- The plain half of FnExactIsExact. No condition. -/
import Derived.Test.YtfjnjnmdlidpgaaHFnExactIsExact
set_option linter.unusedVariables false
set_option linter.unusedSimpArgs false
open Go Go.Flat
namespace Go.QFnExactIsExact
theorem l1In_ev (x lo hi : Int) : Ev (fun k => spec_l1In k x lo hi) (decide (lo ≤ x ∧ x ≤ hi)) := by
  by_cases c : lo ≤ x
  · exact Ev.eq (fun k => spec_l1In_eq k x lo hi) (Ev.pos c (Ev.ret.val (by simp [c])))
  · exact Ev.eq (fun k => spec_l1In_eq k x lo hi) (Ev.neg c (Ev.ret.val (by simp [c])))
theorem inRange_ev (x lo hi : Int) : Ev (fun k => impl_InRange k x lo hi) (decide (lo ≤ x ∧ x ≤ hi)) := by
  by_cases c : lo ≤ x
  · exact Ev.eq (fun k => impl_InRange_eq k x lo hi) (Ev.pos c (Ev.ret.val (by simp [c])))
  · exact Ev.eq (fun k => impl_InRange_eq k x lo hi) (Ev.neg c (Ev.ret.val (by simp [c])))
def gcdI (a b : Int) : Int := (Nat.gcd a.toNat b.toNat : Int)
theorem gcd_E2 {F : Int → Int → Nat → Nat → Option Int} (h0 : ∀ a, E2 (F a 0) a) (h1 : ∀ a b, b ≠ 0 → ∀ v, E2 (F b (Int.tmod a b)) v → E2 (F a b) v) : ∀ (n : Nat) (a b : Int), 0 ≤ a → 0 ≤ b → b.toNat ≤ n → E2 (F a b) (gcdI a b) := by
  intro n
  induction n with
  | zero =>
    intro a b ha hb hn
    have : b = 0 := by omega
    subst this
    refine (h0 a).val ?_
    unfold gcdI
    simp
    omega
  | succ n ih =>
    intro a b ha hb hn
    by_cases c : b = 0
    · subst c
      refine (h0 a).val ?_
      unfold gcdI
      simp
      omega
    · have hm : Int.tmod a b = ((a.toNat % b.toNat : Nat) : Int) := by
        obtain ⟨x, rfl⟩ := Int.eq_ofNat_of_zero_le ha
        obtain ⟨y, rfl⟩ := Int.eq_ofNat_of_zero_le hb
        rfl
      have hlt : a.toNat % b.toNat < b.toNat := Nat.mod_lt _ (by omega)
      refine (h1 a b c _ (ih b (Int.tmod a b) hb (by rw [hm]; omega) (by rw [hm]; omega))).val ?_
      unfold gcdI
      rw [hm, Int.toNat_natCast]
      congr 1
      rw [Nat.gcd_comm a.toNat b.toNat, Nat.gcd_rec b.toNat a.toNat, Nat.gcd_comm]
theorem specGcd_ev (a b : Int) (ha : 0 ≤ a) (hb : 0 ≤ b) : Ev (fun k => spec_l4Gcd k a b) (gcdI a b) :=
  Ev.eq (fun k => spec_l4Gcd_eq k a b) (Ev.loop (f := fun k m => spec_l4Gcd.l0 k m a b) (gcd_E2 (F := fun a b k m => spec_l4Gcd.l0 k m a b) (fun a => E2.eq (fun k m => spec_l4Gcd.l0_eq k m a 0) (E2.neg (by simp) E2.ret)) (fun a b hb v e => E2.eq (fun k m => spec_l4Gcd.l0_eq k m a b) (E2.pos hb (E2.neg hb e))) _ a b ha hb (Nat.le_refl _)))
theorem implGcd_ev (a b : Int) (ha : 0 ≤ a) (hb : 0 ≤ b) : Ev (fun k => impl_divisor k a b) (gcdI a b) :=
  Ev.eq (fun k => impl_divisor_eq k a b) (Ev.loop (f := fun k m => impl_divisor.l0 k m a b) (gcd_E2 (F := fun a b k m => impl_divisor.l0 k m a b) (fun a => E2.eq (fun k m => impl_divisor.l0_eq k m a 0) (E2.neg (by simp) E2.ret)) (fun a b hb v e => E2.eq (fun k m => impl_divisor.l0_eq k m a b) (E2.pos hb (E2.neg hb e))) _ a b ha hb (Nat.le_refl _)))
def absI (n : Int) : Int := (n.natAbs : Int)
theorem specAbs_ev (n : Int) (h1 : -4611686018427387904 ≤ n) (h2 : n ≤ 4611686018427387904) : Ev (fun k => spec_l4Abs k n) (absI n) := by
  unfold absI
  by_cases c : n < 0
  · exact Ev.eq (fun k => spec_l4Abs_eq k n) (Ev.pos c (Ev.ret.val (by rw [wrapI (by omega) (by omega)]; omega)))
  · exact Ev.eq (fun k => spec_l4Abs_eq k n) (Ev.neg c (Ev.ret.val (by omega)))
theorem implAbs (n : Int) (h1 : -4611686018427387904 ≤ n) (h2 : n ≤ 4611686018427387904) : (max n (IntKind.wrap .i64 (-n)) : Int) = absI n := by
  unfold absI
  rw [wrapI (by omega) (by omega)]
  omega
def isR (n d : Int) : Bool := decide ((1 ≤ d ∧ d ≤ 1000000) ∧ (-1000000000 ≤ n ∧ n ≤ 1000000000) ∧ gcdI (absI n) d = 1)
theorem specIsRatio_ev (r : DT23) : Ev (fun k => spec_IsRatio k r) (isR r.1 r.2.1) := by
  by_cases c1 : 1 ≤ r.2.1 ∧ r.2.1 ≤ 1000000
  · by_cases c2 : -1000000000 ≤ r.1 ∧ r.1 ≤ 1000000000
    · exact Ev.eq (fun k => spec_IsRatio_eq k r) (Ev.bind (l1In_ev _ _ _) (Ev.pos (by simp [c1]) (Ev.bind (l1In_ev _ _ _) (Ev.pos (by simp [c2]) (Ev.bind (specAbs_ev r.1 (by omega) (by omega)) (Ev.bind (specGcd_ev _ _ (by unfold absI; omega) (by omega)) (Ev.ret.val (by unfold isR; simp [c1, c2]))))))))
    · exact Ev.eq (fun k => spec_IsRatio_eq k r) (Ev.bind (l1In_ev _ _ _) (Ev.pos (by simp [c1]) (Ev.bind (l1In_ev _ _ _) (Ev.neg (by simpa using c2) (Ev.ret.val (by unfold isR; simp only [c2, false_and, and_false, decide_false]))))))
  · exact Ev.eq (fun k => spec_IsRatio_eq k r) (Ev.bind (l1In_ev _ _ _) (Ev.neg (by simpa using c1) (Ev.ret.val (by unfold isR; simp only [c1, false_and, decide_false]))))
theorem implIsRatio_ev (r : DT23) : Ev (fun k => impl_IsRatio k r) (isR r.1 r.2.1) := by
  by_cases c1 : 1 ≤ r.2.1 ∧ r.2.1 ≤ 1000000
  · by_cases c2 : -1000000000 ≤ r.1 ∧ r.1 ≤ 1000000000
    · refine Ev.eq (fun k => impl_IsRatio_eq k r) (Ev.bind (inRange_ev _ _ _) (Ev.pos (by simp [c1]) (Ev.bind (inRange_ev _ _ _) (Ev.pos (by simp [c2]) ?_))))
      simp only [implAbs r.1 (by omega) (by omega)]
      exact Ev.bind (implGcd_ev _ _ (by unfold absI; omega) (by omega)) (Ev.ret.val (by unfold isR; simp [c1, c2]))
    · exact Ev.eq (fun k => impl_IsRatio_eq k r) (Ev.bind (inRange_ev _ _ _) (Ev.pos (by simp [c1]) (Ev.bind (inRange_ev _ _ _) (Ev.neg (by simpa using c2) (Ev.ret.val (by unfold isR; simp only [c2, false_and, and_false, decide_false]))))))
  · exact Ev.eq (fun k => impl_IsRatio_eq k r) (Ev.bind (inRange_ev _ _ _) (Ev.neg (by simpa using c1) (Ev.ret.val (by unfold isR; simp only [c1, false_and, decide_false]))))
theorem gcdI_pos (a b : Int) (hb : 0 < b) : 0 < gcdI a b := by
  unfold gcdI
  have : 0 < Nat.gcd a.toNat b.toNat := Nat.gcd_pos_of_pos_right _ (by omega)
  omega
theorem wrap_tdiv (n g : Int) (h1 : -4611686018427387904 ≤ n) (h2 : n ≤ 4611686018427387904) : IntKind.wrap .i64 (Int.tdiv n g) = Int.tdiv n g := by
  have := Int.natAbs_tdiv_le_natAbs n g
  exact wrapI (by omega) (by omega)
abbrev Res : Type := DT23 × (Bool × Unit)
def noR : Res := ((0, (0, ())), (false, ()))
def mk (n d : Int) : Res :=
  if isR (Int.tdiv n (gcdI (absI n) d)) (Int.tdiv d (gcdI (absI n) d)) = true then ((Int.tdiv n (gcdI (absI n) d), (Int.tdiv d (gcdI (absI n) d), ())), (true, ())) else noR
theorem lowest_ev (n d : Int) (h1 : -4611686018427387904 ≤ n) (h2 : n ≤ 4611686018427387904) (h3 : 1 ≤ d) (h4 : d ≤ 4611686018427387904) : Ev (fun k => impl_lowest k n d) (mk n d) := by
  have hg := gcdI_pos (absI n) d (by omega)
  refine Ev.eq (fun k => impl_lowest_eq k n d) (Ev.neg (by omega) (Ev.neg (by omega) ?_))
  simp only [implAbs n h1 h2]
  refine Ev.bind (implGcd_ev _ _ (by unfold absI; omega) (by omega)) (Ev.neg (by omega) (Ev.neg (by omega) ?_))
  simp only [wrap_tdiv n _ h1 h2, wrap_tdiv d _ (by omega) h4]
  refine Ev.bind (implIsRatio_ev _) ?_
  unfold mk
  by_cases c : isR (Int.tdiv n (gcdI (absI n) d)) (Int.tdiv d (gcdI (absI n) d)) = true
  · exact Ev.neg (by simp [c]) (Ev.ret.val (by rw [if_pos c]))
  · exact Ev.pos (by simpa using c) (Ev.ret.val (by rw [if_neg c]; rfl))
theorem implMake_ev (n d : Int) (h1 : -1000000000000000 ≤ n) (h2 : n ≤ 1000000000000000) (h3 : 1 ≤ d) (h4 : d ≤ 1000000000000000) : Ev (fun k => impl_MakeRatio k n d) (mk n d) := by
  refine Ev.eq (fun k => impl_MakeRatio_eq k n d) (Ev.bind (inRange_ev _ _ _) (Ev.neg (by simp; omega) (Ev.bind (inRange_ev _ _ _) (Ev.neg (by simp; omega) (Ev.bind (lowest_ev n d (by omega) (by omega) h3 (by omega)) (Ev.ret.val ?_))))))
  obtain ⟨a, b, _⟩ := mk n d
  simp
theorem specMake_ev (n d : Int) (h1 : -1000000000000000 ≤ n) (h2 : n ≤ 1000000000000000) (h3 : 1 ≤ d) (h4 : d ≤ 1000000000000000) : Ev (fun k => spec_MakeRatio k n d) (mk n d) := by
  have hg := gcdI_pos (absI n) d (by omega)
  have hw : IntKind.wrap .i64 (-1000000000000000) = -1000000000000000 := wrapI (by omega) (by omega)
  refine Ev.eq (fun k => spec_MakeRatio_eq k n d) (Ev.bind (l1In_ev _ _ _) (Ev.neg (by rw [hw]; simp; omega) (Ev.bind (l1In_ev _ _ _) (Ev.neg (by rw [hw]; simp; omega) (Ev.neg (by omega) (Ev.neg (by omega) (Ev.bind (specAbs_ev n (by omega) (by omega)) (Ev.bind (specGcd_ev _ _ (by unfold absI; omega) (by omega)) (Ev.neg (by omega) (Ev.neg (by omega) ?_))))))))))
  simp only [wrap_tdiv n _ (show -4611686018427387904 ≤ n by omega) (by omega), wrap_tdiv d _ (show -4611686018427387904 ≤ d by omega) (by omega)]
  refine Ev.bind (specIsRatio_ev _) ?_
  unfold mk
  by_cases c : isR (Int.tdiv n (gcdI (absI n) d)) (Int.tdiv d (gcdI (absI n) d)) = true
  · exact Ev.neg (by simp [c]) (Ev.ret.val (by rw [if_pos c]))
  · exact Ev.pos (by simpa using c) (Ev.ret.val (by rw [if_neg c]; rfl))
theorem absI_mul (g n : Int) (hg : 0 < g) : absI (g * n) = g * absI n := by
  unfold absI
  rw [Int.natAbs_mul]
  have : ((g.natAbs : Nat) : Int) = g := by omega
  rw [Int.natCast_mul, this]
theorem gcdI_mul (g a b : Int) (hg : 0 < g) (ha : 0 ≤ a) (hb : 0 ≤ b) : gcdI (g * a) (g * b) = g * gcdI a b := by
  obtain ⟨k, rfl⟩ := Int.eq_ofNat_of_zero_le (Int.le_of_lt hg)
  obtain ⟨x, rfl⟩ := Int.eq_ofNat_of_zero_le ha
  obtain ⟨y, rfl⟩ := Int.eq_ofNat_of_zero_le hb
  unfold gcdI
  rw [← Int.natCast_mul, ← Int.natCast_mul]
  simp only [Int.toNat_natCast]
  rw [Nat.gcd_mul_left, Int.natCast_mul]
theorem mk_mul (g n d : Int) (hg : 0 < g) (hd : 1 ≤ d) : mk (g * n) (g * d) = mk n d := by
  have hp := gcdI_pos (absI n) d (by omega)
  unfold mk
  rw [absI_mul g n hg, gcdI_mul g _ _ hg (by unfold absI; omega) (by omega), Int.mul_tdiv_mul_of_pos _ _ hg, Int.mul_tdiv_mul_of_pos _ _ hg]
def addR (a b : DT23) : Res := if isR a.1 a.2.1 = true ∧ isR b.1 b.2.1 = true then mk (a.1 * b.2.1 + b.1 * a.2.1) (a.2.1 * b.2.1) else noR
theorem isR_spec {n d : Int} (h : isR n d = true) : (1 ≤ d ∧ d ≤ 1000000) ∧ (-1000000000 ≤ n ∧ n ≤ 1000000000) := by
  unfold isR at h
  have := of_decide_eq_true h
  exact ⟨this.1, this.2.1⟩
theorem mul_bd {x y A B : Int} (hx : -A ≤ x ∧ x ≤ A) (hy : 0 ≤ y ∧ y ≤ B) : -(A * B) ≤ x * y ∧ x * y ≤ A * B := by
  have hA : 0 ≤ A := by omega
  have h1 : A * y ≤ A * B := Int.mul_le_mul_of_nonneg_left hy.2 hA
  have h2 : x * y ≤ A * y := Int.mul_le_mul_of_nonneg_right hx.2 hy.1
  have h3 : -A * y ≤ x * y := Int.mul_le_mul_of_nonneg_right hx.1 hy.1
  rw [Int.neg_mul] at h3
  omega
theorem implAdd_ev (a b : DT23) : Ev (fun k => impl_AddRatio k a b) (addR a b) := by
  unfold addR
  by_cases ca : isR a.1 a.2.1 = true
  · by_cases cb : isR b.1 b.2.1 = true
    · obtain ⟨a1, a2⟩ := isR_spec ca
      obtain ⟨b1, b2⟩ := isR_spec cb
      have m1 := mul_bd (x := a.1) (y := b.2.1) (A := 1000000000) (B := 1000000) ⟨a2.1, a2.2⟩ ⟨by omega, b1.2⟩
      have m2 := mul_bd (x := b.1) (y := a.2.1) (A := 1000000000) (B := 1000000) ⟨b2.1, b2.2⟩ ⟨by omega, a1.2⟩
      have m3 := mul_bd (x := a.2.1) (y := b.2.1) (A := 1000000) (B := 1000000) ⟨by omega, a1.2⟩ ⟨by omega, b1.2⟩
      have m4 : 1 ≤ a.2.1 * b.2.1 := Int.mul_pos (by omega) (by omega)
      refine Ev.eq (fun k => impl_AddRatio_eq k a b) (Ev.bind (implIsRatio_ev a) (Ev.neg (by simp [ca]) (Ev.bind (implIsRatio_ev b) (Ev.neg (by simp [cb]) ?_))))
      rw [wrapI (n := a.1 * b.2.1) (by omega) (by omega), wrapI (n := b.1 * a.2.1) (by omega) (by omega), wrapI (n := a.1 * b.2.1 + b.1 * a.2.1) (by omega) (by omega), wrapI (n := a.2.1 * b.2.1) (by omega) (by omega)]
      refine Ev.bind (lowest_ev _ _ (by omega) (by omega) m4 (by omega)) (Ev.ret.val ?_)
      rw [if_pos ⟨ca, cb⟩]
      obtain ⟨r, o, _⟩ := mk (a.1 * b.2.1 + b.1 * a.2.1) (a.2.1 * b.2.1)
      simp
    · exact Ev.eq (fun k => impl_AddRatio_eq k a b) (Ev.bind (implIsRatio_ev a) (Ev.neg (by simp [ca]) (Ev.bind (implIsRatio_ev b) (Ev.pos (by simpa using cb) (Ev.ret.val (by rw [if_neg (fun h => cb h.2)]; rfl))))))
  · exact Ev.eq (fun k => impl_AddRatio_eq k a b) (Ev.bind (implIsRatio_ev a) (Ev.pos (by simpa using ca) (Ev.ret.val (by rw [if_neg (fun h => ca h.1)]; rfl))))
theorem gcdI_dvd (a b : Int) (ha : 0 ≤ a) (hb : 0 ≤ b) : gcdI a b ∣ a ∧ gcdI a b ∣ b := by
  obtain ⟨x, rfl⟩ := Int.eq_ofNat_of_zero_le ha
  obtain ⟨y, rfl⟩ := Int.eq_ofNat_of_zero_le hb
  unfold gcdI
  simp only [Int.toNat_natCast]
  exact ⟨Int.natCast_dvd_natCast.2 (Nat.gcd_dvd_left _ _), Int.natCast_dvd_natCast.2 (Nat.gcd_dvd_right _ _)⟩
theorem specAdd_ev (a b : DT23) : Ev (fun k => spec_AddRatio k a b) (addR a b) := by
  unfold addR
  by_cases ca : isR a.1 a.2.1 = true
  · by_cases cb : isR b.1 b.2.1 = true
    · obtain ⟨a1, a2⟩ := isR_spec ca
      obtain ⟨b1, b2⟩ := isR_spec cb
      have hg := gcdI_pos a.2.1 b.2.1 (by omega)
      obtain ⟨⟨p, hp⟩, ⟨q, hq⟩⟩ := gcdI_dvd a.2.1 b.2.1 (by omega) (by omega)
      rw [if_pos ⟨ca, cb⟩]
      have hgg := specGcd_ev a.2.1 b.2.1 (by omega) (by omega)
      generalize hge : gcdI a.2.1 b.2.1 = g at *
      have ep : Int.tdiv a.2.1 g = p := by rw [hp]; exact Int.mul_tdiv_cancel_left _ (by omega)
      have eq : Int.tdiv b.2.1 g = q := by rw [hq]; exact Int.mul_tdiv_cancel_left _ (by omega)
      have hp1 : 1 ≤ p := by
        rcases Int.lt_or_le 0 p with h | h
        · omega
        · have := Int.mul_nonpos_of_nonneg_of_nonpos (Int.le_of_lt hg) h
          omega
      have hq1 : 1 ≤ q := by
        rcases Int.lt_or_le 0 q with h | h
        · omega
        · have := Int.mul_nonpos_of_nonneg_of_nonpos (Int.le_of_lt hg) h
          omega
      have hp2 : p ≤ 1000000 := by
        have : 1 * p ≤ g * p := Int.mul_le_mul_of_nonneg_right (by omega) (by omega)
        omega
      have hq2 : q ≤ 1000000 := by
        have : 1 * q ≤ g * q := Int.mul_le_mul_of_nonneg_right (by omega) (by omega)
        omega
      have m1 := mul_bd (x := a.1) (y := q) (A := 1000000000) (B := 1000000) ⟨a2.1, a2.2⟩ ⟨by omega, hq2⟩
      have m2 := mul_bd (x := b.1) (y := p) (A := 1000000000) (B := 1000000) ⟨b2.1, b2.2⟩ ⟨by omega, hp2⟩
      have m3 := mul_bd (x := p) (y := b.2.1) (A := 1000000) (B := 1000000) ⟨by omega, hp2⟩ ⟨by omega, b1.2⟩
      have m4 : 1 ≤ p * b.2.1 := Int.mul_pos (by omega) (by omega)
      refine Ev.eq (fun k => spec_AddRatio_eq k a b) (Ev.bind (specIsRatio_ev a) (Ev.neg (by simp [ca]) (Ev.bind (specIsRatio_ev b) (Ev.neg (by simp [cb]) (Ev.bind hgg (Ev.neg (by omega) (Ev.neg (by omega) (Ev.neg (by omega) ?_))))))))
      rw [ep, eq, wrapI (n := p) (by omega) (by omega), wrapI (n := q) (by omega) (by omega), wrapI (n := a.1 * q) (by omega) (by omega), wrapI (n := b.1 * p) (by omega) (by omega), wrapI (n := a.1 * q + b.1 * p) (by omega) (by omega), wrapI (n := p * b.2.1) (by omega) (by omega)]
      have hm : mk (a.1 * b.2.1 + b.1 * a.2.1) (a.2.1 * b.2.1) = mk (a.1 * q + b.1 * p) (p * b.2.1) := by
        rw [← mk_mul g (a.1 * q + b.1 * p) (p * b.2.1) hg m4]
        congr 1
        · rw [Int.mul_add, Int.mul_left_comm g a.1 q, Int.mul_left_comm g b.1 p, ← hq, ← hp]
        · rw [← Int.mul_assoc, ← hp]
      rw [hm]
      have h5 := gcdI_pos (absI (a.1 * q + b.1 * p)) (p * b.2.1) (by omega)
      refine Ev.bind (specAbs_ev _ (by omega) (by omega)) (Ev.bind (specGcd_ev _ _ (by unfold absI; omega) (by omega)) (Ev.neg (by omega) (Ev.neg (by omega) ?_)))
      simp only [wrap_tdiv (a.1 * q + b.1 * p) _ (by omega) (by omega), wrap_tdiv (p * b.2.1) _ (by omega) (by omega)]
      refine Ev.bind (specIsRatio_ev _) ?_
      unfold mk
      by_cases c : isR (Int.tdiv (a.1 * q + b.1 * p) (gcdI (absI (a.1 * q + b.1 * p)) (p * b.2.1))) (Int.tdiv (p * b.2.1) (gcdI (absI (a.1 * q + b.1 * p)) (p * b.2.1))) = true
      · exact Ev.neg (by simp [c]) (Ev.ret.val (by rw [if_pos c]))
      · exact Ev.pos (by simpa using c) (Ev.ret.val (by rw [if_neg c]; rfl))
    · exact Ev.eq (fun k => spec_AddRatio_eq k a b) (Ev.bind (specIsRatio_ev a) (Ev.neg (by simp [ca]) (Ev.bind (specIsRatio_ev b) (Ev.pos (by simpa using cb) (Ev.ret.val (by rw [if_neg (fun h => cb h.2)]; rfl))))))
  · exact Ev.eq (fun k => spec_AddRatio_eq k a b) (Ev.bind (specIsRatio_ev a) (Ev.pos (by simpa using ca) (Ev.ret.val (by rw [if_neg (fun h => ca h.1)]; rfl))))
theorem specMin_ev (a b : Int) : Ev (fun k => spec_Min k a b) (min a b) := by
  by_cases c : b < a
  · exact Ev.eq (fun k => spec_Min_eq k a b) (Ev.pos c (Ev.ret.val (by omega)))
  · exact Ev.eq (fun k => spec_Min_eq k a b) (Ev.neg c (Ev.ret.val (by omega)))
theorem dec_of {f : Nat → Option Bool} {p : Prop} [d : Decidable p] (h : ∃ r, Ev f r ∧ (r = true ↔ p)) : Ev f (decide p) := by
  obtain ⟨r, e, hr⟩ := h
  exact e.val (by rw [Bool.eq_iff_iff, hr]; simp)
theorem loop_allE {F : Int → Nat → Nat → Option Bool} {n : Nat} (Q : Nat → Prop) (c : Bool) (hend : E2 (F (n : Int)) c)
    (hgo : ∀ i, i < n → Q i → ∀ v, E2 (F ((i + 1 : Nat) : Int)) v → E2 (F (i : Int)) v) (hstop : ∀ i, i < n → ¬ Q i → E2 (F (i : Int)) false) :
    ∃ r, E2 (F 0) r ∧ (r = true ↔ (∀ i, i < n → Q i) ∧ c = true) := by
  have key : ∀ d i, i + d = n → ∃ r, E2 (F (i : Int)) r ∧ (r = true ↔ (∀ j, i ≤ j → j < n → Q j) ∧ c = true) := by
    intro d
    induction d with
    | zero =>
      intro i hi
      have hi : i = n := by omega
      subst hi
      exact ⟨c, hend, ⟨fun h => ⟨fun j _ _ => by omega, h⟩, fun h => h.2⟩⟩
    | succ d ih =>
      intro i hi
      obtain ⟨r, er, hr⟩ := ih (i + 1) (by omega)
      by_cases hq : Q i
      · refine ⟨r, hgo i (by omega) hq r er, hr.trans ⟨fun h => ⟨fun j h1 h2 => ?_, h.2⟩, fun h => ⟨fun j h1 h2 => h.1 j (by omega) h2, h.2⟩⟩⟩
        by_cases hj : j = i
        · subst hj; exact hq
        · exact h.1 j (by omega) h2
      · exact ⟨false, hstop i (by omega) hq, by simp only [Bool.false_eq_true, false_iff]; exact fun h => hq (h.1 i (Nat.le_refl _) (by omega))⟩
  obtain ⟨r, er, hr⟩ := key n 0 (by omega)
  exact ⟨r, er, hr.trans ⟨fun h => ⟨fun i hi => h.1 i (Nat.zero_le _) hi, h.2⟩, fun h => ⟨fun i _ hi => h.1 i hi, h.2⟩⟩⟩
theorem wrapP {i : Nat} (h : 0 < i) (h2 : i < 9223372036854775807) : IntKind.wrap .i64 ((i : Int) - 1) = ((i - 1 : Nat) : Int) := by
  rw [wrapI (by omega) (by omega)]; omega
def okT (t : DT23) : Prop := (20 ≤ (t.2.1 : Int) ∧ (t.2.1 : Int) ≤ 300) ∧ (0 ≤ (t.1 : Int) ∧ (t.1 : Int) ≤ 2000)
instance (e : DT23) : Decidable (okT e) := by unfold okT; infer_instance
def QT (l : List DT23) (i : Nat) : Prop := okT (rd T23 l (i : Int)) ∧ (i = 0 → Eq (α := Int) (rd T23 l (i : Int)).1 0) ∧ (0 < i → LT.lt (α := Int) (rd T23 l ((i - 1 : Nat) : Int)).1 (rd T23 l (i : Int)).1)
instance (l : List DT23) (i : Nat) : Decidable (QT l i) := by unfold QT; infer_instance
def tempoP (l : List DT23) : Prop := (∀ i, i < l.length → QT l i) ∧ decide (1 ≤ ((l.length : Nat) : Int) ∧ ((l.length : Nat) : Int) ≤ 8) = true
instance (l : List DT23) : Decidable (tempoP l) := by unfold tempoP; infer_instance
theorem specTempo_ev (l : List DT23) (hl : l.length ≤ 1048576) : Ev (fun k => spec_IsTempo k l) (decide (tempoP l)) := by
  refine dec_of ?_
  obtain ⟨r, er, hr⟩ := loop_allE (F := fun i k m => spec_IsTempo.l0 k m l i) (n := l.length) (QT l) (decide (1 ≤ ((l.length : Nat) : Int) ∧ ((l.length : Nat) : Int) ≤ 8)) (E2.eq (fun k m => spec_IsTempo.l0_eq k m l _) (E2.neg (by omega) (E2.bind (l1In_ev _ _ _) (E2.ret.val (by simp))))) (fun i hi hq v e => by
    obtain ⟨⟨h1, h2⟩, h3, h4⟩ := hq
    refine E2.eq (fun k m => spec_IsTempo.l0_eq k m l _) (E2.pos (by omega) (E2.pos (by omega) (E2.pos (by omega) (E2.bind (l1In_ev _ _ _) (E2.neg (by simpa using h1) (E2.pos (by omega) (E2.pos (by omega) (E2.bind (l1In_ev _ _ _) (E2.neg (by simpa using h2) ?_)))))))))
    simp only [wrapS (show i < 9223372036854775807 by omega)]
    by_cases c : 0 < i
    · refine E2.neg (by omega) (E2.pos (by omega) ?_)
      simp only [wrapP c (show i < 9223372036854775807 by omega)]
      have := h4 c
      exact E2.pos (by omega) (E2.pos (by omega) (E2.pos (by omega) (E2.pos (by omega) (E2.neg (by omega) e))))
    · refine E2.pos (by omega) (E2.pos (by omega) (E2.pos (by omega) (E2.neg (fun h => h (h3 (by omega))) (E2.neg (by omega) e))))) (fun i hi hq => by
    refine E2.eq (fun k m => spec_IsTempo.l0_eq k m l _) (E2.pos (by omega) (E2.pos (by omega) (E2.pos (by omega) (E2.bind (l1In_ev _ _ _) ?_))))
    by_cases h1 : LE.le (α := Int) 20 (rd T23 l (i : Int)).2.1 ∧ LE.le (α := Int) (rd T23 l (i : Int)).2.1 300
    · refine E2.neg (by simpa using h1) (E2.pos (by omega) (E2.pos (by omega) (E2.bind (l1In_ev _ _ _) ?_)))
      by_cases h2 : LE.le (α := Int) 0 (rd T23 l (i : Int)).1 ∧ LE.le (α := Int) (rd T23 l (i : Int)).1 2000
      · refine E2.neg (by simpa using h2) ?_
        by_cases c : 0 < i
        · refine E2.neg (by omega) (E2.pos (by omega) ?_)
          simp only [wrapP c (show i < 9223372036854775807 by omega)]
          have h4 : ¬ LT.lt (α := Int) (rd T23 l ((i - 1 : Nat) : Int)).1 (rd T23 l (i : Int)).1 := fun h => hq ⟨⟨h1, h2⟩, fun h' => by omega, fun _ => h⟩
          exact E2.pos (by omega) (E2.pos (by omega) (E2.pos (by omega) (E2.pos (by omega) (E2.pos (by omega) E2.ret))))
        · have h3 : ¬ Eq (α := Int) (rd T23 l (i : Int)).1 0 := fun h => hq ⟨⟨h1, h2⟩, fun _ => h, fun h' => absurd h' c⟩
          exact E2.pos (by omega) (E2.pos (by omega) (E2.pos (by omega) (E2.pos h3 E2.ret)))
      · exact E2.pos (by simpa using h2) E2.ret
    · exact E2.pos (by simpa using h1) E2.ret)
  exact ⟨r, Ev.eq (fun k => spec_IsTempo_eq k l) (Ev.loop (f := fun k m => spec_IsTempo.l0 k m l 0) er), hr⟩
/-- The program's own test of an element: it leaves out what follows from the one before. -/
def QT' (l : List DT23) (i : Nat) : Prop := (i = 0 → Eq (α := Int) (rd T23 l (i : Int)).1 0) ∧ (0 < i → LT.lt (α := Int) (rd T23 l ((i - 1 : Nat) : Int)).1 (rd T23 l (i : Int)).1) ∧ LE.le (α := Int) (rd T23 l (i : Int)).1 2000 ∧ (LE.le (α := Int) 20 (rd T23 l (i : Int)).2.1 ∧ LE.le (α := Int) (rd T23 l (i : Int)).2.1 300)
theorem QT_iff (l : List DT23) : (∀ i, i < l.length → QT' l i) ↔ (∀ i, i < l.length → QT l i) := by
  constructor
  · intro h
    have hp : ∀ i, i < l.length → LE.le (α := Int) 0 (rd T23 l (i : Int)).1 := by
      intro i
      induction i with
      | zero => intro hi; have := (h 0 hi).1 rfl; omega
      | succ i ih =>
        intro hi
        have h1 := ih (by omega)
        have h2 := (h (i + 1) hi).2.1 (by omega)
        simp only [Nat.add_sub_cancel] at h2
        omega
    intro i hi
    obtain ⟨h1, h2, h3, h4⟩ := h i hi
    exact ⟨⟨h4, hp i hi, h3⟩, h1, h2⟩
  · intro h i hi
    obtain ⟨⟨h1, h2, h3⟩, h4, h5⟩ := h i hi
    exact ⟨h4, h5, h3, h1⟩
theorem implTempo_ev (l : List DT23) (hl : l.length ≤ 1048576) : Ev (fun k => impl_IsTempo k l) (decide (tempoP l)) := by
  refine dec_of ?_
  obtain ⟨r, er, hr⟩ := loop_allE (F := fun i k m => impl_IsTempo.l0 k m l l ((List.length l : Nat) : Int) i) (n := l.length) (QT' l) (decide (1 ≤ ((l.length : Nat) : Int) ∧ ((l.length : Nat) : Int) ≤ 8)) (E2.eq (fun k m => impl_IsTempo.l0_eq k m l l _ _) (E2.neg (by omega) (E2.bind (inRange_ev _ _ _) (E2.ret.val (by simp))))) (fun i hi hq v e => by
    obtain ⟨h3, h4, h5, h6⟩ := hq
    refine E2.eq (fun k m => impl_IsTempo.l0_eq k m l l _ _) (E2.pos (by omega) (E2.pos (by omega) (E2.pos (by omega) ?_)))
    simp only [wrapS (show i < 9223372036854775807 by omega)]
    by_cases c : 0 < i
    · refine E2.neg (by omega) (E2.pos (by omega) ?_)
      simp only [wrapP c (show i < 9223372036854775807 by omega)]
      have := h4 c
      exact E2.pos (by omega) (E2.pos (by omega) (E2.neg (by omega) (E2.neg (by omega) (E2.bind (inRange_ev _ _ _) (E2.neg (by simpa using h6) e)))))
    · exact E2.pos (by omega) (E2.neg (fun h => h (h3 (by omega))) (E2.neg (by omega) (E2.neg (by omega) (E2.bind (inRange_ev _ _ _) (E2.neg (by simpa using h6) e)))))) (fun i hi hq => by
    refine E2.eq (fun k m => impl_IsTempo.l0_eq k m l l _ _) (E2.pos (by omega) (E2.pos (by omega) (E2.pos (by omega) ?_)))
    by_cases c : 0 < i
    · refine E2.neg (by omega) (E2.pos (by omega) ?_)
      simp only [wrapP c (show i < 9223372036854775807 by omega)]
      refine E2.pos (by omega) (E2.pos (by omega) ?_)
      by_cases h4 : LT.lt (α := Int) (rd T23 l ((i - 1 : Nat) : Int)).1 (rd T23 l (i : Int)).1
      · refine E2.neg (by omega) ?_
        by_cases h5 : LE.le (α := Int) (rd T23 l (i : Int)).1 2000
        · exact E2.neg (by omega) (E2.bind (inRange_ev _ _ _) (E2.pos (by simp only [decide_eq_true_eq]; exact fun h6 => hq ⟨fun h => by omega, fun _ => h4, h5, h6⟩) E2.ret))
        · exact E2.pos (by omega) E2.ret
      · exact E2.pos (by omega) E2.ret
    · refine E2.pos (by omega) ?_
      by_cases h3 : Eq (α := Int) (rd T23 l (i : Int)).1 0
      · refine E2.neg (fun h => h h3) (E2.neg (by omega) (E2.neg (by omega) (E2.bind (inRange_ev _ _ _) (E2.pos (by simp only [decide_eq_true_eq]; exact fun h6 => hq ⟨fun _ => h3, fun h => absurd h c, by omega, h6⟩) E2.ret))))
      · exact E2.pos h3 E2.ret)
  exact ⟨r, Ev.eq (fun k => impl_IsTempo_eq k l) (Ev.loop (f := fun k m => impl_IsTempo.l0 k m l l ((List.length l : Nat) : Int) 0) er), hr.trans (and_congr (QT_iff l) Iff.rfl)⟩
theorem isR_00 : isR 0 0 = false := by unfold isR; simp
theorem mk_no {n d : Int} (h : (mk n d).2.1 = false) : mk n d = noR := by
  unfold mk at h ⊢
  split
  · rename_i c; rw [if_pos c] at h; cases h
  · rfl
theorem add_no {a b : DT23} (h : (addR a b).2.1 = false) : addR a b = noR := by
  unfold addR at h ⊢
  split
  · rename_i c; rw [if_pos c] at h; exact mk_no h
  · rfl
theorem add_noR (a : DT23) : addR a noR.1 = noR := by
  unfold addR noR
  rw [if_neg (by rw [isR_00]; simp)]
theorem timeOf_both (l : List DT23) (tick : Int) (hl : l.length ≤ 1048576) : ∃ v : Res, Ev (fun k => spec_TimeOf k l tick) v ∧ Ev (fun k => impl_TimeOf k l tick) v ∧ (v.2.1 = false → v = noR) := by
  by_cases hp : tempoP l
  · by_cases ht : 0 ≤ tick ∧ tick ≤ 2000
    · have key : ∀ d (i : Nat) (a b x y : Int), i + d = l.length → ∃ v : Res, E2 (fun k m => spec_TimeOf.l0 k m l tick (i : Int) a b x y) v ∧ E2 (fun k m => impl_TimeOf.l0 k m l tick l ((List.length l : Nat) : Int) (i : Int) a b x y) v ∧ (v.2.1 = false → v = noR) := by
        intro d
        induction d with
        | zero =>
          intro i a b x y hi
          exact ⟨((x, (y, ())), (true, ())), E2.eq (fun k m => spec_TimeOf.l0_eq k m l tick _ a b x y) (E2.neg (by omega) E2.ret), E2.eq (fun k m => impl_TimeOf.l0_eq k m l tick l _ _ a b x y) (E2.neg (by omega) E2.ret), fun h => by cases h⟩
        | succ d ih =>
          intro i a b x y hi
          obtain ⟨⟨⟨q1, q2⟩, q3, q4⟩, q5, q6⟩ := hp.1 i (by omega)
          by_cases hend : LT.lt (α := Int) (rd T23 l (i : Int)).1 tick
          · have fin : ∀ (en : Int), LT.lt (α := Int) (rd T23 l (i : Int)).1 en → en ≤ 2000 →
                ∃ p q : Res, (∀ {g : Nat → Nat → Res → Option Res} {u : Res}, E2 (fun k m => g k m p) u → E2 (fun k m => (spec_MakeRatio k (IntKind.wrap .i64 ((IntKind.wrap .i64 (en - (rd T23 l (i : Int)).1)) * 5000)) (rd T23 l (i : Int)).2.1).bind fun r => g k m r) u) ∧
                (∀ {g : Nat → Nat → Res → Option Res} {u : Res}, E2 (fun k m => g k m p) u → E2 (fun k m => (impl_MakeRatio k (IntKind.wrap .i64 ((IntKind.wrap .i64 (en - (rd T23 l (i : Int)).1)) * 5000)) (rd T23 l (i : Int)).2.1).bind fun r => g k m r) u) ∧ q = addR (x, (y, ())) p.1 ∧ (p.2.1 = false → q = noR) := by
              intro en h1 h2
              have w1 : IntKind.wrap .i64 (en - (rd T23 l (i : Int)).1) = en - (rd T23 l (i : Int)).1 := wrapI (by omega) (by omega)
              have w2 : IntKind.wrap .i64 ((en - (rd T23 l (i : Int)).1) * 5000) = (en - (rd T23 l (i : Int)).1) * 5000 := wrapI (by omega) (by omega)
              rw [w1, w2]
              refine ⟨mk ((en - (rd T23 l (i : Int)).1) * 5000) (rd T23 l (i : Int)).2.1, _, fun e => E2.bind (specMake_ev _ _ (by omega) (by omega) (by omega) (by omega)) e, fun e => E2.bind (implMake_ev _ _ (by omega) (by omega) (by omega) (by omega)) e, rfl, fun h => ?_⟩
              rw [mk_no h, add_noR]
            have tail : ∀ (p q : Res), q = addR (x, (y, ())) p.1 → (p.2.1 = false → q = noR) → ∃ v : Res, (v.2.1 = false → v = noR) ∧ E2 (fun k m => (spec_AddRatio k (x, (y, ())) p.1).bind fun r5 =>
                  if ¬ (r5.2.1 = true) then some ((0, (0, ())), (false, ())) else spec_TimeOf.l0 k m l tick ((i + 1 : Nat) : Int) a b r5.1.1 r5.1.2.1) v ∧
                E2 (fun k m => (impl_AddRatio k (x, (y, ())) p.1).bind fun r4 => if ¬ (p.2.1 = true) then some ((0, (0, ())), (false, ())) else if ¬ (r4.2.1 = true) then some ((0, (0, ())), (false, ())) else impl_TimeOf.l0 k m l tick l ((List.length l : Nat) : Int) ((i + 1 : Nat) : Int) a b r4.1.1 r4.1.2.1) v := by
              intro p q hq hpq
              by_cases hok : q.2.1 = true
              · have hp1 : p.2.1 = true := by
                  cases h : p.2.1 with
                  | true => rfl
                  | false => rw [hpq h] at hok; cases hok
                obtain ⟨v, e1, e2, e3⟩ := ih (i + 1) a b q.1.1 q.1.2.1 (by omega)
                refine ⟨v, e3, E2.bind (specAdd_ev _ _) ?_, E2.bind (implAdd_ev _ _) ?_⟩
                · rw [← hq]; exact E2.neg (by simpa using hok) e1
                · rw [← hq]; exact E2.neg (by simpa using hp1) (E2.neg (by simpa using hok) e2)
              · have hno : q = noR := by rw [hq]; rw [hq] at hok; exact add_no (by simpa using hok)
                refine ⟨noR, fun _ => rfl, E2.bind (specAdd_ev _ _) ?_, E2.bind (implAdd_ev _ _) ?_⟩
                · rw [← hq]; exact E2.pos hok E2.ret
                · rw [← hq]
                  by_cases hp1 : p.2.1 = true
                  · exact E2.neg (by simpa using hp1) (E2.pos hok E2.ret)
                  · exact E2.pos hp1 E2.ret
            by_cases hn : i + 1 < l.length
            · obtain ⟨⟨⟨s1, s2⟩, s3, s4⟩, s5, s6⟩ := hp.1 (i + 1) hn
              have s6 := s6 (by omega)
              rw [Nat.add_sub_cancel] at s6
              obtain ⟨p, q, f1, f2, f3, f4⟩ := fin (min tick (rd T23 l ((i + 1 : Nat) : Int)).1) (by omega) (by omega)
              obtain ⟨v, t0, t1, t2⟩ := tail p q f3 f4
              refine ⟨v, E2.eq (fun k m => spec_TimeOf.l0_eq k m l tick _ a b x y) (E2.pos (by omega) (E2.pos (by omega) (E2.pos (by omega) (E2.pos hend ?_)))), E2.eq (fun k m => impl_TimeOf.l0_eq k m l tick l _ _ a b x y) (E2.pos (by omega) (E2.pos (by omega) (E2.pos (by omega) ?_))), t0⟩
              · simp only [wrapS (show i < 9223372036854775807 by omega)]
                exact E2.pos (by omega) (E2.pos (by omega) (E2.pos (by omega) (E2.bind (specMin_ev _ _) (E2.pos (by omega) (E2.pos (by omega) (E2.pos (by omega) (E2.pos (by omega) (f1 t1))))))))
              · simp only [wrapS (show i < 9223372036854775807 by omega)]
                exact E2.pos (by omega) (E2.pos (by omega) (E2.pos (by omega) (E2.neg (by omega) (f2 t2))))
            · obtain ⟨p, q, f1, f2, f3, f4⟩ := fin tick hend ht.2
              obtain ⟨v, t0, t1, t2⟩ := tail p q f3 f4
              refine ⟨v, E2.eq (fun k m => spec_TimeOf.l0_eq k m l tick _ a b x y) (E2.pos (by omega) (E2.pos (by omega) (E2.pos (by omega) (E2.pos hend ?_)))), E2.eq (fun k m => impl_TimeOf.l0_eq k m l tick l _ _ a b x y) (E2.pos (by omega) (E2.pos (by omega) (E2.pos (by omega) ?_))), t0⟩
              · simp only [wrapS (show i < 9223372036854775807 by omega)]
                exact E2.neg (by omega) (E2.pos (by omega) (E2.pos (by omega) (E2.pos (by omega) (E2.pos (by omega) (f1 t1)))))
              · simp only [wrapS (show i < 9223372036854775807 by omega)]
                exact E2.neg (by omega) (E2.neg (by omega) (f2 t2))
          · refine ⟨((x, (y, ())), (true, ())), E2.eq (fun k m => spec_TimeOf.l0_eq k m l tick _ a b x y) (E2.pos (by omega) (E2.pos (by omega) (E2.pos (by omega) (E2.neg hend E2.ret)))), E2.eq (fun k m => impl_TimeOf.l0_eq k m l tick l _ _ a b x y) (E2.pos (by omega) (E2.pos (by omega) (E2.pos (by omega) ?_))), fun h => by cases h⟩
            simp only [wrapS (show i < 9223372036854775807 by omega)]
            by_cases hn : i + 1 < l.length
            · exact E2.pos (by omega) (E2.pos (by omega) (E2.pos (by omega) (E2.pos (by omega) E2.ret)))
            · exact E2.neg (by omega) (E2.pos (by omega) E2.ret)
      obtain ⟨v, e1, e2, e3⟩ := key l.length 0 0 0 0 1 (by omega)
      exact ⟨v, Ev.eq (fun k => spec_TimeOf_eq k l tick) (Ev.bind (specTempo_ev l hl) (Ev.neg (by simpa using hp) (Ev.bind (l1In_ev _ _ _) (Ev.neg (by simpa using ht) (Ev.loop (f := fun k m => spec_TimeOf.l0 k m l tick 0 0 0 0 1) e1))))),
        Ev.eq (fun k => impl_TimeOf_eq k l tick) (Ev.bind (implTempo_ev l hl) (Ev.neg (by simpa using hp) (Ev.bind (inRange_ev _ _ _) (Ev.neg (by simpa using ht) (Ev.loop (f := fun k m => impl_TimeOf.l0 k m l tick l ((List.length l : Nat) : Int) 0 0 0 0 1) e2))))), e3⟩
    · exact ⟨noR, Ev.eq (fun k => spec_TimeOf_eq k l tick) (Ev.bind (specTempo_ev l hl) (Ev.neg (by simpa using hp) (Ev.bind (l1In_ev _ _ _) (Ev.pos (by simpa using ht) Ev.ret)))),
        Ev.eq (fun k => impl_TimeOf_eq k l tick) (Ev.bind (implTempo_ev l hl) (Ev.neg (by simpa using hp) (Ev.bind (inRange_ev _ _ _) (Ev.pos (by simpa using ht) Ev.ret)))), fun _ => rfl⟩
  · exact ⟨noR, Ev.eq (fun k => spec_TimeOf_eq k l tick) (Ev.bind (specTempo_ev l hl) (Ev.pos (by simpa using hp) Ev.ret)),
      Ev.eq (fun k => impl_TimeOf_eq k l tick) (Ev.bind (implTempo_ev l hl) (Ev.pos (by simpa using hp) Ev.ret)), fun _ => rfl⟩
theorem mul4 (a b c d : Int) : a * b * (c * d) = a * c * (b * d) := by rw [Int.mul_assoc, Int.mul_assoc, Int.mul_left_comm b c d]
theorem isR_gcd {n d : Int} (h : isR n d = true) : gcdI (absI n) d = 1 := by
  unfold isR at h
  exact (of_decide_eq_true h).2.2
theorem gcd_cross (x y p q : Nat) (h1 : Nat.gcd x p = 1) (h2 : Nat.gcd y q = 1) (hp : 0 < p) (hq : 0 < q) : Nat.gcd (x * y) (p * q) = Nat.gcd x q * Nat.gcd y p := by
  have hg : 0 < Nat.gcd x q := Nat.gcd_pos_of_pos_right _ hq
  have hh : 0 < Nat.gcd y p := Nat.gcd_pos_of_pos_right _ hp
  have c1 := Nat.coprime_div_gcd_div_gcd hg
  have c2 := Nat.coprime_div_gcd_div_gcd hh
  have ex : Nat.gcd x q * (x / Nat.gcd x q) = x := Nat.mul_div_cancel' (Nat.gcd_dvd_left x q)
  have eq : Nat.gcd x q * (q / Nat.gcd x q) = q := Nat.mul_div_cancel' (Nat.gcd_dvd_right x q)
  have ey : Nat.gcd y p * (y / Nat.gcd y p) = y := Nat.mul_div_cancel' (Nat.gcd_dvd_left y p)
  have ep : Nat.gcd y p * (p / Nat.gcd y p) = p := Nat.mul_div_cancel' (Nat.gcd_dvd_right y p)
  generalize Nat.gcd x q = g at *
  generalize Nat.gcd y p = h at *
  generalize x / g = x' at *
  generalize q / g = q' at *
  generalize y / h = y' at *
  generalize p / h = p' at *
  have c3 : Nat.Coprime x' p' := by
    have : Nat.Coprime x p := h1
    exact (this.coprime_dvd_left ⟨g, by rw [← ex, Nat.mul_comm]⟩).coprime_dvd_right ⟨h, by rw [← ep, Nat.mul_comm]⟩
  have c4 : Nat.Coprime y' q' := by
    have : Nat.Coprime y q := h2
    exact (this.coprime_dvd_left ⟨h, by rw [← ey, Nat.mul_comm]⟩).coprime_dvd_right ⟨g, by rw [← eq, Nat.mul_comm]⟩
  have c5 : Nat.gcd (x' * y') (p' * q') = 1 := Nat.Coprime.mul_right (Nat.Coprime.mul_left c3 c2) (Nat.Coprime.mul_left c1 c4)
  have e1 : x * y = (g * h) * (x' * y') := by rw [← ex, ← ey, Nat.mul_mul_mul_comm]
  have e2 : p * q = (g * h) * (p' * q') := by rw [← ep, ← eq, Nat.mul_mul_mul_comm, Nat.mul_comm h g]
  rw [e1, e2, Nat.gcd_mul_left, c5, Nat.mul_one]
theorem gcdI_cross (a b p q : Int) (hp : 1 ≤ p) (hq : 1 ≤ q) (h1 : gcdI (absI a) p = 1) (h2 : gcdI (absI b) q = 1) : gcdI (absI (a * b)) (p * q) = gcdI (absI a) q * gcdI (absI b) p := by
  obtain ⟨p, rfl⟩ := Int.eq_ofNat_of_zero_le (show 0 ≤ p by omega)
  obtain ⟨q, rfl⟩ := Int.eq_ofNat_of_zero_le (show 0 ≤ q by omega)
  unfold gcdI absI at *
  rw [← Int.natCast_mul, ← Int.natCast_mul]
  simp only [Int.toNat_natCast] at *
  rw [Int.natAbs_mul, gcd_cross a.natAbs b.natAbs p q (by omega) (by omega) (by omega) (by omega)]
def mulR (a b : DT23) : Res := if isR a.1 a.2.1 = true ∧ isR b.1 b.2.1 = true then mk (a.1 * b.1) (a.2.1 * b.2.1) else noR
theorem implMul_ev (a b : DT23) : Ev (fun k => impl_MulRatio k a b) (mulR a b) := by
  unfold mulR
  by_cases ca : isR a.1 a.2.1 = true
  · by_cases cb : isR b.1 b.2.1 = true
    · obtain ⟨a1, a2⟩ := isR_spec ca
      obtain ⟨b1, b2⟩ := isR_spec cb
      have m3 := mul_bd (x := a.2.1) (y := b.2.1) (A := 1000000) (B := 1000000) ⟨by omega, a1.2⟩ ⟨by omega, b1.2⟩
      have m4 : 1 ≤ a.2.1 * b.2.1 := Int.mul_pos (by omega) (by omega)
      have m1 : -1000000000000000000 ≤ a.1 * b.1 ∧ a.1 * b.1 ≤ 1000000000000000000 := by
        rcases Int.le_total 0 b.1 with h | h
        · have := mul_bd (x := a.1) (y := b.1) (A := 1000000000) (B := 1000000000) ⟨a2.1, a2.2⟩ ⟨h, b2.2⟩
          omega
        · have := mul_bd (x := a.1) (y := -b.1) (A := 1000000000) (B := 1000000000) ⟨a2.1, a2.2⟩ ⟨by omega, by omega⟩
          rw [Int.mul_neg] at this
          omega
      refine Ev.eq (fun k => impl_MulRatio_eq k a b) (Ev.bind (implIsRatio_ev a) (Ev.neg (by simp [ca]) (Ev.bind (implIsRatio_ev b) (Ev.neg (by simp [cb]) ?_))))
      rw [wrapI (n := a.1 * b.1) (by omega) (by omega), wrapI (n := a.2.1 * b.2.1) (by omega) (by omega)]
      refine Ev.bind (lowest_ev _ _ (by omega) (by omega) m4 (by omega)) (Ev.ret.val ?_)
      rw [if_pos ⟨ca, cb⟩]
      obtain ⟨r, o, _⟩ := mk (a.1 * b.1) (a.2.1 * b.2.1)
      simp
    · exact Ev.eq (fun k => impl_MulRatio_eq k a b) (Ev.bind (implIsRatio_ev a) (Ev.neg (by simp [ca]) (Ev.bind (implIsRatio_ev b) (Ev.pos (by simpa using cb) (Ev.ret.val (by rw [if_neg (fun h => cb h.2)]; rfl))))))
  · exact Ev.eq (fun k => impl_MulRatio_eq k a b) (Ev.bind (implIsRatio_ev a) (Ev.pos (by simpa using ca) (Ev.ret.val (by rw [if_neg (fun h => ca h.1)]; rfl))))
theorem specMul_ev (a b : DT23) : Ev (fun k => spec_MulRatio k a b) (mulR a b) := by
  unfold mulR
  by_cases ca : isR a.1 a.2.1 = true
  · by_cases cb : isR b.1 b.2.1 = true
    · obtain ⟨a1, a2⟩ := isR_spec ca
      obtain ⟨b1, b2⟩ := isR_spec cb
      have ga := isR_gcd ca
      have gb := isR_gcd cb
      have aa : 0 ≤ absI a.1 := by unfold absI; omega
      have ab : 0 ≤ absI b.1 := by unfold absI; omega
      have hg := gcdI_pos (absI a.1) b.2.1 (by omega)
      have hh := gcdI_pos (absI b.1) a.2.1 (by omega)
      have eG := gcdI_cross a.1 b.1 a.2.1 b.2.1 a1.1 b1.1 ga gb
      obtain ⟨dg1, ⟨t, ht⟩⟩ := gcdI_dvd (absI a.1) b.2.1 aa (by omega)
      obtain ⟨dh1, ⟨s, hs⟩⟩ := gcdI_dvd (absI b.1) a.2.1 ab (by omega)
      have dabs : ∀ (g n : Int), g ∣ absI n → g ∣ n := by
        intro g n hd
        unfold absI at hd
        rcases Int.natAbs_eq n with h | h
        · rw [h]; exact hd
        · rw [h]; exact (Int.dvd_neg).2 hd
      obtain ⟨u, hu⟩ := dabs _ _ dg1
      obtain ⟨v, hv⟩ := dabs _ _ dh1
      have sg := specGcd_ev (absI a.1) b.2.1 aa (by omega)
      have sh := specGcd_ev (absI b.1) a.2.1 ab (by omega)
      generalize hge : gcdI (absI a.1) b.2.1 = g at *
      generalize hhe : gcdI (absI b.1) a.2.1 = h at *
      have e1 : Int.tdiv a.1 g = u := by rw [hu]; exact Int.mul_tdiv_cancel_left _ (by omega)
      have e2 : Int.tdiv b.1 h = v := by rw [hv]; exact Int.mul_tdiv_cancel_left _ (by omega)
      have e3 : Int.tdiv a.2.1 h = s := by rw [hs]; exact Int.mul_tdiv_cancel_left _ (by omega)
      have e4 : Int.tdiv b.2.1 g = t := by rw [ht]; exact Int.mul_tdiv_cancel_left _ (by omega)
      have b1' : -1000000000 ≤ u ∧ u ≤ 1000000000 := by have := Int.natAbs_tdiv_le_natAbs a.1 g; rw [e1] at this; omega
      have b2' : -1000000000 ≤ v ∧ v ≤ 1000000000 := by have := Int.natAbs_tdiv_le_natAbs b.1 h; rw [e2] at this; omega
      have b3' : -1000000 ≤ s ∧ s ≤ 1000000 := by have := Int.natAbs_tdiv_le_natAbs a.2.1 h; rw [e3] at this; omega
      have b4' : -1000000 ≤ t ∧ t ≤ 1000000 := by have := Int.natAbs_tdiv_le_natAbs b.2.1 g; rw [e4] at this; omega
      have m1 : -1000000000000000000 ≤ u * v ∧ u * v ≤ 1000000000000000000 := by
        rcases Int.le_total 0 v with h' | h'
        · have := mul_bd (x := u) (y := v) (A := 1000000000) (B := 1000000000) b1' ⟨h', b2'.2⟩
          omega
        · have := mul_bd (x := u) (y := -v) (A := 1000000000) (B := 1000000000) b1' ⟨by omega, by omega⟩
          rw [Int.mul_neg] at this
          omega
      have m2 : -1000000000000 ≤ s * t ∧ s * t ≤ 1000000000000 := by
        rcases Int.le_total 0 t with h' | h'
        · have := mul_bd (x := s) (y := t) (A := 1000000) (B := 1000000) b3' ⟨h', b4'.2⟩
          omega
        · have := mul_bd (x := s) (y := -t) (A := 1000000) (B := 1000000) b3' ⟨by omega, by omega⟩
          rw [Int.mul_neg] at this
          omega
      have hgh : 0 < g * h := Int.mul_pos hg hh
      have eN : Int.tdiv (a.1 * b.1) (g * h) = u * v := by
        have : a.1 * b.1 = (g * h) * (u * v) := by rw [hu, hv, mul4]
        rw [this]; exact Int.mul_tdiv_cancel_left _ (by omega)
      have eD : Int.tdiv (a.2.1 * b.2.1) (g * h) = s * t := by
        have : a.2.1 * b.2.1 = (g * h) * (s * t) := by rw [hs, ht, mul4, Int.mul_comm h g]
        rw [this]; exact Int.mul_tdiv_cancel_left _ (by omega)
      refine Ev.eq (fun k => spec_MulRatio_eq k a b) (Ev.bind (specIsRatio_ev a) (Ev.neg (by simp [ca]) (Ev.bind (specIsRatio_ev b) (Ev.neg (by simp [cb]) (Ev.bind (specAbs_ev _ (by omega) (by omega)) (Ev.bind sg (Ev.bind (specAbs_ev _ (by omega) (by omega)) (Ev.bind sh (Ev.neg (by omega) (Ev.neg (by omega) (Ev.neg (by omega) (Ev.neg (by omega) ?_))))))))))))
      rw [e1, e2, e3, e4, wrapI (n := u) (by omega) (by omega), wrapI (n := v) (by omega) (by omega), wrapI (n := s) (by omega) (by omega), wrapI (n := t) (by omega) (by omega), wrapI (n := u * v) (by omega) (by omega), wrapI (n := s * t) (by omega) (by omega)]
      rw [if_pos ⟨ca, cb⟩]
      unfold mk
      rw [eG, eN, eD]
      refine Ev.bind (specIsRatio_ev _) ?_
      by_cases c : isR (u * v) (s * t) = true
      · exact Ev.neg (by simpa using c) (Ev.ret.val (by rw [if_pos c]))
      · exact Ev.pos (by simpa using c) (Ev.ret.val (by rw [if_neg c]; rfl))
    · exact Ev.eq (fun k => spec_MulRatio_eq k a b) (Ev.bind (specIsRatio_ev a) (Ev.neg (by simp [ca]) (Ev.bind (specIsRatio_ev b) (Ev.pos (by simpa using cb) (Ev.ret.val (by rw [if_neg (fun h => cb h.2)]; rfl))))))
  · exact Ev.eq (fun k => spec_MulRatio_eq k a b) (Ev.bind (specIsRatio_ev a) (Ev.pos (by simpa using ca) (Ev.ret.val (by rw [if_neg (fun h => ca h.1)]; rfl))))
def lessB (a b : DT23) : Bool := if isR a.1 a.2.1 = true then (if isR b.1 b.2.1 = true then decide (((IntKind.wrap .i64 (a.1 * b.2.1)) : Int) < (IntKind.wrap .i64 (b.1 * a.2.1))) else false) else false
theorem specLess_ev (a b : DT23) : Ev (fun k => spec_LessRatio k a b) (lessB a b) := by
  unfold lessB
  by_cases ca : isR a.1 a.2.1 = true
  · rw [if_pos ca]
    by_cases cb : isR b.1 b.2.1 = true
    · rw [if_pos cb]; exact Ev.eq (fun k => spec_LessRatio_eq k a b) (Ev.bind (specIsRatio_ev a) (Ev.pos ca (Ev.bind (specIsRatio_ev b) (Ev.pos cb Ev.ret))))
    · rw [if_neg cb]; exact Ev.eq (fun k => spec_LessRatio_eq k a b) (Ev.bind (specIsRatio_ev a) (Ev.pos ca (Ev.bind (specIsRatio_ev b) (Ev.neg cb Ev.ret))))
  · rw [if_neg ca]; exact Ev.eq (fun k => spec_LessRatio_eq k a b) (Ev.bind (specIsRatio_ev a) (Ev.neg ca Ev.ret))
theorem implLess_ev (a b : DT23) : Ev (fun k => impl_LessRatio k a b) (lessB a b) := by
  unfold lessB
  by_cases ca : isR a.1 a.2.1 = true
  · rw [if_pos ca]
    by_cases cb : isR b.1 b.2.1 = true
    · rw [if_pos cb]; exact Ev.eq (fun k => impl_LessRatio_eq k a b) (Ev.bind (implIsRatio_ev a) (Ev.pos ca (Ev.bind (implIsRatio_ev b) (Ev.pos cb Ev.ret))))
    · rw [if_neg cb]; exact Ev.eq (fun k => impl_LessRatio_eq k a b) (Ev.bind (implIsRatio_ev a) (Ev.pos ca (Ev.bind (implIsRatio_ev b) (Ev.neg cb Ev.ret))))
  · rw [if_neg ca]; exact Ev.eq (fun k => impl_LessRatio_eq k a b) (Ev.bind (implIsRatio_ev a) (Ev.neg ca Ev.ret))
theorem add_comm' (a b : DT23) : addR a b = addR b a := by
  unfold addR
  by_cases c : isR a.1 a.2.1 = true ∧ isR b.1 b.2.1 = true
  · rw [if_pos c, if_pos ⟨c.2, c.1⟩, Int.add_comm, Int.mul_comm a.2.1]
  · rw [if_neg c, if_neg (fun h => c ⟨h.2, h.1⟩)]
theorem mul_noR (a : DT23) : mulR a noR.1 = noR := by
  unfold mulR noR
  rw [if_neg (by rw [isR_00]; simp)]
/-- The end of TickAt: the rest, by the rate, behind the mark. -/
def tickR (ms st : DT23) (at_ rate : Int) : Res :=
  if (addR ms (IntKind.wrap .i64 (-st.1), (st.2.1, ()))).2.1 = true then
    (if (mulR (addR ms (IntKind.wrap .i64 (-st.1), (st.2.1, ()))).1 (mk rate 5000).1).2.1 = true then
      (if (addR (mulR (addR ms (IntKind.wrap .i64 (-st.1), (st.2.1, ()))).1 (mk rate 5000).1).1 (at_, (1, ()))).2.1 = true then
        ((addR (mulR (addR ms (IntKind.wrap .i64 (-st.1), (st.2.1, ()))).1 (mk rate 5000).1).1 (at_, (1, ()))).1, (true, ())) else noR) else noR) else noR
theorem tick_fin3 (a b c : Res) : E2 (fun _ _ => if ¬ (a.2.1 = true) then some ((0, (0, ())), (false, ())) else if ¬ (b.2.1 = true) then some ((0, (0, ())), (false, ())) else if ¬ (c.2.1 = true) then some ((0, (0, ())), (false, ())) else some (c.1, (true, ())))
    (if a.2.1 = true then (if b.2.1 = true then (if c.2.1 = true then (c.1, (true, ())) else noR) else noR) else noR : Res) := by
  by_cases h1 : a.2.1 = true
  · rw [if_pos h1]
    by_cases h2 : b.2.1 = true
    · rw [if_pos h2]
      by_cases h3 : c.2.1 = true
      · rw [if_pos h3]; exact E2.neg (by simpa using h1) (E2.neg (by simpa using h2) (E2.neg (by simpa using h3) E2.ret))
      · rw [if_neg h3]; exact E2.neg (by simpa using h1) (E2.neg (by simpa using h2) (E2.pos h3 E2.ret))
    · rw [if_neg h2]; exact E2.neg (by simpa using h1) (E2.pos h2 E2.ret)
  · rw [if_neg h1]; exact E2.pos h1 E2.ret
theorem tick_fin4 (a d b c : Res) (hd : d.2.1 = false → b.2.1 = false) : E2 (fun _ _ => if ¬ (a.2.1 = true) then some ((0, (0, ())), (false, ())) else if ¬ (d.2.1 = true) then some ((0, (0, ())), (false, ())) else if ¬ (b.2.1 = true) then some ((0, (0, ())), (false, ())) else if ¬ (c.2.1 = true) then some ((0, (0, ())), (false, ())) else some (c.1, (true, ())))
    (if a.2.1 = true then (if b.2.1 = true then (if c.2.1 = true then (c.1, (true, ())) else noR) else noR) else noR : Res) := by
  by_cases h0 : d.2.1 = true
  · by_cases h1 : a.2.1 = true
    · rw [if_pos h1]
      by_cases h2 : b.2.1 = true
      · rw [if_pos h2]
        by_cases h3 : c.2.1 = true
        · rw [if_pos h3]; exact E2.neg (by simpa using h1) (E2.neg (by simpa using h0) (E2.neg (by simpa using h2) (E2.neg (by simpa using h3) E2.ret)))
        · rw [if_neg h3]; exact E2.neg (by simpa using h1) (E2.neg (by simpa using h0) (E2.neg (by simpa using h2) (E2.pos h3 E2.ret)))
      · rw [if_neg h2]; exact E2.neg (by simpa using h1) (E2.neg (by simpa using h0) (E2.pos h2 E2.ret))
    · rw [if_neg h1]; exact E2.pos h1 E2.ret
  · have hb := hd (by simpa using h0)
    by_cases h1 : a.2.1 = true
    · rw [if_pos h1, if_neg (show ¬ b.2.1 = true by rw [hb]; simp)]; exact E2.neg (by simpa using h1) (E2.pos h0 E2.ret)
    · rw [if_neg h1]; exact E2.pos h1 E2.ret
theorem mk_noR_mul {n d : Int} (x : DT23) (h : (mk n d).2.1 = false) : (mulR x (mk n d).1).2.1 = false := by
  rw [mk_no h, mul_noR]; rfl
theorem tickAt_both (l : List DT23) (ms : DT23) (hl : l.length ≤ 1048576) : ∃ v : Res, Ev (fun k => spec_TickAt k l ms) v ∧ Ev (fun k => impl_TickAt k l ms) v := by
  by_cases hp : tempoP l
  · by_cases hm : isR ms.1 ms.2.1 = true
    · by_cases hn : (ms.1 : Int) < 0
      · exact ⟨noR, Ev.eq (fun k => spec_TickAt_eq k l ms) (Ev.bind (specTempo_ev l hl) (Ev.neg (by simpa using hp) (Ev.bind (specIsRatio_ev ms) (Ev.neg (by simpa using hm) (Ev.pos hn Ev.ret))))),
          Ev.eq (fun k => impl_TickAt_eq k l ms) (Ev.bind (implTempo_ev l hl) (Ev.neg (by simpa using hp) (Ev.bind (implIsRatio_ev ms) (Ev.neg (by simpa using hm) (Ev.pos hn Ev.ret)))))⟩
      · have h1 : 1 ≤ l.length := by have := hp.2; simp at this; omega
        have ht : List.take (Int.toNat ((List.length l : Nat) : Int) - Int.toNat 1) (List.drop (Int.toNat 1) l) = l.drop 1 := by
          rw [Int.toNat_natCast]
          show List.take (l.length - 1) (l.drop 1) = l.drop 1
          rw [List.take_of_length_le (by simp)]
        have hlt : ((l.drop 1).length : Int) = ((l.length - 1 : Nat) : Int) := by simp
        have rate : ∀ i : Nat, i < l.length → LE.le (α := Int) 20 (rd T23 l (i : Int)).2.1 ∧ LE.le (α := Int) (rd T23 l (i : Int)).2.1 300 := fun i hi => (hp.1 i hi).1.1
        have key : ∀ d (i c : Nat) (a b x y : Int) (u1 u2 w1 w2 : Int), i + d = l.length → 1 ≤ i → c < l.length → ∃ v : Res, E2 (fun k m => spec_TickAt.l0 k m l (c : Int) (i : Int) ms.1 ms.2.1 u1 u2 x y) v ∧
            E2 (fun k m => impl_TickAt.l0 k m l (l.drop 1) ((List.length (l.drop 1) : Nat) : Int) ((i - 1 : Nat) : Int) ms.1 ms.2.1 w1 w2 (rd T23 l (c : Int)).1 (rd T23 l (c : Int)).2.1 x y) v := by
          intro d
          induction d with
          | zero =>
            intro i c a b x y u1 u2 w1 w2 hi hi1 hc
            have hr := rate c hc
            refine ⟨tickR ms (x, (y, ())) (rd T23 l (c : Int)).1 (rd T23 l (c : Int)).2.1, E2.eq (fun k m => spec_TickAt.l0_eq k m l _ _ _ _ _ _ _ _) (E2.neg (by omega) (E2.bind (specAdd_ev _ _) (E2.pos (by omega) (E2.pos (by omega) (E2.bind (specMake_ev _ _ (by omega) (by omega) (by omega) (by omega)) (E2.bind (specMul_ev _ _) (E2.pos (by omega) (E2.pos (by omega) (E2.bind (specAdd_ev _ _) (tick_fin3 _ _ _)))))))))),
              E2.eq (fun k m => impl_TickAt.l0_eq k m l _ _ _ _ _ _ _ _ _ _ _) (E2.neg (by omega) (E2.bind (implAdd_ev _ _) (E2.bind (implMake_ev _ _ (by omega) (by omega) (by omega) (by omega)) (E2.bind (implMul_ev _ _) (E2.bind (implAdd_ev _ _) ?_)))))⟩
            rw [add_comm' ((rd T23 l (c : Int)).1, (1, ()))]
            exact tick_fin4 _ _ _ _ (mk_noR_mul _)
          | succ d ih =>
            intro i c a b x y u1 u2 w1 w2 hi hi1 hc
            have hr := rate c hc
            have hlt' : i < l.length := by omega
            have hrd : rd T23 (l.drop 1) ((i - 1 : Nat) : Int) = rd T23 l (i : Int) := by
              rw [rd_at (by simp; omega), rd_at hlt', List.getElem_drop]
              congr 1
              omega
            obtain ⟨t, et1, et2, _⟩ := timeOf_both l (rd T23 l (i : Int)).1 hl
            have hw : IntKind.wrap .i64 (((i - 1 : Nat) : Int) + 1) = ((i + 1 - 1 : Nat) : Int) := by rw [wrapS (by omega)]; congr 1; omega
            by_cases cok : t.2.1 = true
            · by_cases cls : lessB (ms.1, (ms.2.1, ())) t.1 = true
              · refine ⟨tickR ms (x, (y, ())) (rd T23 l (c : Int)).1 (rd T23 l (c : Int)).2.1, E2.eq (fun k m => spec_TickAt.l0_eq k m l _ _ _ _ _ _ _ _) (E2.pos (by omega) (E2.pos (by omega) (E2.pos (by omega) (E2.bind et1 (E2.neg (by simpa using cok) (E2.bind (specLess_ev _ _) (E2.pos cls (E2.bind (specAdd_ev _ _) (E2.pos (by omega) (E2.pos (by omega) (E2.bind (specMake_ev _ _ (by omega) (by omega) (by omega) (by omega)) (E2.bind (specMul_ev _ _) (E2.pos (by omega) (E2.pos (by omega) (E2.bind (specAdd_ev _ _) (tick_fin3 _ _ _)))))))))))))))),
                  E2.eq (fun k m => impl_TickAt.l0_eq k m l _ _ _ _ _ _ _ _ _ _ _) (E2.pos (by omega) (E2.pos (by omega) (E2.pos (by omega) ?_)))⟩
                rw [hrd]
                refine E2.bind et2 (E2.neg (by simpa using cok) (E2.bind (implLess_ev _ _) (E2.pos cls (E2.bind (implAdd_ev _ _) (E2.bind (implMake_ev _ _ (by omega) (by omega) (by omega) (by omega)) (E2.bind (implMul_ev _ _) (E2.bind (implAdd_ev _ _) ?_)))))))
                rw [add_comm' ((rd T23 l (c : Int)).1, (1, ()))]
                exact tick_fin4 _ _ _ _ (mk_noR_mul _)
              · obtain ⟨v, e1, e2⟩ := ih (i + 1) i a b t.1.1 t.1.2.1 u1 u2 w1 w2 (by omega) (by omega) hlt'
                refine ⟨v, E2.eq (fun k m => spec_TickAt.l0_eq k m l _ _ _ _ _ _ _ _) (E2.pos (by omega) (E2.pos (by omega) (E2.pos (by omega) (E2.bind et1 (E2.neg (by simpa using cok) (E2.bind (specLess_ev _ _) (E2.neg cls ?_))))))),
                  E2.eq (fun k m => impl_TickAt.l0_eq k m l _ _ _ _ _ _ _ _ _ _ _) (E2.pos (by omega) (E2.pos (by omega) (E2.pos (by omega) ?_)))⟩
                · simp only [wrapS (show i < 9223372036854775807 by omega)]; exact e1
                · rw [hrd]
                  refine E2.bind et2 (E2.neg (by simpa using cok) (E2.bind (implLess_ev _ _) (E2.neg cls ?_)))
                  rw [hw]; exact e2
            · refine ⟨noR, E2.eq (fun k m => spec_TickAt.l0_eq k m l _ _ _ _ _ _ _ _) (E2.pos (by omega) (E2.pos (by omega) (E2.pos (by omega) (E2.bind et1 (E2.pos cok E2.ret))))),
                E2.eq (fun k m => impl_TickAt.l0_eq k m l _ _ _ _ _ _ _ _ _ _ _) (E2.pos (by omega) (E2.pos (by omega) (E2.pos (by omega) ?_)))⟩
              rw [hrd]
              exact E2.bind et2 (E2.pos cok E2.ret)
        obtain ⟨v, e1, e2⟩ := key (l.length - 1) 1 0 0 0 0 1 0 0 0 0 (by omega) (by omega) (by omega)
        refine ⟨v, Ev.eq (fun k => spec_TickAt_eq k l ms) (Ev.bind (specTempo_ev l hl) (Ev.neg (by simpa using hp) (Ev.bind (specIsRatio_ev ms) (Ev.neg (by simpa using hm) (Ev.neg hn (Ev.loop (f := fun k m => spec_TickAt.l0 k m l 0 1 ms.1 ms.2.1 0 0 0 1) e1)))))),
          Ev.eq (fun k => impl_TickAt_eq k l ms) (Ev.bind (implTempo_ev l hl) (Ev.neg (by simpa using hp) (Ev.bind (implIsRatio_ev ms) (Ev.neg (by simpa using hm) (Ev.neg hn (Ev.pos (by omega) (Ev.pos (by omega) (Ev.pos (by omega) (Ev.pos (by omega) ?_)))))))))⟩
        rw [ht]
        exact Ev.loop (f := fun k m => impl_TickAt.l0 k m l (l.drop 1) ((List.length (l.drop 1) : Nat) : Int) 0 ms.1 ms.2.1 0 0 (rd T23 l 0).1 (rd T23 l 0).2.1 0 1) e2
    · exact ⟨noR, Ev.eq (fun k => spec_TickAt_eq k l ms) (Ev.bind (specTempo_ev l hl) (Ev.neg (by simpa using hp) (Ev.bind (specIsRatio_ev ms) (Ev.pos (by simpa using hm) Ev.ret)))),
        Ev.eq (fun k => impl_TickAt_eq k l ms) (Ev.bind (implTempo_ev l hl) (Ev.neg (by simpa using hp) (Ev.bind (implIsRatio_ev ms) (Ev.pos (by simpa using hm) Ev.ret))))⟩
  · exact ⟨noR, Ev.eq (fun k => spec_TickAt_eq k l ms) (Ev.bind (specTempo_ev l hl) (Ev.pos (by simpa using hp) Ev.ret)),
      Ev.eq (fun k => impl_TickAt_eq k l ms) (Ev.bind (implTempo_ev l hl) (Ev.pos (by simpa using hp) Ev.ret))⟩
theorem isExact_both (o : DT30) (h1 : o.1.length ≤ 1048576) (h2 : o.2.2.1.length ≤ 1048576) : ∃ r, Ev (fun k => spec_IsExact k o) r ∧ Ev (fun k => impl_IsExact k o) r := by
  obtain ⟨tv, htv⟩ : ∃ tv : Int → Res, ∀ t, Ev (fun k => spec_TimeOf k o.2.2.1 t) (tv t) ∧ Ev (fun k => impl_TimeOf k o.2.2.1 t) (tv t) :=
    ⟨fun t => Classical.choose (timeOf_both o.2.2.1 t h2), fun t => let h := Classical.choose_spec (timeOf_both o.2.2.1 t h2); ⟨h.1, h.2.1⟩⟩
  obtain ⟨kv, hkv⟩ : ∃ kv : DT23 → Res, ∀ m, Ev (fun k => spec_TickAt k o.2.2.1 m) (kv m) ∧ Ev (fun k => impl_TickAt k o.2.2.1 m) (kv m) :=
    ⟨fun m => Classical.choose (tickAt_both o.2.2.1 m h2), fun m => Classical.choose_spec (tickAt_both o.2.2.1 m h2)⟩
  have key : ∃ r, Ev (fun k => spec_IsExact k o) r ∧ (r = true ↔ (∀ i, i < o.1.length → ((tv (rd T89 o.1 (i : Int)).1).2.1 = true ∧ (kv (tv (rd T89 o.1 (i : Int)).1).1).2.1 = true ∧ (((kv (tv (rd T89 o.1 (i : Int)).1).1).1.1 : Int) = (rd T89 o.1 (i : Int)).1 ∧ ((kv (tv (rd T89 o.1 (i : Int)).1).1).1.2.1 : Int) = 1))) ∧ true = true) := by
    obtain ⟨r, er, hr⟩ := loop_allR (R := fun i v => E2 (fun k m => spec_IsExact.l0 k m i o.1 o.2.1.1 o.2.1.2.1 o.2.2.1 o.2.2.2.1 o.2.2.2.2.1 o.2.2.2.2.2.1 o.2.2.2.2.2.2.1 o.2.2.2.2.2.2.2.1 o.2.2.2.2.2.2.2.2.1) v) (n := o.1.length)
      (fun i => (tv (rd T89 o.1 (i : Int)).1).2.1 = true ∧ (kv (tv (rd T89 o.1 (i : Int)).1).1).2.1 = true ∧ (((kv (tv (rd T89 o.1 (i : Int)).1).1).1.1 : Int) = (rd T89 o.1 (i : Int)).1 ∧ ((kv (tv (rd T89 o.1 (i : Int)).1).1).1.2.1 : Int) = 1)) true
      (E2.eq (fun k m => spec_IsExact.l0_eq k m _ _ _ _ _ _ _ _ _ _ _) (E2.neg (by omega) E2.ret)) (fun i hi hq v e => by
        obtain ⟨q1, q2, q3⟩ := hq
        refine E2.eq (fun k m => spec_IsExact.l0_eq k m _ _ _ _ _ _ _ _ _ _ _) (E2.pos (by omega) (E2.pos (by omega) (E2.pos (by omega) (E2.bind (htv _).1 (E2.bind (hkv _).1 (E2.neg (by simpa using q1) (E2.neg (by simpa using q2) (E2.pos (by omega) (E2.pos (by omega) (E2.neg (fun c => c q3) ?_))))))))))
        simp only [wrapS (show i < 9223372036854775807 by omega)]; exact e) (fun i hi hq => by
        refine E2.eq (fun k m => spec_IsExact.l0_eq k m _ _ _ _ _ _ _ _ _ _ _) (E2.pos (by omega) (E2.pos (by omega) (E2.pos (by omega) (E2.bind (htv _).1 (E2.bind (hkv _).1 ?_)))))
        by_cases q1 : (tv (rd T89 o.1 (i : Int)).1).2.1 = true
        · refine E2.neg (by simpa using q1) ?_
          by_cases q2 : (kv (tv (rd T89 o.1 (i : Int)).1).1).2.1 = true
          · exact E2.neg (by simpa using q2) (E2.pos (by omega) (E2.pos (by omega) (E2.pos (fun q3 => hq ⟨q1, q2, q3⟩) E2.ret)))
          · exact E2.pos q2 E2.ret
        · exact E2.pos q1 E2.ret)
    exact ⟨r, Ev.eq (fun k => spec_IsExact_eq k o) (Ev.loop (f := fun k m => spec_IsExact.l0 k m 0 o.1 o.2.1.1 o.2.1.2.1 o.2.2.1 o.2.2.2.1 o.2.2.2.2.1 o.2.2.2.2.2.1 o.2.2.2.2.2.2.1 o.2.2.2.2.2.2.2.1 o.2.2.2.2.2.2.2.2.1) er), hr⟩
  obtain ⟨r, er, hr⟩ := key
  have one : ∀ i, i < o.1.length → ∃ b, Ev (fun k => impl_IsExact_1 k (rd T89 o.1 (i : Int)) o) b ∧ (b = false ↔ ((tv (rd T89 o.1 (i : Int)).1).2.1 = true ∧ (kv (tv (rd T89 o.1 (i : Int)).1).1).2.1 = true ∧ (((kv (tv (rd T89 o.1 (i : Int)).1).1).1.1 : Int) = (rd T89 o.1 (i : Int)).1 ∧ ((kv (tv (rd T89 o.1 (i : Int)).1).1).1.2.1 : Int) = 1))) := by
    intro i hi
    by_cases q1 : (tv (rd T89 o.1 (i : Int)).1).2.1 = true
    · by_cases q2 : (kv (tv (rd T89 o.1 (i : Int)).1).1).2.1 = true
      · exact ⟨_, Ev.eq (fun k => impl_IsExact_1_eq k _ o) (Ev.bind (htv _).2 (Ev.bind (hkv _).2 (Ev.neg (by simpa using q1) (Ev.neg (by simpa using q2) Ev.ret)))), by rw [decide_eq_false_iff_not]; exact ⟨fun h => ⟨q1, q2, Classical.not_not.1 h⟩, fun h c => c h.2.2⟩⟩
      · exact ⟨true, Ev.eq (fun k => impl_IsExact_1_eq k _ o) (Ev.bind (htv _).2 (Ev.bind (hkv _).2 (Ev.neg (by simpa using q1) (Ev.pos q2 Ev.ret)))), by simp [q2]⟩
    · exact ⟨true, Ev.eq (fun k => impl_IsExact_1_eq k _ o) (Ev.bind (htv _).2 (Ev.bind (hkv _).2 (Ev.pos q1 Ev.ret))), by simp [q1]⟩
  obtain ⟨bv, hbv⟩ : ∃ bv : Nat → Bool, ∀ i, i < o.1.length → Ev (fun k => impl_IsExact_1 k (rd T89 o.1 (i : Int)) o) (bv i) ∧ (bv i = false ↔ ((tv (rd T89 o.1 (i : Int)).1).2.1 = true ∧ (kv (tv (rd T89 o.1 (i : Int)).1).1).2.1 = true ∧ (((kv (tv (rd T89 o.1 (i : Int)).1).1).1.1 : Int) = (rd T89 o.1 (i : Int)).1 ∧ ((kv (tv (rd T89 o.1 (i : Int)).1).1).1.2.1 : Int) = 1))) := by
    refine ⟨fun i => if h : i < o.1.length then Classical.choose (one i h) else false, fun i hi => ?_⟩
    simp only [hi, dif_pos]
    exact Classical.choose_spec (one i hi)
  have ef := loop_firstR (R := fun i v => E2 (fun k m => slices_IndexFunc_impl_Event_62.l0 k m o.1 o ((List.length o.1 : Nat) : Int) i) v) (n := o.1.length) bv (E2.eq (fun k m => slices_IndexFunc_impl_Event_62.l0_eq k m _ _ _ _) (E2.neg (by omega) E2.ret)) (fun i hi hq v e => by
    refine E2.eq (fun k m => slices_IndexFunc_impl_Event_62.l0_eq k m _ _ _ _) (E2.pos (by omega) (E2.pos (by omega) (E2.pos (by omega) (E2.bind (hbv i hi).1 (E2.neg (by rw [hq]; simp) ?_)))))
    simp only [wrapS (show i < 9223372036854775807 by omega)]; exact e) (fun i hi hq => E2.eq (fun k m => slices_IndexFunc_impl_Event_62.l0_eq k m _ _ _ _) (E2.pos (by omega) (E2.pos (by omega) (E2.pos (by omega) (E2.bind (hbv i hi).1 (E2.pos hq E2.ret))))))
  refine ⟨r, er, Ev.eq (fun k => impl_IsExact_eq k o) (Ev.bind (Ev.eq (fun k => slices_ContainsFunc_impl_Event_62_eq k o.1 o) (Ev.bind (Ev.eq (fun k => slices_IndexFunc_impl_Event_62_eq k o.1 o) (Ev.loop (f := fun k m => slices_IndexFunc_impl_Event_62.l0 k m o.1 o ((List.length o.1 : Nat) : Int) 0) ef)) Ev.ret)) (Ev.ret.val ?_))⟩
  rw [Bool.eq_iff_iff, decide_eq_true_eq, hr, decide_eq_true_eq, firstI_nonneg]
  constructor
  · intro h
    refine ⟨fun i hi => (hbv i hi).2.1 ?_, rfl⟩
    cases hb : bv i with
    | false => rfl
    | true => exact absurd ⟨i, hi, hb⟩ h
  · rintro ⟨h, _⟩ ⟨i, hi, hb⟩
    rw [(hbv i hi).2.2 (h i hi)] at hb
    cases hb
theorem pure (a0 : DT30) (w0 : Wd T30 a0) : ∃ k, laws_FnExactIsExact k a0 = some true := by
  refine Ev.at (f := fun k => laws_FnExactIsExact k a0) ?_
  obtain ⟨r0, e0, h0⟩ := laws_szOrchestra_ok a0 w0 1048576 (by omega) (by omega)
  by_cases c0 : r0 < 0
  · exact Ev.eq (fun k => laws_FnExactIsExact_eq k a0) (Ev.bind e0 (Ev.pos c0 Ev.ret))
  replace h0 := h0.resolve_left c0
  have b0 := h0.2.2
  obtain ⟨v, e1, e2⟩ := isExact_both a0 b0.1.1 b0.2.2.1.1
  exact Ev.eq (fun k => laws_FnExactIsExact_eq k a0) (Ev.bind e0 (Ev.neg c0 (Ev.bind (laws_toOrchestra_id _ b0) (Ev.bind e1 (Ev.bind (laws_toOrchestra_id _ b0) (Ev.bind e2 (Ev.neg (by simp) (Ev.bind (laws_toOrchestra_id _ b0) (Ev.bind (laws_eqOrchestra_self _ b0) (Ev.neg (by simp) Ev.ret))))))))))
end Go.QFnExactIsExact
