/- The plain half of FnExactLongMs, a part. No condition. -/
import Derived.Test.YtfjnjnmdlidpgaaHFnExactLongMs
set_option linter.unusedVariables false
set_option linter.unusedSimpArgs false
open Go Go.Flat
namespace Go.QFnExactLongMs
theorem l1In_ev (x lo hi : Int) : Ev (fun k => spec_l1In k x lo hi) (decide (lo ≤ x ∧ x ≤ hi)) := by
  by_cases c : lo ≤ x
  · exact Ev.eq (fun k => spec_l1In_eq k x lo hi) (Ev.pos c (Ev.ret.val (by simp [c])))
  · exact Ev.eq (fun k => spec_l1In_eq k x lo hi) (Ev.neg c (Ev.ret.val (by simp [c])))
theorem inRange_ev (x lo hi : Int) : Ev (fun k => impl_InRange k x lo hi) (decide (lo ≤ x ∧ x ≤ hi)) := by
  by_cases c : lo ≤ x
  · exact Ev.eq (fun k => impl_InRange_eq k x lo hi) (Ev.pos c (Ev.ret.val (by simp [c])))
  · exact Ev.eq (fun k => impl_InRange_eq k x lo hi) (Ev.neg c (Ev.ret.val (by simp [c])))
def gcdI (a b : Int) : Int := (Nat.gcd a.toNat b.toNat : Int)
theorem gcd_E2 {F : Int → Int → Nat → Nat → Option Int} (h0 : ∀ a, E2 (F a 0) a) (h1 : ∀ a b, b ≠ 0 → ∀ v, E2 (F b (Int.tmod a b)) v → E2 (F a b) v) : ∀ (n : Nat) (a b : Int), 0 ≤ a → 0 ≤ b → b.toNat ≤ n → E2 (F a b) (gcdI a b) := by
  intro n
  induction n with
  | zero =>
    intro a b ha hb hn
    have : b = 0 := by omega
    subst this
    refine (h0 a).val ?_
    unfold gcdI
    simp
    omega
  | succ n ih =>
    intro a b ha hb hn
    by_cases c : b = 0
    · subst c
      refine (h0 a).val ?_
      unfold gcdI
      simp
      omega
    · have hm : Int.tmod a b = ((a.toNat % b.toNat : Nat) : Int) := by
        obtain ⟨x, rfl⟩ := Int.eq_ofNat_of_zero_le ha
        obtain ⟨y, rfl⟩ := Int.eq_ofNat_of_zero_le hb
        rfl
      have hlt : a.toNat % b.toNat < b.toNat := Nat.mod_lt _ (by omega)
      refine (h1 a b c _ (ih b (Int.tmod a b) hb (by rw [hm]; omega) (by rw [hm]; omega))).val ?_
      unfold gcdI
      rw [hm, Int.toNat_natCast]
      congr 1
      rw [Nat.gcd_comm a.toNat b.toNat, Nat.gcd_rec b.toNat a.toNat, Nat.gcd_comm]
theorem specGcd_ev (a b : Int) (ha : 0 ≤ a) (hb : 0 ≤ b) : Ev (fun k => spec_l4Gcd k a b) (gcdI a b) :=
  Ev.eq (fun k => spec_l4Gcd_eq k a b) (Ev.loop (f := fun k m => spec_l4Gcd.l0 k m a b) (gcd_E2 (F := fun a b k m => spec_l4Gcd.l0 k m a b) (fun a => E2.eq (fun k m => spec_l4Gcd.l0_eq k m a 0) (E2.neg (by simp) E2.ret)) (fun a b hb v e => E2.eq (fun k m => spec_l4Gcd.l0_eq k m a b) (E2.pos hb (E2.neg hb e))) _ a b ha hb (Nat.le_refl _)))
theorem implGcd_ev (a b : Int) (ha : 0 ≤ a) (hb : 0 ≤ b) : Ev (fun k => impl_divisor k a b) (gcdI a b) :=
  Ev.eq (fun k => impl_divisor_eq k a b) (Ev.loop (f := fun k m => impl_divisor.l0 k m a b) (gcd_E2 (F := fun a b k m => impl_divisor.l0 k m a b) (fun a => E2.eq (fun k m => impl_divisor.l0_eq k m a 0) (E2.neg (by simp) E2.ret)) (fun a b hb v e => E2.eq (fun k m => impl_divisor.l0_eq k m a b) (E2.pos hb (E2.neg hb e))) _ a b ha hb (Nat.le_refl _)))
def absI (n : Int) : Int := (n.natAbs : Int)
theorem specAbs_ev (n : Int) (h1 : -4611686018427387904 ≤ n) (h2 : n ≤ 4611686018427387904) : Ev (fun k => spec_l4Abs k n) (absI n) := by
  unfold absI
  by_cases c : n < 0
  · exact Ev.eq (fun k => spec_l4Abs_eq k n) (Ev.pos c (Ev.ret.val (by rw [wrapI (by omega) (by omega)]; omega)))
  · exact Ev.eq (fun k => spec_l4Abs_eq k n) (Ev.neg c (Ev.ret.val (by omega)))
theorem implAbs (n : Int) (h1 : -4611686018427387904 ≤ n) (h2 : n ≤ 4611686018427387904) : (max n (IntKind.wrap .i64 (-n)) : Int) = absI n := by
  unfold absI
  rw [wrapI (by omega) (by omega)]
  omega
def isR (n d : Int) : Bool := decide ((1 ≤ d ∧ d ≤ 1000000) ∧ (-1000000000 ≤ n ∧ n ≤ 1000000000) ∧ gcdI (absI n) d = 1)
theorem specIsRatio_ev (r : DT23) : Ev (fun k => spec_IsRatio k r) (isR r.1 r.2.1) := by
  by_cases c1 : 1 ≤ r.2.1 ∧ r.2.1 ≤ 1000000
  · by_cases c2 : -1000000000 ≤ r.1 ∧ r.1 ≤ 1000000000
    · exact Ev.eq (fun k => spec_IsRatio_eq k r) (Ev.bind (l1In_ev _ _ _) (Ev.pos (by simp [c1]) (Ev.bind (l1In_ev _ _ _) (Ev.pos (by simp [c2]) (Ev.bind (specAbs_ev r.1 (by omega) (by omega)) (Ev.bind (specGcd_ev _ _ (by unfold absI; omega) (by omega)) (Ev.ret.val (by unfold isR; simp [c1, c2]))))))))
    · exact Ev.eq (fun k => spec_IsRatio_eq k r) (Ev.bind (l1In_ev _ _ _) (Ev.pos (by simp [c1]) (Ev.bind (l1In_ev _ _ _) (Ev.neg (by simpa using c2) (Ev.ret.val (by unfold isR; simp only [c2, false_and, and_false, decide_false]))))))
  · exact Ev.eq (fun k => spec_IsRatio_eq k r) (Ev.bind (l1In_ev _ _ _) (Ev.neg (by simpa using c1) (Ev.ret.val (by unfold isR; simp only [c1, false_and, decide_false]))))
theorem implIsRatio_ev (r : DT23) : Ev (fun k => impl_IsRatio k r) (isR r.1 r.2.1) := by
  by_cases c1 : 1 ≤ r.2.1 ∧ r.2.1 ≤ 1000000
  · by_cases c2 : -1000000000 ≤ r.1 ∧ r.1 ≤ 1000000000
    · refine Ev.eq (fun k => impl_IsRatio_eq k r) (Ev.bind (inRange_ev _ _ _) (Ev.pos (by simp [c1]) (Ev.bind (inRange_ev _ _ _) (Ev.pos (by simp [c2]) ?_))))
      simp only [implAbs r.1 (by omega) (by omega)]
      exact Ev.bind (implGcd_ev _ _ (by unfold absI; omega) (by omega)) (Ev.ret.val (by unfold isR; simp [c1, c2]))
    · exact Ev.eq (fun k => impl_IsRatio_eq k r) (Ev.bind (inRange_ev _ _ _) (Ev.pos (by simp [c1]) (Ev.bind (inRange_ev _ _ _) (Ev.neg (by simpa using c2) (Ev.ret.val (by unfold isR; simp only [c2, false_and, and_false, decide_false]))))))
  · exact Ev.eq (fun k => impl_IsRatio_eq k r) (Ev.bind (inRange_ev _ _ _) (Ev.neg (by simpa using c1) (Ev.ret.val (by unfold isR; simp only [c1, false_and, decide_false]))))
theorem gcdI_pos (a b : Int) (hb : 0 < b) : 0 < gcdI a b := by
  unfold gcdI
  have : 0 < Nat.gcd a.toNat b.toNat := Nat.gcd_pos_of_pos_right _ (by omega)
  omega
theorem wrap_tdiv (n g : Int) (h1 : -4611686018427387904 ≤ n) (h2 : n ≤ 4611686018427387904) : IntKind.wrap .i64 (Int.tdiv n g) = Int.tdiv n g := by
  have := Int.natAbs_tdiv_le_natAbs n g
  exact wrapI (by omega) (by omega)
abbrev Res : Type := DT23 × (Bool × Unit)
def noR : Res := ((0, (0, ())), (false, ()))
def mk (n d : Int) : Res :=
  if isR (Int.tdiv n (gcdI (absI n) d)) (Int.tdiv d (gcdI (absI n) d)) = true then ((Int.tdiv n (gcdI (absI n) d), (Int.tdiv d (gcdI (absI n) d), ())), (true, ())) else noR
theorem lowest_ev (n d : Int) (h1 : -4611686018427387904 ≤ n) (h2 : n ≤ 4611686018427387904) (h3 : 1 ≤ d) (h4 : d ≤ 4611686018427387904) : Ev (fun k => impl_lowest k n d) (mk n d) := by
  have hg := gcdI_pos (absI n) d (by omega)
  refine Ev.eq (fun k => impl_lowest_eq k n d) (Ev.neg (by omega) (Ev.neg (by omega) ?_))
  simp only [implAbs n h1 h2]
  refine Ev.bind (implGcd_ev _ _ (by unfold absI; omega) (by omega)) (Ev.neg (by omega) (Ev.neg (by omega) ?_))
  simp only [wrap_tdiv n _ h1 h2, wrap_tdiv d _ (by omega) h4]
  refine Ev.bind (implIsRatio_ev _) ?_
  unfold mk
  by_cases c : isR (Int.tdiv n (gcdI (absI n) d)) (Int.tdiv d (gcdI (absI n) d)) = true
  · exact Ev.neg (by simp [c]) (Ev.ret.val (by rw [if_pos c]))
  · exact Ev.pos (by simpa using c) (Ev.ret.val (by rw [if_neg c]; rfl))
theorem implMake_ev (n d : Int) (h1 : -1000000000000000 ≤ n) (h2 : n ≤ 1000000000000000) (h3 : 1 ≤ d) (h4 : d ≤ 1000000000000000) : Ev (fun k => impl_MakeRatio k n d) (mk n d) := by
  refine Ev.eq (fun k => impl_MakeRatio_eq k n d) (Ev.bind (inRange_ev _ _ _) (Ev.neg (by simp; omega) (Ev.bind (inRange_ev _ _ _) (Ev.neg (by simp; omega) (Ev.bind (lowest_ev n d (by omega) (by omega) h3 (by omega)) (Ev.ret.val ?_))))))
  obtain ⟨a, b, _⟩ := mk n d
  simp
theorem specMake_ev (n d : Int) (h1 : -1000000000000000 ≤ n) (h2 : n ≤ 1000000000000000) (h3 : 1 ≤ d) (h4 : d ≤ 1000000000000000) : Ev (fun k => spec_MakeRatio k n d) (mk n d) := by
  have hg := gcdI_pos (absI n) d (by omega)
  have hw : IntKind.wrap .i64 (-1000000000000000) = -1000000000000000 := wrapI (by omega) (by omega)
  refine Ev.eq (fun k => spec_MakeRatio_eq k n d) (Ev.bind (l1In_ev _ _ _) (Ev.neg (by rw [hw]; simp; omega) (Ev.bind (l1In_ev _ _ _) (Ev.neg (by rw [hw]; simp; omega) (Ev.neg (by omega) (Ev.neg (by omega) (Ev.bind (specAbs_ev n (by omega) (by omega)) (Ev.bind (specGcd_ev _ _ (by unfold absI; omega) (by omega)) (Ev.neg (by omega) (Ev.neg (by omega) ?_))))))))))
  simp only [wrap_tdiv n _ (show -4611686018427387904 ≤ n by omega) (by omega), wrap_tdiv d _ (show -4611686018427387904 ≤ d by omega) (by omega)]
  refine Ev.bind (specIsRatio_ev _) ?_
  unfold mk
  by_cases c : isR (Int.tdiv n (gcdI (absI n) d)) (Int.tdiv d (gcdI (absI n) d)) = true
  · exact Ev.neg (by simp [c]) (Ev.ret.val (by rw [if_pos c]))
  · exact Ev.pos (by simpa using c) (Ev.ret.val (by rw [if_neg c]; rfl))
theorem absI_mul (g n : Int) (hg : 0 < g) : absI (g * n) = g * absI n := by
  unfold absI
  rw [Int.natAbs_mul]
  have : ((g.natAbs : Nat) : Int) = g := by omega
  rw [Int.natCast_mul, this]
theorem gcdI_mul (g a b : Int) (hg : 0 < g) (ha : 0 ≤ a) (hb : 0 ≤ b) : gcdI (g * a) (g * b) = g * gcdI a b := by
  obtain ⟨k, rfl⟩ := Int.eq_ofNat_of_zero_le (Int.le_of_lt hg)
  obtain ⟨x, rfl⟩ := Int.eq_ofNat_of_zero_le ha
  obtain ⟨y, rfl⟩ := Int.eq_ofNat_of_zero_le hb
  unfold gcdI
  rw [← Int.natCast_mul, ← Int.natCast_mul]
  simp only [Int.toNat_natCast]
  rw [Nat.gcd_mul_left, Int.natCast_mul]
theorem mk_mul (g n d : Int) (hg : 0 < g) (hd : 1 ≤ d) : mk (g * n) (g * d) = mk n d := by
  have hp := gcdI_pos (absI n) d (by omega)
  unfold mk
  rw [absI_mul g n hg, gcdI_mul g _ _ hg (by unfold absI; omega) (by omega), Int.mul_tdiv_mul_of_pos _ _ hg, Int.mul_tdiv_mul_of_pos _ _ hg]
def addR (a b : DT23) : Res := if isR a.1 a.2.1 = true ∧ isR b.1 b.2.1 = true then mk (a.1 * b.2.1 + b.1 * a.2.1) (a.2.1 * b.2.1) else noR
theorem isR_spec {n d : Int} (h : isR n d = true) : (1 ≤ d ∧ d ≤ 1000000) ∧ (-1000000000 ≤ n ∧ n ≤ 1000000000) := by
  unfold isR at h
  have := of_decide_eq_true h
  exact ⟨this.1, this.2.1⟩
theorem mul_bd {x y A B : Int} (hx : -A ≤ x ∧ x ≤ A) (hy : 0 ≤ y ∧ y ≤ B) : -(A * B) ≤ x * y ∧ x * y ≤ A * B := by
  have hA : 0 ≤ A := by omega
  have h1 : A * y ≤ A * B := Int.mul_le_mul_of_nonneg_left hy.2 hA
  have h2 : x * y ≤ A * y := Int.mul_le_mul_of_nonneg_right hx.2 hy.1
  have h3 : -A * y ≤ x * y := Int.mul_le_mul_of_nonneg_right hx.1 hy.1
  rw [Int.neg_mul] at h3
  omega
theorem implAdd_ev (a b : DT23) : Ev (fun k => impl_AddRatio k a b) (addR a b) := by
  unfold addR
  by_cases ca : isR a.1 a.2.1 = true
  · by_cases cb : isR b.1 b.2.1 = true
    · obtain ⟨a1, a2⟩ := isR_spec ca
      obtain ⟨b1, b2⟩ := isR_spec cb
      have m1 := mul_bd (x := a.1) (y := b.2.1) (A := 1000000000) (B := 1000000) ⟨a2.1, a2.2⟩ ⟨by omega, b1.2⟩
      have m2 := mul_bd (x := b.1) (y := a.2.1) (A := 1000000000) (B := 1000000) ⟨b2.1, b2.2⟩ ⟨by omega, a1.2⟩
      have m3 := mul_bd (x := a.2.1) (y := b.2.1) (A := 1000000) (B := 1000000) ⟨by omega, a1.2⟩ ⟨by omega, b1.2⟩
      have m4 : 1 ≤ a.2.1 * b.2.1 := Int.mul_pos (by omega) (by omega)
      refine Ev.eq (fun k => impl_AddRatio_eq k a b) (Ev.bind (implIsRatio_ev a) (Ev.neg (by simp [ca]) (Ev.bind (implIsRatio_ev b) (Ev.neg (by simp [cb]) ?_))))
      rw [wrapI (n := a.1 * b.2.1) (by omega) (by omega), wrapI (n := b.1 * a.2.1) (by omega) (by omega), wrapI (n := a.1 * b.2.1 + b.1 * a.2.1) (by omega) (by omega), wrapI (n := a.2.1 * b.2.1) (by omega) (by omega)]
      refine Ev.bind (lowest_ev _ _ (by omega) (by omega) m4 (by omega)) (Ev.ret.val ?_)
      rw [if_pos ⟨ca, cb⟩]
      obtain ⟨r, o, _⟩ := mk (a.1 * b.2.1 + b.1 * a.2.1) (a.2.1 * b.2.1)
      simp
    · exact Ev.eq (fun k => impl_AddRatio_eq k a b) (Ev.bind (implIsRatio_ev a) (Ev.neg (by simp [ca]) (Ev.bind (implIsRatio_ev b) (Ev.pos (by simpa using cb) (Ev.ret.val (by rw [if_neg (fun h => cb h.2)]; rfl))))))
  · exact Ev.eq (fun k => impl_AddRatio_eq k a b) (Ev.bind (implIsRatio_ev a) (Ev.pos (by simpa using ca) (Ev.ret.val (by rw [if_neg (fun h => ca h.1)]; rfl))))
theorem gcdI_dvd (a b : Int) (ha : 0 ≤ a) (hb : 0 ≤ b) : gcdI a b ∣ a ∧ gcdI a b ∣ b := by
  obtain ⟨x, rfl⟩ := Int.eq_ofNat_of_zero_le ha
  obtain ⟨y, rfl⟩ := Int.eq_ofNat_of_zero_le hb
  unfold gcdI
  simp only [Int.toNat_natCast]
  exact ⟨Int.natCast_dvd_natCast.2 (Nat.gcd_dvd_left _ _), Int.natCast_dvd_natCast.2 (Nat.gcd_dvd_right _ _)⟩
theorem specAdd_ev (a b : DT23) : Ev (fun k => spec_AddRatio k a b) (addR a b) := by
  unfold addR
  by_cases ca : isR a.1 a.2.1 = true
  · by_cases cb : isR b.1 b.2.1 = true
    · obtain ⟨a1, a2⟩ := isR_spec ca
      obtain ⟨b1, b2⟩ := isR_spec cb
      have hg := gcdI_pos a.2.1 b.2.1 (by omega)
      obtain ⟨⟨p, hp⟩, ⟨q, hq⟩⟩ := gcdI_dvd a.2.1 b.2.1 (by omega) (by omega)
      rw [if_pos ⟨ca, cb⟩]
      have hgg := specGcd_ev a.2.1 b.2.1 (by omega) (by omega)
      generalize hge : gcdI a.2.1 b.2.1 = g at *
      have ep : Int.tdiv a.2.1 g = p := by rw [hp]; exact Int.mul_tdiv_cancel_left _ (by omega)
      have eq : Int.tdiv b.2.1 g = q := by rw [hq]; exact Int.mul_tdiv_cancel_left _ (by omega)
      have hp1 : 1 ≤ p := by
        rcases Int.lt_or_le 0 p with h | h
        · omega
        · have := Int.mul_nonpos_of_nonneg_of_nonpos (Int.le_of_lt hg) h
          omega
      have hq1 : 1 ≤ q := by
        rcases Int.lt_or_le 0 q with h | h
        · omega
        · have := Int.mul_nonpos_of_nonneg_of_nonpos (Int.le_of_lt hg) h
          omega
      have hp2 : p ≤ 1000000 := by
        have : 1 * p ≤ g * p := Int.mul_le_mul_of_nonneg_right (by omega) (by omega)
        omega
      have hq2 : q ≤ 1000000 := by
        have : 1 * q ≤ g * q := Int.mul_le_mul_of_nonneg_right (by omega) (by omega)
        omega
      have m1 := mul_bd (x := a.1) (y := q) (A := 1000000000) (B := 1000000) ⟨a2.1, a2.2⟩ ⟨by omega, hq2⟩
      have m2 := mul_bd (x := b.1) (y := p) (A := 1000000000) (B := 1000000) ⟨b2.1, b2.2⟩ ⟨by omega, hp2⟩
      have m3 := mul_bd (x := p) (y := b.2.1) (A := 1000000) (B := 1000000) ⟨by omega, hp2⟩ ⟨by omega, b1.2⟩
      have m4 : 1 ≤ p * b.2.1 := Int.mul_pos (by omega) (by omega)
      refine Ev.eq (fun k => spec_AddRatio_eq k a b) (Ev.bind (specIsRatio_ev a) (Ev.neg (by simp [ca]) (Ev.bind (specIsRatio_ev b) (Ev.neg (by simp [cb]) (Ev.bind hgg (Ev.neg (by omega) (Ev.neg (by omega) (Ev.neg (by omega) ?_))))))))
      rw [ep, eq, wrapI (n := p) (by omega) (by omega), wrapI (n := q) (by omega) (by omega), wrapI (n := a.1 * q) (by omega) (by omega), wrapI (n := b.1 * p) (by omega) (by omega), wrapI (n := a.1 * q + b.1 * p) (by omega) (by omega), wrapI (n := p * b.2.1) (by omega) (by omega)]
      have hm : mk (a.1 * b.2.1 + b.1 * a.2.1) (a.2.1 * b.2.1) = mk (a.1 * q + b.1 * p) (p * b.2.1) := by
        rw [← mk_mul g (a.1 * q + b.1 * p) (p * b.2.1) hg m4]
        congr 1
        · rw [Int.mul_add, Int.mul_left_comm g a.1 q, Int.mul_left_comm g b.1 p, ← hq, ← hp]
        · rw [← Int.mul_assoc, ← hp]
      rw [hm]
      have h5 := gcdI_pos (absI (a.1 * q + b.1 * p)) (p * b.2.1) (by omega)
      refine Ev.bind (specAbs_ev _ (by omega) (by omega)) (Ev.bind (specGcd_ev _ _ (by unfold absI; omega) (by omega)) (Ev.neg (by omega) (Ev.neg (by omega) ?_)))
      simp only [wrap_tdiv (a.1 * q + b.1 * p) _ (by omega) (by omega), wrap_tdiv (p * b.2.1) _ (by omega) (by omega)]
      refine Ev.bind (specIsRatio_ev _) ?_
      unfold mk
      by_cases c : isR (Int.tdiv (a.1 * q + b.1 * p) (gcdI (absI (a.1 * q + b.1 * p)) (p * b.2.1))) (Int.tdiv (p * b.2.1) (gcdI (absI (a.1 * q + b.1 * p)) (p * b.2.1))) = true
      · exact Ev.neg (by simp [c]) (Ev.ret.val (by rw [if_pos c]))
      · exact Ev.pos (by simpa using c) (Ev.ret.val (by rw [if_neg c]; rfl))
    · exact Ev.eq (fun k => spec_AddRatio_eq k a b) (Ev.bind (specIsRatio_ev a) (Ev.neg (by simp [ca]) (Ev.bind (specIsRatio_ev b) (Ev.pos (by simpa using cb) (Ev.ret.val (by rw [if_neg (fun h => cb h.2)]; rfl))))))
  · exact Ev.eq (fun k => spec_AddRatio_eq k a b) (Ev.bind (specIsRatio_ev a) (Ev.pos (by simpa using ca) (Ev.ret.val (by rw [if_neg (fun h => ca h.1)]; rfl))))
def modR (n m : Int) : Int := if 1 ≤ m ∧ m ≤ 1000000000000 then Int.tmod (IntKind.wrap .i64 ((Int.tmod n m) + m)) m else 0
theorem specMod_ev (n m : Int) : Ev (fun k => spec_Mod k n m) (modR n m) := by
  unfold modR
  by_cases c : 1 ≤ m ∧ m ≤ 1000000000000
  · exact Ev.eq (fun k => spec_Mod_eq k n m) (Ev.bind (l1In_ev _ _ _) (Ev.neg (by simp [c]) (Ev.neg (by omega) (Ev.neg (by omega) (Ev.ret.val (by rw [if_pos c]))))))
  · exact Ev.eq (fun k => spec_Mod_eq k n m) (Ev.bind (l1In_ev _ _ _) (Ev.pos (by simpa using c) (Ev.ret.val (by rw [if_neg c]))))
theorem implMod_ev (n m : Int) : Ev (fun k => impl_Mod k n m) (modR n m) := by
  unfold modR
  by_cases c : 1 ≤ m ∧ m ≤ 1000000000000
  · exact Ev.eq (fun k => impl_Mod_eq k n m) (Ev.bind (inRange_ev _ _ _) (Ev.neg (by simp [c]) (Ev.neg (by omega) (Ev.neg (by omega) (Ev.ret.val (by rw [if_pos c]))))))
  · exact Ev.eq (fun k => impl_Mod_eq k n m) (Ev.bind (inRange_ev _ _ _) (Ev.pos (by simpa using c) (Ev.ret.val (by rw [if_neg c]))))
def floorR (r : DT23) : Int := if isR r.1 r.2.1 = true then IntKind.wrap .i64 (Int.tdiv (IntKind.wrap .i64 (r.1 - modR r.1 r.2.1)) r.2.1) else 0
theorem specFloor_ev (r : DT23) : Ev (fun k => spec_FloorRatio k r) (floorR r) := by
  unfold floorR
  by_cases c : isR r.1 r.2.1 = true
  · have := isR_spec c
    exact Ev.eq (fun k => spec_FloorRatio_eq k r) (Ev.bind (specIsRatio_ev r) (Ev.neg (by simp [c]) (Ev.bind (specMod_ev _ _) (Ev.neg (by omega) (Ev.ret.val (by rw [if_pos c]))))))
  · exact Ev.eq (fun k => spec_FloorRatio_eq k r) (Ev.bind (specIsRatio_ev r) (Ev.pos (by simpa using c) (Ev.ret.val (by rw [if_neg c]))))
theorem implFloor_ev (r : DT23) : Ev (fun k => impl_FloorRatio k r) (floorR r) := by
  unfold floorR
  by_cases c : isR r.1 r.2.1 = true
  · have := isR_spec c
    exact Ev.eq (fun k => impl_FloorRatio_eq k r) (Ev.bind (implIsRatio_ev r) (Ev.neg (by simp [c]) (Ev.bind (implMod_ev _ _) (Ev.neg (by omega) (Ev.ret.val (by rw [if_pos c]))))))
  · exact Ev.eq (fun k => impl_FloorRatio_eq k r) (Ev.bind (implIsRatio_ev r) (Ev.pos (by simpa using c) (Ev.ret.val (by rw [if_neg c]))))
theorem specMax_ev (a b : Int) : Ev (fun k => spec_Max k a b) (max a b) := by
  by_cases c : a < b
  · exact Ev.eq (fun k => spec_Max_eq k a b) (Ev.pos c (Ev.ret.val (by omega)))
  · exact Ev.eq (fun k => spec_Max_eq k a b) (Ev.neg c (Ev.ret.val (by omega)))
theorem specMin_ev (a b : Int) : Ev (fun k => spec_Min k a b) (min a b) := by
  by_cases c : b < a
  · exact Ev.eq (fun k => spec_Min_eq k a b) (Ev.pos c (Ev.ret.val (by omega)))
  · exact Ev.eq (fun k => spec_Min_eq k a b) (Ev.neg c (Ev.ret.val (by omega)))
theorem nan_ev (x : Int) : Ev (fun k => cmp_isNaN_int k x) false := Ev.eq (fun k => cmp_isNaN_int_eq k x) (Ev.ret.val (by simp))
def cmpI (x y : Int) : Int := if x < y then -1 else if y < x then 1 else 0
theorem cmp_ev (x y : Int) : Ev (fun k => cmp_Compare_int k x y) (cmpI x y) := by
  unfold cmpI
  by_cases c : x < y
  · exact Ev.eq (fun k => cmp_Compare_int_eq k x y) (Ev.bind (nan_ev x) (Ev.bind (nan_ev y) (Ev.neg (by simp) (Ev.neg (by simp) (Ev.pos c (Ev.ret.val (by rw [if_pos c])))))))
  · by_cases c2 : y < x
    · exact Ev.eq (fun k => cmp_Compare_int_eq k x y) (Ev.bind (nan_ev x) (Ev.bind (nan_ev y) (Ev.neg (by simp) (Ev.neg (by simp) (Ev.neg c (Ev.pos c2 (Ev.ret.val (by rw [if_neg c, if_pos c2]))))))))
    · exact Ev.eq (fun k => cmp_Compare_int_eq k x y) (Ev.bind (nan_ev x) (Ev.bind (nan_ev y) (Ev.neg (by simp) (Ev.neg (by simp) (Ev.neg c (Ev.neg c2 (Ev.ret.val (by rw [if_neg c, if_neg c2]))))))))
theorem dec_of {f : Nat → Option Bool} {p : Prop} [d : Decidable p] (h : ∃ r, Ev f r ∧ (r = true ↔ p)) : Ev f (decide p) := by
  obtain ⟨r, e, hr⟩ := h
  exact e.val (by rw [Bool.eq_iff_iff, hr]; simp)
theorem loop_allE {F : Int → Nat → Nat → Option Bool} {n : Nat} (Q : Nat → Prop) (c : Bool) (hend : E2 (F (n : Int)) c)
    (hgo : ∀ i, i < n → Q i → ∀ v, E2 (F ((i + 1 : Nat) : Int)) v → E2 (F (i : Int)) v) (hstop : ∀ i, i < n → ¬ Q i → E2 (F (i : Int)) false) :
    ∃ r, E2 (F 0) r ∧ (r = true ↔ (∀ i, i < n → Q i) ∧ c = true) := by
  have key : ∀ d i, i + d = n → ∃ r, E2 (F (i : Int)) r ∧ (r = true ↔ (∀ j, i ≤ j → j < n → Q j) ∧ c = true) := by
    intro d
    induction d with
    | zero =>
      intro i hi
      have hi : i = n := by omega
      subst hi
      exact ⟨c, hend, ⟨fun h => ⟨fun j _ _ => by omega, h⟩, fun h => h.2⟩⟩
    | succ d ih =>
      intro i hi
      obtain ⟨r, er, hr⟩ := ih (i + 1) (by omega)
      by_cases hq : Q i
      · refine ⟨r, hgo i (by omega) hq r er, hr.trans ⟨fun h => ⟨fun j h1 h2 => ?_, h.2⟩, fun h => ⟨fun j h1 h2 => h.1 j (by omega) h2, h.2⟩⟩⟩
        by_cases hj : j = i
        · subst hj; exact hq
        · exact h.1 j (by omega) h2
      · exact ⟨false, hstop i (by omega) hq, by simp only [Bool.false_eq_true, false_iff]; exact fun h => hq (h.1 i (Nat.le_refl _) (by omega))⟩
  obtain ⟨r, er, hr⟩ := key n 0 (by omega)
  exact ⟨r, er, hr.trans ⟨fun h => ⟨fun i hi => h.1 i (Nat.zero_le _) hi, h.2⟩, fun h => ⟨fun i _ hi => h.1 i hi, h.2⟩⟩⟩
theorem wrapP {i : Nat} (h : 0 < i) (h2 : i < 9223372036854775807) : IntKind.wrap .i64 ((i : Int) - 1) = ((i - 1 : Nat) : Int) := by
  rw [wrapI (by omega) (by omega)]; omega
def okE (e : DT89) : Prop := (0 ≤ (e.1 : Int) ∧ (e.1 : Int) ≤ 2000) ∧ (1 ≤ (e.2.1 : Int) ∧ (e.2.1 : Int) ≤ 96) ∧ (21 ≤ (e.2.2.1 : Int) ∧ (e.2.2.1 : Int) ≤ 108) ∧ 1 ≤ (e.2.2.2.1 : Int) ∧ (e.2.2.2.1 : Int) ≤ 4
instance (e : DT89) : Decidable (okE e) := by unfold okE; infer_instance
theorem l8Ok_ev (e : DT89) : Ev (fun k => spec_l8Ok k e) (decide (okE e)) := by
  refine Ev.eq (fun k => spec_l8Ok_eq k e) (Ev.bind (l1In_ev _ _ _) ?_)
  unfold okE
  by_cases c1 : 0 ≤ (e.1 : Int) ∧ (e.1 : Int) ≤ 2000
  · refine Ev.pos (by simp [c1]) (Ev.bind (l1In_ev _ _ _) ?_)
    by_cases c2 : 1 ≤ (e.2.1 : Int) ∧ (e.2.1 : Int) ≤ 96
    · refine Ev.pos (by simp [c2]) (Ev.bind (l1In_ev _ _ _) ?_)
      by_cases c3 : 21 ≤ (e.2.2.1 : Int) ∧ (e.2.2.1 : Int) ≤ 108
      · exact Ev.pos (by simp [c3]) (Ev.bind (l1In_ev _ _ _) (Ev.ret.val (by simp only [c1, c2, c3, true_and, and_self, decide_eq_true_eq])))
      · exact Ev.neg (by simpa using c3) (Ev.ret.val (by simp only [c3, false_and, and_false, decide_false]))
    · exact Ev.neg (by simpa using c2) (Ev.ret.val (by simp only [c2, false_and, and_false, decide_false]))
  · exact Ev.neg (by simpa using c1) (Ev.ret.val (by simp only [c1, false_and, decide_false]))
def bef (a b : DT89) : Prop := (a.1 : Int) < b.1 ∨ (a.1 : Int) = b.1 ∧ ((a.2.2.2.1 : Int) < b.2.2.2.1 ∨ (a.2.2.2.1 : Int) = b.2.2.2.1 ∧ (a.2.2.1 : Int) < b.2.2.1)
instance (a b : DT89) : Decidable (bef a b) := by unfold bef; infer_instance
theorem before_ev (a b : DT89) : Ev (fun k => spec_l8Before k a b) (decide (bef a b)) := by
  refine Ev.eq (fun k => spec_l8Before_eq k a b) ?_
  unfold bef
  by_cases c1 : (a.1 : Int) = b.1
  · refine Ev.neg (by omega) ?_
    by_cases c2 : (a.2.2.2.1 : Int) = b.2.2.2.1
    · exact Ev.neg (by omega) (Ev.ret.val (by congr 1; exact propext ⟨fun h => .inr ⟨c1, .inr ⟨c2, h⟩⟩, fun h => by omega⟩))
    · exact Ev.pos (by omega) (Ev.ret.val (by congr 1; exact propext ⟨fun h => .inr ⟨c1, .inl h⟩, fun h => by omega⟩))
  · exact Ev.pos (by omega) (Ev.ret.val (by congr 1; exact propext ⟨fun h => .inl h, fun h => by omega⟩))
def orI (x y : Int) : Int := if x ≠ 0 then x else y
theorem or_ev (x y z : Int) : Ev (fun k => cmp_Or_int k [x, y, z]) (orI x (orI y z)) := by
  refine Ev.eq (fun k => cmp_Or_int_eq k _) (Ev.loop (f := fun k m => cmp_Or_int.l0 k m 0 [x, y, z] ((List.length [x, y, z] : Nat) : Int) 0) ?_)
  have w0 : IntKind.wrap .i64 ((0 : Int) + 1) = 1 := wrapI (by omega) (by omega)
  have w1 : IntKind.wrap .i64 ((1 : Int) + 1) = 2 := wrapI (by omega) (by omega)
  have w2 : IntKind.wrap .i64 ((2 : Int) + 1) = 3 := wrapI (by omega) (by omega)
  have r0 : rd (.int .i64) [x, y, z] 0 = x := rfl
  have r1 : rd (.int .i64) [x, y, z] 1 = y := rfl
  have r2 : rd (.int .i64) [x, y, z] 2 = z := rfl
  have hl : ((List.length [x, y, z] : Nat) : Int) = 3 := rfl
  unfold orI
  refine E2.eq (fun k m => cmp_Or_int.l0_eq k m 0 [x, y, z] _ 0) (E2.pos (by rw [hl]; omega) (E2.pos (by omega) (E2.pos (by rw [hl]; omega) ?_)))
  simp only [r0, w0]
  by_cases c0 : x = 0
  · refine E2.neg (fun h => h c0) ?_
    rw [if_neg (show ¬ x ≠ 0 by omega)]
    refine E2.eq (fun k m => cmp_Or_int.l0_eq k m 0 [x, y, z] _ 1) (E2.pos (by rw [hl]; omega) (E2.pos (by omega) (E2.pos (by rw [hl]; omega) ?_)))
    simp only [r1, w1]
    by_cases c1 : y = 0
    · refine E2.neg (fun h => h c1) ?_
      rw [if_neg (show ¬ y ≠ 0 by omega)]
      refine E2.eq (fun k m => cmp_Or_int.l0_eq k m 0 [x, y, z] _ 2) (E2.pos (by rw [hl]; omega) (E2.pos (by omega) (E2.pos (by rw [hl]; omega) ?_)))
      simp only [r2, w2]
      by_cases c2 : z = 0
      · exact E2.neg (fun h => h c2) (E2.eq (fun k m => cmp_Or_int.l0_eq k m 0 [x, y, z] _ 3) (E2.neg (by rw [hl]; omega) (E2.ret.val c2.symm)))
      · exact E2.pos c2 E2.ret
    · rw [if_pos c1]; exact E2.pos c1 E2.ret
  · rw [if_pos c0]; exact E2.pos c0 E2.ret
def ordI (a b : DT89) : Int := orI (cmpI a.1 b.1) (orI (cmpI a.2.2.2.1 b.2.2.2.1) (cmpI a.2.2.1 b.2.2.1))
theorem order_ev (a b : DT89) : Ev (fun k => impl_eventOrder k a b) (ordI a b) :=
  Ev.eq (fun k => impl_eventOrder_eq k a b) (Ev.bind (cmp_ev _ _) (Ev.bind (cmp_ev _ _) (Ev.bind (cmp_ev _ _) (Ev.bind (or_ev _ _ _) Ev.ret))))
theorem ordI_lt (a b : DT89) : ordI a b < 0 ↔ bef a b := by
  unfold ordI orI cmpI bef
  repeat' split
  all_goals omega
def QS (l : List DT89) (i : Nat) : Prop := okE (rd T89 l (i : Int)) ∧ (0 < i → bef (rd T89 l ((i - 1 : Nat) : Int)) (rd T89 l (i : Int)))
instance (l : List DT89) (i : Nat) : Decidable (QS l i) := by unfold QS; infer_instance
def scoreP (l : List DT89) : Prop := (∀ i, i < l.length → QS l i) ∧ decide (((l.length : Nat) : Int) ≤ 40) = true
instance (l : List DT89) : Decidable (scoreP l) := by unfold scoreP; infer_instance
theorem specScore_ev (l : List DT89) (hl : l.length ≤ 1048576) : Ev (fun k => spec_IsScore k l) (decide (scoreP l)) := by
  refine dec_of ?_
  obtain ⟨r, er, hr⟩ := loop_allE (F := fun i k m => spec_IsScore.l0 k m l i) (n := l.length) (QS l) (decide (((l.length : Nat) : Int) ≤ 40)) (E2.eq (fun k m => spec_IsScore.l0_eq k m l _) (E2.neg (by omega) E2.ret)) (fun i hi hq v e => by
    refine E2.eq (fun k m => spec_IsScore.l0_eq k m l _) (E2.pos (by omega) (E2.pos (by omega) (E2.pos (by omega) (E2.bind (l8Ok_ev _) (E2.neg (by simpa using hq.1) ?_)))))
    by_cases c : 0 < i
    · refine E2.pos (by omega) ?_
      simp only [wrapP c (show i < 9223372036854775807 by omega), wrapS (show i < 9223372036854775807 by omega)]
      exact E2.pos (by omega) (E2.pos (by omega) (E2.pos (by omega) (E2.pos (by omega) (E2.bind (before_ev _ _) (E2.neg (by simpa using hq.2 c) e)))))
    · refine E2.neg (by omega) ?_
      simp only [wrapS (show i < 9223372036854775807 by omega)]
      exact e) (fun i hi hq => by
    refine E2.eq (fun k m => spec_IsScore.l0_eq k m l _) (E2.pos (by omega) (E2.pos (by omega) (E2.pos (by omega) (E2.bind (l8Ok_ev _) ?_))))
    by_cases c0 : okE (rd T89 l (i : Int))
    · refine E2.neg (by simpa using c0) ?_
      have c : 0 < i := by
        rcases Nat.eq_zero_or_pos i with h | h
        · exact absurd ⟨c0, fun h' => by omega⟩ hq
        · exact h
      have c1 : ¬ bef (rd T89 l ((i - 1 : Nat) : Int)) (rd T89 l (i : Int)) := fun h => hq ⟨c0, fun _ => h⟩
      refine E2.pos (by omega) ?_
      simp only [wrapP c (show i < 9223372036854775807 by omega)]
      exact E2.pos (by omega) (E2.pos (by omega) (E2.pos (by omega) (E2.pos (by omega) (E2.bind (before_ev _ _) (E2.pos (by simpa using c1) E2.ret)))))
    · exact E2.pos (by simpa using c0) E2.ret)
  exact ⟨r, Ev.eq (fun k => spec_IsScore_eq k l) (Ev.loop (f := fun k m => spec_IsScore.l0 k m l 0) er), hr⟩
theorem implScore_ev (l : List DT89) (hl : l.length ≤ 1048576) : Ev (fun k => impl_IsScore k l) (decide (scoreP l)) := by
  refine dec_of ?_
  obtain ⟨r, er, hr⟩ := loop_allE (F := fun i k m => impl_IsScore.l0 k m l l ((List.length l : Nat) : Int) i) (n := l.length) (QS l) (decide (((l.length : Nat) : Int) ≤ 40)) (E2.eq (fun k m => impl_IsScore.l0_eq k m l l _ _) (E2.neg (by omega) E2.ret)) (fun i hi hq v e => by
    obtain ⟨⟨h1, h2, h3, h4⟩, h5⟩ := hq
    refine E2.eq (fun k m => impl_IsScore.l0_eq k m l l _ _) (E2.pos (by omega) (E2.pos (by omega) (E2.pos (by omega) (E2.bind (inRange_ev _ _ _) (E2.neg (by simpa using h1) (E2.bind (inRange_ev _ _ _) (E2.neg (by simpa using h2) (E2.bind (inRange_ev _ _ _) (E2.neg (by simpa using h3) (E2.bind (inRange_ev _ _ _) (E2.neg (by simpa using h4) ?_)))))))))))
    by_cases c : 0 < i
    · refine E2.pos (by omega) ?_
      simp only [wrapP c (show i < 9223372036854775807 by omega), wrapS (show i < 9223372036854775807 by omega)]
      have := (ordI_lt _ _).2 (h5 c)
      exact E2.pos (by omega) (E2.pos (by omega) (E2.bind (order_ev _ _) (E2.neg (by omega) e)))
    · refine E2.neg (by omega) ?_
      simp only [wrapS (show i < 9223372036854775807 by omega)]
      exact e) (fun i hi hq => by
    refine E2.eq (fun k m => impl_IsScore.l0_eq k m l l _ _) (E2.pos (by omega) (E2.pos (by omega) (E2.pos (by omega) (E2.bind (inRange_ev _ _ _) ?_))))
    by_cases h1 : 0 ≤ ((rd T89 l (i : Int)).1 : Int) ∧ ((rd T89 l (i : Int)).1 : Int) ≤ 2000
    · refine E2.neg (by simpa using h1) (E2.bind (inRange_ev _ _ _) ?_)
      by_cases h2 : 1 ≤ ((rd T89 l (i : Int)).2.1 : Int) ∧ ((rd T89 l (i : Int)).2.1 : Int) ≤ 96
      · refine E2.neg (by simpa using h2) (E2.bind (inRange_ev _ _ _) ?_)
        by_cases h3 : 21 ≤ ((rd T89 l (i : Int)).2.2.1 : Int) ∧ ((rd T89 l (i : Int)).2.2.1 : Int) ≤ 108
        · refine E2.neg (by simpa using h3) (E2.bind (inRange_ev _ _ _) ?_)
          by_cases h4 : 1 ≤ ((rd T89 l (i : Int)).2.2.2.1 : Int) ∧ ((rd T89 l (i : Int)).2.2.2.1 : Int) ≤ 4
          · refine E2.neg (by simpa using h4) ?_
            have c : 0 < i := by
              rcases Nat.eq_zero_or_pos i with h | h
              · exact absurd ⟨⟨h1, h2, h3, h4⟩, fun h' => by omega⟩ hq
              · exact h
            have c1 : ¬ bef (rd T89 l ((i - 1 : Nat) : Int)) (rd T89 l (i : Int)) := fun h => hq ⟨⟨h1, h2, h3, h4⟩, fun _ => h⟩
            refine E2.pos (by omega) ?_
            simp only [wrapP c (show i < 9223372036854775807 by omega)]
            have := mt (ordI_lt _ _).1 c1
            exact E2.pos (by omega) (E2.pos (by omega) (E2.bind (order_ev _ _) (E2.pos (by omega) E2.ret)))
          · exact E2.pos (by simpa using h4) E2.ret
        · exact E2.pos (by simpa using h3) E2.ret
      · exact E2.pos (by simpa using h2) E2.ret
    · exact E2.pos (by simpa using h1) E2.ret)
  exact ⟨r, Ev.eq (fun k => impl_IsScore_eq k l) (Ev.loop (f := fun k m => impl_IsScore.l0 k m l l ((List.length l : Nat) : Int) 0) er), hr⟩
def okT (t : DT23) : Prop := (20 ≤ (t.2.1 : Int) ∧ (t.2.1 : Int) ≤ 300) ∧ (0 ≤ (t.1 : Int) ∧ (t.1 : Int) ≤ 2000)
instance (e : DT23) : Decidable (okT e) := by unfold okT; infer_instance
def QT (l : List DT23) (i : Nat) : Prop := okT (rd T23 l (i : Int)) ∧ (i = 0 → Eq (α := Int) (rd T23 l (i : Int)).1 0) ∧ (0 < i → LT.lt (α := Int) (rd T23 l ((i - 1 : Nat) : Int)).1 (rd T23 l (i : Int)).1)
instance (l : List DT23) (i : Nat) : Decidable (QT l i) := by unfold QT; infer_instance
def tempoP (l : List DT23) : Prop := (∀ i, i < l.length → QT l i) ∧ decide (1 ≤ ((l.length : Nat) : Int) ∧ ((l.length : Nat) : Int) ≤ 8) = true
instance (l : List DT23) : Decidable (tempoP l) := by unfold tempoP; infer_instance
theorem specTempo_ev (l : List DT23) (hl : l.length ≤ 1048576) : Ev (fun k => spec_IsTempo k l) (decide (tempoP l)) := by
  refine dec_of ?_
  obtain ⟨r, er, hr⟩ := loop_allE (F := fun i k m => spec_IsTempo.l0 k m l i) (n := l.length) (QT l) (decide (1 ≤ ((l.length : Nat) : Int) ∧ ((l.length : Nat) : Int) ≤ 8)) (E2.eq (fun k m => spec_IsTempo.l0_eq k m l _) (E2.neg (by omega) (E2.bind (l1In_ev _ _ _) (E2.ret.val (by simp))))) (fun i hi hq v e => by
    obtain ⟨⟨h1, h2⟩, h3, h4⟩ := hq
    refine E2.eq (fun k m => spec_IsTempo.l0_eq k m l _) (E2.pos (by omega) (E2.pos (by omega) (E2.pos (by omega) (E2.bind (l1In_ev _ _ _) (E2.neg (by simpa using h1) (E2.pos (by omega) (E2.pos (by omega) (E2.bind (l1In_ev _ _ _) (E2.neg (by simpa using h2) ?_)))))))))
    simp only [wrapS (show i < 9223372036854775807 by omega)]
    by_cases c : 0 < i
    · refine E2.neg (by omega) (E2.pos (by omega) ?_)
      simp only [wrapP c (show i < 9223372036854775807 by omega)]
      have := h4 c
      exact E2.pos (by omega) (E2.pos (by omega) (E2.pos (by omega) (E2.pos (by omega) (E2.neg (by omega) e))))
    · refine E2.pos (by omega) (E2.pos (by omega) (E2.pos (by omega) (E2.neg (fun h => h (h3 (by omega))) (E2.neg (by omega) e))))) (fun i hi hq => by
    refine E2.eq (fun k m => spec_IsTempo.l0_eq k m l _) (E2.pos (by omega) (E2.pos (by omega) (E2.pos (by omega) (E2.bind (l1In_ev _ _ _) ?_))))
    by_cases h1 : LE.le (α := Int) 20 (rd T23 l (i : Int)).2.1 ∧ LE.le (α := Int) (rd T23 l (i : Int)).2.1 300
    · refine E2.neg (by simpa using h1) (E2.pos (by omega) (E2.pos (by omega) (E2.bind (l1In_ev _ _ _) ?_)))
      by_cases h2 : LE.le (α := Int) 0 (rd T23 l (i : Int)).1 ∧ LE.le (α := Int) (rd T23 l (i : Int)).1 2000
      · refine E2.neg (by simpa using h2) ?_
        by_cases c : 0 < i
        · refine E2.neg (by omega) (E2.pos (by omega) ?_)
          simp only [wrapP c (show i < 9223372036854775807 by omega)]
          have h4 : ¬ LT.lt (α := Int) (rd T23 l ((i - 1 : Nat) : Int)).1 (rd T23 l (i : Int)).1 := fun h => hq ⟨⟨h1, h2⟩, fun h' => by omega, fun _ => h⟩
          exact E2.pos (by omega) (E2.pos (by omega) (E2.pos (by omega) (E2.pos (by omega) (E2.pos (by omega) E2.ret))))
        · have h3 : ¬ Eq (α := Int) (rd T23 l (i : Int)).1 0 := fun h => hq ⟨⟨h1, h2⟩, fun _ => h, fun h' => absurd h' c⟩
          exact E2.pos (by omega) (E2.pos (by omega) (E2.pos (by omega) (E2.pos h3 E2.ret)))
      · exact E2.pos (by simpa using h2) E2.ret
    · exact E2.pos (by simpa using h1) E2.ret)
  exact ⟨r, Ev.eq (fun k => spec_IsTempo_eq k l) (Ev.loop (f := fun k m => spec_IsTempo.l0 k m l 0) er), hr⟩
/-- The program's own test of an element: it leaves out what follows from the one before. -/
def QT' (l : List DT23) (i : Nat) : Prop := (i = 0 → Eq (α := Int) (rd T23 l (i : Int)).1 0) ∧ (0 < i → LT.lt (α := Int) (rd T23 l ((i - 1 : Nat) : Int)).1 (rd T23 l (i : Int)).1) ∧ LE.le (α := Int) (rd T23 l (i : Int)).1 2000 ∧ (LE.le (α := Int) 20 (rd T23 l (i : Int)).2.1 ∧ LE.le (α := Int) (rd T23 l (i : Int)).2.1 300)
theorem QT_iff (l : List DT23) : (∀ i, i < l.length → QT' l i) ↔ (∀ i, i < l.length → QT l i) := by
  constructor
  · intro h
    have hp : ∀ i, i < l.length → LE.le (α := Int) 0 (rd T23 l (i : Int)).1 := by
      intro i
      induction i with
      | zero => intro hi; have := (h 0 hi).1 rfl; omega
      | succ i ih =>
        intro hi
        have h1 := ih (by omega)
        have h2 := (h (i + 1) hi).2.1 (by omega)
        simp only [Nat.add_sub_cancel] at h2
        omega
    intro i hi
    obtain ⟨h1, h2, h3, h4⟩ := h i hi
    exact ⟨⟨h4, hp i hi, h3⟩, h1, h2⟩
  · intro h i hi
    obtain ⟨⟨h1, h2, h3⟩, h4, h5⟩ := h i hi
    exact ⟨h4, h5, h3, h1⟩
theorem implTempo_ev (l : List DT23) (hl : l.length ≤ 1048576) : Ev (fun k => impl_IsTempo k l) (decide (tempoP l)) := by
  refine dec_of ?_
  obtain ⟨r, er, hr⟩ := loop_allE (F := fun i k m => impl_IsTempo.l0 k m l l ((List.length l : Nat) : Int) i) (n := l.length) (QT' l) (decide (1 ≤ ((l.length : Nat) : Int) ∧ ((l.length : Nat) : Int) ≤ 8)) (E2.eq (fun k m => impl_IsTempo.l0_eq k m l l _ _) (E2.neg (by omega) (E2.bind (inRange_ev _ _ _) (E2.ret.val (by simp))))) (fun i hi hq v e => by
    obtain ⟨h3, h4, h5, h6⟩ := hq
    refine E2.eq (fun k m => impl_IsTempo.l0_eq k m l l _ _) (E2.pos (by omega) (E2.pos (by omega) (E2.pos (by omega) ?_)))
    simp only [wrapS (show i < 9223372036854775807 by omega)]
    by_cases c : 0 < i
    · refine E2.neg (by omega) (E2.pos (by omega) ?_)
      simp only [wrapP c (show i < 9223372036854775807 by omega)]
      have := h4 c
      exact E2.pos (by omega) (E2.pos (by omega) (E2.neg (by omega) (E2.neg (by omega) (E2.bind (inRange_ev _ _ _) (E2.neg (by simpa using h6) e)))))
    · exact E2.pos (by omega) (E2.neg (fun h => h (h3 (by omega))) (E2.neg (by omega) (E2.neg (by omega) (E2.bind (inRange_ev _ _ _) (E2.neg (by simpa using h6) e)))))) (fun i hi hq => by
    refine E2.eq (fun k m => impl_IsTempo.l0_eq k m l l _ _) (E2.pos (by omega) (E2.pos (by omega) (E2.pos (by omega) ?_)))
    by_cases c : 0 < i
    · refine E2.neg (by omega) (E2.pos (by omega) ?_)
      simp only [wrapP c (show i < 9223372036854775807 by omega)]
      refine E2.pos (by omega) (E2.pos (by omega) ?_)
      by_cases h4 : LT.lt (α := Int) (rd T23 l ((i - 1 : Nat) : Int)).1 (rd T23 l (i : Int)).1
      · refine E2.neg (by omega) ?_
        by_cases h5 : LE.le (α := Int) (rd T23 l (i : Int)).1 2000
        · exact E2.neg (by omega) (E2.bind (inRange_ev _ _ _) (E2.pos (by simp only [decide_eq_true_eq]; exact fun h6 => hq ⟨fun h => by omega, fun _ => h4, h5, h6⟩) E2.ret))
        · exact E2.pos (by omega) E2.ret
      · exact E2.pos (by omega) E2.ret
    · refine E2.pos (by omega) ?_
      by_cases h3 : Eq (α := Int) (rd T23 l (i : Int)).1 0
      · refine E2.neg (fun h => h h3) (E2.neg (by omega) (E2.neg (by omega) (E2.bind (inRange_ev _ _ _) (E2.pos (by simp only [decide_eq_true_eq]; exact fun h6 => hq ⟨fun _ => h3, fun h => absurd h c, by omega, h6⟩) E2.ret))))
      · exact E2.pos h3 E2.ret)
  exact ⟨r, Ev.eq (fun k => impl_IsTempo_eq k l) (Ev.loop (f := fun k m => impl_IsTempo.l0 k m l l ((List.length l : Nat) : Int) 0) er), hr.trans (and_congr (QT_iff l) Iff.rfl)⟩
theorem endOf_both (l : List DT89) (hl : l.length ≤ 1048576) : ∃ v, Ev (fun k => spec_EndOf k l) v ∧ Ev (fun k => impl_EndOf k l) v := by
  by_cases hp : scoreP l
  · have key : ∀ d (i : Nat) (n : Int), i + d = l.length → ∃ v, E2 (fun k m => spec_EndOf.l0 k m l n (i : Int)) v ∧ E2 (fun k m => impl_EndOf.l0 k m n l ((List.length l : Nat) : Int) (i : Int)) v := by
      intro d
      induction d with
      | zero =>
        intro i n hi
        exact ⟨n, E2.eq (fun k m => spec_EndOf.l0_eq k m l n _) (E2.neg (by omega) E2.ret), E2.eq (fun k m => impl_EndOf.l0_eq k m n l _ _) (E2.neg (by omega) E2.ret)⟩
      | succ d ih =>
        intro i n hi
        obtain ⟨v, e1, e2⟩ := ih (i + 1) (max n (IntKind.wrap .i64 ((rd T89 l (i : Int)).1 + (rd T89 l (i : Int)).2.1))) (by omega)
        refine ⟨v, E2.eq (fun k m => spec_EndOf.l0_eq k m l n _) (E2.pos (by omega) (E2.bind (specScore_ev l hl) (E2.pos (by simpa using hp) (E2.pos (by omega) (E2.pos (by omega) (E2.pos (by omega) (E2.pos (by omega) (E2.bind (specMax_ev _ _) ?_)))))))), E2.eq (fun k m => impl_EndOf.l0_eq k m n l _ _) (E2.pos (by omega) (E2.pos (by omega) (E2.pos (by omega) ?_)))⟩
        · simp only [wrapS (show i < 9223372036854775807 by omega)]; exact e1
        · simp only [wrapS (show i < 9223372036854775807 by omega)]; exact e2
    obtain ⟨v, e1, e2⟩ := key l.length 0 0 (by omega)
    exact ⟨v, Ev.eq (fun k => spec_EndOf_eq k l) (Ev.loop (f := fun k m => spec_EndOf.l0 k m l 0 0) e1), Ev.eq (fun k => impl_EndOf_eq k l) (Ev.bind (implScore_ev l hl) (Ev.pos (by simpa using hp) (Ev.loop (f := fun k m => impl_EndOf.l0 k m 0 l ((List.length l : Nat) : Int) 0) e2)))⟩
  · refine ⟨0, Ev.eq (fun k => spec_EndOf_eq k l) (Ev.loop (f := fun k m => spec_EndOf.l0 k m l 0 0) ?_), Ev.eq (fun k => impl_EndOf_eq k l) (Ev.bind (implScore_ev l hl) (Ev.neg (by simpa using hp) Ev.ret))⟩
    refine E2.eq (fun k m => spec_EndOf.l0_eq k m l 0 0) ?_
    by_cases c : (0 : Int) < ((l.length : Nat) : Int)
    · exact E2.pos c (E2.bind (specScore_ev l hl) (E2.neg (by simpa using hp) E2.ret))
    · exact E2.neg c E2.ret
theorem isR_00 : isR 0 0 = false := by unfold isR; simp
theorem mk_no {n d : Int} (h : (mk n d).2.1 = false) : mk n d = noR := by
  unfold mk at h ⊢
  split
  · rename_i c; rw [if_pos c] at h; cases h
  · rfl
theorem add_no {a b : DT23} (h : (addR a b).2.1 = false) : addR a b = noR := by
  unfold addR at h ⊢
  split
  · rename_i c; rw [if_pos c] at h; exact mk_no h
  · rfl
theorem add_noR (a : DT23) : addR a noR.1 = noR := by
  unfold addR noR
  rw [if_neg (by rw [isR_00]; simp)]
theorem timeOf_both (l : List DT23) (tick : Int) (hl : l.length ≤ 1048576) : ∃ v : Res, Ev (fun k => spec_TimeOf k l tick) v ∧ Ev (fun k => impl_TimeOf k l tick) v ∧ (v.2.1 = false → v = noR) := by
  by_cases hp : tempoP l
  · by_cases ht : 0 ≤ tick ∧ tick ≤ 2000
    · have key : ∀ d (i : Nat) (a b x y : Int), i + d = l.length → ∃ v : Res, E2 (fun k m => spec_TimeOf.l0 k m l tick (i : Int) a b x y) v ∧ E2 (fun k m => impl_TimeOf.l0 k m l tick l ((List.length l : Nat) : Int) (i : Int) a b x y) v ∧ (v.2.1 = false → v = noR) := by
        intro d
        induction d with
        | zero =>
          intro i a b x y hi
          exact ⟨((x, (y, ())), (true, ())), E2.eq (fun k m => spec_TimeOf.l0_eq k m l tick _ a b x y) (E2.neg (by omega) E2.ret), E2.eq (fun k m => impl_TimeOf.l0_eq k m l tick l _ _ a b x y) (E2.neg (by omega) E2.ret), fun h => by cases h⟩
        | succ d ih =>
          intro i a b x y hi
          obtain ⟨⟨⟨q1, q2⟩, q3, q4⟩, q5, q6⟩ := hp.1 i (by omega)
          by_cases hend : LT.lt (α := Int) (rd T23 l (i : Int)).1 tick
          · have fin : ∀ (en : Int), LT.lt (α := Int) (rd T23 l (i : Int)).1 en → en ≤ 2000 →
                ∃ p q : Res, (∀ {g : Nat → Nat → Res → Option Res} {u : Res}, E2 (fun k m => g k m p) u → E2 (fun k m => (spec_MakeRatio k (IntKind.wrap .i64 ((IntKind.wrap .i64 (en - (rd T23 l (i : Int)).1)) * 5000)) (rd T23 l (i : Int)).2.1).bind fun r => g k m r) u) ∧
                (∀ {g : Nat → Nat → Res → Option Res} {u : Res}, E2 (fun k m => g k m p) u → E2 (fun k m => (impl_MakeRatio k (IntKind.wrap .i64 ((IntKind.wrap .i64 (en - (rd T23 l (i : Int)).1)) * 5000)) (rd T23 l (i : Int)).2.1).bind fun r => g k m r) u) ∧ q = addR (x, (y, ())) p.1 ∧ (p.2.1 = false → q = noR) := by
              intro en h1 h2
              have w1 : IntKind.wrap .i64 (en - (rd T23 l (i : Int)).1) = en - (rd T23 l (i : Int)).1 := wrapI (by omega) (by omega)
              have w2 : IntKind.wrap .i64 ((en - (rd T23 l (i : Int)).1) * 5000) = (en - (rd T23 l (i : Int)).1) * 5000 := wrapI (by omega) (by omega)
              rw [w1, w2]
              refine ⟨mk ((en - (rd T23 l (i : Int)).1) * 5000) (rd T23 l (i : Int)).2.1, _, fun e => E2.bind (specMake_ev _ _ (by omega) (by omega) (by omega) (by omega)) e, fun e => E2.bind (implMake_ev _ _ (by omega) (by omega) (by omega) (by omega)) e, rfl, fun h => ?_⟩
              rw [mk_no h, add_noR]
            have tail : ∀ (p q : Res), q = addR (x, (y, ())) p.1 → (p.2.1 = false → q = noR) → ∃ v : Res, (v.2.1 = false → v = noR) ∧ E2 (fun k m => (spec_AddRatio k (x, (y, ())) p.1).bind fun r5 =>
                  if ¬ (r5.2.1 = true) then some ((0, (0, ())), (false, ())) else spec_TimeOf.l0 k m l tick ((i + 1 : Nat) : Int) a b r5.1.1 r5.1.2.1) v ∧
                E2 (fun k m => (impl_AddRatio k (x, (y, ())) p.1).bind fun r4 => if ¬ (p.2.1 = true) then some ((0, (0, ())), (false, ())) else if ¬ (r4.2.1 = true) then some ((0, (0, ())), (false, ())) else impl_TimeOf.l0 k m l tick l ((List.length l : Nat) : Int) ((i + 1 : Nat) : Int) a b r4.1.1 r4.1.2.1) v := by
              intro p q hq hpq
              by_cases hok : q.2.1 = true
              · have hp1 : p.2.1 = true := by
                  cases h : p.2.1 with
                  | true => rfl
                  | false => rw [hpq h] at hok; cases hok
                obtain ⟨v, e1, e2, e3⟩ := ih (i + 1) a b q.1.1 q.1.2.1 (by omega)
                refine ⟨v, e3, E2.bind (specAdd_ev _ _) ?_, E2.bind (implAdd_ev _ _) ?_⟩
                · rw [← hq]; exact E2.neg (by simpa using hok) e1
                · rw [← hq]; exact E2.neg (by simpa using hp1) (E2.neg (by simpa using hok) e2)
              · have hno : q = noR := by rw [hq]; rw [hq] at hok; exact add_no (by simpa using hok)
                refine ⟨noR, fun _ => rfl, E2.bind (specAdd_ev _ _) ?_, E2.bind (implAdd_ev _ _) ?_⟩
                · rw [← hq]; exact E2.pos hok E2.ret
                · rw [← hq]
                  by_cases hp1 : p.2.1 = true
                  · exact E2.neg (by simpa using hp1) (E2.pos hok E2.ret)
                  · exact E2.pos hp1 E2.ret
            by_cases hn : i + 1 < l.length
            · obtain ⟨⟨⟨s1, s2⟩, s3, s4⟩, s5, s6⟩ := hp.1 (i + 1) hn
              have s6 := s6 (by omega)
              rw [Nat.add_sub_cancel] at s6
              obtain ⟨p, q, f1, f2, f3, f4⟩ := fin (min tick (rd T23 l ((i + 1 : Nat) : Int)).1) (by omega) (by omega)
              obtain ⟨v, t0, t1, t2⟩ := tail p q f3 f4
              refine ⟨v, E2.eq (fun k m => spec_TimeOf.l0_eq k m l tick _ a b x y) (E2.pos (by omega) (E2.pos (by omega) (E2.pos (by omega) (E2.pos hend ?_)))), E2.eq (fun k m => impl_TimeOf.l0_eq k m l tick l _ _ a b x y) (E2.pos (by omega) (E2.pos (by omega) (E2.pos (by omega) ?_))), t0⟩
              · simp only [wrapS (show i < 9223372036854775807 by omega)]
                exact E2.pos (by omega) (E2.pos (by omega) (E2.pos (by omega) (E2.bind (specMin_ev _ _) (E2.pos (by omega) (E2.pos (by omega) (E2.pos (by omega) (E2.pos (by omega) (f1 t1))))))))
              · simp only [wrapS (show i < 9223372036854775807 by omega)]
                exact E2.pos (by omega) (E2.pos (by omega) (E2.pos (by omega) (E2.neg (by omega) (f2 t2))))
            · obtain ⟨p, q, f1, f2, f3, f4⟩ := fin tick hend ht.2
              obtain ⟨v, t0, t1, t2⟩ := tail p q f3 f4
              refine ⟨v, E2.eq (fun k m => spec_TimeOf.l0_eq k m l tick _ a b x y) (E2.pos (by omega) (E2.pos (by omega) (E2.pos (by omega) (E2.pos hend ?_)))), E2.eq (fun k m => impl_TimeOf.l0_eq k m l tick l _ _ a b x y) (E2.pos (by omega) (E2.pos (by omega) (E2.pos (by omega) ?_))), t0⟩
              · simp only [wrapS (show i < 9223372036854775807 by omega)]
                exact E2.neg (by omega) (E2.pos (by omega) (E2.pos (by omega) (E2.pos (by omega) (E2.pos (by omega) (f1 t1)))))
              · simp only [wrapS (show i < 9223372036854775807 by omega)]
                exact E2.neg (by omega) (E2.neg (by omega) (f2 t2))
          · refine ⟨((x, (y, ())), (true, ())), E2.eq (fun k m => spec_TimeOf.l0_eq k m l tick _ a b x y) (E2.pos (by omega) (E2.pos (by omega) (E2.pos (by omega) (E2.neg hend E2.ret)))), E2.eq (fun k m => impl_TimeOf.l0_eq k m l tick l _ _ a b x y) (E2.pos (by omega) (E2.pos (by omega) (E2.pos (by omega) ?_))), fun h => by cases h⟩
            simp only [wrapS (show i < 9223372036854775807 by omega)]
            by_cases hn : i + 1 < l.length
            · exact E2.pos (by omega) (E2.pos (by omega) (E2.pos (by omega) (E2.pos (by omega) E2.ret)))
            · exact E2.neg (by omega) (E2.pos (by omega) E2.ret)
      obtain ⟨v, e1, e2, e3⟩ := key l.length 0 0 0 0 1 (by omega)
      exact ⟨v, Ev.eq (fun k => spec_TimeOf_eq k l tick) (Ev.bind (specTempo_ev l hl) (Ev.neg (by simpa using hp) (Ev.bind (l1In_ev _ _ _) (Ev.neg (by simpa using ht) (Ev.loop (f := fun k m => spec_TimeOf.l0 k m l tick 0 0 0 0 1) e1))))),
        Ev.eq (fun k => impl_TimeOf_eq k l tick) (Ev.bind (implTempo_ev l hl) (Ev.neg (by simpa using hp) (Ev.bind (inRange_ev _ _ _) (Ev.neg (by simpa using ht) (Ev.loop (f := fun k m => impl_TimeOf.l0 k m l tick l ((List.length l : Nat) : Int) 0 0 0 0 1) e2))))), e3⟩
    · exact ⟨noR, Ev.eq (fun k => spec_TimeOf_eq k l tick) (Ev.bind (specTempo_ev l hl) (Ev.neg (by simpa using hp) (Ev.bind (l1In_ev _ _ _) (Ev.pos (by simpa using ht) Ev.ret)))),
        Ev.eq (fun k => impl_TimeOf_eq k l tick) (Ev.bind (implTempo_ev l hl) (Ev.neg (by simpa using hp) (Ev.bind (inRange_ev _ _ _) (Ev.pos (by simpa using ht) Ev.ret)))), fun _ => rfl⟩
  · exact ⟨noR, Ev.eq (fun k => spec_TimeOf_eq k l tick) (Ev.bind (specTempo_ev l hl) (Ev.pos (by simpa using hp) Ev.ret)),
      Ev.eq (fun k => impl_TimeOf_eq k l tick) (Ev.bind (implTempo_ev l hl) (Ev.pos (by simpa using hp) Ev.ret)), fun _ => rfl⟩
theorem longMs_both (o : DT30) (h1 : o.1.length ≤ 1048576) (h2 : o.2.2.1.length ≤ 1048576) : ∃ v, Ev (fun k => spec_LongMs k o) v ∧ Ev (fun k => impl_LongMs k o) v := by
  obtain ⟨n, e1, e2⟩ := endOf_both o.1 h1
  obtain ⟨v, e3, e4, e5⟩ := timeOf_both o.2.2.1 n h2
  refine ⟨(floorR v.1, (v.2.1, ())), Ev.eq (fun k => spec_LongMs_eq k o) (Ev.bind e1 (Ev.bind e3 (Ev.bind (specFloor_ev _) (Ev.ret.val (by simp))))), Ev.eq (fun k => impl_LongMs_eq k o) (Ev.bind e2 (Ev.bind e4 ?_))⟩
  cases hv : v.2.1 with
  | true => exact Ev.neg (by simp) (Ev.bind (implFloor_ev _) Ev.ret)
  | false =>
    rw [e5 hv]
    refine Ev.pos (by simp) (Ev.ret.val ?_)
    unfold floorR noR
    simp [isR_00]
theorem pure (a0 : DT30) (w0 : Wd T30 a0) : ∃ k, laws_FnExactLongMs k a0 = some true := by
  refine Ev.at (f := fun k => laws_FnExactLongMs k a0) ?_
  obtain ⟨r0, e0, h0⟩ := laws_szOrchestra_ok a0 w0 1048576 (by omega) (by omega)
  by_cases c0 : r0 < 0
  · exact Ev.eq (fun k => laws_FnExactLongMs_eq k a0) (Ev.bind e0 (Ev.pos c0 Ev.ret))
  replace h0 := h0.resolve_left c0
  have b0 := h0.2.2
  obtain ⟨v, e1, e2⟩ := longMs_both a0 b0.1.1 b0.2.2.1.1
  exact Ev.eq (fun k => laws_FnExactLongMs_eq k a0) (Ev.bind e0 (Ev.neg c0 (Ev.bind (laws_toOrchestra_id _ b0) (Ev.bind e1 (Ev.bind (laws_toOrchestra_id _ b0) (Ev.bind e2 (Ev.neg (by simp) (Ev.neg (by simp) (Ev.bind (laws_toOrchestra_id _ b0) (Ev.bind (laws_eqOrchestra_self _ b0) (Ev.neg (by simp) Ev.ret)))))))))))
end Go.QFnExactLongMs
